/- plain laws of the claim's functions -/
import Derived.Test.YtohaijhiclmkkaaGreatAmStep
import Derived.Laws.BitsLemmas
import Derived.Laws.Strings
import Derived.Test.YtohaijhiclmkkaaGreatESTF0
set_option linter.unnecessarySimpa false
set_option linter.unusedSimpArgs false
set_option linter.unusedVariables false
set_option linter.unusedSectionVars false
section
namespace Go
theorem yX{α β:Type}(a:α)(f:α→Option β):(some a).bind f=f a:=rfl
theorem yZ{α:Type}{a b:α}:cond true a b=a:=rfl
theorem y_{α:Type}{a b:α}:cond false a b=b:=rfl
theorem zi{p:Prop}[inst:Decidable p]:p→decide p=true:=decide_eq_true
theorem zl{p:Prop}[inst:Decidable p]:¬p→decide p=false:=decide_eq_false
theorem zq:(!true)=false:=rfl
theorem zO:(!false)=true:=rfl
theorem Aa(a b:Bool):((a&&b)=true)=(a=true∧b=true):=Bool.and_eq_true a b
theorem Ac(b:Bool):(true||b)=true:=rfl
theorem AB(b:Bool):(false||b)=b:=Bool.false_or b
theorem CX(b:Bool):(true&&b)=b:=Bool.true_and b
theorem Df(b:Bool):(false&&b)=false:=rfl
theorem AX(b:Bool):(b||b)=b:=Bool.or_self b
theorem Ab{α:Type}{as bs:List α}:(as++bs).length=as.length+bs.length:=List.length_append
theorem AJ{α:Type}{a:α}:[a].length=1:=rfl
theorem A9{α:Type}{a:α}{as:List α}:(a::as).length=as.length+1:=rfl
theorem DD{α:Type}(as:List α):as++[]=as:=List.append_nil as
theorem CE{α:Type}(as bs cs:List α):as++bs++cs=as++(bs++cs):=List.append_assoc as bs cs
theorem DF{α:Type}{l:List α}{i:Nat}(h:i<l.length):l[i]?=some l[i]:=List.getElem?_eq_getElem h
theorem A_{α:Type}(a b:α):(some a=some b)=(a=b):=Option.some.injEq a b
theorem Ae{p:Prop}[inst:Decidable p]:(decide p=true)=p:=decide_eq_true_eq
end Go
namespace Go.Fn
open Go Go.Am
def HZ.c4(k:Nat)(t4:Int)(t5:Bool)(yV:yY):Option Bool:=
 cond t5
  ((cond (yV.2.2.1==0) (some (iY yV.2.2.2.1 zk)) (some false)).bind fun b1=>
   (cond b1 (some (yV.2.2.2.2.1==0)) (some false)).bind fun b2=>some b2)
  (cond (t4==5)
   ((HV k yV.2.2.1).bind fun r3=>
    (cond r3 (some (iY yV.2.2.2.1 zk)) (some false)).bind fun b4=>
    (cond b4 (some (yV.2.2.2.2.1==0)) (some false)).bind fun b5=>some b5)
   (cond (t4==6)
    ((cond (iY yV.2.2.2.1 zk) (some (yV.2.2.2.2.1==0)) (some false)).bind fun b6=>some b6)
    (cond (t4==8)
     ((cond (yV.2.2.1==0) (some (decide ((yV.2.2.2.1.size:Int)≤300))) (some false)).bind fun b7=>
      (cond b7 (some (yV.2.2.2.2.1==0)) (some false)).bind fun b8=>some b8)
     (cond (t4==9)
      ((cond (iY yV.2.2.2.1 zk) (some (decide (yV.2.2.2.2.1≥0))) (some false)).bind fun b9=>
       (cond b9
        ((cond (yV.2.2.2.2.1==0) (some (yV.2.2.1==0)) (some false)).bind fun b10=>
         (cond b10
          (some true)
          ((cond (decide (yV.2.2.2.2.1>0)) ((JG k yV.2.2.1).bind fun AL=>some (AL)) (some false)).bind fun b12=>
           some (b12))).bind fun b13=>
         some (b13))
        (some false)).bind fun b14=>
       some b14)
      (cond (t4==12)
       ((cond (yV.2.2.1==0) (some (iY yV.2.2.2.1 zk)) (some false)).bind fun b15=>
        (cond b15 (some (decide (yV.2.2.2.2.1≥0))) (some false)).bind fun b16=>some b16)
       (some false))))))
def HZ(k:Nat)(t0:yY):Option Bool:=
 cond (t0.1==1) (HZ.c4 k t0.1 (t0.1==1) t0) (HZ.c4 k t0.1 (t0.1==2) t0)
def Bh.l7(k:Nat)(JQ:(List yY)→Int→Int→Option Int):Nat→(List yY)→Int→Int→Int→Int→yY→Option Int
 |0,_,_,_,_,_,_=>none
 |n+1,t0,t2,t8,t9,t10,yV=>
  cond (decide (t10<yV.2.2.2.2.1))
   (cond (decide (t8≥(List.length t0:Int)))
    (some (-1))
    ((gU t0 t8).bind fun y1=>
     (cond (yV.1==9) ((cond (y1.1 !=yV.2.2.1) (some true) (some (y1.2.1 !=0))).bind fun b2=>some (b2)) (some false)).bind fun b3=>
     (cond b3
      (some true)
      ((cond (yV.1==12)
       ((cond (decide (y1.2.1≤t9)) (some true) (some (decide (y1.2.1>1000)))).bind fun b4=>some (b4))
       (some false)).bind fun b5=>
       some (b5))).bind fun b6=>
     cond b6
      (some (-1))
      ((JQ t0 t8 (IntKind.wrap .i64 (t2+1))).bind fun r7=>
       cond (decide (r7<0)) (some (-1)) ((Bh.l7 k JQ n) t0 t2 r7 y1.2.1 (IntKind.wrap .i64 (t10+1)) yV))))
   (some t8)
def Bh.b(k:Nat)(JQ:(List yY)→Int→Int→Option Int)(t0:List yY)(t1:Int)(t2:Int):Option Int:=
 (cond (decide (t1≥(List.length t0:Int))) (some true) (some (decide (t2>12)))).bind fun b8=>
 (cond b8 (some true) ((gU t0 t1).bind fun y9=>(HZ k y9).bind fun Be=>some (!Be))).bind fun b11=>
 cond b11 (some (-1)) ((gU t0 t1).bind fun Cj=>Bh.l7 k JQ k t0 t2 (IntKind.wrap .i64 (t1+1)) 0 0 Cj)
def Bh.rec(k:Nat):Nat→((List yY)→Int→Int→Option Int)
 |0=>fun _ _ _=>none
 |d+1=>Bh.b k ((Bh.rec k d))
def Bh.d(k d:Nat):(List yY)→Int→Int→Option Int:=(Bh.rec k d)
def Bh(k:Nat):(List yY)→Int→Int→Option Int:=Bh.d k k
def JB(k:Nat)(t0:List yY):Option Bool:=
 (AP k (List.length t0:Int) 1 1500).bind fun r1=>
 (cond (!r1) (some true) ((gU t0 0).bind fun y2=>some (y2.1 !=12))).bind fun b3=>
 (cond b3 (some true) ((gU t0 0).bind fun y4=>some (y4.2.1 !=0))).bind fun b5=>
 cond b5 (some false) ((Bh k t0 0 1).bind fun r6=>some (r6==(List.length t0:Int)))
end Go.Fn
namespace Go.zJ
open Go.Am
theorem zh{x:Int}(h0: -9223372036854775808≤x)(h1:x<9223372036854775808):IntKind.wrap .i64 x=x:=by
 rw[IntKind.wrap_i64];omega
theorem Oo(x:Int): -9223372036854775808≤IntKind.wrap .i64 x:=by rw[IntKind.wrap_i64];omega
theorem Om(x:Int):IntKind.wrap .i64 x<9223372036854775808:=by rw[IntKind.wrap_i64];omega
theorem KY(x:Int):IntKind.wrap .u64 x=x%18446744073709551616:=by simp[IntKind.wrap,IntKind.bits,IntKind.signed]
theorem OC(x:Int):IntKind.wrap .u8 x=x%256:=IntKind.wrap_u8 x
theorem w8{x:Int}(h0:0≤x)(h1:x<256):IntKind.wrap .u8 x=x:=by rw[OC];omega
theorem wraps_u64(n:Int)(h₀:0≤n)(h₁:n<2^64):IntKind.u64.wrap n=n:=by rw[KY];omega
def zM(x:Int):Prop:= -9223372036854775808≤x∧x<9223372036854775808
theorem JS(x:Int)(i:Nat)(hi:i≤62):bits .and .i64 x (2^i-1)=x%2^i:=by
 have hpos:0<2^i:=Nat.two_pow_pos i;have hle:2^i≤2^62:=Nat.pow_le_pow_right (by decide) hi;have hc:((2:Int)^i-1)=((2^i-1:Nat):Int):=by
  rw[Int.natCast_sub hpos];simp
 have hb:(2^i-1)%2^IntKind.i64.bits=2^i-1:=Nat.mod_eq_of_lt (show 2^i-1<2^64 by omega);rw[hc];simp only[bits,BitVec.ofInt_natCast,BitVec.toNat_and,BitVec.toNat_ofNat,hb,Nat.and_two_pow_sub_one_eq_mod,BitVec.toNat_ofInt];show IntKind.wrap .i64 (((x%((2^64:Nat):Int)).toNat%2^i:Nat):Int)=_;have h1:(x%((2^64:Nat):Int)).toNat%2^i<2^i:=Nat.mod_lt _ hpos;have h2:(((x%((2^64:Nat):Int)).toNat%2^i:Nat):Int)=x%2^i:=by
  have h3:0≤x%((2^64:Nat):Int):=Int.emod_nonneg _ (by decide);rw[Int.natCast_emod,Int.toNat_of_nonneg h3];have hd:((2^i:Nat):Int)∣((2^64:Nat):Int):=by
   have:=Nat.pow_dvd_pow 2 (show i≤64 by omega)
   exact_mod_cast this
  rw[Int.emod_emod_of_dvd x hd];simp
 rw[h2];have h4:x%2^i<2^i:=Int.emod_lt_of_pos _ (by exact_mod_cast hpos)
 have h5:0≤x%2^i:=Int.emod_nonneg _ (by have:(0:Int)<2^i:=by exact_mod_cast hpos
                                        omega)
 have h6:(2:Int)^i≤2^62:=by exact_mod_cast hle
 rw[zh (by omega) (by omega)]
theorem OW(x:Int):bits .and .i64 x 255=x%256:=JS x 8 (by decide)
theorem and1(x:Int):bits .and .i64 x 1=x%2:=JS x 1 (by decide)
theorem u8_and127{x:Int}(h0:0≤x)(h1:x<256):bits .and .u8 x 127=x%128:=
 bits_mask .u8 8 (by decide) wraps_u8 7 (by decide) x h0 h1
theorem O5(k:IntKind)(a b:Int):bits .or k a b=bits .or k b a:=by
 simp only[bits,BitVec.toNat_or];rw[Nat.or_comm]
theorem ab3{a b:Int}{i:Nat}(ha0:0≤a)(ha:a<2^i)(hb0:0≤b)(hb:b*2^i<2^64)(hi:i≤64):bits .or .u64 a (b*2^i)=a+b*2^i:=by
 have hp:(2:Int)^i≤2^64:=by
  have:=Nat.pow_le_pow_right (n:=2) (by decide) hi
  exact_mod_cast this
 have hp0:(0:Int)<2^i:=by have:=Nat.two_pow_pos i;exact_mod_cast this
 rw[O5,bits_join .u64 64 (by decide) wraps_u64 i (b*2^i) a (Int.mul_nonneg hb0 (by omega)) (Int.mul_emod_left _ _) hb ha0 ha (by omega)];omega
theorem GI(k:IntKind)(a:Int)(n:Nat)(h:n≤k.bits):pE k a (n:Int)=a/2^n:=by
 unfold pE;rw[Int.toNat_natCast,Nat.min_eq_left h,Int.fdiv_eq_ediv_of_nonneg];have:=Nat.two_pow_pos n;have:(0:Int)<2^n:=by exact_mod_cast this
 omega
theorem abA(a:Int):pE .u64 a 1=a/2:=GI .u64 a 1 (by decide)
theorem Bn{n:Nat}(h:n≤4294967296):lim n=true:=by unfold lim;exact Nat.ble_eq_true_of_le h
theorem GD{n:Int}(h0:0≤n)(h:n≤4294967296):oV n=true:=by simp[oV,h0,h]
theorem Jo{l h:Int}{n:Nat}(h0:0≤l)(h1:l≤h)(h2:h≤n):jg l h n=true:=by simp[jg,h0,h1,h2]
theorem zn{a b:Int}(h:¬a=b):(a==b)=false:=by simpa using h
theorem zK{a b:Int}(h:¬a=b):(a !=b)=true:=by simpa using h
theorem zQ{a b:Int}(h:a=b):(a==b)=true:=by simpa using h
theorem zB{a b:Int}(h:a=b):(a !=b)=false:=by simpa using h
theorem Ah(b c:Bool):(cond b (some c) (some false):Option Bool)=some (b&&c):=by cases b<;>rfl
theorem cst(b c:Bool):(cond b (some true) (some c):Option Bool)=some (b||c):=by cases b<;>rfl
theorem Pw(b c d:Bool):(cond b (some c) (some d):Option Bool)=some (cond b c d):=by cases b<;>rfl
theorem Aq{α:Type}(xs:List α)(n:Nat):gU xs (n:Int)=xs[n]?:=rfl
theorem GH{α:Type}{xs:List α}{i:Int}(h0:0≤i)(h1:i<xs.length):∃x,gU xs i=some x∧xs[i.toNat]?=some x:=by
 obtain⟨n,rfl⟩:=Int.eq_ofNat_of_zero_le h0;have h:n<xs.length:=by omega
 exact⟨xs[n],by rw[Aq,DF h],by simp[h]⟩
theorem Hz{α:Type}(xs:List α):gU xs 0=xs[0]?:=rfl
theorem BH(a b:ByteArray):iY a b=decide (a=b):=by
 unfold iY;have h:a.toList=b.toList↔a=b:=by
  constructor
  ·intro h
   rw[ByteArray.toList_eq,ByteArray.toList_eq] at h;cases a;cases b;simp only[ByteArray.mk.injEq];exact Array.ext' h
  ·rintro rfl;rfl
 by_cases e:a=b
 ·simp[e]
 ·simp only[e,decide_false]
  have:a.toList≠b.toList:=fun h'=>e (h.1 h');simp[this]
theorem uo(s:ByteArray):(eZ s).length=s.size:=by
 unfold eZ;rw[List.length_map,Array.length_toList];rfl
theorem abN(s:ByteArray)(x:Int)(h:x∈eZ s):0≤x∧x<256:=by
 unfold eZ at h;obtain⟨c,_,hc⟩:=List.mem_map.1 h;have:=c.toNat_lt;omega
theorem Ho(xs:List Int):(wY xs).size=xs.length:=strOfNums_size xs
end Go.zJ
end
section
namespace Go.zJ
open Go.Am Go.Fn
def IX:Nat→Nat→List Int
 |0,n=>[(n:Int)]
 |f+1,n=>if 127<n then((n%128+128:Nat):Int)::IX f (n/128) else[(n:Int)]
def uv(x:Int):List Int:=IX 9 (x%18446744073709551616).toNat
theorem xor_zero(a:Int)(h0: -9223372036854775808≤a)(h1:a<9223372036854775808):bits .xor .i64 a 0=a:=by
 have e:(BitVec.ofInt (IntKind.bits .i64) a^^^BitVec.ofInt (IntKind.bits .i64) 0)=BitVec.ofInt (IntKind.bits .i64) a:=by simp
 simp only[bits,e,BitVec.toNat_ofInt];show IntKind.wrap .i64 (((a%((2^64:Nat):Int)).toNat:Nat):Int)=a;rw[IntKind.wrap_i64];omega
theorem OI(a:Int)(h0: -9223372036854775808≤a)(h1:a<9223372036854775808):bits .xor .i64 a (-1)= -a-1:=by
 have e:(BitVec.ofInt (IntKind.bits .i64) a^^^BitVec.ofInt (IntKind.bits .i64) (-1))= ~~~BitVec.ofInt (IntKind.bits .i64) a:=by
  have:BitVec.ofInt (IntKind.bits .i64) (-1)=BitVec.allOnes (IntKind.bits .i64):=by decide
  rw[this,BitVec.xor_allOnes]
 simp only[bits,e,BitVec.toNat_not,BitVec.toNat_ofInt];show IntKind.wrap .i64 ((2^64-1-(a%((2^64:Nat):Int)).toNat:Nat):Int)=_;rw[IntKind.wrap_i64];omega
def zig(x:Int):Int:=if 0≤x then IntKind.wrap .i64 (x*2) else -IntKind.wrap .i64 (x*2)-1
theorem acS(k:Nat)(x:Int)(h0: -9223372036854775808≤x)(h1:x<9223372036854775808):F7 k (zig x)=some x:=by
 unfold F7;rw[and1,KY,abA,zh (by omega) (by omega)];have hz:zig x=if 0≤x then(x*2+9223372036854775808)%18446744073709551616-9223372036854775808 else -((x*2+9223372036854775808)%18446744073709551616-9223372036854775808)-1:=by
  unfold zig;rw[IntKind.wrap_i64]
 by_cases hx:0≤x
 ·rw[if_pos hx] at hz
  rw[show zig x%2=0 by omega,show IntKind.wrap .i64 (0-0)=0 by decide,xor_zero _ (by omega) (by omega)]
  congr 1
  omega
 ·rw[if_neg hx] at hz
  rw[show zig x%2=1 by omega,show IntKind.wrap .i64 (0-1)= -1 by decide,OI _ (by omega) (by omega)]
  congr 1
  omega
end Go.zJ
end
section
namespace Go.zJ
open Go.Am Go.Fn
variable(k:Nat)
theorem OB(k:IntKind)(x:Int):IntKind.wrap k x%2^k.bits=x%2^k.bits:=by
 have hp:(0:Int)<2^k.bits:=by have:=Nat.two_pow_pos k.bits;exact_mod_cast this
 have h0:=Int.emod_nonneg x (show(2:Int)^k.bits≠0 by omega);cases k<;>simp[IntKind.wrap,IntKind.bits,IntKind.signed]<;>omega
theorem NM{n:Nat}{a b:Int}(h:a%2^n=b%2^n):BitVec.ofInt n a=BitVec.ofInt n b:=by
 apply BitVec.eq_of_toNat_eq;rw[BitVec.toNat_ofInt,BitVec.toNat_ofInt];have:((2^n:Nat):Int)=(2:Int)^n:=by simp
 rw[this,h]
theorem aaU(k:IntKind)(a b:Int):bits .or k (k.wrap a) (k.wrap b)=bits .or k a b:=by
 simp only[bits];rw[NM (OB k a),NM (OB k b)]
theorem aaT(k:IntKind){a b i:Nat}(ha:a<2^i)(hab:a+b*2^i<2^k.bits):bits .or k (a:Int) ((b*2^i:Nat):Int)=k.wrap ((a+b*2^i:Nat):Int):=by
 have h1:a|||b*2^i=a+b*2^i:=by
  rw[Nat.or_comm,Nat.mul_comm,←Nat.two_pow_add_eq_or_of_lt ha b,Nat.add_comm]
 simp only[bits,BitVec.ofInt_natCast,BitVec.toNat_or,BitVec.toNat_ofNat];rw[Nat.mod_eq_of_lt (show a<2^k.bits by omega),Nat.mod_eq_of_lt (show b*2^i<2^k.bits by omega),h1]
theorem Jv(k:IntKind){a b i:Nat}(hi:i≤k.bits)(ha:a<2^i)(hab:a+b*2^i<2^k.bits):bits .or k (k.wrap (a:Int)) (pz k (b:Int) (i:Int))=k.wrap ((a+b*2^i:Nat):Int):=by
 unfold pz;rw[Int.toNat_natCast,Nat.min_eq_left hi,aaU];have:=aaT k ha hab;rw[←this];simp
def leB(L M:Nat):List Int:=(List.range L).map fun i=>((M/256^i%256:Nat):Int)
theorem CO(L M:Nat):(leB L M).length=L:=by simp[leB]
theorem Jr{L M i:Nat}(h:i<L):(leB L M)[i]?=some ((M/256^i%256:Nat):Int):=by
 simp[leB,h]
theorem NB(L:Nat):leB L 0=List.replicate L 0:=by
 apply List.ext_getElem (by simp[leB]);intro i h1 h2;simp[leB]
theorem KD(p:Nat):2^p=256^(p/8)*2^(p%8):=by
 rw[show(256:Nat)=2^8 by decide,←Nat.pow_mul,←Nat.pow_add,Nat.div_add_mod]
theorem MH{M p:Nat}(h:M<2^p):M/256^(p/8)<2^(p%8):=by
 rw[KD p] at h;exact Nat.div_lt_of_lt_mul h
theorem O9(M b p:Nat):(M+b*2^p)/256^(p/8)=M/256^(p/8)+b*2^(p%8):=by
 rw[KD p,show b*(256^(p/8)*2^(p%8))=(b*2^(p%8))*256^(p/8) by rw[Nat.mul_comm (256^_),Nat.mul_assoc],Nat.add_mul_div_right _ _ (Nat.pow_pos (by decide))]
theorem aa9{r:Nat}(h:r<8):2^r≤128:=by
 have:=Nat.pow_le_pow_right (n:=2) (by decide) (show r≤7 by omega);simpa using this
theorem MI{M b p:Nat}(h:M<2^p)(hb:b≤1):M/256^(p/8)+b*2^(p%8)<256:=by
 have h1:=MH h;have h2:=aa9 (Nat.mod_lt p (show 8>0 by decide));have h3:b*2^(p%8)≤1*2^(p%8):=Nat.mul_le_mul_right _ hb;omega
theorem NA{L M b p:Nat}(hp:p<8*L)(h:M<2^p)(hb:b≤1):(leB L M).set (p/8) ((M/256^(p/8)+b*2^(p%8):Nat):Int)=leB L (M+b*2^p):=by
 apply List.ext_getElem (by simp[leB]);intro i h1 h2;simp only[CO] at h2;rw[List.getElem_set];by_cases hi:p/8=i
 ·subst hi
  simp only[if_true];simp only[leB,List.getElem_map,List.getElem_range];rw[O9,Nat.mod_eq_of_lt (MI h hb)]
 ·simp only[hi,if_false,leB,List.getElem_map,List.getElem_range]
  congr 1
  rcases Nat.lt_or_ge i (p/8) with hlt|hge
  ·have hdv:2^p=256^i*(256*(256^(p/8-i-1)*2^(p%8))):=by
    rw[KD p];have:p/8=i+(1+(p/8-i-1)):=by omega
    conv=>lhs;rw[this,Nat.pow_add,Nat.pow_add]
    simp[Nat.mul_assoc]
   rw[hdv,show b*(256^i*(256*(256^(p/8-i-1)*2^(p%8))))=256^i*(256*(b*(256^(p/8-i-1)*2^(p%8)))) by rw[Nat.mul_left_comm,Nat.mul_left_comm b],Nat.add_mul_div_left _ _ (Nat.pow_pos (by decide)),Nat.add_mul_mod_self_left]
  ·have hlt:p<8*i:=by omega
   have hp2:2^(p+1)≤256^i:=by
    rw[show(256:Nat)=2^8 by decide,←Nat.pow_mul];exact Nat.pow_le_pow_right (by decide) (by omega)
   have hb2:b*2^p≤1*2^p:=Nat.mul_le_mul_right _ hb;rw[Nat.pow_succ] at hp2;rw[Nat.div_eq_of_lt (show M<256^i by omega),Nat.div_eq_of_lt (show M+b*2^p<256^i by omega)]
theorem Nz(M p:Nat):(M/256^(p/8)%256)/2^(p%8)%2=M/2^p%2:=by
 have h8:=Nat.mod_lt p (show 8>0 by decide);have h1:256=2^(p%8)*(2*2^(7-p%8)):=by
  rw[←Nat.mul_assoc,Nat.mul_right_comm,←Nat.pow_add,show p%8+(7-p%8)=7 by omega]
 have h2:∀x:Nat,x%256/2^(p%8)%2=x/2^(p%8)%2:=by
  intro x;rw[h1,Nat.mod_mul_right_div_self,Nat.mod_mul_right_mod]
 rw[h2,Nat.div_div_eq_div_mul,←KD]
def u64(v:Int):Nat:=(v%18446744073709551616).toNat
theorem Oh(v:Int):(u64 v:Int)=v%18446744073709551616:=by unfold u64;omega
theorem bit_eq(v:Int){j:Nat}(hj:j<64):(v/2^j)%2=((u64 v/2^j%2:Nat):Int):=by
 have hv:v=(u64 v:Int)+18446744073709551616*(v/18446744073709551616):=by rw[Oh];omega
 have hp0:(2:Int)^j≠0:=by have:=Nat.two_pow_pos j;have:(0:Int)<2^j:=by exact_mod_cast this
                          omega
 have hs:(18446744073709551616:Int)=2^j*(2*2^(63-j)):=by
  have:2^j*(2*2^(63-j))=2^64:=by
   rw[←Nat.mul_assoc,Nat.mul_right_comm,←Nat.pow_add,show j+(63-j)=63 by omega]
  have h2:((2^j*(2*2^(63-j)):Nat):Int)=((2^64:Nat):Int):=by rw[this]
  rw[Int.natCast_mul,Int.natCast_mul,Int.natCast_pow,Int.natCast_pow] at h2;exact h2.symm
 have key:∀(u:Nat) (q:Int),(((u:Int)+18446744073709551616*q)/2^j)%2=((u/2^j%2:Nat):Int):=by
  intro u q;rw[hs,Int.mul_assoc,Int.add_mul_ediv_left _ _ hp0];rw[show(2:Int)*2^(63-j)*q=2*(2^(63-j)*q) by rw[Int.mul_assoc],Int.add_mul_emod_self_left];simp
 conv=>lhs;rw[hv]
 exact key _ _
def FQ(w:Nat):List Nat→Nat
 |[]=>0
 |u::r=>u%2^w+2^w*FQ w r
theorem LH(w:Nat):∀us:List Nat,FQ w us<2^(us.length*w)
 |[]=>by simp[FQ]
 |u::r=>by
  have h1:=LH w r;have h2:=Nat.mod_lt u (Nat.two_pow_pos w);simp only[FQ,A9];rw[Nat.add_mul,Nat.one_mul,Nat.pow_add,Nat.mul_comm (2^(r.length*w))];have h3:2^w*(FQ w r+1)≤2^w*2^(r.length*w):=Nat.mul_le_mul_left _ h1;rw[Nat.mul_add] at h3;omega
theorem LJ(w u:Nat):∀a:List Nat,FQ w (a++[u])=FQ w a+(u%2^w)*2^(a.length*w)
 |[]=>by simp[FQ]
 |x::a=>by
  simp only[List.cons_append,FQ,LJ w u a,A9];rw[Nat.mul_add,Nat.add_mul (a.length) 1,Nat.one_mul,Nat.pow_add,←Nat.add_assoc]
  congr 1
  rw[Nat.mul_left_comm,Nat.mul_comm (2^w)]
theorem mod_succ(u j:Nat):u%2^(j+1)=u%2^j+(u/2^j%2)*2^j:=by
 rw[Nat.pow_succ,Nat.mod_mul,Nat.mul_comm (2^j)]
def bytesOf(n w:Nat):Nat:=(n*w+7)/8
theorem Od{x:Int}(h:0≤x):Int.tdiv x 8=x/8:=Int.tdiv_eq_ediv_of_nonneg h
theorem abX{x:Int}(h:0≤x):Int.tmod x 8=x%8:=Int.tmod_eq_emod_of_nonneg h
end Go.zJ
end
section
namespace Go.zJ
open Go.Am Go.Fn
variable(k:Nat)
theorem Kb{p:Nat}(h:p<1152921504606846976):IntKind.wrap .i64 (Int.tdiv (p:Int) 8)=((p/8:Nat):Int):=by
 rw[Od (by omega),zh (by omega) (by omega)];omega
theorem Ka(p:Nat):Int.tmod (p:Int) 8=((p%8:Nat):Int):=by
 rw[abX (by omega)];omega
theorem NP{M p b:Nat}(h:M<2^p)(hb:b≤1):bits .or .u8 ((M/256^(p/8)%256:Nat):Int) (pz .u8 (b:Int) ((p%8:Nat):Int))=((M/256^(p/8)+b*2^(p%8):Nat):Int):=by
 have h1:=MH h;have h2:=MI h hb;have h3:=Nat.mod_lt p (show 8>0 by decide);have h4:M/256^(p/8)%256=M/256^(p/8):=Nat.mod_eq_of_lt (by omega);rw[h4];have:=Jv .u8 (a:=M/256^(p/8)) (b:=b) (i:=p%8) (show p%8≤8 by omega) h1 (show _<2^8 by omega);rw[w8 (by omega) (by omega)] at this;rw[this,w8 (by omega) (by omega)]
theorem ND{M0 u q j:Nat}(h:M0<2^q):M0+(u%2^j)*2^q<2^(q+j):=by
 have h1:=Nat.mod_lt u (Nat.two_pow_pos j);have h2:(u%2^j+1)*2^q≤2^j*2^q:=Nat.mul_le_mul_right _ h1;rw[Nat.add_mul,Nat.one_mul] at h2;rw[Nat.pow_add,Nat.mul_comm (2^q)];omega
theorem NF(M0 u q j:Nat):M0+(u%2^j)*2^q+(u/2^j%2)*2^(q+j)=M0+(u%2^(j+1))*2^q:=by
 rw[mod_succ,Nat.add_mul,Nat.mul_assoc (u/2^j%2),←Nat.pow_add,Nat.add_comm j q,Nat.add_assoc]
theorem N8(v:Int){j:Nat}(hj:j<64):bits .and .i64 (pE .i64 v (j:Int)) 1=((u64 v/2^j%2:Nat):Int):=by
 rw[GI .i64 v j (show j≤64 by omega),and1,bit_eq v hj]
theorem aaZ(L3:Int→(List Int)→Int→Int→(List Int)→Option (Unit×(List Int)))(vs:List Int)(len v:Int)(w i q L M0:Nat)(hw:w≤64)(hq:(i:Int)*(w:Int)=(q:Int))(Lr:q+w≤8*L)(hL:L<1000000)(hi:i<1000000)(hM:M0<2^q):
 ∀(m n j:Nat),j+m=w→m<n→Cy.l6 k L3 n (w:Int) (i:Int) v vs len (i:Int) (w:Int) (j:Int) (leB L (M0+(u64 v%2^j)*2^q))=L3 (w:Int) vs len ((i+1:Nat):Int) (leB L (M0+(u64 v%2^w)*2^q)):=by
 intro m
 induction m with
 |zero=>
  intro n j hj hn;obtain⟨n,rfl⟩:∃x,n=x+1:=⟨n-1,by omega⟩;obtain rfl:j=w:=by omega
  simp only[Cy.l6,zl (show ¬(j:Int)<(j:Int) by omega),y_];rw[zh (by omega) (by omega)]
  congr 1
 |succ m ih=>
  intro n j hj hn;obtain⟨n,rfl⟩:∃x,n=x+1:=⟨n-1,by omega⟩;have hp:IntKind.wrap .i64 (IntKind.wrap .i64 ((i:Int)*(w:Int))+(j:Int))=((q+j:Nat):Int):=by
   rw[hq,zh (x:=(q:Int)) (by omega) (by omega),zh (by omega) (by omega)];omega
  have hlt:=ND (u:=u64 v) (j:=j) hM;have hb:u64 v/2^j%2≤1:=by omega
  have hg:gU (leB L (M0+u64 v%2^j*2^q)) (((q+j)/8:Nat):Int)=some _:=Jr (by omega);have hbi:IntKind.wrap .u8 ((u64 v/2^j%2:Nat):Int)=((u64 v/2^j%2:Nat):Int):=w8 (by omega) (by omega);simp only[Cy.l6,zi (show(j:Int)<(w:Int) by omega),yZ,hp,Kb (show q+j<1152921504606846976 by omega),Ka,hg,yX,zi (show(0:Int)≤(j:Int) by omega),zi (show(0:Int)≤(((q+j)%8:Nat):Int) by omega),N8 v (show j<64 by omega),hbi,NP hlt hb,Int.toNat_natCast,NA (show q+j<8*L by omega) hlt hb,NF];rw[zh (by omega) (by omega)];exact ih n (j+1) (by omega) (by omega)
def Gh(w:Nat)(vs:List Int):Nat:=FQ w (vs.map u64)
theorem aa0(w L:Nat)(hw:w≤64)(hL:L<1000000)(hk:w<k)(vs:List Int)(hvs:vs.length<1000000)(hb:vs.length*w≤8*L):∀(post pre:List Int) (n:Nat),vs=pre++post→post.length<n→
 Cy.l3 k n (w:Int) vs (vs.length:Int) (pre.length:Int) (leB L (Gh w pre))=some ((),leB L (Gh w vs)):=by
 intro post
 induction post with
 |nil=>
  intro pre n hv hn;obtain⟨n,rfl⟩:∃x,n=x+1:=⟨n-1,by omega⟩;have:vs=pre:=by simpa using hv
  subst this;simp only[Cy.l3,zl (show ¬(vs.length:Int)<(vs.length:Int) by omega),y_]
 |cons v post ih=>
  intro pre n hv hn;simp only[A9] at hn;obtain⟨n,rfl⟩:∃x,n=x+1:=⟨n-1,by omega⟩;have hlen:vs.length=pre.length+(post.length+1):=by rw[hv];simp
  have hg:gU vs (pre.length:Int)=some v:=by rw[hv,Aq,List.getElem?_append_right (Nat.le_refl _)];simp
  have hM:=LH w (pre.map u64);rw[List.length_map] at hM;have hmul:pre.length*w+w≤vs.length*w:=by
   have:(pre.length+1)*w≤vs.length*w:=Nat.mul_le_mul_right _ (by omega);rw[Nat.add_mul,Nat.one_mul] at this;exact this
  have hi:=aaZ k (Cy.l3 k n) vs (vs.length:Int) v w pre.length (pre.length*w) L (Gh w pre) hw (by simp) (by omega) hL (by omega) hM w k 0 (by omega) hk;simp only[Nat.pow_zero,Nat.mod_one,Nat.zero_mul,Nat.add_zero] at hi;simp only[Cy.l3,zi (show(pre.length:Int)<(vs.length:Int) by omega),yZ,hg,yX];have h0:((0:Nat):Int)=0:=rfl;rw[h0] at hi;rw[hi];have:=ih (pre++[v]) n (by rw[hv];simp) (by omega);rw[Ab,AJ] at this;rw[←this];unfold Gh;rw[List.map_append,List.map_singleton,LJ,List.length_map]
theorem len8{n w:Nat}(hn:n≤100000)(hw:w≤64):IntKind.wrap .i64 (Int.tdiv (IntKind.wrap .i64 (IntKind.wrap .i64 ((n:Int)*(w:Int))+7)) 8)=((bytesOf n w:Nat):Int)∧bytesOf n w<1000000∧n*w≤8*bytesOf n w:=by
 have h1:n*w≤100000*64:=Nat.mul_le_mul hn hw;have h2:(n:Int)*(w:Int)=((n*w:Nat):Int):=by simp
 unfold bytesOf;rw[h2];generalize n*w=q at h1⊢;rw[zh (x:=(q:Int)) (by omega) (by omega),zh (x:=(q:Int)+7) (by omega) (by omega),Od (by omega),zh (by omega) (by omega)];omega
def KC(w:Nat)(vs:List Int):List Int:=leB (bytesOf vs.length w) (Gh w vs)
theorem aaY(vs:List Int)(w:Nat)(hw:w≤64)(hvs:vs.length≤100000)(hk:vs.length<k)(hk2:w<k):Cy k vs (w:Int)=some ((),KC w vs):=by
 obtain⟨h1,h2,h3⟩:=len8 hvs hw;unfold Cy;rw[h1,GD (by omega) (by omega),yZ,Int.toNat_natCast,←NB];exact aa0 k w _ hw h2 hk2 vs (by omega) h3 vs [] k rfl hk
theorem O0(pre post:List Int)(L M p:Nat)(hp:p<8*L)(hl:pre.length+L<100000000000000000):Kc k (pre++(leB L M++post)) ((8*pre.length+p:Nat):Int)=some ((M/2^p%2:Nat):Int):=by
 unfold Kc;have hd:(8*pre.length+p)/8=pre.length+p/8:=by omega
 have hm:(8*pre.length+p)%8=p%8:=by omega
 have hg:gU (pre++(leB L M++post)) ((pre.length+p/8:Nat):Int)=some ((M/256^(p/8)%256:Nat):Int):=by
  rw[Aq,List.getElem?_append_right (by omega),List.getElem?_append_left (by rw[CO];omega),Nat.add_sub_cancel_left];exact Jr (by omega)
 simp only[zl (show ¬(((8*pre.length+p:Nat):Int)<0) by omega),y_,Kb (show 8*pre.length+p<1152921504606846976 by omega),Ka,hd,hm,hg,yX,
  zl (show ¬(((pre.length+p/8:Nat):Int)≥((pre++(leB L M++post)).length:Int)) by simp[CO];omega),zi (show(0:Int)≤((p%8:Nat):Int) by omega),yZ]
 rw[GI .u8 _ (p%8) (show p%8≤8 by omega)];have h1:((M/256^(p/8)%256:Nat):Int)/2^(p%8)=((M/256^(p/8)%256/2^(p%8):Nat):Int):=by simp
 rw[h1];have hlt:M/256^(p/8)%256/2^(p%8)<256:=Nat.lt_of_le_of_lt (Nat.div_le_self _ _) (Nat.mod_lt _ (by decide));have hb:=Nz M p;generalize M/256^(p/8)%256/2^(p%8)=x at hlt hb;have h2:=bits_mask .u8 8 (by decide) wraps_u8 1 (by decide) (x:Int) (by omega) (by omega);have h2:bits .and .u8 (x:Int) 1=(x:Int)%2:=h2;rw[h2,zh (by omega) (by omega),←hb];simp
def GK(w M i:Nat):Int:=IntKind.wrap .i64 ((M/2^(i*w)%2^w:Nat):Int)
theorem ab5(L3:(List Int)→Int→Int→Int→Int→(List Int)→Option (Unit×(List Int)))(pre post:List Int)(L M w i q:Nat)(t14:Int)(hw:w≤64)(hq:(i:Int)*(w:Int)=(q:Int))(Ls:i*w=q)(Lr:q+w≤8*L)(hl:pre.length+L<10000000000000000)(hi:i<1000000)(o:List Int)(ho:o.length<1000000):
 ∀(m n j:Nat),j+m=w→m<n→CB.l7 k L3 n (pre++(leB L M++post)) (pre.length:Int) (w:Int) (i:Int) (IntKind.wrap .i64 ((M/2^q%2^j:Nat):Int)) t14 (i:Int) (w:Int) (j:Int) o=L3 (pre++(leB L M++post)) (pre.length:Int) (w:Int) t14 ((i+1:Nat):Int) (o++[GK w M i]):=by
 intro m
 induction m with
 |zero=>
  intro n j hj hn;obtain⟨n,rfl⟩:∃x,n=x+1:=⟨n-1,by omega⟩;obtain rfl:j=w:=by omega
  simp only[CB.l7,zl (show ¬(j:Int)<(j:Int) by omega),y_];rw[Bn (by simp;omega),yZ,zh (x:=(i:Int)+1) (by omega) (by omega)];unfold GK;rw[Ls]
  congr 1
 |succ m ih=>
  intro n j hj hn;obtain⟨n,rfl⟩:∃x,n=x+1:=⟨n-1,by omega⟩;have hp:IntKind.wrap .i64 (IntKind.wrap .i64 (IntKind.wrap .i64 (8*(pre.length:Int))+IntKind.wrap .i64 ((i:Int)*(w:Int)))+(j:Int))=((8*pre.length+(q+j):Nat):Int):=by
   rw[hq,zh (x:=(q:Int)) (by omega) (by omega),zh (x:=8*(pre.length:Int)) (by omega) (by omega),zh (x:=8*(pre.length:Int)+(q:Int)) (by omega) (by omega),zh (by omega) (by omega)];omega
  have hb:=O0 k pre post L M (q+j) (by omega) (by omega);simp only[CB.l7,zi (show(j:Int)<(w:Int) by omega),yZ,hp,hb,yX,zi (show(0:Int)≤(j:Int) by omega)];have hlt:M/2^q%2^j<2^j:=Nat.mod_lt _ (Nat.two_pow_pos j);have hjj:2^(j+1)≤2^64:=Nat.pow_le_pow_right (by decide) (by omega);have hb1:M/2^(q+j)%2≤1:=by omega
  have hb2:M/2^(q+j)%2*2^j≤1*2^j:=Nat.mul_le_mul_right _ hb1;have ho:=Jv .i64 (a:=M/2^q%2^j) (b:=M/2^(q+j)%2) (i:=j) (show j≤64 by omega) hlt (show _<2^64 by rw[Nat.pow_succ] at hjj;omega);rw[ho];have hs:M/2^q%2^j+M/2^(q+j)%2*2^j=M/2^q%2^(j+1):=by
   rw[mod_succ,Nat.div_div_eq_div_mul,←Nat.pow_add]
  rw[hs,zh (x:=(j:Int)+1) (by omega) (by omega),show((j:Int)+1)=((j+1:Nat):Int) by omega];exact ih n (j+1) (by omega) (by omega)
theorem ab7(pre post:List Int)(L M w N:Nat)(hw:w≤64)(hN:N*w≤8*L)(hl:pre.length+L<10000000000000000)(Ll:N<1000000)(hk:w<k):
 ∀(m n i:Nat) (o:List Int),i+m=N→m<n→o.length=i→CB.l3 k n (pre++(leB L M++post)) (pre.length:Int) (w:Int) (N:Int) (i:Int) o=some ((),o++(List.range' i m).map (GK w M)):=by
 intro m
 induction m with
 |zero=>
  intro n i o hi hn ho;obtain⟨n,rfl⟩:∃x,n=x+1:=⟨n-1,by omega⟩;simp only[CB.l3,zl (show ¬(i:Int)<(N:Int) by omega),y_];simp
 |succ m ih=>
  intro n i o hi hn ho;obtain⟨n,rfl⟩:∃x,n=x+1:=⟨n-1,by omega⟩;have hmul:i*w+w≤N*w:=by
   have:(i+1)*w≤N*w:=Nat.mul_le_mul_right _ (by omega);rw[Nat.add_mul,Nat.one_mul] at this;exact this
  have hi':=ab5 k (CB.l3 k n) pre post L M w i (i*w) (N:Int) hw (by simp) rfl (by omega) hl (by omega) o (by omega) w k 0 (by omega) hk;simp only[Nat.pow_zero,Nat.mod_one] at hi';simp only[CB.l3,zi (show(i:Int)<(N:Int) by omega),yZ];have h0:((0:Nat):Int)=0:=rfl;have hw0:IntKind.wrap .i64 0=0:=rfl;rw[h0,hw0] at hi';rw[hi',ih n (i+1) _ (by omega) (by omega) (by simp;omega)];simp[List.range'_succ]
theorem ab6(pre post:List Int)(L M w N:Nat)(hw:w≤64)(hN:N*w≤8*L)(hl:pre.length+L<10000000000000000)(Ll:N<1000000)(hk:w<k)(hk2:N<k):
 CB k (pre++(leB L M++post)) (pre.length:Int) (N:Int) (w:Int)=some ((),(List.range N).map (GK w M)):=by
 unfold CB;have:=ab7 k pre post L M w N hw hN hl Ll hk N k 0 [] (by omega) hk2 rfl;rw[List.range_eq_range'];simpa using this
end Go.zJ
end
section
namespace Go.zJ
open Go.Am Go.Fn
def Cv:Nat→List Int→Option (Nat×Nat)
 |0,_=>none
 |_+1,[]=>none
 |f+1,c::r=>if f=0∧1<c then none else if c<128 then some (c.toNat,1) else(Cv f r).map fun x=>((c%128).toNat+128*x.1,x.2+1)
def gv(l:List Int):Option (Int×Nat):=(Cv 10 l).map fun x=>(IntKind.wrap .i64 (x.1:Int),x.2)
theorem ZT:∀(f:Nat) (l:List Int) (v n:Nat),(∀x,x∈l→0≤x∧x<256)→Cv (f+1) l=some (v,n)→v<2*128^f∧1≤n∧n≤l.length∧n≤f+1∧(IX f v).length≤n:=by
 intro f
 induction f with
 |zero=>
  intro l v n hb h;cases l with
  |nil=>simp[Cv] at h
  |cons c r=>
   obtain⟨c0,c1⟩:=hb c (by simp);simp only[Cv,true_and] at h;split at h
   ·cases h
   ·split at h
    ·simp only[A_,Prod.mk.injEq] at h
     obtain⟨rfl,rfl⟩:=h;simp[IX];omega
    ·simp at h
 |succ f ih=>
  intro l v n hb h;cases l with
  |nil=>simp[Cv] at h
  |cons c r=>
   obtain⟨c0,c1⟩:=hb c (by simp);rw[Cv,if_neg (by omega)] at h;have hP:1≤128^f:=Nat.pow_pos (by decide);have hP2:(128:Nat)^(f+1)=128*128^f:=by rw[Nat.pow_succ,Nat.mul_comm]
   split at h
   ·simp only[A_,Prod.mk.injEq] at h
    obtain⟨rfl,rfl⟩:=h;refine⟨by omega,by omega,by simp,by omega,?_⟩;simp only[IX];rw[if_neg (by omega)];simp
   ·cases hg:Cv (f+1) r with
    |none=>rw[hg] at h;cases h
    |some x=>
     obtain⟨v',n'⟩:=x;rw[hg] at h;simp only[Option.map_some,A_,Prod.mk.injEq] at h;obtain⟨rfl,rfl⟩:=h;obtain⟨i1,i2,i3,i4,i5⟩:=ih r v' n' (fun x hx=>hb x (by simp[hx])) hg;refine⟨by omega,by omega,by simp;omega,by omega,?_⟩;simp only[IX];split
     ·rw[A9,show((c%128).toNat+128*v')/128=v' by omega]
      omega
     ·simp
theorem DX(l:List Int)(u:Int)(n:Nat)(hb:∀x,x∈l→0≤x∧x<256)(h:gv l=some (u,n)):zM u∧1≤n∧n≤l.length∧n≤10∧(uv u).length≤n:=by
 unfold gv at h;cases hg:Cv 10 l with
 |none=>rw[hg] at h;cases h
 |some x=>
  obtain⟨v,n'⟩:=x;rw[hg] at h;simp only[Option.map_some,A_,Prod.mk.injEq] at h;obtain⟨rfl,rfl⟩:=h;obtain⟨h1,h2,h3,h4,h5⟩:=ZT 9 l v n' hb hg;have h1:v<18446744073709551616:=by simpa using h1
  refine⟨⟨Oo _,Om _⟩,h2,h3,h4,?_⟩;unfold uv;rw[IntKind.wrap_i64,show(((v:Int)+9223372036854775808)%18446744073709551616-9223372036854775808)%18446744073709551616=(v:Int) by omega,Int.toNat_natCast];exact h5
theorem Ic{α:Type}{l:List α}{p:Nat}(h:p<l.length):∃c,l.drop p=c::l.drop (p+1)∧l[p]?=some c:=by
 refine⟨l[p],?_,by simp[h]⟩;rw[List.drop_eq_getElem_cons h]
theorem aae(k:Nat)(b:List Int)(p:Nat)(hb:b.length<4611686018427387904)(hby:∀x,x∈b→0≤x∧x<256)(hp:p<4611686018427387904):∀(f n i acc:Nat),i+f=10→f<n→acc<2^(7*i)→
 CJ.l5 k n b (p:Int) (acc:Int) (i:Int)=match Cv f (b.drop (p+i)) with
  |none=>some (0,0,false)
  |some (v,m)=>some (IntKind.wrap .i64 ((acc+v*2^(7*i):Nat):Int),((p+i+m:Nat):Int),true):=by
 intro f
 induction f with
 |zero=>
  intro n i acc hi hn hacc;obtain⟨n,rfl⟩:∃j,n=j+1:=⟨n-1,by omega⟩;obtain rfl:i=10:=by omega
  simp only[CJ.l5,show decide (((10:Nat):Int)<10)=false by decide,y_,yX,Cv,CJ.c12]
 |succ f ih=>
  intro n i acc hi hn hacc;obtain⟨n,rfl⟩:∃j,n=j+1:=⟨n-1,by omega⟩;have hP:0<2^(7*i):=Nat.two_pow_pos _;have Io:2^(7*(i+1))=128*2^(7*i):=by rw[Nat.mul_add,Nat.pow_add];simp[Nat.mul_comm]
  have c1:decide ((i:Int)<10)=true:=by simp;omega
  by_cases hlt:p+i<b.length
  ·obtain⟨c,hc,hc2⟩:=Ic hlt
   obtain⟨c0,JX⟩:=hby c (List.mem_of_getElem? hc2);have e1:IntKind.wrap .i64 ((b.length:Int)-(p:Int))=(b.length:Int)-p:=zh (by omega) (by omega);have e2:IntKind.wrap .i64 ((p:Int)+(i:Int))=((p+i:Nat):Int):=by rw[zh (by omega) (by omega)];omega
   have e3:IntKind.wrap .i64 (7*(i:Int))=((7*i:Nat):Int):=by rw[zh (by omega) (by omega)];omega
   have e5:IntKind.wrap .i64 (((p+i:Nat):Int)+1)=((p+i+1:Nat):Int):=by rw[zh (by omega) (by omega)];omega
   have e6:IntKind.wrap .i64 ((i:Int)+1)=((i+1:Nat):Int):=by rw[zh (by omega) (by omega)];omega
   have c2:decide ((i:Int)<(b.length:Int)-p)=true:=by simp;omega
   have c5:decide ((0:Int)≤((7*i:Nat):Int))=true:=zi (by omega);have hget:gU b ((p+i:Nat):Int)=some c:=by rw[Aq];exact hc2
   rw[hc,Cv];simp only[CJ.l5,c1,e1,c2,e2,e3,e5,e6,hget,yZ,yX,Ah];by_cases h9:f=0∧1<c
   ·obtain⟨rfl,h1c⟩:=h9
    obtain rfl:i=9:=by omega
    rw[if_pos ⟨rfl,h1c⟩];simp only[show(((9:Nat):Int)==9)=true by decide,show decide (c>1)=true from zi h1c,Bool.and_self,yZ,CJ.c12]
   ·rw[if_neg h9]
    have Lj:(((i:Int)==9)&&decide (c>1))=false:=by
     rw[Bool.eq_false_iff];intro q;simp only[Aa,beq_iff_eq,Ae] at q;exact h9 ⟨by omega,q.2⟩
    simp only[Lj,y_,c5,yZ];have hcm:(c%128)*2^(7*i)<18446744073709551616:=by
     by_cases hf:f=0
     ·have:i=9:=by omega
      subst this;have:c≤1:=by
       rcases Int.lt_or_le 1 c with q|q
       ·exact(h9 ⟨hf,q⟩).elim
       ·exact q
      have h2:(2:Int)^(7*9)=9223372036854775808:=by decide
      rw[h2];omega
     ·have:(2:Int)^(7*i)≤2^56:=by
       have:=Nat.pow_le_pow_right (n:=2) (by omega) (show 7*i≤56 by omega)
       exact_mod_cast this
      have h3:(2:Int)^56=72057594037927936:=by decide
      have h4:(0:Int)<2^(7*i):=by exact_mod_cast hP
      have:=Int.mul_le_mul (show c%128≤127 by omega) this (by omega) (by omega);omega
    have e4:pz .u64 (IntKind.wrap .u64 (bits .and .u8 c 127)) ((7*i:Nat):Int)=(c%128)*2^(7*i):=by
     rw[u8_and127 c0 JX,KY];unfold pz;rw[KY];have:min (((7*i:Nat):Int)).toNat (IntKind.bits .u64)=7*i:=by simp[IntKind.bits];omega
     rw[this,show(c%128)%18446744073709551616=c%128 by omega];have:0≤(c%128)*2^(7*i):=Int.mul_nonneg (by omega) (by exact_mod_cast Nat.zero_le _);omega
    have Jg:bits .or .u64 (acc:Int) ((c%128)*2^(7*i))=((acc+(c%128).toNat*2^(7*i):Nat):Int):=by
     rw[ab3 (i:=7*i) (by omega) (by exact_mod_cast hacc) (by omega) (by omega) (by omega)];have:c%128=(((c%128).toNat:Nat):Int):=by omega
     rw[this];simp
    rw[e4,Jg];by_cases h128:c<128
    ·rw[if_pos h128,zi h128,yZ]
     have:(c%128).toNat=c.toNat:=by omega
     rw[this]
    ·rw[if_neg h128,zl h128,y_]
     have hlt2:acc+(c%128).toNat*2^(7*i)<2^(7*(i+1)):=by
      rw[Io];have:(c%128).toNat*2^(7*i)≤127*2^(7*i):=Nat.mul_le_mul_right _ (by omega);omega
     rw[ih n (i+1) _ (by omega) (by omega) hlt2,←Nat.add_assoc];cases Cv f (b.drop (p+i+1)) with
     |none=>rfl
     |some x=>
      obtain⟨v,m⟩:=x;simp only[Option.map_some];rw[Io,show acc+(c%128).toNat*2^(7*i)+v*(128*2^(7*i))=acc+((c%128).toNat+128*v)*2^(7*i) by grind,show p+i+1+m=p+i+(m+1) by omega]
  ·have c2:decide ((i:Int)<IntKind.wrap .i64 ((b.length:Int)-(p:Int)))=false:=by
    rw[zh (by omega) (by omega)];exact zl (by omega)
   rw[List.drop_eq_nil_of_le (by omega),Cv];simp only[CJ.l5,c1,c2,yZ,y_,yX,CJ.c12]
theorem Ay(k:Nat)(a b c:Int):Ao k a b c=some (decide (b≤a)&&decide (a≤c)):=by
 unfold Ao;simp only[Ah,yX,ge_iff_le]
theorem AV(k:Nat)(a b c:Int):AP k a b c=some (decide (b≤a)&&decide (a≤c)):=by
 unfold AP;simp only[Ah,yX,ge_iff_le]
theorem Ai{α:Type}(pre post:List α)(x:α):gU (pre++x::post) (pre.length:Int)=some x:=by
 rw[Aq,List.getElem?_append_right (Nat.le_refl _)];simp
theorem EL{α:Type}(pre post:List α)(x y:α):List.set (pre++x::post) (Int.toNat (pre.length:Int)) y=pre++y::post:=by
 rw[Int.toNat_natCast,List.set_append_right _ _ (Nat.le_refl _)];simp
def wv:List Int→Nat
 |[]=>0
 |c::r=>c.toNat+256*wv r
theorem OE:∀(l:List Int),(∀x,x∈l→0≤x∧x<256)→wv l<2^(8*l.length)
 |[],_=>by simp[wv]
 |c::r,h=>by
  have h1:=OE r (fun x hx=>h x (by simp[hx]));obtain⟨h2,h3⟩:=h c (by simp);simp only[wv,A9];have:2^(8*(r.length+1))=256*2^(8*r.length):=by rw[Nat.mul_add,Nat.pow_add];simp[Nat.mul_comm]
  omega
theorem ace(k:Nat)(b:List Int)(p n:Nat)(hn:n≤8)(hl:p+n≤b.length)(hb:b.length<4611686018427387904)(hby:∀x,x∈b→0≤x∧x<256):∀(m f i acc:Nat),i+m=n→m<f→acc<2^(8*i)→
 Em.l5 k f b (p:Int) (n:Int) (IntKind.wrap .i64 (acc:Int)) (i:Int)=some (IntKind.wrap .i64 ((acc+wv ((b.drop (p+i)).take m)*2^(8*i):Nat):Int),((p+n:Nat):Int),true)∧
 Eu.l5 k f b (p:Int) (n:Int) (IntKind.wrap .i64 (acc:Int)) (n:Int) (i:Int)=some (IntKind.wrap .i64 ((acc+wv ((b.drop (p+i)).take m)*2^(8*i):Nat):Int),((p+n:Nat):Int),true):=by
 intro m
 induction m with
 |zero=>
  intro f i acc hi hf ha;obtain⟨f,rfl⟩:∃q,f=q+1:=⟨f-1,by omega⟩;have e:IntKind.wrap .i64 ((p:Int)+(n:Int))=((p+n:Nat):Int):=by rw[zh (by omega) (by omega)];omega
  simp only[Em.l5,Eu.l5,zl (show ¬((i:Int)<(n:Int)) by omega),y_,e,List.take_zero,wv,Nat.zero_mul,Nat.add_zero];exact⟨trivial,trivial⟩
 |succ m ih=>
  intro f i acc hi hf ha;obtain⟨f,rfl⟩:∃q,f=q+1:=⟨f-1,by omega⟩;obtain⟨c,hc,hc2⟩:=Ic (show p+i<b.length by omega);obtain⟨c0,c1⟩:=hby c (List.mem_of_getElem? hc2);have e1:IntKind.wrap .i64 ((p:Int)+(i:Int))=((p+i:Nat):Int):=by rw[zh (by omega) (by omega)];omega
  have e2:IntKind.wrap .i64 (8*(i:Int))=((8*i:Nat):Int):=by rw[zh (by omega) (by omega)];omega
  have e3:IntKind.wrap .i64 ((i:Int)+1)=((i+1:Nat):Int):=by rw[zh (by omega) (by omega)];omega
  have ec:IntKind.wrap .i64 c=((c.toNat:Nat):Int):=by rw[zh (by omega) (by omega)];omega
  have Nk:2^(8*(i+1))=256*2^(8*i):=by rw[Nat.mul_add,Nat.pow_add];simp[Nat.mul_comm]
  have hle:2^(8*(i+1))≤2^64:=Nat.pow_le_pow_right (by omega) (by omega);have hlt:acc+c.toNat*2^(8*i)<2^(8*(i+1)):=by
   rw[Nk];have:c.toNat*2^(8*i)≤255*2^(8*i):=Nat.mul_le_mul_right _ (by omega);omega
  have Jg:=Jv .i64 (a:=acc) (b:=c.toNat) (i:=8*i) (show 8*i≤64 by omega) ha (by show _<2^64;omega);have hg:gU b ((p+i:Nat):Int)=some c:=by rw[Aq];exact hc2
  simp only[Em.l5,Eu.l5,zi (show(i:Int)<(n:Int) by omega),yZ,e1,hg,yX,e2,zi (show(0:Int)≤((8*i:Nat):Int) by omega),ec,Jg,e3];obtain⟨i1,i2⟩:=ih f (i+1) _ (by omega) (by omega) hlt;have hw:acc+c.toNat*2^(8*i)+wv ((b.drop (p+(i+1))).take m)*2^(8*(i+1))=acc+wv ((b.drop (p+i)).take (m+1))*2^(8*i):=by
   rw[hc,List.take_succ_cons,wv,Nk,←Nat.add_assoc]
   grind
  rw[hw] at i1 i2;exact⟨i1,i2⟩
end Go.zJ
end
section
namespace Go.zJ
open Go.Am Go.Fn
variable(k:Nat)
abbrev GN(b:List Int):Prop:=∀x,x∈b→0≤x∧x<256
theorem OD:∀(l:List Int),GN l→∀(i:Nat) (x:Int),l[i]?=some x→x=((wv l/256^i%256:Nat):Int)
 |[],_,i,x,h=>by simp at h
 |c::r,hb,0,x,h=>by
  obtain⟨h0,h1⟩:=hb c (by simp);simp at h;subst h;simp only[wv,Nat.pow_zero,Nat.div_one];omega
 |c::r,hb,i+1,x,h=>by
  obtain⟨h0,h1⟩:=hb c (by simp);rw[OD r (fun y hy=>hb y (by simp[hy])) i x (by simpa using h)];have:(c.toNat+256*wv r)/256^(i+1)=wv r/256^i:=by
   rw[Nat.pow_succ,Nat.mul_comm (256^i) 256,←Nat.div_div_eq_div_mul]
   congr 1
   omega
  simp only[wv,this]
theorem aao(l:List Int)(hb:GN l):l=leB l.length (wv l):=by
 apply List.ext_getElem (by rw[CO]);intro i h1 h2;rw[OD l hb i l[i] (DF h1)];have:=Jr (M:=wv l) h1;rw[DF h2] at this;exact(Option.some.inj this).symm
theorem aai(pre post:List Int)(L M p:Nat)(hp:p<8*L)(hl:pre.length+L<100000000000000000):KQ k (pre++(leB L M++post)) ((8*pre.length+p:Nat):Int)=some ((M/2^p%2:Nat):Int):=by
 unfold KQ;have hd:(8*pre.length+p)/8=pre.length+p/8:=by omega
 have hm:(8*pre.length+p)%8=p%8:=by omega
 have hg:gU (pre++(leB L M++post)) ((pre.length+p/8:Nat):Int)=some ((M/256^(p/8)%256:Nat):Int):=by
  rw[Aq,List.getElem?_append_right (by omega),List.getElem?_append_left (by rw[CO];omega),Nat.add_sub_cancel_left];exact Jr (by omega)
 have hlt:M/256^(p/8)%256<256:=Nat.mod_lt _ (by decide);simp only[Kb (show 8*pre.length+p<1152921504606846976 by omega),Ka,hd,hm,hg,yX,zi (show(0:Int)≤((p%8:Nat):Int) by omega),yZ];rw[zh (x:=((M/256^(p/8)%256:Nat):Int)) (by omega) (by omega),GI .i64 _ (p%8) (show p%8≤64 by omega),and1,←Nz M p];simp
theorem abF(L6:(List Int)→Int→Int→Int→Int→Int→(List Int)→Option ((Unit×Int×Bool)×(List Int)))(pre post:List Int)(L M w i q:Nat)(t2 t12:Int)(hw:w≤64)(hq:(i:Int)*(w:Int)=(q:Int))(Ls:i*w=q)(Lr:q+w≤8*L)(hl:pre.length+L<10000000000000000)(hi:i<1000000)(o:List Int)(ho:o.length<1000000):
 ∀(m n j:Nat),j+m=w→m<n→CF.l10 k L6 n (pre++(leB L M++post)) (pre.length:Int) t2 (w:Int) t12 (i:Int) (IntKind.wrap .i64 ((M/2^q%2^j:Nat):Int)) (j:Int) o=L6 (pre++(leB L M++post)) (pre.length:Int) t2 (w:Int) t12 ((i+1:Nat):Int) (o++[GK w M i]):=by
 intro m
 induction m with
 |zero=>
  intro n j hj hn;obtain⟨n,rfl⟩:∃x,n=x+1:=⟨n-1,by omega⟩;obtain rfl:j=w:=by omega
  simp only[CF.l10,zl (show ¬(j:Int)<(j:Int) by omega),y_];rw[Bn (by simp;omega),yZ,zh (x:=(i:Int)+1) (by omega) (by omega)];unfold GK;rw[Ls]
  congr 1
 |succ m ih=>
  intro n j hj hn;obtain⟨n,rfl⟩:∃x,n=x+1:=⟨n-1,by omega⟩;have hp:IntKind.wrap .i64 (IntKind.wrap .i64 (IntKind.wrap .i64 (8*(pre.length:Int))+IntKind.wrap .i64 ((i:Int)*(w:Int)))+(j:Int))=((8*pre.length+(q+j):Nat):Int):=by
   rw[hq,zh (x:=(q:Int)) (by omega) (by omega),zh (x:=8*(pre.length:Int)) (by omega) (by omega),zh (x:=8*(pre.length:Int)+(q:Int)) (by omega) (by omega),zh (by omega) (by omega)];omega
  have hb:=aai k pre post L M (q+j) (by omega) (by omega);simp only[CF.l10,zi (show(j:Int)<(w:Int) by omega),yZ,hp,hb,yX,zi (show(0:Int)≤(j:Int) by omega)];have hlt:M/2^q%2^j<2^j:=Nat.mod_lt _ (Nat.two_pow_pos j);have hjj:2^(j+1)≤2^64:=Nat.pow_le_pow_right (by decide) (by omega);have hb1:M/2^(q+j)%2≤1:=by omega
  have hb2:M/2^(q+j)%2*2^j≤1*2^j:=Nat.mul_le_mul_right _ hb1;have ho:=Jv .i64 (a:=M/2^q%2^j) (b:=M/2^(q+j)%2) (i:=j) (show j≤64 by omega) hlt (show _<2^64 by rw[Nat.pow_succ] at hjj;omega);rw[ho];have hs:M/2^q%2^j+M/2^(q+j)%2*2^j=M/2^q%2^(j+1):=by
   rw[mod_succ,Nat.div_div_eq_div_mul,←Nat.pow_add]
  rw[hs,zh (x:=(j:Int)+1) (by omega) (by omega),show((j:Int)+1)=((j+1:Nat):Int) by omega];exact ih n (j+1) (by omega) (by omega)
theorem abG(pre post:List Int)(L M w N:Nat)(t12:Int)(hw:w≤64)(hN:N*w≤8*L)(hl:pre.length+L<10000000000000000)(Ll:N<1000000)(hk:w<k):
 ∀(m n i:Nat) (o:List Int),i+m=N→m<n→o.length=i→CF.l6 k n (pre++(leB L M++post)) (pre.length:Int) (N:Int) (w:Int) t12 (i:Int) o=some (((),IntKind.wrap .i64 ((pre.length:Int)+t12),true),o++(List.range' i m).map (GK w M)):=by
 intro m
 induction m with
 |zero=>
  intro n i o hi hn ho;obtain⟨n,rfl⟩:∃x,n=x+1:=⟨n-1,by omega⟩;simp only[CF.l6,zl (show ¬(i:Int)<(N:Int) by omega),y_];simp
 |succ m ih=>
  intro n i o hi hn ho;obtain⟨n,rfl⟩:∃x,n=x+1:=⟨n-1,by omega⟩;have hmul:i*w+w≤N*w:=by
   have:(i+1)*w≤N*w:=Nat.mul_le_mul_right _ (by omega);rw[Nat.add_mul,Nat.one_mul] at this;exact this
  have hi':=abF k (CF.l6 k n) pre post L M w i (i*w) (N:Int) t12 hw (by simp) rfl (by omega) hl (by omega) o (by omega) w k 0 (by omega) hk;simp only[Nat.pow_zero,Nat.mod_one] at hi';simp only[CF.l6,zi (show(i:Int)<(N:Int) by omega),yZ];have h0:((0:Nat):Int)=0:=rfl;have hw0:IntKind.wrap .i64 0=0:=rfl;rw[h0,hw0] at hi';rw[hi',ih n (i+1) _ (by omega) (by omega) (by simp;omega)];simp[List.range'_succ]
theorem O3(n w:Int):∃z:Int,Kg k n w=some z∧IQ k n w=some z∧
 ((z= -1∧¬(0≤n∧n≤2000∧0≤w∧w≤62))∨(0≤n∧n≤2000∧0≤w∧w≤62∧z=((bytesOf n.toNat w.toNat:Nat):Int))):=by
 unfold Kg IQ;simp only[Ay,AV,yX,cst];by_cases h:0≤n∧n≤2000∧0≤w∧w≤62
 ·obtain⟨h1,h2,h3,h4⟩:=h
  obtain⟨n,rfl⟩:∃m:Nat,n=m:=⟨n.toNat,by omega⟩;obtain⟨w,rfl⟩:∃m:Nat,w=m:=⟨w.toNat,by omega⟩;have:=(len8 (n:=n) (w:=w) (by omega) (by omega)).1;simp only[zi h1,zi h2,zi h3,zi h4,Bool.and_self,zq,AX,y_,this];exact⟨_,rfl,rfl,.inr ⟨h1,h2,h3,h4,by simp⟩⟩
 ·have:((!(decide (0≤n)&&decide (n≤2000)))|| !(decide (0≤w)&&decide (w≤62)))=true:=by
   by_cases a:0≤n<;>by_cases b:n≤2000<;>by_cases c:0≤w<;>by_cases d:w≤62<;>simp[a,b,c,d]
   exact h ⟨a,b,c,d⟩
  simp only[this,yZ];exact⟨_,rfl,rfl,.inl ⟨rfl,h⟩⟩
theorem O4(hk:3000≤k)(b:List Int)(hb:b.length<1000000000000000)(hby:GN b)(at_ n w:Int)(ha:zM at_):
 ∃nx ok l,Ke k b at_ n w=some (((),nx,ok),l)∧CF k b at_ n w=some (((),nx,ok),l)∧
  (ok=false→nx=0∧l=[])∧(ok=true→0≤n∧n≤2000∧0≤w∧w≤62∧l.length=n.toNat∧0≤at_∧nx=at_+(bytesOf n.toNat w.toNat:Nat)∧nx≤(b.length:Int)∧∀x,x∈l→0≤x∧x<2^w.toNat):=by
 obtain⟨z,h1,h2,hz⟩:=O3 k n w;unfold Ke CF;simp only[h1,h2,yX,Ay,AV,cst];rcases hz with⟨rfl,hn⟩|⟨n0,n1,w0,w1,hz⟩
 ·simp only[zi (show(-1:Int)<0 by decide),Ac,yZ]
  exact⟨_,_,_,rfl,rfl,fun _=>⟨rfl,rfl⟩,fun h=>by cases h⟩
 obtain⟨n,rfl⟩:∃m:Nat,n=m:=⟨n.toNat,by omega⟩;obtain⟨w,rfl⟩:∃m:Nat,w=m:=⟨w.toNat,by omega⟩;simp only[Int.toNat_natCast] at hz;have Nq:=len8 (n:=n) (w:=w) (by omega) (by omega);subst hz;by_cases hat:0≤at_∧at_≤(b.length:Int)
 ·obtain⟨a0,a1⟩:=hat
  obtain⟨p,rfl⟩:∃m:Nat,at_=m:=⟨at_.toNat,by omega⟩;have e:IntKind.wrap .i64 ((b.length:Int)-(p:Int))=(b.length:Int)-p:=zh (by omega) (by omega);simp only[zi a0,zi a1,Bool.and_self,zq,zl (show ¬((bytesOf n w:Nat):Int)<0 by omega),AX,AB,e];by_cases hfit:((bytesOf n w:Nat):Int)≤(b.length:Int)-p
  ·simp only[zl (show ¬((bytesOf n w:Nat):Int)>(b.length:Int)-p by omega),zl (show ¬(b.length:Int)-p<((bytesOf n w:Nat):Int) by omega),y_]
   have hlen:((b.drop p).take (bytesOf n w)).length=bytesOf n w:=by rw[List.length_take,List.length_drop];omega
   have hsp:b=b.take p++(leB (bytesOf n w) (wv ((b.drop p).take (bytesOf n w)))++b.drop (p+bytesOf n w)):=by
    have h3:=aao ((b.drop p).take (bytesOf n w)) (fun x hx=>hby x (List.mem_of_mem_drop (List.mem_of_mem_take hx)));rw[hlen] at h3;rw[←h3,←List.drop_drop,List.take_append_drop,List.take_append_drop]
   have hpl:(b.take p).length=p:=by rw[List.length_take];omega
   generalize wv ((b.drop p).take (bytesOf n w))=M at hsp;have u1:=ab6 k (b.take p) (b.drop (p+bytesOf n w)) (bytesOf n w) M w n (by omega) Nq.2.2 (by rw[hpl];omega) (by omega) (by omega) (by omega);have u2:=abG k (b.take p) (b.drop (p+bytesOf n w)) (bytesOf n w) M w n ((bytesOf n w:Nat):Int) (by omega) Nq.2.2 (by rw[hpl];omega) (by omega) (by omega) n k 0 [] (by omega) (by omega) rfl;rw[←hsp,hpl] at u1 u2;rw[show((0:Nat):Int)=0 from rfl,List.nil_append,←List.range_eq_range'] at u2;have e2:IntKind.wrap .i64 ((p:Int)+((bytesOf n w:Nat):Int))=(p:Int)+(bytesOf n w:Nat):=zh (by omega) (by omega);rw[e2] at u2;simp only[u1,u2,yX,e2];refine⟨_,_,_,rfl,rfl,(fun h=>by cases h),fun _=>⟨by omega,by omega,by omega,by omega,by simp,a0,by simp,by omega,?_⟩⟩;intro x hx;obtain⟨i,_,rfl⟩:=List.mem_map.1 hx;have hlt:M/2^(i*w)%2^w<2^w:=Nat.mod_lt _ (Nat.two_pow_pos w);have ac4:2^w≤2^62:=Nat.pow_le_pow_right (by decide) (by omega);unfold GK;rw[Int.toNat_natCast,zh (by omega) (by omega)];refine⟨by omega,?_⟩
   exact_mod_cast hlt
  ·simp only[zi (show((bytesOf n w:Nat):Int)>(b.length:Int)-p by omega),zi (show(b.length:Int)-p<((bytesOf n w:Nat):Int) by omega),yZ]
   exact⟨_,_,_,rfl,rfl,fun _=>⟨rfl,rfl⟩,fun h=>by cases h⟩
 ·have:(decide (0≤at_)&&decide (at_≤(b.length:Int)))=false:=by
   by_cases a:0≤at_<;>by_cases c:at_≤(b.length:Int)<;>simp[a,c]
   exact hat ⟨a,c⟩
  simp only[this,zO,Bool.or_true,Ac,yZ];exact⟨_,_,_,rfl,rfl,fun _=>⟨rfl,rfl⟩,fun h=>by cases h⟩
end Go.zJ
end
section
namespace Go.zJ
open Go.Am Go.Fn
variable(k:Nat)
theorem O7(L6:(List Int)→Int→Int→(List Int)→Option ((Unit×Bool)×(List Int)))(vs:List Int)(v:Int)(w i q L M0:Nat)(hw:w≤64)(hq:(i:Int)*(w:Int)=(q:Int))(Lr:q+w≤8*L)(hL:L<1000000)(hi:i<1000000)(hM:M0<2^q)(hv:gU vs (i:Int)=some v):
 ∀(m n j:Nat),j+m=w→m<n→Bf.Bd k L6 n vs (w:Int) (i:Int) (j:Int) (leB L (M0+(u64 v%2^j)*2^q))=L6 vs (w:Int) ((i+1:Nat):Int) (leB L (M0+(u64 v%2^w)*2^q)):=by
 intro m
 induction m with
 |zero=>
  intro n j hj hn;obtain⟨n,rfl⟩:∃x,n=x+1:=⟨n-1,by omega⟩;obtain rfl:j=w:=by omega
  simp only[Bf.Bd,zl (show ¬(j:Int)<(j:Int) by omega),y_];rw[zh (by omega) (by omega)]
  congr 1
 |succ m ih=>
  intro n j hj hn;obtain⟨n,rfl⟩:∃x,n=x+1:=⟨n-1,by omega⟩;have hp:IntKind.wrap .i64 (IntKind.wrap .i64 ((i:Int)*(w:Int))+(j:Int))=((q+j:Nat):Int):=by
   rw[hq,zh (x:=(q:Int)) (by omega) (by omega),zh (by omega) (by omega)];omega
  have hlt:=ND (u:=u64 v) (j:=j) hM;have hb:u64 v/2^j%2≤1:=by omega
  have hg:gU (leB L (M0+u64 v%2^j*2^q)) (((q+j)/8:Nat):Int)=some _:=Jr (by omega);have hi:=ih n (j+1) (by omega) (by omega);rw[←NF] at hi;simp only[Bf.Bd,zi (show(j:Int)<(w:Int) by omega),yZ,hp,Kb (show q+j<1152921504606846976 by omega),Ka,hg,hv,yX,zi (show(0:Int)≤(j:Int) by omega),zi (show(0:Int)≤(((q+j)%8:Nat):Int) by omega),N8 v (show j<64 by omega),Bf.c12];rw[zh (x:=(j:Int)+1) (by omega) (by omega),show((j:Int)+1)=((j+1:Nat):Int) by omega];rcases Nat.eq_zero_or_pos (u64 v/2^j%2) with h0|h0
  ·rw[h0] at hi⊢
   rw[zn (by decide),y_];simpa using hi
  ·have h1:u64 v/2^j%2=1:=by omega
   have ho:=NP hlt (show 1≤1 by omega);have hs:=NA (L:=L) (show q+j<8*L by omega) hlt (show 1≤1 by omega);have h11:((1:Nat):Int)=1:=rfl;rw[h11] at ho;rw[h1] at hi⊢;rw[zQ (by rfl),yZ,Int.toNat_natCast,ho,hs];exact hi
theorem O8(w L:Nat)(hw:w≤62)(hL:L<1000000)(hk:w<k)(vs:List Int)(hvs:vs.length<1000000)(hr:∀v,v∈vs→0≤v∧v<2^w)(hb:vs.length*w≤8*L):∀(post pre:List Int) (n:Nat),vs=pre++post→post.length<n→
 Bf.l6 k n vs (w:Int) (pre.length:Int) (leB L (Gh w pre))=some (((),true),leB L (Gh w vs)):=by
 intro post
 induction post with
 |nil=>
  intro pre n hv hn;obtain⟨n,rfl⟩:∃x,n=x+1:=⟨n-1,by omega⟩;have:vs=pre:=by simpa using hv
  subst this;simp only[Bf.l6,zl (show ¬(vs.length:Int)<(vs.length:Int) by omega),y_]
 |cons v post ih=>
  intro pre n hv hn;simp only[A9] at hn;obtain⟨n,rfl⟩:∃x,n=x+1:=⟨n-1,by omega⟩;have hlen:vs.length=pre.length+(post.length+1):=by rw[hv];simp
  have hg:gU vs (pre.length:Int)=some v:=by rw[hv,Aq,List.getElem?_append_right (Nat.le_refl _)];simp
  obtain⟨v0,v1⟩:=hr v (by rw[hv];simp);have hM:=LH w (pre.map u64);rw[List.length_map] at hM;have hmul:pre.length*w+w≤vs.length*w:=by
   have:(pre.length+1)*w≤vs.length*w:=Nat.mul_le_mul_right _ (by omega);rw[Nat.add_mul,Nat.one_mul] at this;exact this
  have hi:=O7 k (Bf.l6 k n) vs v w pre.length (pre.length*w) L (Gh w pre) (by omega) (by simp) (by omega) hL (by omega) hM hg w k 0 (by omega) hk;simp only[Nat.pow_zero,Nat.mod_one,Nat.zero_mul,Nat.add_zero] at hi;have hsh:pE .i64 v (w:Int)=0:=by
   rw[GI .i64 v w (show w≤64 by omega)];exact Int.ediv_eq_zero_of_lt v0 v1
  simp only[Bf.l6,zi (show(pre.length:Int)<(vs.length:Int) by omega),yZ,hg,yX,zl (show ¬v<0 by omega),y_,zi (show(0:Int)≤(w:Int) by omega),hsh,show((0:Int) !=0)=false from rfl];have h0:((0:Nat):Int)=0:=rfl;rw[h0] at hi;rw[hi];have:=ih (pre++[v]) n (by rw[hv];simp) (by omega);rw[Ab,AJ] at this;rw[←this];unfold Gh;rw[List.map_append,List.map_singleton,LJ,List.length_map]
theorem O1(vs:List Int)(w:Nat)(hw:w≤62)(hvs:vs.length≤2000)(hr:∀v,v∈vs→0≤v∧v<2^w)(hk:vs.length<k)(hk2:w<k):Bf k vs (w:Int)=some (((),true),KC w vs):=by
 obtain⟨h1,h2,h3⟩:=len8 (n:=vs.length) (w:=w) (by omega) (by omega);unfold Bf IQ;simp only[AV,yX,cst,zi (show(0:Int)≤(vs.length:Int) by omega),zi (show(vs.length:Int)≤2000 by omega),zi (show(0:Int)≤(w:Int) by omega),zi (show(w:Int)≤62 by omega),Bool.and_self,zq,AX,y_,h1,zl (show ¬((bytesOf vs.length w:Nat):Int)<0 by omega)];rw[GD (by omega) (by omega),yZ,Int.toNat_natCast,←NB];exact O8 k w _ hw h2 hk2 vs (by omega) hr h3 vs [] k rfl hk
theorem aan(n M:Nat):leB (n+1) M=leB n M++[((M/256^n%256:Nat):Int)]:=by
 unfold leB;rw[List.range_succ,List.map_append,List.map_singleton]
theorem abB(v:Int){i:Nat}(hi:i<8):IntKind.wrap .u8 (pE .i64 v ((8*i:Nat):Int))=((u64 v/256^i%256:Nat):Int):=by
 rw[GI .i64 v (8*i) (show 8*i≤64 by omega),OC];have hp:(256:Nat)^i=2^(8*i):=by rw[Nat.pow_mul]
 have hpi:((2:Int)^(8*i))=((2^(8*i):Nat):Int):=by simp
 rw[Int.natCast_emod,Int.natCast_ediv,Oh,hp,←hpi];rcases(show i=0∨i=1∨i=2∨i=3∨i=4∨i=5∨i=6∨i=7 by omega) with rfl|rfl|rfl|rfl|rfl|rfl|rfl|rfl<;>simp<;>omega
theorem acf(v:Int)(n:Nat)(hn:n≤8)(h1:1≤n):∀(m f i:Nat),i+m=n→m<f→
 DZ.l5 k f v (n:Int) (i:Int) (leB i (u64 v))=some ((),leB n (u64 v))∧DK.l3 k f v (n:Int) (i:Int) (leB i (u64 v))=some ((),leB n (u64 v)):=by
 intro m
 induction m with
 |zero=>
  intro f i hi hf;obtain⟨f,rfl⟩:∃q,f=q+1:=⟨f-1,by omega⟩;obtain rfl:i=n:=by omega
  simp only[DZ.l5,DK.l3,zl (show ¬(i:Int)<(i:Int) by omega),y_,yX];exact⟨trivial,trivial⟩
 |succ m ih=>
  intro f i hi hf;obtain⟨f,rfl⟩:∃q,f=q+1:=⟨f-1,by omega⟩;have e2:IntKind.wrap .i64 (8*(i:Int))=((8*i:Nat):Int):=by rw[zh (by omega) (by omega)];omega
  have e3:IntKind.wrap .i64 ((i:Int)+1)=((i+1:Nat):Int):=by rw[zh (by omega) (by omega)];omega
  have hr:(decide ((1:Int)≤(n:Int))&&decide ((n:Int)≤8))=true:=by simp;omega
  simp only[DZ.l5,DK.l3,AV,hr,zi (show(i:Int)<(n:Int) by omega),yZ,yX,e2,e3,zi (show(0:Int)≤((8*i:Nat):Int) by omega),abB v (show i<8 by omega),Bn (show(leB i (u64 v)).length+[((u64 v/256^i%256:Nat):Int)].length≤4294967296 by rw[CO];simp;omega),←aan];exact ih f (i+1) (by omega) (by omega)
theorem Oz(hk:100≤k)(v:Int)(n:Nat)(hn:n≤8)(h1:1≤n):DZ k v (n:Int)=some ((),leB n (u64 v))∧DK k v (n:Int)=some ((),leB n (u64 v)):=by
 obtain⟨a,b⟩:=acf k v n hn h1 n k 0 (by omega) (by omega);have hr:(decide ((1:Int)≤(n:Int))&&decide ((n:Int)≤8))=true:=by simp;omega
 unfold DZ DK;simp only[Ay,hr,yX,zq,y_];exact⟨a,b⟩
end Go.zJ
end
section
namespace Go.zJ
open Go.Am Go.Fn
variable(k:Nat)
def Cb(t:Int):Bool:=t==0||t==1||t==2||t==5||t==6
theorem Kr(t:Int):DN k t=some (Cb t):=by
 unfold DN DN.c7 Cb;by_cases h0:t=0
 ·subst h0;simp
 by_cases h1:t=1
 ·subst h1;simp
 by_cases h2:t=2
 ·subst h2;simp
 by_cases h5:t=5
 ·subst h5;simp
 by_cases h6:t=6
 ·subst h6;simp
 simp[zn h0,zn h1,zn h2,zn h5,zn h6,h0,h1,h2,h5,h6]
theorem KT(t:Int):G_ k t=some (Cb t):=by
 unfold G_ Cb;simp only[Ay,yX,cst]
 congr 1
 by_cases h:0≤t∧t≤2
 ·rw[zi h.1,zi h.2]
  rcases(show t=0∨t=1∨t=2 by omega) with rfl|rfl|rfl<;>rfl
 ·have:(decide (0≤t)&&decide (t≤2))=false:=by
   rw[Bool.eq_false_iff];intro hh;simp only[Aa,Ae] at hh;exact h hh
  rw[this,zn (show ¬t=0 by omega),zn (show ¬t=1 by omega),zn (show ¬t=2 by omega)];rfl
end Go.zJ
end
section
namespace Go.zJ
open Go.Am Go.Fn
variable(k:Nat)
def AZ(t:Int)(v:ze):Bool:=
 if t=0 then(decide (0≤v.1)&&decide (v.1≤1))&&iY v.2.1 ⟨#[]⟩
 else if t=1 then(decide (-2147483648≤v.1)&&decide (v.1≤2147483647))&&iY v.2.1 ⟨#[]⟩
 else if t=2∨t=5 then iY v.2.1 ⟨#[]⟩
 else if t=6 then v.1==0&&decide ((v.2.1.size:Int)≤40)
 else false
theorem KV(t:Int)(v:ze):DY k t v=some (AZ t v):=by
 unfold DY DY.c8 He AZ;by_cases h0:t=0
 ·subst h0
  simp only[Ay,zQ rfl,yZ,yX,Ah,if_true]
 by_cases h1:t=1
 ·subst h1
  simp only[Ay,zn h0,zQ rfl,yZ,y_,yX,Ah,if_neg h0,if_true]
 by_cases h2:t=2
 ·subst h2
  simp only[zn h0,zn h1,zQ rfl,yZ,y_,if_neg h0,if_neg h1,true_or,if_true]
 by_cases h5:t=5
 ·subst h5
  simp only[zn h0,zn h1,zn h2,zQ rfl,yZ,y_,if_neg h0,if_neg h1,or_true,if_true]
 by_cases h6:t=6
 ·subst h6
  simp only[zn h0,zn h1,zn h2,zn h5,zQ rfl,yZ,y_,if_neg h0,if_neg h1,yX,Ah,if_true];rw[if_neg (by decide)]
 ·simp only[zn h0,zn h1,zn h2,zn h5,zn h6,yZ,y_,if_neg h0,if_neg h1,yX,Ah,if_neg h6]
  rw[if_neg (by omega)];rfl
theorem JI(t:Int)(v:ze):D7 k t v=some (AZ t v):=by
 unfold D7 D7.c8 HV AZ;by_cases h0:t=0
 ·subst h0
  simp only[AV,zQ rfl,yZ,yX,Ah,if_true]
 by_cases h1:t=1
 ·subst h1
  simp only[AV,zn h0,zQ rfl,yZ,y_,yX,Ah,if_neg h0,if_true]
 by_cases h2:t=2
 ·subst h2
  simp only[zn h0,zn h1,zQ rfl,yZ,y_,if_neg h0,if_neg h1,true_or,if_true]
 by_cases h5:t=5
 ·subst h5
  simp only[zn h0,zn h1,zn h2,zQ rfl,yZ,y_,if_neg h0,if_neg h1,or_true,if_true]
 by_cases h6:t=6
 ·subst h6
  simp only[zn h0,zn h1,zn h2,zn h5,zQ rfl,yZ,y_,if_neg h0,if_neg h1,yX,Ah,if_true];rw[if_neg (by decide)]
 ·simp only[zn h0,zn h1,zn h2,zn h5,zn h6,yZ,y_,if_neg h0,if_neg h1,yX,Ah,if_neg h6]
  rw[if_neg (by omega)]
end Go.zJ
end
section
namespace Go.zJ
open Go.Am Go.Fn
variable(k:Nat)
theorem ab9(t:Int)(l:List ze)(hl:l.length<1000000000):∀(post pre:List ze) (n n':Nat),l=pre++post→post.length<n→post.length<n'→
 E9.l2 k n t l l (l.length:Int) (pre.length:Int)=some (post.all (AZ t)&&(decide ((l.length:Int)≤2000)&&Cb t))∧FH.l4 k n' t l (pre.length:Int)=some (post.all (AZ t)):=by
 intro post
 induction post with
 |nil=>
  intro pre n n' hl' hn hn';obtain⟨n,rfl⟩:∃m,n=m+1:=⟨n-1,by omega⟩;obtain⟨n',rfl⟩:∃m,n'=m+1:=⟨n'-1,by omega⟩;have:l=pre:=by simpa using hl'
  subst this;simp only[E9.l2,FH.l4,zl (show ¬(l.length:Int)<(l.length:Int) by omega),y_,KT,yX,Ah,List.all_nil,CX];exact⟨trivial,trivial⟩
 |cons x post ih=>
  intro pre n n' hl' hn hn';simp only[A9] at hn hn';obtain⟨n,rfl⟩:∃m,n=m+1:=⟨n-1,by omega⟩;obtain⟨n',rfl⟩:∃m,n'=m+1:=⟨n'-1,by omega⟩;have hlen:l.length=pre.length+(post.length+1):=by rw[hl'];simp
  have hg:gU l (pre.length:Int)=some x:=by rw[hl'];exact Ai _ _ _
  have hi:=ih (pre++[x]) n n' (by rw[hl'];simp) (by omega) (by omega);rw[Ab,AJ] at hi;simp only[E9.l2,FH.l4,zi (show(pre.length:Int)<(l.length:Int) by omega),yZ,hg,yX,KV,JI,List.all_cons];rw[zh (by omega) (by omega),show((pre.length:Int)+1)=((pre.length+1:Nat):Int) by omega];cases hv:AZ t x with
  |false=>exact⟨rfl,rfl⟩
  |true=>
   simp only[zq,y_,CX];exact hi
def En(t:Int)(l:List ze):Bool:=l.all (AZ t)&&(decide ((l.length:Int)≤2000)&&Cb t)
theorem acd(t:Int)(l:List ze)(hl:l.length<1000000000)(hk:l.length<k):E9 k t l=some (En t l)∧FH k t l=some (En t l):=by
 obtain⟨h1,h2⟩:=ab9 k t l hl l [] k k rfl hk hk;rw[List.length_nil,show((0:Nat):Int)=0 from rfl] at h1 h2;unfold E9 FH En;refine⟨h1,?_⟩;simp only[Kr,yX,cst];by_cases hl2:(l.length:Int)≤2000
 ·rw[zl (show ¬(l.length:Int)>2000 by omega),zi hl2]
  cases Cb t with
  |false=>simp
  |true=>simp[h2]
 ·rw[zi (show(l.length:Int)>2000 by omega),zl hl2]
  simp
end Go.zJ
end
section
namespace Go.zJ
open Go.Am Go.Fn
variable(k:Nat)
def De(t:Int)(v:ze):List Int:=
 if t=6 then leB 4 (u64 (v.2.1.size:Int))++eZ v.2.1 else if t=1 then leB 4 (u64 v.1) else leB 8 (u64 v.1)
def Hw(t:Int)(l:List ze):List Int:=
 if t=0 then KC 1 (l.map (·.1)) else(l.map (De t)).flatten
theorem Mc{t:Int}{v:ze}(h:AZ t v=true):(t=0∧0≤v.1∧v.1≤1∧v.2.1=⟨#[]⟩)∨(t=1∧-2147483648≤v.1∧v.1≤2147483647∧v.2.1=⟨#[]⟩)∨((t=2∨t=5)∧v.2.1=⟨#[]⟩)∨(t=6∧v.1=0∧v.2.1.size≤40):=by
 unfold AZ at h;by_cases h0:t=0
 ·subst h0
  rw[if_pos rfl,BH] at h;simp at h;exact .inl ⟨rfl,h.1.1,h.1.2,h.2⟩
 by_cases h1:t=1
 ·subst h1
  rw[if_neg (by decide),if_pos rfl,BH] at h;simp at h;exact .inr (.inl ⟨rfl,h.1.1,h.1.2,h.2⟩)
 by_cases h2:t=2∨t=5
 ·rw[if_neg h0,if_neg h1,if_pos h2,BH] at h
  simp at h;exact .inr (.inr (.inl ⟨h2,h⟩))
 by_cases h6:t=6
 ·subst h6
  rw[if_neg h0,if_neg h1,if_neg h2,if_pos rfl] at h;simp at h;exact .inr (.inr (.inr ⟨rfl,h.1,by omega⟩))
 ·rw[if_neg h0,if_neg h1,if_neg h2,if_neg h6] at h
  cases h
theorem KW{t:Int}{l:List ze}:En t l=true↔(∀v,v∈l→AZ t v=true)∧l.length≤2000∧Cb t=true:=by
 unfold En;simp only[Aa,List.all_eq_true,Ae];constructor
 ·intro⟨a,b,c⟩;exact⟨a,by omega,c⟩
 ·intro⟨a,b,c⟩;exact⟨a,by omega,c⟩
theorem aa6{t:Int}{v:ze}(h:AZ t v=true):(De t v).length≤44:=by
 unfold De;rcases Mc h with⟨rfl,_⟩|⟨rfl,_⟩|⟨ht|ht,_⟩|⟨rfl,_,h3⟩
 ·rw[if_neg (by decide),if_neg (by decide),CO];omega
 ·rw[if_neg (by decide),if_pos rfl,CO];omega
 ·subst ht;rw[if_neg (by decide),if_neg (by decide),CO];omega
 ·subst ht;rw[if_neg (by decide),if_neg (by decide),CO];omega
 ·rw[if_pos rfl,Ab,CO,uo];omega
theorem aaM(l:List ze)(hl:l.length<1000000000):∀(post pre:List ze) (n:Nat),l=pre++post→post.length<n→
 FN.l3 k n l (l.length:Int) (pre.length:Int) (pre.map (·.1))=some ((),l.map (·.1)):=by
 intro post
 induction post with
 |nil=>
  intro pre n hv hn;obtain⟨n,rfl⟩:∃x,n=x+1:=⟨n-1,by omega⟩;have:l=pre:=by simpa using hv
  subst this;simp only[FN.l3,zl (show ¬(l.length:Int)<(l.length:Int) by omega),y_]
 |cons v post ih=>
  intro pre n hv hn;simp only[A9] at hn;obtain⟨n,rfl⟩:∃x,n=x+1:=⟨n-1,by omega⟩;have hlen:l.length=pre.length+(post.length+1):=by rw[hv];simp
  have hg:gU l (pre.length:Int)=some v:=by rw[hv];exact Ai pre post v
  have:=ih (pre++[v]) n (by rw[hv];simp) (by omega);rw[Ab,AJ,List.map_append] at this;simp only[FN.l3,zi (show(pre.length:Int)<(l.length:Int) by omega),yZ,hg,yX,Bn (show(pre.map (·.1)).length+[v.1].length≤4294967296 by simp;omega),zh (x:=(pre.length:Int)+1) (by omega) (by omega)];exact this
theorem aa5(hk:100≤k)(t:Int)(l:List ze)(h:En t l=true)(ht:t≠0):∀(post pre:List ze) (n:Nat) (o:List Int),l=pre++post→post.length<n→o.length≤44*pre.length→
 AU.l7 k n t l (l.length:Int) (pre.length:Int) o=some (((),true),o++(post.map (De t)).flatten)∧
 Bq.l6 k n t l (pre.length:Int) o []=some (((),true),o++(post.map (De t)).flatten):=by
 obtain⟨hv,hl,hty⟩:=KW.1 h;intro post
 induction post with
 |nil=>
  intro pre n o hp hn ho;obtain⟨n,rfl⟩:∃x,n=x+1:=⟨n-1,by omega⟩;have:l=pre:=by simpa using hp
  subst this;simp only[AU.l7,Bq.l6,zl (show ¬(l.length:Int)<(l.length:Int) by omega),y_,zn ht];simp
 |cons v post ih=>
  intro pre n o hp hn ho;simp only[A9] at hn;obtain⟨n,rfl⟩:∃x,n=x+1:=⟨n-1,by omega⟩;have hlen:l.length=pre.length+(post.length+1):=by rw[hp];simp
  have hg:gU l (pre.length:Int)=some v:=by rw[hp];exact Ai pre post v
  have hvv:AZ t v=true:=hv v (by rw[hp];simp);have hbl:=aa6 hvv;obtain⟨i1,i2⟩:=ih (pre++[v]) n (o++De t v) (by rw[hp];simp) (by omega) (by simp;omega);rw[Ab,AJ] at i1 i2;have w4:∀x:Int,DZ k x 4=some ((),leB 4 (u64 x))∧DK k x 4=some ((),leB 4 (u64 x)):=fun x=>Oz k hk x 4 (by omega) (by omega);have Ot:∀x:Int,DZ k x 8=some ((),leB 8 (u64 x))∧DK k x 8=some ((),leB 8 (u64 x)):=fun x=>Oz k hk x 8 (by omega) (by omega);have hs:([]:List Int)=[]:=rfl;simp only[AU.l7,Bq.l6,zi (show(pre.length:Int)<(l.length:Int) by omega),yZ,hg,yX,zn ht,y_];rw[List.map_cons,List.flatten_cons,←CE];rcases Mc hvv with⟨h0,_⟩|⟨rfl,_⟩|⟨G9,_⟩|⟨rfl,_,h3⟩
  ·exact absurd h0 ht
  ·have e:De 1 v=leB 4 (u64 v.1):=by unfold De;rw[if_neg (by decide),if_pos rfl]
   rw[e] at i1 i2⊢;simp only[show((1:Int)==6)=false from rfl,show((1:Int)==1)=true from rfl,yZ,y_,AU.d11,Ex,yX,(w4 _).1,(w4 _).2,Bn (show o.length+(leB 4 (u64 v.1)).length≤4294967296 by rw[CO];omega),AU.c12,Bq.c7,zh (x:=(pre.length:Int)+1) (by omega) (by omega)];exact⟨i1,i2⟩
  ·have e:De t v=leB 8 (u64 v.1):=by unfold De;rw[if_neg (by omega),if_neg (by omega)]
   have ew:Ex k t=some 8:=by rcases G9 with rfl|rfl<;>rfl
   rw[e] at i1 i2⊢;simp only[zn (show ¬t=6 by omega),zn (show ¬t=1 by omega),yZ,y_,AU.d11,ew,yX,(Ot _).1,(Ot _).2,Bn (show o.length+(leB 8 (u64 v.1)).length≤4294967296 by rw[CO];omega),AU.c12,Bq.c7,zh (x:=(pre.length:Int)+1) (by omega) (by omega)];exact⟨i1,i2⟩
  ·have e:De 6 v=leB 4 (u64 (v.2.1.size:Int))++eZ v.2.1:=by unfold De;rw[if_pos rfl]
   rw[e,←CE] at i1 i2;rw[e,←CE]
   simp only[show((6:Int)==6)=true from rfl,show((6:Int)==1)=false from rfl,yZ,y_,AU.d10,yX,(w4 _).1,(w4 _).2,Bn (show o.length+(leB 4 (u64 (v.2.1.size:Int))).length≤4294967296 by rw[CO];omega),
    Bn (show(o++leB 4 (u64 (v.2.1.size:Int))).length+(eZ v.2.1).length≤4294967296 by rw[Ab,CO,uo];omega),AU.c12,Bq.c7,zh (x:=(pre.length:Int)+1) (by omega) (by omega)]
   exact⟨i1,i2⟩
theorem aa4(l:List ze)(h:En 0 l=true):∀(post pre:List ze) (n:Nat),l=pre++post→post.length<n→
 Bq.l6 k n 0 l (pre.length:Int) [] (pre.map (·.1))=(Bf k (l.map (·.1)) 1).bind fun r5=>some (((),r5.1.2),r5.2):=by
 obtain⟨hv,hl,hty⟩:=KW.1 h;intro post
 induction post with
 |nil=>
  intro pre n hp hn;obtain⟨n,rfl⟩:∃x,n=x+1:=⟨n-1,by omega⟩;have:l=pre:=by simpa using hp
  subst this;simp only[Bq.l6,zl (show ¬(l.length:Int)<(l.length:Int) by omega),y_,show((0:Int)==0)=true from rfl,yZ]
 |cons v post ih=>
  intro pre n hp hn;simp only[A9] at hn;obtain⟨n,rfl⟩:∃x,n=x+1:=⟨n-1,by omega⟩;have hlen:l.length=pre.length+(post.length+1):=by rw[hp];simp
  have hg:gU l (pre.length:Int)=some v:=by rw[hp];exact Ai pre post v
  have i1:=ih (pre++[v]) n (by rw[hp];simp) (by omega);rw[Ab,AJ,List.map_append] at i1;simp only[Bq.l6,zi (show(pre.length:Int)<(l.length:Int) by omega),yZ,hg,yX,show((0:Int)==0)=true from rfl,Bn (show(pre.map (·.1)).length+[v.1].length≤4294967296 by simp;omega),Bq.c7,zh (x:=(pre.length:Int)+1) (by omega) (by omega)];exact i1
theorem aa8(hk:3000≤k)(t:Int)(l:List ze)(hl:l.length<1000000000)(hlk:l.length<k):
 AU k t l=some (((),En t l),if En t l then Hw t l else[])∧Bq k t l=some (((),En t l),if En t l then Hw t l else[]):=by
 obtain⟨o1,o2⟩:=acd k t l hl hlk;unfold AU Bq;simp only[o1,o2,yX];cases h:En t l with
 |false=>exact⟨rfl,rfl⟩
 |true=>
  obtain⟨hv,hl2,hty⟩:=KW.1 h;simp only[zq,y_,if_true];unfold Hw;by_cases ht:t=0
  ·subst ht
   have hn:=aaM k l hl l [] k rfl hlk;have hb:=aa4 k l h l [] k rfl hlk;have hp:=aaY k (l.map (·.1)) 1 (by omega) (by rw[List.length_map];omega) (by rw[List.length_map];omega) (by omega)
   have hs:=O1 k (l.map (·.1)) 1 (by omega) (by rw[List.length_map];omega) (by
    intro x hx;obtain⟨v,hv',rfl⟩:=List.mem_map.1 hx;rcases Mc (hv v hv') with⟨_,a,b,_⟩|⟨h0,_⟩|⟨h0,_⟩|⟨h0,_⟩
    ·omega
    ·cases h0
    ·omega
    ·cases h0) (by rw[List.length_map];omega) (by omega)
   rw[List.length_nil,List.map_nil,show((0:Nat):Int)=0 from rfl] at hn hb;rw[show((1:Nat):Int)=1 from rfl] at hp hs;unfold FN;simp only[show((0:Int)==0)=true from rfl,yZ,hn,yX,hp,hb,hs,if_true];exact⟨trivial,trivial⟩
  ·obtain⟨i1,i2⟩:=aa5 k (by omega) t l h ht l [] k [] rfl hlk (by simp)
   rw[List.length_nil,show((0:Nat):Int)=0 from rfl,List.nil_append] at i1 i2;simp only[zn ht,y_,if_neg ht];exact⟨i1,i2⟩
end Go.zJ
end
section
namespace Go.zJ
open Go.Am Go.Fn
variable(k:Nat)
theorem OA(hk:100≤k)(b:List Int)(hb:b.length<1000000000000000)(hby:GN b)(at_:Int)(ha:zM at_)(n:Nat)(hn:n≤8)(h1:1≤n):
 ∃v nx ok,Eu k b at_ (n:Int)=some (v,nx,ok)∧Em k b at_ (n:Int)=some (v,nx,ok)∧zM v∧(ok=false→v=0∧nx=0)∧
  (ok=true→0≤at_∧nx=at_+(n:Int)∧nx≤(b.length:Int)∧(n≤4→0≤v∧v<4294967296)):=by
 have hr:(decide ((1:Int)≤(n:Int))&&decide ((n:Int)≤8))=true:=by simp;omega
 unfold Eu Em;simp only[Ay,AV,hr,yX,zq,y_,cst,AB];have hi:=ha.1;have hi':=ha.2;have e1:IntKind.wrap .i64 ((b.length:Int)-(n:Int))=(b.length:Int)-n:=zh (by omega) (by omega);rw[e1];by_cases h0:at_<0
 ·simp only[zi h0,Ac,yZ]
  exact⟨0,0,false,rfl,rfl,⟨by decide,by decide⟩,fun _=>⟨rfl,rfl⟩,fun h=>by cases h⟩
 obtain⟨p,rfl⟩:∃m:Nat,at_=m:=⟨at_.toNat,by omega⟩;simp only[zl h0,AB];by_cases h2:(p:Int)>(b.length:Int)-n
 ·have:(decide ((p:Int)>(b.length:Int))||decide (IntKind.wrap .i64 ((b.length:Int)-(p:Int))<(n:Int)))=true:=by
   by_cases hp:(p:Int)>(b.length:Int)
   ·simp[hp]
   ·rw[zh (by omega) (by omega),zi (show(b.length:Int)-(p:Int)<(n:Int) by omega),Bool.or_true]
  simp only[zi h2,this,yZ];exact⟨0,0,false,rfl,rfl,⟨by decide,by decide⟩,fun _=>⟨rfl,rfl⟩,fun h=>by cases h⟩
 ·have e2:IntKind.wrap .i64 ((b.length:Int)-(p:Int))=(b.length:Int)-p:=zh (by omega) (by omega)
  simp only[zl h2,e2,zl (show ¬(p:Int)>(b.length:Int) by omega),zl (show ¬(b.length:Int)-(p:Int)<(n:Int) by omega),AX,y_];obtain⟨l1,l2⟩:=ace k b p n hn (by omega) (by omega) hby n k 0 0 (by omega) (by omega) (by simp);rw[show IntKind.wrap .i64 ((0:Nat):Int)=0 by decide,show((0:Nat):Int)=0 from rfl] at l1 l2;simp only[Nat.zero_add,Nat.add_zero,Nat.mul_zero,Nat.pow_zero,Nat.mul_one] at l1 l2;refine⟨_,_,_,l2,l1,⟨Oo _,Om _⟩,(fun h=>by cases h),fun _=>⟨by omega,by omega,by omega,?_⟩⟩;intro h4;have hlt:=OE ((b.drop p).take n) (fun x hx=>hby x (List.mem_of_mem_drop (List.mem_of_mem_take hx)));have hlen:((b.drop p).take n).length=n:=by rw[List.length_take,List.length_drop];omega
  rw[hlen] at hlt;have:2^(8*n)≤2^32:=Nat.pow_le_pow_right (by decide) (by omega);rw[zh (by omega) (by omega)];omega
theorem aa7(hk:100≤k)(t:Int)(ht:t=1∨t=2∨t=5∨t=6)(b:List Int)(hb:b.length<1000000000000000)(hby:GN b)(at_:Int)(ha:zM at_):
 ∃v nx ok,Kn k t b at_=some (v,nx,ok)∧Gm k t b at_=some (v,nx,ok)∧
  (ok=true→AZ t v=true∧zM v.1∧0≤at_∧nx=at_+((De t v).length:Nat)∧nx≤(b.length:Int)):=by
 obtain⟨v4,n4,o4,a1,a2,a3,a4,a5⟩:=OA k hk b hb hby at_ ha 4 (by omega) (by omega);obtain⟨v8,n8,o8,b1,b2,b3,b4,b5⟩:=OA k hk b hb hby at_ ha 8 (by omega) (by omega);rw[show((4:Nat):Int)=4 from rfl] at a1 a2 a5;rw[show((8:Nat):Int)=8 from rfl] at b1 b2 b5;unfold Kn Gm;rcases(show t=1∨(t=2∨t=5)∨t=6 by omega) with rfl|G9|rfl
 ·have hs:∀v:Int,0≤v→v<4294967296→IntKind.wrap .i64 (IntKind.wrap .i32 v)=if v>2147483647 then v-4294967296 else v:=by
   intro v h0 h1;have:IntKind.wrap .i32 v=if v>2147483647 then v-4294967296 else v:=by
    have h2:v%2^32=v:=Int.emod_eq_of_lt h0 h1;simp only[IntKind.wrap,IntKind.bits,IntKind.signed,h2,CX,Ae];by_cases h:v>2147483647
    ·rw[if_pos h,if_pos (show v≥2^(32-1) by omega)];omega
    ·rw[if_neg h,if_neg (show ¬v≥2^(32-1) by omega)]
   rw[this];split<;>exact zh (by omega) (by omega)
  have hv:0≤v4∧v4<4294967296:=by
   cases o4 with
   |false=>obtain⟨rfl,_⟩:=a4 rfl;omega
   |true=>exact(a5 rfl).2.2.2 (by omega)
  simp only[show((1:Int) !=6)=true from rfl,show((1:Int)==1)=true from rfl,yZ,Ex,yX,a1,a2,Ko,show((4:Int)==4)=true from rfl,hs v4 hv.1 hv.2,Gm.c6];refine⟨(if v4>2147483647 then v4-4294967296 else v4,zk,()),n4,o4,rfl,?_,?_⟩
  ·by_cases h:v4>2147483647
   ·rw[zi h,yZ,if_pos h,zh (by omega) (by omega)]
   ·rw[zl h,y_,if_neg h]
  ·intro ho
   obtain⟨c1,c2,c3,c4⟩:=a5 ho;have: -2147483648≤(if v4>2147483647 then v4-4294967296 else v4)∧(if v4>2147483647 then v4-4294967296 else v4)≤2147483647:=by split<;>omega
   refine⟨?_,⟨by omega,by omega⟩,c1,(by unfold De;rw[if_neg (by decide),if_pos rfl,CO];omega),c3⟩;unfold AZ;rw[if_neg (by decide),if_pos rfl];simp[this,BH]
 ·have e6:(t !=6)=true:=by rcases G9 with rfl|rfl<;>rfl
  have ew:Ex k t=some 8:=by rcases G9 with rfl|rfl<;>rfl
  simp only[e6,yZ,ew,yX,b1,b2,Ko,show((8:Int)==4)=false from rfl,y_,zn (show ¬t=1 by omega),zn (show ¬t=6 by omega)];refine⟨_,_,_,rfl,rfl,?_⟩;intro ho;obtain⟨c1,c2,c3,c4⟩:=b5 ho;refine⟨?_,b3,c1,(by unfold De;rw[if_neg (by omega),if_neg (by omega),CO];omega),c3⟩;unfold AZ;rw[if_neg (by omega),if_neg (by omega),if_pos G9];simp[BH]
 ·simp only[show((6:Int) !=6)=false from rfl,show((6:Int)==1)=false from rfl,show((6:Int)==6)=true from rfl,yZ,y_,a1,a2,yX,cst]
  cases o4 with
  |false=>
   simp only[zO,Ac,yZ];exact⟨_,_,_,rfl,rfl,fun h=>by cases h⟩
  |true=>
   obtain⟨c1,c2,c3,c4⟩:=a5 rfl;have c4:=c4 (by omega);have e:IntKind.wrap .i64 ((b.length:Int)-n4)=(b.length:Int)-n4:=zh (by omega) (by omega);simp only[zq,AB,e];by_cases hx:v4>40∨v4>(b.length:Int)-n4
   ·have:(decide (v4>40)||decide (v4>(b.length:Int)-n4))=true:=by rcases hx with hx|hx<;>simp[hx]
    simp only[this,yZ];exact⟨_,_,_,rfl,rfl,fun h=>by cases h⟩
   ·have h1:¬v4>40:=fun h=>hx (.inl h)
    have h2:¬v4>(b.length:Int)-n4:=fun h=>hx (.inr h);have e3:IntKind.wrap .i64 (n4+v4)=n4+v4:=zh (by omega) (by omega);simp only[zl h1,zl h2,AX,y_,e3,Jo (show(0:Int)≤n4 by omega) (show n4≤n4+v4 by omega) (show n4+v4≤(b.length:Int) by omega),yZ];refine⟨_,_,_,rfl,rfl,fun _=>⟨?_,⟨(by decide: -9223372036854775808≤(0:Int)),(by decide:(0:Int)<9223372036854775808)⟩,c1,(by unfold De kV;rw[if_pos rfl,Ab,CO,uo,Ho,List.length_drop,List.length_take];omega),by omega⟩⟩;unfold AZ;rw[if_neg (by decide),if_neg (by decide),if_neg (by decide),if_pos rfl];simp only[show((0:Int)==0)=true from rfl,CX,Ho,Ae];unfold kV;rw[List.length_drop,List.length_take];omega
structure OO(t:Int)(b:List Int)(at_ many nx:Int)(ok:Bool)(l:List ze):Prop where
 bad:ok=false→nx=0∨t=0
 ty:ok=true→Cb t=true
 a0:ok=true→0≤at_
 m0:ok=true→0≤many∧many≤2000
 n0:ok=true→at_≤nx
 n1:ok=true→nx≤(b.length:Int)
 nl:ok=true→nx=at_+(((Hw t l).length:Nat):Int)
 len:ok=true→l.length=many.toNat
 vk:ok=true→∀v,v∈l→AZ t v=true∧zM v.1
 short:ok=false→l.length≤2000
theorem abp(hk:100≤k)(t:Int)(ht:t=1∨t=2∨t=5∨t=6)(b:List Int)(hb:b.length<1000000000000000)(hby:GN b)(many:Nat)(hm:many≤2000):∀(m n i:Nat) (at_:Int) (o:List ze),i+m=many→m<n→o.length=i→0≤at_→at_≤(b.length:Int)→
 ∃nx ok l,Eh.l8 k n t b at_ (many:Int) (i:Int) o=some (((),nx,ok),l)∧Ct.Iy k n t b at_ (many:Int) (i:Int) o=some (((),nx,ok),l)∧
  (ok=false→nx=0∧l=[])∧(ok=true→at_≤nx∧nx≤(b.length:Int)∧∃l',l=o++l'∧l'.length=m∧nx=at_+(((l'.map (De t)).flatten.length:Nat):Int)∧∀v,v∈l'→AZ t v=true∧zM v.1):=by
 intro m
 induction m with
 |zero=>
  intro n i at_ o hi hn ho h0 h1;obtain⟨n,rfl⟩:∃x,n=x+1:=⟨n-1,by omega⟩;obtain rfl:i=many:=by omega
  simp only[Eh.l8,Ct.Iy,zl (show ¬(i:Int)<(i:Int) by omega),y_];exact⟨_,_,_,rfl,rfl,(fun h=>by cases h),fun _=>⟨by omega,h1,[],by simp,rfl,by simp,by simp⟩⟩
 |succ m ih=>
  intro n i at_ o hi hn ho h0 h1;obtain⟨n,rfl⟩:∃x,n=x+1:=⟨n-1,by omega⟩;obtain⟨v,nx,ok,e1,e2,e3⟩:=aa7 k hk t ht b hb hby at_ ⟨by omega,by omega⟩;simp only[Eh.l8,Ct.Iy,zi (show(i:Int)<(many:Int) by omega),yZ,e1,e2,yX];cases ok with
  |false=>
   simp only[zO,yZ];exact⟨_,_,_,rfl,rfl,fun _=>⟨rfl,rfl⟩,fun h=>by cases h⟩
  |true=>
   obtain⟨c1,c2,c3,c4,c5⟩:=e3 rfl;obtain⟨nx',ok',l',f1,f2,f3,f4⟩:=ih n (i+1) nx (o++[v]) (by omega) (by omega) (by simp;omega) (by omega) c5;have e:IntKind.wrap .i64 ((i:Int)+1)=((i+1:Nat):Int):=by rw[zh (by omega) (by omega)];omega
   simp only[zq,y_,Bn (show o.length+[v].length≤4294967296 by simp;omega),yZ,e];refine⟨nx',ok',l',f1,f2,f3,?_⟩;intro ho';obtain⟨g1,g2,l2,g3,g4,g6,g5⟩:=f4 ho';refine⟨by omega,g2,v::l2,by rw[g3];simp,by simp[g4],(by rw[List.map_cons,List.flatten_cons,Ab];omega),?_⟩;intro x hx;rcases List.mem_cons.1 hx with rfl|hx
   ·exact⟨c1,c2⟩
   ·exact g5 x hx
theorem ab_(l:List Int)(hl:l.length<1000000000):∀(post pre:List Int) (n:Nat),l=pre++post→post.length<n→
 FO.l3 k n l (l.length:Int) (pre.length:Int) (pre.map fun x=>((x,zk,()):ze))=some ((),l.map fun x=>((x,zk,()):ze))∧
 ∀nx ok,Ct.l7 k n nx ok (pre.length:Int) (pre.map fun x=>((x,zk,()):ze)) l=some (((),nx,ok),l.map fun x=>((x,zk,()):ze)):=by
 intro post
 induction post with
 |nil=>
  intro pre n hv hn;obtain⟨n,rfl⟩:∃x,n=x+1:=⟨n-1,by omega⟩;have:l=pre:=by simpa using hv
  subst this;simp only[FO.l3,Ct.l7,zl (show ¬(l.length:Int)<(l.length:Int) by omega),y_];exact⟨trivial,fun _ _=>trivial⟩
 |cons v post ih=>
  intro pre n hv hn;simp only[A9] at hn;obtain⟨n,rfl⟩:∃x,n=x+1:=⟨n-1,by omega⟩;have hlen:l.length=pre.length+(post.length+1):=by rw[hv];simp
  have hg:gU l (pre.length:Int)=some v:=by rw[hv];exact Ai pre post v
  have:=ih (pre++[v]) n (by rw[hv];simp) (by omega);rw[Ab,AJ,List.map_append] at this;simp only[FO.l3,Ct.l7,zi (show(pre.length:Int)<(l.length:Int) by omega),yZ,hg,yX,Bn (show(pre.map fun x=>((x,zk,()):ze)).length+([(v,zk,())]:List ze).length≤4294967296 by simp;omega),zh (x:=(pre.length:Int)+1) (by omega) (by omega)];exact this
theorem ab1{t:Int}(h:Cb t=true):t=0∨t=1∨t=2∨t=5∨t=6:=by
 unfold Cb at h;simp at h;omega
theorem NT(hk:3000≤k)(t:Int)(b:List Int)(hb:b.length<1000000000000000)(hby:GN b)(at_ many:Int)(ha:zM at_):
 ∃nx ok l,Eh k t b at_ many=some (((),nx,ok),l)∧Ct k t b at_ many=some (((),nx,ok),l)∧OO t b at_ many nx ok l:=by
 unfold Eh Ct;simp only[KT,Kr,Ay,AV,yX,cst];by_cases hc:Cb t=true∧(0≤many∧many≤2000)∧(0≤at_∧at_≤(b.length:Int))
 ·obtain⟨hty,⟨m0,m1⟩,a0,a1⟩:=hc
  simp only[hty,zi m0,zi m1,zi a0,zi a1,Bool.and_self,zq,AX,y_];by_cases ht:t=0
  ·subst ht
   obtain⟨nx,ok,l,e1,e2,e3,e4⟩:=O4 k hk b hb hby at_ many 1 ha;have hll:l.length<1000000000∧l.length<k:=by
    cases ok with
    |false=>obtain⟨_,rfl⟩:=e3 rfl;simp;omega
    |true=>obtain⟨_,_,_,_,h,_⟩:=e4 rfl;omega
   obtain⟨v1,v2⟩:=ab_ k l hll.1 l [] k rfl hll.2;rw[List.length_nil,List.map_nil,show((0:Nat):Int)=0 from rfl] at v1 v2;simp only[show((0:Int)==0)=true from rfl,yZ,e1,e2,yX,FO,v1,v2 nx ok];refine⟨_,_,_,rfl,rfl,⟨fun _=> .inr rfl,fun _=>hty,fun _=>a0,fun _=>⟨m0,m1⟩,?_,?_,?_,?_,?_,fun h=>by rw[(e3 h).2];simp⟩⟩
   ·intro h;obtain⟨_,_,_,_,_,_,h7,_,_⟩:=e4 h;omega
   ·intro h;obtain⟨_,_,_,_,_,_,_,h8,_⟩:=e4 h;exact h8
   ·intro h;obtain⟨_,_,_,_,h5,_,h7,_⟩:=e4 h;rw[h7];unfold Hw KC;rw[if_pos rfl,CO];simp[h5]
   ·intro h;obtain⟨_,_,_,_,h5,_⟩:=e4 h;simpa using h5
   ·intro h v hv
    obtain⟨_,_,_,_,_,_,_,_,h9⟩:=e4 h;obtain⟨x,hx,rfl⟩:=List.mem_map.1 hv;obtain⟨x0,x1⟩:=h9 x hx;have x1:x<2:=x1;refine⟨?_,⟨by show _≤x;omega,by show x<_;omega⟩⟩;unfold AZ;rw[if_pos rfl];simp only[zi x0,zi (show x≤1 by omega),BH];simp
  ·obtain⟨many,rfl⟩:∃m:Nat,many=m:=⟨many.toNat,by omega⟩
   have ht':t=1∨t=2∨t=5∨t=6:=by have:=ab1 hty;omega
   obtain⟨nx,ok,l,e1,e2,e3,e4⟩:=abp k (by omega) t ht' b hb hby many (by omega) many k 0 at_ [] (by omega) (by omega) rfl a0 a1;rw[show((0:Nat):Int)=0 from rfl] at e1 e2;simp only[zn ht,y_,e1,e2];refine⟨_,_,_,rfl,rfl,⟨fun h=> .inl (e3 h).1,fun _=>hty,fun _=>a0,fun _=>⟨m0,m1⟩,fun h=>(e4 h).1,fun h=>(e4 h).2.1,?_,?_,?_,fun h=>by rw[(e3 h).2];simp⟩⟩
   ·intro h;obtain⟨_,_,l',rfl,_,h6,_⟩:=e4 h;unfold Hw;rw[if_neg ht];simpa using h6
   ·intro h;obtain⟨_,_,l',rfl,h5,_⟩:=e4 h;simpa using h5
   ·intro h;obtain⟨_,_,l',rfl,_,_,h6⟩:=e4 h;simpa using h6
 ·have:((!Cb t|| !(decide (0≤many)&&decide (many≤2000)))|| !(decide (0≤at_)&&decide (at_≤(b.length:Int))))=true:=by
   by_cases a:Cb t=true<;>by_cases b1:0≤many<;>by_cases c:many≤2000<;>by_cases d:0≤at_<;>by_cases e:at_≤(b.length:Int)<;>simp[a,b1,c,d,e]
   exact hc ⟨a,⟨b1,c⟩,d,e⟩
  simp only[this,yZ];exact⟨_,_,_,rfl,rfl,⟨fun _=> .inl rfl,nofun,nofun,nofun,nofun,nofun,nofun,nofun,nofun,fun _=>by simp⟩⟩
end Go.zJ
end
section
namespace Go.zJ
open Go.Am Go.Fn
def Jb(c:UInt8):Bool:=decide (97≤c.toNat)&&decide (c.toNat≤122)
def az(s:ByteArray):Bool:=s.data.toList.all Jb
def GA(s:ByteArray):Bool:=(decide (1≤(s.size:Int))&&decide ((s.size:Int)≤20))&&az s
theorem MG{s:ByteArray}{i:Nat}{c:UInt8}(h:s.data.toList[i]?=some c):nC s (i:Int)=some (c.toNat:Int):=by
 show(match s.data.toList[i]? with|some b=>some (b.toNat:Int)|none=>none)=_;rw[h]
theorem KJ(s:ByteArray):s.data.toList.length=s.size:=by
 rw[Array.length_toList];rfl
variable(k:Nat)
theorem aal(s:ByteArray)(hs:s.size<1000000):∀(m n i:Nat),s.size=i+m→m<n→FF.l4 k n s (i:Int)=some ((s.data.toList.drop i).all Jb):=by
 intro m
 induction m with
 |zero=>
  intro n i hi hn;obtain⟨n,rfl⟩:∃j,n=j+1:=⟨n-1,by omega⟩;simp only[FF.l4,zl (show ¬(i:Int)<(s.size:Int) by omega),y_];rw[List.drop_eq_nil_of_le (by rw[KJ];omega)];rfl
 |succ m ih=>
  intro n i hi hn;obtain⟨n,rfl⟩:∃j,n=j+1:=⟨n-1,by omega⟩;have hlt:i<s.data.toList.length:=by rw[KJ];omega
  have hb:=MG (s:=s) (i:=i) (DF hlt);have hc:=(s.data.toList[i]).toNat_lt;simp only[FF.l4,zi (show(i:Int)<(s.size:Int) by omega),yZ,hb,yX,cst];rw[List.drop_eq_getElem_cons hlt,List.all_cons,zh (by omega) (by omega),show((i:Int)+1)=((i+1:Nat):Int) by omega,ih n (i+1) (by omega) (by omega)];unfold Jb;by_cases h:97≤(s.data.toList[i]).toNat∧(s.data.toList[i]).toNat≤122
  ·simp only[zl (show ¬(((s.data.toList[i]).toNat:Nat):Int)<97 by omega),zl (show ¬(((s.data.toList[i]).toNat:Nat):Int)>122 by omega),AX,y_,zi h.1,zi h.2,Bool.and_self,CX]
  ·have h1:(decide ((((s.data.toList[i]).toNat:Nat):Int)<97)||decide ((((s.data.toList[i]).toNat:Nat):Int)>122))=true:=by
    simp only[Bool.or_eq_true,Ae];omega
   have h2:(decide (97≤(s.data.toList[i]).toNat)&&decide ((s.data.toList[i]).toNat≤122))=false:=by
    rw[Bool.eq_false_iff];intro hh;simp only[Aa,Ae] at hh;exact h hh
   simp only[h1,h2,yZ,Df]
theorem aam(hk:100≤k)(s:ByteArray):FF k s=some (GA s):=by
 unfold FF GA;simp only[AV,yX];by_cases h:1≤s.size∧s.size≤20
 ·rw[zi (show(1:Int)≤(s.size:Int) by omega),zi (show(s.size:Int)≤20 by omega)]
  simp only[Bool.and_self,zq,y_,CX];exact aal k s (by omega) s.size k 0 (by omega) (by omega)
 ·have:(decide ((1:Int)≤(s.size:Int))&&decide ((s.size:Int)≤20))=false:=by
   rw[Bool.eq_false_iff];intro hh;simp only[Aa,Ae] at hh;omega
  simp only[this,zO,yZ,Df]
theorem Pp(s:ByteArray)(hs:s.size<1000000000):∀(m n i:Nat),s.size=i+m→m<n→E5.l2 k n s (s.size:Int) (i:Int)=some ((decide (1≤(s.size:Int))&&decide ((s.size:Int)≤20))&&(s.data.toList.drop i).all Jb):=by
 intro m
 induction m with
 |zero=>
  intro n i hi hn;obtain⟨n,rfl⟩:∃j,n=j+1:=⟨n-1,by omega⟩;simp only[E5.l2,zl (show ¬(i:Int)<(s.size:Int) by omega),y_,Ay,yX];rw[List.drop_eq_nil_of_le (by rw[KJ];omega)];simp
 |succ m ih=>
  intro n i hi hn;obtain⟨n,rfl⟩:∃j,n=j+1:=⟨n-1,by omega⟩;have hlt:i<s.data.toList.length:=by rw[KJ];omega
  have hb:=MG (s:=s) (i:=i) (DF hlt);have hc:=(s.data.toList[i]).toNat_lt;simp only[E5.l2,zi (show(i:Int)<(s.size:Int) by omega),yZ,hb,yX,Ay];rw[zh (show -9223372036854775808≤(((s.data.toList[i]).toNat:Nat):Int) by omega) (by omega)];rw[List.drop_eq_getElem_cons hlt,List.all_cons,zh (by omega) (by omega),show((i:Int)+1)=((i+1:Nat):Int) by omega,ih n (i+1) (by omega) (by omega)];unfold Jb;by_cases h:97≤(s.data.toList[i]).toNat∧(s.data.toList[i]).toNat≤122
  ·simp only[zi (show(97:Int)≤(((s.data.toList[i]).toNat:Nat):Int) by omega),zi (show(((s.data.toList[i]).toNat:Nat):Int)≤122 by omega),zq,Bool.and_self,y_,zi h.1,zi h.2,CX]
  ·have h1:(decide ((97:Int)≤(((s.data.toList[i]).toNat:Nat):Int))&&decide ((((s.data.toList[i]).toNat:Nat):Int)≤122))=false:=by
    rw[Bool.eq_false_iff];intro hh;simp only[Aa,Ae] at hh;omega
   have h2:(decide (97≤(s.data.toList[i]).toNat)&&decide ((s.data.toList[i]).toNat≤122))=false:=by
    rw[Bool.eq_false_iff];intro hh;simp only[Aa,Ae] at hh;exact h hh
   simp only[h1,h2,zO,yZ,Df,Bool.and_false]
theorem Nv(s:ByteArray)(hs:s.size<k)(hs2:s.size<1000000000):E5 k s=some (GA s):=by
 unfold E5 GA;exact Pp k s hs2 s.size k 0 (by omega) (by omega)
def Dw(c:zg):Bool:=((c.2.1==7&&decide (c.2.2.2.1>0))||(Cb c.2.1&&c.2.2.2.1==0))&&(decide (0≤c.2.2.1)&&decide (c.2.2.1≤2))
theorem MR(c:zg):Kl k c=some (Dw c):=by
 unfold Kl Dw;simp only[Ay,KT,yX,Ah,cst]
theorem Og:Cb 7=false:=rfl
def EO(S:Nat→Nat→Prop)(s:List zg):Nat→Nat→List ByteArray→Nat→Prop
 |0,pos,_,nx=>pos=nx
 |c+1,pos,names,nx=>∃p mid,s[pos]?=some p∧p.1∉names∧S pos mid∧EO S s c mid (names++[p.1]) nx
def Ck(s:List zg):Nat→Nat→Nat→Prop
 |0,_,_=>False
 |d+1,at_,nx=>∃c,s[at_]?=some c∧Dw c=true∧(0<at_→GA c.1=true)∧EO (Ck s d) s c.2.2.2.1.toNat (at_+1) [] nx
theorem I_{S:Nat→Nat→Prop}{s:List zg}(hS:∀a b,S a b→a<b):∀(c pos:Nat) (names:List ByteArray) (nx:Nat),EO S s c pos names nx→pos+c≤nx
 |0,pos,names,nx,e=>by have e:pos=nx:=e;omega
 |c+1,pos,names,nx,⟨p,mid,_,_,h3,h4⟩=>by
  have:=hS _ _ h3;have:=I_ hS c mid _ nx h4;omega
theorem Es{s:List zg}:∀(d a b:Nat),Ck s d a b→a<b
 |0,_,_,h=>h.elim
 |d+1,a,b,⟨c,_,_,_,h⟩=>by
  have:=I_ (Es d) _ _ _ _ h;omega
open Classical in
theorem abI(S:List zg→Int→Int→Option Int)(L:List zg→Int→Int→Int→zg→List ByteArray→Option Int)(s:List zg)(deep:Int)(pos:Nat)(i:Int)(c p:zg)(hp:s[pos]?=some p)(names:List ByteArray)(hn:names.length≤100):
 ∀(m n j:Nat),names.length=j+m→m<n→Au.IC k S L n s deep (pos:Int) i (j:Int) c names=
  if p.1∈names.drop j then some (-1) else(S s (pos:Int) (IntKind.wrap .i64 (deep+1))).bind fun r=>cond (decide (r<0)) (some (-1)) (L s deep r (IntKind.wrap .i64 (i+1)) c (names++[p.1])):=by
 intro m
 induction m with
 |zero=>
  intro n j hj hn';obtain⟨n,rfl⟩:∃q,n=q+1:=⟨n-1,by omega⟩;simp only[Au.IC,zl (show ¬(j:Int)<(names.length:Int) by omega),y_,Aq,hp,yX];rw[Bn (by simp;omega),yZ,List.drop_eq_nil_of_le (by omega)];simp
 |succ m ih=>
  intro n j hj hn';obtain⟨n,rfl⟩:∃q,n=q+1:=⟨n-1,by omega⟩;have hlt:j<names.length:=by omega
  simp only[Au.IC,zi (show(j:Int)<(names.length:Int) by omega),yZ,Aq,hp,DF hlt,yX,BH];rw[zh (by omega) (by omega),show((j:Int)+1)=((j+1:Nat):Int) by omega,ih n (j+1) (by omega) (by omega),List.drop_eq_getElem_cons hlt];by_cases h:names[j]=p.1
  ·rw[zi h,yZ,if_pos (by rw[h];exact List.mem_cons_self ..)]
  ·rw[zl h,y_]
   have:(p.1∈names[j]::names.drop (j+1))↔p.1∈names.drop (j+1):=by
    rw[List.mem_cons];exact⟨fun hh=>hh.elim (fun e=>absurd e.symm h) id,.inr⟩
   simp only[this]
open Classical in
theorem Nu(S:List zg→Int→Int→Option Int)(L:List zg→Int→Int→Int→Int→List ByteArray→Option Int)(s:List zg)(deep:Int)(pos:Nat)(M i:Int)(p:zg)(hp:s[pos]?=some p)(names:List ByteArray)(hn:names.length≤100):
 ∀(m n j:Nat),names.length=j+m→m<n→zZ.l10 k S L n s deep (pos:Int) M i (names.length:Int) (j:Int) names=
  if p.1∈names.drop j then some (-1) else(S s (pos:Int) (IntKind.wrap .i64 (deep+1))).bind fun r=>cond (decide (r<0)) (some (-1)) (L s deep r M (IntKind.wrap .i64 (i+1)) (names++[p.1])):=by
 intro m
 induction m with
 |zero=>
  intro n j hj hn';obtain⟨n,rfl⟩:∃q,n=q+1:=⟨n-1,by omega⟩;simp only[zZ.l10,zl (show ¬(j:Int)<(names.length:Int) by omega),y_,Aq,hp,yX];rw[Bn (by simp;omega),yZ,List.drop_eq_nil_of_le (by omega)];simp
 |succ m ih=>
  intro n j hj hn';obtain⟨n,rfl⟩:∃q,n=q+1:=⟨n-1,by omega⟩;have hlt:j<names.length:=by omega
  simp only[zZ.l10,zi (show(j:Int)<(names.length:Int) by omega),yZ,Aq,hp,DF hlt,yX,BH];rw[zh (by omega) (by omega),show((j:Int)+1)=((j+1:Nat):Int) by omega,ih n (j+1) (by omega) (by omega),List.drop_eq_getElem_cons hlt];by_cases h:names[j]=p.1
  ·rw[zi h,yZ,if_pos (by rw[h];exact List.mem_cons_self ..)]
  ·rw[zl h,y_]
   have:(p.1∈names[j]::names.drop (j+1))↔p.1∈names.drop (j+1):=by
    rw[List.mem_cons];exact⟨fun hh=>hh.elim (fun e=>absurd e.symm h) id,.inr⟩
   simp only[this]
theorem abw(hk:100≤k)(s:List zg)(hs:s.length≤20)(d D deep:Nat)(Ip:deep≤6)
 (ih:∀at_:Nat,0<at_→∃v,Au.rec k D s (at_:Int) ((deep+1:Nat):Int)=some v∧zZ.rec k D s (at_:Int) ((deep+1:Nat):Int)=some v∧(v= -1∨∃nx:Nat,v=nx∧Ck s d at_ nx∧nx≤s.length))
 (c:zg) (M:Int) (hM:c.2.2.2.1=M) (hM1:M<9223372036854775808):∀(f pos:Nat) (i:Int) (names:List ByteArray),s.length-pos<f→0<pos→pos≤s.length→0≤i→i≤M→names.length≤pos→
  ∃v,Au.Iz k (Au.rec k D) f s (deep:Int) (pos:Int) i c names=some v∧zZ.l6 k (zZ.rec k D) f s (deep:Int) (pos:Int) M i names=some v∧
   (v= -1∨∃nx:Nat,v=nx∧EO (Ck s d) s (M-i).toNat pos names nx∧nx≤s.length):=by
 intro f
 induction f with
 |zero=>intro pos i names h;omega
 |succ f EY=>
  intro pos i names hf hpos hpl hi0 hiM hnm;simp only[Au.Iz,zZ.l6,hM];by_cases hlt:i<M
  ·simp only[zi hlt,yZ]
   by_cases hpe:(pos:Int)≥(s.length:Int)
   ·simp only[zi hpe,yZ]
    exact⟨_,rfl,rfl,.inl rfl⟩
   ·have hpl':pos<s.length:=by omega
    simp only[zl hpe,y_];have hp:=DF hpl';rw[show(0:Int)=((0:Nat):Int) from rfl,abI k _ _ s _ pos i c _ hp names (by omega) names.length k 0 (by omega) (by omega),Nu k _ _ s _ pos M i _ hp names (by omega) names.length k 0 (by omega) (by omega)];rw[List.drop_zero];by_cases hmem:(s[pos]'hpl').1∈names
    ·rw[if_pos hmem,if_pos hmem]
     exact⟨_,rfl,rfl,.inl rfl⟩
    ·rw[if_neg hmem,if_neg hmem]
     have hd1:IntKind.wrap .i64 ((deep:Int)+1)=((deep+1:Nat):Int):=by rw[zh (by omega) (by omega)];omega
     rw[hd1];obtain⟨v,s1,s2,s4⟩:=ih pos hpos;simp only[s1,s2,yX];rcases s4 with rfl|⟨mid,rfl,s5,s6⟩
     ·simp only[show decide ((-1:Int)<0)=true from rfl,yZ]
      exact⟨_,rfl,rfl,.inl rfl⟩
     ·have hml:=Es _ _ _ s5
      have hm0:decide ((mid:Int)<0)=false:=zl (by omega);have hi1:IntKind.wrap .i64 (i+1)=i+1:=zh (by omega) (by omega);simp only[hm0,y_,hi1];obtain⟨w,t1,t2,t4⟩:=EY mid (i+1) (names++[(s[pos]'hpl').1]) (by omega) (by omega) s6 (by omega) (by omega) (by simp;omega);refine⟨w,t1,t2,?_⟩;rcases t4 with h|⟨nx,h1,h2,h3⟩
      ·exact .inl h
      ·refine .inr ⟨nx,h1,?_,h3⟩
       rw[show(M-i).toNat=(M-(i+1)).toNat+1 by omega];exact⟨_,mid,hp,hmem,s5,h2⟩
  ·simp only[zl hlt,y_]
   refine⟨_,rfl,rfl,.inr ⟨pos,rfl,?_,hpl⟩⟩;rw[show(M-i).toNat=0 by omega];rfl
theorem abv(hk:100≤k)(s:List zg)(hs:s.length≤20)(hn:∀c,c∈s→c.1.size<k∧c.1.size<1000000000∧zM c.2.2.2.1)(hroot:∀c,s[0]?=some c→c.1=⟨#[]⟩∧c.2.2.1=0∧c.2.1=7):
 ∀(d D deep at_:Nat),d+deep=7→d<D→∃v,Au.rec k D s (at_:Int) (deep:Int)=some v∧zZ.rec k D s (at_:Int) (deep:Int)=some v∧(v= -1∨∃nx:Nat,v=nx∧Ck s d at_ nx∧nx≤s.length):=by
 intro d
 induction d with
 |zero=>
  intro D deep at_ hd hD;obtain⟨D,rfl⟩:∃m,D=m+1:=⟨D-1,by omega⟩;obtain rfl:deep=7:=by omega
  simp only[Au.rec,zZ.rec,Au.b,zZ.b,cst,yX,show decide (((7:Nat):Int)>6)=true from rfl,Bool.or_true,yZ];exact⟨_,rfl,rfl,.inl rfl⟩
 |succ d ih=>
  intro D deep at_ hd hD;obtain⟨D,rfl⟩:∃m,D=m+1:=⟨D-1,by omega⟩;simp only[Au.rec,zZ.rec,Au.b,zZ.b,cst,yX];by_cases hat:(at_:Int)≥(s.length:Int)
  ·simp only[zi hat,Ac,yZ,yX]
   exact⟨_,rfl,rfl,.inl rfl⟩
  ·have hat':at_<s.length:=by omega
   have hdd:decide ((deep:Int)>6)=false:=zl (by omega);have hc:=DF hat';generalize hcd:s[at_]'hat'=c at hc;have hcm:c∈s:=List.mem_of_getElem? hc;obtain⟨n1,n2,n3⟩:=hn c hcm;simp only[zl hat,hdd,AB,y_,Aq,hc,yX,MR,Nv k c.1 n1 n2,aam k hk,AV,Kr,Ah,cst];have hr0:(((at_:Int)==0)&&((!iY c.1 ⟨#[]⟩||c.2.2.1 !=0)||c.2.1 !=7))=false:=by
    by_cases h0:at_=0
    ·subst h0
     obtain⟨r1,r2,r3⟩:=hroot c hc;rw[r1,r2,r3,BH];simp
    ·rw[zn (show ¬(at_:Int)=0 by omega)];rfl
   simp only[hr0,AB];generalize hnm:(decide ((at_:Int)>0)&& !GA c.1)=bn;have hname:bn=false→0<at_→GA c.1=true:=by
    intro hb h0;rw[hb,zi (show(at_:Int)>0 by omega)] at hnm;simpa using hnm
   have ha1:IntKind.wrap .i64 ((at_:Int)+1)=((at_+1:Nat):Int):=by rw[zh (by omega) (by omega)];omega
   cases bn with
   |true=>
    simp only[Ac,Bool.or_true,yZ];exact⟨_,rfl,rfl,.inl rfl⟩
   |false=>
    simp only[AB,Bool.or_false];by_cases hrep:(0≤c.2.2.1∧c.2.2.1≤2)
    ·have er:(decide (0≤c.2.2.1)&&decide (c.2.2.1≤2))=true:=by rw[zi hrep.1,zi hrep.2];rfl
     simp only[er,zq,y_];have MV:Dw c=((c.2.1==7&&decide (c.2.2.2.1>0))||(Cb c.2.1&&c.2.2.2.1==0)):=by
      unfold Dw;rw[er,Bool.and_true]
     by_cases h7:c.2.1=7
     ·have Jf:Dw c=decide (c.2.2.2.1>0):=by rw[MV,h7,Og];simp
      simp only[zB h7,y_];by_cases hM:c.2.2.2.1<1
      ·simp only[zi hM,yZ,Jf,zl (show ¬c.2.2.2.1>0 by omega),zO]
       exact⟨_,rfl,rfl,.inl rfl⟩
      ·have hok:Dw c=true:=by rw[Jf];exact zi (by omega)
       simp only[zl hM,y_,hok,zq,ha1];obtain⟨v,t1,t2,t3⟩:=abw k hk s hs d D deep (by omega) (fun a h0=>ih D (deep+1) a (by omega) (by omega)) c _ rfl n3.2 k (at_+1) 0 [] (by omega) (by omega) (by omega) (by omega) (by omega) (by simp);refine⟨v,t1,t2,?_⟩;rcases t3 with h|⟨nx,h1,h2,h3⟩
       ·exact .inl h
       ·exact .inr ⟨nx,h1,⟨c,hc,hok,hname rfl,by simpa using h2⟩,h3⟩
     ·have Jf:Dw c=(Cb c.2.1&&c.2.2.2.1==0):=by rw[MV,zn h7];simp
      simp only[zK h7,yZ];by_cases hl:Cb c.2.1=true∧c.2.2.2.1=0
      ·have hok:Dw c=true:=by rw[Jf,hl.1,zQ hl.2];rfl
       simp only[hl.1,zB hl.2,zq,AX,y_,hok,ha1];obtain⟨K,hK⟩:∃j,k=j+1:=⟨k-1,by omega⟩;refine⟨_,rfl,?_,.inr ⟨at_+1,rfl,⟨c,hc,hok,hname rfl,?_⟩,by omega⟩⟩
       ·rw[hl.2]
        have:∀(j:Nat) (S:List zg→Int→Int→Option Int),zZ.l6 k S (j+1) s (deep:Int) ((at_+1:Nat):Int) 0 0 []=some ((at_+1:Nat):Int):=fun j S=>rfl;have h2:=this K (zZ.rec k D);rw[←hK] at h2;exact h2
       ·rw[hl.2];rfl
      ·have e1:(!Cb c.2.1||c.2.2.2.1 !=0)=true:=by
        cases ht:Cb c.2.1 with
        |false=>rfl
        |true=>simp only[zq,AB];exact zK fun h=>hl ⟨ht,h⟩
       have hok:Dw c=false:=by
        rw[Jf];cases ht:Cb c.2.1 with
        |false=>rfl
        |true=>simp only[CX];exact zn fun h=>hl ⟨ht,h⟩
       simp only[e1,hok,yZ,zO];exact⟨_,rfl,rfl,.inl rfl⟩
    ·have er:(decide (0≤c.2.2.1)&&decide (c.2.2.1≤2))=false:=by
      rw[Bool.eq_false_iff];intro hh;simp only[Aa,Ae] at hh;exact hrep hh
     have hok:Dw c=false:=by unfold Dw;rw[er,Bool.and_false]
     simp only[er,hok,zO,yZ];exact⟨_,rfl,rfl,.inl rfl⟩
def I9(s:List zg):Prop:=2≤s.length∧s.length≤20∧Ck s 6 0 s.length∧∃c,s[0]?=some c∧c.1=⟨#[]⟩∧c.2.2.1=0∧c.2.1=7
theorem abt(hk:100≤k)(s:List zg)(hn:∀c,c∈s→c.1.size<k∧c.1.size<1000000000∧zM c.2.2.2.1):
 ∃b,Gl k s=some b∧F6 k s=some b∧(b=true→I9 s∧zZ k s 0 1=some (s.length:Int)):=by
 unfold Gl F6;simp only[AV,Ay,yX];by_cases hin:2≤s.length∧s.length≤20
 ·have c1:(decide ((2:Int)≤(s.length:Int))&&decide ((s.length:Int)≤20))=true:=by simp;omega
  obtain⟨n,hn1,hn2⟩:=GH (xs:=s) (i:=0) (by omega) (by omega);have hn2:s[0]?=some n:=hn2;simp only[c1,yZ,zq,y_,hn1,yX,cst];by_cases hr:n.1=⟨#[]⟩∧n.2.2.1=0∧n.2.1=7
  ·have e0:iY n.1 ⟨#[]⟩=true:=by rw[BH];exact zi hr.1
   simp only[zB hr.2.2,zB hr.2.1,e0,y_,yX,AX,zq];obtain⟨v,s1,s2,s4⟩:=abv k hk s hin.2 hn (fun c hc=>by rw[hn2] at hc;cases hc;exact hr) 6 k 1 0 (by omega) (by omega);have s1:Au k s 0 1=some v:=s1;have s2:zZ k s 0 1=some v:=s2;simp only[s1,s2,yX];refine⟨_,rfl,rfl,fun hb=> ?_⟩;have hv:v=(s.length:Int):=by simpa using hb
   refine⟨⟨hin.1,hin.2,?_,n,hn2,hr⟩,by rw[hv]⟩;rcases s4 with h|⟨nx,h1,h2,_⟩
   ·omega
   ·have:nx=s.length:=by omega
    rw[←this];exact h2
  ·
    have hs:Au k s 0 1=some (-1):=by
     obtain⟨K,rfl⟩:∃j,k=j+1:=⟨k-1,by omega⟩;show Au.b (K+1) (Au.rec (K+1) K) s 0 1=_;unfold Au.b;have e1:(cond ((0:Int)==0) (some ((!iY n.1 ⟨#[]⟩||n.2.2.1 !=0)||n.2.1 !=7)) (some false):Option Bool)=some true:=by
      show some _=_
      congr 1
      cases he:iY n.1 ⟨#[]⟩ with
      |false=>rfl
      |true=>
       rw[BH] at he;have he:=of_decide_eq_true he;simp only[zq,AB,Bool.or_eq_true,bne_iff_ne];exact Classical.byContradiction fun hh=>hr ⟨he,Classical.byContradiction fun h=>hh (.inl h),Classical.byContradiction fun h=>hh (.inr h)⟩
     simp only[zl (show ¬(0:Int)≥(s.length:Int) by omega),cst,yX,show decide ((1:Int)>6)=false from rfl,AX,y_,hn1,e1,Ac,yZ]
    refine⟨false,?_,?_,fun h=>by cases h⟩
    ·simp only[hs,yX]
     rw[zn (by omega)]
    ·by_cases h7:n.2.1=7
     ·by_cases h0:n.2.2.1=0
      ·have he:iY n.1 ⟨#[]⟩=false:=by
        rw[BH];exact zl fun h=>hr ⟨h,h0,h7⟩
       simp only[zB h7,zB h0,he,yX,y_,AX,zO,AB,yZ]
      ·simp only[zB h7,zK h0,yX,y_,AB,yZ,Ac]
     ·simp only[zK h7,yX,yZ,Ac]
 ·have c1:(decide ((2:Int)≤(s.length:Int))&&decide ((s.length:Int)≤20))=false:=by
   rw[Bool.eq_false_iff];intro h;simp only[Aa,Ae] at h;omega
  simp only[c1,zO,yZ,y_,yX];exact⟨false,rfl,rfl,fun h=>by cases h⟩
end Go.zJ
end
section
namespace Go.zJ
open Go.Am Go.Fn
def CU(t:Int):Bool:=t==5||t==6||t==8||t==9||t==12
def isKind(t:Int):Bool:=t==1||t==2||CU t
theorem LA(k:Nat)(t:Int)(b:Bool):Cx k t b=some (CU t||((t==1||t==2)&& !b)):=by
 unfold Cx Cx.c4 Cx.c10 CU;by_cases h1:t=1
 ·subst h1;simp
 by_cases h2:t=2
 ·subst h2;simp
 by_cases h5:t=5
 ·subst h5;simp
 by_cases h6:t=6
 ·subst h6;simp
 by_cases h8:t=8
 ·subst h8;simp
 by_cases h9:t=9
 ·subst h9;simp
 by_cases h12:t=12
 ·subst h12;simp
 simp[zn h1,zn h2,zn h5,zn h6,zn h8,zn h9,zn h12,h1,h2,h5,h6,h8,h9,h12]
theorem Ny(k:Nat)(t:Int):DL k t=some (isKind t):=by
 unfold DL DL.c9 isKind CU;by_cases h1:t=1
 ·subst h1;simp
 by_cases h2:t=2
 ·subst h2;simp
 by_cases h5:t=5
 ·subst h5;simp
 by_cases h6:t=6
 ·subst h6;simp
 by_cases h8:t=8
 ·subst h8;simp
 by_cases h9:t=9
 ·subst h9;simp
 by_cases h12:t=12
 ·subst h12;simp
 simp[zn h1,zn h2,zn h5,zn h6,zn h8,zn h9,zn h12,h1,h2,h5,h6,h8,h9,h12]
theorem Nw(k:Nat)(t:Int):JG k t=some (CU t):=by
 unfold JG;rw[Ny];simp only[yX,Ah]
 congr 1
 unfold isKind;by_cases h1:t=1
 ·subst h1;rfl
 by_cases h2:t=2
 ·subst h2;rfl
 simp[zn h1,zn h2,zK h1,zK h2]
def Ce(n:yY):Bool:=
 if n.1=5 then(decide (-2147483648≤n.2.2.1)&&decide (n.2.2.1≤2147483647))&&iY n.2.2.2.1 ⟨#[]⟩&&n.2.2.2.2.1==0
 else if n.1=6 then iY n.2.2.2.1 ⟨#[]⟩&&n.2.2.2.2.1==0
 else if n.1=8 then n.2.2.1==0&&decide ((n.2.2.2.1.size:Int)≤300)&&n.2.2.2.2.1==0
 else if n.1=9 then iY n.2.2.2.1 ⟨#[]⟩&&decide (n.2.2.2.2.1≥0)&&((n.2.2.2.2.1==0&&n.2.2.1==0)||(decide (n.2.2.2.2.1>0)&&CU n.2.2.1))
 else if n.1=12 then n.2.2.1==0&&iY n.2.2.2.1 ⟨#[]⟩&&decide (n.2.2.2.2.1≥0)
 else(n.1==1||n.1==2)&&n.2.2.1==0&&iY n.2.2.2.1 ⟨#[]⟩&&n.2.2.2.2.1==0
theorem aaK(k:Nat)(n:yY):Km k n=some (Ce n):=by
 unfold Km He Ce;simp only[Ay,LA,yX,Ah,cst];by_cases h5:n.1=5
 ·simp[h5]
 by_cases h6:n.1=6
 ·simp[h6]
 by_cases h8:n.1=8
 ·simp[h8]
 by_cases h9:n.1=9
 ·simp[h9]
 by_cases h12:n.1=12
 ·simp[h12]
 simp[zn h5,zn h6,zn h8,zn h9,zn h12,h5,h6,h8,h9,h12,CU]
theorem NU(k:Nat)(n:yY):HZ k n=some (Ce n):=by
 unfold HZ HZ.c4 HV Ce;simp only[AV,Nw,yX,Ah,cst];by_cases h1:n.1=1
 ·simp[h1]
 by_cases h2:n.1=2
 ·simp[h2]
 by_cases h5:n.1=5
 ·simp[h5]
 by_cases h6:n.1=6
 ·simp[h6]
 by_cases h8:n.1=8
 ·simp[h8]
 by_cases h9:n.1=9
 ·simp[h9]
 by_cases h12:n.1=12
 ·simp[h12]
 simp[zn h1,zn h2,zn h5,zn h6,zn h8,zn h9,zn h12,h1,h2,h5,h6,h8,h9,h12]
def FZ(S:Nat→Nat→Prop)(l:List yY)(n:yY):Nat→Nat→Int→Nat→Prop
 |0,pos,_,nx=>pos=nx
 |c+1,pos,last,nx=>∃p mid,l[pos]?=some p∧(n.1=9→p.1=n.2.2.1∧p.2.1=0)∧(n.1=12→last+1≤p.2.1∧p.2.1≤1000)∧S pos mid∧FZ S l n c mid p.2.1 nx
def Sub(l:List yY)(af:List Int):Nat→Nat→Nat→Prop
 |0,_,_=>False
 |d+1,at_,nx=>∃n,l[at_]?=some n∧Ce n=true∧FZ (Sub l af d) l n n.2.2.2.2.1.toNat (at_+1) 0 nx∧af[at_]?=some (nx:Int)
theorem Ja{S S':Nat→Nat→Prop}{l:List yY}{n:yY}(hS:∀a b,S a b→a<b):∀(c pos:Nat) (last:Int) (nx:Nat),(∀a b,pos≤a→b≤nx→S a b→S' a b)→FZ S l n c pos last nx→FZ S' l n c pos last nx∧pos≤nx
 |0,pos,last,nx,h,e=>⟨e,by have e:pos=nx:=e;omega⟩
 |c+1,pos,last,nx,h,⟨p,mid,h1,h2,h3,h4,h5⟩=>by
  have hlt:=hS _ _ h4;obtain⟨k1,k2⟩:=Ja hS c mid p.2.1 nx (fun a b ha hb=>h a b (by omega) hb) h5;exact⟨⟨p,mid,h1,h2,h3,h _ _ (Nat.le_refl _) k2 h4,k1⟩,by omega⟩
theorem Ed{l:List yY}{af:List Int}:∀(d a b:Nat),Sub l af d a b→a<b
 |0,_,_,h=>h.elim
 |d+1,a,b,⟨n,h1,h2,h3,h4⟩=>by
  have:=(Ja (S':=fun _ _=>True) (Ed d) _ _ _ _ (fun _ _ _ _ _=>trivial) h3).2;omega
theorem MB{l:List yY}{af Cm:List Int}:∀(d a b:Nat),(∀i,a≤i→i<b→Cm[i]?=af[i]?)→Sub l af d a b→Sub l Cm d a b
 |0,_,_,_,h=>h.elim
 |d+1,a,b,hf,⟨n,h1,h2,h3,h4⟩=>by
  have hlt:=Ed (d+1) a b ⟨n,h1,h2,h3,h4⟩;refine⟨n,h1,h2,(Ja (Ed d) _ _ _ _ (fun x y hx hy hs=> ?_) h3).1,by rw[hf a (Nat.le_refl _) hlt];exact h4⟩;exact MB d x y (fun i hi1 hi2=>hf i (by omega) (by omega)) hs
def DW(n:yY):Prop:=zM n.1∧zM n.2.1∧zM n.2.2.1∧zM n.2.2.2.2.1∧n.2.2.2.1.size≤1073741824
theorem Pd(k:Nat)(l:List yY)(hl:l.length≤1500)(d D deep:Nat)(Ip:deep≤12)
 (ih:∀(at_:Nat) (af:List Int),af.length=l.length→
  ∃v Cm,Bh.rec k D l (at_:Int) ((deep+1:Nat):Int)=some v∧BK.rec k D (at_:Int) ((deep+1:Nat):Int) (true,(l,(),())) af=some (v,((l,(),()),Cm))∧Cm.length=l.length∧
   (v= -1∨∃nx:Nat,v=nx∧Sub l Cm d at_ nx∧nx≤l.length∧∀i,(i<at_∨nx≤i)→Cm[i]?=af[i]?))
 (at_:Nat) (hat:at_<l.length) (n:yY) (M:Int) (hM:n.2.2.2.2.1=M) (hM1:M<9223372036854775808):∀(f pos:Nat) (last i:Int) (af:List Int),l.length-pos<f→at_<pos→0≤i→i≤M→pos≤l.length→
  (n.1=12→0≤last∧last≤1000)→af.length=l.length→
  ∃v Cm,Bh.l7 k (Bh.rec k D) f l (deep:Int) (pos:Int) last i n=some v∧BK.l7 k (BK.rec k D) f (at_:Int) (deep:Int) (pos:Int) last M i (l,(),()) af n=some (v,((l,(),()),Cm))∧Cm.length=l.length∧
   (v= -1∨∃nx:Nat,v=nx∧FZ (Sub l Cm d) l n (M-i).toNat pos last nx∧nx≤l.length∧Cm[at_]?=some (nx:Int)∧∀j,(j<pos∨nx≤j)→j≠at_→Cm[j]?=af[j]?):=by
 intro f
 induction f with
 |zero=>intro pos last i af h;omega
 |succ f EY=>
  intro pos last i af hf hpos hi0 hiM hpl hlast Dn;simp only[Bh.l7,BK.l7,hM];by_cases hlt:i<M
  ·simp only[zi hlt,yZ]
   by_cases hpe:(pos:Int)≥(l.length:Int)
   ·simp only[zi hpe,yZ]
    exact⟨_,_,rfl,rfl,Dn,.inl rfl⟩
   ·simp only[zl hpe,y_]
    obtain⟨p,hp1,hp2⟩:=GH (xs:=l) (i:=(pos:Int)) (by omega) (by omega);simp only[hp1,yX,Ah,cst,Ay];have hp2:l[pos]?=some p:=by simpa using hp2
    by_cases hc1:n.1=9∧(p.1≠n.2.2.1∨p.2.1≠0)
    ·have e1:(n.1==9&&(p.1 !=n.2.2.1||p.2.1 !=0))=true:=by
      simp only[Aa,Bool.or_eq_true,beq_iff_eq,bne_iff_ne];exact hc1
     simp only[e1,Ac,yZ];exact⟨_,_,rfl,rfl,Dn,.inl rfl⟩
    ·have e1:(n.1==9&&(p.1 !=n.2.2.1||p.2.1 !=0))=false:=by
      rw[Bool.eq_false_iff];intro h;simp only[Aa,Bool.or_eq_true,beq_iff_eq,bne_iff_ne] at h;exact hc1 h
     simp only[e1,AB,y_];by_cases hc2:n.1=12∧¬(last+1≤p.2.1∧p.2.1≤1000)
     ·have hw:IntKind.wrap .i64 (last+1)=last+1:=by
       have:=hlast hc2.1;exact zh (by omega) (by omega)
      have e2:(n.1==12&&(decide (p.2.1≤last)||decide (p.2.1>1000)))=true:=by
       simp only[Aa,Bool.or_eq_true,beq_iff_eq,Ae];exact⟨hc2.1,by have:=hc2.2;omega⟩
      have e3:(cond (n.1==12) (some (!(decide (last+1≤p.2.1)&&decide (p.2.1≤1000)))) (some false):Option Bool)=some true:=by
       rw[zQ hc2.1,yZ]
       congr 1
       have:=hc2.2;simp only[Bool.not_eq_true',Bool.and_eq_false_iff,decide_eq_false_iff_not];omega
      rw[hw];simp only[e2,e3,yX,yZ];rw[Ah] at e3;simp only[A_] at e3;simp only[e3,yZ];exact⟨_,_,rfl,rfl,Dn,.inl rfl⟩
     ·have e2:(n.1==12&&(decide (p.2.1≤last)||decide (p.2.1>1000)))=false:=by
       rw[Bool.eq_false_iff];intro h;simp only[Aa,Bool.or_eq_true,beq_iff_eq,Ae] at h;exact hc2 ⟨h.1,by omega⟩
      have e3:(n.1==12&& !(decide (IntKind.wrap .i64 (last+1)≤p.2.1)&&decide (p.2.1≤1000)))=false:=by
       rw[Bool.eq_false_iff];intro h;simp only[Aa,beq_iff_eq,Bool.not_eq_true',Bool.and_eq_false_iff,decide_eq_false_iff_not] at h;have hl:=hlast h.1;rw[zh (by omega) (by omega)] at h;exact hc2 ⟨h.1,by omega⟩
      simp only[e2,e3,y_];have hd1:IntKind.wrap .i64 ((deep:Int)+1)=((deep+1:Nat):Int):=by rw[zh (by omega) (by omega)];omega
      rw[hd1];obtain⟨v,OU,s1,s2,s3,s4⟩:=ih pos af Dn;simp only[s1,s2,yX];rcases s4 with rfl|⟨mid,rfl,s5,s6,s7⟩
      ·simp only[show decide ((-1:Int)<0)=true from rfl,yZ]
       exact⟨_,_,rfl,rfl,s3,.inl rfl⟩
      ·have hml:=Ed _ _ _ s5
       have hm0:decide ((mid:Int)<0)=false:=zl (by omega);have hi1:IntKind.wrap .i64 (i+1)=i+1:=zh (by omega) (by omega);simp only[hm0,y_,hi1]
       obtain⟨w,OV,t1,t2,t3,t4⟩:=EY mid p.2.1 (i+1) OU (by omega) (by omega) (by omega) (by omega) s6 (fun h12=>by
        have h:=fun hh=>hc2 ⟨h12,hh⟩;have hl:=hlast h12;omega) s3
       refine⟨w,OV,t1,t2,t3,?_⟩;rcases t4 with h|⟨nx,h1,h2,h3,h4,h5⟩
       ·exact .inl h
       ·have hmn:=(Ja (S':=fun _ _=>True) (Ed d) _ _ _ _ (fun _ _ _ _ _=>trivial) h2).2
        refine .inr ⟨nx,h1,?_,h3,h4,fun j hj hja=> ?_⟩
        ·rw[show(M-i).toNat=(M-(i+1)).toNat+1 by omega]
         refine⟨p,mid,hp2,fun h9=> ?_,fun h12=> ?_,MB d pos mid (fun j hj1 hj2=>h5 j (.inl hj2) (by omega)) s5,h2⟩
         ·constructor
          ·exact Classical.byContradiction fun hh=>hc1 ⟨h9,.inl hh⟩
          ·exact Classical.byContradiction fun hh=>hc1 ⟨h9,.inr hh⟩
         ·exact Classical.byContradiction fun hh=>hc2 ⟨h12,hh⟩
        ·rw[h5 j (by omega) hja,s7 j (by omega)]
  ·simp only[zl hlt,y_]
   obtain⟨y,hy1,hy2⟩:=GH (xs:=af) (i:=(at_:Int)) (by omega) (by omega);simp only[hy1,yX];refine⟨_,_,rfl,rfl,by simpa using Dn,.inr ⟨pos,rfl,?_,hpl,?_,fun j _ hj=> ?_⟩⟩
   ·rw[show(M-i).toNat=0 by omega]
    rfl
   ·simp[List.getElem?_set,Dn,hat]
   ·simp[List.getElem?_set]
    intro h;omega
theorem check(k:Nat)(hk:2000≤k)(l:List yY)(hl:l.length≤1500)(hw:∀n,n∈l→DW n):∀(d D deep at_:Nat) (af:List Int),d+deep=13→d<D→af.length=l.length→
 ∃v Cm,Bh.rec k D l (at_:Int) (deep:Int)=some v∧BK.rec k D (at_:Int) (deep:Int) (true,(l,(),())) af=some (v,((l,(),()),Cm))∧Cm.length=l.length∧
  (v= -1∨∃nx:Nat,v=nx∧Sub l Cm d at_ nx∧nx≤l.length∧∀i,(i<at_∨nx≤i)→Cm[i]?=af[i]?):=by
 intro d
 induction d with
 |zero=>
  intro D deep at_ af hd hD Dn;obtain⟨D,rfl⟩:∃m,D=m+1:=⟨D-1,by omega⟩;obtain rfl:deep=13:=by omega
  simp only[Bh.rec,BK.rec,Bh.b,BK.b,cst,yX,show decide (((13:Nat):Int)>12)=true from rfl,Bool.or_true,yZ];exact⟨_,_,rfl,rfl,Dn,.inl rfl⟩
 |succ d ih=>
  intro D deep at_ af hd hD Dn;obtain⟨D,rfl⟩:∃m,D=m+1:=⟨D-1,by omega⟩;simp only[Bh.rec,BK.rec,Bh.b,BK.b,cst,yX,yZ];by_cases hat:(at_:Int)≥(l.length:Int)
  ·simp only[zi hat,Ac,yZ,yX]
   exact⟨_,_,rfl,rfl,Dn,.inl rfl⟩
  ·obtain⟨n,hn1,hn2⟩:=GH (xs:=l) (i:=(at_:Int)) (by omega) (by omega)
   have hn2:l[at_]?=some n:=by simpa using hn2
   have hdd:decide ((deep:Int)>12)=false:=zl (by omega);simp only[zl hat,hdd,AB,y_,hn1,yX,NU,aaK];cases hok:Ce n with
   |false=>
    simp only[zO,yZ];exact⟨_,_,rfl,rfl,Dn,.inl rfl⟩
   |true=>
    simp only[zq,y_];have hwn:=hw n (List.mem_of_getElem? hn2);have hM0:0≤n.2.2.2.2.1:=by
     unfold Ce at hok
     repeat' split at hok
     all_goals simp only[Aa,beq_iff_eq,Ae,Bool.or_eq_true] at hok
     all_goals omega
    have ha1:IntKind.wrap .i64 ((at_:Int)+1)=((at_+1:Nat):Int):=by rw[zh (by omega) (by omega)];omega
    rw[ha1];obtain⟨v,Cm,t1,t2,t3,t4⟩:=Pd k l hl d D deep (by omega) (fun a af Dn=>ih D (deep+1) a af (by omega) (by omega) Dn) at_ (by omega) n n.2.2.2.2.1 rfl hwn.2.2.2.1.2 k (at_+1) 0 0 af (by omega) (by omega) (by omega) hM0 (by omega) (fun _=>by omega) Dn;refine⟨v,Cm,t1,t2,t3,?_⟩;rcases t4 with h|⟨nx,h1,h2,h3,h4,h5⟩
    ·exact .inl h
    ·refine .inr ⟨nx,h1,⟨n,hn2,hok,by simpa using h2,h4⟩,h3,fun i hi=> ?_⟩
     have:=(Ja (S':=fun _ _=>True) (Ed d) _ _ _ _ (fun _ _ _ _ _=>trivial) h2).2;exact h5 i (by omega) (by omega)
end Go.zJ
end
section
namespace Go.zJ
open Go.Am Go.Fn
variable(k:Nat)
theorem Oe(hk:2000≤k)(l:List yY)(hw:∀n,n∈l→DW n)(hlen:l.length<4294967296):
 ∃b:Bool,JB k l=some b∧((b=false∧∃x,Iw k l=some (((),false),x))∨
  (b=true∧l.length≤1500∧1≤l.length∧∃af,Iw k l=some (((),true),((true,(l,(),())),af))∧Sub l af 12 0 l.length∧∃n,l[0]?=some n∧n.1=12∧n.2.1=0)):=by
 unfold JB Iw;simp only[Ay,AV,yX];by_cases hin:1≤l.length∧l.length≤1500
 ·have c1:(decide ((1:Int)≤(l.length:Int))&&decide ((l.length:Int)≤1500))=true:=by simp;omega
  obtain⟨n,hn1,hn2⟩:=GH (xs:=l) (i:=0) (by omega) (by omega);have hn2:l[0]?=some n:=hn2;simp only[c1,zq,y_,hn1,yX,GD (show(0:Int)≤(l.length:Int) by omega) (by omega),yZ,cst,Int.toNat_natCast];by_cases hr:n.1=12∧n.2.1=0
  ·have c2:(n.1 !=12||n.2.1 !=0)=false:=by simp[hr.1,hr.2]
   simp only[zB hr.1,zB hr.2,y_,yX,AX];obtain⟨v,Cm,s1,s2,s3,s4⟩:=check k hk l hin.2 hw 12 k 1 0 (List.replicate l.length 0) (by omega) (by omega) (by simp);have s1:Bh k l 0 1=some v:=s1;have s2:BK k 0 1 (true,(l,(),())) (List.replicate l.length 0)=some (v,((l,(),()),Cm)):=s2;simp only[s1,s2,yX];by_cases hv:v=(l.length:Int)
   ·refine⟨true,by rw[zQ hv],.inr ⟨rfl,hin.2,hin.1,Cm,by simp only[zB hv,y_],?_,n,hn2,hr⟩⟩
    rcases s4 with h|⟨nx,h1,h2,_⟩
    ·omega
    ·have:nx=l.length:=by omega
     rw[←this];exact h2
   ·exact⟨false,by rw[zn hv],.inl ⟨rfl,((false,([],(),())),[]),by simp only[zK hv,yZ]⟩⟩
  ·have c2:(n.1 !=12||n.2.1 !=0)=true:=by
    simp only[Bool.or_eq_true,bne_iff_ne];exact Classical.byContradiction fun hh=>hr ⟨Classical.byContradiction fun h=>hh (.inl h),Classical.byContradiction fun h=>hh (.inr h)⟩
   refine⟨false,?_,.inl ⟨rfl,((false,([],(),())),[]),by simp only[c2,yZ]⟩⟩;by_cases h12:n.1=12
   ·have h0:¬n.2.1=0:=fun h=>hr ⟨h12,h⟩
    simp only[zB h12,y_,zK h0,yX,yZ,AB]
   ·simp only[zK h12,yX,yZ,Ac]
 ·have c1:(decide ((1:Int)≤(l.length:Int))&&decide ((l.length:Int)≤1500))=false:=by
   rw[Bool.eq_false_iff];intro h;simp only[Aa,Ae] at h;omega
  simp only[c1,zO,yZ,yX];exact⟨false,rfl,.inl ⟨rfl,_,rfl⟩⟩
end Go.zJ
end
section
namespace Go.zJ
open Go.Am Go.Fn
variable(k:Nat)
theorem Ib{S:Nat→Nat→Prop}{l:List yY}{n:yY}(hS:∀a b,S a b→a<b):∀(c pos:Nat) (last:Int) (nx:Nat),FZ S l n c pos last nx→pos+c≤nx
 |0,pos,last,nx,e=>by have e:pos=nx:=e;omega
 |c+1,pos,last,nx,⟨p,mid,_,_,_,h4,h5⟩=>by
  have:=hS _ _ h4;have:=Ib hS c mid p.2.1 nx h5;omega
theorem Mx{l:List yY}{af:List Int}:∀(d a b:Nat),Sub l af d a b→∀i,a≤i→i<b→∃d' nx,d'≤d∧Sub l af d' i nx∧nx≤b
 |0,_,_,h=>h.elim
 |d+1,a,b,⟨n,h1,h2,h3,h4⟩=>by
  have key:∀(c pos:Nat) (last:Int) (nx:Nat),FZ (Sub l af d) l n c pos last nx→∀i,pos≤i→i<nx→∃d' x,d'≤d∧Sub l af d' i x∧x≤nx:=by
   intro c
   induction c with
   |zero=>intro pos last nx e i hi1 hi2;have e:pos=nx:=e;omega
   |succ c ih=>
    intro pos last nx ⟨p,mid,_,_,_,hs,hp⟩ i hi1 hi2;rcases Nat.lt_or_ge i mid with h|h
    ·obtain⟨d',x,q1,q2,q3⟩:=Mx d pos mid hs i hi1 h
     have:=Ib (Ed d) _ _ _ _ hp;exact⟨d',x,q1,q2,by omega⟩
    ·exact ih mid _ nx hp i h hi2
  intro i hi1 hi2;rcases Nat.lt_or_ge a i with h|h
  ·obtain⟨d',x,q1,q2,q3⟩:=key _ _ _ _ h3 i (by omega) hi2
   exact⟨d',x,by omega,q2,q3⟩
  ·obtain rfl:i=a:=by omega
   exact⟨d+1,b,Nat.le_refl _,⟨n,h1,h2,h3,h4⟩,Nat.le_refl _⟩
theorem JR{l:List yY}{af:List Int}{d a b:Nat}(h:Sub l af d a b):∃n,l[a]?=some n∧Ce n=true∧af[a]?=some (b:Int):=by
 cases d with
 |zero=>exact h.elim
 |succ d=>obtain⟨n,h1,h2,h3,h4⟩:=h;exact⟨n,h1,h2,h4⟩
theorem NL{n:yY}(h:Ce n=true):0≤n.2.2.2.2.1:=by
 unfold Ce at h
 repeat' split at h
 all_goals simp only[Aa,beq_iff_eq,Ae,Bool.or_eq_true] at h
 all_goals omega
theorem after_eq(hk:2000≤k){l:List yY}{af:List Int}(hl:l.length≤1500):∀(d D at_ nx:Nat),d≤D→Sub l af d at_ nx→nx≤l.length→Ch.rec k D l (at_:Int)=some (nx:Int):=by
 intro d
 induction d with
 |zero=>intro D at_ nx _ h;exact h.elim
 |succ d ih=>
  intro D at_ nx hD ⟨n,h1,h2,h3,h4⟩ hnx;obtain⟨D,rfl⟩:∃j,D=j+1:=⟨D-1,by omega⟩;have hm0:=NL h2;have hat:at_<l.length:=(List.getElem?_eq_some_iff.1 h1).1;have loop:∀(c pos:Nat) (last:Int) (f:Nat) (i:Int),FZ (Sub l af d) l n c pos last nx→c<f→n.2.2.2.2.1-i=c→0≤i→n.2.2.2.2.1≤2000→Ch.l3 k (Ch.rec k D) f l (at_:Int) (pos:Int) i=some (nx:Int):=by
   intro c
   induction c with
   |zero=>
    intro pos last f i hp hf hi hi0 hi2;obtain⟨f,rfl⟩:∃j,f=j+1:=⟨f-1,by omega⟩;obtain rfl:pos=nx:=hp;simp only[Ch.l3,Aq,h1,yX,zl (show ¬i<n.2.2.2.2.1 by omega),y_]
   |succ c oq=>
    intro pos last f i ⟨p,mid,_,_,_,hs,hp⟩ hf hi hi0 hi2;obtain⟨f,rfl⟩:∃j,f=j+1:=⟨f-1,by omega⟩;have hc:=Ib (Ed d) _ _ _ _ hp;simp only[Ch.l3,Aq,h1,yX,zi (show i<n.2.2.2.2.1 by omega),yZ,ih D pos mid (by omega) hs (by omega)];have hlt:=Ed _ _ _ hs;rw[zh (by omega) (by omega)];exact oq mid _ f (i+1) hp (by omega) (by omega) (by omega) (by omega)
  have hc:=Ib (Ed d) _ _ _ _ h3;simp only[Ch.rec,Ch.b];rw[zh (by omega) (by omega),show((at_:Int)+1)=((at_+1:Nat):Int) by omega];exact loop _ _ 0 k 0 h3 (by omega) (by omega) (by omega) (by omega)
section
variable{l:List yY}{af:List Int}
structure Ee(l:List yY)(af:List Int):Prop where
 len:l.length≤1500
 pos:1≤l.length
 sub:Sub l af 12 0 l.length
 wf:∀n,n∈l→DW n
theorem Ee.at(h:Ee l af){i:Nat}(hi:i<l.length):∃d nx,d≤12∧Sub l af d i nx∧nx≤l.length:=
 Mx 12 0 l.length h.sub i (Nat.zero_le _) hi
theorem Ee.after(hk:2000≤k)(h:Ee l af){d i nx:Nat}(hd:d≤12)(hs:Sub l af d i nx)(hn:nx≤l.length):Ch k l (i:Int)=some (nx:Int):=
 after_eq k hk h.len d k i nx (by omega) hs hn
abbrev tB(l:List yY):zL:=(l,(),())
theorem ZH(hk:2000≤k)(h:Ee l af)(d:Nat)(hd:d≤12)(n:yY)(at_:Nat)(hn:l[at_]?=some n)(id:Int)(nx:Nat)(hnx:nx≤l.length):∀(c pos:Nat) (last:Int) (f:Nat) (i:Int),FZ (Sub l af d) l n c pos last nx→c<f→n.2.2.2.2.1-i=c→0≤i→n.2.2.2.2.1≤2000→
 ∃v,BZ.l5 k f l (at_:Int) id (pos:Int) i=some v∧CK.l5 k f id (pos:Int) n.2.2.2.2.1 i (tB l) af=some (v,(tB l,af))∧(v= -1∨∃q:Nat,v=q∧pos≤q∧q<nx∧∃mid,Sub l af d q mid∧mid≤nx):=by
 intro c
 induction c with
 |zero=>
  intro pos last f i hp hf hi hi0 hi2;obtain⟨f,rfl⟩:∃j,f=j+1:=⟨f-1,by omega⟩;simp only[BZ.l5,CK.l5,Aq,hn,yX,zl (show ¬i<n.2.2.2.2.1 by omega),y_];exact⟨_,rfl,rfl,.inl rfl⟩
 |succ c oq=>
  intro pos last f i ⟨p,mid,hp1,_,_,hs,hp⟩ hf hi hi0 hi2;obtain⟨f,rfl⟩:∃j,f=j+1:=⟨f-1,by omega⟩;have hc:=Ib (Ed d) _ _ _ _ hp;have hlt:=Ed _ _ _ hs;obtain⟨_,_,_,Dn⟩:=JR hs;simp only[BZ.l5,CK.l5,Aq,hn,hp1,Dn,yX,zi (show i<n.2.2.2.2.1 by omega),yZ];by_cases hid:p.2.1=id
  ·simp only[zQ hid,yZ]
   exact⟨_,rfl,rfl,.inr ⟨pos,rfl,Nat.le_refl _,by omega,mid,hs,by omega⟩⟩
  ·simp only[zn hid,y_,h.after k hk hd hs (by omega),yX]
   rw[zh (by omega) (by omega)];obtain⟨v,g1,g2,g3⟩:=oq mid _ f (i+1) hp (by omega) (by omega) (by omega) (by omega);refine⟨v,g1,g2,?_⟩;rcases g3 with g|⟨q,q1,q2,q3,q4⟩
   ·exact .inl g
   ·exact .inr ⟨q,q1,by omega,q3,q4⟩
theorem find_eq(hk:2000≤k)(h:Ee l af)(at_:Nat)(hat:at_<l.length)(id:Int):
 ∃v,BZ k l (at_:Int) id=some v∧CK k (at_:Int) id (true,tB l) af=some (v,(tB l,af))∧(v= -1∨∃q:Nat,v=q∧at_<q∧q<l.length):=by
 obtain⟨d,nx,hd,hs,hnx⟩:=h.at hat;have hlen:=h.len;cases d with
 |zero=>exact hs.elim
 |succ d=>
  obtain⟨n,h1,h2,h3,h4⟩:=hs;have hm0:=NL h2;have hc:=Ib (Ed d) _ _ _ _ h3;unfold BZ CK;have c1:(decide ((0:Int)≤(at_:Int))&&decide ((at_:Int)≤IntKind.wrap .i64 ((l.length:Int)-1)))=true:=by
   rw[zh (by omega) (by omega)];simp;omega
  simp only[yZ,Ay,c1,yX,zq,y_,Aq,h1];by_cases h12:n.1=12
  ·simp only[zB h12,y_]
   have ha1:IntKind.wrap .i64 ((at_:Int)+1)=((at_+1:Nat):Int):=by rw[zh (by omega) (by omega)];omega
   rw[ha1];obtain⟨v,g1,g2,g3⟩:=ZH k hk h d (by omega) n at_ h1 id nx hnx _ _ 0 k 0 h3 (by omega) (by omega) (by omega) (by omega);refine⟨v,g1,g2,?_⟩;rcases g3 with g|⟨q,q1,q2,q3,_⟩
   ·exact .inl g
   ·exact .inr ⟨q,q1,by omega,by omega⟩
  ·simp only[zK h12,yZ]
   exact⟨_,rfl,rfl,.inl rfl⟩
theorem text_eq(hk:2000≤k)(h:Ee l af)(at_:Nat)(hat:at_<l.length)(id:Int):
 ∃s b n,H6 k l (at_:Int) id=some (s,b)∧E8 k (at_:Int) id 8 (true,tB l) af=some ((n,b),(tB l,af))∧n.2.2.2.1=s∧s.size≤300:=by
 obtain⟨v,g1,g2,g3⟩:=find_eq k hk h at_ hat id;unfold H6 E8;simp only[g1,g2,yX];rcases g3 with rfl|⟨q,rfl,q1,q2⟩
 ·simp only[show decide ((-1:Int)<0)=true from rfl,yZ,yX]
  exact⟨_,_,_,rfl,rfl,rfl,by decide⟩
 ·obtain⟨d,nx,hd,hs,hnx⟩:=h.at q2
  obtain⟨n,n1,n2,n3⟩:=JR hs;simp only[zl (show ¬(q:Int)<0 by omega),y_,Aq,n1,yX];by_cases h8:n.1=8
  ·simp only[zB h8,y_]
   refine⟨_,_,_,rfl,rfl,rfl,?_⟩;unfold Ce at n2;rw[h8] at n2;simp only[reduceIte,if_neg (show ¬((8:Int)=5) by decide),if_neg (show ¬((8:Int)=6) by decide),Aa,beq_iff_eq,Ae] at n2;omega
  ·simp only[zK h8,yZ]
   exact⟨_,_,_,rfl,rfl,rfl,by decide⟩
theorem num_eq(hk:2000≤k)(h:Ee l af)(at_:Nat)(hat:at_<l.length)(id:Int):
 ∃v b,HY k l (at_:Int) id=some (v,b)∧Hg k (at_:Int) id (true,tB l) af=some ((v,b),(tB l,af))∧zM v∧(∃w,BZ k l (at_:Int) id=some w∧(b=true→0≤w)):=by
 obtain⟨v,g1,g2,g3⟩:=find_eq k hk h at_ hat id;unfold HY Hg;simp only[g1,g2,yX];have z:zM 0:=⟨by omega,by omega⟩;rcases g3 with rfl|⟨q,rfl,q1,q2⟩
 ·simp only[show decide ((-1:Int)<0)=true from rfl,yZ,yX]
  exact⟨_,_,rfl,rfl,z,-1,rfl,fun h=>by cases h⟩
 ·obtain⟨d,nx,hd,hs,hnx⟩:=h.at q2
  obtain⟨n,n1,n2,n3⟩:=JR hs;have hw:=h.wf n (List.mem_of_getElem? n1);simp only[zl (show ¬(q:Int)<0 by omega),y_,Aq,n1,yX,Ah];by_cases hb:(n.1 !=5&&n.1 !=6)=true
  ·simp only[hb,yZ]
   exact⟨_,_,rfl,rfl,z,q,rfl,fun h=>by cases h⟩
  ·simp only[Bool.eq_false_iff.2 hb,y_]
   exact⟨_,_,rfl,rfl,hw.2.2.1,q,rfl,fun _=>by omega⟩
end
end Go.zJ
end
section
namespace Go.zJ
open Go.Am Go.Fn
def fV(k:Nat)(l:List yY)(a id:Int):Int:=(BZ k l a id).getD (-1)
def nV(k:Nat)(l:List yY)(a id:Int):Int×Bool:=(HY k l a id).getD (0,false)
section
variable(k:Nat)(hk:2000≤k){l:List yY}{af:List Int}(h:Ee l af)
include hk h
theorem G7(a:Nat)(ha:a<l.length)(id:Int):BZ k l (a:Int) id=some (fV k l a id)∧CK k (a:Int) id (true,tB l) af=some (fV k l a id,(tB l,af))∧(fV k l a id= -1∨∃q:Nat,fV k l a id=q∧a<q∧q<l.length):=by
 obtain⟨v,h1,h2,h3⟩:=find_eq k hk h a ha id;have:fV k l a id=v:=by unfold fV;rw[h1];rfl
 rw[this];exact⟨h1,h2,h3⟩
theorem IK(a:Nat)(ha:a<l.length)(id:Int):HY k l (a:Int) id=some (nV k l a id)∧Hg k (a:Int) id (true,tB l) af=some (nV k l a id,(tB l,af))∧zM (nV k l a id).1∧((nV k l a id).2=true→0≤fV k l a id):=by
 obtain⟨v,b,h1,h2,h3,w,h4,h5⟩:=num_eq k hk h a ha id;have e:nV k l a id=(v,b):=by unfold nV;rw[h1];rfl
 have e2:fV k l a id=w:=by unfold fV;rw[h4];rfl
 rw[e,e2];exact⟨h1,h2,h3,h5⟩
end
section
variable(k:Nat)(hk:2000≤k){l:List yY}{af:List Int}(h:Ee l af)
include hk h
end
theorem MF(b:ByteArray)(n:Nat):nC b (n:Int)=(b.toList[n]?).map fun c=>(c.toNat:Int):=by
 rw[ByteArray.toList_eq];show(match b.data.toList[n]? with|some b=>some (b.toNat:Int)|none=>none)=_;cases b.data.toList[n]?<;>rfl
theorem D9(b:ByteArray):b.toList.length=b.size:=by rw[ByteArray.toList_eq,Array.length_toList];rfl
theorem abD(k:Nat)(a b:ze)(ha:a.2.1.size≤1000000)(hb:b.2.1.size≤1000000):∀(m f i:Nat),i+m=a.2.1.size→m<f→
 Dg.l8 k f (i:Int) a b=some (Op.bytesLess (a.2.1.toList.drop i) (b.2.1.toList.drop i)):=by
 intro m
 induction m with
 |zero=>
  intro f i h hf;obtain⟨f,rfl⟩:∃q,f=q+1:=⟨f-1,by omega⟩;have hd:a.2.1.toList.drop i=[]:=List.drop_of_length_le (by rw[D9];omega);simp only[Dg.l8,zl (show ¬((i:Int)<(a.2.1.size:Int)) by omega),y_,yX,hd];cases hbd:b.2.1.toList.drop i with
  |nil=>
   have:=List.drop_eq_nil_iff.1 hbd;rw[D9] at this;rw[zl (by omega)];rfl
  |cons y r=>
   have hl:(b.2.1.toList.drop i).length=(y::r).length:=by rw[hbd]
   simp only[List.length_drop,D9,A9] at hl;rw[zi (by omega)];rfl
 |succ m ih=>
  intro f i h hf;obtain⟨f,rfl⟩:∃q,f=q+1:=⟨f-1,by omega⟩;have hi1:IntKind.wrap .i64 ((i:Int)+1)=((i+1:Nat):Int):=by rw[zh (by omega) (by omega)];omega
  by_cases h1:i<a.2.1.size
  ·have hda:a.2.1.toList.drop i=a.2.1.toList[i]'(by rw[D9];omega)::a.2.1.toList.drop (i+1):=List.drop_eq_getElem_cons (by rw[D9];omega)
   by_cases h2:i<b.2.1.size
   ·have hdb:b.2.1.toList.drop i=b.2.1.toList[i]'(by rw[D9];omega)::b.2.1.toList.drop (i+1):=List.drop_eq_getElem_cons (by rw[D9];omega)
    have ga:nC a.2.1 (i:Int)=some ((a.2.1.toList[i]'(by rw[D9];omega)).toNat:Int):=by rw[MF,DF (by rw[D9];omega)];rfl
    have gb:nC b.2.1 (i:Int)=some ((b.2.1.toList[i]'(by rw[D9];omega)).toNat:Int):=by rw[MF,DF (by rw[D9];omega)];rfl
    simp only[Dg.l8,zi (show(i:Int)<(a.2.1.size:Int) by omega),zi (show(i:Int)<(b.2.1.size:Int) by omega),yZ,yX,ga,gb,hi1];rw[hda,hdb];generalize a.2.1.toList[i]'(by rw[D9];omega)=x at*;generalize b.2.1.toList[i]'(by rw[D9];omega)=y at*;simp only[Op.bytesLess];by_cases hxy:x=y
    ·subst hxy
     rw[zB rfl,y_,ih f (i+1) (by omega) (by omega)];have:¬(x<x):=by simp
     simp[this]
    ·have hne:((x.toNat:Int))≠(y.toNat:Int):=fun h=>hxy (UInt8.toNat_inj.1 (by omega))
     rw[zK hne,yZ];have:(x==y)=false:=by simpa using hxy
     rw[this,Df,Bool.or_false]
     congr 1
     by_cases hlt:x<y
     ·have:=UInt8.lt_iff_toNat_lt.1 hlt
      rw[zi (by omega),zi hlt]
     ·have:¬x.toNat<y.toNat:=fun h=>hlt (UInt8.lt_iff_toNat_lt.2 h)
      rw[zl (by omega),zl hlt]
   ·have hd:b.2.1.toList.drop i=[]:=List.drop_of_length_le (by rw[D9];omega)
    simp only[Dg.l8,zi (show(i:Int)<(a.2.1.size:Int) by omega),zl (show ¬((i:Int)<(b.2.1.size:Int)) by omega),yZ,y_,yX];rw[hda,hd,zl (by omega)];rfl
  ·omega
def Ma(t:Int)(a b:ze):Bool:=
 if AZ t a=true∧AZ t b=true then
  if t=5 then decide ((if a.1<0 then bits .xor .i64 a.1 9223372036854775807 else a.1)<(if b.1<0 then bits .xor .i64 b.1 9223372036854775807 else b.1))
  else if t=6 then Op.bytesLess a.2.1.toList b.2.1.toList
  else decide (a.1<b.1)
 else false
theorem Oj{v:ze}(h:AZ 6 v=true):v.2.1.size≤40:=by
 unfold AZ at h;rw[if_neg (by decide),if_neg (by decide),if_neg (by decide),if_pos rfl] at h;simp only[Aa,Ae] at h;omega
theorem Oi(k:Nat)(hk:2000000≤k)(t:Int)(a b:ze):Dg k t a b=some (Ma t a b)∧Gx k t a b=some (Ma t a b):=by
 unfold Dg Gx Ma;simp only[JI,KV,yX];cases ha:AZ t a with
 |false=>simp
 |true=>
  cases hb:AZ t b with
  |false=>simp
  |true=>
   simp only[zq,y_,yX,and_self,if_true];by_cases h5:t=5
   ·rw[zQ h5,yZ,yZ,if_pos h5]
    unfold Dg.d5 Gx.d5 KL Ki;constructor<;>
    ·by_cases h1:a.1<0<;>by_cases h2:b.1<0<;>simp[h1,h2]
   ·rw[zn h5,y_,y_,if_neg h5]
    by_cases h6:t=6
    ·subst h6
     have s1:=Oj ha;have s2:=Oj hb;have:=abD k a b (by omega) (by omega) a.2.1.size k 0 (by omega) (by omega);have this:Dg.l8 k k 0 a b=_:=this;rw[zQ rfl,yZ,yZ,if_pos rfl,this];exact⟨rfl,rfl⟩
    ·rw[zn h6,y_,y_,if_neg h6]
     exact⟨rfl,rfl⟩
def D6(lf:zD):Bool:=Cb lf.1&&(decide (0≤lf.2.1)&&decide (lf.2.1≤lf.2.2.1)&&decide (lf.2.2.1≤6))
theorem II(k:Nat)(lf:zD):Ir k lf=some (D6 lf)∧JA k lf=some (D6 lf):=by
 unfold Ir JA D6;simp only[KT,Kr,Ay,AV,yX,Ah,A_];cases Cb lf.1 with
 |false=>exact⟨rfl,rfl⟩
 |true=>
  simp only[CX];constructor<;>(rw[Bool.eq_iff_iff];simp only[Aa,Ae];omega)
abbrev zS:Bl:=(0,false,(0,zk,()),(0,zk,()),())
theorem value_eq(k:Nat)(hk:3000≤k)(t:Int)(s:ByteArray)(hs:s.size<1000000):
 ∃v v' b,Hl k t s=some (v,b)∧Dt k t s=some (v',b)∧(b=true→v'=v∧AZ t v=true∧zM v.1):=by
 unfold Hl Dt;by_cases h6:t=6
 ·subst h6
  simp only[show((6:Int)==6)=true from rfl,show((6:Int) !=6)=false from rfl,yZ,y_,KV,JI,yX,Dt.c7,Dt.d7,KO];refine⟨_,(0,s,()),_,rfl,?_,?_⟩
  ·cases AZ 6 (0,s,()) with
   |false=>rfl
   |true=>
    simp only[yZ,BH,decide_true]
  ·intro h
   exact⟨rfl,h,by show _≤(0:Int);decide,by show(0:Int)<_;decide⟩
 ·obtain⟨nx,ok,l,e1,e2,r⟩:=NT k hk t (eZ s) (by rw[uo];omega) (abN s) 0 1 ⟨by decide,by decide⟩
  simp only[zn h6,zK h6,yZ,y_,e1,e2,yX,cst];cases ok with
  |false=>
   simp only[zO,yZ,Ac,yX];exact⟨_,_,_,rfl,rfl,fun h=>by cases h⟩
  |true=>
   have hlen:=r.len rfl;have hl1:l.length=1:=by rw[hlen];rfl
   obtain⟨v,rfl⟩:∃v,l=[v]:=by
    match l,hl1 with
    |[v],_=>exact⟨v,rfl⟩
   obtain⟨hv,hI⟩:=r.vk rfl v (by simp);have hnl:=r.nl rfl;have hty:=r.ty rfl;have hvs:En t [v]=true:=KW.2 ⟨fun x hx=>by rw[List.mem_singleton.1 hx];exact hv,by simp,hty⟩;obtain⟨p1,p2⟩:=aa8 k hk t [v] (by simp) (by simp;omega);rw[hvs,if_pos rfl] at p1 p2;have hg:gU [v] 0=some v:=rfl;simp only[zq,y_,AB,hg,yX,Lx,Dt.c7,Dt.d7,KO,zn h6,p1,p2,JI,hv,yZ,BH];by_cases hq:wY (Hw t [v])=s
   ·have hz:nx=(s.size:Int):=by rw[←hq,Ho];omega
    rw[zi hq,zB hz];exact⟨_,_,_,rfl,rfl,fun _=>⟨rfl,hv,hI⟩⟩
   ·rw[zl hq]
    cases(nx !=(s.size:Int)) with
    |false=>exact⟨_,_,_,rfl,rfl,fun h=>by cases h⟩
    |true=>exact⟨_,_,_,rfl,rfl,fun h=>by cases h⟩
section
variable(k:Nat)(hk:2000000≤k)
include hk
theorem abK(lf:zD)(st:Bl):∃b,Jn k lf st=some b∧JE k lf st=some b:=by
 unfold Jn JE;obtain⟨g1,g2⟩:=II k lf;simp only[g1,g2,yX,Ay,AV,cst,Ah,KV,JI,(Oi k hk _ _ _).1,(Oi k hk _ _ _).2,Pw];exact⟨_,rfl,rfl⟩
variable{l:List yY}{af:List Int}(h:Ee l af)
include h
theorem abL(lf:zD)(hlf:D6 lf=true)(a:Nat)(ha:a<l.length):
 ∃S,Dy k lf (a:Int) (true,tB l) af=some (S,tB l,af)∧FE k lf l (a:Int)=some S∧(S.2=false→S.1=zS):=by
 have hk2:2000≤k:=by omega
 obtain⟨f5,X7,_⟩:=G7 k hk2 h a ha 5;obtain⟨f6,Yf,_⟩:=G7 k hk2 h a ha 6;obtain⟨n3,n3',_⟩:=IK k hk2 h a ha 3;obtain⟨hi,hb,hn,t5,t5',hs5,z5⟩:=text_eq k hk2 h a ha 5;obtain⟨lo,lb,ln,t6,t6',hs6,z6⟩:=text_eq k hk2 h a ha 6;have p5:hb=true→0≤fV k l a 5:=by
  intro hh;subst hh;unfold H6 at t5;simp only[f5,yX] at t5;by_cases hneg:fV k l a 5<0
  ·rw[zi hneg] at t5
   simp at t5
  ·omega
 have p6:lb=true→0≤fV k l a 6:=by
  intro hh;subst hh;unfold H6 at t6;simp only[f6,yX] at t6;by_cases hneg:fV k l a 6<0
  ·rw[zi hneg] at t6
   simp at t6
  ·omega
 obtain⟨vh,vh',bh,v5,v5',w5⟩:=value_eq k (by omega) lf.1 hi (by omega);obtain⟨vl,vl',bl,v6,v6',w6⟩:=value_eq k (by omega) lf.1 lo (by omega);unfold Dy FE;simp only[n3,n3',t5,t6,t5',t6',f5,f6,X7,Yf,yX,(II k lf).1,hlf,cst,Ah,zq,hs5,hs6,v5,v5',v6,v6',Dy.c13,Dy.d12,FE.c15];cases hnb:(nV k l (a:Int) 3).2 with
 |false=>
  simp only[zO,Ac,yZ];exact⟨_,rfl,rfl,fun _=>rfl⟩
 |true=>
  simp only[zq,AB,Bool.or_false,y_];have fin:∀st:Bl,∃S,((Jn k lf st).bind fun r1=>cond (!r1) (some ((zS,false),tB l,af)) (some ((st,true),tB l,af)))=some (S,tB l,af)∧((JE k lf st).bind fun r1=>cond (!r1) (some (zS,false)) (some (st,true)))=some S∧(S.2=false→S.1=zS):=by
   intro st;obtain⟨b,s1,s2⟩:=abK k hk lf st;rw[s1,s2];cases b with
   |false=>exact⟨_,rfl,rfl,fun _=>rfl⟩
   |true=>exact⟨_,rfl,rfl,fun h=>by cases h⟩
  by_cases hany:0≤fV k l a 5∨0≤fV k l a 6
  ·have key:∀X Y:Option ((Bl×Bool)×zL×List Int),(cond (decide (fV k l a 5≥0)) X (cond (decide (fV k l a 6≥0)) X Y))=X:=by
    intro X Y;by_cases q5:0≤fV k l a 5
    ·rw[zi q5];rfl
    ·have q6:0≤fV k l a 6:=by omega
     rw[zl q5,zi q6];rfl
   rw[show ∀X:Option ((Bl×Bool)×zL×List Int),∀Y,cond true X Y=X from fun _ _=>rfl];rw[key];have Z9:(decide (fV k l a 5≥0)||decide (fV k l a 6≥0))=true:=by simpa using hany
   cases hb with
   |false=>
    cases lb with
    |false=>simp only[Z9,zO,Ac,yZ,Bool.and_true,beq_self_eq_true,zq,Bool.or_true];exact⟨_,rfl,rfl,fun _=>rfl⟩
    |true=>simp only[zO,Ac,yZ,show(false==true)=false from rfl];exact⟨_,rfl,rfl,fun _=>rfl⟩
   |true=>
    cases lb with
    |false=>simp only[zO,Ac,yZ,show(true==false)=false from rfl,Bool.or_true];exact⟨_,rfl,rfl,fun _=>rfl⟩
    |true=>
     cases bh with
     |false=>simp only[zO,zq,Ac,Bool.or_true,yZ,y_,beq_self_eq_true,AX,Df];exact⟨_,rfl,rfl,fun _=>rfl⟩
     |true=>
      cases bl with
      |false=>simp only[zO,zq,Ac,Bool.or_true,yZ,y_,beq_self_eq_true,AX,Df];exact⟨_,rfl,rfl,fun _=>rfl⟩
      |true=>
       obtain⟨rfl,_⟩:=w5 rfl;obtain⟨rfl,_⟩:=w6 rfl;simp only[zq,AX,yZ,y_,beq_self_eq_true,Df];exact fin _
  ·have h5:¬0≤fV k l a 5:=fun h=>hany (.inl h)
   have h6:¬0≤fV k l a 6:=fun h=>hany (.inr h);have b5:hb=false:=by cases hb with|false=>rfl|true=>exact(h5 (p5 rfl)).elim
   have b6:lb=false:=by cases lb with|false=>rfl|true=>exact(h6 (p6 rfl)).elim
   subst b5;subst b6;simp only[zl (show ¬fV k l a 5≥0 from h5),zl (show ¬fV k l a 6≥0 from h6),y_,beq_self_eq_true,zq,AX,Bool.and_false];exact fin _
end
def Av(B:List Int):Prop:=∀x,x∈B→0≤x∧x<256
theorem Av.cons{a:Int}{B:List Int}(h0:0≤a)(h1:a<256)(h':Av B):Av (a::B):=fun x hx=>by
 rcases List.mem_cons.1 hx with rfl|hx
 ·exact⟨h0,h1⟩
 ·exact h' x hx
theorem Av.nil:Av []:=fun x hx=>(List.not_mem_nil hx).elim
def Jh(p:yY)(last:Int):List Int:=if p.2.1-last≤15 then[16*(p.2.1-last)+p.1] else p.1::uv (zig p.2.1)
def F4(S:List yY→Nat×List yY)(st:Bool):Nat→Int→List yY→Nat×List yY
 |0,_,X=>(0,X)
 |_+1,_,[]=>(0,[])
 |c+1,last,p::X=>((if st then(Jh p last).length else 0)+(S (p::X)).1+(F4 S st c p.2.1 (S (p::X)).2).1,(F4 S st c p.2.1 (S (p::X)).2).2)
def cost:Nat→List yY→Nat×List yY
 |0,X=>(0,X)
 |_+1,[]=>(0,[])
 |d+1,n::X=>
  if n.1=5∨n.1=6 then((uv (zig n.2.2.1)).length,X)
  else if n.1=8 then((uv (n.2.2.2.1.size:Int)).length+n.2.2.2.1.size,X)
  else if n.1=9 then((if n.2.2.2.2.1≤14 then 1 else 1+(uv n.2.2.2.2.1).length)+(F4 (cost d) false n.2.2.2.2.1.toNat 0 X).1,(F4 (cost d) false n.2.2.2.2.1.toNat 0 X).2)
  else if n.1=12 then((F4 (cost d) true n.2.2.2.2.1.toNat 0 X).1+1,(F4 (cost d) true n.2.2.2.2.1.toNat 0 X).2)
  else(0,X)
def sn(id j:Int):yY:=(12,id,0,⟨#[]⟩,j,())
end Go.zJ
end
section
namespace Go.zJ
open Go.Am Go.Fn
variable(k:Nat)
def GQ(E:List yY→Prop)(n:yY):Nat→Int→List yY→Prop
 |0,_,X=>X=[]
 |c+1,last,X=>∃p Y Z,X=(p::Y)++Z∧(n.1=9→p.1=n.2.2.1∧p.2.1=0)∧(n.1=12→last+1≤p.2.1∧p.2.1≤1000)∧E (p::Y)∧GQ E n c p.2.1 Z
def Enc:Nat→List yY→Prop
 |0,_=>False
 |_+1,[]=>False
 |d+1,n::X=>Ce n=true∧GQ (Enc d) n n.2.2.2.2.1.toNat 0 X
theorem Mo{E:List yY→Prop}{n:yY}:∀(c:Nat) (last:Int) (X:List yY),GQ E n c last X→c≤X.length
 |0,_,_,_=>Nat.zero_le _
 |c+1,_,X,⟨p,Y,Z,e,_,_,_,h⟩=>by
  have:=Mo c _ _ h;subst e;simp;omega
theorem aaL{n:yY}(h:Ce n=true):0≤n.2.2.2.2.1:=by
 unfold Ce at h
 repeat' split at h
 all_goals simp only[Aa,beq_iff_eq,Ae,Bool.or_eq_true] at h
 all_goals omega
theorem Nh{α:Type}(pre post:List α)(x:α):gU (pre++x::post) (pre.length:Int)=some x:=by
 rw[Aq,List.getElem?_append_right (Nat.le_refl _)];simp
theorem Pb(hk:2000≤k):∀(d D deep:Nat) (pre B post:List yY),d+deep≤13→d<D→Enc d B→pre.length+B.length+post.length≤1500→
 Bh.rec k D (pre++(B++post)) (pre.length:Int) (deep:Int)=some ((pre.length+B.length:Nat):Int):=by
 intro d
 induction d with
 |zero=>intro D deep pre B post _ _ h;exact h.elim
 |succ d ih=>
  intro D deep pre B post hdd hD hB hlen;obtain⟨D,rfl⟩:∃j,D=j+1:=⟨D-1,by omega⟩;cases B with
  |nil=>exact hB.elim
  |cons n X=>
   obtain⟨hok,hP⟩:=hB;have hm0:=aaL hok;have hcl:=Mo _ _ _ hP;simp only[A9] at hlen;generalize hL:pre++(n::X++post)=L;have ac1:L.length=pre.length+(X.length+1)+post.length:=by rw[←hL];simp;omega
   have hget:gU L (pre.length:Int)=some n:=by rw[←hL];exact Nh pre (X++post) n
   simp only[Bh.rec,Bh.b,cst,yX,zl (show ¬(pre.length:Int)≥(L.length:Int) by omega),zl (show ¬(deep:Int)>12 by omega),AX,y_,hget,NU,hok,zq];rw[zh (by omega) (by omega),show((pre.length:Int)+1)=((pre.length+1:Nat):Int) by omega]
   have loop:∀(c:Nat) (last:Int) (f:Nat) (i:Int) (Q Z:List yY),GQ (Enc d) n c last Z→pre++(n::X)=Q++Z→c<f→n.2.2.2.2.1-i=c→0≤i→n.2.2.2.2.1≤2000→
    Bh.l7 k (Bh.rec k D) f L (deep:Int) (Q.length:Int) last i n=some ((pre.length+(X.length+1):Nat):Int):=by
    intro c
    induction c with
    |zero=>
     intro last f i Q Z hZ hQ hf hi hi0 hi2;obtain⟨f,rfl⟩:∃j,f=j+1:=⟨f-1,by omega⟩;have hZ:Z=[]:=hZ;subst hZ;have:=congrArg List.length hQ;simp at this;simp only[Bh.l7,zl (show ¬i<n.2.2.2.2.1 by omega),y_]
     congr 1
     omega
    |succ c oq=>
     intro last f i Q Z ⟨p,Y,Z',hZ,h9,h12,hE,Z8⟩ hQ hf hi hi0 hi2;obtain⟨f,rfl⟩:∃j,f=j+1:=⟨f-1,by omega⟩;have Nj:L=Q++((p::Y)++(Z'++post)):=by
      rw[←hL,←CE,hQ,hZ];simp
     have Nl:=congrArg List.length hQ;rw[hZ] at Nl;simp at Nl;have hp:gU L (Q.length:Int)=some p:=by rw[Nj];exact Nh Q (Y++(Z'++post)) p
     have e1:(n.1==9&&(p.1 !=n.2.2.1||p.2.1 !=0))=false:=by
      rw[Bool.eq_false_iff];intro h;simp only[Aa,Bool.or_eq_true,beq_iff_eq,bne_iff_ne] at h;have:=h9 h.1;omega
     have e2:(n.1==12&&(decide (p.2.1≤last)||decide (p.2.1>1000)))=false:=by
      rw[Bool.eq_false_iff];intro h;simp only[Aa,Bool.or_eq_true,beq_iff_eq,Ae] at h;have:=h12 h.1;omega
     have:=ih D (deep+1) Q (p::Y) (Z'++post) (by omega) (by omega) hE (by simp;omega);rw[←Nj] at this;simp only[Bh.l7,zi (show i<n.2.2.2.2.1 by omega),yZ,zl (show ¬(Q.length:Int)≥(L.length:Int) by omega),y_,hp,yX,Ah,cst,e1,e2,AX];rw[zh (show -9223372036854775808≤(deep:Int)+1 by omega) (by omega),show((deep:Int)+1)=((deep+1:Nat):Int) by omega,this];simp only[yX];rw[zl (by omega),y_,zh (by omega) (by omega)];have hr:=oq p.2.1 f (i+1) (Q++(p::Y)) Z' Z8 (by rw[hQ,hZ];simp) (by omega) (by omega) (by omega) hi2;rw[Ab] at hr;exact hr
   have hr:=loop _ 0 k 0 (pre++[n]) X hP (by simp) (by omega) (by omega) (by omega) (by omega);simp only[Ab,AJ] at hr;rw[hr];simp
theorem abZ(hk:2000≤k)(n:yY)(X:List yY)(h:Enc 12 (n::X))(hlen:(n::X).length≤1500)(h12:n.1=12)(h0:n.2.1=0):JB k (n::X)=some true:=by
 unfold JB;have c1:(decide ((1:Int)≤((n::X).length:Int))&&decide (((n::X).length:Int)≤1500))=true:=by simp;simp at hlen;omega
 have hc:=Pb k hk 12 k 1 [] (n::X) [] (by omega) (by omega) h (by simpa using hlen);simp only[List.nil_append,DD,List.length_nil,Nat.zero_add] at hc;have hc:Bh k (n::X) 0 1=some (((n::X).length:Nat):Int):=hc;have hr:gU (n::X) 0=some n:=rfl;simp only[AV,c1,yX,zq,y_,hr,zB h12,zB h0,hc,zQ rfl]
end Go.zJ
end
section
namespace Go.zJ
open Go.Am Go.Fn
inductive zx(α:Type) where
 |bad (code:Int)
 |ok (p:Nat) (x:α)
def BB(x:Int):Int:=if x%2=0 then(x%18446744073709551616)/2 else-((x%18446744073709551616)/2)-1
def int32(x:Int):Bool:=decide (-2147483648≤x)&&decide (x≤2147483647)
def Gj(b:List Int)(p:Nat):zx (Int×Int):=
 match b[p]? with
 |none=> .bad 1
 |some h=>
  match(if h/16=15 then(gv (b.drop (p+1))).map fun x=>(x.1,p+1+x.2) else some (h/16,p+1)) with
  |none=> .bad 1
  |some (many,q)=>
   if many=0 then .ok q (0,0)
   else if CU (h%16)=false then .bad 2
   else if many<0∨1500<many then .bad 4
   else .ok q (many,h%16)
def Gi(b:List Int)(p:Nat)(last:Int):zx (Int×Int):=
 match b[p]? with
 |none=> .bad 1
 |some h=>
  if h=0 then .ok (p+1) (0,0)
  else if isKind (h%16)=false then .bad 2
  else match(if h/16=0 then(gv (b.drop (p+1))).map fun x=>(BB x.1,p+1+x.2) else some (last+h/16,p+1)) with
  |none=> .bad 1
  |some (id,q)=>
   if id<1∨1000<id then .bad 3
   else if id≤last then .bad 5
   else .ok q (h%16,id)
def EJ(b:List Int)(p:Nat):zx ByteArray:=
 match gv (b.drop p) with
 |none=> .bad 1
 |some (u,n)=>
  if u<0∨300<u then .bad 4
  else if(b.length:Int)-(p+n:Nat)<u then .bad 1
  else .ok (p+n+u.toNat) (wY ((b.drop (p+n)).take u.toNat))
def A8(S:Nat→Nat→zx (List yY)):Nat→Nat→Nat→zx (List yY)
 |0,p,_=> .ok p []
 |m+1,p,c=>match S p c with
  | .bad e=> .bad e
  | .ok q Y=>match A8 S m q (c+Y.length) with
    | .bad e=> .bad e
    | .ok r Z=> .ok r (Y++Z)
def CP(S:Int→Int→Nat→Nat→zx (List yY))(b:List Int):Nat→Int→Nat→Nat→zx (Nat×List yY)
 |0,_,_,_=> .bad 1
 |f+1,last,p,c=>match Gi b p last with
  | .bad e=> .bad e
  | .ok q (t,id)=>
    if t=0 then .ok q (0,[])
    else match S t id q c with
    | .bad e=> .bad e
    | .ok r Y=>match CP S b f id r (c+Y.length) with
      | .bad e=> .bad e
      | .ok z (m,Z)=> .ok z (m+1,Y++Z)
def BA:Nat→List Int→Int→Int→Nat→Nat→zx (List yY)
 |0,_,_,_,_,_=> .bad 4
 |d+1,b,kind,id,p,c=>
  if c=1500 then .bad 4
  else if kind=5∨kind=6 then
   match gv (b.drop p) with
   |none=> .bad 1
   |some (u,n)=>if kind=5∧int32 (BB u)=false then .bad 3 else .ok (p+n) [(kind,id,BB u,⟨#[]⟩,0,())]
  else if kind=8 then
   match EJ b p with
   | .bad e=> .bad e
   | .ok q s=> .ok q [(8,id,0,s,0,())]
  else if kind=9 then
   match Gj b p with
   | .bad e=> .bad e
   | .ok q (many,item)=>match A8 (fun p c=>BA d b item 0 p c) many.toNat q (c+1) with
     | .bad e=> .bad e
     | .ok r Y=> .ok r ((9,id,item,⟨#[]⟩,many,())::Y)
  else if kind=12 then
   match CP (fun t id p c=>BA d b t id p c) b 1002 0 p (c+1) with
   | .bad e=> .bad e
   | .ok r (m,Y)=> .ok r ((12,id,0,⟨#[]⟩,(m:Int),())::Y)
  else .ok p [(kind,id,0,⟨#[]⟩,0,())]
theorem Ml{u:Int}(h:zM u):zig (BB u)=u:=by
 obtain⟨h0,h1⟩:=h;unfold zig BB;simp only[IntKind.wrap_i64];split<;>split<;>omega
theorem Mk(u:Int):zM (BB u):=by
 unfold BB zM;split<;>omega
theorem JO(k:Nat){u:Int}(h:zM u):F7 k u=some (BB u):=by
 have h2:=Mk u;have:=acS k (BB u) h2.1 h2.2
 rwa [Ml h] at this
theorem Gy{t:Int}(h:CU t=true):isKind t=true:=by unfold isKind;rw[h];simp
theorem Jq{t:Int}(h:isKind t=true):t=1∨t=2∨t=5∨t=6∨t=8∨t=9∨t=12:=by
 unfold isKind CU at h;simp only[Bool.or_eq_true,beq_iff_eq] at h;omega
theorem Jw{b:List Int}{p:Nat}{last:Int}{q:Nat}{t id:Int}(h:Gi b p last= .ok q (t,id)):p<q∧(t=0∨(isKind t=true∧t≠0∧last+1≤id∧1≤id∧id≤1000)):=by
 unfold Gi at h;split at h
 ·cases h
 ·rename_i y hy
  split at h
  ·simp only[zx.ok.injEq,Prod.mk.injEq] at h
   exact⟨by omega,.inl h.2.1.symm⟩
  ·split at h
   ·cases h
   ·rename_i hk
    split at h
    ·cases h
    ·rename_i id' q' hm
     split at h
     ·cases h
     ·split at h
      ·cases h
      ·simp only[zx.ok.injEq,Prod.mk.injEq] at h
       obtain⟨rfl,rfl,rfl⟩:=h;have hk:isKind (y%16)=true:=by simpa using hk
       refine⟨?_,.inr ⟨hk,?_,by omega,by omega,by omega⟩⟩
       ·split at hm
        ·cases hg:gv (b.drop (p+1)) with
         |none=>rw[hg] at hm;cases hm
         |some x=>
          rw[hg] at hm;simp only[Option.map_some,A_,Prod.mk.injEq] at hm;omega
        ·simp only[A_,Prod.mk.injEq] at hm
         omega
       ·rcases Jq hk with e|e|e|e|e|e|e<;>omega
theorem Jy{b:List Int}{p q:Nat}{many item:Int}(h:Gj b p= .ok q (many,item)):p<q∧((many=0∧item=0)∨(1≤many∧many≤1500∧CU item=true)):=by
 unfold Gj at h;split at h
 ·cases h
 ·rename_i y hy
  split at h
  ·cases h
  ·rename_i m q' hm
   have hq:p<q':=by
    split at hm
    ·cases hg:gv (b.drop (p+1)) with
     |none=>rw[hg] at hm;cases hm
     |some x=>
      rw[hg] at hm;simp only[Option.map_some,A_,Prod.mk.injEq] at hm;omega
    ·simp only[A_,Prod.mk.injEq] at hm
     omega
   split at h
   ·simp only[zx.ok.injEq,Prod.mk.injEq] at h
    exact⟨by omega,.inl ⟨h.2.1.symm,h.2.2.symm⟩⟩
   ·split at h
    ·cases h
    ·rename_i hi
     split at h
     ·cases h
     ·simp only[zx.ok.injEq,Prod.mk.injEq] at h
      obtain⟨rfl,rfl,rfl⟩:=h;exact⟨hq,.inr ⟨by omega,by omega,by simpa using hi⟩⟩
theorem LK{b:List Int}{p q:Nat}{s:ByteArray}(h:EJ b p= .ok q s):p≤q∧s.size≤300:=by
 unfold EJ at h;split at h
 ·cases h
 ·split at h
  ·cases h
  ·split at h
   ·cases h
   ·simp only[zx.ok.injEq] at h
    obtain⟨rfl,rfl⟩:=h;refine⟨by omega,?_⟩;rw[Ho,List.length_take];omega
def K5(d:Nat)(kind id:Int)(c:Nat)(Y:List yY):Prop:=∃n X,Y=n::X∧n.1=kind∧n.2.1=id∧Enc d Y∧c+Y.length≤1500
theorem abk{d:Nat}{item:Int}{S:Nat→Nat→zx (List yY)}(ih:∀p c q Y,c≤1500→S p c= .ok q Y→p≤q∧K5 d item 0 c Y)(n:yY)(hn:n.1=9)(hi:n.2.2.1=item):∀(m p c:Nat) (last:Int) (q:Nat) (Y:List yY),c≤1500→A8 S m p c= .ok q Y→p≤q∧GQ (Enc d) n m last Y∧c+Y.length≤1500:=by
 intro m
 induction m with
 |zero=>
  intro p c last q Y hc h;simp only[A8,zx.ok.injEq] at h;obtain⟨rfl,rfl⟩:=h;exact⟨Nat.le_refl _,rfl,by simpa using hc⟩
 |succ m EZ=>
  intro p c last q Y hc h;simp only[A8] at h;split at h
  ·cases h
  ·rename_i q1 Y1 h1
   split at h
   ·cases h
   ·rename_i q2 Z h2
    simp only[zx.ok.injEq] at h;obtain⟨rfl,rfl⟩:=h;obtain⟨hp,x,X,rfl,x1,x2,x3,x4⟩:=ih _ _ _ _ hc h1;obtain⟨g0,g1,g2⟩:=EZ _ _ x.2.1 _ _ (by omega) h2;exact⟨by omega,⟨x,X,Z,rfl,fun _=>⟨by rw[x1,hi],x2⟩,fun h12=>by omega,x3,g1⟩,by simp at g2⊢;omega⟩
theorem aba{d:Nat}{S:Int→Int→Nat→Nat→zx (List yY)}{b:List Int}(ih:∀t id p c q Y,isKind t=true→c≤1500→S t id p c= .ok q Y→p≤q∧K5 d t id c Y)(n:yY)(hn:n.1=12):∀(f:Nat) (last:Int) (p c q m:Nat) (Y:List yY),c≤1500→CP S b f last p c= .ok q (m,Y)→p<q∧GQ (Enc d) n m last Y∧c+Y.length≤1500:=by
 intro f
 induction f with
 |zero=>intro last p c q m Y hc h;cases h
 |succ f EY=>
  intro last p c q m Y hc h;simp only[CP] at h;split at h
  ·cases h
  ·rename_i q1 t id h1
   obtain⟨a1,a2⟩:=Jw h1;split at h
   ·simp only[zx.ok.injEq,Prod.mk.injEq] at h
    obtain⟨rfl,rfl,rfl⟩:=h;exact⟨a1,rfl,by simpa using hc⟩
   ·rename_i ht
    rcases a2 with a2|⟨a2,_,a3,a4,a5⟩
    ·exact(ht a2).elim
    ·split at h
     ·cases h
     ·rename_i q2 Y1 h2
      split at h
      ·cases h
      ·rename_i q3 m' Z h3
       simp only[zx.ok.injEq,Prod.mk.injEq] at h;obtain⟨rfl,rfl,rfl⟩:=h;obtain⟨hp,x,X,rfl,x1,x2,x3,x4⟩:=ih _ _ _ _ _ _ a2 hc h2;obtain⟨g0,g1,g2⟩:=EY _ _ _ _ _ _ (by omega) h3;rw[←x2] at g1;exact⟨by omega,⟨x,X,Z,rfl,fun h9=>by omega,fun _=>⟨by omega,by omega⟩,x3,g1⟩,by simp at g2⊢;omega⟩
theorem IL:∀(d:Nat) (b:List Int) (kind id:Int) (p c q:Nat) (Y:List yY),isKind kind=true→c≤1500→BA d b kind id p c= .ok q Y→p≤q∧K5 d kind id c Y:=by
 intro d
 induction d with
 |zero=>intro b kind id p c q Y hk hc h;cases h
 |succ d ih=>
  intro b kind id p c q Y hk hc h;have one:∀n:yY,Ce n=true→n.2.2.2.2.1=0→Enc (d+1) [n]:=fun n hn h0=>⟨hn,by rw[h0];rfl⟩;have ez:iY zk ⟨#[]⟩=true:=by rw[BH];simp
  simp only[BA] at h;split at h
  ·cases h
  ·rename_i Gw
   split at h
   ·rename_i Eg
    split at h
    ·cases h
    ·rename_i u n hg
     split at h
     ·cases h
     ·rename_i h32
      simp only[zx.ok.injEq] at h;obtain⟨rfl,rfl⟩:=h;refine⟨by omega,_,[],rfl,rfl,rfl,one _ ?_ rfl,by simp;omega⟩;unfold Ce;by_cases h5:kind=5
      ·have:int32 (BB u)=true:=by
        cases hh:int32 (BB u) with
        |true=>rfl
        |false=>exact(h32 ⟨h5,hh⟩).elim
       unfold int32 at this;simp only[h5,if_true,this,ez,CX];rfl
      ·have h6:kind=6:=by omega
       simp[h6,ez]
   ·rename_i Eg
    split at h
    ·rename_i h8
     split at h
     ·cases h
     ·rename_i q' s hs
      simp only[zx.ok.injEq] at h;obtain⟨rfl,rfl⟩:=h;obtain⟨s1,s2⟩:=LK hs;refine⟨s1,_,[],rfl,h8.symm,rfl,one _ ?_ rfl,by simp;omega⟩;unfold Ce;simp;omega
    ·rename_i h8
     split at h
     ·rename_i h9
      split at h
      ·cases h
      ·rename_i q1 many item hm
       obtain⟨m0,m1⟩:=Jy hm;split at h
       ·cases h
       ·rename_i q2 Y' hp
        simp only[zx.ok.injEq] at h;obtain⟨rfl,rfl⟩:=h;rcases m1 with⟨rfl,rfl⟩|⟨m1,m2,m3⟩
        ·simp only[Int.toNat_zero,A8,zx.ok.injEq] at hp
         obtain⟨rfl,rfl⟩:=hp;refine⟨by omega,_,[],rfl,h9.symm,rfl,one _ ?_ rfl,by simp;omega⟩;unfold Ce;simp[ez]
        ·obtain⟨g0,g1,g2⟩:=abk (d:=d) (item:=item) (fun p c q Y hc h=>ih b item 0 p c q Y (Gy m3) hc h) (9,id,item,⟨#[]⟩,many,()) rfl rfl _ _ _ 0 _ _ (by omega) hp
         refine⟨by omega,_,Y',rfl,h9.symm,rfl,⟨?_,g1⟩,by simp;omega⟩;unfold Ce;simp[ez,m3];omega
     ·rename_i h9
      split at h
      ·rename_i h12
       split at h
       ·cases h
       ·rename_i q1 m Y' hf
        simp only[zx.ok.injEq] at h;obtain⟨rfl,rfl⟩:=h;obtain⟨g0,g1,g2⟩:=aba (d:=d) (fun t id p c q Y hk hc h=>ih b t id p c q Y hk hc h) (12,id,0,⟨#[]⟩,(m:Int),()) rfl _ _ _ _ _ _ _ (by omega) hf;refine⟨by omega,_,Y',rfl,h12.symm,rfl,⟨?_,?_⟩,by simp;omega⟩
        ·unfold Ce
         simp[ez]
        ·show GQ (Enc d) _ ((m:Int)).toNat 0 Y'
         rw[Int.toNat_natCast];exact g1
      ·rename_i h12
       simp only[zx.ok.injEq] at h;obtain⟨rfl,rfl⟩:=h;refine⟨Nat.le_refl _,_,[],rfl,rfl,rfl,one _ ?_ rfl,by simp;omega⟩;have:kind=1∨kind=2:=by
        rcases Jq hk with e|e|e|e|e|e|e<;>omega
       unfold Ce;rcases this with rfl|rfl<;>simp[ez]
end Go.zJ
end
section
namespace Go.zJ
open Go.Am Go.Fn
variable(k:Nat)(hk:2000≤k)
theorem OZ{o:zm}{n:yY}{deep:Nat}{acc:List yY}(ho:o.2.2.2.1=0)(hd:deep≤12)(ha:acc.length<1500):
 Ew k n (deep:Int) o acc=some ((acc.length:Int),(o,acc++[n])):=by
 unfold Ew Ew.c3;have c1:decide ((deep:Int)>12)=false:=zl (by omega);have c2:((acc.length:Int)==1500)=false:=zn (by omega);have c3:lim (acc.length+[n].length)=true:=Bn (by simp;omega);have e:IntKind.wrap .i64 (((acc++[n]).length:Int)-1)=(acc.length:Int):=by
  rw[Ab,AJ,zh (by omega) (by omega)];omega
 simp only[c1,c2,y_,yX,ho,zB rfl,c3,yZ,e]
end Go.zJ
end
section
namespace Go.zJ
open Go.Am Go.Fn
abbrev zW(b:List Int)(p:Nat)(e:Int):zm:=(b,(p:Int),(),e,())
variable(k:Nat)
theorem ET(b:List Int)(p:Nat)(e:Int)(acc:List yY):Dr k e (zW b p 0) acc=some ((),(zW b p e,acc)):=by
 unfold Dr;rw[zQ rfl,yZ]
theorem J8(b:List Int)(p:Nat){e:Int}(he:e≠0)(x:Int)(acc:List yY):Dr k x (zW b p e) acc=some ((),(zW b p e,acc)):=by
 unfold Dr;rw[zn he,y_]
theorem Ns(hk:2000≤k){b:List Int}(hl:b.length<4611686018427387904)(hb:Av b)(p:Nat)(hp:p≤b.length):CJ k b (p:Int)=match gv (b.drop p) with
 |none=>some (0,0,false)
 |some (u,n)=>some (u,((p+n:Nat):Int),true):=by
 unfold CJ;rw[zl (by omega),y_];have h:=aae k b p hl hb (by omega) 10 k 0 0 rfl (by omega) (by simp);rw[show((0:Nat):Int)=0 from rfl] at h;rw[h];unfold gv;rw[Nat.add_zero];cases Cv 10 (b.drop p) with
 |none=>rfl
 |some x=>
  simp only[Option.map_some,Nat.mul_zero,Nat.pow_zero,Nat.mul_one,Nat.zero_add]
theorem KU(hk:2000≤k){b:List Int}(hl:b.length<4611686018427387904)(hb:Av b)(p:Nat)(hp:p≤b.length)(acc:List yY):F8 k (zW b p 0) acc=match gv (b.drop p) with
 |none=>some (0,(zW b p 1,acc))
 |some (u,n)=>some (u,(zW b (p+n) 0,acc)):=by
 unfold F8;rw[show(zW b p 0).1=b from rfl,show(zW b p 0).2.1=(p:Int) from rfl,Ns k hk hl hb p hp];cases gv (b.drop p) with
 |none=>simp only[yX,zB rfl,cst,zO,Bool.or_true,yZ,ET]
 |some x=>simp only[yX,zB rfl,cst,zq,AX,y_]
theorem ab8(hk:2000≤k){b:List Int}(hl:b.length<4611686018427387904)(hb:Av b)(p:Nat)(hp:p≤b.length){e:Int}(he:e≠0)(acc:List yY):F8 k (zW b p e) acc=some (0,(zW b p e,acc)):=by
 unfold F8;rw[show(zW b p e).1=b from rfl,show(zW b p e).2.1=(p:Int) from rfl,Ns k hk hl hb p hp];cases gv (b.drop p) with
 |none=>simp only[yX,zK he,cst,Ac,yZ,J8 k b p he]
 |some x=>simp only[yX,zK he,cst,Ac,yZ,J8 k b p he]
theorem NN{b:List Int}(hl:b.length<4611686018427387904)(hb:Av b)(p:Nat)(hp:p≤b.length)(acc:List yY):Hf k (zW b p 0) acc=match b[p]? with
 |none=>some (0,(zW b p 1,acc))
 |some h=>some (h,(zW b (p+1) 0,acc)):=by
 unfold Hf;by_cases hlt:p<b.length
 ·obtain⟨c,hc,hc2⟩:=Ic hlt
  obtain⟨c0,c1⟩:=hb c (List.mem_of_getElem? hc2);rw[hc2];have e:IntKind.wrap .i64 ((p:Int)+1)=((p+1:Nat):Int):=by rw[zh (by omega) (by omega)];omega
  have e2:IntKind.wrap .i64 (((p+1:Nat):Int)-1)=(p:Int):=by rw[zh (by omega) (by omega)];omega
  have cc:decide ((p:Int)≥(b.length:Int))=false:=zl (by omega);have ec:IntKind.wrap .i64 c=c:=zh (by omega) (by omega);simp only[zB rfl,cst,yX,cc,AX,y_,e,e2,Aq,hc2,ec]
 ·rw[List.getElem?_eq_none (by omega)]
  have c:decide ((p:Int)≥(b.length:Int))=true:=zi (by omega);simp only[zB rfl,cst,yX,c,Bool.or_true,yZ,ET]
theorem aaS{b:List Int}(p:Nat){e:Int}(he:e≠0)(acc:List yY):Hf k (zW b p e) acc=some (0,(zW b p e,acc)):=by
 unfold Hf;simp only[zK he,cst,yX,Ac,yZ,J8 k b p he]
theorem abW(hk:2000≤k){b:List Int}(hl:b.length<4611686018427387904)(hb:Av b)(p:Nat)(hp:p≤b.length)(acc:List yY):
 match EJ b p with
 | .bad e=>e≠0∧∃q,q≤b.length∧Cz k (zW b p 0) acc=some (⟨#[]⟩,(zW b q e,acc))
 | .ok q s=>Cz k (zW b p 0) acc=some (s,(zW b q 0,acc)):=by
 unfold Cz EJ;rw[KU k hk hl hb p hp];cases hg:gv (b.drop p) with
 |none=>
  refine⟨by decide,p,hp,?_⟩;simp only[yX,zn (show ¬(1:Int)=0 by decide),y_,Cz.c4,Cz.c6,zK (show ¬(1:Int)=0 by decide),yZ]
 |some z=>
  obtain⟨u,n⟩:=z;obtain⟨⟨f0,f1⟩,f2,f3,f4,f5⟩:=DX _ u n (fun x hx=>hb x (List.mem_of_mem_drop hx)) hg;rw[List.length_drop] at f3;simp only[yX,zQ rfl,yZ,Ay];by_cases hu:u<0∨300<u
  ·rw[if_pos hu]
   have c1:(decide ((0:Int)≤u)&&decide (u≤300))=false:=by
    rw[Bool.eq_false_iff];intro q;simp only[Aa,Ae] at q;omega
   refine⟨by decide,p+n,by omega,?_⟩;simp only[c1,zO,yZ,ET,yX,Cz.c4,Cz.c6,zn (show ¬(4:Int)=0 by decide),y_,zK (show ¬(4:Int)=0 by decide)]
  ·rw[if_neg hu]
   have c1:(decide ((0:Int)≤u)&&decide (u≤300))=true:=by simp;omega
   have e1:IntKind.wrap .i64 ((b.length:Int)-((p+n:Nat):Int))=(b.length:Int)-((p+n:Nat):Int):=zh (by omega) (by omega);simp only[c1,zq,y_,Cz.c4,zQ rfl,yZ,yX,e1];by_cases hs:(b.length:Int)-((p+n:Nat):Int)<u
   ·rw[if_pos hs]
    refine⟨by decide,p+n,by omega,?_⟩;simp only[zi (show u>(b.length:Int)-((p+n:Nat):Int) from hs),yZ,ET,yX,Cz.c6,zK (show ¬(1:Int)=0 by decide)]
   ·rw[if_neg hs]
    obtain⟨U,rfl⟩:=Int.eq_ofNat_of_zero_le (show 0≤u by omega);have e2:IntKind.wrap .i64 (((p+n:Nat):Int)+(U:Int))=((p+n+U:Nat):Int):=by rw[zh (by omega) (by omega)];omega
    have e3:IntKind.wrap .i64 (((p+n+U:Nat):Int)-(U:Int))=((p+n:Nat):Int):=by rw[zh (by omega) (by omega)];omega
    have c3:jg ((p+n:Nat):Int) ((p+n+U:Nat):Int) b.length=true:=Jo (by omega) (by omega) (by omega);have hcut:kV b ((p+n:Nat):Int) ((p+n+U:Nat):Int)=(b.drop (p+n)).take U:=by
     unfold kV;rw[Int.toNat_natCast,Int.toNat_natCast,List.drop_take,show p+n+U-(p+n)=U by omega]
    simp only[zl (show ¬((U:Int)>(b.length:Int)-((p+n:Nat):Int)) from hs),y_,Cz.c6,zB rfl,e2,e3,c3,yZ,hcut,Int.toNat_natCast]
def GR(S:Int→Int→Int→zm→List yY→Option (Unit×zm×List yY))(b:List Int)(kind id deep:Int)(p:Nat)(acc:List yY)(r:zx (List yY)):Prop:=
 match r with
 | .bad e=>e≠0∧∃q l,q≤b.length∧S kind id deep (zW b p 0) acc=some ((),(zW b q e,l))
 | .ok q Y=>q≤b.length∧S kind id deep (zW b p 0) acc=some ((),(zW b q 0,acc++Y))
theorem aaf(S:Int→Int→Int→zm→List yY→Option (Unit×zm×List yY))(b:List Int)(item:Int)(deep:Nat)(Ip:deep≤100)(P:Nat→Nat→zx (List yY))
 (ih:∀(p:Nat) (acc:List yY),p≤b.length→acc.length≤1500→GR S b item 0 ((deep+1:Nat):Int) p acc (P p acc.length))
 (hP:∀p c q Y,c≤1500→P p c= .ok q Y→c+Y.length≤1500) (many:Int) (hm:many≤1500):
 ∀(m f:Nat) (i:Int) (p:Nat) (acc:List yY),many-i=m→0≤i→m<f→p≤b.length→acc.length≤1500→
 match A8 P m p acc.length with
 | .bad e=>e≠0∧∃q l,q≤b.length∧z8.Bd k S f (deep:Int) many item i (zW b p 0) acc=some ((),(zW b q e,l))
 | .ok q Y=>q≤b.length∧z8.Bd k S f (deep:Int) many item i (zW b p 0) acc=some ((),(zW b q 0,acc++Y)):=by
 have hdw:IntKind.wrap .i64 ((deep:Int)+1)=((deep+1:Nat):Int):=by rw[zh (by omega) (by omega)];omega
 intro m
 induction m with
 |zero=>
  intro f i p acc hi h0 hf hp hc;obtain⟨f,rfl⟩:∃j,f=j+1:=⟨f-1,by omega⟩;simp only[A8,z8.Bd,zl (show ¬i<many by omega),y_,yX,DD];exact⟨hp,trivial⟩
 |succ m EZ=>
  intro f i p acc hi h0 hf hp hc;obtain⟨f,rfl⟩:∃j,f=j+1:=⟨f-1,by omega⟩;have hi1:IntKind.wrap .i64 (i+1)=i+1:=zh (by omega) (by omega);have h1:=ih p acc hp hc;simp only[A8,z8.Bd,zi (show i<many by omega),yZ,yX,zQ rfl,hdw,hi1];unfold GR at h1;cases hr:P p acc.length with
  |bad e=>
   rw[hr] at h1;obtain⟨he,q,l,hq,e1⟩:=h1;refine⟨he,q,l,hq,?_⟩;obtain⟨f,rfl⟩:∃j,f=j+1:=⟨f-1,by omega⟩;simp only[e1,yX,z8.Bd,zn he];cases decide (i+1<many)<;>rfl
  |ok q Y=>
   rw[hr] at h1;obtain⟨hq,e1⟩:=h1;have hlen:=hP _ _ _ _ hc hr;have h2:=EZ f (i+1) q (acc++Y) (by omega) (by omega) (by omega) hq (by rw[Ab];exact hlen);rw[Ab] at h2;simp only[e1,yX];cases hr2:A8 P m q (acc.length+Y.length) with
   |bad e=>rw[hr2] at h2;exact h2
   |ok q2 Z=>rw[hr2] at h2;simpa[CE] using h2
def K6(b:List Int)(pre:List yY)(Bb:Int)(j:Nat)(mid:List yY)(r:zx (Nat×List yY))(X:Option (Unit×zm×List yY)):Prop:=
 match r with
 | .bad e=>e≠0∧∃q l,q≤b.length∧X=some ((),(zW b q e,l))
 | .ok q (m,Y)=>q≤b.length∧X=some ((),(zW b q 0,pre++sn Bb ((j+m:Nat):Int)::(mid++Y)))
theorem aad(hk:2000≤k)(S:Int→Int→Int→zm→List yY→Option (Unit×zm×List yY))(b:List Int)(hl:b.length<4611686018427387904)(hb:Av b)(deep:Nat)(Ip:deep≤100)(P:Int→Int→Nat→Nat→zx (List yY))
 (ih:∀(t id:Int) (p:Nat) (acc:List yY),isKind t=true→p≤b.length→acc.length≤1500→GR S b t id ((deep+1:Nat):Int) p acc (P t id p acc.length))
 (hP:∀t id p c q Y,isKind t=true→c≤1500→P t id p c= .ok q Y→c+Y.length≤1500) (Bb:Int) (pre:List yY):
 ∀(g f:Nat) (last:Int) (p:Nat) (j:Nat) (mid:List yY),1002≤(g:Int)+last→0≤last→last≤1000→g<f→p≤b.length→pre.length+1+mid.length≤1500→(j:Int)+g≤4000→
 K6 b pre Bb j mid (CP P b g last p (pre.length+1+mid.length)) (zU.l1 k S f (pre.length:Int) (deep:Int) last (zW b p 0) (pre++sn Bb j::mid)):=by
 have hdw:IntKind.wrap .i64 ((deep:Int)+1)=((deep+1:Nat):Int):=by rw[zh (by omega) (by omega)];omega
 intro g
 induction g with
 |zero=>intro f last p j mid h1 h2 h3;omega
 |succ g Lu=>
  intro f last p j mid h1 h2 h3 hf hp hc hj;obtain⟨f,rfl⟩:∃j,f=j+1:=⟨f-1,by omega⟩;simp only[CP,Gi,zU.l1,NN k hl hb p hp];cases hy:b[p]? with
  |none=>
   refine⟨by decide,p,pre++sn Bb j::mid,hp,?_⟩;simp only[yX,zK (show ¬(1:Int)=0 by decide),cst,Ac,yZ]
  |some y=>
   have hp1:p<b.length:=(List.getElem?_eq_some_iff.1 hy).1;obtain⟨y0,y1⟩:=hb y (List.mem_of_getElem? hy);simp only[yX,zB rfl,cst,AB];by_cases hy0:y=0
   ·rw[if_pos hy0]
    simp only[zQ hy0,yZ,if_true];exact⟨by omega,by simp⟩
   ·have hmod:Int.tmod y 16=y%16:=Int.tmod_eq_emod_of_nonneg y0
    have hdiv:IntKind.wrap .i64 (last+IntKind.wrap .i64 (Int.tdiv y 16))=last+y/16:=by
     rw[Int.tdiv_eq_ediv_of_nonneg y0,zh (show -9223372036854775808≤y/16 by omega) (by omega),zh (by omega) (by omega)]
    rw[if_neg hy0];simp only[zn hy0,y_,hmod,hdiv,LA,yX];have hty:(CU (y%16)||((y%16==1||y%16==2)&& !false))=isKind (y%16):=by
     unfold isKind;cases CU (y%16)<;>cases(y%16==1)<;>cases(y%16==2)<;>rfl
    rw[hty];have LZ:∀(q:Nat) (e:Int),e≠0→∀x y z:Int,zU.c8 k S (zU.l1 k S f) (pre.length:Int) (deep:Int) x y z (zW b q e) (pre++sn Bb j::mid)=some ((),(zW b q e,pre++sn Bb j::mid)):=by
     intro q e he x y z;simp only[zU.c8,zU.c10,zU.c12,zn he,y_,yX,zK he,yZ]
    by_cases hkd:isKind (y%16)=true
    ·rw[if_neg (by rw[hkd];decide),hkd]
     simp only[zq,y_,zU.c6]
     have tail:∀(id:Int) (q:Nat),zM id→q≤b.length→
      K6 b pre Bb j mid (match(if id<1∨1000<id then(.bad 3:zx (Int×Int)) else if id≤last then .bad 5 else .ok q (y%16,id)) with
       | .bad e=> .bad e
       | .ok q (t,id)=>if t=0 then .ok q (0,[]) else match P t id q (pre.length+1+mid.length) with
         | .bad e=> .bad e
         | .ok r Y=>match CP P b g id r (pre.length+1+mid.length+Y.length) with
           | .bad e=> .bad e
           | .ok z (m,Z)=> .ok z (m+1,Y++Z))
       (zU.c8 k S (zU.l1 k S f) (pre.length:Int) (deep:Int) last (y%16) id (zW b q 0) (pre++sn Bb j::mid)):=by
      have ht0:¬y%16=0:=by rcases Jq hkd with e|e|e|e|e|e|e<;>omega
      intro id q hid hq;have hget:∀x:yY,gU (pre++x::mid) (pre.length:Int)=some x:=fun x=>by
       rw[Aq,List.getElem?_append_right (Nat.le_refl _)];simp
      have hset:∀x y:yY,List.set (pre++x::mid) (Int.toNat (pre.length:Int)) y=pre++y::mid:=fun x y=>by
       rw[Int.toNat_natCast,List.set_append_right _ _ (Nat.le_refl _)];simp
      by_cases c1:id<1∨1000<id
      ·rw[if_pos c1]
       have hw:(decide ((1:Int)≤id)&&decide (id≤1000))=false:=by
        rw[Bool.eq_false_iff];intro q;simp only[Aa,Ae] at q;omega
       refine⟨by decide,q,pre++sn Bb j::mid,hq,?_⟩;simp only[zU.c8,zQ rfl,yZ,Ay,hw,yX,zO,ET,zU.c10,zU.c12,zn (show ¬(3:Int)=0 by decide),y_,zK (show ¬(3:Int)=0 by decide)]
      ·rw[if_neg c1]
       have hw:(decide ((1:Int)≤id)&&decide (id≤1000))=true:=by simp;omega
       simp only[zU.c8,zQ rfl,yZ,Ay,hw,yX,zq,y_,zU.c10];by_cases c2:id≤last
       ·rw[if_pos c2]
        refine⟨by decide,q,pre++sn Bb j::mid,hq,?_⟩;simp only[zi c2,yZ,ET,yX,zU.c12,zK (show ¬(5:Int)=0 by decide)]
       ·rw[if_neg c2]
        have Lp:IntKind.wrap .i64 ((j:Int)+1)=((j+1:Nat):Int):=by rw[zh (by omega) (by omega)];omega
        have hsn:((sn Bb j).1,(sn Bb j).2.1,(sn Bb j).2.2.1,(sn Bb j).2.2.2.1,IntKind.wrap .i64 ((sn Bb j).2.2.2.2.1+1),())=sn Bb ((j+1:Nat):Int):=by
         show(_,_,_,_,IntKind.wrap .i64 ((j:Int)+1),())=_;rw[Lp];rfl
        simp only[zl c2,y_,zU.c12,zB rfl,hget,hset,yX,hdw,hsn,if_neg ht0];have hn:=ih (y%16) id q (pre++sn Bb ((j+1:Nat):Int)::mid) hkd hq (by simp;omega);rw[show(pre++sn Bb ((j+1:Nat):Int)::mid).length=pre.length+1+mid.length by simp;omega] at hn;unfold GR at hn;cases hr:P (y%16) id q (pre.length+1+mid.length) with
        |bad e=>
         rw[hr] at hn;obtain⟨he,q',l,hq',e1⟩:=hn;refine⟨he,q',l,hq',?_⟩;obtain⟨f,rfl⟩:∃j,f=j+1:=⟨f-1,by omega⟩;simp only[e1,yX,zU.l1,aaS k q' he,zK he,cst,Ac,yZ]
        |ok r Y=>
         rw[hr] at hn;obtain⟨hr1,e1⟩:=hn;have hlen:=hP _ _ _ _ _ _ hkd (by omega) hr;have h4:=Lu f id r (j+1) (mid++Y) (by omega) (by omega) (by omega) (by omega) hr1 (by rw[Ab];omega) (by omega);rw[Ab,←Nat.add_assoc] at h4;simp only[e1,yX,CE,List.cons_append];cases hr2:CP P b g id r (pre.length+1+mid.length+Y.length) with
         |bad e=>rw[hr2] at h4;exact h4
         |ok z x=>
          obtain⟨m,Z⟩:=x;rw[hr2] at h4;obtain⟨h5,h6⟩:=h4;refine⟨h5,?_⟩;rw[h6,show j+1+m=j+(m+1) by omega,CE]
     by_cases h16:y/16=0
     ·simp only[if_pos h16,zi (show y<16 by omega),yZ,KU k hk hl hb (p+1) (by omega)]
      cases hg:gv (b.drop (p+1)) with
      |none=>
       simp only[Option.map_none,yX];obtain⟨w,hw⟩:∃w,F7 k 0=some w:=⟨_,JO k ⟨by decide,by decide⟩⟩;refine⟨by decide,p+1,pre++sn Bb j::mid,by omega,?_⟩;rw[hw,yX,LZ (p+1) 1 (by decide)]
      |some z=>
       obtain⟨u,n⟩:=z;obtain⟨f1,f2,f3,f4,f5⟩:=DX _ u n (fun x hx=>hb x (List.mem_of_mem_drop hx)) hg;rw[List.length_drop] at f3;simp only[Option.map_some,yX,JO k f1];exact tail (BB u) (p+1+n) (Mk u) (by omega)
     ·simp only[if_neg h16,zl (show ¬y<16 by omega),y_]
      exact tail (last+y/16) (p+1) ⟨by omega,by omega⟩ (by omega)
    ·have Np:isKind (y%16)=false:=by simpa using hkd
     rw[if_pos Np,Np];simp only[zO,yZ,ET,yX,zU.c6];refine⟨by decide,p+1,pre++sn Bb j::mid,by omega,?_⟩;by_cases h16:y<16
     ·obtain⟨w,hw⟩:∃w,F7 k 0=some w:=⟨_,JO k ⟨by decide,by decide⟩⟩
      simp only[zi h16,yZ,ab8 k hk hl hb (p+1) (by omega) (show(2:Int)≠0 by decide),yX,hw,LZ (p+1) 2 (by decide)]
     ·simp only[zl h16,y_,LZ (p+1) 2 (by decide)]
theorem K9{n:yY}{b:List Int}{p:Nat}{deep:Nat}{acc:List yY}(hd:deep≤100)(ha:acc.length≤1500):
 Ew k n (deep:Int) (zW b p 0) acc=if 12<deep∨acc.length=1500 then some (0,(zW b p 4,acc)) else some ((acc.length:Int),(zW b p 0,acc++[n])):=by
 by_cases h:12<deep∨acc.length=1500
 ·rw[if_pos h]
  unfold Ew Ew.c3;have:(decide ((deep:Int)>12)||((acc.length:Int)==1500))=true:=by
   rcases h with h|h
   ·rw[zi (show(deep:Int)>12 by omega),Ac]
   ·rw[zQ (show(acc.length:Int)=1500 by omega),Bool.or_true]
  simp only[cst,this,yX,yZ,ET,zK (show ¬(4:Int)=0 by decide)]
 ·rw[if_neg h]
  exact OZ k rfl (by omega) (by omega)
theorem aag(hk:2000≤k)(b:List Int)(hl:b.length<4611686018427387904)(hb:Av b):∀(d D deep:Nat) (kind id:Int) (p:Nat) (acc:List yY),d+deep=13→2*d<D→isKind kind=true→p≤b.length→acc.length≤1500→
 GR (zI.rec k D).1 b kind id (deep:Int) p acc (BA d b kind id p acc.length):=by
 intro d
 induction d with
 |zero=>
  intro D deep kind id p acc hdd hD hkd hp hc;obtain⟨D,rfl⟩:∃m,D=m+1:=⟨D-1,by omega⟩;refine⟨by decide,p,acc,hp,?_⟩;simp only[zI.rec,zI.b];rw[K9 k (by omega) hc,if_pos (by omega)];simp only[yX,zK (show ¬(4:Int)=0 by decide),yZ]
 |succ d ih=>
  intro D deep kind id p acc hdd hD hkd hp hc;obtain⟨D,rfl⟩:∃m,D=m+2:=⟨D-2,by omega⟩;have hset:∀(acc:List yY) (x y:yY),List.set (acc++[x]) (Int.toNat (acc.length:Int)) y=acc++[y]:=fun acc x y=>by
   rw[Int.toNat_natCast,List.set_append_right _ _ (Nat.le_refl _)];simp
  have hget:∀(acc:List yY) (x:yY),gU (acc++[x]) (acc.length:Int)=some x:=fun acc x=>by
   rw[Aq,List.getElem?_append_right (Nat.le_refl _)];simp
  unfold BA;by_cases Gw:acc.length=1500
  ·rw[if_pos Gw]
   refine⟨by decide,p,acc,hp,?_⟩;simp only[zI.rec,zI.b];rw[K9 k (by omega) hc,if_pos (.inr Gw)];simp only[yX,zK (show ¬(4:Int)=0 by decide),yZ]
  ·rw[if_neg Gw]
   unfold GR;simp only[zI.rec,zI.b];rw[K9 k (by omega) hc,if_neg (show ¬(12<deep∨acc.length=1500) by omega)];simp only[yX,zB rfl,y_];by_cases Eg:kind=5∨kind=6
   ·rw[if_pos Eg]
    have e0:(cond (kind==5)
         (zI.c5 k (zI.rec k (D+1)).2.1 (zI.rec k (D+1)).2.2 kind (deep:Int) (acc.length:Int) kind (kind==5) (zW b p 0) (acc++[(kind,id,0,zk,0,())]))
         (zI.c5 k (zI.rec k (D+1)).2.1 (zI.rec k (D+1)).2.2 kind (deep:Int) (acc.length:Int) kind (kind==6) (zW b p 0) (acc++[(kind,id,0,zk,0,())])))
     =zI.c5 k (zI.rec k (D+1)).2.1 (zI.rec k (D+1)).2.2 kind (deep:Int) (acc.length:Int) kind true (zW b p 0) (acc++[(kind,id,0,zk,0,())]):=by
     rcases Eg with h|h
     ·rw[zQ h,yZ]
     ·rw[zn (show ¬kind=5 by omega),zQ h,y_]
    simp only[zI.rec] at e0;rw[e0];simp only[zI.c5,yZ,KU k hk hl hb p hp];cases hg:gv (b.drop p) with
    |none=>
     obtain⟨w,hw⟩:∃w,F7 k 0=some w:=⟨_,JO k ⟨by decide,by decide⟩⟩;refine⟨by decide,p,acc++[(kind,id,w,⟨#[]⟩,0,())],hp,?_⟩;simp only[yX,hw,zn (show ¬(1:Int)=0 by decide),Ah,Bool.and_false,y_,zI.c8,hget,hset]
    |some z=>
     obtain⟨u,n⟩:=z;obtain⟨f1,f2,f3,f4,f5⟩:=DX _ u n (fun x hx=>hb x (List.mem_of_mem_drop hx)) hg;rw[List.length_drop] at f3;simp only[yX,JO k f1,zQ rfl,Ah,Bool.and_true,He,Ay];have h32:(decide (-2147483648≤BB u)&&decide (BB u≤2147483647))=int32 (BB u):=rfl;rw[h32];by_cases hbad:kind=5∧int32 (BB u)=false
     ·rw[if_pos hbad]
      refine⟨by decide,p+n,acc++[(kind,id,BB u,⟨#[]⟩,0,())],by omega,?_⟩;simp only[zQ hbad.1,hbad.2,zO,Bool.and_self,yZ,ET,yX,zI.c8,hget,hset]
     ·rw[if_neg hbad]
      have hb2:((kind==5)&& !int32 (BB u))=false:=by
       rw[Bool.eq_false_iff];intro q;simp only[Aa,beq_iff_eq,Bool.not_eq_true'] at q;exact hbad q
      refine⟨by omega,?_⟩;simp only[hb2,y_,zI.c8,hget,hset,yX]
   ·rw[if_neg Eg]
    have e5:(kind==5)=false:=zn (by omega);have e6:(kind==6)=false:=zn (by omega);simp only[e5,e6,y_,zI.c5];by_cases h8:kind=8
    ·subst h8
     simp only[if_true,show((8:Int)==8)=true from rfl,yZ,zI.d10];have ht:=abW k hk hl hb p hp (acc++[(8,id,0,zk,0,())]);cases hr:EJ b p with
     |bad e=>
      rw[hr] at ht;obtain⟨he,q,hq,e1⟩:=ht;refine⟨he,q,acc++[(8,id,0,⟨#[]⟩,0,())],hq,?_⟩;simp only[e1,yX,hget,hset]
     |ok q s=>
      rw[hr] at ht;have hq:q≤b.length:=by
       unfold EJ at hr;split at hr
       ·cases hr
       ·rename_i u n hg
        obtain⟨f1,f2,f3,f4,f5⟩:=DX _ u n (fun x hx=>hb x (List.mem_of_mem_drop hx)) hg;rw[List.length_drop] at f3;split at hr
        ·cases hr
        ·split at hr
         ·cases hr
         ·simp only[zx.ok.injEq] at hr
          omega
      refine⟨hq,?_⟩;simp only[ht,yX,hget,hset]
    ·rw[if_neg h8]
     simp only[zn h8,y_];by_cases h9:kind=9
     ·subst h9
      simp only[if_true,show((9:Int)==9)=true from rfl,yZ,z8.b,Gj,NN k hl hb p hp];cases hy:b[p]? with
      |none=>
       refine⟨by decide,p,acc++[(9,id,0,⟨#[]⟩,0,())],hp,?_⟩;simp only[yX,show(IntKind.wrap .i64 (Int.tdiv 0 16)==15)=false by decide,y_,z8.c4,zK (show ¬(1:Int)=0 by decide),cst,Ac,yZ]
      |some y=>
       have hp1:p<b.length:=(List.getElem?_eq_some_iff.1 hy).1;obtain⟨y0,y1⟩:=hb y (List.mem_of_getElem? hy);have e16:IntKind.wrap .i64 (Int.tdiv y 16)=y/16:=by
        rw[Int.tdiv_eq_ediv_of_nonneg y0,zh (by omega) (by omega)]
       have em:Int.tmod y 16=y%16:=Int.tmod_eq_emod_of_nonneg y0;simp only[yX,e16,em]
       have tail:∀(many:Int) (q:Nat),zM many→q≤b.length→
        match(match(if many=0 then(.ok q (0,0):zx (Int×Int)) else if CU (y%16)=false then .bad 2 else if many<0∨1500<many then .bad 4 else .ok q (many,y%16)) with
         | .bad e=>(.bad e:zx (List yY))
         | .ok q (many,item)=>match A8 (fun p c=>BA d b item 0 p c) many.toNat q (acc.length+1) with
           | .bad e=> .bad e
           | .ok r Y=> .ok r ((9,id,item,⟨#[]⟩,many,())::Y)) with
        | .bad e=>e≠0∧∃q' l,q'≤b.length∧((z8.c4 k (zI.rec k D).1 (acc.length:Int) (deep:Int) many (y%16) (zW b q 0) (acc++[(9,id,0,zk,0,())])).bind fun zV=>some ((),(zV.2.1,zV.2.2)))=some ((),(zW b q' e,l))
        | .ok q' Y=>q'≤b.length∧((z8.c4 k (zI.rec k D).1 (acc.length:Int) (deep:Int) many (y%16) (zW b q 0) (acc++[(9,id,0,zk,0,())])).bind fun zV=>some ((),(zV.2.1,zV.2.2)))=some ((),(zW b q' 0,acc++Y)):=by
        intro many q ac3 hq;simp only[z8.c4,zB rfl,cst,AB,yX];by_cases h0:many=0
        ·simp only[if_pos h0,Int.toNat_zero,A8,zQ h0,yZ,yX]
         exact⟨hq,trivial⟩
        ·simp only[if_neg h0,zn h0,y_,LA,zq,Bool.and_false,Bool.or_false,yX]
         by_cases hi:CU (y%16)=true
         ·rw[if_neg (by rw[hi];decide),hi]
          simp only[zq,y_,z8.c7,Ay,yX];by_cases hm:many<0∨1500<many
          ·have hw:(decide ((0:Int)≤many)&&decide (many≤1500))=false:=by
            rw[Bool.eq_false_iff];intro q;simp only[Aa,Ae] at q;omega
           obtain⟨K,hK⟩:∃K,k=K+1:=⟨k-1,by omega⟩;rw[if_pos hm];refine⟨by decide,q,acc++[(9,id,y%16,⟨#[]⟩,many,())],hq,?_⟩;have hstop:z8.Bd k (zI.rec k D).1 k (deep:Int) many (y%16) 0 (zW b q 4) (acc++[(9,id,y%16,⟨#[]⟩,many,())])=some ((),(zW b q 4,acc++[(9,id,y%16,⟨#[]⟩,many,())])):=by
            conv=>lhs;rw[show k=k from rfl]
            have:∀f,f≠0→z8.Bd k (zI.rec k D).1 f (deep:Int) many (y%16) 0 (zW b q 4) (acc++[(9,id,y%16,⟨#[]⟩,many,())])=some ((),(zW b q 4,acc++[(9,id,y%16,⟨#[]⟩,many,())])):=by
             intro f hf;obtain⟨f,rfl⟩:∃j,f=j+1:=⟨f-1,by omega⟩;simp only[z8.Bd,zn (show ¬(4:Int)=0 by decide)];cases decide ((0:Int)<many)<;>rfl
            exact this k (by omega)
           simp only[hw,zO,yZ,ET,yX,z8.c9,hget,hset,hstop]
          ·rw[if_neg hm]
           have hw:(decide ((0:Int)≤many)&&decide (many≤1500))=true:=by simp;omega
           simp only[hw,zq,y_,z8.c9,hget,hset,yX]
           have hp:=aaf k (zI.rec k D).1 b (y%16) deep (by omega) (fun p c=>BA d b (y%16) 0 p c)
            (fun p acc hp hc=>ih D (deep+1) (y%16) 0 p acc (by omega) (by omega) (Gy hi) hp hc)
            (fun p c q Y hc h=>by
             obtain⟨_,n,X,rfl,_,_,_,h5⟩:=IL d b (y%16) 0 p c q Y (Gy hi) hc h;exact h5) many (by omega) many.toNat k 0 q (acc++[(9,id,y%16,⟨#[]⟩,many,())]) (by omega) (by omega) (by omega) hq (by simp;omega)
           rw[Ab,AJ] at hp;cases hr:A8 (fun p c=>BA d b (y%16) 0 p c) many.toNat q (acc.length+1) with
           |bad e=>
            rw[hr] at hp;obtain⟨he,q',l,hq',e1⟩:=hp;exact⟨he,q',l,hq',by rw[e1];rfl⟩
           |ok q' Y=>
            rw[hr] at hp;obtain⟨hq',e1⟩:=hp;exact⟨hq',by rw[e1];simp⟩
         ·have hif:CU (y%16)=false:=by simpa using hi
          rw[if_pos hif,hif];simp only[zO,yZ,ET,yX,z8.c7,Ay];have hstop:z8.c9 k (zI.rec k D).1 (acc.length:Int) (deep:Int) many (y%16) (zW b q 2) (acc++[(9,id,0,zk,0,())])=some ((),(zW b q 2,acc++[(9,id,y%16,⟨#[]⟩,many,())])):=by
           simp only[z8.c9,hget,hset,yX];have:∀f,f≠0→z8.Bd k (zI.rec k D).1 f (deep:Int) many (y%16) 0 (zW b q 2) (acc++[(9,id,y%16,⟨#[]⟩,many,())])=some ((),(zW b q 2,acc++[(9,id,y%16,⟨#[]⟩,many,())])):=by
            intro f hf;obtain⟨f,rfl⟩:∃j,f=j+1:=⟨f-1,by omega⟩;simp only[z8.Bd,zn (show ¬(2:Int)=0 by decide)];cases decide ((0:Int)<many)<;>rfl
           exact this k (by omega)
          refine⟨by decide,q,acc++[(9,id,y%16,⟨#[]⟩,many,())],hq,?_⟩;cases hw:(decide ((0:Int)≤many)&&decide (many≤1500)) with
          |true=>simp only[zq,y_,hstop,yX]
          |false=>simp only[zO,yZ,J8 k b q (show(2:Int)≠0 by decide),yX,hstop]
       by_cases EW:y/16=15
       ·simp only[if_pos EW,zQ EW,yZ,KU k hk hl hb (p+1) (by omega)]
        cases hg:gv (b.drop (p+1)) with
        |none=>
         refine⟨by decide,p+1,acc++[(9,id,0,⟨#[]⟩,0,())],by omega,?_⟩;simp only[Option.map_none,yX,z8.c4,zK (show ¬(1:Int)=0 by decide),cst,Ac,yZ]
        |some z=>
         obtain⟨u,n⟩:=z;obtain⟨f1,f2,f3,f4,f5⟩:=DX _ u n (fun x hx=>hb x (List.mem_of_mem_drop hx)) hg;rw[List.length_drop] at f3;simp only[Option.map_some,yX];exact tail u (p+1+n) f1 (by omega)
       ·simp only[if_neg EW,zn EW,y_]
        exact tail (y/16) (p+1) ⟨by omega,by omega⟩ (by omega)
     ·rw[if_neg h9]
      simp only[zn h9,y_];by_cases h12:kind=12
      ·subst h12
       simp only[if_true,show((12:Int)==12)=true from rfl,yZ,zU.b]
       have hf:=aad k hk (zI.rec k D).1 b hl hb deep (by omega) (fun t id p c=>BA d b t id p c)
        (fun t id p acc ht hp hc=>ih D (deep+1) t id p acc (by omega) (by omega) ht hp hc)
        (fun t id p c q Y ht hc h=>by
         obtain⟨_,n,X,rfl,_,_,_,h5⟩:=IL d b t id p c q Y ht hc h;exact h5) id acc 1002 k 0 p 0 [] (by omega) (by omega) (by omega) (by omega) hp (by simp;omega) (by omega)
       rw[List.length_nil,Nat.add_zero] at hf;rw[show(acc++[((12:Int),id,(0:Int),zk,(0:Int),())]:List yY)=acc++sn id ((0:Nat):Int)::[] from rfl];unfold K6 at hf;cases hr:CP (fun t id p c=>BA d b t id p c) b 1002 0 p (acc.length+1) with
       |bad e=>
        rw[hr] at hf;obtain⟨he,q',l,hq',e1⟩:=hf;exact⟨he,q',l,hq',by rw[e1];rfl⟩
       |ok q' x=>
        obtain⟨m,Y⟩:=x;rw[hr] at hf;obtain⟨hq',e1⟩:=hf;refine⟨hq',?_⟩;rw[e1];simp[sn]
      ·rw[if_neg h12]
       simp only[zn h12,y_];exact⟨hp,trivial⟩
end Go.zJ
end
