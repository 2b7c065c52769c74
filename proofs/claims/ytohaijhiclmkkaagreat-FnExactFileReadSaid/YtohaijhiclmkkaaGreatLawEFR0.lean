/- plain laws of the claim's functions -/
import Derived.Test.YtohaijhiclmkkaaGreatAmStep
import Derived.Laws.BitsLemmas
import Derived.Laws.Strings
import Derived.Test.YtohaijhiclmkkaaGreatEFRF1
set_option linter.unnecessarySimpa false
set_option linter.unusedSimpArgs false
set_option linter.unusedVariables false
set_option linter.unusedSectionVars false
section
namespace Go
theorem yY{α β:Type}(a:α)(f:α→Option β):(some a).bind f=f a:=rfl
theorem yX{α:Type}{a b:α}:cond true a b=a:=rfl
theorem yZ{α:Type}{a b:α}:cond false a b=b:=rfl
theorem zh{p:Prop}[inst:Decidable p]:p→decide p=true:=decide_eq_true
theorem zk{p:Prop}[inst:Decidable p]:¬p→decide p=false:=decide_eq_false
theorem zq:(!true)=false:=rfl
theorem zD:(!false)=true:=rfl
theorem Aa(a b:Bool):((a&&b)=true)=(a=true∧b=true):=Bool.and_eq_true a b
theorem Ag(b:Bool):(true||b)=true:=rfl
theorem Aq(b:Bool):(false||b)=b:=Bool.false_or b
theorem Bj(b:Bool):(true&&b)=b:=Bool.true_and b
theorem Cg(b:Bool):(false&&b)=false:=rfl
theorem Bt(b:Bool):(b||b)=b:=Bool.or_self b
theorem zX{α:Type}{as bs:List α}:(as++bs).length=as.length+bs.length:=List.length_append
theorem Ap{α:Type}{a:α}:[a].length=1:=rfl
theorem Ah{α:Type}{a:α}{as:List α}:(a::as).length=as.length+1:=rfl
theorem AO{α:Type}(as:List α):as++[]=as:=List.append_nil as
theorem Bu{α:Type}(as bs cs:List α):as++bs++cs=as++(bs++cs):=List.append_assoc as bs cs
theorem AA{α:Type}{l:List α}{i:Nat}(h:i<l.length):l[i]?=some l[i]:=List.getElem?_eq_getElem h
theorem Ao{α:Type}(a b:α):(some a=some b)=(a=b):=Option.some.injEq a b
theorem Al{p:Prop}[inst:Decidable p]:(decide p=true)=p:=decide_eq_true_eq
end Go
namespace Go.Fn
open Go Go.Am
def ajK(k:Nat)(t0:Int)(t1:Int)(t2:Int):Option Unit:=
 some ()
end Go.Fn
namespace Go.Af
open Go.Am
theorem zg{x:Int}(h0: -9223372036854775808≤x)(h1:x<9223372036854775808):IntKind.wrap .i64 x=x:=by
 rw[IntKind.wrap_i64];omega
theorem NU(x:Int): -9223372036854775808≤IntKind.wrap .i64 x:=by rw[IntKind.wrap_i64];omega
theorem NT(x:Int):IntKind.wrap .i64 x<9223372036854775808:=by rw[IntKind.wrap_i64];omega
theorem MC(x:Int):IntKind.wrap .u64 x=x%18446744073709551616:=by simp[IntKind.wrap,IntKind.bits,IntKind.signed]
theorem UK(x:Int):IntKind.wrap .u8 x=x%256:=IntKind.wrap_u8 x
theorem w8{x:Int}(h0:0≤x)(h1:x<256):IntKind.wrap .u8 x=x:=by rw[UK];omega
theorem wraps_u64(n:Int)(h₀:0≤n)(h₁:n<2^64):IntKind.u64.wrap n=n:=by rw[MC];omega
def Ae(x:Int):Prop:= -9223372036854775808≤x∧x<9223372036854775808
theorem Oa(x:Int)(i:Nat)(hi:i≤62):bits .and .i64 x (2^i-1)=x%2^i:=by
 have hpos:0<2^i:=Nat.two_pow_pos i;have hle:2^i≤2^62:=Nat.pow_le_pow_right (by decide) hi;have hc:((2:Int)^i-1)=((2^i-1:Nat):Int):=by
  rw[Int.natCast_sub hpos];simp
 have hb:(2^i-1)%2^IntKind.i64.bits=2^i-1:=Nat.mod_eq_of_lt (show 2^i-1<2^64 by omega);rw[hc];simp only[bits,BitVec.ofInt_natCast,BitVec.toNat_and,BitVec.toNat_ofNat,hb,Nat.and_two_pow_sub_one_eq_mod,BitVec.toNat_ofInt];show IntKind.wrap .i64 (((x%((2^64:Nat):Int)).toNat%2^i:Nat):Int)=_;have h1:(x%((2^64:Nat):Int)).toNat%2^i<2^i:=Nat.mod_lt _ hpos;have h2:(((x%((2^64:Nat):Int)).toNat%2^i:Nat):Int)=x%2^i:=by
  have h3:0≤x%((2^64:Nat):Int):=Int.emod_nonneg _ (by decide);rw[Int.natCast_emod,Int.toNat_of_nonneg h3];have hd:((2^i:Nat):Int)∣((2^64:Nat):Int):=by
   have:=Nat.pow_dvd_pow 2 (show i≤64 by omega)
   exact_mod_cast this
  rw[Int.emod_emod_of_dvd x hd];simp
 rw[h2];have h4:x%2^i<2^i:=Int.emod_lt_of_pos _ (by exact_mod_cast hpos)
 have h5:0≤x%2^i:=Int.emod_nonneg _ (by have:(0:Int)<2^i:=by exact_mod_cast hpos
                                        omega)
 have h6:(2:Int)^i≤2^62:=by exact_mod_cast hle
 rw[zg (by omega) (by omega)]
theorem U0(x:Int):bits .and .i64 x 255=x%256:=Oa x 8 (by decide)
theorem and1(x:Int):bits .and .i64 x 1=x%2:=Oa x 1 (by decide)
theorem u8_and127{x:Int}(h0:0≤x)(h1:x<256):bits .and .u8 x 127=x%128:=
 bits_mask .u8 8 (by decide) wraps_u8 7 (by decide) x h0 h1
theorem Vg(k:IntKind)(a b:Int):bits .or k a b=bits .or k b a:=by
 simp only[bits,BitVec.toNat_or];rw[Nat.or_comm]
theorem aml{a b:Int}{i:Nat}(ha0:0≤a)(ha:a<2^i)(hb0:0≤b)(hb:b*2^i<2^64)(hi:i≤64):bits .or .u64 a (b*2^i)=a+b*2^i:=by
 have hp:(2:Int)^i≤2^64:=by
  have:=Nat.pow_le_pow_right (n:=2) (by decide) hi
  exact_mod_cast this
 have hp0:(0:Int)<2^i:=by have:=Nat.two_pow_pos i;exact_mod_cast this
 rw[Vg,bits_join .u64 64 (by decide) wraps_u64 i (b*2^i) a (Int.mul_nonneg hb0 (by omega)) (Int.mul_emod_left _ _) hb ha0 ha (by omega)];omega
theorem IW(k:IntKind)(a:Int)(n:Nat)(h:n≤k.bits):pE k a (n:Int)=a/2^n:=by
 unfold pE;rw[Int.toNat_natCast,Nat.min_eq_left h,Int.fdiv_eq_ediv_of_nonneg];have:=Nat.two_pow_pos n;have:(0:Int)<2^n:=by exact_mod_cast this
 omega
theorem Ug(a:Int):pE .u64 a 1=a/2:=IW .u64 a 1 (by decide)
theorem Ak{n:Nat}(h:n≤4294967296):lim n=true:=by unfold lim;exact Nat.ble_eq_true_of_le h
theorem JH{n:Int}(h0:0≤n)(h:n≤4294967296):oV n=true:=by simp[oV,h0,h]
theorem EI{l h:Int}{n:Nat}(h0:0≤l)(h1:l≤h)(h2:h≤n):jg l h n=true:=by simp[jg,h0,h1,h2]
theorem zw{a b:Int}(h:¬a=b):(a==b)=false:=by simpa using h
theorem zO{a b:Int}(h:¬a=b):(a !=b)=true:=by simpa using h
theorem Ac{a b:Int}(h:a=b):(a==b)=true:=by simpa using h
theorem zK{a b:Int}(h:a=b):(a !=b)=false:=by simpa using h
theorem Au(b c:Bool):(cond b (some c) (some false):Option Bool)=some (b&&c):=by cases b<;>rfl
theorem cst(b c:Bool):(cond b (some true) (some c):Option Bool)=some (b||c):=by cases b<;>rfl
theorem VH(b c d:Bool):(cond b (some c) (some d):Option Bool)=some (cond b c d):=by cases b<;>rfl
theorem zQ{α:Type}(xs:List α)(n:Nat):gU xs (n:Int)=xs[n]?:=rfl
theorem FK{α:Type}{xs:List α}{i:Int}(h0:0≤i)(h1:i<xs.length):∃x,gU xs i=some x∧xs[i.toNat]?=some x:=by
 obtain⟨n,rfl⟩:=Int.eq_ofNat_of_zero_le h0;have h:n<xs.length:=by omega
 exact⟨xs[n],by rw[zQ,AA h],by simp[h]⟩
theorem K3{α:Type}(xs:List α):gU xs 0=xs[0]?:=rfl
theorem VL{α:Type}{b:List α}{p:Nat}{y:α}{r:List α}(h:b.drop p=y::r):b[p]?=some y∧p<b.length∧b.drop (p+1)=r:=by
 have h1:=List.getElem?_drop (xs:=b) (i:=p) (j:=0);rw[h] at h1;have hl:=congrArg List.length h;simp at hl;refine⟨by simpa using h1.symm,by omega,?_⟩;rw[←List.drop_drop,h];rfl
theorem Dv(a b:ByteArray):iY a b=decide (a=b):=by
 unfold iY;have h:a.toList=b.toList↔a=b:=by
  constructor
  ·intro h
   rw[ByteArray.toList_eq,ByteArray.toList_eq] at h;cases a;cases b;simp only[ByteArray.mk.injEq];exact Array.ext' h
  ·rintro rfl;rfl
 by_cases e:a=b
 ·simp[e]
 ·simp only[e,decide_false]
  have:a.toList≠b.toList:=fun h'=>e (h.1 h');simp[this]
theorem uo(s:ByteArray):(eZ s).length=s.size:=by
 unfold eZ;rw[List.length_map,Array.length_toList];rfl
theorem al7(s:ByteArray)(x:Int)(h:x∈eZ s):0≤x∧x<256:=by
 unfold eZ at h;obtain⟨c,_,hc⟩:=List.mem_map.1 h;have:=c.toNat_lt;omega
theorem Kb(xs:List Int):(wY xs).size=xs.length:=strOfNums_size xs
end Go.Af
end
section
namespace Go.Af
open Go.Am Go.Fn
def Mq:Nat→Nat→List Int
 |0,n=>[(n:Int)]
 |f+1,n=>if 127<n then((n%128+128:Nat):Int)::Mq f (n/128) else[(n:Int)]
def uv(x:Int):List Int:=Mq 9 (x%18446744073709551616).toNat
theorem xor_zero(a:Int)(h0: -9223372036854775808≤a)(h1:a<9223372036854775808):bits .xor .i64 a 0=a:=by
 have e:(BitVec.ofInt (IntKind.bits .i64) a^^^BitVec.ofInt (IntKind.bits .i64) 0)=BitVec.ofInt (IntKind.bits .i64) a:=by simp
 simp only[bits,e,BitVec.toNat_ofInt];show IntKind.wrap .i64 (((a%((2^64:Nat):Int)).toNat:Nat):Int)=a;rw[IntKind.wrap_i64];omega
theorem UM(a:Int)(h0: -9223372036854775808≤a)(h1:a<9223372036854775808):bits .xor .i64 a (-1)= -a-1:=by
 have e:(BitVec.ofInt (IntKind.bits .i64) a^^^BitVec.ofInt (IntKind.bits .i64) (-1))= ~~~BitVec.ofInt (IntKind.bits .i64) a:=by
  have:BitVec.ofInt (IntKind.bits .i64) (-1)=BitVec.allOnes (IntKind.bits .i64):=by decide
  rw[this,BitVec.xor_allOnes]
 simp only[bits,e,BitVec.toNat_not,BitVec.toNat_ofInt];show IntKind.wrap .i64 ((2^64-1-(a%((2^64:Nat):Int)).toNat:Nat):Int)=_;rw[IntKind.wrap_i64];omega
def zig(x:Int):Int:=if 0≤x then IntKind.wrap .i64 (x*2) else -IntKind.wrap .i64 (x*2)-1
theorem am4(k:Nat)(x:Int)(h0: -9223372036854775808≤x)(h1:x<9223372036854775808):GJ k (zig x)=some x:=by
 unfold GJ;rw[and1,MC,Ug,zg (by omega) (by omega)];have hz:zig x=if 0≤x then(x*2+9223372036854775808)%18446744073709551616-9223372036854775808 else -((x*2+9223372036854775808)%18446744073709551616-9223372036854775808)-1:=by
  unfold zig;rw[IntKind.wrap_i64]
 by_cases hx:0≤x
 ·rw[if_pos hx] at hz
  rw[show zig x%2=0 by omega,show IntKind.wrap .i64 (0-0)=0 by decide,xor_zero _ (by omega) (by omega)]
  congr 1
  omega
 ·rw[if_neg hx] at hz
  rw[show zig x%2=1 by omega,show IntKind.wrap .i64 (0-1)= -1 by decide,UM _ (by omega) (by omega)]
  congr 1
  omega
end Go.Af
end
section
namespace Go.Af
open Go.Am Go.Fn
variable(k:Nat)
theorem UJ(k:IntKind)(x:Int):IntKind.wrap k x%2^k.bits=x%2^k.bits:=by
 have hp:(0:Int)<2^k.bits:=by have:=Nat.two_pow_pos k.bits;exact_mod_cast this
 have h0:=Int.emod_nonneg x (show(2:Int)^k.bits≠0 by omega);cases k<;>simp[IntKind.wrap,IntKind.bits,IntKind.signed]<;>omega
theorem TI{n:Nat}{a b:Int}(h:a%2^n=b%2^n):BitVec.ofInt n a=BitVec.ofInt n b:=by
 apply BitVec.eq_of_toNat_eq;rw[BitVec.toNat_ofInt,BitVec.toNat_ofInt];have:((2^n:Nat):Int)=(2:Int)^n:=by simp
 rw[this,h]
theorem akC(k:IntKind)(a b:Int):bits .or k (k.wrap a) (k.wrap b)=bits .or k a b:=by
 simp only[bits];rw[TI (UJ k a),TI (UJ k b)]
theorem akB(k:IntKind){a b i:Nat}(ha:a<2^i)(hab:a+b*2^i<2^k.bits):bits .or k (a:Int) ((b*2^i:Nat):Int)=k.wrap ((a+b*2^i:Nat):Int):=by
 have h1:a|||b*2^i=a+b*2^i:=by
  rw[Nat.or_comm,Nat.mul_comm,←Nat.two_pow_add_eq_or_of_lt ha b,Nat.add_comm]
 simp only[bits,BitVec.ofInt_natCast,BitVec.toNat_or,BitVec.toNat_ofNat];rw[Nat.mod_eq_of_lt (show a<2^k.bits by omega),Nat.mod_eq_of_lt (show b*2^i<2^k.bits by omega),h1]
theorem Kj(k:IntKind){a b i:Nat}(hi:i≤k.bits)(ha:a<2^i)(hab:a+b*2^i<2^k.bits):bits .or k (k.wrap (a:Int)) (pz k (b:Int) (i:Int))=k.wrap ((a+b*2^i:Nat):Int):=by
 unfold pz;rw[Int.toNat_natCast,Nat.min_eq_left hi,akC];have:=akB k ha hab;rw[←this];simp
def leB(L M:Nat):List Int:=(List.range L).map fun i=>((M/256^i%256:Nat):Int)
theorem EB(L M:Nat):(leB L M).length=L:=by simp[leB]
theorem Nk{L M i:Nat}(h:i<L):(leB L M)[i]?=some ((M/256^i%256:Nat):Int):=by
 simp[leB,h]
theorem Tn(L:Nat):leB L 0=List.replicate L 0:=by
 apply List.ext_getElem (by simp[leB]);intro i h1 h2;simp[leB]
theorem Pk(p:Nat):2^p=256^(p/8)*2^(p%8):=by
 rw[show(256:Nat)=2^8 by decide,←Nat.pow_mul,←Nat.pow_add,Nat.div_add_mod]
theorem RD{M p:Nat}(h:M<2^p):M/256^(p/8)<2^(p%8):=by
 rw[Pk p] at h;exact Nat.div_lt_of_lt_mul h
theorem Vn(M b p:Nat):(M+b*2^p)/256^(p/8)=M/256^(p/8)+b*2^(p%8):=by
 rw[Pk p,show b*(256^(p/8)*2^(p%8))=(b*2^(p%8))*256^(p/8) by rw[Nat.mul_comm (256^_),Nat.mul_assoc],Nat.add_mul_div_right _ _ (Nat.pow_pos (by decide))]
theorem akW{r:Nat}(h:r<8):2^r≤128:=by
 have:=Nat.pow_le_pow_right (n:=2) (by decide) (show r≤7 by omega);simpa using this
theorem RF{M b p:Nat}(h:M<2^p)(hb:b≤1):M/256^(p/8)+b*2^(p%8)<256:=by
 have h1:=RD h;have h2:=akW (Nat.mod_lt p (show 8>0 by decide));have h3:b*2^(p%8)≤1*2^(p%8):=Nat.mul_le_mul_right _ hb;omega
theorem Tm{L M b p:Nat}(hp:p<8*L)(h:M<2^p)(hb:b≤1):(leB L M).set (p/8) ((M/256^(p/8)+b*2^(p%8):Nat):Int)=leB L (M+b*2^p):=by
 apply List.ext_getElem (by simp[leB]);intro i h1 h2;simp only[EB] at h2;rw[List.getElem_set];by_cases hi:p/8=i
 ·subst hi
  simp only[if_true];simp only[leB,List.getElem_map,List.getElem_range];rw[Vn,Nat.mod_eq_of_lt (RF h hb)]
 ·simp only[hi,if_false,leB,List.getElem_map,List.getElem_range]
  congr 1
  rcases Nat.lt_or_ge i (p/8) with hlt|hge
  ·have hdv:2^p=256^i*(256*(256^(p/8-i-1)*2^(p%8))):=by
    rw[Pk p];have:p/8=i+(1+(p/8-i-1)):=by omega
    conv=>lhs;rw[this,Nat.pow_add,Nat.pow_add]
    simp[Nat.mul_assoc]
   rw[hdv,show b*(256^i*(256*(256^(p/8-i-1)*2^(p%8))))=256^i*(256*(b*(256^(p/8-i-1)*2^(p%8)))) by rw[Nat.mul_left_comm,Nat.mul_left_comm b],Nat.add_mul_div_left _ _ (Nat.pow_pos (by decide)),Nat.add_mul_mod_self_left]
  ·have hlt:p<8*i:=by omega
   have hp2:2^(p+1)≤256^i:=by
    rw[show(256:Nat)=2^8 by decide,←Nat.pow_mul];exact Nat.pow_le_pow_right (by decide) (by omega)
   have hb2:b*2^p≤1*2^p:=Nat.mul_le_mul_right _ hb;rw[Nat.pow_succ] at hp2;rw[Nat.div_eq_of_lt (show M<256^i by omega),Nat.div_eq_of_lt (show M+b*2^p<256^i by omega)]
theorem Tj(M p:Nat):(M/256^(p/8)%256)/2^(p%8)%2=M/2^p%2:=by
 have h8:=Nat.mod_lt p (show 8>0 by decide);have h1:256=2^(p%8)*(2*2^(7-p%8)):=by
  rw[←Nat.mul_assoc,Nat.mul_right_comm,←Nat.pow_add,show p%8+(7-p%8)=7 by omega]
 have h2:∀x:Nat,x%256/2^(p%8)%2=x/2^(p%8)%2:=by
  intro x;rw[h1,Nat.mod_mul_right_div_self,Nat.mod_mul_right_mod]
 rw[h2,Nat.div_div_eq_div_mul,←Pk]
def u64(v:Int):Nat:=(v%18446744073709551616).toNat
theorem Q3(v:Int):u64 v<18446744073709551616:=by unfold u64;omega
theorem NL(v:Int):(u64 v:Int)=v%18446744073709551616:=by unfold u64;omega
theorem bit_eq(v:Int){j:Nat}(hj:j<64):(v/2^j)%2=((u64 v/2^j%2:Nat):Int):=by
 have hv:v=(u64 v:Int)+18446744073709551616*(v/18446744073709551616):=by rw[NL];omega
 have hp0:(2:Int)^j≠0:=by have:=Nat.two_pow_pos j;have:(0:Int)<2^j:=by exact_mod_cast this
                          omega
 have hs:(18446744073709551616:Int)=2^j*(2*2^(63-j)):=by
  have:2^j*(2*2^(63-j))=2^64:=by
   rw[←Nat.mul_assoc,Nat.mul_right_comm,←Nat.pow_add,show j+(63-j)=63 by omega]
  have h2:((2^j*(2*2^(63-j)):Nat):Int)=((2^64:Nat):Int):=by rw[this]
  rw[Int.natCast_mul,Int.natCast_mul,Int.natCast_pow,Int.natCast_pow] at h2;exact h2.symm
 have key:∀(u:Nat) (q:Int),(((u:Int)+18446744073709551616*q)/2^j)%2=((u/2^j%2:Nat):Int):=by
  intro u q;rw[hs,Int.mul_assoc,Int.add_mul_ediv_left _ _ hp0];rw[show(2:Int)*2^(63-j)*q=2*(2^(63-j)*q) by rw[Int.mul_assoc],Int.add_mul_emod_self_left];simp
 conv=>lhs;rw[hv]
 exact key _ _
def Jj(w:Nat):List Nat→Nat
 |[]=>0
 |u::r=>u%2^w+2^w*Jj w r
theorem QF(w:Nat):∀us:List Nat,Jj w us<2^(us.length*w)
 |[]=>by simp[Jj]
 |u::r=>by
  have h1:=QF w r;have h2:=Nat.mod_lt u (Nat.two_pow_pos w);simp only[Jj,Ah];rw[Nat.add_mul,Nat.one_mul,Nat.pow_add,Nat.mul_comm (2^(r.length*w))];have h3:2^w*(Jj w r+1)≤2^w*2^(r.length*w):=Nat.mul_le_mul_left _ h1;rw[Nat.mul_add] at h3;omega
theorem QG(w u:Nat):∀a:List Nat,Jj w (a++[u])=Jj w a+(u%2^w)*2^(a.length*w)
 |[]=>by simp[Jj]
 |x::a=>by
  simp only[List.cons_append,Jj,QG w u a,Ah];rw[Nat.mul_add,Nat.add_mul (a.length) 1,Nat.one_mul,Nat.pow_add,←Nat.add_assoc]
  congr 1
  rw[Nat.mul_left_comm,Nat.mul_comm (2^w)]
theorem mod_succ(u j:Nat):u%2^(j+1)=u%2^j+(u/2^j%2)*2^j:=by
 rw[Nat.pow_succ,Nat.mod_mul,Nat.mul_comm (2^j)]
def bytesOf(n w:Nat):Nat:=(n*w+7)/8
theorem QW{x:Int}(h:0≤x):Int.tdiv x 8=x/8:=Int.tdiv_eq_ediv_of_nonneg h
theorem amf{x:Int}(h:0≤x):Int.tmod x 8=x%8:=Int.tmod_eq_emod_of_nonneg h
end Go.Af
end
section
namespace Go.Af
open Go.Am Go.Fn
variable(k:Nat)
theorem OJ{p:Nat}(h:p<1152921504606846976):IntKind.wrap .i64 (Int.tdiv (p:Int) 8)=((p/8:Nat):Int):=by
 rw[QW (by omega),zg (by omega) (by omega)];omega
theorem OI(p:Nat):Int.tmod (p:Int) 8=((p%8:Nat):Int):=by
 rw[amf (by omega)];omega
theorem TL{M p b:Nat}(h:M<2^p)(hb:b≤1):bits .or .u8 ((M/256^(p/8)%256:Nat):Int) (pz .u8 (b:Int) ((p%8:Nat):Int))=((M/256^(p/8)+b*2^(p%8):Nat):Int):=by
 have h1:=RD h;have h2:=RF h hb;have h3:=Nat.mod_lt p (show 8>0 by decide);have h4:M/256^(p/8)%256=M/256^(p/8):=Nat.mod_eq_of_lt (by omega);rw[h4];have:=Kj .u8 (a:=M/256^(p/8)) (b:=b) (i:=p%8) (show p%8≤8 by omega) h1 (show _<2^8 by omega);rw[w8 (by omega) (by omega)] at this;rw[this,w8 (by omega) (by omega)]
theorem Tx{M0 u q j:Nat}(h:M0<2^q):M0+(u%2^j)*2^q<2^(q+j):=by
 have h1:=Nat.mod_lt u (Nat.two_pow_pos j);have h2:(u%2^j+1)*2^q≤2^j*2^q:=Nat.mul_le_mul_right _ h1;rw[Nat.add_mul,Nat.one_mul] at h2;rw[Nat.pow_add,Nat.mul_comm (2^q)];omega
theorem Tz(M0 u q j:Nat):M0+(u%2^j)*2^q+(u/2^j%2)*2^(q+j)=M0+(u%2^(j+1))*2^q:=by
 rw[mod_succ,Nat.add_mul,Nat.mul_assoc (u/2^j%2),←Nat.pow_add,Nat.add_comm j q,Nat.add_assoc]
theorem Uh(v:Int){j:Nat}(hj:j<64):bits .and .i64 (pE .i64 v (j:Int)) 1=((u64 v/2^j%2:Nat):Int):=by
 rw[IW .i64 v j (show j≤64 by omega),and1,bit_eq v hj]
theorem akH(L3:Int→(List Int)→Int→Int→(List Int)→Option (Unit×(List Int)))(vs:List Int)(len v:Int)(w i q L M0:Nat)(hw:w≤64)(hq:(i:Int)*(w:Int)=(q:Int))(M8:q+w≤8*L)(hL:L<1000000)(hi:i<1000000)(hM:M0<2^q):
 ∀(m n j:Nat),j+m=w→m<n→En.l6 k L3 n (w:Int) (i:Int) v vs len (i:Int) (w:Int) (j:Int) (leB L (M0+(u64 v%2^j)*2^q))=L3 (w:Int) vs len ((i+1:Nat):Int) (leB L (M0+(u64 v%2^w)*2^q)):=by
 intro m
 induction m with
 |zero=>
  intro n j hj hn;obtain⟨n,rfl⟩:∃x,n=x+1:=⟨n-1,by omega⟩;obtain rfl:j=w:=by omega
  simp only[En.l6,zk (show ¬(j:Int)<(j:Int) by omega),yZ];rw[zg (by omega) (by omega)]
  congr 1
 |succ m ih=>
  intro n j hj hn;obtain⟨n,rfl⟩:∃x,n=x+1:=⟨n-1,by omega⟩;have hp:IntKind.wrap .i64 (IntKind.wrap .i64 ((i:Int)*(w:Int))+(j:Int))=((q+j:Nat):Int):=by
   rw[hq,zg (x:=(q:Int)) (by omega) (by omega),zg (by omega) (by omega)];omega
  have hlt:=Tx (u:=u64 v) (j:=j) hM;have hb:u64 v/2^j%2≤1:=by omega
  have hg:gU (leB L (M0+u64 v%2^j*2^q)) (((q+j)/8:Nat):Int)=some _:=Nk (by omega);have hbi:IntKind.wrap .u8 ((u64 v/2^j%2:Nat):Int)=((u64 v/2^j%2:Nat):Int):=w8 (by omega) (by omega);simp only[En.l6,zh (show(j:Int)<(w:Int) by omega),yX,hp,OJ (show q+j<1152921504606846976 by omega),OI,hg,yY,zh (show(0:Int)≤(j:Int) by omega),zh (show(0:Int)≤(((q+j)%8:Nat):Int) by omega),Uh v (show j<64 by omega),hbi,TL hlt hb,Int.toNat_natCast,Tm (show q+j<8*L by omega) hlt hb,Tz];rw[zg (by omega) (by omega)];exact ih n (j+1) (by omega) (by omega)
def JJ(w:Nat)(vs:List Int):Nat:=Jj w (vs.map u64)
theorem akI(w L:Nat)(hw:w≤64)(hL:L<1000000)(hk:w<k)(vs:List Int)(hvs:vs.length<1000000)(hb:vs.length*w≤8*L):∀(post pre:List Int) (n:Nat),vs=pre++post→post.length<n→
 En.l3 k n (w:Int) vs (vs.length:Int) (pre.length:Int) (leB L (JJ w pre))=some ((),leB L (JJ w vs)):=by
 intro post
 induction post with
 |nil=>
  intro pre n hv hn;obtain⟨n,rfl⟩:∃x,n=x+1:=⟨n-1,by omega⟩;have:vs=pre:=by simpa using hv
  subst this;simp only[En.l3,zk (show ¬(vs.length:Int)<(vs.length:Int) by omega),yZ]
 |cons v post ih=>
  intro pre n hv hn;simp only[Ah] at hn;obtain⟨n,rfl⟩:∃x,n=x+1:=⟨n-1,by omega⟩;have hlen:vs.length=pre.length+(post.length+1):=by rw[hv];simp
  have hg:gU vs (pre.length:Int)=some v:=by rw[hv,zQ,List.getElem?_append_right (Nat.le_refl _)];simp
  have hM:=QF w (pre.map u64);rw[List.length_map] at hM;have hmul:pre.length*w+w≤vs.length*w:=by
   have:(pre.length+1)*w≤vs.length*w:=Nat.mul_le_mul_right _ (by omega);rw[Nat.add_mul,Nat.one_mul] at this;exact this
  have hi:=akH k (En.l3 k n) vs (vs.length:Int) v w pre.length (pre.length*w) L (JJ w pre) hw (by simp) (by omega) hL (by omega) hM w k 0 (by omega) hk;simp only[Nat.pow_zero,Nat.mod_one,Nat.zero_mul,Nat.add_zero] at hi;simp only[En.l3,zh (show(pre.length:Int)<(vs.length:Int) by omega),yX,hg,yY];have h0:((0:Nat):Int)=0:=rfl;rw[h0] at hi;rw[hi];have:=ih (pre++[v]) n (by rw[hv];simp) (by omega);rw[zX,Ap] at this;rw[←this];unfold JJ;rw[List.map_append,List.map_singleton,QG,List.length_map]
theorem len8{n w:Nat}(hn:n≤100000)(hw:w≤64):IntKind.wrap .i64 (Int.tdiv (IntKind.wrap .i64 (IntKind.wrap .i64 ((n:Int)*(w:Int))+7)) 8)=((bytesOf n w:Nat):Int)∧bytesOf n w<1000000∧n*w≤8*bytesOf n w:=by
 have h1:n*w≤100000*64:=Nat.mul_le_mul hn hw;have h2:(n:Int)*(w:Int)=((n*w:Nat):Int):=by simp
 unfold bytesOf;rw[h2];generalize n*w=q at h1⊢;rw[zg (x:=(q:Int)) (by omega) (by omega),zg (x:=(q:Int)+7) (by omega) (by omega),QW (by omega),zg (by omega) (by omega)];omega
def Ph(w:Nat)(vs:List Int):List Int:=leB (bytesOf vs.length w) (JJ w vs)
theorem akG(vs:List Int)(w:Nat)(hw:w≤64)(hvs:vs.length≤100000)(hk:vs.length<k)(hk2:w<k):En k vs (w:Int)=some ((),Ph w vs):=by
 obtain⟨h1,h2,h3⟩:=len8 hvs hw;unfold En;rw[h1,JH (by omega) (by omega),yX,Int.toNat_natCast,←Tn];exact akI k w _ hw h2 hk2 vs (by omega) h3 vs [] k rfl hk
theorem Vd(pre post:List Int)(L M p:Nat)(hp:p<8*L)(hl:pre.length+L<100000000000000000):OL k (pre++(leB L M++post)) ((8*pre.length+p:Nat):Int)=some ((M/2^p%2:Nat):Int):=by
 unfold OL;have hd:(8*pre.length+p)/8=pre.length+p/8:=by omega
 have hm:(8*pre.length+p)%8=p%8:=by omega
 have hg:gU (pre++(leB L M++post)) ((pre.length+p/8:Nat):Int)=some ((M/256^(p/8)%256:Nat):Int):=by
  rw[zQ,List.getElem?_append_right (by omega),List.getElem?_append_left (by rw[EB];omega),Nat.add_sub_cancel_left];exact Nk (by omega)
 simp only[zk (show ¬(((8*pre.length+p:Nat):Int)<0) by omega),yZ,OJ (show 8*pre.length+p<1152921504606846976 by omega),OI,hd,hm,hg,yY,
  zk (show ¬(((pre.length+p/8:Nat):Int)≥((pre++(leB L M++post)).length:Int)) by simp[EB];omega),zh (show(0:Int)≤((p%8:Nat):Int) by omega),yX]
 rw[IW .u8 _ (p%8) (show p%8≤8 by omega)];have h1:((M/256^(p/8)%256:Nat):Int)/2^(p%8)=((M/256^(p/8)%256/2^(p%8):Nat):Int):=by simp
 rw[h1];have hlt:M/256^(p/8)%256/2^(p%8)<256:=Nat.lt_of_le_of_lt (Nat.div_le_self _ _) (Nat.mod_lt _ (by decide));have hb:=Tj M p;generalize M/256^(p/8)%256/2^(p%8)=x at hlt hb;have h2:=bits_mask .u8 8 (by decide) wraps_u8 1 (by decide) (x:Int) (by omega) (by omega);have h2:bits .and .u8 (x:Int) 1=(x:Int)%2:=h2;rw[h2,zg (by omega) (by omega),←hb];simp
def D5(w M i:Nat):Int:=IntKind.wrap .i64 ((M/2^(i*w)%2^w:Nat):Int)
theorem amq(L3:(List Int)→Int→Int→Int→Int→(List Int)→Option (Unit×(List Int)))(pre post:List Int)(L M w i q:Nat)(t14:Int)(hw:w≤64)(hq:(i:Int)*(w:Int)=(q:Int))(KQ:i*w=q)(M8:q+w≤8*L)(hl:pre.length+L<10000000000000000)(hi:i<1000000)(o:List Int)(ho:o.length<1000000):
 ∀(m n j:Nat),j+m=w→m<n→DW.l7 k L3 n (pre++(leB L M++post)) (pre.length:Int) (w:Int) (i:Int) (IntKind.wrap .i64 ((M/2^q%2^j:Nat):Int)) t14 (i:Int) (w:Int) (j:Int) o=L3 (pre++(leB L M++post)) (pre.length:Int) (w:Int) t14 ((i+1:Nat):Int) (o++[D5 w M i]):=by
 intro m
 induction m with
 |zero=>
  intro n j hj hn;obtain⟨n,rfl⟩:∃x,n=x+1:=⟨n-1,by omega⟩;obtain rfl:j=w:=by omega
  simp only[DW.l7,zk (show ¬(j:Int)<(j:Int) by omega),yZ];rw[Ak (by simp;omega),yX,zg (x:=(i:Int)+1) (by omega) (by omega)];unfold D5;rw[KQ]
  congr 1
 |succ m ih=>
  intro n j hj hn;obtain⟨n,rfl⟩:∃x,n=x+1:=⟨n-1,by omega⟩;have hp:IntKind.wrap .i64 (IntKind.wrap .i64 (IntKind.wrap .i64 (8*(pre.length:Int))+IntKind.wrap .i64 ((i:Int)*(w:Int)))+(j:Int))=((8*pre.length+(q+j):Nat):Int):=by
   rw[hq,zg (x:=(q:Int)) (by omega) (by omega),zg (x:=8*(pre.length:Int)) (by omega) (by omega),zg (x:=8*(pre.length:Int)+(q:Int)) (by omega) (by omega),zg (by omega) (by omega)];omega
  have hb:=Vd k pre post L M (q+j) (by omega) (by omega);simp only[DW.l7,zh (show(j:Int)<(w:Int) by omega),yX,hp,hb,yY,zh (show(0:Int)≤(j:Int) by omega)];have hlt:M/2^q%2^j<2^j:=Nat.mod_lt _ (Nat.two_pow_pos j);have hjj:2^(j+1)≤2^64:=Nat.pow_le_pow_right (by decide) (by omega);have hb1:M/2^(q+j)%2≤1:=by omega
  have hb2:M/2^(q+j)%2*2^j≤1*2^j:=Nat.mul_le_mul_right _ hb1;have ho:=Kj .i64 (a:=M/2^q%2^j) (b:=M/2^(q+j)%2) (i:=j) (show j≤64 by omega) hlt (show _<2^64 by rw[Nat.pow_succ] at hjj;omega);rw[ho];have hs:M/2^q%2^j+M/2^(q+j)%2*2^j=M/2^q%2^(j+1):=by
   rw[mod_succ,Nat.div_div_eq_div_mul,←Nat.pow_add]
  rw[hs,zg (x:=(j:Int)+1) (by omega) (by omega),show((j:Int)+1)=((j+1:Nat):Int) by omega];exact ih n (j+1) (by omega) (by omega)
theorem amr(pre post:List Int)(L M w N:Nat)(hw:w≤64)(hN:N*w≤8*L)(hl:pre.length+L<10000000000000000)(LA:N<1000000)(hk:w<k):
 ∀(m n i:Nat) (o:List Int),i+m=N→m<n→o.length=i→DW.l3 k n (pre++(leB L M++post)) (pre.length:Int) (w:Int) (N:Int) (i:Int) o=some ((),o++(List.range' i m).map (D5 w M)):=by
 intro m
 induction m with
 |zero=>
  intro n i o hi hn ho;obtain⟨n,rfl⟩:∃x,n=x+1:=⟨n-1,by omega⟩;simp only[DW.l3,zk (show ¬(i:Int)<(N:Int) by omega),yZ];simp
 |succ m ih=>
  intro n i o hi hn ho;obtain⟨n,rfl⟩:∃x,n=x+1:=⟨n-1,by omega⟩;have hmul:i*w+w≤N*w:=by
   have:(i+1)*w≤N*w:=Nat.mul_le_mul_right _ (by omega);rw[Nat.add_mul,Nat.one_mul] at this;exact this
  have hi':=amq k (DW.l3 k n) pre post L M w i (i*w) (N:Int) hw (by simp) rfl (by omega) hl (by omega) o (by omega) w k 0 (by omega) hk;simp only[Nat.pow_zero,Nat.mod_one] at hi';simp only[DW.l3,zh (show(i:Int)<(N:Int) by omega),yX];have h0:((0:Nat):Int)=0:=rfl;have hw0:IntKind.wrap .i64 0=0:=rfl;rw[h0,hw0] at hi';rw[hi',ih n (i+1) _ (by omega) (by omega) (by simp;omega)];simp[List.range'_succ]
theorem Q4(pre post:List Int)(L M w N:Nat)(hw:w≤64)(hN:N*w≤8*L)(hl:pre.length+L<10000000000000000)(LA:N<1000000)(hk:w<k)(hk2:N<k):
 DW k (pre++(leB L M++post)) (pre.length:Int) (N:Int) (w:Int)=some ((),(List.range N).map (D5 w M)):=by
 unfold DW;have:=amr k pre post L M w N hw hN hl LA hk N k 0 [] (by omega) hk2 rfl;rw[List.range_eq_range'];simpa using this
end Go.Af
end
section
namespace Go.Af
open Go.Am Go.Fn
def Eh:Nat→List Int→Option (Nat×Nat)
 |0,_=>none
 |_+1,[]=>none
 |f+1,c::r=>if f=0∧1<c then none else if c<128 then some (c.toNat,1) else(Eh f r).map fun x=>((c%128).toNat+128*x.1,x.2+1)
def gv(l:List Int):Option (Int×Nat):=(Eh 10 l).map fun x=>(IntKind.wrap .i64 (x.1:Int),x.2)
theorem ai7:∀(f:Nat) (l:List Int) (v n:Nat),(∀x,x∈l→0≤x∧x<256)→Eh (f+1) l=some (v,n)→v<2*128^f∧1≤n∧n≤l.length∧n≤f+1∧(Mq f v).length≤n:=by
 intro f
 induction f with
 |zero=>
  intro l v n hb h;cases l with
  |nil=>simp[Eh] at h
  |cons c r=>
   obtain⟨c0,c1⟩:=hb c (by simp);simp only[Eh,true_and] at h;split at h
   ·cases h
   ·split at h
    ·simp only[Ao,Prod.mk.injEq] at h
     obtain⟨rfl,rfl⟩:=h;simp[Mq];omega
    ·simp at h
 |succ f ih=>
  intro l v n hb h;cases l with
  |nil=>simp[Eh] at h
  |cons c r=>
   obtain⟨c0,c1⟩:=hb c (by simp);rw[Eh,if_neg (by omega)] at h;have hP:1≤128^f:=Nat.pow_pos (by decide);have hP2:(128:Nat)^(f+1)=128*128^f:=by rw[Nat.pow_succ,Nat.mul_comm]
   split at h
   ·simp only[Ao,Prod.mk.injEq] at h
    obtain⟨rfl,rfl⟩:=h;refine⟨by omega,by omega,by simp,by omega,?_⟩;simp only[Mq];rw[if_neg (by omega)];simp
   ·cases hg:Eh (f+1) r with
    |none=>rw[hg] at h;cases h
    |some x=>
     obtain⟨v',n'⟩:=x;rw[hg] at h;simp only[Option.map_some,Ao,Prod.mk.injEq] at h;obtain⟨rfl,rfl⟩:=h;obtain⟨i1,i2,i3,i4,i5⟩:=ih r v' n' (fun x hx=>hb x (by simp[hx])) hg;refine⟨by omega,by omega,by simp;omega,by omega,?_⟩;simp only[Mq];split
     ·rw[Ah,show((c%128).toNat+128*v')/128=v' by omega]
      omega
     ·simp
theorem E8(l:List Int)(u:Int)(n:Nat)(hb:∀x,x∈l→0≤x∧x<256)(h:gv l=some (u,n)):Ae u∧1≤n∧n≤l.length∧n≤10∧(uv u).length≤n:=by
 unfold gv at h;cases hg:Eh 10 l with
 |none=>rw[hg] at h;cases h
 |some x=>
  obtain⟨v,n'⟩:=x;rw[hg] at h;simp only[Option.map_some,Ao,Prod.mk.injEq] at h;obtain⟨rfl,rfl⟩:=h;obtain⟨h1,h2,h3,h4,h5⟩:=ai7 9 l v n' hb hg;have h1:v<18446744073709551616:=by simpa using h1
  refine⟨⟨NU _,NT _⟩,h2,h3,h4,?_⟩;unfold uv;rw[IntKind.wrap_i64,show(((v:Int)+9223372036854775808)%18446744073709551616-9223372036854775808)%18446744073709551616=(v:Int) by omega,Int.toNat_natCast];exact h5
theorem Lg{α:Type}{l:List α}{p:Nat}(h:p<l.length):∃c,l.drop p=c::l.drop (p+1)∧l[p]?=some c:=by
 refine⟨l[p],?_,by simp[h]⟩;rw[List.drop_eq_getElem_cons h]
theorem ajG(k:Nat)(b:List Int)(p:Nat)(hb:b.length<4611686018427387904)(hby:∀x,x∈b→0≤x∧x<256)(hp:p<4611686018427387904):∀(f n i acc:Nat),i+f=10→f<n→acc<2^(7*i)→
 D9.l5 k n b (p:Int) (acc:Int) (i:Int)=match Eh f (b.drop (p+i)) with
  |none=>some (0,0,false)
  |some (v,m)=>some (IntKind.wrap .i64 ((acc+v*2^(7*i):Nat):Int),((p+i+m:Nat):Int),true):=by
 intro f
 induction f with
 |zero=>
  intro n i acc hi hn hacc;obtain⟨n,rfl⟩:∃j,n=j+1:=⟨n-1,by omega⟩;obtain rfl:i=10:=by omega
  simp only[D9.l5,show decide (((10:Nat):Int)<10)=false by decide,yZ,yY,Eh,D9.c12]
 |succ f ih=>
  intro n i acc hi hn hacc;obtain⟨n,rfl⟩:∃j,n=j+1:=⟨n-1,by omega⟩;have hP:0<2^(7*i):=Nat.two_pow_pos _;have LB:2^(7*(i+1))=128*2^(7*i):=by rw[Nat.mul_add,Nat.pow_add];simp[Nat.mul_comm]
  have c1:decide ((i:Int)<10)=true:=by simp;omega
  by_cases hlt:p+i<b.length
  ·obtain⟨c,hc,hc2⟩:=Lg hlt
   obtain⟨c0,Og⟩:=hby c (List.mem_of_getElem? hc2);have e1:IntKind.wrap .i64 ((b.length:Int)-(p:Int))=(b.length:Int)-p:=zg (by omega) (by omega);have e2:IntKind.wrap .i64 ((p:Int)+(i:Int))=((p+i:Nat):Int):=by rw[zg (by omega) (by omega)];omega
   have e3:IntKind.wrap .i64 (7*(i:Int))=((7*i:Nat):Int):=by rw[zg (by omega) (by omega)];omega
   have e5:IntKind.wrap .i64 (((p+i:Nat):Int)+1)=((p+i+1:Nat):Int):=by rw[zg (by omega) (by omega)];omega
   have e6:IntKind.wrap .i64 ((i:Int)+1)=((i+1:Nat):Int):=by rw[zg (by omega) (by omega)];omega
   have c2:decide ((i:Int)<(b.length:Int)-p)=true:=by simp;omega
   have c5:decide ((0:Int)≤((7*i:Nat):Int))=true:=zh (by omega);have hget:gU b ((p+i:Nat):Int)=some c:=by rw[zQ];exact hc2
   rw[hc,Eh];simp only[D9.l5,c1,e1,c2,e2,e3,e5,e6,hget,yX,yY,Au];by_cases h9:f=0∧1<c
   ·obtain⟨rfl,h1c⟩:=h9
    obtain rfl:i=9:=by omega
    rw[if_pos ⟨rfl,h1c⟩];simp only[show(((9:Nat):Int)==9)=true by decide,show decide (c>1)=true from zh h1c,Bool.and_self,yX,D9.c12]
   ·rw[if_neg h9]
    have Ql:(((i:Int)==9)&&decide (c>1))=false:=by
     rw[Bool.eq_false_iff];intro q;simp only[Aa,beq_iff_eq,Al] at q;exact h9 ⟨by omega,q.2⟩
    simp only[Ql,yZ,c5,yX];have hcm:(c%128)*2^(7*i)<18446744073709551616:=by
     by_cases hf:f=0
     ·have:i=9:=by omega
      subst this;have:c≤1:=by
       rcases Int.lt_or_le 1 c with q|q
       ·exact(h9 ⟨hf,q⟩).elim
       ·exact q
      have h2:(2:Int)^(7*9)=9223372036854775808:=by decide
      rw[h2];omega
     ·have:(2:Int)^(7*i)≤2^56:=by
       have:=Nat.pow_le_pow_right (n:=2) (by omega) (show 7*i≤56 by omega)
       exact_mod_cast this
      have h3:(2:Int)^56=72057594037927936:=by decide
      have h4:(0:Int)<2^(7*i):=by exact_mod_cast hP
      have:=Int.mul_le_mul (show c%128≤127 by omega) this (by omega) (by omega);omega
    have e4:pz .u64 (IntKind.wrap .u64 (bits .and .u8 c 127)) ((7*i:Nat):Int)=(c%128)*2^(7*i):=by
     rw[u8_and127 c0 Og,MC];unfold pz;rw[MC];have:min (((7*i:Nat):Int)).toNat (IntKind.bits .u64)=7*i:=by simp[IntKind.bits];omega
     rw[this,show(c%128)%18446744073709551616=c%128 by omega];have:0≤(c%128)*2^(7*i):=Int.mul_nonneg (by omega) (by exact_mod_cast Nat.zero_le _);omega
    have KM:bits .or .u64 (acc:Int) ((c%128)*2^(7*i))=((acc+(c%128).toNat*2^(7*i):Nat):Int):=by
     rw[aml (i:=7*i) (by omega) (by exact_mod_cast hacc) (by omega) (by omega) (by omega)];have:c%128=(((c%128).toNat:Nat):Int):=by omega
     rw[this];simp
    rw[e4,KM];by_cases h128:c<128
    ·rw[if_pos h128,zh h128,yX]
     have:(c%128).toNat=c.toNat:=by omega
     rw[this]
    ·rw[if_neg h128,zk h128,yZ]
     have hlt2:acc+(c%128).toNat*2^(7*i)<2^(7*(i+1)):=by
      rw[LB];have:(c%128).toNat*2^(7*i)≤127*2^(7*i):=Nat.mul_le_mul_right _ (by omega);omega
     rw[ih n (i+1) _ (by omega) (by omega) hlt2,←Nat.add_assoc];cases Eh f (b.drop (p+i+1)) with
     |none=>rfl
     |some x=>
      obtain⟨v,m⟩:=x;simp only[Option.map_some];rw[LB,show acc+(c%128).toNat*2^(7*i)+v*(128*2^(7*i))=acc+((c%128).toNat+128*v)*2^(7*i) by grind,show p+i+1+m=p+i+(m+1) by omega]
  ·have c2:decide ((i:Int)<IntKind.wrap .i64 ((b.length:Int)-(p:Int)))=false:=by
    rw[zg (by omega) (by omega)];exact zk (by omega)
   rw[List.drop_eq_nil_of_le (by omega),Eh];simp only[D9.l5,c1,c2,yX,yZ,yY,D9.c12]
theorem Bp(k:Nat)(a b c:Int):Az k a b c=some (decide (b≤a)&&decide (a≤c)):=by
 unfold Az;simp only[Au,yY,ge_iff_le]
theorem Bh(k:Nat)(a b c:Int):A8 k a b c=some (decide (b≤a)&&decide (a≤c)):=by
 unfold A8;simp only[Au,yY,ge_iff_le]
theorem AX{α:Type}(pre post:List α)(x:α):gU (pre++x::post) (pre.length:Int)=some x:=by
 rw[zQ,List.getElem?_append_right (Nat.le_refl _)];simp
theorem IV{α:Type}(pre post:List α)(x y:α):List.set (pre++x::post) (Int.toNat (pre.length:Int)) y=pre++y::post:=by
 rw[Int.toNat_natCast,List.set_append_right _ _ (Nat.le_refl _)];simp
def wv:List Int→Nat
 |[]=>0
 |c::r=>c.toNat+256*wv r
theorem Q_:∀(l:List Int),(∀x,x∈l→0≤x∧x<256)→wv l<2^(8*l.length)
 |[],_=>by simp[wv]
 |c::r,h=>by
  have h1:=Q_ r (fun x hx=>h x (by simp[hx]));obtain⟨h2,h3⟩:=h c (by simp);simp only[wv,Ah];have:2^(8*(r.length+1))=256*2^(8*r.length):=by rw[Nat.mul_add,Nat.pow_add];simp[Nat.mul_comm]
  omega
theorem UI(k:Nat)(b:List Int)(p n:Nat)(hn:n≤8)(hl:p+n≤b.length)(hb:b.length<4611686018427387904)(hby:∀x,x∈b→0≤x∧x<256):∀(m f i acc:Nat),i+m=n→m<f→acc<2^(8*i)→
 Ec.l5 k f b (p:Int) (n:Int) (IntKind.wrap .i64 (acc:Int)) (i:Int)=some (IntKind.wrap .i64 ((acc+wv ((b.drop (p+i)).take m)*2^(8*i):Nat):Int),((p+n:Nat):Int),true)∧
 Ey.l5 k f b (p:Int) (n:Int) (IntKind.wrap .i64 (acc:Int)) (n:Int) (i:Int)=some (IntKind.wrap .i64 ((acc+wv ((b.drop (p+i)).take m)*2^(8*i):Nat):Int),((p+n:Nat):Int),true):=by
 intro m
 induction m with
 |zero=>
  intro f i acc hi hf ha;obtain⟨f,rfl⟩:∃q,f=q+1:=⟨f-1,by omega⟩;have e:IntKind.wrap .i64 ((p:Int)+(n:Int))=((p+n:Nat):Int):=by rw[zg (by omega) (by omega)];omega
  simp only[Ec.l5,Ey.l5,zk (show ¬((i:Int)<(n:Int)) by omega),yZ,e,List.take_zero,wv,Nat.zero_mul,Nat.add_zero];exact⟨trivial,trivial⟩
 |succ m ih=>
  intro f i acc hi hf ha;obtain⟨f,rfl⟩:∃q,f=q+1:=⟨f-1,by omega⟩;obtain⟨c,hc,hc2⟩:=Lg (show p+i<b.length by omega);obtain⟨c0,c1⟩:=hby c (List.mem_of_getElem? hc2);have e1:IntKind.wrap .i64 ((p:Int)+(i:Int))=((p+i:Nat):Int):=by rw[zg (by omega) (by omega)];omega
  have e2:IntKind.wrap .i64 (8*(i:Int))=((8*i:Nat):Int):=by rw[zg (by omega) (by omega)];omega
  have e3:IntKind.wrap .i64 ((i:Int)+1)=((i+1:Nat):Int):=by rw[zg (by omega) (by omega)];omega
  have ec:IntKind.wrap .i64 c=((c.toNat:Nat):Int):=by rw[zg (by omega) (by omega)];omega
  have OE:2^(8*(i+1))=256*2^(8*i):=by rw[Nat.mul_add,Nat.pow_add];simp[Nat.mul_comm]
  have hle:2^(8*(i+1))≤2^64:=Nat.pow_le_pow_right (by omega) (by omega);have hlt:acc+c.toNat*2^(8*i)<2^(8*(i+1)):=by
   rw[OE];have:c.toNat*2^(8*i)≤255*2^(8*i):=Nat.mul_le_mul_right _ (by omega);omega
  have KM:=Kj .i64 (a:=acc) (b:=c.toNat) (i:=8*i) (show 8*i≤64 by omega) ha (by show _<2^64;omega);have hg:gU b ((p+i:Nat):Int)=some c:=by rw[zQ];exact hc2
  simp only[Ec.l5,Ey.l5,zh (show(i:Int)<(n:Int) by omega),yX,e1,hg,yY,e2,zh (show(0:Int)≤((8*i:Nat):Int) by omega),ec,KM,e3];obtain⟨i1,i2⟩:=ih f (i+1) _ (by omega) (by omega) hlt;have hw:acc+c.toNat*2^(8*i)+wv ((b.drop (p+(i+1))).take m)*2^(8*(i+1))=acc+wv ((b.drop (p+i)).take (m+1))*2^(8*i):=by
   rw[hc,List.take_succ_cons,wv,OE,←Nat.add_assoc]
   grind
  rw[hw] at i1 i2;exact⟨i1,i2⟩
theorem amx(k:Nat)(hk:100≤k)(b:List Int)(p:Nat)(hl:p+4≤b.length)(hb:b.length<4611686018427387904)(hby:∀x,x∈b→0≤x∧x<256):
 ∃v:Nat,v<4294967296∧Ec k b (p:Int) 4=some ((v:Int),((p+4:Nat):Int),true)∧Ey k b (p:Int) 4=some ((v:Int),((p+4:Nat):Int),true):=by
 have hlt:=Q_ ((b.drop p).take 4) (fun x hx=>hby x (List.mem_of_mem_drop (List.mem_of_mem_take hx)));have hlen:((b.drop p).take 4).length=4:=by rw[List.length_take,List.length_drop];omega
 rw[hlen] at hlt;have hlt:wv ((b.drop p).take 4)<4294967296:=hlt;obtain⟨l1,l2⟩:=UI k b p 4 (by omega) hl hb hby 4 k 0 0 (by omega) (by omega) (by simp);rw[show IntKind.wrap .i64 ((0:Nat):Int)=0 by decide,show((0:Nat):Int)=0 from rfl,show((4:Nat):Int)=4 from rfl] at l1 l2;simp only[Nat.zero_add,Nat.add_zero,Nat.mul_zero,Nat.pow_zero,Nat.mul_one] at l1 l2;rw[zg (by omega) (by omega)] at l1 l2;refine⟨_,hlt,?_,?_⟩
 ·unfold Ec
  have e:IntKind.wrap .i64 ((b.length:Int)-(p:Int))=(b.length:Int)-p:=zg (by omega) (by omega);simp only[Bh,show(decide ((1:Int)≤4)&&decide ((4:Int)≤8))=true by decide,zq,yZ,yY,zk (show ¬((p:Int)<0) by omega),zk (show ¬((p:Int)>(b.length:Int)) by omega),e,zk (show ¬((b.length:Int)-p<4) by omega)];exact l1
 ·unfold Ey
  have e:IntKind.wrap .i64 ((b.length:Int)-4)=(b.length:Int)-4:=zg (by omega) (by omega);simp only[Bp,show(decide ((1:Int)≤4)&&decide ((4:Int)≤8))=true by decide,zq,yZ,yY,zk (show ¬((p:Int)<0) by omega),e,zk (show ¬((p:Int)>(b.length:Int)-4) by omega)];exact l2
end Go.Af
end
section
namespace Go.Af
open Go.Am Go.Fn
variable(k:Nat)
abbrev CG(b:List Int):Prop:=∀x,x∈b→0≤x∧x<256
theorem UL:∀(l:List Int),CG l→∀(i:Nat) (x:Int),l[i]?=some x→x=((wv l/256^i%256:Nat):Int)
 |[],_,i,x,h=>by simp at h
 |c::r,hb,0,x,h=>by
  obtain⟨h0,h1⟩:=hb c (by simp);simp at h;subst h;simp only[wv,Nat.pow_zero,Nat.div_one];omega
 |c::r,hb,i+1,x,h=>by
  obtain⟨h0,h1⟩:=hb c (by simp);rw[UL r (fun y hy=>hb y (by simp[hy])) i x (by simpa using h)];have:(c.toNat+256*wv r)/256^(i+1)=wv r/256^i:=by
   rw[Nat.pow_succ,Nat.mul_comm (256^i) 256,←Nat.div_div_eq_div_mul]
   congr 1
   omega
  simp only[wv,this]
theorem QA(l:List Int)(hb:CG l):l=leB l.length (wv l):=by
 apply List.ext_getElem (by rw[EB]);intro i h1 h2;rw[UL l hb i l[i] (AA h1)];have:=Nk (M:=wv l) h1;rw[AA h2] at this;exact(Option.some.inj this).symm
theorem Qy(pre post:List Int)(L M p:Nat)(hp:p<8*L)(hl:pre.length+L<100000000000000000):Mm k (pre++(leB L M++post)) ((8*pre.length+p:Nat):Int)=some ((M/2^p%2:Nat):Int):=by
 unfold Mm;have hd:(8*pre.length+p)/8=pre.length+p/8:=by omega
 have hm:(8*pre.length+p)%8=p%8:=by omega
 have hg:gU (pre++(leB L M++post)) ((pre.length+p/8:Nat):Int)=some ((M/256^(p/8)%256:Nat):Int):=by
  rw[zQ,List.getElem?_append_right (by omega),List.getElem?_append_left (by rw[EB];omega),Nat.add_sub_cancel_left];exact Nk (by omega)
 have hlt:M/256^(p/8)%256<256:=Nat.mod_lt _ (by decide);simp only[OJ (show 8*pre.length+p<1152921504606846976 by omega),OI,hd,hm,hg,yY,zh (show(0:Int)≤((p%8:Nat):Int) by omega),yX];rw[zg (x:=((M/256^(p/8)%256:Nat):Int)) (by omega) (by omega),IW .i64 _ (p%8) (show p%8≤64 by omega),and1,←Tj M p];simp
theorem alL(L6:(List Int)→Int→Int→Int→Int→Int→(List Int)→Option ((Unit×Int×Bool)×(List Int)))(pre post:List Int)(L M w i q:Nat)(t2 t12:Int)(hw:w≤64)(hq:(i:Int)*(w:Int)=(q:Int))(KQ:i*w=q)(M8:q+w≤8*L)(hl:pre.length+L<10000000000000000)(hi:i<1000000)(o:List Int)(ho:o.length<1000000):
 ∀(m n j:Nat),j+m=w→m<n→Er.l10 k L6 n (pre++(leB L M++post)) (pre.length:Int) t2 (w:Int) t12 (i:Int) (IntKind.wrap .i64 ((M/2^q%2^j:Nat):Int)) (j:Int) o=L6 (pre++(leB L M++post)) (pre.length:Int) t2 (w:Int) t12 ((i+1:Nat):Int) (o++[D5 w M i]):=by
 intro m
 induction m with
 |zero=>
  intro n j hj hn;obtain⟨n,rfl⟩:∃x,n=x+1:=⟨n-1,by omega⟩;obtain rfl:j=w:=by omega
  simp only[Er.l10,zk (show ¬(j:Int)<(j:Int) by omega),yZ];rw[Ak (by simp;omega),yX,zg (x:=(i:Int)+1) (by omega) (by omega)];unfold D5;rw[KQ]
  congr 1
 |succ m ih=>
  intro n j hj hn;obtain⟨n,rfl⟩:∃x,n=x+1:=⟨n-1,by omega⟩;have hp:IntKind.wrap .i64 (IntKind.wrap .i64 (IntKind.wrap .i64 (8*(pre.length:Int))+IntKind.wrap .i64 ((i:Int)*(w:Int)))+(j:Int))=((8*pre.length+(q+j):Nat):Int):=by
   rw[hq,zg (x:=(q:Int)) (by omega) (by omega),zg (x:=8*(pre.length:Int)) (by omega) (by omega),zg (x:=8*(pre.length:Int)+(q:Int)) (by omega) (by omega),zg (by omega) (by omega)];omega
  have hb:=Qy k pre post L M (q+j) (by omega) (by omega);simp only[Er.l10,zh (show(j:Int)<(w:Int) by omega),yX,hp,hb,yY,zh (show(0:Int)≤(j:Int) by omega)];have hlt:M/2^q%2^j<2^j:=Nat.mod_lt _ (Nat.two_pow_pos j);have hjj:2^(j+1)≤2^64:=Nat.pow_le_pow_right (by decide) (by omega);have hb1:M/2^(q+j)%2≤1:=by omega
  have hb2:M/2^(q+j)%2*2^j≤1*2^j:=Nat.mul_le_mul_right _ hb1;have ho:=Kj .i64 (a:=M/2^q%2^j) (b:=M/2^(q+j)%2) (i:=j) (show j≤64 by omega) hlt (show _<2^64 by rw[Nat.pow_succ] at hjj;omega);rw[ho];have hs:M/2^q%2^j+M/2^(q+j)%2*2^j=M/2^q%2^(j+1):=by
   rw[mod_succ,Nat.div_div_eq_div_mul,←Nat.pow_add]
  rw[hs,zg (x:=(j:Int)+1) (by omega) (by omega),show((j:Int)+1)=((j+1:Nat):Int) by omega];exact ih n (j+1) (by omega) (by omega)
theorem alM(pre post:List Int)(L M w N:Nat)(t12:Int)(hw:w≤64)(hN:N*w≤8*L)(hl:pre.length+L<10000000000000000)(LA:N<1000000)(hk:w<k):
 ∀(m n i:Nat) (o:List Int),i+m=N→m<n→o.length=i→Er.l6 k n (pre++(leB L M++post)) (pre.length:Int) (N:Int) (w:Int) t12 (i:Int) o=some (((),IntKind.wrap .i64 ((pre.length:Int)+t12),true),o++(List.range' i m).map (D5 w M)):=by
 intro m
 induction m with
 |zero=>
  intro n i o hi hn ho;obtain⟨n,rfl⟩:∃x,n=x+1:=⟨n-1,by omega⟩;simp only[Er.l6,zk (show ¬(i:Int)<(N:Int) by omega),yZ];simp
 |succ m ih=>
  intro n i o hi hn ho;obtain⟨n,rfl⟩:∃x,n=x+1:=⟨n-1,by omega⟩;have hmul:i*w+w≤N*w:=by
   have:(i+1)*w≤N*w:=Nat.mul_le_mul_right _ (by omega);rw[Nat.add_mul,Nat.one_mul] at this;exact this
  have hi':=alL k (Er.l6 k n) pre post L M w i (i*w) (N:Int) t12 hw (by simp) rfl (by omega) hl (by omega) o (by omega) w k 0 (by omega) hk;simp only[Nat.pow_zero,Nat.mod_one] at hi';simp only[Er.l6,zh (show(i:Int)<(N:Int) by omega),yX];have h0:((0:Nat):Int)=0:=rfl;have hw0:IntKind.wrap .i64 0=0:=rfl;rw[h0,hw0] at hi';rw[hi',ih n (i+1) _ (by omega) (by omega) (by simp;omega)];simp[List.range'_succ]
theorem Rx(n w:Int):∃z:Int,M9 k n w=some z∧Km k n w=some z∧
 ((z= -1∧¬(0≤n∧n≤2000∧0≤w∧w≤62))∨(0≤n∧n≤2000∧0≤w∧w≤62∧z=((bytesOf n.toNat w.toNat:Nat):Int))):=by
 unfold M9 Km;simp only[Bp,Bh,yY,cst];by_cases h:0≤n∧n≤2000∧0≤w∧w≤62
 ·obtain⟨h1,h2,h3,h4⟩:=h
  obtain⟨n,rfl⟩:∃m:Nat,n=m:=⟨n.toNat,by omega⟩;obtain⟨w,rfl⟩:∃m:Nat,w=m:=⟨w.toNat,by omega⟩;have:=(len8 (n:=n) (w:=w) (by omega) (by omega)).1;simp only[zh h1,zh h2,zh h3,zh h4,Bool.and_self,zq,Bt,yZ,this];exact⟨_,rfl,rfl,.inr ⟨h1,h2,h3,h4,by simp⟩⟩
 ·have:((!(decide (0≤n)&&decide (n≤2000)))|| !(decide (0≤w)&&decide (w≤62)))=true:=by
   by_cases a:0≤n<;>by_cases b:n≤2000<;>by_cases c:0≤w<;>by_cases d:w≤62<;>simp[a,b,c,d]
   exact h ⟨a,b,c,d⟩
  simp only[this,yX];exact⟨_,rfl,rfl,.inl ⟨rfl,h⟩⟩
theorem Vf(hk:3000≤k)(b:List Int)(hb:b.length<1000000000000000)(hby:CG b)(at_ n w:Int)(ha:Ae at_):
 ∃nx ok l,OM k b at_ n w=some (((),nx,ok),l)∧Er k b at_ n w=some (((),nx,ok),l)∧
  (ok=false→nx=0∧l=[])∧(ok=true→0≤n∧n≤2000∧0≤w∧w≤62∧l.length=n.toNat∧0≤at_∧nx=at_+(bytesOf n.toNat w.toNat:Nat)∧nx≤(b.length:Int)∧∀x,x∈l→0≤x∧x<2^w.toNat):=by
 obtain⟨z,h1,h2,hz⟩:=Rx k n w;unfold OM Er;simp only[h1,h2,yY,Bp,Bh,cst];rcases hz with⟨rfl,hn⟩|⟨n0,n1,w0,w1,hz⟩
 ·simp only[zh (show(-1:Int)<0 by decide),Ag,yX]
  exact⟨_,_,_,rfl,rfl,fun _=>⟨rfl,rfl⟩,fun h=>by cases h⟩
 obtain⟨n,rfl⟩:∃m:Nat,n=m:=⟨n.toNat,by omega⟩;obtain⟨w,rfl⟩:∃m:Nat,w=m:=⟨w.toNat,by omega⟩;simp only[Int.toNat_natCast] at hz;have SL:=len8 (n:=n) (w:=w) (by omega) (by omega);subst hz;by_cases hat:0≤at_∧at_≤(b.length:Int)
 ·obtain⟨a0,a1⟩:=hat
  obtain⟨p,rfl⟩:∃m:Nat,at_=m:=⟨at_.toNat,by omega⟩;have e:IntKind.wrap .i64 ((b.length:Int)-(p:Int))=(b.length:Int)-p:=zg (by omega) (by omega);simp only[zh a0,zh a1,Bool.and_self,zq,zk (show ¬((bytesOf n w:Nat):Int)<0 by omega),Bt,Aq,e];by_cases hfit:((bytesOf n w:Nat):Int)≤(b.length:Int)-p
  ·simp only[zk (show ¬((bytesOf n w:Nat):Int)>(b.length:Int)-p by omega),zk (show ¬(b.length:Int)-p<((bytesOf n w:Nat):Int) by omega),yZ]
   have hlen:((b.drop p).take (bytesOf n w)).length=bytesOf n w:=by rw[List.length_take,List.length_drop];omega
   have hsp:b=b.take p++(leB (bytesOf n w) (wv ((b.drop p).take (bytesOf n w)))++b.drop (p+bytesOf n w)):=by
    have h3:=QA ((b.drop p).take (bytesOf n w)) (fun x hx=>hby x (List.mem_of_mem_drop (List.mem_of_mem_take hx)));rw[hlen] at h3;rw[←h3,←List.drop_drop,List.take_append_drop,List.take_append_drop]
   have hpl:(b.take p).length=p:=by rw[List.length_take];omega
   generalize wv ((b.drop p).take (bytesOf n w))=M at hsp;have u1:=Q4 k (b.take p) (b.drop (p+bytesOf n w)) (bytesOf n w) M w n (by omega) SL.2.2 (by rw[hpl];omega) (by omega) (by omega) (by omega);have u2:=alM k (b.take p) (b.drop (p+bytesOf n w)) (bytesOf n w) M w n ((bytesOf n w:Nat):Int) (by omega) SL.2.2 (by rw[hpl];omega) (by omega) (by omega) n k 0 [] (by omega) (by omega) rfl;rw[←hsp,hpl] at u1 u2;rw[show((0:Nat):Int)=0 from rfl,List.nil_append,←List.range_eq_range'] at u2;have e2:IntKind.wrap .i64 ((p:Int)+((bytesOf n w:Nat):Int))=(p:Int)+(bytesOf n w:Nat):=zg (by omega) (by omega);rw[e2] at u2;simp only[u1,u2,yY,e2];refine⟨_,_,_,rfl,rfl,(fun h=>by cases h),fun _=>⟨by omega,by omega,by omega,by omega,by simp,a0,by simp,by omega,?_⟩⟩;intro x hx;obtain⟨i,_,rfl⟩:=List.mem_map.1 hx;have hlt:M/2^(i*w)%2^w<2^w:=Nat.mod_lt _ (Nat.two_pow_pos w);have ajv:2^w≤2^62:=Nat.pow_le_pow_right (by decide) (by omega);unfold D5;rw[Int.toNat_natCast,zg (by omega) (by omega)];refine⟨by omega,?_⟩
   exact_mod_cast hlt
  ·simp only[zh (show((bytesOf n w:Nat):Int)>(b.length:Int)-p by omega),zh (show(b.length:Int)-p<((bytesOf n w:Nat):Int) by omega),yX]
   exact⟨_,_,_,rfl,rfl,fun _=>⟨rfl,rfl⟩,fun h=>by cases h⟩
 ·have:(decide (0≤at_)&&decide (at_≤(b.length:Int)))=false:=by
   by_cases a:0≤at_<;>by_cases c:at_≤(b.length:Int)<;>simp[a,c]
   exact hat ⟨a,c⟩
  simp only[this,zD,Bool.or_true,Ag,yX];exact⟨_,_,_,rfl,rfl,fun _=>⟨rfl,rfl⟩,fun h=>by cases h⟩
end Go.Af
end
section
namespace Go.Af
open Go.Am Go.Fn
variable(k:Nat)
theorem Vl(L6:(List Int)→Int→Int→(List Int)→Option ((Unit×Bool)×(List Int)))(vs:List Int)(v:Int)(w i q L M0:Nat)(hw:w≤64)(hq:(i:Int)*(w:Int)=(q:Int))(M8:q+w≤8*L)(hL:L<1000000)(hi:i<1000000)(hM:M0<2^q)(hv:gU vs (i:Int)=some v):
 ∀(m n j:Nat),j+m=w→m<n→CZ.AL k L6 n vs (w:Int) (i:Int) (j:Int) (leB L (M0+(u64 v%2^j)*2^q))=L6 vs (w:Int) ((i+1:Nat):Int) (leB L (M0+(u64 v%2^w)*2^q)):=by
 intro m
 induction m with
 |zero=>
  intro n j hj hn;obtain⟨n,rfl⟩:∃x,n=x+1:=⟨n-1,by omega⟩;obtain rfl:j=w:=by omega
  simp only[CZ.AL,zk (show ¬(j:Int)<(j:Int) by omega),yZ];rw[zg (by omega) (by omega)]
  congr 1
 |succ m ih=>
  intro n j hj hn;obtain⟨n,rfl⟩:∃x,n=x+1:=⟨n-1,by omega⟩;have hp:IntKind.wrap .i64 (IntKind.wrap .i64 ((i:Int)*(w:Int))+(j:Int))=((q+j:Nat):Int):=by
   rw[hq,zg (x:=(q:Int)) (by omega) (by omega),zg (by omega) (by omega)];omega
  have hlt:=Tx (u:=u64 v) (j:=j) hM;have hb:u64 v/2^j%2≤1:=by omega
  have hg:gU (leB L (M0+u64 v%2^j*2^q)) (((q+j)/8:Nat):Int)=some _:=Nk (by omega);have hi:=ih n (j+1) (by omega) (by omega);rw[←Tz] at hi;simp only[CZ.AL,zh (show(j:Int)<(w:Int) by omega),yX,hp,OJ (show q+j<1152921504606846976 by omega),OI,hg,hv,yY,zh (show(0:Int)≤(j:Int) by omega),zh (show(0:Int)≤(((q+j)%8:Nat):Int) by omega),Uh v (show j<64 by omega),CZ.c12];rw[zg (x:=(j:Int)+1) (by omega) (by omega),show((j:Int)+1)=((j+1:Nat):Int) by omega];rcases Nat.eq_zero_or_pos (u64 v/2^j%2) with h0|h0
  ·rw[h0] at hi⊢
   rw[zw (by decide),yZ];simpa using hi
  ·have h1:u64 v/2^j%2=1:=by omega
   have ho:=TL hlt (show 1≤1 by omega);have hs:=Tm (L:=L) (show q+j<8*L by omega) hlt (show 1≤1 by omega);have h11:((1:Nat):Int)=1:=rfl;rw[h11] at ho;rw[h1] at hi⊢;rw[Ac (by rfl),yX,Int.toNat_natCast,ho,hs];exact hi
theorem Vm(w L:Nat)(hw:w≤62)(hL:L<1000000)(hk:w<k)(vs:List Int)(hvs:vs.length<1000000)(hr:∀v,v∈vs→0≤v∧v<2^w)(hb:vs.length*w≤8*L):∀(post pre:List Int) (n:Nat),vs=pre++post→post.length<n→
 CZ.l6 k n vs (w:Int) (pre.length:Int) (leB L (JJ w pre))=some (((),true),leB L (JJ w vs)):=by
 intro post
 induction post with
 |nil=>
  intro pre n hv hn;obtain⟨n,rfl⟩:∃x,n=x+1:=⟨n-1,by omega⟩;have:vs=pre:=by simpa using hv
  subst this;simp only[CZ.l6,zk (show ¬(vs.length:Int)<(vs.length:Int) by omega),yZ]
 |cons v post ih=>
  intro pre n hv hn;simp only[Ah] at hn;obtain⟨n,rfl⟩:∃x,n=x+1:=⟨n-1,by omega⟩;have hlen:vs.length=pre.length+(post.length+1):=by rw[hv];simp
  have hg:gU vs (pre.length:Int)=some v:=by rw[hv,zQ,List.getElem?_append_right (Nat.le_refl _)];simp
  obtain⟨v0,v1⟩:=hr v (by rw[hv];simp);have hM:=QF w (pre.map u64);rw[List.length_map] at hM;have hmul:pre.length*w+w≤vs.length*w:=by
   have:(pre.length+1)*w≤vs.length*w:=Nat.mul_le_mul_right _ (by omega);rw[Nat.add_mul,Nat.one_mul] at this;exact this
  have hi:=Vl k (CZ.l6 k n) vs v w pre.length (pre.length*w) L (JJ w pre) (by omega) (by simp) (by omega) hL (by omega) hM hg w k 0 (by omega) hk;simp only[Nat.pow_zero,Nat.mod_one,Nat.zero_mul,Nat.add_zero] at hi;have hsh:pE .i64 v (w:Int)=0:=by
   rw[IW .i64 v w (show w≤64 by omega)];exact Int.ediv_eq_zero_of_lt v0 v1
  simp only[CZ.l6,zh (show(pre.length:Int)<(vs.length:Int) by omega),yX,hg,yY,zk (show ¬v<0 by omega),yZ,zh (show(0:Int)≤(w:Int) by omega),hsh,show((0:Int) !=0)=false from rfl];have h0:((0:Nat):Int)=0:=rfl;rw[h0] at hi;rw[hi];have:=ih (pre++[v]) n (by rw[hv];simp) (by omega);rw[zX,Ap] at this;rw[←this];unfold JJ;rw[List.map_append,List.map_singleton,QG,List.length_map]
theorem Ve(vs:List Int)(w:Nat)(hw:w≤62)(hvs:vs.length≤2000)(hr:∀v,v∈vs→0≤v∧v<2^w)(hk:vs.length<k)(hk2:w<k):CZ k vs (w:Int)=some (((),true),Ph w vs):=by
 obtain⟨h1,h2,h3⟩:=len8 (n:=vs.length) (w:=w) (by omega) (by omega);unfold CZ Km;simp only[Bh,yY,cst,zh (show(0:Int)≤(vs.length:Int) by omega),zh (show(vs.length:Int)≤2000 by omega),zh (show(0:Int)≤(w:Int) by omega),zh (show(w:Int)≤62 by omega),Bool.and_self,zq,Bt,yZ,h1,zk (show ¬((bytesOf vs.length w:Nat):Int)<0 by omega)];rw[JH (by omega) (by omega),yX,Int.toNat_natCast,←Tn];exact Vm k w _ hw h2 hk2 vs (by omega) hr h3 vs [] k rfl hk
theorem aj2(n M:Nat):leB (n+1) M=leB n M++[((M/256^n%256:Nat):Int)]:=by
 unfold leB;rw[List.range_succ,List.map_append,List.map_singleton]
theorem alF(v:Int){i:Nat}(hi:i<8):IntKind.wrap .u8 (pE .i64 v ((8*i:Nat):Int))=((u64 v/256^i%256:Nat):Int):=by
 rw[IW .i64 v (8*i) (show 8*i≤64 by omega),UK];have hp:(256:Nat)^i=2^(8*i):=by rw[Nat.pow_mul]
 have hpi:((2:Int)^(8*i))=((2^(8*i):Nat):Int):=by simp
 rw[Int.natCast_emod,Int.natCast_ediv,NL,hp,←hpi];rcases(show i=0∨i=1∨i=2∨i=3∨i=4∨i=5∨i=6∨i=7 by omega) with rfl|rfl|rfl|rfl|rfl|rfl|rfl|rfl<;>simp<;>omega
theorem amy(v:Int)(n:Nat)(hn:n≤8)(h1:1≤n):∀(m f i:Nat),i+m=n→m<f→
 Gq.l5 k f v (n:Int) (i:Int) (leB i (u64 v))=some ((),leB n (u64 v))∧Gb.l3 k f v (n:Int) (i:Int) (leB i (u64 v))=some ((),leB n (u64 v)):=by
 intro m
 induction m with
 |zero=>
  intro f i hi hf;obtain⟨f,rfl⟩:∃q,f=q+1:=⟨f-1,by omega⟩;obtain rfl:i=n:=by omega
  simp only[Gq.l5,Gb.l3,zk (show ¬(i:Int)<(i:Int) by omega),yZ,yY];exact⟨trivial,trivial⟩
 |succ m ih=>
  intro f i hi hf;obtain⟨f,rfl⟩:∃q,f=q+1:=⟨f-1,by omega⟩;have e2:IntKind.wrap .i64 (8*(i:Int))=((8*i:Nat):Int):=by rw[zg (by omega) (by omega)];omega
  have e3:IntKind.wrap .i64 ((i:Int)+1)=((i+1:Nat):Int):=by rw[zg (by omega) (by omega)];omega
  have hr:(decide ((1:Int)≤(n:Int))&&decide ((n:Int)≤8))=true:=by simp;omega
  simp only[Gq.l5,Gb.l3,Bh,hr,zh (show(i:Int)<(n:Int) by omega),yX,yY,e2,e3,zh (show(0:Int)≤((8*i:Nat):Int) by omega),alF v (show i<8 by omega),Ak (show(leB i (u64 v)).length+[((u64 v/256^i%256:Nat):Int)].length≤4294967296 by rw[EB];simp;omega),←aj2];exact ih f (i+1) (by omega) (by omega)
theorem UH(hk:100≤k)(v:Int)(n:Nat)(hn:n≤8)(h1:1≤n):Gq k v (n:Int)=some ((),leB n (u64 v))∧Gb k v (n:Int)=some ((),leB n (u64 v)):=by
 obtain⟨a,b⟩:=amy k v n hn h1 n k 0 (by omega) (by omega);have hr:(decide ((1:Int)≤(n:Int))&&decide ((n:Int)≤8))=true:=by simp;omega
 unfold Gq Gb;simp only[Bp,hr,yY,zq,yZ];exact⟨a,b⟩
end Go.Af
end
section
namespace Go.Af
open Go.Am Go.Fn
variable(k:Nat)
def Cc(t:Int):Bool:=t==0||t==1||t==2||t==5||t==6
theorem LZ(t:Int):FQ k t=some (Cc t):=by
 unfold FQ FQ.c7 Cc;by_cases h0:t=0
 ·subst h0;simp
 by_cases h1:t=1
 ·subst h1;simp
 by_cases h2:t=2
 ·subst h2;simp
 by_cases h5:t=5
 ·subst h5;simp
 by_cases h6:t=6
 ·subst h6;simp
 simp[zw h0,zw h1,zw h2,zw h5,zw h6,h0,h1,h2,h5,h6]
theorem NK(t:Int):J9 k t=some (Cc t):=by
 unfold J9 Cc;simp only[Bp,yY,cst]
 congr 1
 by_cases h:0≤t∧t≤2
 ·rw[zh h.1,zh h.2]
  rcases(show t=0∨t=1∨t=2 by omega) with rfl|rfl|rfl<;>rfl
 ·have:(decide (0≤t)&&decide (t≤2))=false:=by
   rw[Bool.eq_false_iff];intro hh;simp only[Aa,Al] at hh;exact h hh
  rw[this,zw (show ¬t=0 by omega),zw (show ¬t=1 by omega),zw (show ¬t=2 by omega)];rfl
end Go.Af
end
section
namespace Go.Af
open Go.Am Go.Fn
variable(k:Nat)
def Co(t:Int)(v:za):Bool:=
 if t=0 then(decide (0≤v.1)&&decide (v.1≤1))&&iY v.2.1 ⟨#[]⟩
 else if t=1 then(decide (-2147483648≤v.1)&&decide (v.1≤2147483647))&&iY v.2.1 ⟨#[]⟩
 else if t=2∨t=5 then iY v.2.1 ⟨#[]⟩
 else if t=6 then v.1==0&&decide ((v.2.1.size:Int)≤40)
 else false
theorem NM(t:Int)(v:za):F3 k t v=some (Co t v):=by
 unfold F3 F3.c8 KR Co;by_cases h0:t=0
 ·subst h0
  simp only[Bp,Ac rfl,yX,yY,Au,if_true]
 by_cases h1:t=1
 ·subst h1
  simp only[Bp,zw h0,Ac rfl,yX,yZ,yY,Au,if_neg h0,if_true]
 by_cases h2:t=2
 ·subst h2
  simp only[zw h0,zw h1,Ac rfl,yX,yZ,if_neg h0,if_neg h1,true_or,if_true]
 by_cases h5:t=5
 ·subst h5
  simp only[zw h0,zw h1,zw h2,Ac rfl,yX,yZ,if_neg h0,if_neg h1,or_true,if_true]
 by_cases h6:t=6
 ·subst h6
  simp only[zw h0,zw h1,zw h2,zw h5,Ac rfl,yX,yZ,if_neg h0,if_neg h1,yY,Au,if_true];rw[if_neg (by decide)]
 ·simp only[zw h0,zw h1,zw h2,zw h5,zw h6,yX,yZ,if_neg h0,if_neg h1,yY,Au,if_neg h6]
  rw[if_neg (by omega)];rfl
theorem K6(t:Int)(v:za):FL k t v=some (Co t v):=by
 unfold FL FL.c8 K5 Co;by_cases h0:t=0
 ·subst h0
  simp only[Bh,Ac rfl,yX,yY,Au,if_true]
 by_cases h1:t=1
 ·subst h1
  simp only[Bh,zw h0,Ac rfl,yX,yZ,yY,Au,if_neg h0,if_true]
 by_cases h2:t=2
 ·subst h2
  simp only[zw h0,zw h1,Ac rfl,yX,yZ,if_neg h0,if_neg h1,true_or,if_true]
 by_cases h5:t=5
 ·subst h5
  simp only[zw h0,zw h1,zw h2,Ac rfl,yX,yZ,if_neg h0,if_neg h1,or_true,if_true]
 by_cases h6:t=6
 ·subst h6
  simp only[zw h0,zw h1,zw h2,zw h5,Ac rfl,yX,yZ,if_neg h0,if_neg h1,yY,Au,if_true];rw[if_neg (by decide)]
 ·simp only[zw h0,zw h1,zw h2,zw h5,zw h6,yX,yZ,if_neg h0,if_neg h1,yY,Au,if_neg h6]
  rw[if_neg (by omega)]
end Go.Af
end
section
namespace Go.Af
open Go.Am Go.Fn
variable(k:Nat)
theorem amu(t:Int)(l:List za)(hl:l.length<1000000000):∀(post pre:List za) (n n':Nat),l=pre++post→post.length<n→post.length<n'→
 Ht.l2 k n t l l (l.length:Int) (pre.length:Int)=some (post.all (Co t)&&(decide ((l.length:Int)≤2000)&&Cc t))∧Ia.l4 k n' t l (pre.length:Int)=some (post.all (Co t)):=by
 intro post
 induction post with
 |nil=>
  intro pre n n' hl' hn hn';obtain⟨n,rfl⟩:∃m,n=m+1:=⟨n-1,by omega⟩;obtain⟨n',rfl⟩:∃m,n'=m+1:=⟨n'-1,by omega⟩;have:l=pre:=by simpa using hl'
  subst this;simp only[Ht.l2,Ia.l4,zk (show ¬(l.length:Int)<(l.length:Int) by omega),yZ,NK,yY,Au,List.all_nil,Bj];exact⟨trivial,trivial⟩
 |cons x post ih=>
  intro pre n n' hl' hn hn';simp only[Ah] at hn hn';obtain⟨n,rfl⟩:∃m,n=m+1:=⟨n-1,by omega⟩;obtain⟨n',rfl⟩:∃m,n'=m+1:=⟨n'-1,by omega⟩;have hlen:l.length=pre.length+(post.length+1):=by rw[hl'];simp
  have hg:gU l (pre.length:Int)=some x:=by rw[hl'];exact AX _ _ _
  have hi:=ih (pre++[x]) n n' (by rw[hl'];simp) (by omega) (by omega);rw[zX,Ap] at hi;simp only[Ht.l2,Ia.l4,zh (show(pre.length:Int)<(l.length:Int) by omega),yX,hg,yY,NM,K6,List.all_cons];rw[zg (by omega) (by omega),show((pre.length:Int)+1)=((pre.length+1:Nat):Int) by omega];cases hv:Co t x with
  |false=>exact⟨rfl,rfl⟩
  |true=>
   simp only[zq,yZ,Bj];exact hi
def FT(t:Int)(l:List za):Bool:=l.all (Co t)&&(decide ((l.length:Int)≤2000)&&Cc t)
theorem Q8(t:Int)(l:List za)(hl:l.length<1000000000)(hk:l.length<k):Ht k t l=some (FT t l)∧Ia k t l=some (FT t l):=by
 obtain⟨h1,h2⟩:=amu k t l hl l [] k k rfl hk hk;rw[List.length_nil,show((0:Nat):Int)=0 from rfl] at h1 h2;unfold Ht Ia FT;refine⟨h1,?_⟩;simp only[LZ,yY,cst];by_cases hl2:(l.length:Int)≤2000
 ·rw[zk (show ¬(l.length:Int)>2000 by omega),zh hl2]
  cases Cc t with
  |false=>simp
  |true=>simp[h2]
 ·rw[zh (show(l.length:Int)>2000 by omega),zk hl2]
  simp
end Go.Af
end
section
namespace Go.Af
open Go.Am Go.Fn
variable(k:Nat)
def Ff(t:Int)(v:za):List Int:=
 if t=6 then leB 4 (u64 (v.2.1.size:Int))++eZ v.2.1 else if t=1 then leB 4 (u64 v.1) else leB 8 (u64 v.1)
def KZ(t:Int)(l:List za):List Int:=
 if t=0 then Ph 1 (l.map (·.1)) else(l.map (Ff t)).flatten
theorem Q7{t:Int}{v:za}(h:Co t v=true):(t=0∧0≤v.1∧v.1≤1∧v.2.1=⟨#[]⟩)∨(t=1∧-2147483648≤v.1∧v.1≤2147483647∧v.2.1=⟨#[]⟩)∨((t=2∨t=5)∧v.2.1=⟨#[]⟩)∨(t=6∧v.1=0∧v.2.1.size≤40):=by
 unfold Co at h;by_cases h0:t=0
 ·subst h0
  rw[if_pos rfl,Dv] at h;simp at h;exact .inl ⟨rfl,h.1.1,h.1.2,h.2⟩
 by_cases h1:t=1
 ·subst h1
  rw[if_neg (by decide),if_pos rfl,Dv] at h;simp at h;exact .inr (.inl ⟨rfl,h.1.1,h.1.2,h.2⟩)
 by_cases h2:t=2∨t=5
 ·rw[if_neg h0,if_neg h1,if_pos h2,Dv] at h
  simp at h;exact .inr (.inr (.inl ⟨h2,h⟩))
 by_cases h6:t=6
 ·subst h6
  rw[if_neg h0,if_neg h1,if_neg h2,if_pos rfl] at h;simp at h;exact .inr (.inr (.inr ⟨rfl,h.1,by omega⟩))
 ·rw[if_neg h0,if_neg h1,if_neg h2,if_neg h6] at h
  cases h
theorem NN{t:Int}{l:List za}:FT t l=true↔(∀v,v∈l→Co t v=true)∧l.length≤2000∧Cc t=true:=by
 unfold FT;simp only[Aa,List.all_eq_true,Al];constructor
 ·intro⟨a,b,c⟩;exact⟨a,by omega,c⟩
 ·intro⟨a,b,c⟩;exact⟨a,by omega,c⟩
theorem akR{t:Int}{v:za}(h:Co t v=true):(Ff t v).length≤44:=by
 unfold Ff;rcases Q7 h with⟨rfl,_⟩|⟨rfl,_⟩|⟨ht|ht,_⟩|⟨rfl,_,h3⟩
 ·rw[if_neg (by decide),if_neg (by decide),EB];omega
 ·rw[if_neg (by decide),if_pos rfl,EB];omega
 ·subst ht;rw[if_neg (by decide),if_neg (by decide),EB];omega
 ·subst ht;rw[if_neg (by decide),if_neg (by decide),EB];omega
 ·rw[if_pos rfl,zX,EB,uo];omega
theorem akz(l:List za)(hl:l.length<1000000000):∀(post pre:List za) (n:Nat),l=pre++post→post.length<n→
 Jf.l3 k n l (l.length:Int) (pre.length:Int) (pre.map (·.1))=some ((),l.map (·.1)):=by
 intro post
 induction post with
 |nil=>
  intro pre n hv hn;obtain⟨n,rfl⟩:∃x,n=x+1:=⟨n-1,by omega⟩;have:l=pre:=by simpa using hv
  subst this;simp only[Jf.l3,zk (show ¬(l.length:Int)<(l.length:Int) by omega),yZ]
 |cons v post ih=>
  intro pre n hv hn;simp only[Ah] at hn;obtain⟨n,rfl⟩:∃x,n=x+1:=⟨n-1,by omega⟩;have hlen:l.length=pre.length+(post.length+1):=by rw[hv];simp
  have hg:gU l (pre.length:Int)=some v:=by rw[hv];exact AX pre post v
  have:=ih (pre++[v]) n (by rw[hv];simp) (by omega);rw[zX,Ap,List.map_append] at this;simp only[Jf.l3,zh (show(pre.length:Int)<(l.length:Int) by omega),yX,hg,yY,Ak (show(pre.map (·.1)).length+[v.1].length≤4294967296 by simp;omega),zg (x:=(pre.length:Int)+1) (by omega) (by omega)];exact this
theorem akQ(hk:100≤k)(t:Int)(l:List za)(h:FT t l=true)(ht:t≠0):∀(post pre:List za) (n:Nat) (o:List Int),l=pre++post→post.length<n→o.length≤44*pre.length→
 CE.l7 k n t l (l.length:Int) (pre.length:Int) o=some (((),true),o++(post.map (Ff t)).flatten)∧
 C_.l6 k n t l (pre.length:Int) o []=some (((),true),o++(post.map (Ff t)).flatten):=by
 obtain⟨hv,hl,hty⟩:=NN.1 h;intro post
 induction post with
 |nil=>
  intro pre n o hp hn ho;obtain⟨n,rfl⟩:∃x,n=x+1:=⟨n-1,by omega⟩;have:l=pre:=by simpa using hp
  subst this;simp only[CE.l7,C_.l6,zk (show ¬(l.length:Int)<(l.length:Int) by omega),yZ,zw ht];simp
 |cons v post ih=>
  intro pre n o hp hn ho;simp only[Ah] at hn;obtain⟨n,rfl⟩:∃x,n=x+1:=⟨n-1,by omega⟩;have hlen:l.length=pre.length+(post.length+1):=by rw[hp];simp
  have hg:gU l (pre.length:Int)=some v:=by rw[hp];exact AX pre post v
  have hvv:Co t v=true:=hv v (by rw[hp];simp);have hbl:=akR hvv;obtain⟨i1,i2⟩:=ih (pre++[v]) n (o++Ff t v) (by rw[hp];simp) (by omega) (by simp;omega);rw[zX,Ap] at i1 i2;have w4:∀x:Int,Gq k x 4=some ((),leB 4 (u64 x))∧Gb k x 4=some ((),leB 4 (u64 x)):=fun x=>UH k hk x 4 (by omega) (by omega);have UD:∀x:Int,Gq k x 8=some ((),leB 8 (u64 x))∧Gb k x 8=some ((),leB 8 (u64 x)):=fun x=>UH k hk x 8 (by omega) (by omega);have hs:([]:List Int)=[]:=rfl;simp only[CE.l7,C_.l6,zh (show(pre.length:Int)<(l.length:Int) by omega),yX,hg,yY,zw ht,yZ];rw[List.map_cons,List.flatten_cons,←Bu];rcases Q7 hvv with⟨h0,_⟩|⟨rfl,_⟩|⟨KN,_⟩|⟨rfl,_,h3⟩
  ·exact absurd h0 ht
  ·have e:Ff 1 v=leB 4 (u64 v.1):=by unfold Ff;rw[if_neg (by decide),if_pos rfl]
   rw[e] at i1 i2⊢;simp only[show((1:Int)==6)=false from rfl,show((1:Int)==1)=true from rfl,yX,yZ,CE.d11,Ez,yY,(w4 _).1,(w4 _).2,Ak (show o.length+(leB 4 (u64 v.1)).length≤4294967296 by rw[EB];omega),CE.c12,C_.c7,zg (x:=(pre.length:Int)+1) (by omega) (by omega)];exact⟨i1,i2⟩
  ·have e:Ff t v=leB 8 (u64 v.1):=by unfold Ff;rw[if_neg (by omega),if_neg (by omega)]
   have ew:Ez k t=some 8:=by rcases KN with rfl|rfl<;>rfl
   rw[e] at i1 i2⊢;simp only[zw (show ¬t=6 by omega),zw (show ¬t=1 by omega),yX,yZ,CE.d11,ew,yY,(UD _).1,(UD _).2,Ak (show o.length+(leB 8 (u64 v.1)).length≤4294967296 by rw[EB];omega),CE.c12,C_.c7,zg (x:=(pre.length:Int)+1) (by omega) (by omega)];exact⟨i1,i2⟩
  ·have e:Ff 6 v=leB 4 (u64 (v.2.1.size:Int))++eZ v.2.1:=by unfold Ff;rw[if_pos rfl]
   rw[e,←Bu] at i1 i2;rw[e,←Bu]
   simp only[show((6:Int)==6)=true from rfl,show((6:Int)==1)=false from rfl,yX,yZ,CE.d10,yY,(w4 _).1,(w4 _).2,Ak (show o.length+(leB 4 (u64 (v.2.1.size:Int))).length≤4294967296 by rw[EB];omega),
    Ak (show(o++leB 4 (u64 (v.2.1.size:Int))).length+(eZ v.2.1).length≤4294967296 by rw[zX,EB,uo];omega),CE.c12,C_.c7,zg (x:=(pre.length:Int)+1) (by omega) (by omega)]
   exact⟨i1,i2⟩
theorem akP(l:List za)(h:FT 0 l=true):∀(post pre:List za) (n:Nat),l=pre++post→post.length<n→
 C_.l6 k n 0 l (pre.length:Int) [] (pre.map (·.1))=(CZ k (l.map (·.1)) 1).bind fun r5=>some (((),r5.1.2),r5.2):=by
 obtain⟨hv,hl,hty⟩:=NN.1 h;intro post
 induction post with
 |nil=>
  intro pre n hp hn;obtain⟨n,rfl⟩:∃x,n=x+1:=⟨n-1,by omega⟩;have:l=pre:=by simpa using hp
  subst this;simp only[C_.l6,zk (show ¬(l.length:Int)<(l.length:Int) by omega),yZ,show((0:Int)==0)=true from rfl,yX]
 |cons v post ih=>
  intro pre n hp hn;simp only[Ah] at hn;obtain⟨n,rfl⟩:∃x,n=x+1:=⟨n-1,by omega⟩;have hlen:l.length=pre.length+(post.length+1):=by rw[hp];simp
  have hg:gU l (pre.length:Int)=some v:=by rw[hp];exact AX pre post v
  have i1:=ih (pre++[v]) n (by rw[hp];simp) (by omega);rw[zX,Ap,List.map_append] at i1;simp only[C_.l6,zh (show(pre.length:Int)<(l.length:Int) by omega),yX,hg,yY,show((0:Int)==0)=true from rfl,Ak (show(pre.map (·.1)).length+[v.1].length≤4294967296 by simp;omega),C_.c7,zg (x:=(pre.length:Int)+1) (by omega) (by omega)];exact i1
theorem akV(hk:3000≤k)(t:Int)(l:List za)(hl:l.length<1000000000)(hlk:l.length<k):
 CE k t l=some (((),FT t l),if FT t l then KZ t l else[])∧C_ k t l=some (((),FT t l),if FT t l then KZ t l else[]):=by
 obtain⟨o1,o2⟩:=Q8 k t l hl hlk;unfold CE C_;simp only[o1,o2,yY];cases h:FT t l with
 |false=>exact⟨rfl,rfl⟩
 |true=>
  obtain⟨hv,hl2,hty⟩:=NN.1 h;simp only[zq,yZ,if_true];unfold KZ;by_cases ht:t=0
  ·subst ht
   have hn:=akz k l hl l [] k rfl hlk;have hb:=akP k l h l [] k rfl hlk;have hp:=akG k (l.map (·.1)) 1 (by omega) (by rw[List.length_map];omega) (by rw[List.length_map];omega) (by omega)
   have hs:=Ve k (l.map (·.1)) 1 (by omega) (by rw[List.length_map];omega) (by
    intro x hx;obtain⟨v,hv',rfl⟩:=List.mem_map.1 hx;rcases Q7 (hv v hv') with⟨_,a,b,_⟩|⟨h0,_⟩|⟨h0,_⟩|⟨h0,_⟩
    ·omega
    ·cases h0
    ·omega
    ·cases h0) (by rw[List.length_map];omega) (by omega)
   rw[List.length_nil,List.map_nil,show((0:Nat):Int)=0 from rfl] at hn hb;rw[show((1:Nat):Int)=1 from rfl] at hp hs;unfold Jf;simp only[show((0:Int)==0)=true from rfl,yX,hn,yY,hp,hb,hs,if_true];exact⟨trivial,trivial⟩
  ·obtain⟨i1,i2⟩:=akQ k (by omega) t l h ht l [] k [] rfl hlk (by simp)
   rw[List.length_nil,show((0:Nat):Int)=0 from rfl,List.nil_append] at i1 i2;simp only[zw ht,yZ,if_neg ht];exact⟨i1,i2⟩
end Go.Af
end
section
namespace Go.Af
open Go.Am Go.Fn
variable(k:Nat)
theorem NV(hk:100≤k)(b:List Int)(hb:b.length<1000000000000000)(hby:CG b)(at_:Int)(ha:Ae at_)(n:Nat)(hn:n≤8)(h1:1≤n):
 ∃v nx ok,Ey k b at_ (n:Int)=some (v,nx,ok)∧Ec k b at_ (n:Int)=some (v,nx,ok)∧Ae v∧(ok=false→v=0∧nx=0)∧
  (ok=true→0≤at_∧nx=at_+(n:Int)∧nx≤(b.length:Int)∧(n≤4→0≤v∧v<4294967296)):=by
 have hr:(decide ((1:Int)≤(n:Int))&&decide ((n:Int)≤8))=true:=by simp;omega
 unfold Ey Ec;simp only[Bp,Bh,hr,yY,zq,yZ,cst,Aq];have hi:=ha.1;have hi':=ha.2;have e1:IntKind.wrap .i64 ((b.length:Int)-(n:Int))=(b.length:Int)-n:=zg (by omega) (by omega);rw[e1];by_cases h0:at_<0
 ·simp only[zh h0,Ag,yX]
  exact⟨0,0,false,rfl,rfl,⟨by decide,by decide⟩,fun _=>⟨rfl,rfl⟩,fun h=>by cases h⟩
 obtain⟨p,rfl⟩:∃m:Nat,at_=m:=⟨at_.toNat,by omega⟩;simp only[zk h0,Aq];by_cases h2:(p:Int)>(b.length:Int)-n
 ·have:(decide ((p:Int)>(b.length:Int))||decide (IntKind.wrap .i64 ((b.length:Int)-(p:Int))<(n:Int)))=true:=by
   by_cases hp:(p:Int)>(b.length:Int)
   ·simp[hp]
   ·rw[zg (by omega) (by omega),zh (show(b.length:Int)-(p:Int)<(n:Int) by omega),Bool.or_true]
  simp only[zh h2,this,yX];exact⟨0,0,false,rfl,rfl,⟨by decide,by decide⟩,fun _=>⟨rfl,rfl⟩,fun h=>by cases h⟩
 ·have e2:IntKind.wrap .i64 ((b.length:Int)-(p:Int))=(b.length:Int)-p:=zg (by omega) (by omega)
  simp only[zk h2,e2,zk (show ¬(p:Int)>(b.length:Int) by omega),zk (show ¬(b.length:Int)-(p:Int)<(n:Int) by omega),Bt,yZ];obtain⟨l1,l2⟩:=UI k b p n hn (by omega) (by omega) hby n k 0 0 (by omega) (by omega) (by simp);rw[show IntKind.wrap .i64 ((0:Nat):Int)=0 by decide,show((0:Nat):Int)=0 from rfl] at l1 l2;simp only[Nat.zero_add,Nat.add_zero,Nat.mul_zero,Nat.pow_zero,Nat.mul_one] at l1 l2;refine⟨_,_,_,l2,l1,⟨NU _,NT _⟩,(fun h=>by cases h),fun _=>⟨by omega,by omega,by omega,?_⟩⟩;intro h4;have hlt:=Q_ ((b.drop p).take n) (fun x hx=>hby x (List.mem_of_mem_drop (List.mem_of_mem_take hx)));have hlen:((b.drop p).take n).length=n:=by rw[List.length_take,List.length_drop];omega
  rw[hlen] at hlt;have:2^(8*n)≤2^32:=Nat.pow_le_pow_right (by decide) (by omega);rw[zg (by omega) (by omega)];omega
theorem MQ{b:List Int}(hby:CG b)(i j:Int):∀x,x∈kV b i j→0≤x∧x<256:=by
 intro x hx;unfold kV at hx;exact hby x (List.mem_of_mem_take (List.mem_of_mem_drop hx))
theorem akS(hk:100≤k)(t:Int)(ht:t=1∨t=2∨t=5∨t=6)(b:List Int)(hb:b.length<1000000000000000)(hby:CG b)(at_:Int)(ha:Ae at_):
 ∃v nx ok,O0 k t b at_=some (v,nx,ok)∧JR k t b at_=some (v,nx,ok)∧
  (ok=true→Co t v=true∧Ae v.1∧0≤at_∧nx=at_+((Ff t v).length:Nat)∧nx≤(b.length:Int)):=by
 obtain⟨v4,n4,o4,a1,a2,a3,a4,a5⟩:=NV k hk b hb hby at_ ha 4 (by omega) (by omega);obtain⟨v8,n8,o8,b1,b2,b3,b4,b5⟩:=NV k hk b hb hby at_ ha 8 (by omega) (by omega);rw[show((4:Nat):Int)=4 from rfl] at a1 a2 a5;rw[show((8:Nat):Int)=8 from rfl] at b1 b2 b5;unfold O0 JR;rcases(show t=1∨(t=2∨t=5)∨t=6 by omega) with rfl|KN|rfl
 ·have hs:∀v:Int,0≤v→v<4294967296→IntKind.wrap .i64 (IntKind.wrap .i32 v)=if v>2147483647 then v-4294967296 else v:=by
   intro v h0 h1;have:IntKind.wrap .i32 v=if v>2147483647 then v-4294967296 else v:=by
    have h2:v%2^32=v:=Int.emod_eq_of_lt h0 h1;simp only[IntKind.wrap,IntKind.bits,IntKind.signed,h2,Bj,Al];by_cases h:v>2147483647
    ·rw[if_pos h,if_pos (show v≥2^(32-1) by omega)];omega
    ·rw[if_neg h,if_neg (show ¬v≥2^(32-1) by omega)]
   rw[this];split<;>exact zg (by omega) (by omega)
  have hv:0≤v4∧v4<4294967296:=by
   cases o4 with
   |false=>obtain⟨rfl,_⟩:=a4 rfl;omega
   |true=>exact(a5 rfl).2.2.2 (by omega)
  simp only[show((1:Int) !=6)=true from rfl,show((1:Int)==1)=true from rfl,yX,Ez,yY,a1,a2,LW,show((4:Int)==4)=true from rfl,hs v4 hv.1 hv.2,JR.c6];refine⟨(if v4>2147483647 then v4-4294967296 else v4,zn,()),n4,o4,rfl,?_,?_⟩
  ·by_cases h:v4>2147483647
   ·rw[zh h,yX,if_pos h,zg (by omega) (by omega)]
   ·rw[zk h,yZ,if_neg h]
  ·intro ho
   obtain⟨c1,c2,c3,c4⟩:=a5 ho;have: -2147483648≤(if v4>2147483647 then v4-4294967296 else v4)∧(if v4>2147483647 then v4-4294967296 else v4)≤2147483647:=by split<;>omega
   refine⟨?_,⟨by omega,by omega⟩,c1,(by unfold Ff;rw[if_neg (by decide),if_pos rfl,EB];omega),c3⟩;unfold Co;rw[if_neg (by decide),if_pos rfl];simp[this,Dv]
 ·have e6:(t !=6)=true:=by rcases KN with rfl|rfl<;>rfl
  have ew:Ez k t=some 8:=by rcases KN with rfl|rfl<;>rfl
  simp only[e6,yX,ew,yY,b1,b2,LW,show((8:Int)==4)=false from rfl,yZ,zw (show ¬t=1 by omega),zw (show ¬t=6 by omega)];refine⟨_,_,_,rfl,rfl,?_⟩;intro ho;obtain⟨c1,c2,c3,c4⟩:=b5 ho;refine⟨?_,b3,c1,(by unfold Ff;rw[if_neg (by omega),if_neg (by omega),EB];omega),c3⟩;unfold Co;rw[if_neg (by omega),if_neg (by omega),if_pos KN];simp[Dv]
 ·simp only[show((6:Int) !=6)=false from rfl,show((6:Int)==1)=false from rfl,show((6:Int)==6)=true from rfl,yX,yZ,a1,a2,yY,cst]
  cases o4 with
  |false=>
   simp only[zD,Ag,yX];exact⟨_,_,_,rfl,rfl,fun h=>by cases h⟩
  |true=>
   obtain⟨c1,c2,c3,c4⟩:=a5 rfl;have c4:=c4 (by omega);have e:IntKind.wrap .i64 ((b.length:Int)-n4)=(b.length:Int)-n4:=zg (by omega) (by omega);simp only[zq,Aq,e];by_cases hx:v4>40∨v4>(b.length:Int)-n4
   ·have:(decide (v4>40)||decide (v4>(b.length:Int)-n4))=true:=by rcases hx with hx|hx<;>simp[hx]
    simp only[this,yX];exact⟨_,_,_,rfl,rfl,fun h=>by cases h⟩
   ·have h1:¬v4>40:=fun h=>hx (.inl h)
    have h2:¬v4>(b.length:Int)-n4:=fun h=>hx (.inr h);have e3:IntKind.wrap .i64 (n4+v4)=n4+v4:=zg (by omega) (by omega);simp only[zk h1,zk h2,Bt,yZ,e3,EI (show(0:Int)≤n4 by omega) (show n4≤n4+v4 by omega) (show n4+v4≤(b.length:Int) by omega),yX];refine⟨_,_,_,rfl,rfl,fun _=>⟨?_,⟨(by decide: -9223372036854775808≤(0:Int)),(by decide:(0:Int)<9223372036854775808)⟩,c1,(by unfold Ff kV;rw[if_pos rfl,zX,EB,uo,Kb,List.length_drop,List.length_take];omega),by omega⟩⟩;unfold Co;rw[if_neg (by decide),if_neg (by decide),if_neg (by decide),if_pos rfl];simp only[show((0:Int)==0)=true from rfl,Bj,Kb,Al];unfold kV;rw[List.length_drop,List.length_take];omega
structure UU(t:Int)(b:List Int)(at_ many nx:Int)(ok:Bool)(l:List za):Prop where
 bad:ok=false→nx=0∨t=0
 ty:ok=true→Cc t=true
 a0:ok=true→0≤at_
 m0:ok=true→0≤many∧many≤2000
 n0:ok=true→at_≤nx
 n1:ok=true→nx≤(b.length:Int)
 nl:ok=true→nx=at_+(((KZ t l).length:Nat):Int)
 len:ok=true→l.length=many.toNat
 vk:ok=true→∀v,v∈l→Co t v=true∧Ae v.1
 short:ok=false→l.length≤2000
theorem alc(hk:100≤k)(t:Int)(ht:t=1∨t=2∨t=5∨t=6)(b:List Int)(hb:b.length<1000000000000000)(hby:CG b)(many:Nat)(hm:many≤2000):∀(m n i:Nat) (at_:Int) (o:List za),i+m=many→m<n→o.length=i→0≤at_→at_≤(b.length:Int)→
 ∃nx ok l,Gp.l8 k n t b at_ (many:Int) (i:Int) o=some (((),nx,ok),l)∧DY.zY k n t b at_ (many:Int) (i:Int) o=some (((),nx,ok),l)∧
  (ok=false→nx=0∧l=[])∧(ok=true→at_≤nx∧nx≤(b.length:Int)∧∃l',l=o++l'∧l'.length=m∧nx=at_+(((l'.map (Ff t)).flatten.length:Nat):Int)∧∀v,v∈l'→Co t v=true∧Ae v.1):=by
 intro m
 induction m with
 |zero=>
  intro n i at_ o hi hn ho h0 h1;obtain⟨n,rfl⟩:∃x,n=x+1:=⟨n-1,by omega⟩;obtain rfl:i=many:=by omega
  simp only[Gp.l8,DY.zY,zk (show ¬(i:Int)<(i:Int) by omega),yZ];exact⟨_,_,_,rfl,rfl,(fun h=>by cases h),fun _=>⟨by omega,h1,[],by simp,rfl,by simp,by simp⟩⟩
 |succ m ih=>
  intro n i at_ o hi hn ho h0 h1;obtain⟨n,rfl⟩:∃x,n=x+1:=⟨n-1,by omega⟩;obtain⟨v,nx,ok,e1,e2,e3⟩:=akS k hk t ht b hb hby at_ ⟨by omega,by omega⟩;simp only[Gp.l8,DY.zY,zh (show(i:Int)<(many:Int) by omega),yX,e1,e2,yY];cases ok with
  |false=>
   simp only[zD,yX];exact⟨_,_,_,rfl,rfl,fun _=>⟨rfl,rfl⟩,fun h=>by cases h⟩
  |true=>
   obtain⟨c1,c2,c3,c4,c5⟩:=e3 rfl;obtain⟨nx',ok',l',f1,f2,f3,f4⟩:=ih n (i+1) nx (o++[v]) (by omega) (by omega) (by simp;omega) (by omega) c5;have e:IntKind.wrap .i64 ((i:Int)+1)=((i+1:Nat):Int):=by rw[zg (by omega) (by omega)];omega
   simp only[zq,yZ,Ak (show o.length+[v].length≤4294967296 by simp;omega),yX,e];refine⟨nx',ok',l',f1,f2,f3,?_⟩;intro ho';obtain⟨g1,g2,l2,g3,g4,g6,g5⟩:=f4 ho';refine⟨by omega,g2,v::l2,by rw[g3];simp,by simp[g4],(by rw[List.map_cons,List.flatten_cons,zX];omega),?_⟩;intro x hx;rcases List.mem_cons.1 hx with rfl|hx
   ·exact⟨c1,c2⟩
   ·exact g5 x hx
theorem Uv(l:List Int)(hl:l.length<1000000000):∀(post pre:List Int) (n:Nat),l=pre++post→post.length<n→
 GM.l3 k n l (l.length:Int) (pre.length:Int) (pre.map fun x=>((x,zn,()):za))=some ((),l.map fun x=>((x,zn,()):za))∧
 ∀nx ok,DY.l7 k n nx ok (pre.length:Int) (pre.map fun x=>((x,zn,()):za)) l=some (((),nx,ok),l.map fun x=>((x,zn,()):za)):=by
 intro post
 induction post with
 |nil=>
  intro pre n hv hn;obtain⟨n,rfl⟩:∃x,n=x+1:=⟨n-1,by omega⟩;have:l=pre:=by simpa using hv
  subst this;simp only[GM.l3,DY.l7,zk (show ¬(l.length:Int)<(l.length:Int) by omega),yZ];exact⟨trivial,fun _ _=>trivial⟩
 |cons v post ih=>
  intro pre n hv hn;simp only[Ah] at hn;obtain⟨n,rfl⟩:∃x,n=x+1:=⟨n-1,by omega⟩;have hlen:l.length=pre.length+(post.length+1):=by rw[hv];simp
  have hg:gU l (pre.length:Int)=some v:=by rw[hv];exact AX pre post v
  have:=ih (pre++[v]) n (by rw[hv];simp) (by omega);rw[zX,Ap,List.map_append] at this;simp only[GM.l3,DY.l7,zh (show(pre.length:Int)<(l.length:Int) by omega),yX,hg,yY,Ak (show(pre.map fun x=>((x,zn,()):za)).length+([(v,zn,())]:List za).length≤4294967296 by simp;omega),zg (x:=(pre.length:Int)+1) (by omega) (by omega)];exact this
theorem amj{t:Int}(h:Cc t=true):t=0∨t=1∨t=2∨t=5∨t=6:=by
 unfold Cc at h;simp at h;omega
theorem QH(hk:3000≤k)(t:Int)(b:List Int)(hb:b.length<1000000000000000)(hby:CG b)(at_ many:Int)(ha:Ae at_):
 ∃nx ok l,Gp k t b at_ many=some (((),nx,ok),l)∧DY k t b at_ many=some (((),nx,ok),l)∧UU t b at_ many nx ok l:=by
 unfold Gp DY;simp only[NK,LZ,Bp,Bh,yY,cst];by_cases hc:Cc t=true∧(0≤many∧many≤2000)∧(0≤at_∧at_≤(b.length:Int))
 ·obtain⟨hty,⟨m0,m1⟩,a0,a1⟩:=hc
  simp only[hty,zh m0,zh m1,zh a0,zh a1,Bool.and_self,zq,Bt,yZ];by_cases ht:t=0
  ·subst ht
   obtain⟨nx,ok,l,e1,e2,e3,e4⟩:=Vf k hk b hb hby at_ many 1 ha;have hll:l.length<1000000000∧l.length<k:=by
    cases ok with
    |false=>obtain⟨_,rfl⟩:=e3 rfl;simp;omega
    |true=>obtain⟨_,_,_,_,h,_⟩:=e4 rfl;omega
   obtain⟨v1,v2⟩:=Uv k l hll.1 l [] k rfl hll.2;rw[List.length_nil,List.map_nil,show((0:Nat):Int)=0 from rfl] at v1 v2;simp only[show((0:Int)==0)=true from rfl,yX,e1,e2,yY,GM,v1,v2 nx ok];refine⟨_,_,_,rfl,rfl,⟨fun _=> .inr rfl,fun _=>hty,fun _=>a0,fun _=>⟨m0,m1⟩,?_,?_,?_,?_,?_,fun h=>by rw[(e3 h).2];simp⟩⟩
   ·intro h;obtain⟨_,_,_,_,_,_,h7,_,_⟩:=e4 h;omega
   ·intro h;obtain⟨_,_,_,_,_,_,_,h8,_⟩:=e4 h;exact h8
   ·intro h;obtain⟨_,_,_,_,h5,_,h7,_⟩:=e4 h;rw[h7];unfold KZ Ph;rw[if_pos rfl,EB];simp[h5]
   ·intro h;obtain⟨_,_,_,_,h5,_⟩:=e4 h;simpa using h5
   ·intro h v hv
    obtain⟨_,_,_,_,_,_,_,_,h9⟩:=e4 h;obtain⟨x,hx,rfl⟩:=List.mem_map.1 hv;obtain⟨x0,x1⟩:=h9 x hx;have x1:x<2:=x1;refine⟨?_,⟨by show _≤x;omega,by show x<_;omega⟩⟩;unfold Co;rw[if_pos rfl];simp only[zh x0,zh (show x≤1 by omega),Dv];simp
  ·obtain⟨many,rfl⟩:∃m:Nat,many=m:=⟨many.toNat,by omega⟩
   have ht':t=1∨t=2∨t=5∨t=6:=by have:=amj hty;omega
   obtain⟨nx,ok,l,e1,e2,e3,e4⟩:=alc k (by omega) t ht' b hb hby many (by omega) many k 0 at_ [] (by omega) (by omega) rfl a0 a1;rw[show((0:Nat):Int)=0 from rfl] at e1 e2;simp only[zw ht,yZ,e1,e2];refine⟨_,_,_,rfl,rfl,⟨fun h=> .inl (e3 h).1,fun _=>hty,fun _=>a0,fun _=>⟨m0,m1⟩,fun h=>(e4 h).1,fun h=>(e4 h).2.1,?_,?_,?_,fun h=>by rw[(e3 h).2];simp⟩⟩
   ·intro h;obtain⟨_,_,l',rfl,_,h6,_⟩:=e4 h;unfold KZ;rw[if_neg ht];simpa using h6
   ·intro h;obtain⟨_,_,l',rfl,h5,_⟩:=e4 h;simpa using h5
   ·intro h;obtain⟨_,_,l',rfl,_,_,h6⟩:=e4 h;simpa using h6
 ·have:((!Cc t|| !(decide (0≤many)&&decide (many≤2000)))|| !(decide (0≤at_)&&decide (at_≤(b.length:Int))))=true:=by
   by_cases a:Cc t=true<;>by_cases b1:0≤many<;>by_cases c:many≤2000<;>by_cases d:0≤at_<;>by_cases e:at_≤(b.length:Int)<;>simp[a,b1,c,d,e]
   exact hc ⟨a,⟨b1,c⟩,d,e⟩
  simp only[this,yX];exact⟨_,_,_,rfl,rfl,⟨fun _=> .inl rfl,nofun,nofun,nofun,nofun,nofun,nofun,nofun,nofun,fun _=>by simp⟩⟩
end Go.Af
end
section
namespace Go.Af
open Go.Am Go.Fn
variable(k:Nat)
def Dz:Nat→Nat→Nat
 |0,_=>0
 |f+1,u=>if u=0 then 0 else Dz f (u/2)+1
theorem Vi:∀f,Dz f 0=0
 |0=>rfl
 |f+1=>rfl
theorem Od:∀f u,Dz f u≤f
 |0,_=>Nat.le_refl _
 |f+1,u=>by
  have:=Od f (u/2);simp only[Dz];split<;>omega
theorem Ry:∀f u,u<2^f→u<2^Dz f u
 |0,u,h=>h
 |f+1,u,h=>by
  simp only[Dz];split
  ·omega
  ·rw[Nat.pow_succ] at h⊢
   have:=Ry f (u/2) (by omega);omega
theorem Ld:∀f g u,u<2^f→Dz (f+g) u=Dz f u
 |0,g,u,h=>by
  have:u=0:=by simpa using h
  subst this;simp[Vi]
 |f+1,g,u,h=>by
  rw[show f+1+g=(f+g)+1 by omega];simp only[Dz];rw[Nat.pow_succ] at h;rw[Ld f g (u/2) (by omega)]
theorem Oe:∀s f u,2^s≤u→Dz (f+s) u=Dz f (u/2^s)+s
 |0,f,u,_=>by simp
 |s+1,f,u,h=>by
  rw[Nat.pow_succ] at h;have h0:u≠0:=by have:=Nat.two_pow_pos s;omega
  rw[show f+(s+1)=(f+s)+1 by omega];simp only[Dz,h0,if_false];rw[Oe s f (u/2) (by omega),Nat.div_div_eq_div_mul,Nat.pow_succ,Nat.mul_comm 2];omega
def Ja(u:Nat):Nat:=Dz 64 u
theorem QS(kk:IntKind)(a n:Nat)(h:n≤kk.bits):pE kk (a:Int) (n:Int)=((a/2^n:Nat):Int):=by
 rw[IW kk _ n h];simp
theorem aj8:∀u:Fin 256,bits_Len64.c10 0 ((u.val:Nat):Int) 0=some ((Dz 8 u.val:Nat):Int):=by decide+kernel
theorem Tq(u:Nat)(hu:u<256)(t2:Nat)(h2:t2<1000):bits_Len64.c10 k (u:Int) (t2:Int)=some ((t2+Dz 8 u:Nat):Int):=by
 have h0:=aj8 ⟨u,hu⟩;have hs:bits_Len64.c10 k (u:Int) (t2:Int)=(bits_Len64.c10 0 (u:Int) 0).bind fun r=>some (IntKind.wrap .i64 ((t2:Int)+r)):=by
  unfold bits_Len64.c10;rw[Option.bind_assoc]
  congr 1
  funext y;simp only[yY];rw[Int.zero_add,zg (NU y) (NT y)]
 have hb:=Od 8 u;rw[hs,h0];simp only[yY];rw[zg (by omega) (by omega)];rfl
theorem Tp(u:Nat)(hu:u<18446744073709551616):bits_Len64 k (u:Int)=some (Ja u:Int):=by
 unfold bits_Len64;have c7:∀(u t:Nat),u<65536→t<900→bits_Len64.c7 k (u:Int) (t:Int)=some ((t+Dz 16 u:Nat):Int):=by
  intro u t hu ht;unfold bits_Len64.c7;by_cases h:256≤u
  ·rw[zh (show(u:Int)≥256 by omega),yX]
   have:=QS .u64 u 8 (by decide);rw[show((8:Nat):Int)=8 from rfl] at this;rw[this,zg (by omega) (by omega)];have:=Tq k (u/2^8) (by simp;omega) (t+8) (by omega);rw[show((t:Int)+8)=((t+8:Nat):Int) by omega,this];rw[show(16:Nat)=8+8 by rfl,Oe 8 8 u (by simpa using h)]
   congr 2;omega
  ·rw[zk (show ¬(u:Int)≥256 by omega),yZ,Tq k u (by omega) t (by omega)]
   have:=Ld 8 8 u (by simp;omega);rw[this]
 have c4:∀(u t:Nat),u<4294967296→t<800→bits_Len64.c4 k (u:Int) (t:Int)=some ((t+Dz 32 u:Nat):Int):=by
  intro u t hu ht;unfold bits_Len64.c4;by_cases h:65536≤u
  ·rw[zh (show(u:Int)≥65536 by omega),yX]
   have:=QS .u64 u 16 (by decide);rw[show((16:Nat):Int)=16 from rfl] at this;rw[this,zg (by omega) (by omega)];have:=c7 (u/2^16) (t+16) (by simp;omega) (by omega);rw[show((t:Int)+16)=((t+16:Nat):Int) by omega,this];rw[show(32:Nat)=16+16 by rfl,Oe 16 16 u (by simpa using h)]
   congr 2;omega
  ·rw[zk (show ¬(u:Int)≥65536 by omega),yZ,c7 u t (by omega) (by omega)]
   have:=Ld 16 16 u (by simp;omega);rw[this]
 unfold Ja;by_cases h:4294967296≤u
 ·rw[zh (show(u:Int)≥4294967296 by omega),yX]
  have:=QS .u64 u 32 (by decide);rw[show((32:Nat):Int)=32 from rfl] at this;rw[this];have:=c4 (u/2^32) 32 (by simp;omega) (by omega);rw[show((32:Nat):Int)=32 from rfl] at this;rw[this,show(64:Nat)=32+32 by rfl,Oe 32 32 u (by simpa using h)]
  congr 2;omega
 ·rw[zk (show ¬(u:Int)≥4294967296 by omega),yZ]
  have:=c4 u 0 (by omega) (by omega);rw[show((0:Nat):Int)=0 from rfl] at this;rw[this];have:=Ld 32 32 u (by simp;omega);rw[this];simp
theorem wu64(v:Int):IntKind.wrap .u64 v=(u64 v:Int):=by rw[MC,NL]
theorem amw(v:Int):Ka k v=some (Ja (u64 v):Int):=by
 unfold Ka;rw[wu64,Tp k _ (Q3 v)];rfl
theorem Vj{u:Nat}(h:u<18446744073709551616):u<2^Ja u:=Ry 64 u (by simpa using h)
theorem amn:u64 0=0:=by decide
theorem amm{v:Int}(h0:0≤v)(h1:v<9223372036854775808):(u64 v:Int)=v:=by rw[NL];omega
theorem RY(v:Int)(hv:Ae v):JP k v 1=some ((u64 v/2:Nat):Int):=by
 unfold JP;rw[zw (by decide),yZ,zh (by decide),yX,show IntKind.wrap .i64 (64-1)=63 by decide,zh (by decide),yX];have h1:pE .i64 v 1=v/2:=IW .i64 v 1 (by decide);have h2:IntKind.wrap .i64 (pz .i64 1 63-1)=2^63-1:=by decide
 rw[h1,h2];have h3:∀x:Int,bits .and .i64 x (2^63-1)=x%2^63:=by
  intro x;have hb:(BitVec.ofInt 64 x&&&BitVec.ofInt 64 (2^63-1)).toNat=(x%9223372036854775808).toNat:=by
   have h4:BitVec.ofInt 64 (2^63-1)=BitVec.ofNat 64 (2^63-1):=by decide
   rw[h4,BitVec.toNat_and,BitVec.toNat_ofNat,BitVec.toNat_ofInt];rw[show(2^63-1)%2^64=2^63-1 by decide,Nat.and_two_pow_sub_one_eq_mod];omega
  show IntKind.wrap .i64 (((BitVec.ofInt 64 x&&&BitVec.ofInt 64 (2^63-1)).toNat:Nat):Int)=_;rw[hb,Int.toNat_of_nonneg (by omega),zg (by omega) (by omega)];rfl
 rw[h3]
 congr 1
 have:=NL v;omega
end Go.Af
end
section
namespace Go.Af
open Go.Am Go.Fn
def EJ(t:Int):Bool:=t==5||t==6||t==8||t==9||t==12
def isKind(t:Int):Bool:=t==1||t==2||EJ t
theorem Qw(k:Nat)(t:Int)(b:Bool):El k t b=some (EJ t||((t==1||t==2)&& !b)):=by
 unfold El El.c4 El.c10 EJ;by_cases h1:t=1
 ·subst h1;simp
 by_cases h2:t=2
 ·subst h2;simp
 by_cases h5:t=5
 ·subst h5;simp
 by_cases h6:t=6
 ·subst h6;simp
 by_cases h8:t=8
 ·subst h8;simp
 by_cases h9:t=9
 ·subst h9;simp
 by_cases h12:t=12
 ·subst h12;simp
 simp[zw h1,zw h2,zw h5,zw h6,zw h8,zw h9,zw h12,h1,h2,h5,h6,h8,h9,h12]
theorem Ti(k:Nat)(t:Int):Gc k t=some (isKind t):=by
 unfold Gc Gc.c9 isKind EJ;by_cases h1:t=1
 ·subst h1;simp
 by_cases h2:t=2
 ·subst h2;simp
 by_cases h5:t=5
 ·subst h5;simp
 by_cases h6:t=6
 ·subst h6;simp
 by_cases h8:t=8
 ·subst h8;simp
 by_cases h9:t=9
 ·subst h9;simp
 by_cases h12:t=12
 ·subst h12;simp
 simp[zw h1,zw h2,zw h5,zw h6,zw h8,zw h9,zw h12,h1,h2,h5,h6,h8,h9,h12]
theorem Tg(k:Nat)(t:Int):NG k t=some (EJ t):=by
 unfold NG;rw[Ti];simp only[yY,Au]
 congr 1
 unfold isKind;by_cases h1:t=1
 ·subst h1;rfl
 by_cases h2:t=2
 ·subst h2;rfl
 simp[zw h1,zw h2,zO h1,zO h2]
def Dw(n:zf):Bool:=
 if n.1=5 then(decide (-2147483648≤n.2.2.1)&&decide (n.2.2.1≤2147483647))&&iY n.2.2.2.1 ⟨#[]⟩&&n.2.2.2.2.1==0
 else if n.1=6 then iY n.2.2.2.1 ⟨#[]⟩&&n.2.2.2.2.1==0
 else if n.1=8 then n.2.2.1==0&&decide ((n.2.2.2.1.size:Int)≤300)&&n.2.2.2.2.1==0
 else if n.1=9 then iY n.2.2.2.1 ⟨#[]⟩&&decide (n.2.2.2.2.1≥0)&&((n.2.2.2.2.1==0&&n.2.2.1==0)||(decide (n.2.2.2.2.1>0)&&EJ n.2.2.1))
 else if n.1=12 then n.2.2.1==0&&iY n.2.2.2.1 ⟨#[]⟩&&decide (n.2.2.2.2.1≥0)
 else(n.1==1||n.1==2)&&n.2.2.1==0&&iY n.2.2.2.1 ⟨#[]⟩&&n.2.2.2.2.1==0
theorem akx(k:Nat)(n:zf):OZ k n=some (Dw n):=by
 unfold OZ KR Dw;simp only[Bp,Qw,yY,Au,cst];by_cases h5:n.1=5
 ·simp[h5]
 by_cases h6:n.1=6
 ·simp[h6]
 by_cases h8:n.1=8
 ·simp[h8]
 by_cases h9:n.1=9
 ·simp[h9]
 by_cases h12:n.1=12
 ·simp[h12]
 simp[zw h5,zw h6,zw h8,zw h9,zw h12,h5,h6,h8,h9,h12,EJ]
theorem TR(k:Nat)(n:zf):JQ k n=some (Dw n):=by
 unfold JQ JQ.c4 K5 Dw;simp only[Bh,Tg,yY,Au,cst];by_cases h1:n.1=1
 ·simp[h1]
 by_cases h2:n.1=2
 ·simp[h2]
 by_cases h5:n.1=5
 ·simp[h5]
 by_cases h6:n.1=6
 ·simp[h6]
 by_cases h8:n.1=8
 ·simp[h8]
 by_cases h9:n.1=9
 ·simp[h9]
 by_cases h12:n.1=12
 ·simp[h12]
 simp[zw h1,zw h2,zw h5,zw h6,zw h8,zw h9,zw h12,h1,h2,h5,h6,h8,h9,h12]
def Gi(S:Nat→Nat→Prop)(l:List zf)(n:zf):Nat→Nat→Int→Nat→Prop
 |0,pos,_,nx=>pos=nx
 |c+1,pos,last,nx=>∃p mid,l[pos]?=some p∧(n.1=9→p.1=n.2.2.1∧p.2.1=0)∧(n.1=12→last+1≤p.2.1∧p.2.1≤1000)∧S pos mid∧Gi S l n c mid p.2.1 nx
def Sub(l:List zf)(af:List Int):Nat→Nat→Nat→Prop
 |0,_,_=>False
 |d+1,at_,nx=>∃n,l[at_]?=some n∧Dw n=true∧Gi (Sub l af d) l n n.2.2.2.2.1.toNat (at_+1) 0 nx∧af[at_]?=some (nx:Int)
theorem MN{S S':Nat→Nat→Prop}{l:List zf}{n:zf}(hS:∀a b,S a b→a<b):∀(c pos:Nat) (last:Int) (nx:Nat),(∀a b,pos≤a→b≤nx→S a b→S' a b)→Gi S l n c pos last nx→Gi S' l n c pos last nx∧pos≤nx
 |0,pos,last,nx,h,e=>⟨e,by have e:pos=nx:=e;omega⟩
 |c+1,pos,last,nx,h,⟨p,mid,h1,h2,h3,h4,h5⟩=>by
  have hlt:=hS _ _ h4;obtain⟨k1,k2⟩:=MN hS c mid p.2.1 nx (fun a b ha hb=>h a b (by omega) hb) h5;exact⟨⟨p,mid,h1,h2,h3,h _ _ (Nat.le_refl _) k2 h4,k1⟩,by omega⟩
theorem Dt{l:List zf}{af:List Int}:∀(d a b:Nat),Sub l af d a b→a<b
 |0,_,_,h=>h.elim
 |d+1,a,b,⟨n,h1,h2,h3,h4⟩=>by
  have:=(MN (S':=fun _ _=>True) (Dt d) _ _ _ _ (fun _ _ _ _ _=>trivial) h3).2;omega
theorem Rn{l:List zf}{af DK:List Int}:∀(d a b:Nat),(∀i,a≤i→i<b→DK[i]?=af[i]?)→Sub l af d a b→Sub l DK d a b
 |0,_,_,_,h=>h.elim
 |d+1,a,b,hf,⟨n,h1,h2,h3,h4⟩=>by
  have hlt:=Dt (d+1) a b ⟨n,h1,h2,h3,h4⟩;refine⟨n,h1,h2,(MN (Dt d) _ _ _ _ (fun x y hx hy hs=> ?_) h3).1,by rw[hf a (Nat.le_refl _) hlt];exact h4⟩;exact Rn d x y (fun i hi1 hi2=>hf i (by omega) (by omega)) hs
def FX(n:zf):Prop:=Ae n.1∧Ae n.2.1∧Ae n.2.2.1∧Ae n.2.2.2.2.1∧n.2.2.2.1.size≤1073741824
theorem Vr(k:Nat)(l:List zf)(hl:l.length≤1500)(d D deep:Nat)(LD:deep≤12)
 (ih:∀(at_:Nat) (af:List Int),af.length=l.length→
  ∃v DK,Ck.rec k D l (at_:Int) ((deep+1:Nat):Int)=some v∧Dn.rec k D (at_:Int) ((deep+1:Nat):Int) (true,(l,(),())) af=some (v,((l,(),()),DK))∧DK.length=l.length∧
   (v= -1∨∃nx:Nat,v=nx∧Sub l DK d at_ nx∧nx≤l.length∧∀i,(i<at_∨nx≤i)→DK[i]?=af[i]?))
 (at_:Nat) (hat:at_<l.length) (n:zf) (M:Int) (hM:n.2.2.2.2.1=M) (hM1:M<9223372036854775808):∀(f pos:Nat) (last i:Int) (af:List Int),l.length-pos<f→at_<pos→0≤i→i≤M→pos≤l.length→
  (n.1=12→0≤last∧last≤1000)→af.length=l.length→
  ∃v DK,Ck.l7 k (Ck.rec k D) f l (deep:Int) (pos:Int) last i n=some v∧Dn.l7 k (Dn.rec k D) f (at_:Int) (deep:Int) (pos:Int) last M i (l,(),()) af n=some (v,((l,(),()),DK))∧DK.length=l.length∧
   (v= -1∨∃nx:Nat,v=nx∧Gi (Sub l DK d) l n (M-i).toNat pos last nx∧nx≤l.length∧DK[at_]?=some (nx:Int)∧∀j,(j<pos∨nx≤j)→j≠at_→DK[j]?=af[j]?):=by
 intro f
 induction f with
 |zero=>intro pos last i af h;omega
 |succ f GH=>
  intro pos last i af hf hpos hi0 hiM hpl hlast BG;simp only[Ck.l7,Dn.l7,hM];by_cases hlt:i<M
  ·simp only[zh hlt,yX]
   by_cases hpe:(pos:Int)≥(l.length:Int)
   ·simp only[zh hpe,yX]
    exact⟨_,_,rfl,rfl,BG,.inl rfl⟩
   ·simp only[zk hpe,yZ]
    obtain⟨p,hp1,hp2⟩:=FK (xs:=l) (i:=(pos:Int)) (by omega) (by omega);simp only[hp1,yY,Au,cst,Bp];have hp2:l[pos]?=some p:=by simpa using hp2
    by_cases hc1:n.1=9∧(p.1≠n.2.2.1∨p.2.1≠0)
    ·have e1:(n.1==9&&(p.1 !=n.2.2.1||p.2.1 !=0))=true:=by
      simp only[Aa,Bool.or_eq_true,beq_iff_eq,bne_iff_ne];exact hc1
     simp only[e1,Ag,yX];exact⟨_,_,rfl,rfl,BG,.inl rfl⟩
    ·have e1:(n.1==9&&(p.1 !=n.2.2.1||p.2.1 !=0))=false:=by
      rw[Bool.eq_false_iff];intro h;simp only[Aa,Bool.or_eq_true,beq_iff_eq,bne_iff_ne] at h;exact hc1 h
     simp only[e1,Aq,yZ];by_cases hc2:n.1=12∧¬(last+1≤p.2.1∧p.2.1≤1000)
     ·have hw:IntKind.wrap .i64 (last+1)=last+1:=by
       have:=hlast hc2.1;exact zg (by omega) (by omega)
      have e2:(n.1==12&&(decide (p.2.1≤last)||decide (p.2.1>1000)))=true:=by
       simp only[Aa,Bool.or_eq_true,beq_iff_eq,Al];exact⟨hc2.1,by have:=hc2.2;omega⟩
      have e3:(cond (n.1==12) (some (!(decide (last+1≤p.2.1)&&decide (p.2.1≤1000)))) (some false):Option Bool)=some true:=by
       rw[Ac hc2.1,yX]
       congr 1
       have:=hc2.2;simp only[Bool.not_eq_true',Bool.and_eq_false_iff,decide_eq_false_iff_not];omega
      rw[hw];simp only[e2,e3,yY,yX];rw[Au] at e3;simp only[Ao] at e3;simp only[e3,yX];exact⟨_,_,rfl,rfl,BG,.inl rfl⟩
     ·have e2:(n.1==12&&(decide (p.2.1≤last)||decide (p.2.1>1000)))=false:=by
       rw[Bool.eq_false_iff];intro h;simp only[Aa,Bool.or_eq_true,beq_iff_eq,Al] at h;exact hc2 ⟨h.1,by omega⟩
      have e3:(n.1==12&& !(decide (IntKind.wrap .i64 (last+1)≤p.2.1)&&decide (p.2.1≤1000)))=false:=by
       rw[Bool.eq_false_iff];intro h;simp only[Aa,beq_iff_eq,Bool.not_eq_true',Bool.and_eq_false_iff,decide_eq_false_iff_not] at h;have hl:=hlast h.1;rw[zg (by omega) (by omega)] at h;exact hc2 ⟨h.1,by omega⟩
      simp only[e2,e3,yZ];have hd1:IntKind.wrap .i64 ((deep:Int)+1)=((deep+1:Nat):Int):=by rw[zg (by omega) (by omega)];omega
      rw[hd1];obtain⟨v,UY,s1,s2,s3,s4⟩:=ih pos af BG;simp only[s1,s2,yY];rcases s4 with rfl|⟨mid,rfl,s5,s6,s7⟩
      ·simp only[show decide ((-1:Int)<0)=true from rfl,yX]
       exact⟨_,_,rfl,rfl,s3,.inl rfl⟩
      ·have hml:=Dt _ _ _ s5
       have hm0:decide ((mid:Int)<0)=false:=zk (by omega);have hi1:IntKind.wrap .i64 (i+1)=i+1:=zg (by omega) (by omega);simp only[hm0,yZ,hi1]
       obtain⟨w,UZ,t1,t2,t3,t4⟩:=GH mid p.2.1 (i+1) UY (by omega) (by omega) (by omega) (by omega) s6 (fun h12=>by
        have h:=fun hh=>hc2 ⟨h12,hh⟩;have hl:=hlast h12;omega) s3
       refine⟨w,UZ,t1,t2,t3,?_⟩;rcases t4 with h|⟨nx,h1,h2,h3,h4,h5⟩
       ·exact .inl h
       ·have hmn:=(MN (S':=fun _ _=>True) (Dt d) _ _ _ _ (fun _ _ _ _ _=>trivial) h2).2
        refine .inr ⟨nx,h1,?_,h3,h4,fun j hj hja=> ?_⟩
        ·rw[show(M-i).toNat=(M-(i+1)).toNat+1 by omega]
         refine⟨p,mid,hp2,fun h9=> ?_,fun h12=> ?_,Rn d pos mid (fun j hj1 hj2=>h5 j (.inl hj2) (by omega)) s5,h2⟩
         ·constructor
          ·exact Classical.byContradiction fun hh=>hc1 ⟨h9,.inl hh⟩
          ·exact Classical.byContradiction fun hh=>hc1 ⟨h9,.inr hh⟩
         ·exact Classical.byContradiction fun hh=>hc2 ⟨h12,hh⟩
        ·rw[h5 j (by omega) hja,s7 j (by omega)]
  ·simp only[zk hlt,yZ]
   obtain⟨y,hy1,hy2⟩:=FK (xs:=af) (i:=(at_:Int)) (by omega) (by omega);simp only[hy1,yY];refine⟨_,_,rfl,rfl,by simpa using BG,.inr ⟨pos,rfl,?_,hpl,?_,fun j _ hj=> ?_⟩⟩
   ·rw[show(M-i).toNat=0 by omega]
    rfl
   ·simp[List.getElem?_set,BG,hat]
   ·simp[List.getElem?_set]
    intro h;omega
theorem check(k:Nat)(hk:2000≤k)(l:List zf)(hl:l.length≤1500)(hw:∀n,n∈l→FX n):∀(d D deep at_:Nat) (af:List Int),d+deep=13→d<D→af.length=l.length→
 ∃v DK,Ck.rec k D l (at_:Int) (deep:Int)=some v∧Dn.rec k D (at_:Int) (deep:Int) (true,(l,(),())) af=some (v,((l,(),()),DK))∧DK.length=l.length∧
  (v= -1∨∃nx:Nat,v=nx∧Sub l DK d at_ nx∧nx≤l.length∧∀i,(i<at_∨nx≤i)→DK[i]?=af[i]?):=by
 intro d
 induction d with
 |zero=>
  intro D deep at_ af hd hD BG;obtain⟨D,rfl⟩:∃m,D=m+1:=⟨D-1,by omega⟩;obtain rfl:deep=13:=by omega
  simp only[Ck.rec,Dn.rec,Ck.b,Dn.b,cst,yY,show decide (((13:Nat):Int)>12)=true from rfl,Bool.or_true,yX];exact⟨_,_,rfl,rfl,BG,.inl rfl⟩
 |succ d ih=>
  intro D deep at_ af hd hD BG;obtain⟨D,rfl⟩:∃m,D=m+1:=⟨D-1,by omega⟩;simp only[Ck.rec,Dn.rec,Ck.b,Dn.b,cst,yY,yX];by_cases hat:(at_:Int)≥(l.length:Int)
  ·simp only[zh hat,Ag,yX,yY]
   exact⟨_,_,rfl,rfl,BG,.inl rfl⟩
  ·obtain⟨n,hn1,hn2⟩:=FK (xs:=l) (i:=(at_:Int)) (by omega) (by omega)
   have hn2:l[at_]?=some n:=by simpa using hn2
   have hdd:decide ((deep:Int)>12)=false:=zk (by omega);simp only[zk hat,hdd,Aq,yZ,hn1,yY,TR,akx];cases hok:Dw n with
   |false=>
    simp only[zD,yX];exact⟨_,_,rfl,rfl,BG,.inl rfl⟩
   |true=>
    simp only[zq,yZ];have hwn:=hw n (List.mem_of_getElem? hn2);have hM0:0≤n.2.2.2.2.1:=by
     unfold Dw at hok
     repeat' split at hok
     all_goals simp only[Aa,beq_iff_eq,Al,Bool.or_eq_true] at hok
     all_goals omega
    have ha1:IntKind.wrap .i64 ((at_:Int)+1)=((at_+1:Nat):Int):=by rw[zg (by omega) (by omega)];omega
    rw[ha1];obtain⟨v,DK,t1,t2,t3,t4⟩:=Vr k l hl d D deep (by omega) (fun a af BG=>ih D (deep+1) a af (by omega) (by omega) BG) at_ (by omega) n n.2.2.2.2.1 rfl hwn.2.2.2.1.2 k (at_+1) 0 0 af (by omega) (by omega) (by omega) hM0 (by omega) (fun _=>by omega) BG;refine⟨v,DK,t1,t2,t3,?_⟩;rcases t4 with h|⟨nx,h1,h2,h3,h4,h5⟩
    ·exact .inl h
    ·refine .inr ⟨nx,h1,⟨n,hn2,hok,by simpa using h2,h4⟩,h3,fun i hi=> ?_⟩
     have:=(MN (S':=fun _ _=>True) (Dt d) _ _ _ _ (fun _ _ _ _ _=>trivial) h2).2;exact h5 i (by omega) (by omega)
def BR(B:List Int):Prop:=∀x,x∈B→0≤x∧x<256
theorem BR.cons{a:Int}{B:List Int}(h0:0≤a)(h1:a<256)(h':BR B):BR (a::B):=fun x hx=>by
 rcases List.mem_cons.1 hx with rfl|hx
 ·exact⟨h0,h1⟩
 ·exact h' x hx
theorem BR.nil:BR []:=fun x hx=>(List.not_mem_nil hx).elim
def M7(p:zf)(last:Int):List Int:=if p.2.1-last≤15 then[16*(p.2.1-last)+p.1] else p.1::uv (zig p.2.1)
def JA(S:List zf→Nat×List zf)(st:Bool):Nat→Int→List zf→Nat×List zf
 |0,_,X=>(0,X)
 |_+1,_,[]=>(0,[])
 |c+1,last,p::X=>((if st then(M7 p last).length else 0)+(S (p::X)).1+(JA S st c p.2.1 (S (p::X)).2).1,(JA S st c p.2.1 (S (p::X)).2).2)
def cost:Nat→List zf→Nat×List zf
 |0,X=>(0,X)
 |_+1,[]=>(0,[])
 |d+1,n::X=>
  if n.1=5∨n.1=6 then((uv (zig n.2.2.1)).length,X)
  else if n.1=8 then((uv (n.2.2.2.1.size:Int)).length+n.2.2.2.1.size,X)
  else if n.1=9 then((if n.2.2.2.2.1≤14 then 1 else 1+(uv n.2.2.2.2.1).length)+(JA (cost d) false n.2.2.2.2.1.toNat 0 X).1,(JA (cost d) false n.2.2.2.2.1.toNat 0 X).2)
  else if n.1=12 then((JA (cost d) true n.2.2.2.2.1.toNat 0 X).1+1,(JA (cost d) true n.2.2.2.2.1.toNat 0 X).2)
  else(0,X)
def sn(id j:Int):zf:=(12,id,0,⟨#[]⟩,j,())
end Go.Af
end
section
namespace Go.Af
open Go.Am Go.Fn
variable(k:Nat)
def KA(E:List zf→Prop)(n:zf):Nat→Int→List zf→Prop
 |0,_,X=>X=[]
 |c+1,last,X=>∃p Y Z,X=(p::Y)++Z∧(n.1=9→p.1=n.2.2.1∧p.2.1=0)∧(n.1=12→last+1≤p.2.1∧p.2.1≤1000)∧E (p::Y)∧KA E n c p.2.1 Z
def Enc:Nat→List zf→Prop
 |0,_=>False
 |_+1,[]=>False
 |d+1,n::X=>Dw n=true∧KA (Enc d) n n.2.2.2.2.1.toNat 0 X
theorem Re{E:List zf→Prop}{n:zf}:∀(c:Nat) (last:Int) (X:List zf),KA E n c last X→c≤X.length
 |0,_,_,_=>Nat.zero_le _
 |c+1,_,X,⟨p,Y,Z,e,_,_,_,h⟩=>by
  have:=Re c _ _ h;subst e;simp;omega
theorem aky{n:zf}(h:Dw n=true):0≤n.2.2.2.2.1:=by
 unfold Dw at h
 repeat' split at h
 all_goals simp only[Aa,beq_iff_eq,Al,Bool.or_eq_true] at h
 all_goals omega
theorem Sl{α:Type}(pre post:List α)(x:α):gU (pre++x::post) (pre.length:Int)=some x:=by
 rw[zQ,List.getElem?_append_right (Nat.le_refl _)];simp
theorem Vq(hk:2000≤k):∀(d D deep:Nat) (pre B post:List zf),d+deep≤13→d<D→Enc d B→pre.length+B.length+post.length≤1500→
 Ck.rec k D (pre++(B++post)) (pre.length:Int) (deep:Int)=some ((pre.length+B.length:Nat):Int):=by
 intro d
 induction d with
 |zero=>intro D deep pre B post _ _ h;exact h.elim
 |succ d ih=>
  intro D deep pre B post hdd hD hB hlen;obtain⟨D,rfl⟩:∃j,D=j+1:=⟨D-1,by omega⟩;cases B with
  |nil=>exact hB.elim
  |cons n X=>
   obtain⟨hok,hP⟩:=hB;have hm0:=aky hok;have hcl:=Re _ _ _ hP;simp only[Ah] at hlen;generalize hL:pre++(n::X++post)=L;have anc:L.length=pre.length+(X.length+1)+post.length:=by rw[←hL];simp;omega
   have hget:gU L (pre.length:Int)=some n:=by rw[←hL];exact Sl pre (X++post) n
   simp only[Ck.rec,Ck.b,cst,yY,zk (show ¬(pre.length:Int)≥(L.length:Int) by omega),zk (show ¬(deep:Int)>12 by omega),Bt,yZ,hget,TR,hok,zq];rw[zg (by omega) (by omega),show((pre.length:Int)+1)=((pre.length+1:Nat):Int) by omega]
   have loop:∀(c:Nat) (last:Int) (f:Nat) (i:Int) (Q Z:List zf),KA (Enc d) n c last Z→pre++(n::X)=Q++Z→c<f→n.2.2.2.2.1-i=c→0≤i→n.2.2.2.2.1≤2000→
    Ck.l7 k (Ck.rec k D) f L (deep:Int) (Q.length:Int) last i n=some ((pre.length+(X.length+1):Nat):Int):=by
    intro c
    induction c with
    |zero=>
     intro last f i Q Z hZ hQ hf hi hi0 hi2;obtain⟨f,rfl⟩:∃j,f=j+1:=⟨f-1,by omega⟩;have hZ:Z=[]:=hZ;subst hZ;have:=congrArg List.length hQ;simp at this;simp only[Ck.l7,zk (show ¬i<n.2.2.2.2.1 by omega),yZ]
     congr 1
     omega
    |succ c oq=>
     intro last f i Q Z ⟨p,Y,Z',hZ,h9,h12,hE,hZP⟩ hQ hf hi hi0 hi2;obtain⟨f,rfl⟩:∃j,f=j+1:=⟨f-1,by omega⟩;have Sw:L=Q++((p::Y)++(Z'++post)):=by
      rw[←hL,←Bu,hQ,hZ];simp
     have Sy:=congrArg List.length hQ;rw[hZ] at Sy;simp at Sy;have hp:gU L (Q.length:Int)=some p:=by rw[Sw];exact Sl Q (Y++(Z'++post)) p
     have e1:(n.1==9&&(p.1 !=n.2.2.1||p.2.1 !=0))=false:=by
      rw[Bool.eq_false_iff];intro h;simp only[Aa,Bool.or_eq_true,beq_iff_eq,bne_iff_ne] at h;have:=h9 h.1;omega
     have e2:(n.1==12&&(decide (p.2.1≤last)||decide (p.2.1>1000)))=false:=by
      rw[Bool.eq_false_iff];intro h;simp only[Aa,Bool.or_eq_true,beq_iff_eq,Al] at h;have:=h12 h.1;omega
     have:=ih D (deep+1) Q (p::Y) (Z'++post) (by omega) (by omega) hE (by simp;omega);rw[←Sw] at this;simp only[Ck.l7,zh (show i<n.2.2.2.2.1 by omega),yX,zk (show ¬(Q.length:Int)≥(L.length:Int) by omega),yZ,hp,yY,Au,cst,e1,e2,Bt];rw[zg (show -9223372036854775808≤(deep:Int)+1 by omega) (by omega),show((deep:Int)+1)=((deep+1:Nat):Int) by omega,this];simp only[yY];rw[zk (by omega),yZ,zg (by omega) (by omega)];have hr:=oq p.2.1 f (i+1) (Q++(p::Y)) Z' hZP (by rw[hQ,hZ];simp) (by omega) (by omega) (by omega) hi2;rw[zX] at hr;exact hr
   have hr:=loop _ 0 k 0 (pre++[n]) X hP (by simp) (by omega) (by omega) (by omega) (by omega);simp only[zX,Ap] at hr;rw[hr];simp
theorem amg(hk:2000≤k)(n:zf)(X:List zf)(h:Enc 12 (n::X))(hlen:(n::X).length≤1500)(h12:n.1=12)(h0:n.2.1=0):K4 k (n::X)=some true:=by
 unfold K4;have c1:(decide ((1:Int)≤((n::X).length:Int))&&decide (((n::X).length:Int)≤1500))=true:=by simp;simp at hlen;omega
 have hc:=Vq k hk 12 k 1 [] (n::X) [] (by omega) (by omega) h (by simpa using hlen);simp only[List.nil_append,AO,List.length_nil,Nat.zero_add] at hc;have hc:Ck k (n::X) 0 1=some (((n::X).length:Nat):Int):=hc;have hr:gU (n::X) 0=some n:=rfl;simp only[Bh,c1,yY,zq,yZ,hr,zK h12,zK h0,hc,Ac rfl]
end Go.Af
end
section
namespace Go.Af
open Go.Am Go.Fn
inductive zZ(α:Type) where
 |bad (code:Int)
 |ok (p:Nat) (x:α)
def Ce(x:Int):Int:=if x%2=0 then(x%18446744073709551616)/2 else-((x%18446744073709551616)/2)-1
def int32(x:Int):Bool:=decide (-2147483648≤x)&&decide (x≤2147483647)
def JL(b:List Int)(p:Nat):zZ (Int×Int):=
 match b[p]? with
 |none=> .bad 1
 |some h=>
  match(if h/16=15 then(gv (b.drop (p+1))).map fun x=>(x.1,p+1+x.2) else some (h/16,p+1)) with
  |none=> .bad 1
  |some (many,q)=>
   if many=0 then .ok q (0,0)
   else if EJ (h%16)=false then .bad 2
   else if many<0∨1500<many then .bad 4
   else .ok q (many,h%16)
def JK(b:List Int)(p:Nat)(last:Int):zZ (Int×Int):=
 match b[p]? with
 |none=> .bad 1
 |some h=>
  if h=0 then .ok (p+1) (0,0)
  else if isKind (h%16)=false then .bad 2
  else match(if h/16=0 then(gv (b.drop (p+1))).map fun x=>(Ce x.1,p+1+x.2) else some (last+h/16,p+1)) with
  |none=> .bad 1
  |some (id,q)=>
   if id<1∨1000<id then .bad 3
   else if id≤last then .bad 5
   else .ok q (h%16,id)
def HZ(b:List Int)(p:Nat):zZ ByteArray:=
 match gv (b.drop p) with
 |none=> .bad 1
 |some (u,n)=>
  if u<0∨300<u then .bad 4
  else if(b.length:Int)-(p+n:Nat)<u then .bad 1
  else .ok (p+n+u.toNat) (wY ((b.drop (p+n)).take u.toNat))
def CP(S:Nat→Nat→zZ (List zf)):Nat→Nat→Nat→zZ (List zf)
 |0,p,_=> .ok p []
 |m+1,p,c=>match S p c with
  | .bad e=> .bad e
  | .ok q Y=>match CP S m q (c+Y.length) with
    | .bad e=> .bad e
    | .ok r Z=> .ok r (Y++Z)
def EC(S:Int→Int→Nat→Nat→zZ (List zf))(b:List Int):Nat→Int→Nat→Nat→zZ (Nat×List zf)
 |0,_,_,_=> .bad 1
 |f+1,last,p,c=>match JK b p last with
  | .bad e=> .bad e
  | .ok q (t,id)=>
    if t=0 then .ok q (0,[])
    else match S t id q c with
    | .bad e=> .bad e
    | .ok r Y=>match EC S b f id r (c+Y.length) with
      | .bad e=> .bad e
      | .ok z (m,Z)=> .ok z (m+1,Y++Z)
def Dg:Nat→List Int→Int→Int→Nat→Nat→zZ (List zf)
 |0,_,_,_,_,_=> .bad 4
 |d+1,b,kind,id,p,c=>
  if c=1500 then .bad 4
  else if kind=5∨kind=6 then
   match gv (b.drop p) with
   |none=> .bad 1
   |some (u,n)=>if kind=5∧int32 (Ce u)=false then .bad 3 else .ok (p+n) [(kind,id,Ce u,⟨#[]⟩,0,())]
  else if kind=8 then
   match HZ b p with
   | .bad e=> .bad e
   | .ok q s=> .ok q [(8,id,0,s,0,())]
  else if kind=9 then
   match JL b p with
   | .bad e=> .bad e
   | .ok q (many,item)=>match CP (fun p c=>Dg d b item 0 p c) many.toNat q (c+1) with
     | .bad e=> .bad e
     | .ok r Y=> .ok r ((9,id,item,⟨#[]⟩,many,())::Y)
  else if kind=12 then
   match EC (fun t id p c=>Dg d b t id p c) b 1002 0 p (c+1) with
   | .bad e=> .bad e
   | .ok r (m,Y)=> .ok r ((12,id,0,⟨#[]⟩,(m:Int),())::Y)
  else .ok p [(kind,id,0,⟨#[]⟩,0,())]
theorem Rb{u:Int}(h:Ae u):zig (Ce u)=u:=by
 obtain⟨h0,h1⟩:=h;unfold zig Ce;simp only[IntKind.wrap_i64];split<;>split<;>omega
theorem PU(u:Int):Ae (Ce u):=by
 unfold Ce Ae;split<;>omega
theorem JU(k:Nat){u:Int}(h:Ae u):GJ k u=some (Ce u):=by
 have h2:=PU u;have:=am4 k (Ce u) h2.1 h2.2
 rwa [Rb h] at this
theorem Kc{t:Int}(h:EJ t=true):isKind t=true:=by unfold isKind;rw[h];simp
theorem Nj{t:Int}(h:isKind t=true):t=1∨t=2∨t=5∨t=6∨t=8∨t=9∨t=12:=by
 unfold isKind EJ at h;simp only[Bool.or_eq_true,beq_iff_eq] at h;omega
theorem Nt{b:List Int}{p:Nat}{last:Int}{q:Nat}{t id:Int}(h:JK b p last= .ok q (t,id)):p<q∧(t=0∨(isKind t=true∧t≠0∧last+1≤id∧1≤id∧id≤1000)):=by
 unfold JK at h;split at h
 ·cases h
 ·rename_i y hy
  split at h
  ·simp only[zZ.ok.injEq,Prod.mk.injEq] at h
   exact⟨by omega,.inl h.2.1.symm⟩
  ·split at h
   ·cases h
   ·rename_i hk
    split at h
    ·cases h
    ·rename_i id' q' hm
     split at h
     ·cases h
     ·split at h
      ·cases h
      ·simp only[zZ.ok.injEq,Prod.mk.injEq] at h
       obtain⟨rfl,rfl,rfl⟩:=h;have hk:isKind (y%16)=true:=by simpa using hk
       refine⟨?_,.inr ⟨hk,?_,by omega,by omega,by omega⟩⟩
       ·split at hm
        ·cases hg:gv (b.drop (p+1)) with
         |none=>rw[hg] at hm;cases hm
         |some x=>
          rw[hg] at hm;simp only[Option.map_some,Ao,Prod.mk.injEq] at hm;omega
        ·simp only[Ao,Prod.mk.injEq] at hm
         omega
       ·rcases Nj hk with e|e|e|e|e|e|e<;>omega
theorem Nu{b:List Int}{p q:Nat}{many item:Int}(h:JL b p= .ok q (many,item)):p<q∧((many=0∧item=0)∨(1≤many∧many≤1500∧EJ item=true)):=by
 unfold JL at h;split at h
 ·cases h
 ·rename_i y hy
  split at h
  ·cases h
  ·rename_i m q' hm
   have hq:p<q':=by
    split at hm
    ·cases hg:gv (b.drop (p+1)) with
     |none=>rw[hg] at hm;cases hm
     |some x=>
      rw[hg] at hm;simp only[Option.map_some,Ao,Prod.mk.injEq] at hm;omega
    ·simp only[Ao,Prod.mk.injEq] at hm
     omega
   split at h
   ·simp only[zZ.ok.injEq,Prod.mk.injEq] at h
    exact⟨by omega,.inl ⟨h.2.1.symm,h.2.2.symm⟩⟩
   ·split at h
    ·cases h
    ·rename_i hi
     split at h
     ·cases h
     ·simp only[zZ.ok.injEq,Prod.mk.injEq] at h
      obtain⟨rfl,rfl,rfl⟩:=h;exact⟨hq,.inr ⟨by omega,by omega,by simpa using hi⟩⟩
theorem QI{b:List Int}{p q:Nat}{s:ByteArray}(h:HZ b p= .ok q s):p≤q∧s.size≤300:=by
 unfold HZ at h;split at h
 ·cases h
 ·split at h
  ·cases h
  ·split at h
   ·cases h
   ·simp only[zZ.ok.injEq] at h
    obtain⟨rfl,rfl⟩:=h;refine⟨by omega,?_⟩;rw[Kb,List.length_take];omega
def PV(d:Nat)(kind id:Int)(c:Nat)(Y:List zf):Prop:=∃n X,Y=n::X∧n.1=kind∧n.2.1=id∧Enc d Y∧c+Y.length≤1500
theorem ak6{d:Nat}{item:Int}{S:Nat→Nat→zZ (List zf)}(ih:∀p c q Y,c≤1500→S p c= .ok q Y→p≤q∧PV d item 0 c Y)(n:zf)(hn:n.1=9)(hi:n.2.2.1=item):∀(m p c:Nat) (last:Int) (q:Nat) (Y:List zf),c≤1500→CP S m p c= .ok q Y→p≤q∧KA (Enc d) n m last Y∧c+Y.length≤1500:=by
 intro m
 induction m with
 |zero=>
  intro p c last q Y hc h;simp only[CP,zZ.ok.injEq] at h;obtain⟨rfl,rfl⟩:=h;exact⟨Nat.le_refl _,rfl,by simpa using hc⟩
 |succ m FZ=>
  intro p c last q Y hc h;simp only[CP] at h;split at h
  ·cases h
  ·rename_i q1 Y1 h1
   split at h
   ·cases h
   ·rename_i q2 Z h2
    simp only[zZ.ok.injEq] at h;obtain⟨rfl,rfl⟩:=h;obtain⟨hp,x,X,rfl,x1,x2,x3,x4⟩:=ih _ _ _ _ hc h1;obtain⟨g0,g1,g2⟩:=FZ _ _ x.2.1 _ _ (by omega) h2;exact⟨by omega,⟨x,X,Z,rfl,fun _=>⟨by rw[x1,hi],x2⟩,fun h12=>by omega,x3,g1⟩,by simp at g2⊢;omega⟩
theorem akY{d:Nat}{S:Int→Int→Nat→Nat→zZ (List zf)}{b:List Int}(ih:∀t id p c q Y,isKind t=true→c≤1500→S t id p c= .ok q Y→p≤q∧PV d t id c Y)(n:zf)(hn:n.1=12):∀(f:Nat) (last:Int) (p c q m:Nat) (Y:List zf),c≤1500→EC S b f last p c= .ok q (m,Y)→p<q∧KA (Enc d) n m last Y∧c+Y.length≤1500:=by
 intro f
 induction f with
 |zero=>intro last p c q m Y hc h;cases h
 |succ f GH=>
  intro last p c q m Y hc h;simp only[EC] at h;split at h
  ·cases h
  ·rename_i q1 t id h1
   obtain⟨a1,a2⟩:=Nt h1;split at h
   ·simp only[zZ.ok.injEq,Prod.mk.injEq] at h
    obtain⟨rfl,rfl,rfl⟩:=h;exact⟨a1,rfl,by simpa using hc⟩
   ·rename_i ht
    rcases a2 with a2|⟨a2,_,a3,a4,a5⟩
    ·exact(ht a2).elim
    ·split at h
     ·cases h
     ·rename_i q2 Y1 h2
      split at h
      ·cases h
      ·rename_i q3 m' Z h3
       simp only[zZ.ok.injEq,Prod.mk.injEq] at h;obtain⟨rfl,rfl,rfl⟩:=h;obtain⟨hp,x,X,rfl,x1,x2,x3,x4⟩:=ih _ _ _ _ _ _ a2 hc h2;obtain⟨g0,g1,g2⟩:=GH _ _ _ _ _ _ (by omega) h3;rw[←x2] at g1;exact⟨by omega,⟨x,X,Z,rfl,fun h9=>by omega,fun _=>⟨by omega,by omega⟩,x3,g1⟩,by simp at g2⊢;omega⟩
theorem Mi:∀(d:Nat) (b:List Int) (kind id:Int) (p c q:Nat) (Y:List zf),isKind kind=true→c≤1500→Dg d b kind id p c= .ok q Y→p≤q∧PV d kind id c Y:=by
 intro d
 induction d with
 |zero=>intro b kind id p c q Y hk hc h;cases h
 |succ d ih=>
  intro b kind id p c q Y hk hc h;have one:∀n:zf,Dw n=true→n.2.2.2.2.1=0→Enc (d+1) [n]:=fun n hn h0=>⟨hn,by rw[h0];rfl⟩;have ez:iY zn ⟨#[]⟩=true:=by rw[Dv];simp
  simp only[Dg] at h;split at h
  ·cases h
  ·rename_i J8
   split at h
   ·rename_i GG
    split at h
    ·cases h
    ·rename_i u n hg
     split at h
     ·cases h
     ·rename_i h32
      simp only[zZ.ok.injEq] at h;obtain⟨rfl,rfl⟩:=h;refine⟨by omega,_,[],rfl,rfl,rfl,one _ ?_ rfl,by simp;omega⟩;unfold Dw;by_cases h5:kind=5
      ·have:int32 (Ce u)=true:=by
        cases hh:int32 (Ce u) with
        |true=>rfl
        |false=>exact(h32 ⟨h5,hh⟩).elim
       unfold int32 at this;simp only[h5,if_true,this,ez,Bj];rfl
      ·have h6:kind=6:=by omega
       simp[h6,ez]
   ·rename_i GG
    split at h
    ·rename_i h8
     split at h
     ·cases h
     ·rename_i q' s hs
      simp only[zZ.ok.injEq] at h;obtain⟨rfl,rfl⟩:=h;obtain⟨s1,s2⟩:=QI hs;refine⟨s1,_,[],rfl,h8.symm,rfl,one _ ?_ rfl,by simp;omega⟩;unfold Dw;simp;omega
    ·rename_i h8
     split at h
     ·rename_i h9
      split at h
      ·cases h
      ·rename_i q1 many item hm
       obtain⟨m0,m1⟩:=Nu hm;split at h
       ·cases h
       ·rename_i q2 Y' hp
        simp only[zZ.ok.injEq] at h;obtain⟨rfl,rfl⟩:=h;rcases m1 with⟨rfl,rfl⟩|⟨m1,m2,m3⟩
        ·simp only[Int.toNat_zero,CP,zZ.ok.injEq] at hp
         obtain⟨rfl,rfl⟩:=hp;refine⟨by omega,_,[],rfl,h9.symm,rfl,one _ ?_ rfl,by simp;omega⟩;unfold Dw;simp[ez]
        ·obtain⟨g0,g1,g2⟩:=ak6 (d:=d) (item:=item) (fun p c q Y hc h=>ih b item 0 p c q Y (Kc m3) hc h) (9,id,item,⟨#[]⟩,many,()) rfl rfl _ _ _ 0 _ _ (by omega) hp
         refine⟨by omega,_,Y',rfl,h9.symm,rfl,⟨?_,g1⟩,by simp;omega⟩;unfold Dw;simp[ez,m3];omega
     ·rename_i h9
      split at h
      ·rename_i h12
       split at h
       ·cases h
       ·rename_i q1 m Y' hf
        simp only[zZ.ok.injEq] at h;obtain⟨rfl,rfl⟩:=h;obtain⟨g0,g1,g2⟩:=akY (d:=d) (fun t id p c q Y hk hc h=>ih b t id p c q Y hk hc h) (12,id,0,⟨#[]⟩,(m:Int),()) rfl _ _ _ _ _ _ _ (by omega) hf;refine⟨by omega,_,Y',rfl,h12.symm,rfl,⟨?_,?_⟩,by simp;omega⟩
        ·unfold Dw
         simp[ez]
        ·show KA (Enc d) _ ((m:Int)).toNat 0 Y'
         rw[Int.toNat_natCast];exact g1
      ·rename_i h12
       simp only[zZ.ok.injEq] at h;obtain⟨rfl,rfl⟩:=h;refine⟨Nat.le_refl _,_,[],rfl,rfl,rfl,one _ ?_ rfl,by simp;omega⟩;have:kind=1∨kind=2:=by
        rcases Nj hk with e|e|e|e|e|e|e<;>omega
       unfold Dw;rcases this with rfl|rfl<;>simp[ez]
end Go.Af
end
section
namespace Go.Af
open Go.Am Go.Fn
variable(k:Nat)(hk:2000≤k)
theorem Vb{o:zB}{n:zf}{deep:Nat}{acc:List zf}(ho:o.2.2.2.1=0)(hd:deep≤12)(ha:acc.length<1500):
 Ho k n (deep:Int) o acc=some ((acc.length:Int),(o,acc++[n])):=by
 unfold Ho Ho.c3;have c1:decide ((deep:Int)>12)=false:=zk (by omega);have c2:((acc.length:Int)==1500)=false:=zw (by omega);have c3:lim (acc.length+[n].length)=true:=Ak (by simp;omega);have e:IntKind.wrap .i64 (((acc++[n]).length:Int)-1)=(acc.length:Int):=by
  rw[zX,Ap,zg (by omega) (by omega)];omega
 simp only[c1,c2,yZ,yY,ho,zK rfl,c3,yX,e]
end Go.Af
end
section
namespace Go.Af
open Go.Am Go.Fn
abbrev AU(b:List Int)(p:Nat)(e:Int):zB:=(b,(p:Int),(),e,())
variable(k:Nat)
theorem Ij(b:List Int)(p:Nat)(e:Int)(acc:List zf):FC k e (AU b p 0) acc=some ((),(AU b p e,acc)):=by
 unfold FC;rw[Ac rfl,yX]
theorem OA(b:List Int)(p:Nat){e:Int}(he:e≠0)(x:Int)(acc:List zf):FC k x (AU b p e) acc=some ((),(AU b p e,acc)):=by
 unfold FC;rw[zw he,yZ]
theorem LG(hk:2000≤k){b:List Int}(hl:b.length<4611686018427387904)(hb:BR b)(p:Nat)(hp:p≤b.length):D9 k b (p:Int)=match gv (b.drop p) with
 |none=>some (0,0,false)
 |some (u,n)=>some (u,((p+n:Nat):Int),true):=by
 unfold D9;rw[zk (by omega),yZ];have h:=ajG k b p hl hb (by omega) 10 k 0 0 rfl (by omega) (by simp);rw[show((0:Nat):Int)=0 from rfl] at h;rw[h];unfold gv;rw[Nat.add_zero];cases Eh 10 (b.drop p) with
 |none=>rfl
 |some x=>
  simp only[Option.map_some,Nat.mul_zero,Nat.pow_zero,Nat.mul_one,Nat.zero_add]
theorem PI(hk:2000≤k){b:List Int}(hl:b.length<4611686018427387904)(hb:BR b)(p:Nat)(hp:p≤b.length)(acc:List zf):JB k (AU b p 0) acc=match gv (b.drop p) with
 |none=>some (0,(AU b p 1,acc))
 |some (u,n)=>some (u,(AU b (p+n) 0,acc)):=by
 unfold JB;rw[show(AU b p 0).1=b from rfl,show(AU b p 0).2.1=(p:Int) from rfl,LG k hk hl hb p hp];cases gv (b.drop p) with
 |none=>simp only[yY,zK rfl,cst,zD,Bool.or_true,yX,Ij]
 |some x=>simp only[yY,zK rfl,cst,zq,Bt,yZ]
theorem amt(hk:2000≤k){b:List Int}(hl:b.length<4611686018427387904)(hb:BR b)(p:Nat)(hp:p≤b.length){e:Int}(he:e≠0)(acc:List zf):JB k (AU b p e) acc=some (0,(AU b p e,acc)):=by
 unfold JB;rw[show(AU b p e).1=b from rfl,show(AU b p e).2.1=(p:Int) from rfl,LG k hk hl hb p hp];cases gv (b.drop p) with
 |none=>simp only[yY,zO he,cst,Ag,yX,OA k b p he]
 |some x=>simp only[yY,zO he,cst,Ag,yX,OA k b p he]
theorem TK{b:List Int}(hl:b.length<4611686018427387904)(hb:BR b)(p:Nat)(hp:p≤b.length)(acc:List zf):KT k (AU b p 0) acc=match b[p]? with
 |none=>some (0,(AU b p 1,acc))
 |some h=>some (h,(AU b (p+1) 0,acc)):=by
 unfold KT;by_cases hlt:p<b.length
 ·obtain⟨c,hc,hc2⟩:=Lg hlt
  obtain⟨c0,c1⟩:=hb c (List.mem_of_getElem? hc2);rw[hc2];have e:IntKind.wrap .i64 ((p:Int)+1)=((p+1:Nat):Int):=by rw[zg (by omega) (by omega)];omega
  have e2:IntKind.wrap .i64 (((p+1:Nat):Int)-1)=(p:Int):=by rw[zg (by omega) (by omega)];omega
  have cc:decide ((p:Int)≥(b.length:Int))=false:=zk (by omega);have ec:IntKind.wrap .i64 c=c:=zg (by omega) (by omega);simp only[zK rfl,cst,yY,cc,Bt,yZ,e,e2,zQ,hc2,ec]
 ·rw[List.getElem?_eq_none (by omega)]
  have c:decide ((p:Int)≥(b.length:Int))=true:=zh (by omega);simp only[zK rfl,cst,yY,c,Bool.or_true,yX,Ij]
theorem akA{b:List Int}(p:Nat){e:Int}(he:e≠0)(acc:List zf):KT k (AU b p e) acc=some (0,(AU b p e,acc)):=by
 unfold KT;simp only[zO he,cst,yY,Ag,yX,OA k b p he]
theorem ame(hk:2000≤k){b:List Int}(hl:b.length<4611686018427387904)(hb:BR b)(p:Nat)(hp:p≤b.length)(acc:List zf):
 match HZ b p with
 | .bad e=>e≠0∧∃q,q≤b.length∧Eo k (AU b p 0) acc=some (⟨#[]⟩,(AU b q e,acc))
 | .ok q s=>Eo k (AU b p 0) acc=some (s,(AU b q 0,acc)):=by
 unfold Eo HZ;rw[PI k hk hl hb p hp];cases hg:gv (b.drop p) with
 |none=>
  refine⟨by decide,p,hp,?_⟩;simp only[yY,zw (show ¬(1:Int)=0 by decide),yZ,Eo.c4,Eo.c6,zO (show ¬(1:Int)=0 by decide),yX]
 |some z=>
  obtain⟨u,n⟩:=z;obtain⟨⟨f0,f1⟩,f2,f3,f4,f5⟩:=E8 _ u n (fun x hx=>hb x (List.mem_of_mem_drop hx)) hg;rw[List.length_drop] at f3;simp only[yY,Ac rfl,yX,Bp];by_cases hu:u<0∨300<u
  ·rw[if_pos hu]
   have c1:(decide ((0:Int)≤u)&&decide (u≤300))=false:=by
    rw[Bool.eq_false_iff];intro q;simp only[Aa,Al] at q;omega
   refine⟨by decide,p+n,by omega,?_⟩;simp only[c1,zD,yX,Ij,yY,Eo.c4,Eo.c6,zw (show ¬(4:Int)=0 by decide),yZ,zO (show ¬(4:Int)=0 by decide)]
  ·rw[if_neg hu]
   have c1:(decide ((0:Int)≤u)&&decide (u≤300))=true:=by simp;omega
   have e1:IntKind.wrap .i64 ((b.length:Int)-((p+n:Nat):Int))=(b.length:Int)-((p+n:Nat):Int):=zg (by omega) (by omega);simp only[c1,zq,yZ,Eo.c4,Ac rfl,yX,yY,e1];by_cases hs:(b.length:Int)-((p+n:Nat):Int)<u
   ·rw[if_pos hs]
    refine⟨by decide,p+n,by omega,?_⟩;simp only[zh (show u>(b.length:Int)-((p+n:Nat):Int) from hs),yX,Ij,yY,Eo.c6,zO (show ¬(1:Int)=0 by decide)]
   ·rw[if_neg hs]
    obtain⟨U,rfl⟩:=Int.eq_ofNat_of_zero_le (show 0≤u by omega);have e2:IntKind.wrap .i64 (((p+n:Nat):Int)+(U:Int))=((p+n+U:Nat):Int):=by rw[zg (by omega) (by omega)];omega
    have e3:IntKind.wrap .i64 (((p+n+U:Nat):Int)-(U:Int))=((p+n:Nat):Int):=by rw[zg (by omega) (by omega)];omega
    have c3:jg ((p+n:Nat):Int) ((p+n+U:Nat):Int) b.length=true:=EI (by omega) (by omega) (by omega);have hcut:kV b ((p+n:Nat):Int) ((p+n+U:Nat):Int)=(b.drop (p+n)).take U:=by
     unfold kV;rw[Int.toNat_natCast,Int.toNat_natCast,List.drop_take,show p+n+U-(p+n)=U by omega]
    simp only[zk (show ¬((U:Int)>(b.length:Int)-((p+n:Nat):Int)) from hs),yZ,Eo.c6,zK rfl,e2,e3,c3,yX,hcut,Int.toNat_natCast]
def KC(S:Int→Int→Int→zB→List zf→Option (Unit×zB×List zf))(b:List Int)(kind id deep:Int)(p:Nat)(acc:List zf)(r:zZ (List zf)):Prop:=
 match r with
 | .bad e=>e≠0∧∃q l,q≤b.length∧S kind id deep (AU b p 0) acc=some ((),(AU b q e,l))
 | .ok q Y=>q≤b.length∧S kind id deep (AU b p 0) acc=some ((),(AU b q 0,acc++Y))
theorem ajM(S:Int→Int→Int→zB→List zf→Option (Unit×zB×List zf))(b:List Int)(item:Int)(deep:Nat)(LD:deep≤100)(P:Nat→Nat→zZ (List zf))
 (ih:∀(p:Nat) (acc:List zf),p≤b.length→acc.length≤1500→KC S b item 0 ((deep+1:Nat):Int) p acc (P p acc.length))
 (hP:∀p c q Y,c≤1500→P p c= .ok q Y→c+Y.length≤1500) (many:Int) (hm:many≤1500):
 ∀(m f:Nat) (i:Int) (p:Nat) (acc:List zf),many-i=m→0≤i→m<f→p≤b.length→acc.length≤1500→
 match CP P m p acc.length with
 | .bad e=>e≠0∧∃q l,q≤b.length∧Be.AL k S f (deep:Int) many item i (AU b p 0) acc=some ((),(AU b q e,l))
 | .ok q Y=>q≤b.length∧Be.AL k S f (deep:Int) many item i (AU b p 0) acc=some ((),(AU b q 0,acc++Y)):=by
 have hdw:IntKind.wrap .i64 ((deep:Int)+1)=((deep+1:Nat):Int):=by rw[zg (by omega) (by omega)];omega
 intro m
 induction m with
 |zero=>
  intro f i p acc hi h0 hf hp hc;obtain⟨f,rfl⟩:∃j,f=j+1:=⟨f-1,by omega⟩;simp only[CP,Be.AL,zk (show ¬i<many by omega),yZ,yY,AO];exact⟨hp,trivial⟩
 |succ m FZ=>
  intro f i p acc hi h0 hf hp hc;obtain⟨f,rfl⟩:∃j,f=j+1:=⟨f-1,by omega⟩;have hi1:IntKind.wrap .i64 (i+1)=i+1:=zg (by omega) (by omega);have h1:=ih p acc hp hc;simp only[CP,Be.AL,zh (show i<many by omega),yX,yY,Ac rfl,hdw,hi1];unfold KC at h1;cases hr:P p acc.length with
  |bad e=>
   rw[hr] at h1;obtain⟨he,q,l,hq,e1⟩:=h1;refine⟨he,q,l,hq,?_⟩;obtain⟨f,rfl⟩:∃j,f=j+1:=⟨f-1,by omega⟩;simp only[e1,yY,Be.AL,zw he];cases decide (i+1<many)<;>rfl
  |ok q Y=>
   rw[hr] at h1;obtain⟨hq,e1⟩:=h1;have hlen:=hP _ _ _ _ hc hr;have h2:=FZ f (i+1) q (acc++Y) (by omega) (by omega) (by omega) hq (by rw[zX];exact hlen);rw[zX] at h2;simp only[e1,yY];cases hr2:CP P m q (acc.length+Y.length) with
   |bad e=>rw[hr2] at h2;exact h2
   |ok q2 Z=>rw[hr2] at h2;simpa[Bu] using h2
def PW(b:List Int)(pre:List zf)(CV:Int)(j:Nat)(mid:List zf)(r:zZ (Nat×List zf))(X:Option (Unit×zB×List zf)):Prop:=
 match r with
 | .bad e=>e≠0∧∃q l,q≤b.length∧X=some ((),(AU b q e,l))
 | .ok q (m,Y)=>q≤b.length∧X=some ((),(AU b q 0,pre++sn CV ((j+m:Nat):Int)::(mid++Y)))
theorem ajE(hk:2000≤k)(S:Int→Int→Int→zB→List zf→Option (Unit×zB×List zf))(b:List Int)(hl:b.length<4611686018427387904)(hb:BR b)(deep:Nat)(LD:deep≤100)(P:Int→Int→Nat→Nat→zZ (List zf))
 (ih:∀(t id:Int) (p:Nat) (acc:List zf),isKind t=true→p≤b.length→acc.length≤1500→KC S b t id ((deep+1:Nat):Int) p acc (P t id p acc.length))
 (hP:∀t id p c q Y,isKind t=true→c≤1500→P t id p c= .ok q Y→c+Y.length≤1500) (CV:Int) (pre:List zf):
 ∀(g f:Nat) (last:Int) (p:Nat) (j:Nat) (mid:List zf),1002≤(g:Int)+last→0≤last→last≤1000→g<f→p≤b.length→pre.length+1+mid.length≤1500→(j:Int)+g≤4000→
 PW b pre CV j mid (EC P b g last p (pre.length+1+mid.length)) (AQ.l1 k S f (pre.length:Int) (deep:Int) last (AU b p 0) (pre++sn CV j::mid)):=by
 have hdw:IntKind.wrap .i64 ((deep:Int)+1)=((deep+1:Nat):Int):=by rw[zg (by omega) (by omega)];omega
 intro g
 induction g with
 |zero=>intro f last p j mid h1 h2 h3;omega
 |succ g Qu=>
  intro f last p j mid h1 h2 h3 hf hp hc hj;obtain⟨f,rfl⟩:∃j,f=j+1:=⟨f-1,by omega⟩;simp only[EC,JK,AQ.l1,TK k hl hb p hp];cases hy:b[p]? with
  |none=>
   refine⟨by decide,p,pre++sn CV j::mid,hp,?_⟩;simp only[yY,zO (show ¬(1:Int)=0 by decide),cst,Ag,yX]
  |some y=>
   have hp1:p<b.length:=(List.getElem?_eq_some_iff.1 hy).1;obtain⟨y0,y1⟩:=hb y (List.mem_of_getElem? hy);simp only[yY,zK rfl,cst,Aq];by_cases hy0:y=0
   ·rw[if_pos hy0]
    simp only[Ac hy0,yX,if_true];exact⟨by omega,by simp⟩
   ·have hmod:Int.tmod y 16=y%16:=Int.tmod_eq_emod_of_nonneg y0
    have hdiv:IntKind.wrap .i64 (last+IntKind.wrap .i64 (Int.tdiv y 16))=last+y/16:=by
     rw[Int.tdiv_eq_ediv_of_nonneg y0,zg (show -9223372036854775808≤y/16 by omega) (by omega),zg (by omega) (by omega)]
    rw[if_neg hy0];simp only[zw hy0,yZ,hmod,hdiv,Qw,yY];have hty:(EJ (y%16)||((y%16==1||y%16==2)&& !false))=isKind (y%16):=by
     unfold isKind;cases EJ (y%16)<;>cases(y%16==1)<;>cases(y%16==2)<;>rfl
    rw[hty];have QU:∀(q:Nat) (e:Int),e≠0→∀x y z:Int,AQ.c8 k S (AQ.l1 k S f) (pre.length:Int) (deep:Int) x y z (AU b q e) (pre++sn CV j::mid)=some ((),(AU b q e,pre++sn CV j::mid)):=by
     intro q e he x y z;simp only[AQ.c8,AQ.c10,AQ.c12,zw he,yZ,yY,zO he,yX]
    by_cases hkd:isKind (y%16)=true
    ·rw[if_neg (by rw[hkd];decide),hkd]
     simp only[zq,yZ,AQ.c6]
     have tail:∀(id:Int) (q:Nat),Ae id→q≤b.length→
      PW b pre CV j mid (match(if id<1∨1000<id then(.bad 3:zZ (Int×Int)) else if id≤last then .bad 5 else .ok q (y%16,id)) with
       | .bad e=> .bad e
       | .ok q (t,id)=>if t=0 then .ok q (0,[]) else match P t id q (pre.length+1+mid.length) with
         | .bad e=> .bad e
         | .ok r Y=>match EC P b g id r (pre.length+1+mid.length+Y.length) with
           | .bad e=> .bad e
           | .ok z (m,Z)=> .ok z (m+1,Y++Z))
       (AQ.c8 k S (AQ.l1 k S f) (pre.length:Int) (deep:Int) last (y%16) id (AU b q 0) (pre++sn CV j::mid)):=by
      have ht0:¬y%16=0:=by rcases Nj hkd with e|e|e|e|e|e|e<;>omega
      intro id q hid hq;have hget:∀x:zf,gU (pre++x::mid) (pre.length:Int)=some x:=fun x=>by
       rw[zQ,List.getElem?_append_right (Nat.le_refl _)];simp
      have hset:∀x y:zf,List.set (pre++x::mid) (Int.toNat (pre.length:Int)) y=pre++y::mid:=fun x y=>by
       rw[Int.toNat_natCast,List.set_append_right _ _ (Nat.le_refl _)];simp
      by_cases c1:id<1∨1000<id
      ·rw[if_pos c1]
       have hw:(decide ((1:Int)≤id)&&decide (id≤1000))=false:=by
        rw[Bool.eq_false_iff];intro q;simp only[Aa,Al] at q;omega
       refine⟨by decide,q,pre++sn CV j::mid,hq,?_⟩;simp only[AQ.c8,Ac rfl,yX,Bp,hw,yY,zD,Ij,AQ.c10,AQ.c12,zw (show ¬(3:Int)=0 by decide),yZ,zO (show ¬(3:Int)=0 by decide)]
      ·rw[if_neg c1]
       have hw:(decide ((1:Int)≤id)&&decide (id≤1000))=true:=by simp;omega
       simp only[AQ.c8,Ac rfl,yX,Bp,hw,yY,zq,yZ,AQ.c10];by_cases c2:id≤last
       ·rw[if_pos c2]
        refine⟨by decide,q,pre++sn CV j::mid,hq,?_⟩;simp only[zh c2,yX,Ij,yY,AQ.c12,zO (show ¬(5:Int)=0 by decide)]
       ·rw[if_neg c2]
        have Qp:IntKind.wrap .i64 ((j:Int)+1)=((j+1:Nat):Int):=by rw[zg (by omega) (by omega)];omega
        have hsn:((sn CV j).1,(sn CV j).2.1,(sn CV j).2.2.1,(sn CV j).2.2.2.1,IntKind.wrap .i64 ((sn CV j).2.2.2.2.1+1),())=sn CV ((j+1:Nat):Int):=by
         show(_,_,_,_,IntKind.wrap .i64 ((j:Int)+1),())=_;rw[Qp];rfl
        simp only[zk c2,yZ,AQ.c12,zK rfl,hget,hset,yY,hdw,hsn,if_neg ht0];have hn:=ih (y%16) id q (pre++sn CV ((j+1:Nat):Int)::mid) hkd hq (by simp;omega);rw[show(pre++sn CV ((j+1:Nat):Int)::mid).length=pre.length+1+mid.length by simp;omega] at hn;unfold KC at hn;cases hr:P (y%16) id q (pre.length+1+mid.length) with
        |bad e=>
         rw[hr] at hn;obtain⟨he,q',l,hq',e1⟩:=hn;refine⟨he,q',l,hq',?_⟩;obtain⟨f,rfl⟩:∃j,f=j+1:=⟨f-1,by omega⟩;simp only[e1,yY,AQ.l1,akA k q' he,zO he,cst,Ag,yX]
        |ok r Y=>
         rw[hr] at hn;obtain⟨hr1,e1⟩:=hn;have hlen:=hP _ _ _ _ _ _ hkd (by omega) hr;have h4:=Qu f id r (j+1) (mid++Y) (by omega) (by omega) (by omega) (by omega) hr1 (by rw[zX];omega) (by omega);rw[zX,←Nat.add_assoc] at h4;simp only[e1,yY,Bu,List.cons_append];cases hr2:EC P b g id r (pre.length+1+mid.length+Y.length) with
         |bad e=>rw[hr2] at h4;exact h4
         |ok z x=>
          obtain⟨m,Z⟩:=x;rw[hr2] at h4;obtain⟨h5,h6⟩:=h4;refine⟨h5,?_⟩;rw[h6,show j+1+m=j+(m+1) by omega,Bu]
     by_cases h16:y/16=0
     ·simp only[if_pos h16,zh (show y<16 by omega),yX,PI k hk hl hb (p+1) (by omega)]
      cases hg:gv (b.drop (p+1)) with
      |none=>
       simp only[Option.map_none,yY];obtain⟨w,hw⟩:∃w,GJ k 0=some w:=⟨_,JU k ⟨by decide,by decide⟩⟩;refine⟨by decide,p+1,pre++sn CV j::mid,by omega,?_⟩;rw[hw,yY,QU (p+1) 1 (by decide)]
      |some z=>
       obtain⟨u,n⟩:=z;obtain⟨f1,f2,f3,f4,f5⟩:=E8 _ u n (fun x hx=>hb x (List.mem_of_mem_drop hx)) hg;rw[List.length_drop] at f3;simp only[Option.map_some,yY,JU k f1];exact tail (Ce u) (p+1+n) (PU u) (by omega)
     ·simp only[if_neg h16,zk (show ¬y<16 by omega),yZ]
      exact tail (last+y/16) (p+1) ⟨by omega,by omega⟩ (by omega)
    ·have SK:isKind (y%16)=false:=by simpa using hkd
     rw[if_pos SK,SK];simp only[zD,yX,Ij,yY,AQ.c6];refine⟨by decide,p+1,pre++sn CV j::mid,by omega,?_⟩;by_cases h16:y<16
     ·obtain⟨w,hw⟩:∃w,GJ k 0=some w:=⟨_,JU k ⟨by decide,by decide⟩⟩
      simp only[zh h16,yX,amt k hk hl hb (p+1) (by omega) (show(2:Int)≠0 by decide),yY,hw,QU (p+1) 2 (by decide)]
     ·simp only[zk h16,yZ,QU (p+1) 2 (by decide)]
theorem PY{n:zf}{b:List Int}{p:Nat}{deep:Nat}{acc:List zf}(hd:deep≤100)(ha:acc.length≤1500):
 Ho k n (deep:Int) (AU b p 0) acc=if 12<deep∨acc.length=1500 then some (0,(AU b p 4,acc)) else some ((acc.length:Int),(AU b p 0,acc++[n])):=by
 by_cases h:12<deep∨acc.length=1500
 ·rw[if_pos h]
  unfold Ho Ho.c3;have:(decide ((deep:Int)>12)||((acc.length:Int)==1500))=true:=by
   rcases h with h|h
   ·rw[zh (show(deep:Int)>12 by omega),Ag]
   ·rw[Ac (show(acc.length:Int)=1500 by omega),Bool.or_true]
  simp only[cst,this,yY,yX,Ij,zO (show ¬(4:Int)=0 by decide)]
 ·rw[if_neg h]
  exact Vb k rfl (by omega) (by omega)
theorem ajQ(hk:2000≤k)(b:List Int)(hl:b.length<4611686018427387904)(hb:BR b):∀(d D deep:Nat) (kind id:Int) (p:Nat) (acc:List zf),d+deep=13→2*d<D→isKind kind=true→p≤b.length→acc.length≤1500→
 KC (Aj.rec k D).1 b kind id (deep:Int) p acc (Dg d b kind id p acc.length):=by
 intro d
 induction d with
 |zero=>
  intro D deep kind id p acc hdd hD hkd hp hc;obtain⟨D,rfl⟩:∃m,D=m+1:=⟨D-1,by omega⟩;refine⟨by decide,p,acc,hp,?_⟩;simp only[Aj.rec,Aj.b];rw[PY k (by omega) hc,if_pos (by omega)];simp only[yY,zO (show ¬(4:Int)=0 by decide),yX]
 |succ d ih=>
  intro D deep kind id p acc hdd hD hkd hp hc;obtain⟨D,rfl⟩:∃m,D=m+2:=⟨D-2,by omega⟩;have hset:∀(acc:List zf) (x y:zf),List.set (acc++[x]) (Int.toNat (acc.length:Int)) y=acc++[y]:=fun acc x y=>by
   rw[Int.toNat_natCast,List.set_append_right _ _ (Nat.le_refl _)];simp
  have hget:∀(acc:List zf) (x:zf),gU (acc++[x]) (acc.length:Int)=some x:=fun acc x=>by
   rw[zQ,List.getElem?_append_right (Nat.le_refl _)];simp
  unfold Dg;by_cases J8:acc.length=1500
  ·rw[if_pos J8]
   refine⟨by decide,p,acc,hp,?_⟩;simp only[Aj.rec,Aj.b];rw[PY k (by omega) hc,if_pos (.inr J8)];simp only[yY,zO (show ¬(4:Int)=0 by decide),yX]
  ·rw[if_neg J8]
   unfold KC;simp only[Aj.rec,Aj.b];rw[PY k (by omega) hc,if_neg (show ¬(12<deep∨acc.length=1500) by omega)];simp only[yY,zK rfl,yZ];by_cases GG:kind=5∨kind=6
   ·rw[if_pos GG]
    have e0:(cond (kind==5)
         (Aj.c5 k (Aj.rec k (D+1)).2.1 (Aj.rec k (D+1)).2.2 kind (deep:Int) (acc.length:Int) kind (kind==5) (AU b p 0) (acc++[(kind,id,0,zn,0,())]))
         (Aj.c5 k (Aj.rec k (D+1)).2.1 (Aj.rec k (D+1)).2.2 kind (deep:Int) (acc.length:Int) kind (kind==6) (AU b p 0) (acc++[(kind,id,0,zn,0,())])))
     =Aj.c5 k (Aj.rec k (D+1)).2.1 (Aj.rec k (D+1)).2.2 kind (deep:Int) (acc.length:Int) kind true (AU b p 0) (acc++[(kind,id,0,zn,0,())]):=by
     rcases GG with h|h
     ·rw[Ac h,yX]
     ·rw[zw (show ¬kind=5 by omega),Ac h,yZ]
    simp only[Aj.rec] at e0;rw[e0];simp only[Aj.c5,yX,PI k hk hl hb p hp];cases hg:gv (b.drop p) with
    |none=>
     obtain⟨w,hw⟩:∃w,GJ k 0=some w:=⟨_,JU k ⟨by decide,by decide⟩⟩;refine⟨by decide,p,acc++[(kind,id,w,⟨#[]⟩,0,())],hp,?_⟩;simp only[yY,hw,zw (show ¬(1:Int)=0 by decide),Au,Bool.and_false,yZ,Aj.c8,hget,hset]
    |some z=>
     obtain⟨u,n⟩:=z;obtain⟨f1,f2,f3,f4,f5⟩:=E8 _ u n (fun x hx=>hb x (List.mem_of_mem_drop hx)) hg;rw[List.length_drop] at f3;simp only[yY,JU k f1,Ac rfl,Au,Bool.and_true,KR,Bp];have h32:(decide (-2147483648≤Ce u)&&decide (Ce u≤2147483647))=int32 (Ce u):=rfl;rw[h32];by_cases hbad:kind=5∧int32 (Ce u)=false
     ·rw[if_pos hbad]
      refine⟨by decide,p+n,acc++[(kind,id,Ce u,⟨#[]⟩,0,())],by omega,?_⟩;simp only[Ac hbad.1,hbad.2,zD,Bool.and_self,yX,Ij,yY,Aj.c8,hget,hset]
     ·rw[if_neg hbad]
      have hb2:((kind==5)&& !int32 (Ce u))=false:=by
       rw[Bool.eq_false_iff];intro q;simp only[Aa,beq_iff_eq,Bool.not_eq_true'] at q;exact hbad q
      refine⟨by omega,?_⟩;simp only[hb2,yZ,Aj.c8,hget,hset,yY]
   ·rw[if_neg GG]
    have e5:(kind==5)=false:=zw (by omega);have e6:(kind==6)=false:=zw (by omega);simp only[e5,e6,yZ,Aj.c5];by_cases h8:kind=8
    ·subst h8
     simp only[if_true,show((8:Int)==8)=true from rfl,yX,Aj.d10];have ht:=ame k hk hl hb p hp (acc++[(8,id,0,zn,0,())]);cases hr:HZ b p with
     |bad e=>
      rw[hr] at ht;obtain⟨he,q,hq,e1⟩:=ht;refine⟨he,q,acc++[(8,id,0,⟨#[]⟩,0,())],hq,?_⟩;simp only[e1,yY,hget,hset]
     |ok q s=>
      rw[hr] at ht;have hq:q≤b.length:=by
       unfold HZ at hr;split at hr
       ·cases hr
       ·rename_i u n hg
        obtain⟨f1,f2,f3,f4,f5⟩:=E8 _ u n (fun x hx=>hb x (List.mem_of_mem_drop hx)) hg;rw[List.length_drop] at f3;split at hr
        ·cases hr
        ·split at hr
         ·cases hr
         ·simp only[zZ.ok.injEq] at hr
          omega
      refine⟨hq,?_⟩;simp only[ht,yY,hget,hset]
    ·rw[if_neg h8]
     simp only[zw h8,yZ];by_cases h9:kind=9
     ·subst h9
      simp only[if_true,show((9:Int)==9)=true from rfl,yX,Be.b,JL,TK k hl hb p hp];cases hy:b[p]? with
      |none=>
       refine⟨by decide,p,acc++[(9,id,0,⟨#[]⟩,0,())],hp,?_⟩;simp only[yY,show(IntKind.wrap .i64 (Int.tdiv 0 16)==15)=false by decide,yZ,Be.c4,zO (show ¬(1:Int)=0 by decide),cst,Ag,yX]
      |some y=>
       have hp1:p<b.length:=(List.getElem?_eq_some_iff.1 hy).1;obtain⟨y0,y1⟩:=hb y (List.mem_of_getElem? hy);have e16:IntKind.wrap .i64 (Int.tdiv y 16)=y/16:=by
        rw[Int.tdiv_eq_ediv_of_nonneg y0,zg (by omega) (by omega)]
       have em:Int.tmod y 16=y%16:=Int.tmod_eq_emod_of_nonneg y0;simp only[yY,e16,em]
       have tail:∀(many:Int) (q:Nat),Ae many→q≤b.length→
        match(match(if many=0 then(.ok q (0,0):zZ (Int×Int)) else if EJ (y%16)=false then .bad 2 else if many<0∨1500<many then .bad 4 else .ok q (many,y%16)) with
         | .bad e=>(.bad e:zZ (List zf))
         | .ok q (many,item)=>match CP (fun p c=>Dg d b item 0 p c) many.toNat q (acc.length+1) with
           | .bad e=> .bad e
           | .ok r Y=> .ok r ((9,id,item,⟨#[]⟩,many,())::Y)) with
        | .bad e=>e≠0∧∃q' l,q'≤b.length∧((Be.c4 k (Aj.rec k D).1 (acc.length:Int) (deep:Int) many (y%16) (AU b q 0) (acc++[(9,id,0,zn,0,())])).bind fun Ad=>some ((),(Ad.2.1,Ad.2.2)))=some ((),(AU b q' e,l))
        | .ok q' Y=>q'≤b.length∧((Be.c4 k (Aj.rec k D).1 (acc.length:Int) (deep:Int) many (y%16) (AU b q 0) (acc++[(9,id,0,zn,0,())])).bind fun Ad=>some ((),(Ad.2.1,Ad.2.2)))=some ((),(AU b q' 0,acc++Y)):=by
        intro many q OH hq;simp only[Be.c4,zK rfl,cst,Aq,yY];by_cases h0:many=0
        ·simp only[if_pos h0,Int.toNat_zero,CP,Ac h0,yX,yY]
         exact⟨hq,trivial⟩
        ·simp only[if_neg h0,zw h0,yZ,Qw,zq,Bool.and_false,Bool.or_false,yY]
         by_cases hi:EJ (y%16)=true
         ·rw[if_neg (by rw[hi];decide),hi]
          simp only[zq,yZ,Be.c7,Bp,yY];by_cases hm:many<0∨1500<many
          ·have hw:(decide ((0:Int)≤many)&&decide (many≤1500))=false:=by
            rw[Bool.eq_false_iff];intro q;simp only[Aa,Al] at q;omega
           obtain⟨K,hK⟩:∃K,k=K+1:=⟨k-1,by omega⟩;rw[if_pos hm];refine⟨by decide,q,acc++[(9,id,y%16,⟨#[]⟩,many,())],hq,?_⟩;have hstop:Be.AL k (Aj.rec k D).1 k (deep:Int) many (y%16) 0 (AU b q 4) (acc++[(9,id,y%16,⟨#[]⟩,many,())])=some ((),(AU b q 4,acc++[(9,id,y%16,⟨#[]⟩,many,())])):=by
            conv=>lhs;rw[show k=k from rfl]
            have:∀f,f≠0→Be.AL k (Aj.rec k D).1 f (deep:Int) many (y%16) 0 (AU b q 4) (acc++[(9,id,y%16,⟨#[]⟩,many,())])=some ((),(AU b q 4,acc++[(9,id,y%16,⟨#[]⟩,many,())])):=by
             intro f hf;obtain⟨f,rfl⟩:∃j,f=j+1:=⟨f-1,by omega⟩;simp only[Be.AL,zw (show ¬(4:Int)=0 by decide)];cases decide ((0:Int)<many)<;>rfl
            exact this k (by omega)
           simp only[hw,zD,yX,Ij,yY,Be.c9,hget,hset,hstop]
          ·rw[if_neg hm]
           have hw:(decide ((0:Int)≤many)&&decide (many≤1500))=true:=by simp;omega
           simp only[hw,zq,yZ,Be.c9,hget,hset,yY]
           have hp:=ajM k (Aj.rec k D).1 b (y%16) deep (by omega) (fun p c=>Dg d b (y%16) 0 p c)
            (fun p acc hp hc=>ih D (deep+1) (y%16) 0 p acc (by omega) (by omega) (Kc hi) hp hc)
            (fun p c q Y hc h=>by
             obtain⟨_,n,X,rfl,_,_,_,h5⟩:=Mi d b (y%16) 0 p c q Y (Kc hi) hc h;exact h5) many (by omega) many.toNat k 0 q (acc++[(9,id,y%16,⟨#[]⟩,many,())]) (by omega) (by omega) (by omega) hq (by simp;omega)
           rw[zX,Ap] at hp;cases hr:CP (fun p c=>Dg d b (y%16) 0 p c) many.toNat q (acc.length+1) with
           |bad e=>
            rw[hr] at hp;obtain⟨he,q',l,hq',e1⟩:=hp;exact⟨he,q',l,hq',by rw[e1];rfl⟩
           |ok q' Y=>
            rw[hr] at hp;obtain⟨hq',e1⟩:=hp;exact⟨hq',by rw[e1];simp⟩
         ·have hif:EJ (y%16)=false:=by simpa using hi
          rw[if_pos hif,hif];simp only[zD,yX,Ij,yY,Be.c7,Bp];have hstop:Be.c9 k (Aj.rec k D).1 (acc.length:Int) (deep:Int) many (y%16) (AU b q 2) (acc++[(9,id,0,zn,0,())])=some ((),(AU b q 2,acc++[(9,id,y%16,⟨#[]⟩,many,())])):=by
           simp only[Be.c9,hget,hset,yY];have:∀f,f≠0→Be.AL k (Aj.rec k D).1 f (deep:Int) many (y%16) 0 (AU b q 2) (acc++[(9,id,y%16,⟨#[]⟩,many,())])=some ((),(AU b q 2,acc++[(9,id,y%16,⟨#[]⟩,many,())])):=by
            intro f hf;obtain⟨f,rfl⟩:∃j,f=j+1:=⟨f-1,by omega⟩;simp only[Be.AL,zw (show ¬(2:Int)=0 by decide)];cases decide ((0:Int)<many)<;>rfl
           exact this k (by omega)
          refine⟨by decide,q,acc++[(9,id,y%16,⟨#[]⟩,many,())],hq,?_⟩;cases hw:(decide ((0:Int)≤many)&&decide (many≤1500)) with
          |true=>simp only[zq,yZ,hstop,yY]
          |false=>simp only[zD,yX,OA k b q (show(2:Int)≠0 by decide),yY,hstop]
       by_cases Il:y/16=15
       ·simp only[if_pos Il,Ac Il,yX,PI k hk hl hb (p+1) (by omega)]
        cases hg:gv (b.drop (p+1)) with
        |none=>
         refine⟨by decide,p+1,acc++[(9,id,0,⟨#[]⟩,0,())],by omega,?_⟩;simp only[Option.map_none,yY,Be.c4,zO (show ¬(1:Int)=0 by decide),cst,Ag,yX]
        |some z=>
         obtain⟨u,n⟩:=z;obtain⟨f1,f2,f3,f4,f5⟩:=E8 _ u n (fun x hx=>hb x (List.mem_of_mem_drop hx)) hg;rw[List.length_drop] at f3;simp only[Option.map_some,yY];exact tail u (p+1+n) f1 (by omega)
       ·simp only[if_neg Il,zw Il,yZ]
        exact tail (y/16) (p+1) ⟨by omega,by omega⟩ (by omega)
     ·rw[if_neg h9]
      simp only[zw h9,yZ];by_cases h12:kind=12
      ·subst h12
       simp only[if_true,show((12:Int)==12)=true from rfl,yX,AQ.b]
       have hf:=ajE k hk (Aj.rec k D).1 b hl hb deep (by omega) (fun t id p c=>Dg d b t id p c)
        (fun t id p acc ht hp hc=>ih D (deep+1) t id p acc (by omega) (by omega) ht hp hc)
        (fun t id p c q Y ht hc h=>by
         obtain⟨_,n,X,rfl,_,_,_,h5⟩:=Mi d b t id p c q Y ht hc h;exact h5) id acc 1002 k 0 p 0 [] (by omega) (by omega) (by omega) (by omega) hp (by simp;omega) (by omega)
       rw[List.length_nil,Nat.add_zero] at hf;rw[show(acc++[((12:Int),id,(0:Int),zn,(0:Int),())]:List zf)=acc++sn id ((0:Nat):Int)::[] from rfl];unfold PW at hf;cases hr:EC (fun t id p c=>Dg d b t id p c) b 1002 0 p (acc.length+1) with
       |bad e=>
        rw[hr] at hf;obtain⟨he,q',l,hq',e1⟩:=hf;exact⟨he,q',l,hq',by rw[e1];rfl⟩
       |ok q' x=>
        obtain⟨m,Y⟩:=x;rw[hr] at hf;obtain⟨hq',e1⟩:=hf;refine⟨hq',?_⟩;rw[e1];simp[sn]
      ·rw[if_neg h12]
       simp only[zw h12,yZ];exact⟨hp,trivial⟩
end Go.Af
end
section
namespace Go.Af
open Go.Am Go.Fn
theorem Vh(k:IntKind)(a b:Int):bits .xor k a b=bits .xor k b a:=by
 simp only[bits,BitVec.xor_comm]
theorem U1(x:Int):bits .and .i64 x 9223372036854775807=x%9223372036854775808:=by
 have hc:(9223372036854775807:Int)=((2^63-1:Nat):Int):=by decide
 have hb:(2^63-1)%2^IntKind.i64.bits=2^63-1:=by decide
 rw[hc];simp only[bits,BitVec.ofInt_natCast,BitVec.toNat_and,BitVec.toNat_ofNat,hb,Nat.and_two_pow_sub_one_eq_mod,BitVec.toNat_ofInt];show IntKind.wrap .i64 (((x%((2^64:Nat):Int)).toNat%2^63:Nat):Int)=_;rw[zg (by omega) (by omega)];omega
variable(k:Nat)
theorem amb{u:Int}(h:Ae u):Pw k u=some (Ce u):=by
 obtain⟨h0,h1⟩:=h;have hm:IntKind.wrap .i64 (pz .i64 1 (IntKind.wrap .i64 (64-1))-1)=9223372036854775807:=by decide
 have hd:JP k u 1=some ((u%18446744073709551616)/2):=by
  unfold JP;rw[zw (by decide),yZ,zh (show(0:Int)≤1 by decide),yX,zh (show(0:Int)≤IntKind.wrap .i64 (64-1) by decide),yX,hm,U1];have:=IW .i64 u 1 (by decide);rw[show((1:Nat):Int)=1 from rfl] at this;rw[this]
  congr 1
  omega
 unfold Pw Ce;rw[hd,and1];by_cases h2:u%2=0
 ·rw[if_pos h2,zw (by omega)]
  rfl
 ·rw[if_neg h2,Ac (by omega)]
  simp only[yX,yY];rw[Vh,UM _ (by omega) (by omega)]
theorem alB(b:List Int)(p:Nat)(hb:b.length<4611686018427387904)(hby:∀x,x∈b→0≤x∧x<256)(hp:p≤b.length):∀(f n i acc:Nat),i+f=10→f<n→acc<2^(7*i)→
 DZ.l5 k n b (p:Int) (IntKind.wrap .i64 (acc:Int)) (i:Int)=match Eh f (b.drop (p+i)) with
  |none=>some (0,0,false)
  |some (v,m)=>some (IntKind.wrap .i64 ((acc+v*2^(7*i):Nat):Int),((p+i+m:Nat):Int),true):=by
 have last:∀(n:Nat) (x:Int),0<n→DZ.l5 k n b (p:Int) x ((10:Nat):Int)=some (0,0,false):=by
  intro n x hn;obtain⟨n,rfl⟩:∃j,n=j+1:=⟨n-1,by omega⟩;simp only[DZ.l5,show decide (((10:Nat):Int)<10)=false by decide,yZ,yY]
 intro f
 induction f with
 |zero=>
  intro n i acc hi hn hacc;obtain rfl:i=10:=by omega
  exact last n _ (by omega)
 |succ f ih=>
  intro n i acc hi hn hacc;obtain⟨n,rfl⟩:∃j,n=j+1:=⟨n-1,by omega⟩;have hP:0<2^(7*i):=Nat.two_pow_pos _;have LB:2^(7*(i+1))=128*2^(7*i):=by rw[Nat.mul_add,Nat.pow_add];simp[Nat.mul_comm]
  have c1:decide ((i:Int)<10)=true:=by simp;omega
  have e2:IntKind.wrap .i64 ((p:Int)+(i:Int))=((p+i:Nat):Int):=by rw[zg (by omega) (by omega)];omega
  by_cases hlt:p+i<b.length
  ·obtain⟨c,hc,hc2⟩:=Lg hlt
   obtain⟨c0,Og⟩:=hby c (List.mem_of_getElem? hc2);have e3:IntKind.wrap .i64 (7*(i:Int))=((7*i:Nat):Int):=by rw[zg (by omega) (by omega)];omega
   have e5:IntKind.wrap .i64 (((p+i:Nat):Int)+1)=((p+i+1:Nat):Int):=by rw[zg (by omega) (by omega)];omega
   have e6:IntKind.wrap .i64 ((i:Int)+1)=((i+1:Nat):Int):=by rw[zg (by omega) (by omega)];omega
   have c2:decide (((p+i:Nat):Int)<(b.length:Int))=true:=by simp;omega
   have c5:decide ((0:Int)≤((7*i:Nat):Int))=true:=zh (by omega);have hget:gU b ((p+i:Nat):Int)=some c:=by rw[zQ];exact hc2
   have ec:IntKind.wrap .i64 c=c:=zg (by omega) (by omega);have e127:bits .and .i64 c 127=(((c%128).toNat:Nat):Int):=by
    have:=Oa c 7 (by decide);rw[show((2:Int)^7-1)=127 by decide,show((2:Int)^7)=128 by decide] at this;rw[this];omega
   rw[hc,Eh];simp only[DZ.l5,c1,c2,e2,e3,e5,e6,hget,ec,c5,yX,yY,Au,e127];by_cases h9:f=0∧1<c
   ·obtain⟨rfl,h1c⟩:=h9
    obtain rfl:i=9:=by omega
    rw[if_pos ⟨rfl,h1c⟩];by_cases h128:c<128
    ·simp only[zh h128,yX,show(((9:Nat):Int)==9)=true by decide,show decide (c>1)=true from zh h1c,Bool.and_self]
    ·simp only[zk h128,yZ]
     exact last n _ (by omega)
   ·rw[if_neg h9]
    have Ql:(((i:Int)==9)&&decide (c>1))=false:=by
     rw[Bool.eq_false_iff];intro q;simp only[Aa,beq_iff_eq,Al] at q;exact h9 ⟨by omega,q.2⟩
    have hsum:acc+(c%128).toNat*2^(7*i)<2^IntKind.bits .i64:=by
     show _<2^64;by_cases hf:f=0
     ·have:i=9:=by omega
      subst this;have hc1:c≤1:=by
       rcases Int.lt_or_le 1 c with q|q
       ·exact(h9 ⟨hf,q⟩).elim
       ·exact q
      have h1:(c%128).toNat≤1:=by omega
      have h2:(2:Nat)^(7*9)=9223372036854775808:=by decide
      rw[h2] at hacc⊢;have:=Nat.mul_le_mul_right 9223372036854775808 h1;omega
     ·have h1:(c%128).toNat*2^(7*i)≤127*2^(7*i):=Nat.mul_le_mul_right _ (by omega)
      have h2:2^(7*(i+1))≤2^63:=Nat.pow_le_pow_right (by omega) (by omega);rw[LB] at h2;have h3:(2:Nat)^63=9223372036854775808:=by decide
      omega
    have KM:=Kj .i64 (a:=acc) (b:=(c%128).toNat) (i:=7*i) (show 7*i≤64 by omega) hacc hsum;rw[KM];by_cases h128:c<128
    ·rw[if_pos h128]
     simp only[zh h128,yX,Ql,yZ];have:(c%128).toNat=c.toNat:=by omega
     rw[this]
    ·rw[if_neg h128]
     simp only[zk h128,yZ];have hlt2:acc+(c%128).toNat*2^(7*i)<2^(7*(i+1)):=by
      rw[LB];have:(c%128).toNat*2^(7*i)≤127*2^(7*i):=Nat.mul_le_mul_right _ (by omega);omega
     rw[ih n (i+1) _ (by omega) (by omega) hlt2,←Nat.add_assoc];cases Eh f (b.drop (p+i+1)) with
     |none=>rfl
     |some x=>
      obtain⟨v,m⟩:=x;simp only[Option.map_some];rw[LB,show acc+(c%128).toNat*2^(7*i)+v*(128*2^(7*i))=acc+((c%128).toNat+128*v)*2^(7*i) by grind,show p+i+1+m=p+i+(m+1) by omega]
  ·have c2:decide (((p+i:Nat):Int)<(b.length:Int))=false:=zk (by omega)
   rw[List.drop_eq_nil_of_le (by omega),Eh];simp only[DZ.l5,c1,e2,c2,yX,yZ,yY]
theorem Nz(hk:2000≤k){b:List Int}(hl:b.length<4611686018427387904)(hb:BR b)(p:Nat)(hp:p≤b.length):DZ k b (p:Int)=match gv (b.drop p) with
 |none=>some (0,0,false)
 |some (u,n)=>some (u,((p+n:Nat):Int),true):=by
 unfold DZ;rw[zk (show ¬((p:Int)<0) by omega)];by_cases h:p=b.length
 ·rw[zh (show(p:Int)≥(b.length:Int) by omega),List.drop_eq_nil_of_le (by omega)]
  rfl
 ·rw[zk (show ¬(p:Int)≥(b.length:Int) by omega)]
  simp only[yZ,yY];have h:=alB k b p hl hb hp 10 k 0 0 rfl (by omega) (by simp);rw[show IntKind.wrap .i64 ((0:Nat):Int)=0 by decide,show((0:Nat):Int)=0 from rfl] at h;rw[h];unfold gv;rw[Nat.add_zero];cases Eh 10 (b.drop p) with
  |none=>rfl
  |some x=>
   simp only[Option.map_some,Nat.mul_zero,Nat.pow_zero,Nat.mul_one,Nat.zero_add]
theorem PD(hk:2000≤k){b:List Int}(hl:b.length<4611686018427387904)(hb:BR b)(p:Nat)(hp:p≤b.length):Jp k b (p:Int)=match gv (b.drop p) with
 |none=>some (0,0,false)
 |some (u,n)=>some (Ce u,((p+n:Nat):Int),true):=by
 unfold Jp;rw[Nz k hk hl hb p hp];cases hg:gv (b.drop p) with
 |none=>rfl
 |some z=>
  obtain⟨u,n⟩:=z;obtain⟨f1,_⟩:=E8 _ u n (fun x hx=>hb x (List.mem_of_mem_drop hx)) hg;simp only[yY,zq,yZ,amb k f1]
theorem alH(hk:2000≤k){b:List Int}(hl:b.length<4611686018427387904)(hb:BR b)(p:Nat)(hp:p≤b.length):∃x y z e,Jr k b (p:Int)=some (x,y,z,e)∧
 (match JL b p with
 | .bad c=>e=c∧c≠0
 | .ok q (many,item)=>x=many∧y=item∧z=(q:Int)∧e=0∧q≤b.length):=by
 unfold Jr JL;by_cases hlt:p<b.length
 ·obtain⟨c,hc,hc2⟩:=Lg hlt
  obtain⟨c0,Og⟩:=hb c (List.mem_of_getElem? hc2);have ec:IntKind.wrap .i64 c=c:=zg (by omega) (by omega);have e16:IntKind.wrap .i64 (Int.tdiv c 16)=c/16:=by
   rw[Int.tdiv_eq_ediv_of_nonneg c0,zg (by omega) (by omega)]
  have em:Int.tmod c 16=c%16:=Int.tmod_eq_emod_of_nonneg c0;have ep:IntKind.wrap .i64 ((p:Int)+1)=((p+1:Nat):Int):=by rw[zg (by omega) (by omega)];omega
  rw[zk (by omega),yZ,zQ,hc2];simp only[yY,ec,e16,em,ep]
  have tail:∀(many:Int) (q:Nat),q≤b.length→∃x y z e,Jr.c11 k (q:Int) many (c%16)=some (x,y,z,e)∧
   (match(if many=0 then(.ok q (0,0):zZ (Int×Int)) else if EJ (c%16)=false then .bad 2 else if many<0∨1500<many then .bad 4 else .ok q (many,c%16)) with
   | .bad c=>e=c∧c≠0
   | .ok q (many,item)=>x=many∧y=item∧z=(q:Int)∧e=0∧q≤b.length):=by
   intro many q hq;unfold Jr.c11;by_cases h0:many=0
   ·rw[Ac h0,yX,if_pos h0]
    exact⟨_,_,_,_,rfl,rfl,rfl,rfl,rfl,hq⟩
   ·rw[zw h0,yZ,if_neg h0,Tg]
    simp only[yY,cst];cases EJ (c%16) with
    |false=>
     rw[if_pos rfl];exact⟨_,_,_,_,rfl,rfl,by decide⟩
    |true=>
     rw[if_neg (by decide)];simp only[zq,yZ];by_cases hm:many<0∨1500<many
     ·rw[if_pos hm]
      have:(decide (many<0)||decide (many>1500))=true:=by
       rcases hm with h|h
       ·rw[zh h,Ag]
       ·rw[zh (show many>1500 from h),Bool.or_true]
      rw[this];exact⟨_,_,_,_,rfl,rfl,by decide⟩
     ·rw[if_neg hm]
      rw[zk (show ¬many<0 by omega),zk (show ¬many>1500 by omega)];exact⟨_,_,_,_,rfl,rfl,rfl,rfl,rfl,hq⟩
  by_cases Il:c/16=15
  ·simp only[if_pos Il,Ac Il,yX,Nz k hk hl hb (p+1) (by omega)]
   cases hg:gv (b.drop (p+1)) with
   |none=>
    simp only[yY,zD,yX,Option.map_none];exact⟨_,_,_,_,rfl,rfl,by decide⟩
   |some z=>
    obtain⟨u,n⟩:=z;obtain⟨f1,f2,f3,f4,f5⟩:=E8 _ u n (fun x hx=>hb x (List.mem_of_mem_drop hx)) hg;rw[List.length_drop] at f3;simp only[yY,zq,yZ,Option.map_some];exact tail u (p+1+n) (by omega)
  ·simp only[if_neg Il,zw Il,yZ]
   exact tail (c/16) (p+1) (by omega)
 ·rw[zh (by omega),yX,List.getElem?_eq_none (by omega)]
  exact⟨_,_,_,_,rfl,rfl,by decide⟩
theorem alE(hk:2000≤k){b:List Int}(hl:b.length<4611686018427387904)(hb:BR b)(p:Nat)(hp:p≤b.length)(last:Int)(hla:0≤last∧last≤1000):∃x y z e,Jq k b (p:Int) last=some (x,y,z,e)∧
 (match JK b p last with
 | .bad c=>e=c∧c≠0
 | .ok q (t,id)=>x=t∧(t≠0→y=id)∧z=(q:Int)∧e=0∧q≤b.length):=by
 unfold Jq JK;by_cases hlt:p<b.length
 ·obtain⟨c,hc,hc2⟩:=Lg hlt
  obtain⟨c0,Og⟩:=hb c (List.mem_of_getElem? hc2);have ec:IntKind.wrap .i64 c=c:=zg (by omega) (by omega);have e16:IntKind.wrap .i64 (Int.tdiv c 16)=c/16:=by
   rw[Int.tdiv_eq_ediv_of_nonneg c0,zg (by omega) (by omega)]
  have em:Int.tmod c 16=c%16:=Int.tmod_eq_emod_of_nonneg c0;have ep:IntKind.wrap .i64 ((p:Int)+1)=((p+1:Nat):Int):=by rw[zg (by omega) (by omega)];omega
  have el:IntKind.wrap .i64 (last+c/16)=last+c/16:=zg (by omega) (by omega);rw[zk (by omega),yZ,zQ,hc2];simp only[yY,ec,e16,em,ep,el];by_cases h0:c=0
  ·rw[Ac h0,yX,if_pos h0]
   exact⟨_,_,_,_,rfl,rfl,fun h=>(h rfl).elim,rfl,rfl,by omega⟩
  ·rw[zw h0,yZ,if_neg h0,Ti]
   simp only[yY];cases hkd:isKind (c%16) with
   |false=>
    rw[if_pos rfl];exact⟨_,_,_,_,rfl,rfl,by decide⟩
   |true=>
    rw[if_neg (by decide)];simp only[zq,yZ]
    have tail:∀(id:Int) (q:Nat),q≤b.length→∃x y z e,Jq.c16 k (q:Int) last (c%16) id=some (x,y,z,e)∧
     (match(if id<1∨1000<id then(.bad 3:zZ (Int×Int)) else if id≤last then .bad 5 else .ok q (c%16,id)) with
     | .bad c=>e=c∧c≠0
     | .ok q (t,id)=>x=t∧(t≠0→y=id)∧z=(q:Int)∧e=0∧q≤b.length):=by
     intro id q hq;unfold Jq.c16;rw[Bh];simp only[yY];by_cases hi:id<1∨1000<id
     ·rw[if_pos hi]
      have hw:(decide ((1:Int)≤id)&&decide (id≤1000))=false:=by
       rw[Bool.eq_false_iff];intro q;simp only[Aa,Al] at q;omega
      rw[hw];exact⟨_,_,_,_,rfl,rfl,by decide⟩
     ·rw[if_neg hi]
      have hw:(decide ((1:Int)≤id)&&decide (id≤1000))=true:=by simp;omega
      rw[hw];simp only[zq,yZ];by_cases h5:id≤last
      ·rw[if_pos h5,zh h5]
       exact⟨_,_,_,_,rfl,rfl,by decide⟩
      ·rw[if_neg h5,zk h5]
       exact⟨_,_,_,_,rfl,rfl,fun _=>rfl,rfl,rfl,hq⟩
    by_cases h16:c/16=0
    ·simp only[if_pos h16,Ac h16,yX,PD k hk hl hb (p+1) (by omega)]
     cases hg:gv (b.drop (p+1)) with
     |none=>
      simp only[yY,zD,yX,Option.map_none];exact⟨_,_,_,_,rfl,rfl,by decide⟩
     |some z=>
      obtain⟨u,n⟩:=z;obtain⟨f1,f2,f3,f4,f5⟩:=E8 _ u n (fun x hx=>hb x (List.mem_of_mem_drop hx)) hg;rw[List.length_drop] at f3;simp only[yY,zq,yZ,Option.map_some];exact tail (Ce u) (p+1+n) (by omega)
    ·simp only[if_neg h16,zw h16,yZ]
     exact tail (last+c/16) (p+1) (by omega)
 ·rw[zh (by omega),yX,List.getElem?_eq_none (by omega)]
  exact⟨_,_,_,_,rfl,rfl,by decide⟩
theorem al6(hk:2000≤k){b:List Int}(hl:b.length<4611686018427387904)(hb:BR b)(p:Nat)(hp:p≤b.length):∃x z e,PC k b (p:Int)=some (x,z,e)∧
 (match HZ b p with
 | .bad c=>e=c∧c≠0
 | .ok q s=>x=s∧z=(q:Int)∧e=0∧q≤b.length):=by
 unfold PC HZ;rw[Nz k hk hl hb p hp];cases hg:gv (b.drop p) with
 |none=>exact⟨_,_,_,rfl,rfl,by decide⟩
 |some z=>
  obtain⟨u,n⟩:=z;obtain⟨⟨f0,f1⟩,f2,f3,f4,f5⟩:=E8 _ u n (fun x hx=>hb x (List.mem_of_mem_drop hx)) hg;rw[List.length_drop] at f3;simp only[yY,zq,yZ,cst];by_cases hu:u<0∨300<u
  ·rw[if_pos hu]
   have:(decide (u<0)||decide (u>300))=true:=by
    rcases hu with h|h
    ·rw[zh h,Ag]
    ·rw[zh (show u>300 from h),Bool.or_true]
   rw[this];exact⟨_,_,_,rfl,rfl,by decide⟩
  ·rw[if_neg hu,zk (show ¬u<0 by omega),zk (show ¬u>300 by omega)]
   have e1:IntKind.wrap .i64 ((b.length:Int)-((p+n:Nat):Int))=(b.length:Int)-((p+n:Nat):Int):=zg (by omega) (by omega);simp only[Bt,yZ,e1];by_cases hs:(b.length:Int)-((p+n:Nat):Int)<u
   ·rw[if_pos hs,zh hs]
    exact⟨_,_,_,rfl,rfl,by decide⟩
   ·rw[if_neg hs,zk hs]
    obtain⟨U,rfl⟩:=Int.eq_ofNat_of_zero_le (show 0≤u by omega);have e2:IntKind.wrap .i64 (((p+n:Nat):Int)+(U:Int))=((p+n+U:Nat):Int):=by rw[zg (by omega) (by omega)];omega
    have c3:jg ((p+n:Nat):Int) ((p+n+U:Nat):Int) b.length=true:=EI (by omega) (by omega) (by omega);have hcut:kV b ((p+n:Nat):Int) ((p+n+U:Nat):Int)=(b.drop (p+n)).take U:=by
     unfold kV;rw[Int.toNat_natCast,Int.toNat_natCast,List.drop_take,show p+n+U-(p+n)=U by omega]
    simp only[yZ,e2,c3,yX,hcut,Int.toNat_natCast];exact⟨_,_,_,rfl,rfl,rfl,rfl,by omega⟩
def KH(S:(List Int)→Int→Int→Int→Int→(List zf)→Option ((Unit×Int×Int)×(List zf)))(b:List Int)(kind id deep:Int)(p:Nat)(acc:List zf)(r:zZ (List zf)):Prop:=
 match r with
 | .bad e=>e≠0∧∃q l,S b (p:Int) kind id deep acc=some (((),q,e),l)
 | .ok q Y=>q≤b.length∧S b (p:Int) kind id deep acc=some (((),(q:Int),0),acc++Y)
theorem alP(S:(List Int)→Int→Int→Int→Int→(List zf)→Option ((Unit×Int×Int)×(List zf)))(b:List Int)(item:Int)(deep:Nat)(LD:deep≤100)(P:Nat→Nat→zZ (List zf))
 (ih:∀(p:Nat) (acc:List zf),p≤b.length→acc.length≤1500→KH S b item 0 ((deep+1:Nat):Int) p acc (P p acc.length))
 (hP:∀p c q Y,c≤1500→P p c= .ok q Y→c+Y.length≤1500) (many:Int) (hm:many≤1500):
 ∀(m f:Nat) (i:Int) (p:Nat) (acc:List zf),many-i=m→0≤i→m<f→p≤b.length→acc.length≤1500→
 match CP P m p acc.length with
 | .bad e=>e≠0∧∃q l,AJ.Ea k S f b (deep:Int) many item (p:Int) 0 i acc=some (((),q,e),l)
 | .ok q Y=>q≤b.length∧AJ.Ea k S f b (deep:Int) many item (p:Int) 0 i acc=some (((),(q:Int),0),acc++Y):=by
 have hdw:IntKind.wrap .i64 ((deep:Int)+1)=((deep+1:Nat):Int):=by rw[zg (by omega) (by omega)];omega
 intro m
 induction m with
 |zero=>
  intro f i p acc hi h0 hf hp hc;obtain⟨f,rfl⟩:∃j,f=j+1:=⟨f-1,by omega⟩;simp only[CP,AJ.Ea,zk (show ¬i<many by omega),yZ,yY,AO];exact⟨hp,trivial⟩
 |succ m FZ=>
  intro f i p acc hi h0 hf hp hc;obtain⟨f,rfl⟩:∃j,f=j+1:=⟨f-1,by omega⟩;have hi1:IntKind.wrap .i64 (i+1)=i+1:=zg (by omega) (by omega);have h1:=ih p acc hp hc;simp only[CP,AJ.Ea,zh (show i<many by omega),yX,yY,Ac rfl,hdw,hi1];unfold KH at h1;cases hr:P p acc.length with
  |bad e=>
   rw[hr] at h1;obtain⟨he,q,l,e1⟩:=h1;refine⟨he,q,l,?_⟩;obtain⟨f,rfl⟩:∃j,f=j+1:=⟨f-1,by omega⟩;simp only[e1,yY,AJ.Ea,zw he];cases decide (i+1<many)<;>rfl
  |ok q Y=>
   rw[hr] at h1;obtain⟨hq,e1⟩:=h1;have hlen:=hP _ _ _ _ hc hr;have h2:=FZ f (i+1) q (acc++Y) (by omega) (by omega) (by omega) hq (by rw[zX];exact hlen);rw[zX] at h2;simp only[e1,yY];cases hr2:CP P m q (acc.length+Y.length) with
   |bad e=>rw[hr2] at h2;exact h2
   |ok q2 Z=>rw[hr2] at h2;simpa[Bu] using h2
theorem aly(hk:2000≤k)(S:(List Int)→Int→Int→Int→Int→(List zf)→Option ((Unit×Int×Int)×(List zf)))(b:List Int)(hl:b.length<4611686018427387904)(hb:BR b)(deep:Nat)(LD:deep≤100)(P:Int→Int→Nat→Nat→zZ (List zf))
 (ih:∀(t id:Int) (p:Nat) (acc:List zf),isKind t=true→p≤b.length→acc.length≤1500→KH S b t id ((deep+1:Nat):Int) p acc (P t id p acc.length))
 (hP:∀t id p c q Y,isKind t=true→c≤1500→P t id p c= .ok q Y→c+Y.length≤1500) (CV:Int) (pre:List zf):
 ∀(g f:Nat) (last:Int) (p:Nat) (j:Nat) (mid:List zf),1002≤(g:Int)+last→0≤last→last≤1000→g<f→p≤b.length→pre.length+1+mid.length≤1500→(j:Int)+g≤4000→
 match EC P b g last p (pre.length+1+mid.length) with
 | .bad e=>e≠0∧∃q l,AJ.LY k S f b (p:Int) (deep:Int) (pre.length:Int) last (j:Int) (pre++sn CV 0::mid)=some (((),q,e),l)
 | .ok q (m,Y)=>q≤b.length∧AJ.LY k S f b (p:Int) (deep:Int) (pre.length:Int) last (j:Int) (pre++sn CV 0::mid)=some (((),(q:Int),0),pre++sn CV ((j+m:Nat):Int)::(mid++Y)):=by
 have hdw:IntKind.wrap .i64 ((deep:Int)+1)=((deep+1:Nat):Int):=by rw[zg (by omega) (by omega)];omega
 intro g
 induction g with
 |zero=>intro f last p j mid h1 h2 h3;omega
 |succ g Qu=>
  intro f last p j mid h1 h2 h3 hf hp hc hj;obtain⟨f,rfl⟩:∃j,f=j+1:=⟨f-1,by omega⟩;have Qp:IntKind.wrap .i64 ((j:Int)+1)=((j+1:Nat):Int):=by rw[zg (by omega) (by omega)];omega
  obtain⟨x,y,z,e,e1,e2⟩:=alE k hk hl hb p hp last ⟨h2,h3⟩;simp only[EC,AJ.LY,e1,yY];cases hr:JK b p last with
  |bad c=>
   rw[hr] at e2;obtain⟨rfl,he⟩:=e2;simp only[zO he,yX];exact⟨he,_,_,rfl⟩
  |ok q w=>
   obtain⟨t,id⟩:=w;rw[hr] at e2;obtain⟨rfl,hy,rfl,rfl,hq⟩:=e2;obtain⟨a1,a2⟩:=Nt hr;simp only[zK rfl,yZ];by_cases ht:x=0
   ·simp only[if_pos ht,Ac ht,yX]
    have hget:gU (pre++sn CV 0::mid) (pre.length:Int)=some (sn CV 0):=by
     rw[zQ,List.getElem?_append_right (Nat.le_refl _)];simp
    have hset:∀x y:zf,List.set (pre++x::mid) (Int.toNat (pre.length:Int)) y=pre++y::mid:=fun x y=>by
     rw[Int.toNat_natCast,List.set_append_right _ _ (Nat.le_refl _)];simp
    simp only[hget,yY,hset];exact⟨hq,by simp[sn]⟩
   ·obtain rfl:=hy ht
    rcases a2 with a2|⟨a2,_,a3,a4,a5⟩
    ·exact(ht a2).elim
    ·simp only[if_neg ht,zw ht,yZ,hdw]
     have hn:=ih x y q (pre++sn CV 0::mid) a2 hq (by simp;omega);rw[show(pre++sn CV 0::mid).length=pre.length+1+mid.length by simp;omega] at hn;unfold KH at hn;cases hr2:P x y q (pre.length+1+mid.length) with
     |bad e=>
      rw[hr2] at hn;obtain⟨he,q',l,e3⟩:=hn;simp only[e3,yY,zO he,yX];exact⟨he,_,_,rfl⟩
     |ok r Y=>
      rw[hr2] at hn;obtain⟨hr1,e3⟩:=hn;have hlen:=hP _ _ _ _ _ _ a2 (by omega) hr2;have h4:=Qu f y r (j+1) (mid++Y) (by omega) (by omega) (by omega) (by omega) hr1 (by rw[zX];omega) (by omega);rw[zX,←Nat.add_assoc] at h4;simp only[e3,yY,zK rfl,yZ,Qp,Bu,List.cons_append];cases hr3:EC P b g y r (pre.length+1+mid.length+Y.length) with
      |bad e=>rw[hr3] at h4;exact h4
      |ok z w=>
       obtain⟨m,Z⟩:=w;rw[hr3] at h4;obtain⟨h5,h6⟩:=h4;refine⟨h5,?_⟩;rw[h6,show j+1+m=j+(m+1) by omega,Bu]
theorem alZ(hk:2000≤k)(b:List Int)(hl:b.length<4611686018427387904)(hb:BR b):∀(d D deep:Nat) (kind id:Int) (p:Nat) (acc:List zf),d+deep=13→d<D→isKind kind=true→p≤b.length→acc.length≤1500→
 KH (AJ.rec k D) b kind id (deep:Int) p acc (Dg d b kind id p acc.length):=by
 intro d
 induction d with
 |zero=>
  intro D deep kind id p acc hdd hD hkd hp hc;obtain⟨D,rfl⟩:∃m,D=m+1:=⟨D-1,by omega⟩;refine⟨by decide,0,acc,?_⟩;simp only[AJ.rec,AJ.b,cst,zh (show(deep:Int)>12 by omega),Bool.or_true,yY,yX]
 |succ d ih=>
  intro D deep kind id p acc hdd hD hkd hp hc;obtain⟨D,rfl⟩:∃m,D=m+1:=⟨D-1,by omega⟩;have hset:∀(acc:List zf) (x y:zf),List.set (acc++[x]) (Int.toNat (acc.length:Int)) y=acc++[y]:=fun acc x y=>by
   rw[Int.toNat_natCast,List.set_append_right _ _ (Nat.le_refl _)];simp
  have hget:∀(acc:List zf) (x:zf),gU (acc++[x]) (acc.length:Int)=some x:=fun acc x=>by
   rw[zQ,List.getElem?_append_right (Nat.le_refl _)];simp
  unfold Dg;by_cases J8:acc.length=1500
  ·rw[if_pos J8]
   refine⟨by decide,0,acc,?_⟩;simp only[AJ.rec,AJ.b,cst,Ac (show(acc.length:Int)=1500 by omega),Ag,yY,yX]
  ·rw[if_neg J8]
   unfold KH;simp only[AJ.rec,AJ.b,cst,zw (show ¬(acc.length:Int)=1500 by omega),zk (show ¬(deep:Int)>12 by omega),Bt,yY,yZ];rw[Ak (by simp;omega),yX];by_cases GG:kind=5∨kind=6
   ·rw[if_pos GG]
    have e0:(cond (kind==5)
         (AJ.c8 k (AJ.rec k D) b (p:Int) kind (deep:Int) (acc.length:Int) kind (kind==5) (acc++[(kind,id,0,zn,0,())]))
         (AJ.c8 k (AJ.rec k D) b (p:Int) kind (deep:Int) (acc.length:Int) kind (kind==6) (acc++[(kind,id,0,zn,0,())])))
     =AJ.c8 k (AJ.rec k D) b (p:Int) kind (deep:Int) (acc.length:Int) kind true (acc++[(kind,id,0,zn,0,())]):=by
     rcases GG with h|h
     ·rw[Ac h,yX]
     ·rw[zw (show ¬kind=5 by omega),Ac h,yZ]
    rw[e0];simp only[AJ.c8,yX,PD k hk hl hb p hp];cases hg:gv (b.drop p) with
    |none=>exact⟨by decide,_,_,rfl⟩
    |some z=>
     obtain⟨u,n⟩:=z;obtain⟨f1,f2,f3,f4,f5⟩:=E8 _ u n (fun x hx=>hb x (List.mem_of_mem_drop hx)) hg;rw[List.length_drop] at f3;simp only[yY,zq,yZ,K5,Bh,Au];have h32:(decide (-2147483648≤Ce u)&&decide (Ce u≤2147483647))=int32 (Ce u):=rfl;rw[h32];by_cases hbad:kind=5∧int32 (Ce u)=false
     ·rw[if_pos hbad]
      refine⟨by decide,0,acc++[(kind,id,0,⟨#[]⟩,0,())],?_⟩;simp only[Ac hbad.1,hbad.2,zD,Bool.and_self,yX]
     ·rw[if_neg hbad]
      have hb2:((kind==5)&& !int32 (Ce u))=false:=by
       rw[Bool.eq_false_iff];intro q;simp only[Aa,beq_iff_eq,Bool.not_eq_true'] at q;exact hbad q
      refine⟨by omega,?_⟩;simp only[hb2,yZ,hget,hset,yY]
   ·rw[if_neg GG]
    have e5:(kind==5)=false:=zw (by omega);have e6:(kind==6)=false:=zw (by omega);simp only[e5,e6,yZ,AJ.c8];by_cases h8:kind=8
    ·subst h8
     simp only[if_true,show((8:Int)==8)=true from rfl,yX];obtain⟨x,z,e,e1,e2⟩:=al6 k hk hl hb p hp;simp only[e1,yY,hget,hset];cases hr:HZ b p with
     |bad c=>
      rw[hr] at e2;obtain⟨rfl,he⟩:=e2;exact⟨he,_,_,rfl⟩
     |ok q s=>
      rw[hr] at e2;obtain⟨rfl,rfl,rfl,hq⟩:=e2;exact⟨hq,rfl⟩
    ·rw[if_neg h8]
     simp only[zw h8,yZ];by_cases h9:kind=9
     ·subst h9
      simp only[if_true,show((9:Int)==9)=true from rfl,yX];obtain⟨x,y,z,e,e1,e2⟩:=alH k hk hl hb p hp;simp only[e1,yY,hget,hset];cases hr:JL b p with
      |bad c=>
       rw[hr] at e2;obtain⟨rfl,he⟩:=e2;have:∀f a,f≠0→AJ.Ea k (AJ.rec k D) f b (deep:Int) x y z e 0 a=some (((),z,e),a):=by
        intro f a hf;obtain⟨f,rfl⟩:∃j,f=j+1:=⟨f-1,by omega⟩;simp only[AJ.Ea,zw he];cases decide ((0:Int)<x)<;>rfl
       refine⟨he,_,_,this k _ (by omega)⟩
      |ok q w=>
       obtain⟨many,item⟩:=w;rw[hr] at e2;obtain⟨rfl,rfl,rfl,rfl,hq⟩:=e2;obtain⟨_,m1⟩:=Nu hr;simp only;have hx:x≤1500:=by rcases m1 with h|h<;>omega
       have hx0:0≤x:=by rcases m1 with h|h<;>omega
       rcases m1 with⟨rfl,rfl⟩|⟨m1,m2,m3⟩
       ·obtain⟨K,hK⟩:∃K,k=K+1:=⟨k-1,by omega⟩
        have:∀f a,f≠0→AJ.Ea k (AJ.rec k D) f b (deep:Int) 0 0 (q:Int) 0 0 a=some (((),(q:Int),0),a):=by
         intro f a hf;obtain⟨f,rfl⟩:∃j,f=j+1:=⟨f-1,by omega⟩;simp only[AJ.Ea,zk (show ¬((0:Int)<0) by omega),yZ,yY]
        simp only[Int.toNat_zero,CP];exact⟨hq,this k _ (by omega)⟩
       ·have hp:=alP k (AJ.rec k D) b y deep (by omega) (fun p c=>Dg d b y 0 p c)
         (fun p acc hp hc=>ih D (deep+1) y 0 p acc (by omega) (by omega) (Kc m3) hp hc)
         (fun p c q Y hc h=>by
          obtain⟨_,n,X,rfl,_,_,_,h5⟩:=Mi d b y 0 p c q Y (Kc m3) hc h;exact h5) x hx x.toNat k 0 q (acc++[(9,id,y,⟨#[]⟩,x,())]) (by omega) (by omega) (by omega) hq (by simp;omega)
        rw[zX,Ap] at hp;cases hr2:CP (fun p c=>Dg d b y 0 p c) x.toNat q (acc.length+1) with
        |bad e=>rw[hr2] at hp;exact hp
        |ok q' Y=>
         rw[hr2] at hp;obtain⟨h1,h2⟩:=hp;exact⟨h1,by rw[h2];simp⟩
     ·rw[if_neg h9]
      simp only[zw h9,yZ];by_cases h12:kind=12
      ·subst h12
       simp only[if_true,show((12:Int)==12)=true from rfl,yX]
       have hf:=aly k hk (AJ.rec k D) b hl hb deep (by omega) (fun t id p c=>Dg d b t id p c)
        (fun t id p acc ht hp hc=>ih D (deep+1) t id p acc (by omega) (by omega) ht hp hc)
        (fun t id p c q Y ht hc h=>by
         obtain⟨_,n,X,rfl,_,_,_,h5⟩:=Mi d b t id p c q Y ht hc h;exact h5) id acc 1002 k 0 p 0 [] (by omega) (by omega) (by omega) (by omega) hp (by simp;omega) (by omega)
       rw[List.length_nil,Nat.add_zero] at hf;rw[show(acc++[((12:Int),id,(0:Int),zn,(0:Int),())]:List zf)=acc++sn id 0::[] from rfl];cases hr:EC (fun t id p c=>Dg d b t id p c) b 1002 0 p (acc.length+1) with
       |bad e=>rw[hr] at hf;exact hf
       |ok q' x=>
        obtain⟨m,Y⟩:=x;rw[hr] at hf;obtain⟨hq',e1⟩:=hf;refine⟨hq',?_⟩;rw[show((0:Nat):Int)=0 from rfl] at e1;rw[e1];simp[sn]
      ·rw[if_neg h12]
       simp only[zw h12,yZ];exact⟨hp,trivial⟩
end Go.Af
end
