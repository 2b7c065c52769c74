/- plain laws of the claim's functions -/
import Derived.Test.YtohaijhiclmkkaaGreatAmStep
import Derived.Laws.BitsLemmas
import Derived.Laws.Strings
import Derived.Test.YtohaijhiclmkkaaGreatEPOF0
set_option linter.unnecessarySimpa false
set_option linter.unusedSimpArgs false
set_option linter.unusedVariables false
set_option linter.unusedSectionVars false
section
set_option linter.unusedVariables false
namespace Go.Fn
open Go Go.Am
def impl_RecOk_2 (k:Nat) (t0:Int) (t1:Int) (t2:Int):Option Unit:=
 some ()
end Go.Fn
set_option linter.unusedVariables false
set_option linter.unusedSimpArgs false
namespace Go.Law
open Go.Am
theorem w64 {x:Int} (h0: -9223372036854775808≤x) (h1:x<9223372036854775808):IntKind.wrap .i64 x=x:=by
 rw [IntKind.wrap_i64];omega
theorem w64_lo (x:Int): -9223372036854775808≤IntKind.wrap .i64 x:=by rw [IntKind.wrap_i64];omega
theorem w64_hi (x:Int):IntKind.wrap .i64 x<9223372036854775808:=by rw [IntKind.wrap_i64];omega
theorem wu64_eq (x:Int):IntKind.wrap .u64 x=x%18446744073709551616:=by simp [IntKind.wrap,IntKind.bits,IntKind.signed]
theorem wu8_eq (x:Int):IntKind.wrap .u8 x=x%256:=IntKind.wrap_u8 x
theorem w8 {x:Int} (h0:0≤x) (h1:x<256):IntKind.wrap .u8 x=x:=by rw [wu8_eq];omega
theorem wraps_u64 (n:Int) (h₀:0≤n) (h₁:n<2^64):IntKind.u64.wrap n=n:=by rw [wu64_eq];omega
def I64 (x:Int):Prop:= -9223372036854775808≤x∧x<9223372036854775808
theorem and_mask_i64 (x:Int) (i:Nat) (hi:i≤62):bits .and .i64 x (2^i-1)=x%2^i:=by
 have hpos:0<2^i:=Nat.two_pow_pos i
 have hle:2^i≤2^62:=Nat.pow_le_pow_right (by decide) hi
 have hc:((2:Int)^i-1)=((2^i-1:Nat):Int):=by
  rw [Int.natCast_sub hpos];simp
 have hb:(2^i-1)%2^IntKind.i64.bits=2^i-1:=Nat.mod_eq_of_lt (show 2^i-1<2^64 by omega)
 rw [hc]
 simp only [bits,BitVec.ofInt_natCast,BitVec.toNat_and,BitVec.toNat_ofNat,hb,Nat.and_two_pow_sub_one_eq_mod,BitVec.toNat_ofInt]
 show IntKind.wrap .i64 (((x%((2^64:Nat):Int)).toNat%2^i:Nat):Int)=_
 have h1:(x%((2^64:Nat):Int)).toNat%2^i<2^i:=Nat.mod_lt _ hpos
 have h2:(((x%((2^64:Nat):Int)).toNat%2^i:Nat):Int)=x%2^i:=by
  have h3:0≤x%((2^64:Nat):Int):=Int.emod_nonneg _ (by decide)
  rw [Int.natCast_emod,Int.toNat_of_nonneg h3]
  have hd:((2^i:Nat):Int)∣((2^64:Nat):Int):=by
   have:=Nat.pow_dvd_pow 2 (show i≤64 by omega)
   exact_mod_cast this
  rw [Int.emod_emod_of_dvd x hd]
  simp
 rw [h2]
 have h4:x%2^i<2^i:=Int.emod_lt_of_pos _ (by exact_mod_cast hpos)
 have h5:0≤x%2^i:=Int.emod_nonneg _ (by have:(0:Int)<2^i:=by exact_mod_cast hpos
                                        omega)
 have h6:(2:Int)^i≤2^62:=by exact_mod_cast hle
 rw [w64 (by omega) (by omega)]
theorem and255 (x:Int):bits .and .i64 x 255=x%256:=and_mask_i64 x 8 (by decide)
theorem and1 (x:Int):bits .and .i64 x 1=x%2:=and_mask_i64 x 1 (by decide)
theorem u8_and127 {x:Int} (h0:0≤x) (h1:x<256):bits .and .u8 x 127=x%128:=
 bits_mask .u8 8 (by decide) wraps_u8 7 (by decide) x h0 h1
theorem bits_or_comm (k:IntKind) (a b:Int):bits .or k a b=bits .or k b a:=by
 simp only [bits,BitVec.toNat_or]
 rw [Nat.or_comm]
theorem u64_or_shl {a b:Int} {i:Nat} (ha0:0≤a) (ha:a<2^i) (hb0:0≤b) (hb:b*2^i<2^64) (hi:i≤64):bits .or .u64 a (b*2^i)=a+b*2^i:=by
 have hp:(2:Int)^i≤2^64:=by
  have:=Nat.pow_le_pow_right (n:=2) (by decide) hi
  exact_mod_cast this
 have hp0:(0:Int)<2^i:=by have:=Nat.two_pow_pos i;exact_mod_cast this
 rw [bits_or_comm,bits_join .u64 64 (by decide) wraps_u64 i (b*2^i) a (Int.mul_nonneg hb0 (by omega)) (Int.mul_emod_left _ _) hb ha0 ha (by omega)]
 omega
theorem shrI_eq (k:IntKind) (a:Int) (n:Nat) (h:n≤k.bits):shrI k a (n:Int)=a/2^n:=by
 unfold shrI
 rw [Int.toNat_natCast,Nat.min_eq_left h,Int.fdiv_eq_ediv_of_nonneg]
 have:=Nat.two_pow_pos n
 have:(0:Int)<2^n:=by exact_mod_cast this
 omega
theorem shr1u (a:Int):shrI .u64 a 1=a/2:=shrI_eq .u64 a 1 (by decide)
theorem lim_ok {n:Nat} (h:n≤4294967296):lim n=true:=by unfold lim;exact Nat.ble_eq_true_of_le h
theorem okLen_ok {n:Int} (h0:0≤n) (h:n≤4294967296):okLen n=true:=by simp [okLen,h0,h]
theorem inSl_ok {l h:Int} {n:Nat} (h0:0≤l) (h1:l≤h) (h2:h≤n):inSl l h n=true:=by simp [inSl,h0,h1,h2]
theorem beqF {a b:Int} (h:¬a=b):(a==b)=false:=by simpa using h
theorem bneT {a b:Int} (h:¬a=b):(a !=b)=true:=by simpa using h
theorem beqT {a b:Int} (h:a=b):(a==b)=true:=by simpa using h
theorem bneF {a b:Int} (h:a=b):(a !=b)=false:=by simpa using h
theorem csf (b c:Bool):(cond b (some c) (some false):Option Bool)=some (b&&c):=by cases b<;>rfl
theorem cst (b c:Bool):(cond b (some true) (some c):Option Bool)=some (b||c):=by cases b<;>rfl
theorem csb (b c d:Bool):(cond b (some c) (some d):Option Bool)=some (cond b c d):=by cases b<;>rfl
theorem rdL_nat {α:Type} (xs:List α) (n:Nat):rdL xs (n:Int)=xs[n]?:=rfl
theorem rdL_some {α:Type} {xs:List α} {i:Int} (h0:0≤i) (h1:i<xs.length):∃x,rdL xs i=some x∧xs[i.toNat]?=some x:=by
 obtain ⟨n,rfl⟩:=Int.eq_ofNat_of_zero_le h0
 have h:n<xs.length:=by omega
 exact ⟨xs[n],by rw [rdL_nat,List.getElem?_eq_getElem h],by simp [h]⟩
theorem rdL_zero {α:Type} (xs:List α):rdL xs 0=xs[0]?:=rfl
theorem drop_get {α:Type} {b:List α} {p:Nat} {y:α} {r:List α} (h:b.drop p=y::r):b[p]?=some y∧p<b.length∧b.drop (p+1)=r:=by
 have h1:=List.getElem?_drop (xs:=b) (i:=p) (j:=0)
 rw [h] at h1
 have hl:=congrArg List.length h
 simp at hl
 refine ⟨by simpa using h1.symm,by omega,?_⟩
 rw [←List.drop_drop,h]
 rfl
theorem eqS_iff (a b:ByteArray):eqS a b=decide (a=b):=by
 unfold eqS
 have h:a.toList=b.toList↔a=b:=by
  constructor
  ·intro h
   rw [ByteArray.toList_eq,ByteArray.toList_eq] at h
   cases a;cases b
   simp only [ByteArray.mk.injEq]
   exact Array.ext' h
  ·rintro rfl;rfl
 by_cases e:a=b
 ·simp [e]
 ·simp only [e,decide_false]
  have:a.toList≠b.toList:=fun h'=>e (h.1 h')
  simp [this]
theorem strInts_length (s:ByteArray):(strInts s).length=s.size:=by
 unfold strInts
 rw [List.length_map,Array.length_toList]
 rfl
theorem strInts_byte (s:ByteArray) (x:Int) (h:x∈strInts s):0≤x∧x<256:=by
 unfold strInts at h
 obtain ⟨c,_,hc⟩:=List.mem_map.1 h
 have:=c.toNat_lt
 omega
theorem intsStr_size (xs:List Int):(intsStr xs).size=xs.length:=strOfNums_size xs
end Go.Law
end
section
set_option linter.unusedVariables false
set_option linter.unusedSimpArgs false
namespace Go.Law
open Go.Am Go.Fn
variable (k:Nat)
theorem wrap_emod (k:IntKind) (x:Int):IntKind.wrap k x%2^k.bits=x%2^k.bits:=by
 have hp:(0:Int)<2^k.bits:=by have:=Nat.two_pow_pos k.bits;exact_mod_cast this
 have h0:=Int.emod_nonneg x (show (2:Int)^k.bits≠0 by omega)
 cases k<;>simp [IntKind.wrap,IntKind.bits,IntKind.signed]<;>omega
theorem ofInt_congr {n:Nat} {a b:Int} (h:a%2^n=b%2^n):BitVec.ofInt n a=BitVec.ofInt n b:=by
 apply BitVec.eq_of_toNat_eq
 rw [BitVec.toNat_ofInt,BitVec.toNat_ofInt]
 have:((2^n:Nat):Int)=(2:Int)^n:=by simp
 rw [this,h]
theorem or_wrap (k:IntKind) (a b:Int):bits .or k (k.wrap a) (k.wrap b)=bits .or k a b:=by
 simp only [bits]
 rw [ofInt_congr (wrap_emod k a),ofInt_congr (wrap_emod k b)]
theorem or_nat (k:IntKind) {a b i:Nat} (ha:a<2^i) (hab:a+b*2^i<2^k.bits):bits .or k (a:Int) ((b*2^i:Nat):Int)=k.wrap ((a+b*2^i:Nat):Int):=by
 have h1:a|||b*2^i=a+b*2^i:=by
  rw [Nat.or_comm,Nat.mul_comm,←Nat.two_pow_add_eq_or_of_lt ha b,Nat.add_comm]
 simp only [bits,BitVec.ofInt_natCast,BitVec.toNat_or,BitVec.toNat_ofNat]
 rw [Nat.mod_eq_of_lt (show a<2^k.bits by omega),Nat.mod_eq_of_lt (show b*2^i<2^k.bits by omega),h1]
theorem or_shl (k:IntKind) {a b i:Nat} (hi:i≤k.bits) (ha:a<2^i) (hab:a+b*2^i<2^k.bits):bits .or k (k.wrap (a:Int)) (shlI k (b:Int) (i:Int))=k.wrap ((a+b*2^i:Nat):Int):=by
 unfold shlI
 rw [Int.toNat_natCast,Nat.min_eq_left hi,or_wrap]
 have:=or_nat k ha hab
 rw [←this]
 simp
def leB (L M:Nat):List Int:=(List.range L).map fun i=>((M/256^i%256:Nat):Int)
theorem leB_len (L M:Nat):(leB L M).length=L:=by simp [leB]
theorem leB_get? {L M i:Nat} (h:i<L):(leB L M)[i]?=some ((M/256^i%256:Nat):Int):=by
 simp [leB,h]
theorem leB_zero (L:Nat):leB L 0=List.replicate L 0:=by
 apply List.ext_getElem (by simp [leB])
 intro i h1 h2
 simp [leB]
theorem pow_split (p:Nat):2^p=256^(p/8)*2^(p%8):=by
 rw [show (256:Nat)=2^8 by decide,←Nat.pow_mul,←Nat.pow_add,Nat.div_add_mod]
theorem byte_low {M p:Nat} (h:M<2^p):M/256^(p/8)<2^(p%8):=by
 rw [pow_split p] at h
 exact Nat.div_lt_of_lt_mul h
theorem byte_add (M b p:Nat):(M+b*2^p)/256^(p/8)=M/256^(p/8)+b*2^(p%8):=by
 rw [pow_split p,show b*(256^(p/8)*2^(p%8))=(b*2^(p%8))*256^(p/8) by rw [Nat.mul_comm (256^_),Nat.mul_assoc],Nat.add_mul_div_right _ _ (Nat.pow_pos (by decide))]
theorem pow8 {r:Nat} (h:r<8):2^r≤128:=by
 have:=Nat.pow_le_pow_right (n:=2) (by decide) (show r≤7 by omega)
 simpa using this
theorem byte_sum {M b p:Nat} (h:M<2^p) (hb:b≤1):M/256^(p/8)+b*2^(p%8)<256:=by
 have h1:=byte_low h
 have h2:=pow8 (Nat.mod_lt p (show 8>0 by decide))
 have h3:b*2^(p%8)≤1*2^(p%8):=Nat.mul_le_mul_right _ hb
 omega
theorem leB_set {L M b p:Nat} (hp:p<8*L) (h:M<2^p) (hb:b≤1):(leB L M).set (p/8) ((M/256^(p/8)+b*2^(p%8):Nat):Int)=leB L (M+b*2^p):=by
 apply List.ext_getElem (by simp [leB])
 intro i h1 h2
 simp only [leB_len] at h2
 rw [List.getElem_set]
 by_cases hi:p/8=i
 ·subst hi
  simp only [if_true]
  simp only [leB,List.getElem_map,List.getElem_range]
  rw [byte_add,Nat.mod_eq_of_lt (byte_sum h hb)]
 ·simp only [hi,if_false,leB,List.getElem_map,List.getElem_range]
  congr 1
  rcases Nat.lt_or_ge i (p/8) with hlt|hge
  ·have hdv:2^p=256^i*(256*(256^(p/8-i-1)*2^(p%8))):=by
    rw [pow_split p]
    have:p/8=i+(1+(p/8-i-1)):=by omega
    conv=>lhs;rw [this,Nat.pow_add,Nat.pow_add]
    simp [Nat.mul_assoc]
   rw [hdv,show b*(256^i*(256*(256^(p/8-i-1)*2^(p%8))))=256^i*(256*(b*(256^(p/8-i-1)*2^(p%8)))) by rw [Nat.mul_left_comm,Nat.mul_left_comm b],Nat.add_mul_div_left _ _ (Nat.pow_pos (by decide)),Nat.add_mul_mod_self_left]
  ·have hlt:p<8*i:=by omega
   have hp2:2^(p+1)≤256^i:=by
    rw [show (256:Nat)=2^8 by decide,←Nat.pow_mul]
    exact Nat.pow_le_pow_right (by decide) (by omega)
   have hb2:b*2^p≤1*2^p:=Nat.mul_le_mul_right _ hb
   rw [Nat.pow_succ] at hp2
   rw [Nat.div_eq_of_lt (show M<256^i by omega),Nat.div_eq_of_lt (show M+b*2^p<256^i by omega)]
theorem leB_bit (M p:Nat):(M/256^(p/8)%256)/2^(p%8)%2=M/2^p%2:=by
 have h8:=Nat.mod_lt p (show 8>0 by decide)
 have h1:256=2^(p%8)*(2*2^(7-p%8)):=by
  rw [←Nat.mul_assoc,Nat.mul_right_comm,←Nat.pow_add,show p%8+(7-p%8)=7 by omega]
 have h2:∀x:Nat,x%256/2^(p%8)%2=x/2^(p%8)%2:=by
  intro x
  rw [h1,Nat.mod_mul_right_div_self,Nat.mod_mul_right_mod]
 rw [h2,Nat.div_div_eq_div_mul,←pow_split]
def u64 (v:Int):Nat:=(v%18446744073709551616).toNat
theorem u64_cast (v:Int):(u64 v:Int)=v%18446744073709551616:=by unfold u64;omega
theorem bit_eq (v:Int) {j:Nat} (hj:j<64):(v/2^j)%2=((u64 v/2^j%2:Nat):Int):=by
 have hv:v=(u64 v:Int)+18446744073709551616*(v/18446744073709551616):=by rw [u64_cast];omega
 have hp0:(2:Int)^j≠0:=by have:=Nat.two_pow_pos j;have:(0:Int)<2^j:=by exact_mod_cast this
                          omega
 have hs:(18446744073709551616:Int)=2^j*(2*2^(63-j)):=by
  have:2^j*(2*2^(63-j))=2^64:=by
   rw [←Nat.mul_assoc,Nat.mul_right_comm,←Nat.pow_add,show j+(63-j)=63 by omega]
  have h2:((2^j*(2*2^(63-j)):Nat):Int)=((2^64:Nat):Int):=by rw [this]
  rw [Int.natCast_mul,Int.natCast_mul,Int.natCast_pow,Int.natCast_pow] at h2
  exact h2.symm
 have key:∀(u:Nat) (q:Int),(((u:Int)+18446744073709551616*q)/2^j)%2=((u/2^j%2:Nat):Int):=by
  intro u q
  rw [hs,Int.mul_assoc,Int.add_mul_ediv_left _ _ hp0]
  rw [show (2:Int)*2^(63-j)*q=2*(2^(63-j)*q) by rw [Int.mul_assoc],Int.add_mul_emod_self_left]
  simp
 conv=>lhs;rw [hv]
 exact key _ _
def packN (w:Nat):List Nat→Nat
 |[]=>0
 |u::r=>u%2^w+2^w*packN w r
theorem packN_lt (w:Nat):∀us:List Nat,packN w us<2^(us.length*w)
 |[]=>by simp [packN]
 |u::r=>by
  have h1:=packN_lt w r
  have h2:=Nat.mod_lt u (Nat.two_pow_pos w)
  simp only [packN,List.length_cons]
  rw [Nat.add_mul,Nat.one_mul,Nat.pow_add,Nat.mul_comm (2^(r.length*w))]
  have h3:2^w*(packN w r+1)≤2^w*2^(r.length*w):=Nat.mul_le_mul_left _ h1
  rw [Nat.mul_add] at h3
  omega
theorem packN_snoc (w u:Nat):∀a:List Nat,packN w (a++[u])=packN w a+(u%2^w)*2^(a.length*w)
 |[]=>by simp [packN]
 |x::a=>by
  simp only [List.cons_append,packN,packN_snoc w u a,List.length_cons]
  rw [Nat.mul_add,Nat.add_mul (a.length) 1,Nat.one_mul,Nat.pow_add,←Nat.add_assoc]
  congr 1
  rw [Nat.mul_left_comm,Nat.mul_comm (2^w)]
theorem mod_succ (u j:Nat):u%2^(j+1)=u%2^j+(u/2^j%2)*2^j:=by
 rw [Nat.pow_succ,Nat.mod_mul,Nat.mul_comm (2^j)]
def bytesOf (n w:Nat):Nat:=(n*w+7)/8
theorem tdiv8 {x:Int} (h:0≤x):Int.tdiv x 8=x/8:=Int.tdiv_eq_ediv_of_nonneg h
theorem tmod8 {x:Int} (h:0≤x):Int.tmod x 8=x%8:=Int.tmod_eq_emod_of_nonneg h
end Go.Law
end
section
set_option linter.unusedVariables false
set_option linter.unusedSimpArgs false
namespace Go.Law
open Go.Am Go.Fn
theorem within_eq (k:Nat) (a b c:Int):impl_within k a b c=some (decide (b≤a)&&decide (a≤c)):=by
 unfold impl_within
 simp only [csf,Option.bind_some,ge_iff_le]
theorem l1In_eq (k:Nat) (a b c:Int):spec_l1In k a b c=some (decide (b≤a)&&decide (a≤c)):=by
 unfold spec_l1In
 simp only [csf,Option.bind_some,ge_iff_le]
theorem getMid {α:Type} (pre post:List α) (x:α):rdL (pre++x::post) (pre.length:Int)=some x:=by
 rw [rdL_nat,List.getElem?_append_right (Nat.le_refl _)];simp
theorem setMid {α:Type} (pre post:List α) (x y:α):List.set (pre++x::post) (Int.toNat (pre.length:Int)) y=pre++y::post:=by
 rw [Int.toNat_natCast,List.set_append_right _ _ (Nat.le_refl _)];simp
end Go.Law
end
section
set_option linter.unusedVariables false
set_option linter.unusedSimpArgs false
namespace Go.Law
open Go.Am Go.Fn
variable (k:Nat)
theorem xor_nat {a b:Nat} (ha:a<2^62) (hb:b<2^62):bits .xor .i64 (a:Int) (b:Int)=((a^^^b:Nat):Int):=by
 have h:=Nat.xor_lt_two_pow ha hb
 simp only [bits,BitVec.ofInt_natCast,BitVec.toNat_xor,BitVec.toNat_ofNat]
 rw [Nat.mod_eq_of_lt (show a<2^IntKind.i64.bits from Nat.lt_of_lt_of_le ha (by decide)),Nat.mod_eq_of_lt (show b<2^IntKind.i64.bits from Nat.lt_of_lt_of_le hb (by decide))]
 exact w64 (by omega) (by omega)
def crT:Nat→Nat→Nat
 |0,n=>n
 |m+1,n=>crT m (if n%2=1 then (n/2)^^^3988292384 else n/2)
theorem crT_lt:∀m n,n<2^32→crT m n<2^32
 |0,n,h=>h
 |m+1,n,h=>by
  unfold crT
  apply crT_lt
  have:n/2<2^32:=by omega
  split
  ·exact Nat.xor_lt_two_pow this (by decide)
  ·exact this
theorem crc_loop:∀(m f i n:Nat),i+m=8→m<f→n<2^32→impl_crcNumber.l2 k f (n:Int) (i:Int)=some ((crT m n:Nat):Int)∧spec_l3Turn.l2 k f (n:Int) (i:Int)=some ((crT m n:Nat):Int):=by
 intro m
 induction m with
 |zero=>
  intro f i n hi hf hn
  obtain ⟨f,rfl⟩:∃x,f=x+1:=⟨f-1,by omega⟩
  simp only [impl_crcNumber.l2,spec_l3Turn.l2,decide_eq_false (show ¬(i:Int)<8 by omega),cond_false,crT]
  exact ⟨trivial,trivial⟩
 |succ m ih=>
  intro f i n hi hf hn
  obtain ⟨f,rfl⟩:∃x,f=x+1:=⟨f-1,by omega⟩
  have e3:IntKind.wrap .i64 ((i:Int)+1)=((i+1:Nat):Int):=by rw [w64 (by omega) (by omega)];omega
  have hdiv:IntKind.wrap .i64 (Int.tdiv (n:Int) 2)=((n/2:Nat):Int):=by
   rw [Int.tdiv_eq_ediv_of_nonneg (by omega),w64 (by omega) (by omega)];omega
  have hmod:Int.tmod (n:Int) 2=((n%2:Nat):Int):=by rw [Int.tmod_eq_emod_of_nonneg (by omega)];omega
  have hand:bits .and .i64 (n:Int) 1=((n%2:Nat):Int):=by rw [and1];omega
  have hx:bits .xor .i64 ((n/2:Nat):Int) 3988292384=(((n/2)^^^3988292384:Nat):Int):=xor_nat (b:=3988292384) (by omega) (by decide)
  simp only [impl_crcNumber.l2,spec_l3Turn.l2,decide_eq_true (show (i:Int)<8 by omega),cond_true,hdiv,hmod,hand,hx,impl_crcNumber.c7,spec_l3Turn.c3,e3,crT]
  by_cases hodd:n%2=1
  ·rw [hodd,beqT (by rfl),if_pos rfl,cond_true,cond_true]
   exact ih f (i+1) _ (by omega) (by omega) (Nat.xor_lt_two_pow (by omega) (by decide))
  ·have h0:n%2=0:=by omega
   rw [h0,beqF (by decide),if_neg (by decide),cond_false,cond_false]
   exact ih f (i+1) _ (by omega) (by omega) (by omega)
theorem crc_num (hk:100≤k) (n:Nat) (hn:n<2^32):impl_crcNumber k (n:Int)=some ((crT 8 n:Nat):Int)∧spec_l3Turn k (n:Int)=some ((crT 8 n:Nat):Int):=
 crc_loop k 8 k 0 n rfl (by omega) hn
def crTab:List Int:=(List.range 256).map fun n=>((crT 8 n:Nat):Int)
theorem tab_loop (hk:1000≤k):∀(m f i:Nat),i+m=256→m<f→impl_CrcTable.l3 k f (i:Int) ((List.range i).map fun n=>((crT 8 n:Nat):Int))=some ((),crTab):=by
 intro m
 induction m with
 |zero=>
  intro f i hi hf
  obtain ⟨f,rfl⟩:∃x,f=x+1:=⟨f-1,by omega⟩
  obtain rfl:i=256:=by omega
  simp only [impl_CrcTable.l3,decide_eq_false (show ¬((256:Nat):Int)<256 by omega),cond_false]
  rfl
 |succ m ih=>
  intro f i hi hf
  obtain ⟨f,rfl⟩:∃x,f=x+1:=⟨f-1,by omega⟩
  have e3:IntKind.wrap .i64 ((i:Int)+1)=((i+1:Nat):Int):=by rw [w64 (by omega) (by omega)];omega
  simp only [impl_CrcTable.l3,decide_eq_true (show (i:Int)<256 by omega),cond_true,(crc_num k (by omega) i (by omega)).1,Option.bind_some,e3,lim_ok (show ((List.range i).map fun n=>((crT 8 n:Nat):Int)).length+[((crT 8 i:Nat):Int)].length≤4294967296 by simp;omega)]
  have:=ih f (i+1) (by omega) (by omega)
  rw [List.range_succ,List.map_append,List.map_singleton] at this
  exact this
theorem tab_eq (hk:1000≤k):impl_CrcTable k=some ((),crTab):=tab_loop k hk 256 k 0 (by omega) (by omega)
theorem more_loop (hk:1000≤k) (b:List Int) (hb:b.length<1000000000) (hby:∀x,x∈b→0≤x∧x<256):∀(post pre:List Int) (f c:Nat),b=pre++post→post.length<f→c<2^32→
 ∃r:Int,impl_CrcMore.l6 k f (c:Int) b (b.length:Int) (pre.length:Int) crTab=some r∧spec_CrcMore.l5 k f b (c:Int) (pre.length:Int)=some r:=by
 intro post
 induction post with
 |nil=>
  intro pre f c hp hf hc
  obtain ⟨f,rfl⟩:∃x,f=x+1:=⟨f-1,by omega⟩
  have:b=pre:=by simpa using hp
  subst this
  simp only [impl_CrcMore.l6,spec_CrcMore.l5,decide_eq_false (show ¬(b.length:Int)<(b.length:Int) by omega),cond_false]
  exact ⟨_,rfl,rfl⟩
 |cons y post ih=>
  intro pre f c hp hf hc
  simp only [List.length_cons] at hf
  obtain ⟨f,rfl⟩:∃x,f=x+1:=⟨f-1,by omega⟩
  have hlen:b.length=pre.length+(post.length+1):=by rw [hp];simp
  have hg:rdL b (pre.length:Int)=some y:=by rw [hp];exact getMid pre post y
  obtain ⟨y0,y1⟩:=hby y (by rw [hp];simp)
  obtain ⟨y,rfl⟩:∃m:Nat,y=m:=⟨y.toNat,by omega⟩
  have e255:bits .and .i64 (c:Int) 255=((c%256:Nat):Int):=by rw [and255];omega
  have ey:IntKind.wrap .i64 ((y:Nat):Int)=((y:Nat):Int):=w64 (by omega) (by omega)
  have hix:c%256^^^y<256:=Nat.xor_lt_two_pow (n:=8) (by omega) (by omega)
  have ex:bits .xor .i64 ((c%256:Nat):Int) ((y:Nat):Int)=((c%256^^^y:Nat):Int):=xor_nat (by omega) (by omega)
  have htab:rdL crTab ((c%256^^^y:Nat):Int)=some ((crT 8 (c%256^^^y):Nat):Int):=by
   rw [rdL_nat]
   unfold crTab
   rw [List.getElem?_map,List.getElem?_range hix]
   rfl
  have hs8:shrI .i64 (c:Int) 8=((c/256:Nat):Int):=by
   rw [show (8:Int)=((8:Nat):Int) from rfl,shrI_eq .i64 _ 8 (by decide)]
   simp
  have hT:=crT_lt 8 (c%256^^^y) (by omega)
  have x1:bits .xor .i64 ((crT 8 (c%256^^^y):Nat):Int) ((c/256:Nat):Int)=((crT 8 (c%256^^^y)^^^(c/256):Nat):Int):=xor_nat (by omega) (by omega)
  have x2:bits .xor .i64 ((c/256:Nat):Int) ((crT 8 (c%256^^^y):Nat):Int)=((crT 8 (c%256^^^y)^^^(c/256):Nat):Int):=by rw [xor_nat (by omega) (by omega),Nat.xor_comm]
  have e3:IntKind.wrap .i64 ((pre.length:Int)+1)=(pre.length:Int)+1:=w64 (by omega) (by omega)
  simp only [impl_CrcMore.l6,spec_CrcMore.l5,decide_eq_true (show (pre.length:Int)<(b.length:Int) by omega),cond_true,hg,Option.bind_some,e255,ey,ex,htab,hs8,x1,(crc_num k (by omega) (c%256^^^y) (by omega)).2,x2,e3]
  have:=ih (pre++[((y:Nat):Int)]) f (crT 8 (c%256^^^y)^^^(c/256)) (by rw [hp];simp) (by omega) (Nat.xor_lt_two_pow hT (by omega))
  rw [List.length_append,List.length_singleton] at this
  exact this
theorem crcOf_eq (hk:1000≤k) (b:List Int) (hb:b.length<1000000000) (hlk:b.length<k) (hby:∀x,x∈b→0≤x∧x<256):∃r:Int,impl_CrcOf k b=some r∧spec_CrcOf k b=some r:=by
 unfold impl_CrcOf spec_CrcOf impl_CrcMore spec_CrcMore
 have e:bits .xor .i64 0 4294967295=((4294967295:Nat):Int):=xor_nat (a:=0) (b:=4294967295) (by decide) (by decide)
 obtain ⟨r,r1,r2⟩:=more_loop k hk b hb hby b [] k 4294967295 rfl hlk (by decide)
 rw [List.length_nil,show ((0:Nat):Int)=0 from rfl] at r1 r2
 simp only [within_eq,l1In_eq,show (decide ((0:Int)≤0)&&decide ((0:Int)≤4294967295))=true by decide,Option.bind_some,Bool.not_true,cond_false,tab_eq k hk,e,r1,r2]
 exact ⟨_,rfl,rfl⟩
end Go.Law
end
section
set_option linter.unusedVariables false
set_option linter.unusedSimpArgs false
namespace Go.Law
open Go.Am Go.Fn
def uvB:Nat→Nat→List Int
 |0,n=>[(n:Int)]
 |f+1,n=>if 127<n then ((n%128+128:Nat):Int)::uvB f (n/128) else [(n:Int)]
def uv (x:Int):List Int:=uvB 9 (x%18446744073709551616).toNat
theorem xor_zero (a:Int) (h0: -9223372036854775808≤a) (h1:a<9223372036854775808):bits .xor .i64 a 0=a:=by
 have e:(BitVec.ofInt (IntKind.bits .i64) a^^^BitVec.ofInt (IntKind.bits .i64) 0)=BitVec.ofInt (IntKind.bits .i64) a:=by simp
 simp only [bits,e,BitVec.toNat_ofInt]
 show IntKind.wrap .i64 (((a%((2^64:Nat):Int)).toNat:Nat):Int)=a
 rw [IntKind.wrap_i64]
 omega
theorem xor_ones (a:Int) (h0: -9223372036854775808≤a) (h1:a<9223372036854775808):bits .xor .i64 a (-1)= -a-1:=by
 have e:(BitVec.ofInt (IntKind.bits .i64) a^^^BitVec.ofInt (IntKind.bits .i64) (-1))= ~~~BitVec.ofInt (IntKind.bits .i64) a:=by
  have:BitVec.ofInt (IntKind.bits .i64) (-1)=BitVec.allOnes (IntKind.bits .i64):=by decide
  rw [this,BitVec.xor_allOnes]
 simp only [bits,e,BitVec.toNat_not,BitVec.toNat_ofInt]
 show IntKind.wrap .i64 ((2^64-1-(a%((2^64:Nat):Int)).toNat:Nat):Int)=_
 rw [IntKind.wrap_i64]
 omega
def zig (x:Int):Int:=if 0≤x then IntKind.wrap .i64 (x*2) else -IntKind.wrap .i64 (x*2)-1
theorem zag_zig (k:Nat) (x:Int) (h0: -9223372036854775808≤x) (h1:x<9223372036854775808):impl_Zag k (zig x)=some x:=by
 unfold impl_Zag
 rw [and1,wu64_eq,shr1u,w64 (by omega) (by omega)]
 have hz:zig x=if 0≤x then (x*2+9223372036854775808)%18446744073709551616-9223372036854775808 else -((x*2+9223372036854775808)%18446744073709551616-9223372036854775808)-1:=by
  unfold zig;rw [IntKind.wrap_i64]
 by_cases hx:0≤x
 ·rw [if_pos hx] at hz
  rw [show zig x%2=0 by omega,show IntKind.wrap .i64 (0-0)=0 by decide,xor_zero _ (by omega) (by omega)]
  congr 1
  omega
 ·rw [if_neg hx] at hz
  rw [show zig x%2=1 by omega,show IntKind.wrap .i64 (0-1)= -1 by decide,xor_ones _ (by omega) (by omega)]
  congr 1
  omega
end Go.Law
end
section
set_option linter.unusedVariables false
set_option linter.unusedSimpArgs false
namespace Go.Law
open Go.Am Go.Fn
variable (k:Nat)
theorem idx8 {p:Nat} (h:p<1152921504606846976):IntKind.wrap .i64 (Int.tdiv (p:Int) 8)=((p/8:Nat):Int):=by
 rw [tdiv8 (by omega),w64 (by omega) (by omega)];omega
theorem idm8 (p:Nat):Int.tmod (p:Int) 8=((p%8:Nat):Int):=by
 rw [tmod8 (by omega)];omega
theorem orbyte {M p b:Nat} (h:M<2^p) (hb:b≤1):bits .or .u8 ((M/256^(p/8)%256:Nat):Int) (shlI .u8 (b:Int) ((p%8:Nat):Int))=((M/256^(p/8)+b*2^(p%8):Nat):Int):=by
 have h1:=byte_low h
 have h2:=byte_sum h hb
 have h3:=Nat.mod_lt p (show 8>0 by decide)
 have h4:M/256^(p/8)%256=M/256^(p/8):=Nat.mod_eq_of_lt (by omega)
 rw [h4]
 have:=or_shl .u8 (a:=M/256^(p/8)) (b:=b) (i:=p%8) (show p%8≤8 by omega) h1 (show _<2^8 by omega)
 rw [w8 (by omega) (by omega)] at this
 rw [this,w8 (by omega) (by omega)]
theorem low_lt {M0 u q j:Nat} (h:M0<2^q):M0+(u%2^j)*2^q<2^(q+j):=by
 have h1:=Nat.mod_lt u (Nat.two_pow_pos j)
 have h2:(u%2^j+1)*2^q≤2^j*2^q:=Nat.mul_le_mul_right _ h1
 rw [Nat.add_mul,Nat.one_mul] at h2
 rw [Nat.pow_add,Nat.mul_comm (2^q)]
 omega
theorem low_succ (M0 u q j:Nat):M0+(u%2^j)*2^q+(u/2^j%2)*2^(q+j)=M0+(u%2^(j+1))*2^q:=by
 rw [mod_succ,Nat.add_mul,Nat.mul_assoc (u/2^j%2),←Nat.pow_add,Nat.add_comm j q,Nat.add_assoc]
theorem shr_bit (v:Int) {j:Nat} (hj:j<64):bits .and .i64 (shrI .i64 v (j:Int)) 1=((u64 v/2^j%2:Nat):Int):=by
 rw [shrI_eq .i64 v j (show j≤64 by omega),and1,bit_eq v hj]
theorem packed_inner (L3:Int→(List Int)→Int→Int→(List Int)→Option (Unit×(List Int))) (vs:List Int) (len v:Int) (w i q L M0:Nat) (hw:w≤64) (hq:(i:Int)*(w:Int)=(q:Int)) (hqL:q+w≤8*L) (hL:L<1000000) (hi:i<1000000) (hM:M0<2^q):
 ∀(m n j:Nat),j+m=w→m<n→impl_packed.l6 k L3 n (w:Int) (i:Int) v vs len (i:Int) (w:Int) (j:Int) (leB L (M0+(u64 v%2^j)*2^q))=L3 (w:Int) vs len ((i+1:Nat):Int) (leB L (M0+(u64 v%2^w)*2^q)):=by
 intro m
 induction m with
 |zero=>
  intro n j hj hn
  obtain ⟨n,rfl⟩:∃x,n=x+1:=⟨n-1,by omega⟩
  obtain rfl:j=w:=by omega
  simp only [impl_packed.l6,decide_eq_false (show ¬(j:Int)<(j:Int) by omega),cond_false]
  rw [w64 (by omega) (by omega)]
  congr 1
 |succ m ih=>
  intro n j hj hn
  obtain ⟨n,rfl⟩:∃x,n=x+1:=⟨n-1,by omega⟩
  have hp:IntKind.wrap .i64 (IntKind.wrap .i64 ((i:Int)*(w:Int))+(j:Int))=((q+j:Nat):Int):=by
   rw [hq,w64 (x:=(q:Int)) (by omega) (by omega),w64 (by omega) (by omega)];omega
  have hlt:=low_lt (u:=u64 v) (j:=j) hM
  have hb:u64 v/2^j%2≤1:=by omega
  have hg:rdL (leB L (M0+u64 v%2^j*2^q)) (((q+j)/8:Nat):Int)=some _:=leB_get? (by omega)
  have hbi:IntKind.wrap .u8 ((u64 v/2^j%2:Nat):Int)=((u64 v/2^j%2:Nat):Int):=w8 (by omega) (by omega)
  simp only [impl_packed.l6,decide_eq_true (show (j:Int)<(w:Int) by omega),cond_true,hp,idx8 (show q+j<1152921504606846976 by omega),idm8,hg,Option.bind_some,decide_eq_true (show (0:Int)≤(j:Int) by omega),decide_eq_true (show (0:Int)≤(((q+j)%8:Nat):Int) by omega),shr_bit v (show j<64 by omega),hbi,orbyte hlt hb,Int.toNat_natCast,leB_set (show q+j<8*L by omega) hlt hb,low_succ]
  rw [w64 (by omega) (by omega)]
  exact ih n (j+1) (by omega) (by omega)
def packV (w:Nat) (vs:List Int):Nat:=packN w (vs.map u64)
theorem packed_loop (w L:Nat) (hw:w≤64) (hL:L<1000000) (hk:w<k) (vs:List Int) (hvs:vs.length<1000000) (hb:vs.length*w≤8*L):∀(post pre:List Int) (n:Nat),vs=pre++post→post.length<n→
 impl_packed.l3 k n (w:Int) vs (vs.length:Int) (pre.length:Int) (leB L (packV w pre))=some ((),leB L (packV w vs)):=by
 intro post
 induction post with
 |nil=>
  intro pre n hv hn
  obtain ⟨n,rfl⟩:∃x,n=x+1:=⟨n-1,by omega⟩
  have:vs=pre:=by simpa using hv
  subst this
  simp only [impl_packed.l3,decide_eq_false (show ¬(vs.length:Int)<(vs.length:Int) by omega),cond_false]
 |cons v post ih=>
  intro pre n hv hn
  simp only [List.length_cons] at hn
  obtain ⟨n,rfl⟩:∃x,n=x+1:=⟨n-1,by omega⟩
  have hlen:vs.length=pre.length+(post.length+1):=by rw [hv];simp
  have hg:rdL vs (pre.length:Int)=some v:=by rw [hv,rdL_nat,List.getElem?_append_right (Nat.le_refl _)];simp
  have hM:=packN_lt w (pre.map u64)
  rw [List.length_map] at hM
  have hmul:pre.length*w+w≤vs.length*w:=by
   have:(pre.length+1)*w≤vs.length*w:=Nat.mul_le_mul_right _ (by omega)
   rw [Nat.add_mul,Nat.one_mul] at this
   exact this
  have hi:=packed_inner k (impl_packed.l3 k n) vs (vs.length:Int) v w pre.length (pre.length*w) L (packV w pre) hw (by simp) (by omega) hL (by omega) hM w k 0 (by omega) hk
  simp only [Nat.pow_zero,Nat.mod_one,Nat.zero_mul,Nat.add_zero] at hi
  simp only [impl_packed.l3,decide_eq_true (show (pre.length:Int)<(vs.length:Int) by omega),cond_true,hg,Option.bind_some]
  have h0:((0:Nat):Int)=0:=rfl
  rw [h0] at hi
  rw [hi]
  have:=ih (pre++[v]) n (by rw [hv];simp) (by omega)
  rw [List.length_append,List.length_singleton] at this
  rw [←this]
  unfold packV
  rw [List.map_append,List.map_singleton,packN_snoc,List.length_map]
theorem len8 {n w:Nat} (hn:n≤100000) (hw:w≤64):IntKind.wrap .i64 (Int.tdiv (IntKind.wrap .i64 (IntKind.wrap .i64 ((n:Int)*(w:Int))+7)) 8)=((bytesOf n w:Nat):Int)∧bytesOf n w<1000000∧n*w≤8*bytesOf n w:=by
 have h1:n*w≤100000*64:=Nat.mul_le_mul hn hw
 have h2:(n:Int)*(w:Int)=((n*w:Nat):Int):=by simp
 unfold bytesOf
 rw [h2]
 generalize n*w=q at h1⊢
 rw [w64 (x:=(q:Int)) (by omega) (by omega),w64 (x:=(q:Int)+7) (by omega) (by omega),tdiv8 (by omega),w64 (by omega) (by omega)]
 omega
def packB (w:Nat) (vs:List Int):List Int:=leB (bytesOf vs.length w) (packV w vs)
theorem packed_eq (vs:List Int) (w:Nat) (hw:w≤64) (hvs:vs.length≤100000) (hk:vs.length<k) (hk2:w<k):impl_packed k vs (w:Int)=some ((),packB w vs):=by
 obtain ⟨h1,h2,h3⟩:=len8 hvs hw
 unfold impl_packed
 rw [h1,okLen_ok (by omega) (by omega),cond_true,Int.toNat_natCast,←leB_zero]
 exact packed_loop k w _ hw h2 hk2 vs (by omega) h3 vs [] k rfl hk
theorem bitAt_eq (pre post:List Int) (L M p:Nat) (hp:p<8*L) (hl:pre.length+L<100000000000000000):impl_BitAt k (pre++(leB L M++post)) ((8*pre.length+p:Nat):Int)=some ((M/2^p%2:Nat):Int):=by
 unfold impl_BitAt
 have hd:(8*pre.length+p)/8=pre.length+p/8:=by omega
 have hm:(8*pre.length+p)%8=p%8:=by omega
 have hg:rdL (pre++(leB L M++post)) ((pre.length+p/8:Nat):Int)=some ((M/256^(p/8)%256:Nat):Int):=by
  rw [rdL_nat,List.getElem?_append_right (by omega),List.getElem?_append_left (by rw [leB_len];omega),Nat.add_sub_cancel_left]
  exact leB_get? (by omega)
 simp only [decide_eq_false (show ¬(((8*pre.length+p:Nat):Int)<0) by omega),cond_false,idx8 (show 8*pre.length+p<1152921504606846976 by omega),idm8,hd,hm,hg,Option.bind_some,
  decide_eq_false (show ¬(((pre.length+p/8:Nat):Int)≥((pre++(leB L M++post)).length:Int)) by simp [leB_len];omega),decide_eq_true (show (0:Int)≤((p%8:Nat):Int) by omega),cond_true]
 rw [shrI_eq .u8 _ (p%8) (show p%8≤8 by omega)]
 have h1:((M/256^(p/8)%256:Nat):Int)/2^(p%8)=((M/256^(p/8)%256/2^(p%8):Nat):Int):=by simp
 rw [h1]
 have hlt:M/256^(p/8)%256/2^(p%8)<256:=Nat.lt_of_le_of_lt (Nat.div_le_self _ _) (Nat.mod_lt _ (by decide))
 have hb:=leB_bit M p
 generalize M/256^(p/8)%256/2^(p%8)=x at hlt hb
 have h2:=bits_mask .u8 8 (by decide) wraps_u8 1 (by decide) (x:Int) (by omega) (by omega)
 have h2:bits .and .u8 (x:Int) 1=(x:Int)%2:=h2
 rw [h2,w64 (by omega) (by omega),←hb]
 simp
def unpackAt (w M i:Nat):Int:=IntKind.wrap .i64 ((M/2^(i*w)%2^w:Nat):Int)
theorem un_inner (L3:(List Int)→Int→Int→Int→Int→(List Int)→Option (Unit×(List Int))) (pre post:List Int) (L M w i q:Nat) (t14:Int) (hw:w≤64) (hq:(i:Int)*(w:Int)=(q:Int)) (hqn:i*w=q) (hqL:q+w≤8*L) (hl:pre.length+L<10000000000000000) (hi:i<1000000) (o:List Int) (ho:o.length<1000000):
 ∀(m n j:Nat),j+m=w→m<n→impl_unpacked.l7 k L3 n (pre++(leB L M++post)) (pre.length:Int) (w:Int) (i:Int) (IntKind.wrap .i64 ((M/2^q%2^j:Nat):Int)) t14 (i:Int) (w:Int) (j:Int) o=L3 (pre++(leB L M++post)) (pre.length:Int) (w:Int) t14 ((i+1:Nat):Int) (o++[unpackAt w M i]):=by
 intro m
 induction m with
 |zero=>
  intro n j hj hn
  obtain ⟨n,rfl⟩:∃x,n=x+1:=⟨n-1,by omega⟩
  obtain rfl:j=w:=by omega
  simp only [impl_unpacked.l7,decide_eq_false (show ¬(j:Int)<(j:Int) by omega),cond_false]
  rw [lim_ok (by simp;omega),cond_true,w64 (x:=(i:Int)+1) (by omega) (by omega)]
  unfold unpackAt
  rw [hqn]
  congr 1
 |succ m ih=>
  intro n j hj hn
  obtain ⟨n,rfl⟩:∃x,n=x+1:=⟨n-1,by omega⟩
  have hp:IntKind.wrap .i64 (IntKind.wrap .i64 (IntKind.wrap .i64 (8*(pre.length:Int))+IntKind.wrap .i64 ((i:Int)*(w:Int)))+(j:Int))=((8*pre.length+(q+j):Nat):Int):=by
   rw [hq,w64 (x:=(q:Int)) (by omega) (by omega),w64 (x:=8*(pre.length:Int)) (by omega) (by omega),w64 (x:=8*(pre.length:Int)+(q:Int)) (by omega) (by omega),w64 (by omega) (by omega)];omega
  have hb:=bitAt_eq k pre post L M (q+j) (by omega) (by omega)
  simp only [impl_unpacked.l7,decide_eq_true (show (j:Int)<(w:Int) by omega),cond_true,hp,hb,Option.bind_some,decide_eq_true (show (0:Int)≤(j:Int) by omega)]
  have hlt:M/2^q%2^j<2^j:=Nat.mod_lt _ (Nat.two_pow_pos j)
  have hjj:2^(j+1)≤2^64:=Nat.pow_le_pow_right (by decide) (by omega)
  have hb1:M/2^(q+j)%2≤1:=by omega
  have hb2:M/2^(q+j)%2*2^j≤1*2^j:=Nat.mul_le_mul_right _ hb1
  have ho:=or_shl .i64 (a:=M/2^q%2^j) (b:=M/2^(q+j)%2) (i:=j) (show j≤64 by omega) hlt (show _<2^64 by rw [Nat.pow_succ] at hjj;omega)
  rw [ho]
  have hs:M/2^q%2^j+M/2^(q+j)%2*2^j=M/2^q%2^(j+1):=by
   rw [mod_succ,Nat.div_div_eq_div_mul,←Nat.pow_add]
  rw [hs,w64 (x:=(j:Int)+1) (by omega) (by omega),show ((j:Int)+1)=((j+1:Nat):Int) by omega]
  exact ih n (j+1) (by omega) (by omega)
theorem unpacked_loop (pre post:List Int) (L M w N:Nat) (hw:w≤64) (hN:N*w≤8*L) (hl:pre.length+L<10000000000000000) (hN2:N<1000000) (hk:w<k):
 ∀(m n i:Nat) (o:List Int),i+m=N→m<n→o.length=i→impl_unpacked.l3 k n (pre++(leB L M++post)) (pre.length:Int) (w:Int) (N:Int) (i:Int) o=some ((),o++(List.range' i m).map (unpackAt w M)):=by
 intro m
 induction m with
 |zero=>
  intro n i o hi hn ho
  obtain ⟨n,rfl⟩:∃x,n=x+1:=⟨n-1,by omega⟩
  simp only [impl_unpacked.l3,decide_eq_false (show ¬(i:Int)<(N:Int) by omega),cond_false]
  simp
 |succ m ih=>
  intro n i o hi hn ho
  obtain ⟨n,rfl⟩:∃x,n=x+1:=⟨n-1,by omega⟩
  have hmul:i*w+w≤N*w:=by
   have:(i+1)*w≤N*w:=Nat.mul_le_mul_right _ (by omega)
   rw [Nat.add_mul,Nat.one_mul] at this
   exact this
  have hi':=un_inner k (impl_unpacked.l3 k n) pre post L M w i (i*w) (N:Int) hw (by simp) rfl (by omega) hl (by omega) o (by omega) w k 0 (by omega) hk
  simp only [Nat.pow_zero,Nat.mod_one] at hi'
  simp only [impl_unpacked.l3,decide_eq_true (show (i:Int)<(N:Int) by omega),cond_true]
  have h0:((0:Nat):Int)=0:=rfl
  have hw0:IntKind.wrap .i64 0=0:=rfl
  rw [h0,hw0] at hi'
  rw [hi',ih n (i+1) _ (by omega) (by omega) (by simp;omega)]
  simp [List.range'_succ]
theorem unpacked_eq (pre post:List Int) (L M w N:Nat) (hw:w≤64) (hN:N*w≤8*L) (hl:pre.length+L<10000000000000000) (hN2:N<1000000) (hk:w<k) (hk2:N<k):
 impl_unpacked k (pre++(leB L M++post)) (pre.length:Int) (N:Int) (w:Int)=some ((),(List.range N).map (unpackAt w M)):=by
 unfold impl_unpacked
 have:=unpacked_loop k pre post L M w N hw hN hl hN2 hk N k 0 [] (by omega) hk2 rfl
 rw [List.range_eq_range']
 simpa using this
end Go.Law
end
section
set_option linter.unusedVariables false
set_option linter.unusedSimpArgs false
namespace Go.Law
open Go.Am Go.Fn
def gvN:Nat→List Int→Option (Nat×Nat)
 |0,_=>none
 |_+1,[]=>none
 |f+1,c::r=>if f=0∧1<c then none else if c<128 then some (c.toNat,1) else (gvN f r).map fun x=>((c%128).toNat+128*x.1,x.2+1)
def gv (l:List Int):Option (Int×Nat):=(gvN 10 l).map fun x=>(IntKind.wrap .i64 (x.1:Int),x.2)
theorem gvN_facts:∀(f:Nat) (l:List Int) (v n:Nat),(∀x,x∈l→0≤x∧x<256)→gvN (f+1) l=some (v,n)→v<2*128^f∧1≤n∧n≤l.length∧n≤f+1∧(uvB f v).length≤n:=by
 intro f
 induction f with
 |zero=>
  intro l v n hb h
  cases l with
  |nil=>simp [gvN] at h
  |cons c r=>
   obtain ⟨c0,c1⟩:=hb c (by simp)
   simp only [gvN,true_and] at h
   split at h
   ·cases h
   ·split at h
    ·simp only [Option.some.injEq,Prod.mk.injEq] at h
     obtain ⟨rfl,rfl⟩:=h
     simp [uvB];omega
    ·simp at h
 |succ f ih=>
  intro l v n hb h
  cases l with
  |nil=>simp [gvN] at h
  |cons c r=>
   obtain ⟨c0,c1⟩:=hb c (by simp)
   rw [gvN,if_neg (by omega)] at h
   have hP:1≤128^f:=Nat.pow_pos (by decide)
   have hP2:(128:Nat)^(f+1)=128*128^f:=by rw [Nat.pow_succ,Nat.mul_comm]
   split at h
   ·simp only [Option.some.injEq,Prod.mk.injEq] at h
    obtain ⟨rfl,rfl⟩:=h
    refine ⟨by omega,by omega,by simp,by omega,?_⟩
    simp only [uvB]
    rw [if_neg (by omega)]
    simp
   ·cases hg:gvN (f+1) r with
    |none=>rw [hg] at h;cases h
    |some x=>
     obtain ⟨v',n'⟩:=x
     rw [hg] at h
     simp only [Option.map_some,Option.some.injEq,Prod.mk.injEq] at h
     obtain ⟨rfl,rfl⟩:=h
     obtain ⟨i1,i2,i3,i4,i5⟩:=ih r v' n' (fun x hx=>hb x (by simp [hx])) hg
     refine ⟨by omega,by omega,by simp;omega,by omega,?_⟩
     simp only [uvB]
     split
     ·rw [List.length_cons,show ((c%128).toNat+128*v')/128=v' by omega]
      omega
     ·simp
theorem gv_facts (l:List Int) (u:Int) (n:Nat) (hb:∀x,x∈l→0≤x∧x<256) (h:gv l=some (u,n)):I64 u∧1≤n∧n≤l.length∧n≤10∧(uv u).length≤n:=by
 unfold gv at h
 cases hg:gvN 10 l with
 |none=>rw [hg] at h;cases h
 |some x=>
  obtain ⟨v,n'⟩:=x
  rw [hg] at h
  simp only [Option.map_some,Option.some.injEq,Prod.mk.injEq] at h
  obtain ⟨rfl,rfl⟩:=h
  obtain ⟨h1,h2,h3,h4,h5⟩:=gvN_facts 9 l v n' hb hg
  have h1:v<18446744073709551616:=by simpa using h1
  refine ⟨⟨w64_lo _,w64_hi _⟩,h2,h3,h4,?_⟩
  unfold uv
  rw [IntKind.wrap_i64,show (((v:Int)+9223372036854775808)%18446744073709551616-9223372036854775808)%18446744073709551616=(v:Int) by omega,Int.toNat_natCast]
  exact h5
theorem drop_cons_of {α:Type} {l:List α} {p:Nat} (h:p<l.length):∃c,l.drop p=c::l.drop (p+1)∧l[p]?=some c:=by
 refine ⟨l[p],?_,by simp [h]⟩
 rw [List.drop_eq_getElem_cons h]
theorem igetLoop (k:Nat) (b:List Int) (p:Nat) (hb:b.length<4611686018427387904) (hby:∀x,x∈b→0≤x∧x<256) (hp:p<4611686018427387904):∀(f n i acc:Nat),i+f=10→f<n→acc<2^(7*i)→
 impl_UvarGet.l5 k n b (p:Int) (acc:Int) (i:Int)=match gvN f (b.drop (p+i)) with
  |none=>some (0,0,false)
  |some (v,m)=>some (IntKind.wrap .i64 ((acc+v*2^(7*i):Nat):Int),((p+i+m:Nat):Int),true):=by
 intro f
 induction f with
 |zero=>
  intro n i acc hi hn hacc
  obtain ⟨n,rfl⟩:∃j,n=j+1:=⟨n-1,by omega⟩
  obtain rfl:i=10:=by omega
  simp only [impl_UvarGet.l5,show decide (((10:Nat):Int)<10)=false by decide,cond_false,Option.bind_some,gvN,impl_UvarGet.c12]
 |succ f ih=>
  intro n i acc hi hn hacc
  obtain ⟨n,rfl⟩:∃j,n=j+1:=⟨n-1,by omega⟩
  have hP:0<2^(7*i):=Nat.two_pow_pos _
  have hP7:2^(7*(i+1))=128*2^(7*i):=by rw [Nat.mul_add,Nat.pow_add];simp [Nat.mul_comm]
  have c1:decide ((i:Int)<10)=true:=by simp;omega
  by_cases hlt:p+i<b.length
  ·obtain ⟨c,hc,hc2⟩:=drop_cons_of hlt
   obtain ⟨c0,c255⟩:=hby c (List.mem_of_getElem? hc2)
   have e1:IntKind.wrap .i64 ((b.length:Int)-(p:Int))=(b.length:Int)-p:=w64 (by omega) (by omega)
   have e2:IntKind.wrap .i64 ((p:Int)+(i:Int))=((p+i:Nat):Int):=by rw [w64 (by omega) (by omega)];omega
   have e3:IntKind.wrap .i64 (7*(i:Int))=((7*i:Nat):Int):=by rw [w64 (by omega) (by omega)];omega
   have e5:IntKind.wrap .i64 (((p+i:Nat):Int)+1)=((p+i+1:Nat):Int):=by rw [w64 (by omega) (by omega)];omega
   have e6:IntKind.wrap .i64 ((i:Int)+1)=((i+1:Nat):Int):=by rw [w64 (by omega) (by omega)];omega
   have c2:decide ((i:Int)<(b.length:Int)-p)=true:=by simp;omega
   have c5:decide ((0:Int)≤((7*i:Nat):Int))=true:=decide_eq_true (by omega)
   have hget:rdL b ((p+i:Nat):Int)=some c:=by rw [rdL_nat];exact hc2
   rw [hc,gvN]
   simp only [impl_UvarGet.l5,c1,e1,c2,e2,e3,e5,e6,hget,cond_true,Option.bind_some,csf]
   by_cases h9:f=0∧1<c
   ·obtain ⟨rfl,h1c⟩:=h9
    obtain rfl:i=9:=by omega
    rw [if_pos ⟨rfl,h1c⟩]
    simp only [show (((9:Nat):Int)==9)=true by decide,show decide (c>1)=true from decide_eq_true h1c,Bool.and_self,cond_true,impl_UvarGet.c12]
   ·rw [if_neg h9]
    have h9b:(((i:Int)==9)&&decide (c>1))=false:=by
     rw [Bool.eq_false_iff];intro q
     simp only [Bool.and_eq_true,beq_iff_eq,decide_eq_true_eq] at q
     exact h9 ⟨by omega,q.2⟩
    simp only [h9b,cond_false,c5,cond_true]
    have hcm:(c%128)*2^(7*i)<18446744073709551616:=by
     by_cases hf:f=0
     ·have:i=9:=by omega
      subst this
      have:c≤1:=by
       rcases Int.lt_or_le 1 c with q|q
       ·exact (h9 ⟨hf,q⟩).elim
       ·exact q
      have h2:(2:Int)^(7*9)=9223372036854775808:=by decide
      rw [h2];omega
     ·have:(2:Int)^(7*i)≤2^56:=by
       have:=Nat.pow_le_pow_right (n:=2) (by omega) (show 7*i≤56 by omega)
       exact_mod_cast this
      have h3:(2:Int)^56=72057594037927936:=by decide
      have h4:(0:Int)<2^(7*i):=by exact_mod_cast hP
      have:=Int.mul_le_mul (show c%128≤127 by omega) this (by omega) (by omega)
      omega
    have e4:shlI .u64 (IntKind.wrap .u64 (bits .and .u8 c 127)) ((7*i:Nat):Int)=(c%128)*2^(7*i):=by
     rw [u8_and127 c0 c255,wu64_eq]
     unfold shlI
     rw [wu64_eq]
     have:min (((7*i:Nat):Int)).toNat (IntKind.bits .u64)=7*i:=by simp [IntKind.bits];omega
     rw [this,show (c%128)%18446744073709551616=c%128 by omega]
     have:0≤(c%128)*2^(7*i):=Int.mul_nonneg (by omega) (by exact_mod_cast Nat.zero_le _)
     omega
    have eor:bits .or .u64 (acc:Int) ((c%128)*2^(7*i))=((acc+(c%128).toNat*2^(7*i):Nat):Int):=by
     rw [u64_or_shl (i:=7*i) (by omega) (by exact_mod_cast hacc) (by omega) (by omega) (by omega)]
     have:c%128=(((c%128).toNat:Nat):Int):=by omega
     rw [this]
     simp
    rw [e4,eor]
    by_cases h128:c<128
    ·rw [if_pos h128,decide_eq_true h128,cond_true]
     have:(c%128).toNat=c.toNat:=by omega
     rw [this]
    ·rw [if_neg h128,decide_eq_false h128,cond_false]
     have hlt2:acc+(c%128).toNat*2^(7*i)<2^(7*(i+1)):=by
      rw [hP7]
      have:(c%128).toNat*2^(7*i)≤127*2^(7*i):=Nat.mul_le_mul_right _ (by omega)
      omega
     rw [ih n (i+1) _ (by omega) (by omega) hlt2,←Nat.add_assoc]
     cases gvN f (b.drop (p+i+1)) with
     |none=>rfl
     |some x=>
      obtain ⟨v,m⟩:=x
      simp only [Option.map_some]
      rw [hP7,show acc+(c%128).toNat*2^(7*i)+v*(128*2^(7*i))=acc+((c%128).toNat+128*v)*2^(7*i) by grind,show p+i+1+m=p+i+(m+1) by omega]
  ·have c2:decide ((i:Int)<IntKind.wrap .i64 ((b.length:Int)-(p:Int)))=false:=by
    rw [w64 (by omega) (by omega)]
    exact decide_eq_false (by omega)
   rw [List.drop_eq_nil_of_le (by omega),gvN]
   simp only [impl_UvarGet.l5,c1,c2,cond_true,cond_false,Option.bind_some,impl_UvarGet.c12]
end Go.Law
end
section
set_option linter.unusedVariables false
set_option linter.unusedSimpArgs false
namespace Go.Law
open Go.Am Go.Fn
def wv:List Int→Nat
 |[]=>0
 |c::r=>c.toNat+256*wv r
theorem wv_lt:∀(l:List Int),(∀x,x∈l→0≤x∧x<256)→wv l<2^(8*l.length)
 |[],_=>by simp [wv]
 |c::r,h=>by
  have h1:=wv_lt r (fun x hx=>h x (by simp [hx]))
  obtain ⟨h2,h3⟩:=h c (by simp)
  simp only [wv,List.length_cons]
  have:2^(8*(r.length+1))=256*2^(8*r.length):=by rw [Nat.mul_add,Nat.pow_add];simp [Nat.mul_comm]
  omega
theorem word_loop (k:Nat) (b:List Int) (p n:Nat) (hn:n≤8) (hl:p+n≤b.length) (hb:b.length<4611686018427387904) (hby:∀x,x∈b→0≤x∧x<256):∀(m f i acc:Nat),i+m=n→m<f→acc<2^(8*i)→
 spec_WordGet.l5 k f b (p:Int) (n:Int) (IntKind.wrap .i64 (acc:Int)) (i:Int)=some (IntKind.wrap .i64 ((acc+wv ((b.drop (p+i)).take m)*2^(8*i):Nat):Int),((p+n:Nat):Int),true)∧
 impl_WordGet.l5 k f b (p:Int) (n:Int) (IntKind.wrap .i64 (acc:Int)) (n:Int) (i:Int)=some (IntKind.wrap .i64 ((acc+wv ((b.drop (p+i)).take m)*2^(8*i):Nat):Int),((p+n:Nat):Int),true):=by
 intro m
 induction m with
 |zero=>
  intro f i acc hi hf ha
  obtain ⟨f,rfl⟩:∃q,f=q+1:=⟨f-1,by omega⟩
  have e:IntKind.wrap .i64 ((p:Int)+(n:Int))=((p+n:Nat):Int):=by rw [w64 (by omega) (by omega)];omega
  simp only [spec_WordGet.l5,impl_WordGet.l5,decide_eq_false (show ¬((i:Int)<(n:Int)) by omega),cond_false,e,List.take_zero,wv,Nat.zero_mul,Nat.add_zero]
  exact ⟨trivial,trivial⟩
 |succ m ih=>
  intro f i acc hi hf ha
  obtain ⟨f,rfl⟩:∃q,f=q+1:=⟨f-1,by omega⟩
  obtain ⟨c,hc,hc2⟩:=drop_cons_of (show p+i<b.length by omega)
  obtain ⟨c0,c1⟩:=hby c (List.mem_of_getElem? hc2)
  have e1:IntKind.wrap .i64 ((p:Int)+(i:Int))=((p+i:Nat):Int):=by rw [w64 (by omega) (by omega)];omega
  have e2:IntKind.wrap .i64 (8*(i:Int))=((8*i:Nat):Int):=by rw [w64 (by omega) (by omega)];omega
  have e3:IntKind.wrap .i64 ((i:Int)+1)=((i+1:Nat):Int):=by rw [w64 (by omega) (by omega)];omega
  have ec:IntKind.wrap .i64 c=((c.toNat:Nat):Int):=by rw [w64 (by omega) (by omega)];omega
  have hP8:2^(8*(i+1))=256*2^(8*i):=by rw [Nat.mul_add,Nat.pow_add];simp [Nat.mul_comm]
  have hle:2^(8*(i+1))≤2^64:=Nat.pow_le_pow_right (by omega) (by omega)
  have hlt:acc+c.toNat*2^(8*i)<2^(8*(i+1)):=by
   rw [hP8]
   have:c.toNat*2^(8*i)≤255*2^(8*i):=Nat.mul_le_mul_right _ (by omega)
   omega
  have eor:=or_shl .i64 (a:=acc) (b:=c.toNat) (i:=8*i) (show 8*i≤64 by omega) ha (by show _<2^64;omega)
  have hg:rdL b ((p+i:Nat):Int)=some c:=by rw [rdL_nat];exact hc2
  simp only [spec_WordGet.l5,impl_WordGet.l5,decide_eq_true (show (i:Int)<(n:Int) by omega),cond_true,e1,hg,Option.bind_some,e2,decide_eq_true (show (0:Int)≤((8*i:Nat):Int) by omega),ec,eor,e3]
  obtain ⟨i1,i2⟩:=ih f (i+1) _ (by omega) (by omega) hlt
  have hw:acc+c.toNat*2^(8*i)+wv ((b.drop (p+(i+1))).take m)*2^(8*(i+1))=acc+wv ((b.drop (p+i)).take (m+1))*2^(8*i):=by
   rw [hc,List.take_succ_cons,wv,hP8,←Nat.add_assoc]
   grind
  rw [hw] at i1 i2
  exact ⟨i1,i2⟩
theorem word4 (k:Nat) (hk:100≤k) (b:List Int) (p:Nat) (hl:p+4≤b.length) (hb:b.length<4611686018427387904) (hby:∀x,x∈b→0≤x∧x<256):
 ∃v:Nat,v<4294967296∧spec_WordGet k b (p:Int) 4=some ((v:Int),((p+4:Nat):Int),true)∧impl_WordGet k b (p:Int) 4=some ((v:Int),((p+4:Nat):Int),true):=by
 have hlt:=wv_lt ((b.drop p).take 4) (fun x hx=>hby x (List.mem_of_mem_drop (List.mem_of_mem_take hx)))
 have hlen:((b.drop p).take 4).length=4:=by rw [List.length_take,List.length_drop];omega
 rw [hlen] at hlt
 have hlt:wv ((b.drop p).take 4)<4294967296:=hlt
 obtain ⟨l1,l2⟩:=word_loop k b p 4 (by omega) hl hb hby 4 k 0 0 (by omega) (by omega) (by simp)
 rw [show IntKind.wrap .i64 ((0:Nat):Int)=0 by decide,show ((0:Nat):Int)=0 from rfl,show ((4:Nat):Int)=4 from rfl] at l1 l2
 simp only [Nat.zero_add,Nat.add_zero,Nat.mul_zero,Nat.pow_zero,Nat.mul_one] at l1 l2
 rw [w64 (by omega) (by omega)] at l1 l2
 refine ⟨_,hlt,?_,?_⟩
 ·unfold spec_WordGet
  have e:IntKind.wrap .i64 ((b.length:Int)-(p:Int))=(b.length:Int)-p:=w64 (by omega) (by omega)
  simp only [l1In_eq,show (decide ((1:Int)≤4)&&decide ((4:Int)≤8))=true by decide,Bool.not_true,cond_false,Option.bind_some,decide_eq_false (show ¬((p:Int)<0) by omega),decide_eq_false (show ¬((p:Int)>(b.length:Int)) by omega),e,decide_eq_false (show ¬((b.length:Int)-p<4) by omega)]
  exact l1
 ·unfold impl_WordGet
  have e:IntKind.wrap .i64 ((b.length:Int)-4)=(b.length:Int)-4:=w64 (by omega) (by omega)
  simp only [within_eq,show (decide ((1:Int)≤4)&&decide ((4:Int)≤8))=true by decide,Bool.not_true,cond_false,Option.bind_some,decide_eq_false (show ¬((p:Int)<0) by omega),e,decide_eq_false (show ¬((p:Int)>(b.length:Int)-4) by omega)]
  exact l2
end Go.Law
end
section
set_option linter.unusedVariables false
set_option linter.unusedSimpArgs false
namespace Go.Law
open Go.Am Go.Fn
variable (k:Nat)
abbrev Byts (b:List Int):Prop:=∀x,x∈b→0≤x∧x<256
theorem wv_get:∀(l:List Int),Byts l→∀(i:Nat) (x:Int),l[i]?=some x→x=((wv l/256^i%256:Nat):Int)
 |[],_,i,x,h=>by simp at h
 |c::r,hb,0,x,h=>by
  obtain ⟨h0,h1⟩:=hb c (by simp)
  simp at h
  subst h
  simp only [wv,Nat.pow_zero,Nat.div_one]
  omega
 |c::r,hb,i+1,x,h=>by
  obtain ⟨h0,h1⟩:=hb c (by simp)
  rw [wv_get r (fun y hy=>hb y (by simp [hy])) i x (by simpa using h)]
  have:(c.toNat+256*wv r)/256^(i+1)=wv r/256^i:=by
   rw [Nat.pow_succ,Nat.mul_comm (256^i) 256,←Nat.div_div_eq_div_mul]
   congr 1
   omega
  simp only [wv,this]
theorem leB_wv (l:List Int) (hb:Byts l):l=leB l.length (wv l):=by
 apply List.ext_getElem (by rw [leB_len])
 intro i h1 h2
 rw [wv_get l hb i l[i] (List.getElem?_eq_getElem h1)]
 have:=leB_get? (M:=wv l) h1
 rw [List.getElem?_eq_getElem h2] at this
 exact (Option.some.inj this).symm
theorem l1Bit_eq (pre post:List Int) (L M p:Nat) (hp:p<8*L) (hl:pre.length+L<100000000000000000):spec_l1Bit k (pre++(leB L M++post)) ((8*pre.length+p:Nat):Int)=some ((M/2^p%2:Nat):Int):=by
 unfold spec_l1Bit
 have hd:(8*pre.length+p)/8=pre.length+p/8:=by omega
 have hm:(8*pre.length+p)%8=p%8:=by omega
 have hg:rdL (pre++(leB L M++post)) ((pre.length+p/8:Nat):Int)=some ((M/256^(p/8)%256:Nat):Int):=by
  rw [rdL_nat,List.getElem?_append_right (by omega),List.getElem?_append_left (by rw [leB_len];omega),Nat.add_sub_cancel_left]
  exact leB_get? (by omega)
 have hlt:M/256^(p/8)%256<256:=Nat.mod_lt _ (by decide)
 simp only [idx8 (show 8*pre.length+p<1152921504606846976 by omega),idm8,hd,hm,hg,Option.bind_some,decide_eq_true (show (0:Int)≤((p%8:Nat):Int) by omega),cond_true]
 rw [w64 (x:=((M/256^(p/8)%256:Nat):Int)) (by omega) (by omega),shrI_eq .i64 _ (p%8) (show p%8≤64 by omega),and1,←leB_bit M p]
 simp
theorem sp_inner (L6:(List Int)→Int→Int→Int→Int→Int→(List Int)→Option ((Unit×Int×Bool)×(List Int))) (pre post:List Int) (L M w i q:Nat) (t2 t12:Int) (hw:w≤64) (hq:(i:Int)*(w:Int)=(q:Int)) (hqn:i*w=q) (hqL:q+w≤8*L) (hl:pre.length+L<10000000000000000) (hi:i<1000000) (o:List Int) (ho:o.length<1000000):
 ∀(m n j:Nat),j+m=w→m<n→spec_BitsRead.l10 k L6 n (pre++(leB L M++post)) (pre.length:Int) t2 (w:Int) t12 (i:Int) (IntKind.wrap .i64 ((M/2^q%2^j:Nat):Int)) (j:Int) o=L6 (pre++(leB L M++post)) (pre.length:Int) t2 (w:Int) t12 ((i+1:Nat):Int) (o++[unpackAt w M i]):=by
 intro m
 induction m with
 |zero=>
  intro n j hj hn
  obtain ⟨n,rfl⟩:∃x,n=x+1:=⟨n-1,by omega⟩
  obtain rfl:j=w:=by omega
  simp only [spec_BitsRead.l10,decide_eq_false (show ¬(j:Int)<(j:Int) by omega),cond_false]
  rw [lim_ok (by simp;omega),cond_true,w64 (x:=(i:Int)+1) (by omega) (by omega)]
  unfold unpackAt
  rw [hqn]
  congr 1
 |succ m ih=>
  intro n j hj hn
  obtain ⟨n,rfl⟩:∃x,n=x+1:=⟨n-1,by omega⟩
  have hp:IntKind.wrap .i64 (IntKind.wrap .i64 (IntKind.wrap .i64 (8*(pre.length:Int))+IntKind.wrap .i64 ((i:Int)*(w:Int)))+(j:Int))=((8*pre.length+(q+j):Nat):Int):=by
   rw [hq,w64 (x:=(q:Int)) (by omega) (by omega),w64 (x:=8*(pre.length:Int)) (by omega) (by omega),w64 (x:=8*(pre.length:Int)+(q:Int)) (by omega) (by omega),w64 (by omega) (by omega)];omega
  have hb:=l1Bit_eq k pre post L M (q+j) (by omega) (by omega)
  simp only [spec_BitsRead.l10,decide_eq_true (show (j:Int)<(w:Int) by omega),cond_true,hp,hb,Option.bind_some,decide_eq_true (show (0:Int)≤(j:Int) by omega)]
  have hlt:M/2^q%2^j<2^j:=Nat.mod_lt _ (Nat.two_pow_pos j)
  have hjj:2^(j+1)≤2^64:=Nat.pow_le_pow_right (by decide) (by omega)
  have hb1:M/2^(q+j)%2≤1:=by omega
  have hb2:M/2^(q+j)%2*2^j≤1*2^j:=Nat.mul_le_mul_right _ hb1
  have ho:=or_shl .i64 (a:=M/2^q%2^j) (b:=M/2^(q+j)%2) (i:=j) (show j≤64 by omega) hlt (show _<2^64 by rw [Nat.pow_succ] at hjj;omega)
  rw [ho]
  have hs:M/2^q%2^j+M/2^(q+j)%2*2^j=M/2^q%2^(j+1):=by
   rw [mod_succ,Nat.div_div_eq_div_mul,←Nat.pow_add]
  rw [hs,w64 (x:=(j:Int)+1) (by omega) (by omega),show ((j:Int)+1)=((j+1:Nat):Int) by omega]
  exact ih n (j+1) (by omega) (by omega)
theorem sp_loop (pre post:List Int) (L M w N:Nat) (t12:Int) (hw:w≤64) (hN:N*w≤8*L) (hl:pre.length+L<10000000000000000) (hN2:N<1000000) (hk:w<k):
 ∀(m n i:Nat) (o:List Int),i+m=N→m<n→o.length=i→spec_BitsRead.l6 k n (pre++(leB L M++post)) (pre.length:Int) (N:Int) (w:Int) t12 (i:Int) o=some (((),IntKind.wrap .i64 ((pre.length:Int)+t12),true),o++(List.range' i m).map (unpackAt w M)):=by
 intro m
 induction m with
 |zero=>
  intro n i o hi hn ho
  obtain ⟨n,rfl⟩:∃x,n=x+1:=⟨n-1,by omega⟩
  simp only [spec_BitsRead.l6,decide_eq_false (show ¬(i:Int)<(N:Int) by omega),cond_false]
  simp
 |succ m ih=>
  intro n i o hi hn ho
  obtain ⟨n,rfl⟩:∃x,n=x+1:=⟨n-1,by omega⟩
  have hmul:i*w+w≤N*w:=by
   have:(i+1)*w≤N*w:=Nat.mul_le_mul_right _ (by omega)
   rw [Nat.add_mul,Nat.one_mul] at this
   exact this
  have hi':=sp_inner k (spec_BitsRead.l6 k n) pre post L M w i (i*w) (N:Int) t12 hw (by simp) rfl (by omega) hl (by omega) o (by omega) w k 0 (by omega) hk
  simp only [Nat.pow_zero,Nat.mod_one] at hi'
  simp only [spec_BitsRead.l6,decide_eq_true (show (i:Int)<(N:Int) by omega),cond_true]
  have h0:((0:Nat):Int)=0:=rfl
  have hw0:IntKind.wrap .i64 0=0:=rfl
  rw [h0,hw0] at hi'
  rw [hi',ih n (i+1) _ (by omega) (by omega) (by simp;omega)]
  simp [List.range'_succ]
theorem bitsSize_eq (n w:Int):∃z:Int,impl_BitsSize k n w=some z∧spec_BitsSize k n w=some z∧
 ((z= -1∧¬(0≤n∧n≤2000∧0≤w∧w≤62))∨(0≤n∧n≤2000∧0≤w∧w≤62∧z=((bytesOf n.toNat w.toNat:Nat):Int))):=by
 unfold impl_BitsSize spec_BitsSize
 simp only [within_eq,l1In_eq,Option.bind_some,cst]
 by_cases h:0≤n∧n≤2000∧0≤w∧w≤62
 ·obtain ⟨h1,h2,h3,h4⟩:=h
  obtain ⟨n,rfl⟩:∃m:Nat,n=m:=⟨n.toNat,by omega⟩
  obtain ⟨w,rfl⟩:∃m:Nat,w=m:=⟨w.toNat,by omega⟩
  have:=(len8 (n:=n) (w:=w) (by omega) (by omega)).1
  simp only [decide_eq_true h1,decide_eq_true h2,decide_eq_true h3,decide_eq_true h4,Bool.and_self,Bool.not_true,Bool.or_self,cond_false,this]
  exact ⟨_,rfl,rfl,.inr ⟨h1,h2,h3,h4,by simp⟩⟩
 ·have:((!(decide (0≤n)&&decide (n≤2000)))|| !(decide (0≤w)&&decide (w≤62)))=true:=by
   by_cases a:0≤n<;>by_cases b:n≤2000<;>by_cases c:0≤w<;>by_cases d:w≤62<;>simp [a,b,c,d]
   exact h ⟨a,b,c,d⟩
  simp only [this,cond_true]
  exact ⟨_,rfl,rfl,.inl ⟨rfl,h⟩⟩
theorem bits_any (hk:3000≤k) (b:List Int) (hb:b.length<1000000000000000) (hby:Byts b) (at_ n w:Int) (ha:I64 at_):
 ∃nx ok l,impl_BitsRead k b at_ n w=some (((),nx,ok),l)∧spec_BitsRead k b at_ n w=some (((),nx,ok),l)∧
  (ok=false→nx=0∧l=[])∧(ok=true→0≤n∧n≤2000∧0≤w∧w≤62∧l.length=n.toNat∧0≤at_∧nx=at_+(bytesOf n.toNat w.toNat:Nat)∧nx≤(b.length:Int)∧∀x,x∈l→0≤x∧x<2^w.toNat):=by
 obtain ⟨z,h1,h2,hz⟩:=bitsSize_eq k n w
 unfold impl_BitsRead spec_BitsRead
 simp only [h1,h2,Option.bind_some,within_eq,l1In_eq,cst]
 rcases hz with ⟨rfl,hn⟩|⟨n0,n1,w0,w1,hz⟩
 ·simp only [decide_eq_true (show (-1:Int)<0 by decide),Bool.true_or,cond_true]
  exact ⟨_,_,_,rfl,rfl,fun _=>⟨rfl,rfl⟩,fun h=>by cases h⟩
 obtain ⟨n,rfl⟩:∃m:Nat,n=m:=⟨n.toNat,by omega⟩
 obtain ⟨w,rfl⟩:∃m:Nat,w=m:=⟨w.toNat,by omega⟩
 simp only [Int.toNat_natCast] at hz
 have hl8:=len8 (n:=n) (w:=w) (by omega) (by omega)
 subst hz
 by_cases hat:0≤at_∧at_≤(b.length:Int)
 ·obtain ⟨a0,a1⟩:=hat
  obtain ⟨p,rfl⟩:∃m:Nat,at_=m:=⟨at_.toNat,by omega⟩
  have e:IntKind.wrap .i64 ((b.length:Int)-(p:Int))=(b.length:Int)-p:=w64 (by omega) (by omega)
  simp only [decide_eq_true a0,decide_eq_true a1,Bool.and_self,Bool.not_true,decide_eq_false (show ¬((bytesOf n w:Nat):Int)<0 by omega),Bool.or_self,Bool.false_or,e]
  by_cases hfit:((bytesOf n w:Nat):Int)≤(b.length:Int)-p
  ·simp only [decide_eq_false (show ¬((bytesOf n w:Nat):Int)>(b.length:Int)-p by omega),decide_eq_false (show ¬(b.length:Int)-p<((bytesOf n w:Nat):Int) by omega),cond_false]
   have hlen:((b.drop p).take (bytesOf n w)).length=bytesOf n w:=by rw [List.length_take,List.length_drop];omega
   have hsp:b=b.take p++(leB (bytesOf n w) (wv ((b.drop p).take (bytesOf n w)))++b.drop (p+bytesOf n w)):=by
    have h3:=leB_wv ((b.drop p).take (bytesOf n w)) (fun x hx=>hby x (List.mem_of_mem_drop (List.mem_of_mem_take hx)))
    rw [hlen] at h3
    rw [←h3,←List.drop_drop,List.take_append_drop,List.take_append_drop]
   have hpl:(b.take p).length=p:=by rw [List.length_take];omega
   generalize wv ((b.drop p).take (bytesOf n w))=M at hsp
   have u1:=unpacked_eq k (b.take p) (b.drop (p+bytesOf n w)) (bytesOf n w) M w n (by omega) hl8.2.2 (by rw [hpl];omega) (by omega) (by omega) (by omega)
   have u2:=sp_loop k (b.take p) (b.drop (p+bytesOf n w)) (bytesOf n w) M w n ((bytesOf n w:Nat):Int) (by omega) hl8.2.2 (by rw [hpl];omega) (by omega) (by omega) n k 0 [] (by omega) (by omega) rfl
   rw [←hsp,hpl] at u1 u2
   rw [show ((0:Nat):Int)=0 from rfl,List.nil_append,←List.range_eq_range'] at u2
   have e2:IntKind.wrap .i64 ((p:Int)+((bytesOf n w:Nat):Int))=(p:Int)+(bytesOf n w:Nat):=w64 (by omega) (by omega)
   rw [e2] at u2
   simp only [u1,u2,Option.bind_some,e2]
   refine ⟨_,_,_,rfl,rfl,(fun h=>by cases h),fun _=>⟨by omega,by omega,by omega,by omega,by simp,a0,by simp,by omega,?_⟩⟩
   intro x hx
   obtain ⟨i,_,rfl⟩:=List.mem_map.1 hx
   have hlt:M/2^(i*w)%2^w<2^w:=Nat.mod_lt _ (Nat.two_pow_pos w)
   have hp62:2^w≤2^62:=Nat.pow_le_pow_right (by decide) (by omega)
   unfold unpackAt
   rw [Int.toNat_natCast,w64 (by omega) (by omega)]
   refine ⟨by omega,?_⟩
   exact_mod_cast hlt
  ·simp only [decide_eq_true (show ((bytesOf n w:Nat):Int)>(b.length:Int)-p by omega),decide_eq_true (show (b.length:Int)-p<((bytesOf n w:Nat):Int) by omega),cond_true]
   exact ⟨_,_,_,rfl,rfl,fun _=>⟨rfl,rfl⟩,fun h=>by cases h⟩
 ·have:(decide (0≤at_)&&decide (at_≤(b.length:Int)))=false:=by
   by_cases a:0≤at_<;>by_cases c:at_≤(b.length:Int)<;>simp [a,c]
   exact hat ⟨a,c⟩
  simp only [this,Bool.not_false,Bool.or_true,Bool.true_or,cond_true]
  exact ⟨_,_,_,rfl,rfl,fun _=>⟨rfl,rfl⟩,fun h=>by cases h⟩
end Go.Law
end
section
set_option linter.unusedVariables false
set_option linter.unusedSimpArgs false
namespace Go.Law
open Go.Am Go.Fn
variable (k:Nat)
theorem bp_inner (L6:(List Int)→Int→Int→(List Int)→Option ((Unit×Bool)×(List Int))) (vs:List Int) (v:Int) (w i q L M0:Nat) (hw:w≤64) (hq:(i:Int)*(w:Int)=(q:Int)) (hqL:q+w≤8*L) (hL:L<1000000) (hi:i<1000000) (hM:M0<2^q) (hv:rdL vs (i:Int)=some v):
 ∀(m n j:Nat),j+m=w→m<n→spec_BitsPack.l11 k L6 n vs (w:Int) (i:Int) (j:Int) (leB L (M0+(u64 v%2^j)*2^q))=L6 vs (w:Int) ((i+1:Nat):Int) (leB L (M0+(u64 v%2^w)*2^q)):=by
 intro m
 induction m with
 |zero=>
  intro n j hj hn
  obtain ⟨n,rfl⟩:∃x,n=x+1:=⟨n-1,by omega⟩
  obtain rfl:j=w:=by omega
  simp only [spec_BitsPack.l11,decide_eq_false (show ¬(j:Int)<(j:Int) by omega),cond_false]
  rw [w64 (by omega) (by omega)]
  congr 1
 |succ m ih=>
  intro n j hj hn
  obtain ⟨n,rfl⟩:∃x,n=x+1:=⟨n-1,by omega⟩
  have hp:IntKind.wrap .i64 (IntKind.wrap .i64 ((i:Int)*(w:Int))+(j:Int))=((q+j:Nat):Int):=by
   rw [hq,w64 (x:=(q:Int)) (by omega) (by omega),w64 (by omega) (by omega)];omega
  have hlt:=low_lt (u:=u64 v) (j:=j) hM
  have hb:u64 v/2^j%2≤1:=by omega
  have hg:rdL (leB L (M0+u64 v%2^j*2^q)) (((q+j)/8:Nat):Int)=some _:=leB_get? (by omega)
  have hi:=ih n (j+1) (by omega) (by omega)
  rw [←low_succ] at hi
  simp only [spec_BitsPack.l11,decide_eq_true (show (j:Int)<(w:Int) by omega),cond_true,hp,idx8 (show q+j<1152921504606846976 by omega),idm8,hg,hv,Option.bind_some,decide_eq_true (show (0:Int)≤(j:Int) by omega),decide_eq_true (show (0:Int)≤(((q+j)%8:Nat):Int) by omega),shr_bit v (show j<64 by omega),spec_BitsPack.c12]
  rw [w64 (x:=(j:Int)+1) (by omega) (by omega),show ((j:Int)+1)=((j+1:Nat):Int) by omega]
  rcases Nat.eq_zero_or_pos (u64 v/2^j%2) with h0|h0
  ·rw [h0] at hi⊢
   rw [beqF (by decide),cond_false]
   simpa using hi
  ·have h1:u64 v/2^j%2=1:=by omega
   have ho:=orbyte hlt (show 1≤1 by omega)
   have hs:=leB_set (L:=L) (show q+j<8*L by omega) hlt (show 1≤1 by omega)
   have h11:((1:Nat):Int)=1:=rfl
   rw [h11] at ho
   rw [h1] at hi⊢
   rw [beqT (by rfl),cond_true,Int.toNat_natCast,ho,hs]
   exact hi
theorem bp_loop (w L:Nat) (hw:w≤62) (hL:L<1000000) (hk:w<k) (vs:List Int) (hvs:vs.length<1000000) (hr:∀v,v∈vs→0≤v∧v<2^w) (hb:vs.length*w≤8*L):∀(post pre:List Int) (n:Nat),vs=pre++post→post.length<n→
 spec_BitsPack.l6 k n vs (w:Int) (pre.length:Int) (leB L (packV w pre))=some (((),true),leB L (packV w vs)):=by
 intro post
 induction post with
 |nil=>
  intro pre n hv hn
  obtain ⟨n,rfl⟩:∃x,n=x+1:=⟨n-1,by omega⟩
  have:vs=pre:=by simpa using hv
  subst this
  simp only [spec_BitsPack.l6,decide_eq_false (show ¬(vs.length:Int)<(vs.length:Int) by omega),cond_false]
 |cons v post ih=>
  intro pre n hv hn
  simp only [List.length_cons] at hn
  obtain ⟨n,rfl⟩:∃x,n=x+1:=⟨n-1,by omega⟩
  have hlen:vs.length=pre.length+(post.length+1):=by rw [hv];simp
  have hg:rdL vs (pre.length:Int)=some v:=by rw [hv,rdL_nat,List.getElem?_append_right (Nat.le_refl _)];simp
  obtain ⟨v0,v1⟩:=hr v (by rw [hv];simp)
  have hM:=packN_lt w (pre.map u64)
  rw [List.length_map] at hM
  have hmul:pre.length*w+w≤vs.length*w:=by
   have:(pre.length+1)*w≤vs.length*w:=Nat.mul_le_mul_right _ (by omega)
   rw [Nat.add_mul,Nat.one_mul] at this
   exact this
  have hi:=bp_inner k (spec_BitsPack.l6 k n) vs v w pre.length (pre.length*w) L (packV w pre) (by omega) (by simp) (by omega) hL (by omega) hM hg w k 0 (by omega) hk
  simp only [Nat.pow_zero,Nat.mod_one,Nat.zero_mul,Nat.add_zero] at hi
  have hsh:shrI .i64 v (w:Int)=0:=by
   rw [shrI_eq .i64 v w (show w≤64 by omega)]
   exact Int.ediv_eq_zero_of_lt v0 v1
  simp only [spec_BitsPack.l6,decide_eq_true (show (pre.length:Int)<(vs.length:Int) by omega),cond_true,hg,Option.bind_some,decide_eq_false (show ¬v<0 by omega),cond_false,decide_eq_true (show (0:Int)≤(w:Int) by omega),hsh,show ((0:Int) !=0)=false from rfl]
  have h0:((0:Nat):Int)=0:=rfl
  rw [h0] at hi
  rw [hi]
  have:=ih (pre++[v]) n (by rw [hv];simp) (by omega)
  rw [List.length_append,List.length_singleton] at this
  rw [←this]
  unfold packV
  rw [List.map_append,List.map_singleton,packN_snoc,List.length_map]
theorem bitsPack_ok (vs:List Int) (w:Nat) (hw:w≤62) (hvs:vs.length≤2000) (hr:∀v,v∈vs→0≤v∧v<2^w) (hk:vs.length<k) (hk2:w<k):spec_BitsPack k vs (w:Int)=some (((),true),packB w vs):=by
 obtain ⟨h1,h2,h3⟩:=len8 (n:=vs.length) (w:=w) (by omega) (by omega)
 unfold spec_BitsPack spec_BitsSize
 simp only [l1In_eq,Option.bind_some,cst,decide_eq_true (show (0:Int)≤(vs.length:Int) by omega),decide_eq_true (show (vs.length:Int)≤2000 by omega),decide_eq_true (show (0:Int)≤(w:Int) by omega),decide_eq_true (show (w:Int)≤62 by omega),Bool.and_self,Bool.not_true,Bool.or_self,cond_false,h1,decide_eq_false (show ¬((bytesOf vs.length w:Nat):Int)<0 by omega)]
 rw [okLen_ok (by omega) (by omega),cond_true,Int.toNat_natCast,←leB_zero]
 exact bp_loop k w _ hw h2 hk2 vs (by omega) hr h3 vs [] k rfl hk
theorem leB_succ (n M:Nat):leB (n+1) M=leB n M++[((M/256^n%256:Nat):Int)]:=by
 unfold leB
 rw [List.range_succ,List.map_append,List.map_singleton]
theorem shr_byte (v:Int) {i:Nat} (hi:i<8):IntKind.wrap .u8 (shrI .i64 v ((8*i:Nat):Int))=((u64 v/256^i%256:Nat):Int):=by
 rw [shrI_eq .i64 v (8*i) (show 8*i≤64 by omega),wu8_eq]
 have hp:(256:Nat)^i=2^(8*i):=by rw [Nat.pow_mul]
 have hpi:((2:Int)^(8*i))=((2^(8*i):Nat):Int):=by simp
 rw [Int.natCast_emod,Int.natCast_ediv,u64_cast,hp,←hpi]
 rcases (show i=0∨i=1∨i=2∨i=3∨i=4∨i=5∨i=6∨i=7 by omega) with rfl|rfl|rfl|rfl|rfl|rfl|rfl|rfl<;>simp<;>omega
theorem wput_loop (v:Int) (n:Nat) (hn:n≤8) (h1:1≤n):∀(m f i:Nat),i+m=n→m<f→
 impl_WordPut.l5 k f v (n:Int) (i:Int) (leB i (u64 v))=some ((),leB n (u64 v))∧spec_WordPut.l3 k f v (n:Int) (i:Int) (leB i (u64 v))=some ((),leB n (u64 v)):=by
 intro m
 induction m with
 |zero=>
  intro f i hi hf
  obtain ⟨f,rfl⟩:∃q,f=q+1:=⟨f-1,by omega⟩
  obtain rfl:i=n:=by omega
  simp only [impl_WordPut.l5,spec_WordPut.l3,decide_eq_false (show ¬(i:Int)<(i:Int) by omega),cond_false,Option.bind_some]
  exact ⟨trivial,trivial⟩
 |succ m ih=>
  intro f i hi hf
  obtain ⟨f,rfl⟩:∃q,f=q+1:=⟨f-1,by omega⟩
  have e2:IntKind.wrap .i64 (8*(i:Int))=((8*i:Nat):Int):=by rw [w64 (by omega) (by omega)];omega
  have e3:IntKind.wrap .i64 ((i:Int)+1)=((i+1:Nat):Int):=by rw [w64 (by omega) (by omega)];omega
  have hr:(decide ((1:Int)≤(n:Int))&&decide ((n:Int)≤8))=true:=by simp;omega
  simp only [impl_WordPut.l5,spec_WordPut.l3,l1In_eq,hr,decide_eq_true (show (i:Int)<(n:Int) by omega),cond_true,Option.bind_some,e2,e3,decide_eq_true (show (0:Int)≤((8*i:Nat):Int) by omega),shr_byte v (show i<8 by omega),lim_ok (show (leB i (u64 v)).length+[((u64 v/256^i%256:Nat):Int)].length≤4294967296 by rw [leB_len];simp;omega),←leB_succ]
  exact ih f (i+1) (by omega) (by omega)
theorem wordPut_eq (hk:100≤k) (v:Int) (n:Nat) (hn:n≤8) (h1:1≤n):impl_WordPut k v (n:Int)=some ((),leB n (u64 v))∧spec_WordPut k v (n:Int)=some ((),leB n (u64 v)):=by
 obtain ⟨a,b⟩:=wput_loop k v n hn h1 n k 0 (by omega) (by omega)
 have hr:(decide ((1:Int)≤(n:Int))&&decide ((n:Int)≤8))=true:=by simp;omega
 unfold impl_WordPut spec_WordPut
 simp only [within_eq,hr,Option.bind_some,Bool.not_true,cond_false]
 exact ⟨a,b⟩
end Go.Law
end
section
set_option linter.unusedVariables false
set_option linter.unusedSimpArgs false
namespace Go.Law
open Go.Am Go.Fn
variable (k:Nat)
def tyOk (t:Int):Bool:=t==0||t==1||t==2||t==5||t==6
theorem l5Type_eq (t:Int):spec_l5Type k t=some (tyOk t):=by
 unfold spec_l5Type spec_l5Type.c7 tyOk
 by_cases h0:t=0
 ·subst h0;simp
 by_cases h1:t=1
 ·subst h1;simp
 by_cases h2:t=2
 ·subst h2;simp
 by_cases h5:t=5
 ·subst h5;simp
 by_cases h6:t=6
 ·subst h6;simp
 simp [beqF h0,beqF h1,beqF h2,beqF h5,beqF h6,h0,h1,h2,h5,h6]
theorem typeOk_eq (t:Int):impl_TypeOk k t=some (tyOk t):=by
 unfold impl_TypeOk tyOk
 simp only [within_eq,Option.bind_some,cst]
 congr 1
 by_cases h:0≤t∧t≤2
 ·rw [decide_eq_true h.1,decide_eq_true h.2]
  rcases (show t=0∨t=1∨t=2 by omega) with rfl|rfl|rfl<;>rfl
 ·have:(decide (0≤t)&&decide (t≤2))=false:=by
   rw [Bool.eq_false_iff];intro hh
   simp only [Bool.and_eq_true,decide_eq_true_eq] at hh
   exact h hh
  rw [this,beqF (show ¬t=0 by omega),beqF (show ¬t=1 by omega),beqF (show ¬t=2 by omega)]
  rfl
end Go.Law
end
section
set_option linter.unusedVariables false
set_option linter.unusedSimpArgs false
namespace Go.Law
open Go.Am Go.Fn
variable (k:Nat)
def vok (t:Int) (v:TVal):Bool:=
 if t=0 then (decide (0≤v.1)&&decide (v.1≤1))&&eqS v.2.1 ⟨#[]⟩
 else if t=1 then (decide (-2147483648≤v.1)&&decide (v.1≤2147483647))&&eqS v.2.1 ⟨#[]⟩
 else if t=2∨t=5 then eqS v.2.1 ⟨#[]⟩
 else if t=6 then v.1==0&&decide ((v.2.1.size:Int)≤40)
 else false
theorem valOk_eq (t:Int) (v:TVal):impl_ValOk k t v=some (vok t v):=by
 unfold impl_ValOk impl_ValOk.c8 impl_isInt32 vok
 by_cases h0:t=0
 ·subst h0
  simp only [within_eq,beqT rfl,cond_true,Option.bind_some,csf,if_true]
 by_cases h1:t=1
 ·subst h1
  simp only [within_eq,beqF h0,beqT rfl,cond_true,cond_false,Option.bind_some,csf,if_neg h0,if_true]
 by_cases h2:t=2
 ·subst h2
  simp only [beqF h0,beqF h1,beqT rfl,cond_true,cond_false,if_neg h0,if_neg h1,true_or,if_true]
 by_cases h5:t=5
 ·subst h5
  simp only [beqF h0,beqF h1,beqF h2,beqT rfl,cond_true,cond_false,if_neg h0,if_neg h1,or_true,if_true]
 by_cases h6:t=6
 ·subst h6
  simp only [beqF h0,beqF h1,beqF h2,beqF h5,beqT rfl,cond_true,cond_false,if_neg h0,if_neg h1,Option.bind_some,csf,if_true]
  rw [if_neg (by decide)]
 ·simp only [beqF h0,beqF h1,beqF h2,beqF h5,beqF h6,cond_true,cond_false,if_neg h0,if_neg h1,Option.bind_some,csf,if_neg h6]
  rw [if_neg (by omega)]
  rfl
theorem svalOk_eq (t:Int) (v:TVal):spec_ValOk k t v=some (vok t v):=by
 unfold spec_ValOk spec_ValOk.c8 spec_l4Int vok
 by_cases h0:t=0
 ·subst h0
  simp only [l1In_eq,beqT rfl,cond_true,Option.bind_some,csf,if_true]
 by_cases h1:t=1
 ·subst h1
  simp only [l1In_eq,beqF h0,beqT rfl,cond_true,cond_false,Option.bind_some,csf,if_neg h0,if_true]
 by_cases h2:t=2
 ·subst h2
  simp only [beqF h0,beqF h1,beqT rfl,cond_true,cond_false,if_neg h0,if_neg h1,true_or,if_true]
 by_cases h5:t=5
 ·subst h5
  simp only [beqF h0,beqF h1,beqF h2,beqT rfl,cond_true,cond_false,if_neg h0,if_neg h1,or_true,if_true]
 by_cases h6:t=6
 ·subst h6
  simp only [beqF h0,beqF h1,beqF h2,beqF h5,beqT rfl,cond_true,cond_false,if_neg h0,if_neg h1,Option.bind_some,csf,if_true]
  rw [if_neg (by decide)]
 ·simp only [beqF h0,beqF h1,beqF h2,beqF h5,beqF h6,cond_true,cond_false,if_neg h0,if_neg h1,Option.bind_some,csf,if_neg h6]
  rw [if_neg (by omega)]
end Go.Law
end
section
set_option linter.unusedVariables false
set_option linter.unusedSimpArgs false
namespace Go.Law
open Go.Am Go.Fn
variable (k:Nat)
theorem valsLoop (t:Int) (l:List TVal) (hl:l.length<1000000000):∀(post pre:List TVal) (n n':Nat),l=pre++post→post.length<n→post.length<n'→
 impl_valsOk.l2 k n t l l (l.length:Int) (pre.length:Int)=some (post.all (vok t)&&(decide ((l.length:Int)≤2000)&&tyOk t))∧spec_l6Vals.l4 k n' t l (pre.length:Int)=some (post.all (vok t)):=by
 intro post
 induction post with
 |nil=>
  intro pre n n' hl' hn hn'
  obtain ⟨n,rfl⟩:∃m,n=m+1:=⟨n-1,by omega⟩
  obtain ⟨n',rfl⟩:∃m,n'=m+1:=⟨n'-1,by omega⟩
  have:l=pre:=by simpa using hl'
  subst this
  simp only [impl_valsOk.l2,spec_l6Vals.l4,decide_eq_false (show ¬(l.length:Int)<(l.length:Int) by omega),cond_false,typeOk_eq,Option.bind_some,csf,List.all_nil,Bool.true_and]
  exact ⟨trivial,trivial⟩
 |cons x post ih=>
  intro pre n n' hl' hn hn'
  simp only [List.length_cons] at hn hn'
  obtain ⟨n,rfl⟩:∃m,n=m+1:=⟨n-1,by omega⟩
  obtain ⟨n',rfl⟩:∃m,n'=m+1:=⟨n'-1,by omega⟩
  have hlen:l.length=pre.length+(post.length+1):=by rw [hl'];simp
  have hg:rdL l (pre.length:Int)=some x:=by rw [hl'];exact getMid _ _ _
  have hi:=ih (pre++[x]) n n' (by rw [hl'];simp) (by omega) (by omega)
  rw [List.length_append,List.length_singleton] at hi
  simp only [impl_valsOk.l2,spec_l6Vals.l4,decide_eq_true (show (pre.length:Int)<(l.length:Int) by omega),cond_true,hg,Option.bind_some,valOk_eq,svalOk_eq,List.all_cons]
  rw [w64 (by omega) (by omega),show ((pre.length:Int)+1)=((pre.length+1:Nat):Int) by omega]
  cases hv:vok t x with
  |false=>exact ⟨rfl,rfl⟩
  |true=>
   simp only [Bool.not_true,cond_false,Bool.true_and]
   exact hi
def vsOk (t:Int) (l:List TVal):Bool:=l.all (vok t)&&(decide ((l.length:Int)≤2000)&&tyOk t)
theorem vsOk_eq (t:Int) (l:List TVal) (hl:l.length<1000000000) (hk:l.length<k):impl_valsOk k t l=some (vsOk t l)∧spec_l6Vals k t l=some (vsOk t l):=by
 obtain ⟨h1,h2⟩:=valsLoop k t l hl l [] k k rfl hk hk
 rw [List.length_nil,show ((0:Nat):Int)=0 from rfl] at h1 h2
 unfold impl_valsOk spec_l6Vals vsOk
 refine ⟨h1,?_⟩
 simp only [l5Type_eq,Option.bind_some,cst]
 by_cases hl2:(l.length:Int)≤2000
 ·rw [decide_eq_false (show ¬(l.length:Int)>2000 by omega),decide_eq_true hl2]
  cases tyOk t with
  |false=>simp
  |true=>simp [h2]
 ·rw [decide_eq_true (show (l.length:Int)>2000 by omega),decide_eq_false hl2]
  simp
end Go.Law
end
section
set_option linter.unusedVariables false
set_option linter.unusedSimpArgs false
namespace Go.Law
open Go.Am Go.Fn
variable (k:Nat)
def plB (t:Int) (v:TVal):List Int:=
 if t=6 then leB 4 (u64 (v.2.1.size:Int))++strInts v.2.1 else if t=1 then leB 4 (u64 v.1) else leB 8 (u64 v.1)
def plL (t:Int) (l:List TVal):List Int:=
 if t=0 then packB 1 (l.map (·.1)) else (l.map (plB t)).flatten
theorem vok_cases {t:Int} {v:TVal} (h:vok t v=true):(t=0∧0≤v.1∧v.1≤1∧v.2.1=⟨#[]⟩)∨(t=1∧-2147483648≤v.1∧v.1≤2147483647∧v.2.1=⟨#[]⟩)∨((t=2∨t=5)∧v.2.1=⟨#[]⟩)∨(t=6∧v.1=0∧v.2.1.size≤40):=by
 unfold vok at h
 by_cases h0:t=0
 ·subst h0
  rw [if_pos rfl,eqS_iff] at h
  simp at h
  exact .inl ⟨rfl,h.1.1,h.1.2,h.2⟩
 by_cases h1:t=1
 ·subst h1
  rw [if_neg (by decide),if_pos rfl,eqS_iff] at h
  simp at h
  exact .inr (.inl ⟨rfl,h.1.1,h.1.2,h.2⟩)
 by_cases h2:t=2∨t=5
 ·rw [if_neg h0,if_neg h1,if_pos h2,eqS_iff] at h
  simp at h
  exact .inr (.inr (.inl ⟨h2,h⟩))
 by_cases h6:t=6
 ·subst h6
  rw [if_neg h0,if_neg h1,if_neg h2,if_pos rfl] at h
  simp at h
  exact .inr (.inr (.inr ⟨rfl,h.1,by omega⟩))
 ·rw [if_neg h0,if_neg h1,if_neg h2,if_neg h6] at h
  cases h
theorem vsOk_iff {t:Int} {l:List TVal}:vsOk t l=true↔(∀v,v∈l→vok t v=true)∧l.length≤2000∧tyOk t=true:=by
 unfold vsOk
 simp only [Bool.and_eq_true,List.all_eq_true,decide_eq_true_eq]
 constructor
 ·intro ⟨a,b,c⟩;exact ⟨a,by omega,c⟩
 ·intro ⟨a,b,c⟩;exact ⟨a,by omega,c⟩
theorem plB_len {t:Int} {v:TVal} (h:vok t v=true):(plB t v).length≤44:=by
 unfold plB
 rcases vok_cases h with ⟨rfl,_⟩|⟨rfl,_⟩|⟨ht|ht,_⟩|⟨rfl,_,h3⟩
 ·rw [if_neg (by decide),if_neg (by decide),leB_len];omega
 ·rw [if_neg (by decide),if_pos rfl,leB_len];omega
 ·subst ht;rw [if_neg (by decide),if_neg (by decide),leB_len];omega
 ·subst ht;rw [if_neg (by decide),if_neg (by decide),leB_len];omega
 ·rw [if_pos rfl,List.length_append,leB_len,strInts_length];omega
theorem nums_loop (l:List TVal) (hl:l.length<1000000000):∀(post pre:List TVal) (n:Nat),l=pre++post→post.length<n→
 impl_numsOf.l3 k n l (l.length:Int) (pre.length:Int) (pre.map (·.1))=some ((),l.map (·.1)):=by
 intro post
 induction post with
 |nil=>
  intro pre n hv hn
  obtain ⟨n,rfl⟩:∃x,n=x+1:=⟨n-1,by omega⟩
  have:l=pre:=by simpa using hv
  subst this
  simp only [impl_numsOf.l3,decide_eq_false (show ¬(l.length:Int)<(l.length:Int) by omega),cond_false]
 |cons v post ih=>
  intro pre n hv hn
  simp only [List.length_cons] at hn
  obtain ⟨n,rfl⟩:∃x,n=x+1:=⟨n-1,by omega⟩
  have hlen:l.length=pre.length+(post.length+1):=by rw [hv];simp
  have hg:rdL l (pre.length:Int)=some v:=by rw [hv];exact getMid pre post v
  have:=ih (pre++[v]) n (by rw [hv];simp) (by omega)
  rw [List.length_append,List.length_singleton,List.map_append] at this
  simp only [impl_numsOf.l3,decide_eq_true (show (pre.length:Int)<(l.length:Int) by omega),cond_true,hg,Option.bind_some,lim_ok (show (pre.map (·.1)).length+[v.1].length≤4294967296 by simp;omega),w64 (x:=(pre.length:Int)+1) (by omega) (by omega)]
  exact this
theorem pk_loop (hk:100≤k) (t:Int) (l:List TVal) (h:vsOk t l=true) (ht:t≠0):∀(post pre:List TVal) (n:Nat) (o:List Int),l=pre++post→post.length<n→o.length≤44*pre.length→
 impl_PlainPack.l7 k n t l (l.length:Int) (pre.length:Int) o=some (((),true),o++(post.map (plB t)).flatten)∧
 spec_PlainPack.l6 k n t l (pre.length:Int) o []=some (((),true),o++(post.map (plB t)).flatten):=by
 obtain ⟨hv,hl,hty⟩:=vsOk_iff.1 h
 intro post
 induction post with
 |nil=>
  intro pre n o hp hn ho
  obtain ⟨n,rfl⟩:∃x,n=x+1:=⟨n-1,by omega⟩
  have:l=pre:=by simpa using hp
  subst this
  simp only [impl_PlainPack.l7,spec_PlainPack.l6,decide_eq_false (show ¬(l.length:Int)<(l.length:Int) by omega),cond_false,beqF ht]
  simp
 |cons v post ih=>
  intro pre n o hp hn ho
  simp only [List.length_cons] at hn
  obtain ⟨n,rfl⟩:∃x,n=x+1:=⟨n-1,by omega⟩
  have hlen:l.length=pre.length+(post.length+1):=by rw [hp];simp
  have hg:rdL l (pre.length:Int)=some v:=by rw [hp];exact getMid pre post v
  have hvv:vok t v=true:=hv v (by rw [hp];simp)
  have hbl:=plB_len hvv
  obtain ⟨i1,i2⟩:=ih (pre++[v]) n (o++plB t v) (by rw [hp];simp) (by omega) (by simp;omega)
  rw [List.length_append,List.length_singleton] at i1 i2
  have w4:∀x:Int,impl_WordPut k x 4=some ((),leB 4 (u64 x))∧spec_WordPut k x 4=some ((),leB 4 (u64 x)):=fun x=>wordPut_eq k hk x 4 (by omega) (by omega)
  have w8':∀x:Int,impl_WordPut k x 8=some ((),leB 8 (u64 x))∧spec_WordPut k x 8=some ((),leB 8 (u64 x)):=fun x=>wordPut_eq k hk x 8 (by omega) (by omega)
  have hs:([]:List Int)=[]:=rfl
  simp only [impl_PlainPack.l7,spec_PlainPack.l6,decide_eq_true (show (pre.length:Int)<(l.length:Int) by omega),cond_true,hg,Option.bind_some,beqF ht,cond_false]
  rw [List.map_cons,List.flatten_cons,←List.append_assoc]
  rcases vok_cases hvv with ⟨h0,_⟩|⟨rfl,_⟩|⟨h25,_⟩|⟨rfl,_,h3⟩
  ·exact absurd h0 ht
  ·have e:plB 1 v=leB 4 (u64 v.1):=by unfold plB;rw [if_neg (by decide),if_pos rfl]
   rw [e] at i1 i2⊢
   simp only [show ((1:Int)==6)=false from rfl,show ((1:Int)==1)=true from rfl,cond_true,cond_false,impl_PlainPack.d11,impl_wideOf,Option.bind_some,(w4 _).1,(w4 _).2,lim_ok (show o.length+(leB 4 (u64 v.1)).length≤4294967296 by rw [leB_len];omega),impl_PlainPack.c12,spec_PlainPack.c7,w64 (x:=(pre.length:Int)+1) (by omega) (by omega)]
   exact ⟨i1,i2⟩
  ·have e:plB t v=leB 8 (u64 v.1):=by unfold plB;rw [if_neg (by omega),if_neg (by omega)]
   have ew:impl_wideOf k t=some 8:=by rcases h25 with rfl|rfl<;>rfl
   rw [e] at i1 i2⊢
   simp only [beqF (show ¬t=6 by omega),beqF (show ¬t=1 by omega),cond_true,cond_false,impl_PlainPack.d11,ew,Option.bind_some,(w8' _).1,(w8' _).2,lim_ok (show o.length+(leB 8 (u64 v.1)).length≤4294967296 by rw [leB_len];omega),impl_PlainPack.c12,spec_PlainPack.c7,w64 (x:=(pre.length:Int)+1) (by omega) (by omega)]
   exact ⟨i1,i2⟩
  ·have e:plB 6 v=leB 4 (u64 (v.2.1.size:Int))++strInts v.2.1:=by unfold plB;rw [if_pos rfl]
   rw [e,←List.append_assoc] at i1 i2
   rw [e,←List.append_assoc]
   simp only [show ((6:Int)==6)=true from rfl,show ((6:Int)==1)=false from rfl,cond_true,cond_false,impl_PlainPack.d10,Option.bind_some,(w4 _).1,(w4 _).2,lim_ok (show o.length+(leB 4 (u64 (v.2.1.size:Int))).length≤4294967296 by rw [leB_len];omega),
    lim_ok (show (o++leB 4 (u64 (v.2.1.size:Int))).length+(strInts v.2.1).length≤4294967296 by rw [List.length_append,leB_len,strInts_length];omega),impl_PlainPack.c12,spec_PlainPack.c7,w64 (x:=(pre.length:Int)+1) (by omega) (by omega)]
   exact ⟨i1,i2⟩
theorem pk_bits (l:List TVal) (h:vsOk 0 l=true):∀(post pre:List TVal) (n:Nat),l=pre++post→post.length<n→
 spec_PlainPack.l6 k n 0 l (pre.length:Int) [] (pre.map (·.1))=(spec_BitsPack k (l.map (·.1)) 1).bind fun r5=>some (((),r5.1.2),r5.2):=by
 obtain ⟨hv,hl,hty⟩:=vsOk_iff.1 h
 intro post
 induction post with
 |nil=>
  intro pre n hp hn
  obtain ⟨n,rfl⟩:∃x,n=x+1:=⟨n-1,by omega⟩
  have:l=pre:=by simpa using hp
  subst this
  simp only [spec_PlainPack.l6,decide_eq_false (show ¬(l.length:Int)<(l.length:Int) by omega),cond_false,show ((0:Int)==0)=true from rfl,cond_true]
 |cons v post ih=>
  intro pre n hp hn
  simp only [List.length_cons] at hn
  obtain ⟨n,rfl⟩:∃x,n=x+1:=⟨n-1,by omega⟩
  have hlen:l.length=pre.length+(post.length+1):=by rw [hp];simp
  have hg:rdL l (pre.length:Int)=some v:=by rw [hp];exact getMid pre post v
  have i1:=ih (pre++[v]) n (by rw [hp];simp) (by omega)
  rw [List.length_append,List.length_singleton,List.map_append] at i1
  simp only [spec_PlainPack.l6,decide_eq_true (show (pre.length:Int)<(l.length:Int) by omega),cond_true,hg,Option.bind_some,show ((0:Int)==0)=true from rfl,lim_ok (show (pre.map (·.1)).length+[v.1].length≤4294967296 by simp;omega),spec_PlainPack.c7,w64 (x:=(pre.length:Int)+1) (by omega) (by omega)]
  exact i1
theorem plainPack_eq (hk:3000≤k) (t:Int) (l:List TVal) (hl:l.length<1000000000) (hlk:l.length<k):
 impl_PlainPack k t l=some (((),vsOk t l),if vsOk t l then plL t l else [])∧spec_PlainPack k t l=some (((),vsOk t l),if vsOk t l then plL t l else []):=by
 obtain ⟨o1,o2⟩:=vsOk_eq k t l hl hlk
 unfold impl_PlainPack spec_PlainPack
 simp only [o1,o2,Option.bind_some]
 cases h:vsOk t l with
 |false=>exact ⟨rfl,rfl⟩
 |true=>
  obtain ⟨hv,hl2,hty⟩:=vsOk_iff.1 h
  simp only [Bool.not_true,cond_false,if_true]
  unfold plL
  by_cases ht:t=0
  ·subst ht
   have hn:=nums_loop k l hl l [] k rfl hlk
   have hb:=pk_bits k l h l [] k rfl hlk
   have hp:=packed_eq k (l.map (·.1)) 1 (by omega) (by rw [List.length_map];omega) (by rw [List.length_map];omega) (by omega)
   have hs:=bitsPack_ok k (l.map (·.1)) 1 (by omega) (by rw [List.length_map];omega) (by
    intro x hx
    obtain ⟨v,hv',rfl⟩:=List.mem_map.1 hx
    rcases vok_cases (hv v hv') with ⟨_,a,b,_⟩|⟨h0,_⟩|⟨h0,_⟩|⟨h0,_⟩
    ·omega
    ·cases h0
    ·omega
    ·cases h0) (by rw [List.length_map];omega) (by omega)
   rw [List.length_nil,List.map_nil,show ((0:Nat):Int)=0 from rfl] at hn hb
   rw [show ((1:Nat):Int)=1 from rfl] at hp hs
   unfold impl_numsOf
   simp only [show ((0:Int)==0)=true from rfl,cond_true,hn,Option.bind_some,hp,hb,hs,if_true]
   exact ⟨trivial,trivial⟩
  ·obtain ⟨i1,i2⟩:=pk_loop k (by omega) t l h ht l [] k [] rfl hlk (by simp)
   rw [List.length_nil,show ((0:Nat):Int)=0 from rfl,List.nil_append] at i1 i2
   simp only [beqF ht,cond_false,if_neg ht]
   exact ⟨i1,i2⟩
end Go.Law
end
section
set_option linter.unusedVariables false
set_option linter.unusedSimpArgs false
namespace Go.Law
open Go.Am Go.Fn
variable (k:Nat)
theorem word_any (hk:100≤k) (b:List Int) (hb:b.length<1000000000000000) (hby:Byts b) (at_:Int) (ha:I64 at_) (n:Nat) (hn:n≤8) (h1:1≤n):
 ∃v nx ok,impl_WordGet k b at_ (n:Int)=some (v,nx,ok)∧spec_WordGet k b at_ (n:Int)=some (v,nx,ok)∧I64 v∧(ok=false→v=0∧nx=0)∧
  (ok=true→0≤at_∧nx=at_+(n:Int)∧nx≤(b.length:Int)∧(n≤4→0≤v∧v<4294967296)):=by
 have hr:(decide ((1:Int)≤(n:Int))&&decide ((n:Int)≤8))=true:=by simp;omega
 unfold impl_WordGet spec_WordGet
 simp only [within_eq,l1In_eq,hr,Option.bind_some,Bool.not_true,cond_false,cst,Bool.false_or]
 have hi:=ha.1
 have hi':=ha.2
 have e1:IntKind.wrap .i64 ((b.length:Int)-(n:Int))=(b.length:Int)-n:=w64 (by omega) (by omega)
 rw [e1]
 by_cases h0:at_<0
 ·simp only [decide_eq_true h0,Bool.true_or,cond_true]
  exact ⟨0,0,false,rfl,rfl,⟨by decide,by decide⟩,fun _=>⟨rfl,rfl⟩,fun h=>by cases h⟩
 obtain ⟨p,rfl⟩:∃m:Nat,at_=m:=⟨at_.toNat,by omega⟩
 simp only [decide_eq_false h0,Bool.false_or]
 by_cases h2:(p:Int)>(b.length:Int)-n
 ·have:(decide ((p:Int)>(b.length:Int))||decide (IntKind.wrap .i64 ((b.length:Int)-(p:Int))<(n:Int)))=true:=by
   by_cases hp:(p:Int)>(b.length:Int)
   ·simp [hp]
   ·rw [w64 (by omega) (by omega),decide_eq_true (show (b.length:Int)-(p:Int)<(n:Int) by omega),Bool.or_true]
  simp only [decide_eq_true h2,this,cond_true]
  exact ⟨0,0,false,rfl,rfl,⟨by decide,by decide⟩,fun _=>⟨rfl,rfl⟩,fun h=>by cases h⟩
 ·have e2:IntKind.wrap .i64 ((b.length:Int)-(p:Int))=(b.length:Int)-p:=w64 (by omega) (by omega)
  simp only [decide_eq_false h2,e2,decide_eq_false (show ¬(p:Int)>(b.length:Int) by omega),decide_eq_false (show ¬(b.length:Int)-(p:Int)<(n:Int) by omega),Bool.or_self,cond_false]
  obtain ⟨l1,l2⟩:=word_loop k b p n hn (by omega) (by omega) hby n k 0 0 (by omega) (by omega) (by simp)
  rw [show IntKind.wrap .i64 ((0:Nat):Int)=0 by decide,show ((0:Nat):Int)=0 from rfl] at l1 l2
  simp only [Nat.zero_add,Nat.add_zero,Nat.mul_zero,Nat.pow_zero,Nat.mul_one] at l1 l2
  refine ⟨_,_,_,l2,l1,⟨w64_lo _,w64_hi _⟩,(fun h=>by cases h),fun _=>⟨by omega,by omega,by omega,?_⟩⟩
  intro h4
  have hlt:=wv_lt ((b.drop p).take n) (fun x hx=>hby x (List.mem_of_mem_drop (List.mem_of_mem_take hx)))
  have hlen:((b.drop p).take n).length=n:=by rw [List.length_take,List.length_drop];omega
  rw [hlen] at hlt
  have:2^(8*n)≤2^32:=Nat.pow_le_pow_right (by decide) (by omega)
  rw [w64 (by omega) (by omega)]
  omega
theorem plOne_any (hk:100≤k) (t:Int) (ht:t=1∨t=2∨t=5∨t=6) (b:List Int) (hb:b.length<1000000000000000) (hby:Byts b) (at_:Int) (ha:I64 at_):
 ∃v nx ok,impl_plainOne k t b at_=some (v,nx,ok)∧spec_l7One k t b at_=some (v,nx,ok)∧
  (ok=true→vok t v=true∧I64 v.1∧0≤at_∧nx=at_+((plB t v).length:Nat)∧nx≤(b.length:Int)):=by
 obtain ⟨v4,n4,o4,a1,a2,a3,a4,a5⟩:=word_any k hk b hb hby at_ ha 4 (by omega) (by omega)
 obtain ⟨v8,n8,o8,b1,b2,b3,b4,b5⟩:=word_any k hk b hb hby at_ ha 8 (by omega) (by omega)
 rw [show ((4:Nat):Int)=4 from rfl] at a1 a2 a5
 rw [show ((8:Nat):Int)=8 from rfl] at b1 b2 b5
 unfold impl_plainOne spec_l7One
 rcases (show t=1∨(t=2∨t=5)∨t=6 by omega) with rfl|h25|rfl
 ·have hs:∀v:Int,0≤v→v<4294967296→IntKind.wrap .i64 (IntKind.wrap .i32 v)=if v>2147483647 then v-4294967296 else v:=by
   intro v h0 h1
   have:IntKind.wrap .i32 v=if v>2147483647 then v-4294967296 else v:=by
    have h2:v%2^32=v:=Int.emod_eq_of_lt h0 h1
    simp only [IntKind.wrap,IntKind.bits,IntKind.signed,h2,Bool.true_and,decide_eq_true_eq]
    by_cases h:v>2147483647
    ·rw [if_pos h,if_pos (show v≥2^(32-1) by omega)];omega
    ·rw [if_neg h,if_neg (show ¬v≥2^(32-1) by omega)]
   rw [this]
   split<;>exact w64 (by omega) (by omega)
  have hv:0≤v4∧v4<4294967296:=by
   cases o4 with
   |false=>obtain ⟨rfl,_⟩:=a4 rfl;omega
   |true=>exact (a5 rfl).2.2.2 (by omega)
  simp only [show ((1:Int) !=6)=true from rfl,show ((1:Int)==1)=true from rfl,cond_true,impl_wideOf,Option.bind_some,a1,a2,impl_signed,show ((4:Int)==4)=true from rfl,hs v4 hv.1 hv.2,spec_l7One.c6]
  refine ⟨(if v4>2147483647 then v4-4294967296 else v4,(⟨#[]⟩:ByteArray),()),n4,o4,rfl,?_,?_⟩
  ·by_cases h:v4>2147483647
   ·rw [decide_eq_true h,cond_true,if_pos h,w64 (by omega) (by omega)]
   ·rw [decide_eq_false h,cond_false,if_neg h]
  ·intro ho
   obtain ⟨c1,c2,c3,c4⟩:=a5 ho
   have: -2147483648≤(if v4>2147483647 then v4-4294967296 else v4)∧(if v4>2147483647 then v4-4294967296 else v4)≤2147483647:=by split<;>omega
   refine ⟨?_,⟨by omega,by omega⟩,c1,(by unfold plB;rw [if_neg (by decide),if_pos rfl,leB_len];omega),c3⟩
   unfold vok
   rw [if_neg (by decide),if_pos rfl]
   simp [this,eqS_iff]
 ·have e6:(t !=6)=true:=by rcases h25 with rfl|rfl<;>rfl
  have ew:impl_wideOf k t=some 8:=by rcases h25 with rfl|rfl<;>rfl
  simp only [e6,cond_true,ew,Option.bind_some,b1,b2,impl_signed,show ((8:Int)==4)=false from rfl,cond_false,beqF (show ¬t=1 by omega),beqF (show ¬t=6 by omega)]
  refine ⟨_,_,_,rfl,rfl,?_⟩
  intro ho
  obtain ⟨c1,c2,c3,c4⟩:=b5 ho
  refine ⟨?_,b3,c1,(by unfold plB;rw [if_neg (by omega),if_neg (by omega),leB_len];omega),c3⟩
  unfold vok
  rw [if_neg (by omega),if_neg (by omega),if_pos h25]
  simp [eqS_iff]
 ·simp only [show ((6:Int) !=6)=false from rfl,show ((6:Int)==1)=false from rfl,show ((6:Int)==6)=true from rfl,cond_true,cond_false,a1,a2,Option.bind_some,cst]
  cases o4 with
  |false=>
   simp only [Bool.not_false,Bool.true_or,cond_true]
   exact ⟨_,_,_,rfl,rfl,fun h=>by cases h⟩
  |true=>
   obtain ⟨c1,c2,c3,c4⟩:=a5 rfl
   have c4:=c4 (by omega)
   have e:IntKind.wrap .i64 ((b.length:Int)-n4)=(b.length:Int)-n4:=w64 (by omega) (by omega)
   simp only [Bool.not_true,Bool.false_or,e]
   by_cases hx:v4>40∨v4>(b.length:Int)-n4
   ·have:(decide (v4>40)||decide (v4>(b.length:Int)-n4))=true:=by rcases hx with hx|hx<;>simp [hx]
    simp only [this,cond_true]
    exact ⟨_,_,_,rfl,rfl,fun h=>by cases h⟩
   ·have h1:¬v4>40:=fun h=>hx (.inl h)
    have h2:¬v4>(b.length:Int)-n4:=fun h=>hx (.inr h)
    have e3:IntKind.wrap .i64 (n4+v4)=n4+v4:=w64 (by omega) (by omega)
    simp only [decide_eq_false h1,decide_eq_false h2,Bool.or_self,cond_false,e3,inSl_ok (show (0:Int)≤n4 by omega) (show n4≤n4+v4 by omega) (show n4+v4≤(b.length:Int) by omega),cond_true]
    refine ⟨_,_,_,rfl,rfl,fun _=>⟨?_,⟨(by decide: -9223372036854775808≤(0:Int)),(by decide:(0:Int)<9223372036854775808)⟩,c1,(by unfold plB cutL;rw [if_pos rfl,List.length_append,leB_len,strInts_length,intsStr_size,List.length_drop,List.length_take];omega),by omega⟩⟩
    unfold vok
    rw [if_neg (by decide),if_neg (by decide),if_neg (by decide),if_pos rfl]
    simp only [show ((0:Int)==0)=true from rfl,Bool.true_and,intsStr_size,decide_eq_true_eq]
    unfold cutL
    rw [List.length_drop,List.length_take]
    omega
structure PlainRes (t:Int) (b:List Int) (at_ many nx:Int) (ok:Bool) (l:List TVal):Prop where
 bad:ok=false→nx=0∨t=0
 ty:ok=true→tyOk t=true
 a0:ok=true→0≤at_
 m0:ok=true→0≤many∧many≤2000
 n0:ok=true→at_≤nx
 n1:ok=true→nx≤(b.length:Int)
 nl:ok=true→nx=at_+(((plL t l).length:Nat):Int)
 len:ok=true→l.length=many.toNat
 vk:ok=true→∀v,v∈l→vok t v=true∧I64 v.1
 short:ok=false→l.length≤2000
theorem rd_loop (hk:100≤k) (t:Int) (ht:t=1∨t=2∨t=5∨t=6) (b:List Int) (hb:b.length<1000000000000000) (hby:Byts b) (many:Nat) (hm:many≤2000):∀(m n i:Nat) (at_:Int) (o:List TVal),i+m=many→m<n→o.length=i→0≤at_→at_≤(b.length:Int)→
 ∃nx ok l,impl_PlainRead.l8 k n t b at_ (many:Int) (i:Int) o=some (((),nx,ok),l)∧spec_PlainRead.l12 k n t b at_ (many:Int) (i:Int) o=some (((),nx,ok),l)∧
  (ok=false→nx=0∧l=[])∧(ok=true→at_≤nx∧nx≤(b.length:Int)∧∃l',l=o++l'∧l'.length=m∧nx=at_+(((l'.map (plB t)).flatten.length:Nat):Int)∧∀v,v∈l'→vok t v=true∧I64 v.1):=by
 intro m
 induction m with
 |zero=>
  intro n i at_ o hi hn ho h0 h1
  obtain ⟨n,rfl⟩:∃x,n=x+1:=⟨n-1,by omega⟩
  obtain rfl:i=many:=by omega
  simp only [impl_PlainRead.l8,spec_PlainRead.l12,decide_eq_false (show ¬(i:Int)<(i:Int) by omega),cond_false]
  exact ⟨_,_,_,rfl,rfl,(fun h=>by cases h),fun _=>⟨by omega,h1,[],by simp,rfl,by simp,by simp⟩⟩
 |succ m ih=>
  intro n i at_ o hi hn ho h0 h1
  obtain ⟨n,rfl⟩:∃x,n=x+1:=⟨n-1,by omega⟩
  obtain ⟨v,nx,ok,e1,e2,e3⟩:=plOne_any k hk t ht b hb hby at_ ⟨by omega,by omega⟩
  simp only [impl_PlainRead.l8,spec_PlainRead.l12,decide_eq_true (show (i:Int)<(many:Int) by omega),cond_true,e1,e2,Option.bind_some]
  cases ok with
  |false=>
   simp only [Bool.not_false,cond_true]
   exact ⟨_,_,_,rfl,rfl,fun _=>⟨rfl,rfl⟩,fun h=>by cases h⟩
  |true=>
   obtain ⟨c1,c2,c3,c4,c5⟩:=e3 rfl
   obtain ⟨nx',ok',l',f1,f2,f3,f4⟩:=ih n (i+1) nx (o++[v]) (by omega) (by omega) (by simp;omega) (by omega) c5
   have e:IntKind.wrap .i64 ((i:Int)+1)=((i+1:Nat):Int):=by rw [w64 (by omega) (by omega)];omega
   simp only [Bool.not_true,cond_false,lim_ok (show o.length+[v].length≤4294967296 by simp;omega),cond_true,e]
   refine ⟨nx',ok',l',f1,f2,f3,?_⟩
   intro ho'
   obtain ⟨g1,g2,l2,g3,g4,g6,g5⟩:=f4 ho'
   refine ⟨by omega,g2,v::l2,by rw [g3];simp,by simp [g4],(by rw [List.map_cons,List.flatten_cons,List.length_append];omega),?_⟩
   intro x hx
   rcases List.mem_cons.1 hx with rfl|hx
   ·exact ⟨c1,c2⟩
   ·exact g5 x hx
theorem vals_loop (l:List Int) (hl:l.length<1000000000):∀(post pre:List Int) (n:Nat),l=pre++post→post.length<n→
 impl_valsOf.l3 k n l (l.length:Int) (pre.length:Int) (pre.map fun x=>((x,(⟨#[]⟩:ByteArray),()):TVal))=some ((),l.map fun x=>((x,(⟨#[]⟩:ByteArray),()):TVal))∧
 ∀nx ok,spec_PlainRead.l7 k n nx ok (pre.length:Int) (pre.map fun x=>((x,(⟨#[]⟩:ByteArray),()):TVal)) l=some (((),nx,ok),l.map fun x=>((x,(⟨#[]⟩:ByteArray),()):TVal)):=by
 intro post
 induction post with
 |nil=>
  intro pre n hv hn
  obtain ⟨n,rfl⟩:∃x,n=x+1:=⟨n-1,by omega⟩
  have:l=pre:=by simpa using hv
  subst this
  simp only [impl_valsOf.l3,spec_PlainRead.l7,decide_eq_false (show ¬(l.length:Int)<(l.length:Int) by omega),cond_false]
  exact ⟨trivial,fun _ _=>trivial⟩
 |cons v post ih=>
  intro pre n hv hn
  simp only [List.length_cons] at hn
  obtain ⟨n,rfl⟩:∃x,n=x+1:=⟨n-1,by omega⟩
  have hlen:l.length=pre.length+(post.length+1):=by rw [hv];simp
  have hg:rdL l (pre.length:Int)=some v:=by rw [hv];exact getMid pre post v
  have:=ih (pre++[v]) n (by rw [hv];simp) (by omega)
  rw [List.length_append,List.length_singleton,List.map_append] at this
  simp only [impl_valsOf.l3,spec_PlainRead.l7,decide_eq_true (show (pre.length:Int)<(l.length:Int) by omega),cond_true,hg,Option.bind_some,lim_ok (show (pre.map fun x=>((x,(⟨#[]⟩:ByteArray),()):TVal)).length+([(v,(⟨#[]⟩:ByteArray),())]:List TVal).length≤4294967296 by simp;omega),w64 (x:=(pre.length:Int)+1) (by omega) (by omega)]
  exact this
theorem tyOk_cases {t:Int} (h:tyOk t=true):t=0∨t=1∨t=2∨t=5∨t=6:=by
 unfold tyOk at h
 simp at h
 omega
theorem plainRead_eq (hk:3000≤k) (t:Int) (b:List Int) (hb:b.length<1000000000000000) (hby:Byts b) (at_ many:Int) (ha:I64 at_):
 ∃nx ok l,impl_PlainRead k t b at_ many=some (((),nx,ok),l)∧spec_PlainRead k t b at_ many=some (((),nx,ok),l)∧PlainRes t b at_ many nx ok l:=by
 unfold impl_PlainRead spec_PlainRead
 simp only [typeOk_eq,l5Type_eq,within_eq,l1In_eq,Option.bind_some,cst]
 by_cases hc:tyOk t=true∧(0≤many∧many≤2000)∧(0≤at_∧at_≤(b.length:Int))
 ·obtain ⟨hty,⟨m0,m1⟩,a0,a1⟩:=hc
  simp only [hty,decide_eq_true m0,decide_eq_true m1,decide_eq_true a0,decide_eq_true a1,Bool.and_self,Bool.not_true,Bool.or_self,cond_false]
  by_cases ht:t=0
  ·subst ht
   obtain ⟨nx,ok,l,e1,e2,e3,e4⟩:=bits_any k hk b hb hby at_ many 1 ha
   have hll:l.length<1000000000∧l.length<k:=by
    cases ok with
    |false=>obtain ⟨_,rfl⟩:=e3 rfl;simp;omega
    |true=>obtain ⟨_,_,_,_,h,_⟩:=e4 rfl;omega
   obtain ⟨v1,v2⟩:=vals_loop k l hll.1 l [] k rfl hll.2
   rw [List.length_nil,List.map_nil,show ((0:Nat):Int)=0 from rfl] at v1 v2
   simp only [show ((0:Int)==0)=true from rfl,cond_true,e1,e2,Option.bind_some,impl_valsOf,v1,v2 nx ok]
   refine ⟨_,_,_,rfl,rfl,⟨fun _=> .inr rfl,fun _=>hty,fun _=>a0,fun _=>⟨m0,m1⟩,?_,?_,?_,?_,?_,fun h=>by rw [(e3 h).2];simp⟩⟩
   ·intro h;obtain ⟨_,_,_,_,_,_,h7,_,_⟩:=e4 h;omega
   ·intro h;obtain ⟨_,_,_,_,_,_,_,h8,_⟩:=e4 h;exact h8
   ·intro h;obtain ⟨_,_,_,_,h5,_,h7,_⟩:=e4 h;rw [h7];unfold plL packB;rw [if_pos rfl,leB_len];simp [h5]
   ·intro h;obtain ⟨_,_,_,_,h5,_⟩:=e4 h;simpa using h5
   ·intro h v hv
    obtain ⟨_,_,_,_,_,_,_,_,h9⟩:=e4 h
    obtain ⟨x,hx,rfl⟩:=List.mem_map.1 hv
    obtain ⟨x0,x1⟩:=h9 x hx
    have x1:x<2:=x1
    refine ⟨?_,⟨by show _≤x;omega,by show x<_;omega⟩⟩
    unfold vok
    rw [if_pos rfl]
    simp only [decide_eq_true x0,decide_eq_true (show x≤1 by omega),eqS_iff]
    simp
  ·obtain ⟨many,rfl⟩:∃m:Nat,many=m:=⟨many.toNat,by omega⟩
   have ht':t=1∨t=2∨t=5∨t=6:=by have:=tyOk_cases hty;omega
   obtain ⟨nx,ok,l,e1,e2,e3,e4⟩:=rd_loop k (by omega) t ht' b hb hby many (by omega) many k 0 at_ [] (by omega) (by omega) rfl a0 a1
   rw [show ((0:Nat):Int)=0 from rfl] at e1 e2
   simp only [beqF ht,cond_false,e1,e2]
   refine ⟨_,_,_,rfl,rfl,⟨fun h=> .inl (e3 h).1,fun _=>hty,fun _=>a0,fun _=>⟨m0,m1⟩,fun h=>(e4 h).1,fun h=>(e4 h).2.1,?_,?_,?_,fun h=>by rw [(e3 h).2];simp⟩⟩
   ·intro h;obtain ⟨_,_,l',rfl,_,h6,_⟩:=e4 h;unfold plL;rw [if_neg ht];simpa using h6
   ·intro h;obtain ⟨_,_,l',rfl,h5,_⟩:=e4 h;simpa using h5
   ·intro h;obtain ⟨_,_,l',rfl,_,_,h6⟩:=e4 h;simpa using h6
 ·have:((!tyOk t|| !(decide (0≤many)&&decide (many≤2000)))|| !(decide (0≤at_)&&decide (at_≤(b.length:Int))))=true:=by
   by_cases a:tyOk t=true<;>by_cases b1:0≤many<;>by_cases c:many≤2000<;>by_cases d:0≤at_<;>by_cases e:at_≤(b.length:Int)<;>simp [a,b1,c,d,e]
   exact hc ⟨a,⟨b1,c⟩,d,e⟩
  simp only [this,cond_true]
  exact ⟨_,_,_,rfl,rfl,⟨fun _=> .inl rfl,nofun,nofun,nofun,nofun,nofun,nofun,nofun,nofun,fun _=>by simp⟩⟩
end Go.Law
end
section
set_option linter.unusedVariables false
set_option linter.unusedSimpArgs false
namespace Go.Law
open Go.Am Go.Fn
def azc (c:UInt8):Bool:=decide (97≤c.toNat)&&decide (c.toNat≤122)
def az (s:ByteArray):Bool:=s.data.toList.all azc
def nameOk (s:ByteArray):Bool:=(decide (1≤(s.size:Int))&&decide ((s.size:Int)≤20))&&az s
theorem btS_nat {s:ByteArray} {i:Nat} {c:UInt8} (h:s.data.toList[i]?=some c):btS s (i:Int)=some (c.toNat:Int):=by
 show (match s.data.toList[i]? with|some b=>some (b.toNat:Int)|none=>none)=_
 rw [h]
theorem size_len (s:ByteArray):s.data.toList.length=s.size:=by
 rw [Array.length_toList]
 rfl
variable (k:Nat)
theorem l5NameLoop (s:ByteArray) (hs:s.size<1000000):∀(m n i:Nat),s.size=i+m→m<n→spec_l5Name.l4 k n s (i:Int)=some ((s.data.toList.drop i).all azc):=by
 intro m
 induction m with
 |zero=>
  intro n i hi hn
  obtain ⟨n,rfl⟩:∃j,n=j+1:=⟨n-1,by omega⟩
  simp only [spec_l5Name.l4,decide_eq_false (show ¬(i:Int)<(s.size:Int) by omega),cond_false]
  rw [List.drop_eq_nil_of_le (by rw [size_len];omega)]
  rfl
 |succ m ih=>
  intro n i hi hn
  obtain ⟨n,rfl⟩:∃j,n=j+1:=⟨n-1,by omega⟩
  have hlt:i<s.data.toList.length:=by rw [size_len];omega
  have hb:=btS_nat (s:=s) (i:=i) (List.getElem?_eq_getElem hlt)
  have hc:=(s.data.toList[i]).toNat_lt
  simp only [spec_l5Name.l4,decide_eq_true (show (i:Int)<(s.size:Int) by omega),cond_true,hb,Option.bind_some,cst]
  rw [List.drop_eq_getElem_cons hlt,List.all_cons,w64 (by omega) (by omega),show ((i:Int)+1)=((i+1:Nat):Int) by omega,ih n (i+1) (by omega) (by omega)]
  unfold azc
  by_cases h:97≤(s.data.toList[i]).toNat∧(s.data.toList[i]).toNat≤122
  ·simp only [decide_eq_false (show ¬(((s.data.toList[i]).toNat:Nat):Int)<97 by omega),decide_eq_false (show ¬(((s.data.toList[i]).toNat:Nat):Int)>122 by omega),Bool.or_self,cond_false,decide_eq_true h.1,decide_eq_true h.2,Bool.and_self,Bool.true_and]
  ·have h1:(decide ((((s.data.toList[i]).toNat:Nat):Int)<97)||decide ((((s.data.toList[i]).toNat:Nat):Int)>122))=true:=by
    simp only [Bool.or_eq_true,decide_eq_true_eq];omega
   have h2:(decide (97≤(s.data.toList[i]).toNat)&&decide ((s.data.toList[i]).toNat≤122))=false:=by
    rw [Bool.eq_false_iff];intro hh
    simp only [Bool.and_eq_true,decide_eq_true_eq] at hh
    exact h hh
   simp only [h1,h2,cond_true,Bool.false_and]
theorem l5Name_eq (hk:100≤k) (s:ByteArray):spec_l5Name k s=some (nameOk s):=by
 unfold spec_l5Name nameOk
 simp only [l1In_eq,Option.bind_some]
 by_cases h:1≤s.size∧s.size≤20
 ·rw [decide_eq_true (show (1:Int)≤(s.size:Int) by omega),decide_eq_true (show (s.size:Int)≤20 by omega)]
  simp only [Bool.and_self,Bool.not_true,cond_false,Bool.true_and]
  exact l5NameLoop k s (by omega) s.size k 0 (by omega) (by omega)
 ·have:(decide ((1:Int)≤(s.size:Int))&&decide ((s.size:Int)≤20))=false:=by
   rw [Bool.eq_false_iff];intro hh
   simp only [Bool.and_eq_true,decide_eq_true_eq] at hh
   omega
  simp only [this,Bool.not_false,cond_true,Bool.false_and]
theorem colNameLoop (s:ByteArray) (hs:s.size<1000000000):∀(m n i:Nat),s.size=i+m→m<n→impl_isColName.l2 k n s (s.size:Int) (i:Int)=some ((decide (1≤(s.size:Int))&&decide ((s.size:Int)≤20))&&(s.data.toList.drop i).all azc):=by
 intro m
 induction m with
 |zero=>
  intro n i hi hn
  obtain ⟨n,rfl⟩:∃j,n=j+1:=⟨n-1,by omega⟩
  simp only [impl_isColName.l2,decide_eq_false (show ¬(i:Int)<(s.size:Int) by omega),cond_false,within_eq,Option.bind_some]
  rw [List.drop_eq_nil_of_le (by rw [size_len];omega)]
  simp
 |succ m ih=>
  intro n i hi hn
  obtain ⟨n,rfl⟩:∃j,n=j+1:=⟨n-1,by omega⟩
  have hlt:i<s.data.toList.length:=by rw [size_len];omega
  have hb:=btS_nat (s:=s) (i:=i) (List.getElem?_eq_getElem hlt)
  have hc:=(s.data.toList[i]).toNat_lt
  simp only [impl_isColName.l2,decide_eq_true (show (i:Int)<(s.size:Int) by omega),cond_true,hb,Option.bind_some,within_eq]
  rw [w64 (show -9223372036854775808≤(((s.data.toList[i]).toNat:Nat):Int) by omega) (by omega)]
  rw [List.drop_eq_getElem_cons hlt,List.all_cons,w64 (by omega) (by omega),show ((i:Int)+1)=((i+1:Nat):Int) by omega,ih n (i+1) (by omega) (by omega)]
  unfold azc
  by_cases h:97≤(s.data.toList[i]).toNat∧(s.data.toList[i]).toNat≤122
  ·simp only [decide_eq_true (show (97:Int)≤(((s.data.toList[i]).toNat:Nat):Int) by omega),decide_eq_true (show (((s.data.toList[i]).toNat:Nat):Int)≤122 by omega),Bool.not_true,Bool.and_self,cond_false,decide_eq_true h.1,decide_eq_true h.2,Bool.true_and]
  ·have h1:(decide ((97:Int)≤(((s.data.toList[i]).toNat:Nat):Int))&&decide ((((s.data.toList[i]).toNat:Nat):Int)≤122))=false:=by
    rw [Bool.eq_false_iff];intro hh
    simp only [Bool.and_eq_true,decide_eq_true_eq] at hh
    omega
   have h2:(decide (97≤(s.data.toList[i]).toNat)&&decide ((s.data.toList[i]).toNat≤122))=false:=by
    rw [Bool.eq_false_iff];intro hh
    simp only [Bool.and_eq_true,decide_eq_true_eq] at hh
    exact h hh
   simp only [h1,h2,Bool.not_false,cond_true,Bool.false_and,Bool.and_false]
theorem isColName_eq (s:ByteArray) (hs:s.size<k) (hs2:s.size<1000000000):impl_isColName k s=some (nameOk s):=by
 unfold impl_isColName nameOk
 exact colNameLoop k s hs2 s.size k 0 (by omega) (by omega)
def colOk (c:TCol):Bool:=((c.2.1==7&&decide (c.2.2.2.1>0))||(tyOk c.2.1&&c.2.2.2.1==0))&&(decide (0≤c.2.2.1)&&decide (c.2.2.1≤2))
theorem colOk_eq (c:TCol):impl_colOk k c=some (colOk c):=by
 unfold impl_colOk colOk
 simp only [within_eq,typeOk_eq,Option.bind_some,csf,cst]
theorem tyOk_7:tyOk 7=false:=rfl
def PartsC (S:Nat→Nat→Prop) (s:List TCol):Nat→Nat→List ByteArray→Nat→Prop
 |0,pos,_,nx=>pos=nx
 |c+1,pos,names,nx=>∃p mid,s[pos]?=some p∧p.1∉names∧S pos mid∧PartsC S s c mid (names++[p.1]) nx
def SubC (s:List TCol):Nat→Nat→Nat→Prop
 |0,_,_=>False
 |d+1,at_,nx=>∃c,s[at_]?=some c∧colOk c=true∧(0<at_→nameOk c.1=true)∧PartsC (SubC s d) s c.2.2.2.1.toNat (at_+1) [] nx
theorem PartsC_le {S:Nat→Nat→Prop} {s:List TCol} (hS:∀a b,S a b→a<b):∀(c pos:Nat) (names:List ByteArray) (nx:Nat),PartsC S s c pos names nx→pos+c≤nx
 |0,pos,names,nx,e=>by have e:pos=nx:=e;omega
 |c+1,pos,names,nx,⟨p,mid,_,_,h3,h4⟩=>by
  have:=hS _ _ h3
  have:=PartsC_le hS c mid _ nx h4
  omega
theorem SubC_lt {s:List TCol}:∀(d a b:Nat),SubC s d a b→a<b
 |0,_,_,h=>h.elim
 |d+1,a,b,⟨c,_,_,_,h⟩=>by
  have:=PartsC_le (SubC_lt d) _ _ _ _ h
  omega
theorem SubC_all {s:List TCol}:∀(d a b:Nat),SubC s d a b→∀i,a≤i→i<b→∃c,s[i]?=some c∧colOk c=true∧(0<i→nameOk c.1=true)
 |0,_,_,h=>h.elim
 |d+1,a,b,⟨c,h1,h2,h3,h4⟩=>by
  have key:∀(n pos:Nat) (names:List ByteArray) (nx:Nat),PartsC (SubC s d) s n pos names nx→∀i,pos≤i→i<nx→∃c,s[i]?=some c∧colOk c=true∧(0<i→nameOk c.1=true):=by
   intro n
   induction n with
   |zero=>intro pos names nx e i hi1 hi2;have e:pos=nx:=e;omega
   |succ n ih=>
    intro pos names nx ⟨p,mid,_,_,hs,hp⟩ i hi1 hi2
    rcases Nat.lt_or_ge i mid with h|h
    ·exact SubC_all d pos mid hs i hi1 h
    ·exact ih mid _ nx hp i h hi2
  intro i hi1 hi2
  rcases Nat.lt_or_ge a i with h|h
  ·exact key _ _ _ _ h4 i (by omega) hi2
  ·obtain rfl:i=a:=by omega
   exact ⟨c,h1,h2,h3⟩
open Classical in
theorem specNames (S:List TCol→Int→Int→Option Int) (L:List TCol→Int→Int→Int→TCol→List ByteArray→Option Int) (s:List TCol) (deep:Int) (pos:Nat) (i:Int) (c p:TCol) (hp:s[pos]?=some p) (names:List ByteArray) (hn:names.length≤100):
 ∀(m n j:Nat),names.length=j+m→m<n→spec_l5Check.l20 k S L n s deep (pos:Int) i (j:Int) c names=
  if p.1∈names.drop j then some (-1) else (S s (pos:Int) (IntKind.wrap .i64 (deep+1))).bind fun r=>cond (decide (r<0)) (some (-1)) (L s deep r (IntKind.wrap .i64 (i+1)) c (names++[p.1])):=by
 intro m
 induction m with
 |zero=>
  intro n j hj hn'
  obtain ⟨n,rfl⟩:∃q,n=q+1:=⟨n-1,by omega⟩
  simp only [spec_l5Check.l20,decide_eq_false (show ¬(j:Int)<(names.length:Int) by omega),cond_false,rdL_nat,hp,Option.bind_some]
  rw [lim_ok (by simp;omega),cond_true,List.drop_eq_nil_of_le (by omega)]
  simp
 |succ m ih=>
  intro n j hj hn'
  obtain ⟨n,rfl⟩:∃q,n=q+1:=⟨n-1,by omega⟩
  have hlt:j<names.length:=by omega
  simp only [spec_l5Check.l20,decide_eq_true (show (j:Int)<(names.length:Int) by omega),cond_true,rdL_nat,hp,List.getElem?_eq_getElem hlt,Option.bind_some,eqS_iff]
  rw [w64 (by omega) (by omega),show ((j:Int)+1)=((j+1:Nat):Int) by omega,ih n (j+1) (by omega) (by omega),List.drop_eq_getElem_cons hlt]
  by_cases h:names[j]=p.1
  ·rw [decide_eq_true h,cond_true,if_pos (by rw [h];exact List.mem_cons_self ..)]
  ·rw [decide_eq_false h,cond_false]
   have:(p.1∈names[j]::names.drop (j+1))↔p.1∈names.drop (j+1):=by
    rw [List.mem_cons]
    exact ⟨fun hh=>hh.elim (fun e=>absurd e.symm h) id,.inr⟩
   simp only [this]
open Classical in
theorem implNames (S:List TCol→Int→Int→Option Int) (L:List TCol→Int→Int→Int→Int→List ByteArray→Option Int) (s:List TCol) (deep:Int) (pos:Nat) (M i:Int) (p:TCol) (hp:s[pos]?=some p) (names:List ByteArray) (hn:names.length≤100):
 ∀(m n j:Nat),names.length=j+m→m<n→impl_colAfter.l10 k S L n s deep (pos:Int) M i (names.length:Int) (j:Int) names=
  if p.1∈names.drop j then some (-1) else (S s (pos:Int) (IntKind.wrap .i64 (deep+1))).bind fun r=>cond (decide (r<0)) (some (-1)) (L s deep r M (IntKind.wrap .i64 (i+1)) (names++[p.1])):=by
 intro m
 induction m with
 |zero=>
  intro n j hj hn'
  obtain ⟨n,rfl⟩:∃q,n=q+1:=⟨n-1,by omega⟩
  simp only [impl_colAfter.l10,decide_eq_false (show ¬(j:Int)<(names.length:Int) by omega),cond_false,rdL_nat,hp,Option.bind_some]
  rw [lim_ok (by simp;omega),cond_true,List.drop_eq_nil_of_le (by omega)]
  simp
 |succ m ih=>
  intro n j hj hn'
  obtain ⟨n,rfl⟩:∃q,n=q+1:=⟨n-1,by omega⟩
  have hlt:j<names.length:=by omega
  simp only [impl_colAfter.l10,decide_eq_true (show (j:Int)<(names.length:Int) by omega),cond_true,rdL_nat,hp,List.getElem?_eq_getElem hlt,Option.bind_some,eqS_iff]
  rw [w64 (by omega) (by omega),show ((j:Int)+1)=((j+1:Nat):Int) by omega,ih n (j+1) (by omega) (by omega),List.drop_eq_getElem_cons hlt]
  by_cases h:names[j]=p.1
  ·rw [decide_eq_true h,cond_true,if_pos (by rw [h];exact List.mem_cons_self ..)]
  ·rw [decide_eq_false h,cond_false]
   have:(p.1∈names[j]::names.drop (j+1))↔p.1∈names.drop (j+1):=by
    rw [List.mem_cons]
    exact ⟨fun hh=>hh.elim (fun e=>absurd e.symm h) id,.inr⟩
   simp only [this]
theorem schkLoop (hk:100≤k) (s:List TCol) (hs:s.length≤20) (d D deep:Nat) (hdeep:deep≤6)
 (ih:∀at_:Nat,0<at_→∃v,spec_l5Check.rec k D s (at_:Int) ((deep+1:Nat):Int)=some v∧impl_colAfter.rec k D s (at_:Int) ((deep+1:Nat):Int)=some v∧(v= -1∨∃nx:Nat,v=nx∧SubC s d at_ nx∧nx≤s.length))
 (c:TCol) (M:Int) (hM:c.2.2.2.1=M) (hM1:M<9223372036854775808):∀(f pos:Nat) (i:Int) (names:List ByteArray),s.length-pos<f→0<pos→pos≤s.length→0≤i→i≤M→names.length≤pos→
  ∃v,spec_l5Check.l15 k (spec_l5Check.rec k D) f s (deep:Int) (pos:Int) i c names=some v∧impl_colAfter.l6 k (impl_colAfter.rec k D) f s (deep:Int) (pos:Int) M i names=some v∧
   (v= -1∨∃nx:Nat,v=nx∧PartsC (SubC s d) s (M-i).toNat pos names nx∧nx≤s.length):=by
 intro f
 induction f with
 |zero=>intro pos i names h;omega
 |succ f ihf=>
  intro pos i names hf hpos hpl hi0 hiM hnm
  simp only [spec_l5Check.l15,impl_colAfter.l6,hM]
  by_cases hlt:i<M
  ·simp only [decide_eq_true hlt,cond_true]
   by_cases hpe:(pos:Int)≥(s.length:Int)
   ·simp only [decide_eq_true hpe,cond_true]
    exact ⟨_,rfl,rfl,.inl rfl⟩
   ·have hpl':pos<s.length:=by omega
    simp only [decide_eq_false hpe,cond_false]
    have hp:=List.getElem?_eq_getElem hpl'
    rw [show (0:Int)=((0:Nat):Int) from rfl,specNames k _ _ s _ pos i c _ hp names (by omega) names.length k 0 (by omega) (by omega),implNames k _ _ s _ pos M i _ hp names (by omega) names.length k 0 (by omega) (by omega)]
    rw [List.drop_zero]
    by_cases hmem:(s[pos]'hpl').1∈names
    ·rw [if_pos hmem,if_pos hmem]
     exact ⟨_,rfl,rfl,.inl rfl⟩
    ·rw [if_neg hmem,if_neg hmem]
     have hd1:IntKind.wrap .i64 ((deep:Int)+1)=((deep+1:Nat):Int):=by rw [w64 (by omega) (by omega)];omega
     rw [hd1]
     obtain ⟨v,s1,s2,s4⟩:=ih pos hpos
     simp only [s1,s2,Option.bind_some]
     rcases s4 with rfl|⟨mid,rfl,s5,s6⟩
     ·simp only [show decide ((-1:Int)<0)=true from rfl,cond_true]
      exact ⟨_,rfl,rfl,.inl rfl⟩
     ·have hml:=SubC_lt _ _ _ s5
      have hm0:decide ((mid:Int)<0)=false:=decide_eq_false (by omega)
      have hi1:IntKind.wrap .i64 (i+1)=i+1:=w64 (by omega) (by omega)
      simp only [hm0,cond_false,hi1]
      obtain ⟨w,t1,t2,t4⟩:=ihf mid (i+1) (names++[(s[pos]'hpl').1]) (by omega) (by omega) s6 (by omega) (by omega) (by simp;omega)
      refine ⟨w,t1,t2,?_⟩
      rcases t4 with h|⟨nx,h1,h2,h3⟩
      ·exact .inl h
      ·refine .inr ⟨nx,h1,?_,h3⟩
       rw [show (M-i).toNat=(M-(i+1)).toNat+1 by omega]
       exact ⟨_,mid,hp,hmem,s5,h2⟩
  ·simp only [decide_eq_false hlt,cond_false]
   refine ⟨_,rfl,rfl,.inr ⟨pos,rfl,?_,hpl⟩⟩
   rw [show (M-i).toNat=0 by omega]
   rfl
theorem schk (hk:100≤k) (s:List TCol) (hs:s.length≤20) (hn:∀c,c∈s→c.1.size<k∧c.1.size<1000000000∧I64 c.2.2.2.1) (hroot:∀c,s[0]?=some c→c.1=⟨#[]⟩∧c.2.2.1=0∧c.2.1=7):
 ∀(d D deep at_:Nat),d+deep=7→d<D→∃v,spec_l5Check.rec k D s (at_:Int) (deep:Int)=some v∧impl_colAfter.rec k D s (at_:Int) (deep:Int)=some v∧(v= -1∨∃nx:Nat,v=nx∧SubC s d at_ nx∧nx≤s.length):=by
 intro d
 induction d with
 |zero=>
  intro D deep at_ hd hD
  obtain ⟨D,rfl⟩:∃m,D=m+1:=⟨D-1,by omega⟩
  obtain rfl:deep=7:=by omega
  simp only [spec_l5Check.rec,impl_colAfter.rec,spec_l5Check.b,impl_colAfter.b,cst,Option.bind_some,show decide (((7:Nat):Int)>6)=true from rfl,Bool.or_true,cond_true]
  exact ⟨_,rfl,rfl,.inl rfl⟩
 |succ d ih=>
  intro D deep at_ hd hD
  obtain ⟨D,rfl⟩:∃m,D=m+1:=⟨D-1,by omega⟩
  simp only [spec_l5Check.rec,impl_colAfter.rec,spec_l5Check.b,impl_colAfter.b,cst,Option.bind_some]
  by_cases hat:(at_:Int)≥(s.length:Int)
  ·simp only [decide_eq_true hat,Bool.true_or,cond_true,Option.bind_some]
   exact ⟨_,rfl,rfl,.inl rfl⟩
  ·have hat':at_<s.length:=by omega
   have hdd:decide ((deep:Int)>6)=false:=decide_eq_false (by omega)
   have hc:=List.getElem?_eq_getElem hat'
   generalize hcd:s[at_]'hat'=c at hc
   have hcm:c∈s:=List.mem_of_getElem? hc
   obtain ⟨n1,n2,n3⟩:=hn c hcm
   simp only [decide_eq_false hat,hdd,Bool.false_or,cond_false,rdL_nat,hc,Option.bind_some,colOk_eq,isColName_eq k c.1 n1 n2,l5Name_eq k hk,l1In_eq,l5Type_eq,csf,cst]
   have hr0:(((at_:Int)==0)&&((!eqS c.1 ⟨#[]⟩||c.2.2.1 !=0)||c.2.1 !=7))=false:=by
    by_cases h0:at_=0
    ·subst h0
     obtain ⟨r1,r2,r3⟩:=hroot c hc
     rw [r1,r2,r3,eqS_iff];simp
    ·rw [beqF (show ¬(at_:Int)=0 by omega)];rfl
   simp only [hr0,Bool.false_or]
   generalize hnm:(decide ((at_:Int)>0)&& !nameOk c.1)=bn
   have hname:bn=false→0<at_→nameOk c.1=true:=by
    intro hb h0
    rw [hb,decide_eq_true (show (at_:Int)>0 by omega)] at hnm
    simpa using hnm
   have ha1:IntKind.wrap .i64 ((at_:Int)+1)=((at_+1:Nat):Int):=by rw [w64 (by omega) (by omega)];omega
   cases bn with
   |true=>
    simp only [Bool.true_or,Bool.or_true,cond_true]
    exact ⟨_,rfl,rfl,.inl rfl⟩
   |false=>
    simp only [Bool.false_or,Bool.or_false]
    by_cases hrep:(0≤c.2.2.1∧c.2.2.1≤2)
    ·have er:(decide (0≤c.2.2.1)&&decide (c.2.2.1≤2))=true:=by rw [decide_eq_true hrep.1,decide_eq_true hrep.2];rfl
     simp only [er,Bool.not_true,cond_false]
     have eco:colOk c=((c.2.1==7&&decide (c.2.2.2.1>0))||(tyOk c.2.1&&c.2.2.2.1==0)):=by
      unfold colOk;rw [er,Bool.and_true]
     by_cases h7:c.2.1=7
     ·have eco':colOk c=decide (c.2.2.2.1>0):=by rw [eco,h7,tyOk_7];simp
      simp only [bneF h7,cond_false]
      by_cases hM:c.2.2.2.1<1
      ·simp only [decide_eq_true hM,cond_true,eco',decide_eq_false (show ¬c.2.2.2.1>0 by omega),Bool.not_false]
       exact ⟨_,rfl,rfl,.inl rfl⟩
      ·have hok:colOk c=true:=by rw [eco'];exact decide_eq_true (by omega)
       simp only [decide_eq_false hM,cond_false,hok,Bool.not_true,ha1]
       obtain ⟨v,t1,t2,t3⟩:=schkLoop k hk s hs d D deep (by omega) (fun a h0=>ih D (deep+1) a (by omega) (by omega)) c _ rfl n3.2 k (at_+1) 0 [] (by omega) (by omega) (by omega) (by omega) (by omega) (by simp)
       refine ⟨v,t1,t2,?_⟩
       rcases t3 with h|⟨nx,h1,h2,h3⟩
       ·exact .inl h
       ·exact .inr ⟨nx,h1,⟨c,hc,hok,hname rfl,by simpa using h2⟩,h3⟩
     ·have eco':colOk c=(tyOk c.2.1&&c.2.2.2.1==0):=by rw [eco,beqF h7];simp
      simp only [bneT h7,cond_true]
      by_cases hl:tyOk c.2.1=true∧c.2.2.2.1=0
      ·have hok:colOk c=true:=by rw [eco',hl.1,beqT hl.2];rfl
       simp only [hl.1,bneF hl.2,Bool.not_true,Bool.or_self,cond_false,hok,ha1]
       obtain ⟨K,hK⟩:∃j,k=j+1:=⟨k-1,by omega⟩
       refine ⟨_,rfl,?_,.inr ⟨at_+1,rfl,⟨c,hc,hok,hname rfl,?_⟩,by omega⟩⟩
       ·rw [hl.2]
        have:∀(j:Nat) (S:List TCol→Int→Int→Option Int),impl_colAfter.l6 k S (j+1) s (deep:Int) ((at_+1:Nat):Int) 0 0 []=some ((at_+1:Nat):Int):=fun j S=>rfl
        have h2:=this K (impl_colAfter.rec k D)
        rw [←hK] at h2
        exact h2
       ·rw [hl.2];rfl
      ·have e1:(!tyOk c.2.1||c.2.2.2.1 !=0)=true:=by
        cases ht:tyOk c.2.1 with
        |false=>rfl
        |true=>simp only [Bool.not_true,Bool.false_or];exact bneT fun h=>hl ⟨ht,h⟩
       have hok:colOk c=false:=by
        rw [eco']
        cases ht:tyOk c.2.1 with
        |false=>rfl
        |true=>simp only [Bool.true_and];exact beqF fun h=>hl ⟨ht,h⟩
       simp only [e1,hok,cond_true,Bool.not_false]
       exact ⟨_,rfl,rfl,.inl rfl⟩
    ·have er:(decide (0≤c.2.2.1)&&decide (c.2.2.1≤2))=false:=by
      rw [Bool.eq_false_iff];intro hh
      simp only [Bool.and_eq_true,decide_eq_true_eq] at hh
      exact hrep hh
     have hok:colOk c=false:=by unfold colOk;rw [er,Bool.and_false]
     simp only [er,hok,Bool.not_false,cond_true]
     exact ⟨_,rfl,rfl,.inl rfl⟩
def IsSchema (s:List TCol):Prop:=2≤s.length∧s.length≤20∧SubC s 6 0 s.length∧∃c,s[0]?=some c∧c.1=⟨#[]⟩∧c.2.2.1=0∧c.2.1=7
theorem schemaOk_eq (hk:100≤k) (s:List TCol) (hn:∀c,c∈s→c.1.size<k∧c.1.size<1000000000∧I64 c.2.2.2.1):
 ∃b,spec_SchemaOk k s=some b∧impl_SchemaOk k s=some b∧(b=true→IsSchema s∧impl_colAfter k s 0 1=some (s.length:Int)):=by
 unfold spec_SchemaOk impl_SchemaOk
 simp only [l1In_eq,within_eq,Option.bind_some]
 by_cases hin:2≤s.length∧s.length≤20
 ·have c1:(decide ((2:Int)≤(s.length:Int))&&decide ((s.length:Int)≤20))=true:=by simp;omega
  obtain ⟨n,hn1,hn2⟩:=rdL_some (xs:=s) (i:=0) (by omega) (by omega)
  have hn2:s[0]?=some n:=hn2
  simp only [c1,cond_true,Bool.not_true,cond_false,hn1,Option.bind_some,cst]
  by_cases hr:n.1=⟨#[]⟩∧n.2.2.1=0∧n.2.1=7
  ·have e0:eqS n.1 ⟨#[]⟩=true:=by rw [eqS_iff];exact decide_eq_true hr.1
   simp only [bneF hr.2.2,bneF hr.2.1,e0,cond_false,Option.bind_some,Bool.or_self,Bool.not_true]
   obtain ⟨v,s1,s2,s4⟩:=schk k hk s hin.2 hn (fun c hc=>by rw [hn2] at hc;cases hc;exact hr) 6 k 1 0 (by omega) (by omega)
   have s1:spec_l5Check k s 0 1=some v:=s1
   have s2:impl_colAfter k s 0 1=some v:=s2
   simp only [s1,s2,Option.bind_some]
   refine ⟨_,rfl,rfl,fun hb=> ?_⟩
   have hv:v=(s.length:Int):=by simpa using hb
   refine ⟨⟨hin.1,hin.2,?_,n,hn2,hr⟩,by rw [hv]⟩
   rcases s4 with h|⟨nx,h1,h2,_⟩
   ·omega
   ·have:nx=s.length:=by omega
    rw [←this];exact h2
  ·
    have hs:spec_l5Check k s 0 1=some (-1):=by
     obtain ⟨K,rfl⟩:∃j,k=j+1:=⟨k-1,by omega⟩
     show spec_l5Check.b (K+1) (spec_l5Check.rec (K+1) K) s 0 1=_
     unfold spec_l5Check.b
     have e1:(cond ((0:Int)==0) (some ((!eqS n.1 ⟨#[]⟩||n.2.2.1 !=0)||n.2.1 !=7)) (some false):Option Bool)=some true:=by
      show some _=_
      congr 1
      cases he:eqS n.1 ⟨#[]⟩ with
      |false=>rfl
      |true=>
       rw [eqS_iff] at he
       have he:=of_decide_eq_true he
       simp only [Bool.not_true,Bool.false_or,Bool.or_eq_true,bne_iff_ne]
       exact Classical.byContradiction fun hh=>hr ⟨he,Classical.byContradiction fun h=>hh (.inl h),Classical.byContradiction fun h=>hh (.inr h)⟩
     simp only [decide_eq_false (show ¬(0:Int)≥(s.length:Int) by omega),cst,Option.bind_some,show decide ((1:Int)>6)=false from rfl,Bool.or_self,cond_false,hn1,e1,Bool.true_or,cond_true]
    refine ⟨false,?_,?_,fun h=>by cases h⟩
    ·simp only [hs,Option.bind_some]
     rw [beqF (by omega)]
    ·by_cases h7:n.2.1=7
     ·by_cases h0:n.2.2.1=0
      ·have he:eqS n.1 ⟨#[]⟩=false:=by
        rw [eqS_iff];exact decide_eq_false fun h=>hr ⟨h,h0,h7⟩
       simp only [bneF h7,bneF h0,he,Option.bind_some,cond_false,Bool.or_self,Bool.not_false,Bool.false_or,cond_true]
      ·simp only [bneF h7,bneT h0,Option.bind_some,cond_false,Bool.false_or,cond_true,Bool.true_or]
     ·simp only [bneT h7,Option.bind_some,cond_true,Bool.true_or]
 ·have c1:(decide ((2:Int)≤(s.length:Int))&&decide ((s.length:Int)≤20))=false:=by
   rw [Bool.eq_false_iff];intro h
   simp only [Bool.and_eq_true,decide_eq_true_eq] at h
   omega
  simp only [c1,Bool.not_false,cond_true,cond_false,Option.bind_some]
  exact ⟨false,rfl,rfl,fun h=>by cases h⟩
end Go.Law
end
section
set_option linter.unusedVariables false
set_option linter.unusedSimpArgs false
namespace Go.Law
open Go.Am Go.Fn
def isItem (t:Int):Bool:=t==5||t==6||t==8||t==9||t==12
def isKind (t:Int):Bool:=t==1||t==2||isItem t
theorem isType_eq (k:Nat) (t:Int) (b:Bool):impl_isType k t b=some (isItem t||((t==1||t==2)&& !b)):=by
 unfold impl_isType impl_isType.c4 impl_isType.c10 isItem
 by_cases h1:t=1
 ·subst h1;simp
 by_cases h2:t=2
 ·subst h2;simp
 by_cases h5:t=5
 ·subst h5;simp
 by_cases h6:t=6
 ·subst h6;simp
 by_cases h8:t=8
 ·subst h8;simp
 by_cases h9:t=9
 ·subst h9;simp
 by_cases h12:t=12
 ·subst h12;simp
 simp [beqF h1,beqF h2,beqF h5,beqF h6,beqF h8,beqF h9,beqF h12,h1,h2,h5,h6,h8,h9,h12]
theorem l4Kind_eq (k:Nat) (t:Int):spec_l4Kind k t=some (isKind t):=by
 unfold spec_l4Kind spec_l4Kind.c9 isKind isItem
 by_cases h1:t=1
 ·subst h1;simp
 by_cases h2:t=2
 ·subst h2;simp
 by_cases h5:t=5
 ·subst h5;simp
 by_cases h6:t=6
 ·subst h6;simp
 by_cases h8:t=8
 ·subst h8;simp
 by_cases h9:t=9
 ·subst h9;simp
 by_cases h12:t=12
 ·subst h12;simp
 simp [beqF h1,beqF h2,beqF h5,beqF h6,beqF h8,beqF h9,beqF h12,h1,h2,h5,h6,h8,h9,h12]
theorem l4Item_eq (k:Nat) (t:Int):spec_l4Item k t=some (isItem t):=by
 unfold spec_l4Item
 rw [l4Kind_eq]
 simp only [Option.bind_some,csf]
 congr 1
 unfold isKind
 by_cases h1:t=1
 ·subst h1;rfl
 by_cases h2:t=2
 ·subst h2;rfl
 simp [beqF h1,beqF h2,bneT h1,bneT h2]
def nok (n:TNode):Bool:=
 if n.1=5 then (decide (-2147483648≤n.2.2.1)&&decide (n.2.2.1≤2147483647))&&eqS n.2.2.2.1 ⟨#[]⟩&&n.2.2.2.2.1==0
 else if n.1=6 then eqS n.2.2.2.1 ⟨#[]⟩&&n.2.2.2.2.1==0
 else if n.1=8 then n.2.2.1==0&&decide ((n.2.2.2.1.size:Int)≤300)&&n.2.2.2.2.1==0
 else if n.1=9 then eqS n.2.2.2.1 ⟨#[]⟩&&decide (n.2.2.2.2.1≥0)&&((n.2.2.2.2.1==0&&n.2.2.1==0)||(decide (n.2.2.2.2.1>0)&&isItem n.2.2.1))
 else if n.1=12 then n.2.2.1==0&&eqS n.2.2.2.1 ⟨#[]⟩&&decide (n.2.2.2.2.1≥0)
 else (n.1==1||n.1==2)&&n.2.2.1==0&&eqS n.2.2.2.1 ⟨#[]⟩&&n.2.2.2.2.1==0
theorem nodeOk_eq (k:Nat) (n:TNode):impl_nodeOk k n=some (nok n):=by
 unfold impl_nodeOk impl_isInt32 nok
 simp only [within_eq,isType_eq,Option.bind_some,csf,cst]
 by_cases h5:n.1=5
 ·simp [h5]
 by_cases h6:n.1=6
 ·simp [h6]
 by_cases h8:n.1=8
 ·simp [h8]
 by_cases h9:n.1=9
 ·simp [h9]
 by_cases h12:n.1=12
 ·simp [h12]
 simp [beqF h5,beqF h6,beqF h8,beqF h9,beqF h12,h5,h6,h8,h9,h12,isItem]
theorem plain_eq (k:Nat) (n:TNode):spec_l4Plain k n=some (nok n):=by
 unfold spec_l4Plain spec_l4Plain.c4 spec_l4Int nok
 simp only [l1In_eq,l4Item_eq,Option.bind_some,csf,cst]
 by_cases h1:n.1=1
 ·simp [h1]
 by_cases h2:n.1=2
 ·simp [h2]
 by_cases h5:n.1=5
 ·simp [h5]
 by_cases h6:n.1=6
 ·simp [h6]
 by_cases h8:n.1=8
 ·simp [h8]
 by_cases h9:n.1=9
 ·simp [h9]
 by_cases h12:n.1=12
 ·simp [h12]
 simp [beqF h1,beqF h2,beqF h5,beqF h6,beqF h8,beqF h9,beqF h12,h1,h2,h5,h6,h8,h9,h12]
def PartsR (S:Nat→Nat→Prop) (l:List TNode) (n:TNode):Nat→Nat→Int→Nat→Prop
 |0,pos,_,nx=>pos=nx
 |c+1,pos,last,nx=>∃p mid,l[pos]?=some p∧(n.1=9→p.1=n.2.2.1∧p.2.1=0)∧(n.1=12→last+1≤p.2.1∧p.2.1≤1000)∧S pos mid∧PartsR S l n c mid p.2.1 nx
def Sub (l:List TNode) (af:List Int):Nat→Nat→Nat→Prop
 |0,_,_=>False
 |d+1,at_,nx=>∃n,l[at_]?=some n∧nok n=true∧PartsR (Sub l af d) l n n.2.2.2.2.1.toNat (at_+1) 0 nx∧af[at_]?=some (nx:Int)
theorem PartsR_mono {S S':Nat→Nat→Prop} {l:List TNode} {n:TNode} (hS:∀a b,S a b→a<b):∀(c pos:Nat) (last:Int) (nx:Nat),(∀a b,pos≤a→b≤nx→S a b→S' a b)→PartsR S l n c pos last nx→PartsR S' l n c pos last nx∧pos≤nx
 |0,pos,last,nx,h,e=>⟨e,by have e:pos=nx:=e;omega⟩
 |c+1,pos,last,nx,h,⟨p,mid,h1,h2,h3,h4,h5⟩=>by
  have hlt:=hS _ _ h4
  obtain ⟨k1,k2⟩:=PartsR_mono hS c mid p.2.1 nx (fun a b ha hb=>h a b (by omega) hb) h5
  exact ⟨⟨p,mid,h1,h2,h3,h _ _ (Nat.le_refl _) k2 h4,k1⟩,by omega⟩
theorem Sub_lt {l:List TNode} {af:List Int}:∀(d a b:Nat),Sub l af d a b→a<b
 |0,_,_,h=>h.elim
 |d+1,a,b,⟨n,h1,h2,h3,h4⟩=>by
  have:=(PartsR_mono (S':=fun _ _=>True) (Sub_lt d) _ _ _ _ (fun _ _ _ _ _=>trivial) h3).2
  omega
theorem Sub_frame {l:List TNode} {af af':List Int}:∀(d a b:Nat),(∀i,a≤i→i<b→af'[i]?=af[i]?)→Sub l af d a b→Sub l af' d a b
 |0,_,_,_,h=>h.elim
 |d+1,a,b,hf,⟨n,h1,h2,h3,h4⟩=>by
  have hlt:=Sub_lt (d+1) a b ⟨n,h1,h2,h3,h4⟩
  refine ⟨n,h1,h2,(PartsR_mono (Sub_lt d) _ _ _ _ (fun x y hx hy hs=> ?_) h3).1,by rw [hf a (Nat.le_refl _) hlt];exact h4⟩
  exact Sub_frame d x y (fun i hi1 hi2=>hf i (by omega) (by omega)) hs
def WfN (n:TNode):Prop:=I64 n.1∧I64 n.2.1∧I64 n.2.2.1∧I64 n.2.2.2.2.1∧n.2.2.2.1.size≤1073741824
theorem checkLoop (k:Nat) (l:List TNode) (hl:l.length≤1500) (d D deep:Nat) (hdeep:deep≤12)
 (ih:∀(at_:Nat) (af:List Int),af.length=l.length→
  ∃v af',spec_l4Check.rec k D l (at_:Int) ((deep+1:Nat):Int)=some v∧impl_tree_measure.rec k D (at_:Int) ((deep+1:Nat):Int) (true,(l,(),())) af=some (v,((l,(),()),af'))∧af'.length=l.length∧
   (v= -1∨∃nx:Nat,v=nx∧Sub l af' d at_ nx∧nx≤l.length∧∀i,(i<at_∨nx≤i)→af'[i]?=af[i]?))
 (at_:Nat) (hat:at_<l.length) (n:TNode) (M:Int) (hM:n.2.2.2.2.1=M) (hM1:M<9223372036854775808):∀(f pos:Nat) (last i:Int) (af:List Int),l.length-pos<f→at_<pos→0≤i→i≤M→pos≤l.length→
  (n.1=12→0≤last∧last≤1000)→af.length=l.length→
  ∃v af',spec_l4Check.l7 k (spec_l4Check.rec k D) f l (deep:Int) (pos:Int) last i n=some v∧impl_tree_measure.l7 k (impl_tree_measure.rec k D) f (at_:Int) (deep:Int) (pos:Int) last M i (l,(),()) af n=some (v,((l,(),()),af'))∧af'.length=l.length∧
   (v= -1∨∃nx:Nat,v=nx∧PartsR (Sub l af' d) l n (M-i).toNat pos last nx∧nx≤l.length∧af'[at_]?=some (nx:Int)∧∀j,(j<pos∨nx≤j)→j≠at_→af'[j]?=af[j]?):=by
 intro f
 induction f with
 |zero=>intro pos last i af h;omega
 |succ f ihf=>
  intro pos last i af hf hpos hi0 hiM hpl hlast haf
  simp only [spec_l4Check.l7,impl_tree_measure.l7,hM]
  by_cases hlt:i<M
  ·simp only [decide_eq_true hlt,cond_true]
   by_cases hpe:(pos:Int)≥(l.length:Int)
   ·simp only [decide_eq_true hpe,cond_true]
    exact ⟨_,_,rfl,rfl,haf,.inl rfl⟩
   ·simp only [decide_eq_false hpe,cond_false]
    obtain ⟨p,hp1,hp2⟩:=rdL_some (xs:=l) (i:=(pos:Int)) (by omega) (by omega)
    simp only [hp1,Option.bind_some,csf,cst,within_eq]
    have hp2:l[pos]?=some p:=by simpa using hp2
    by_cases hc1:n.1=9∧(p.1≠n.2.2.1∨p.2.1≠0)
    ·have e1:(n.1==9&&(p.1 !=n.2.2.1||p.2.1 !=0))=true:=by
      simp only [Bool.and_eq_true,Bool.or_eq_true,beq_iff_eq,bne_iff_ne];exact hc1
     simp only [e1,Bool.true_or,cond_true]
     exact ⟨_,_,rfl,rfl,haf,.inl rfl⟩
    ·have e1:(n.1==9&&(p.1 !=n.2.2.1||p.2.1 !=0))=false:=by
      rw [Bool.eq_false_iff]
      intro h
      simp only [Bool.and_eq_true,Bool.or_eq_true,beq_iff_eq,bne_iff_ne] at h
      exact hc1 h
     simp only [e1,Bool.false_or,cond_false]
     by_cases hc2:n.1=12∧¬(last+1≤p.2.1∧p.2.1≤1000)
     ·have hw:IntKind.wrap .i64 (last+1)=last+1:=by
       have:=hlast hc2.1
       exact w64 (by omega) (by omega)
      have e2:(n.1==12&&(decide (p.2.1≤last)||decide (p.2.1>1000)))=true:=by
       simp only [Bool.and_eq_true,Bool.or_eq_true,beq_iff_eq,decide_eq_true_eq]
       exact ⟨hc2.1,by have:=hc2.2;omega⟩
      have e3:(cond (n.1==12) (some (!(decide (last+1≤p.2.1)&&decide (p.2.1≤1000)))) (some false):Option Bool)=some true:=by
       rw [beqT hc2.1,cond_true]
       congr 1
       have:=hc2.2
       simp only [Bool.not_eq_true',Bool.and_eq_false_iff,decide_eq_false_iff_not]
       omega
      rw [hw]
      simp only [e2,e3,Option.bind_some,cond_true]
      rw [csf] at e3
      simp only [Option.some.injEq] at e3
      simp only [e3,cond_true]
      exact ⟨_,_,rfl,rfl,haf,.inl rfl⟩
     ·have e2:(n.1==12&&(decide (p.2.1≤last)||decide (p.2.1>1000)))=false:=by
       rw [Bool.eq_false_iff]
       intro h
       simp only [Bool.and_eq_true,Bool.or_eq_true,beq_iff_eq,decide_eq_true_eq] at h
       exact hc2 ⟨h.1,by omega⟩
      have e3:(n.1==12&& !(decide (IntKind.wrap .i64 (last+1)≤p.2.1)&&decide (p.2.1≤1000)))=false:=by
       rw [Bool.eq_false_iff]
       intro h
       simp only [Bool.and_eq_true,beq_iff_eq,Bool.not_eq_true',Bool.and_eq_false_iff,decide_eq_false_iff_not] at h
       have hl:=hlast h.1
       rw [w64 (by omega) (by omega)] at h
       exact hc2 ⟨h.1,by omega⟩
      simp only [e2,e3,cond_false]
      have hd1:IntKind.wrap .i64 ((deep:Int)+1)=((deep+1:Nat):Int):=by rw [w64 (by omega) (by omega)];omega
      rw [hd1]
      obtain ⟨v,af1,s1,s2,s3,s4⟩:=ih pos af haf
      simp only [s1,s2,Option.bind_some]
      rcases s4 with rfl|⟨mid,rfl,s5,s6,s7⟩
      ·simp only [show decide ((-1:Int)<0)=true from rfl,cond_true]
       exact ⟨_,_,rfl,rfl,s3,.inl rfl⟩
      ·have hml:=Sub_lt _ _ _ s5
       have hm0:decide ((mid:Int)<0)=false:=decide_eq_false (by omega)
       have hi1:IntKind.wrap .i64 (i+1)=i+1:=w64 (by omega) (by omega)
       simp only [hm0,cond_false,hi1]
       obtain ⟨w,af2,t1,t2,t3,t4⟩:=ihf mid p.2.1 (i+1) af1 (by omega) (by omega) (by omega) (by omega) s6 (fun h12=>by
        have h:=fun hh=>hc2 ⟨h12,hh⟩
        have hl:=hlast h12
        omega) s3
       refine ⟨w,af2,t1,t2,t3,?_⟩
       rcases t4 with h|⟨nx,h1,h2,h3,h4,h5⟩
       ·exact .inl h
       ·have hmn:=(PartsR_mono (S':=fun _ _=>True) (Sub_lt d) _ _ _ _ (fun _ _ _ _ _=>trivial) h2).2
        refine .inr ⟨nx,h1,?_,h3,h4,fun j hj hja=> ?_⟩
        ·rw [show (M-i).toNat=(M-(i+1)).toNat+1 by omega]
         refine ⟨p,mid,hp2,fun h9=> ?_,fun h12=> ?_,Sub_frame d pos mid (fun j hj1 hj2=>h5 j (.inl hj2) (by omega)) s5,h2⟩
         ·constructor
          ·exact Classical.byContradiction fun hh=>hc1 ⟨h9,.inl hh⟩
          ·exact Classical.byContradiction fun hh=>hc1 ⟨h9,.inr hh⟩
         ·exact Classical.byContradiction fun hh=>hc2 ⟨h12,hh⟩
        ·rw [h5 j (by omega) hja,s7 j (by omega)]
  ·simp only [decide_eq_false hlt,cond_false]
   obtain ⟨y,hy1,hy2⟩:=rdL_some (xs:=af) (i:=(at_:Int)) (by omega) (by omega)
   simp only [hy1,Option.bind_some]
   refine ⟨_,_,rfl,rfl,by simpa using haf,.inr ⟨pos,rfl,?_,hpl,?_,fun j _ hj=> ?_⟩⟩
   ·rw [show (M-i).toNat=0 by omega]
    rfl
   ·simp [List.getElem?_set,haf,hat]
   ·simp [List.getElem?_set]
    intro h;omega
theorem check (k:Nat) (hk:2000≤k) (l:List TNode) (hl:l.length≤1500) (hw:∀n,n∈l→WfN n):∀(d D deep at_:Nat) (af:List Int),d+deep=13→d<D→af.length=l.length→
 ∃v af',spec_l4Check.rec k D l (at_:Int) (deep:Int)=some v∧impl_tree_measure.rec k D (at_:Int) (deep:Int) (true,(l,(),())) af=some (v,((l,(),()),af'))∧af'.length=l.length∧
  (v= -1∨∃nx:Nat,v=nx∧Sub l af' d at_ nx∧nx≤l.length∧∀i,(i<at_∨nx≤i)→af'[i]?=af[i]?):=by
 intro d
 induction d with
 |zero=>
  intro D deep at_ af hd hD haf
  obtain ⟨D,rfl⟩:∃m,D=m+1:=⟨D-1,by omega⟩
  obtain rfl:deep=13:=by omega
  simp only [spec_l4Check.rec,impl_tree_measure.rec,spec_l4Check.b,impl_tree_measure.b,cst,Option.bind_some,show decide (((13:Nat):Int)>12)=true from rfl,Bool.or_true,cond_true]
  exact ⟨_,_,rfl,rfl,haf,.inl rfl⟩
 |succ d ih=>
  intro D deep at_ af hd hD haf
  obtain ⟨D,rfl⟩:∃m,D=m+1:=⟨D-1,by omega⟩
  simp only [spec_l4Check.rec,impl_tree_measure.rec,spec_l4Check.b,impl_tree_measure.b,cst,Option.bind_some,cond_true]
  by_cases hat:(at_:Int)≥(l.length:Int)
  ·simp only [decide_eq_true hat,Bool.true_or,cond_true,Option.bind_some]
   exact ⟨_,_,rfl,rfl,haf,.inl rfl⟩
  ·obtain ⟨n,hn1,hn2⟩:=rdL_some (xs:=l) (i:=(at_:Int)) (by omega) (by omega)
   have hn2:l[at_]?=some n:=by simpa using hn2
   have hdd:decide ((deep:Int)>12)=false:=decide_eq_false (by omega)
   simp only [decide_eq_false hat,hdd,Bool.false_or,cond_false,hn1,Option.bind_some,plain_eq,nodeOk_eq]
   cases hok:nok n with
   |false=>
    simp only [Bool.not_false,cond_true]
    exact ⟨_,_,rfl,rfl,haf,.inl rfl⟩
   |true=>
    simp only [Bool.not_true,cond_false]
    have hwn:=hw n (List.mem_of_getElem? hn2)
    have hM0:0≤n.2.2.2.2.1:=by
     unfold nok at hok
     repeat' split at hok
     all_goals simp only [Bool.and_eq_true,beq_iff_eq,decide_eq_true_eq,Bool.or_eq_true] at hok
     all_goals omega
    have ha1:IntKind.wrap .i64 ((at_:Int)+1)=((at_+1:Nat):Int):=by rw [w64 (by omega) (by omega)];omega
    rw [ha1]
    obtain ⟨v,af',t1,t2,t3,t4⟩:=checkLoop k l hl d D deep (by omega) (fun a af haf=>ih D (deep+1) a af (by omega) (by omega) haf) at_ (by omega) n n.2.2.2.2.1 rfl hwn.2.2.2.1.2 k (at_+1) 0 0 af (by omega) (by omega) (by omega) hM0 (by omega) (fun _=>by omega) haf
    refine ⟨v,af',t1,t2,t3,?_⟩
    rcases t4 with h|⟨nx,h1,h2,h3,h4,h5⟩
    ·exact .inl h
    ·refine .inr ⟨nx,h1,⟨n,hn2,hok,by simpa using h2,h4⟩,h3,fun i hi=> ?_⟩
     have:=(PartsR_mono (S':=fun _ _=>True) (Sub_lt d) _ _ _ _ (fun _ _ _ _ _=>trivial) h2).2
     exact h5 i (by omega) (by omega)
end Go.Law
end
section
set_option linter.unusedVariables false
set_option linter.unusedSimpArgs false
namespace Go.Law
open Go.Am Go.Fn
variable (k:Nat)
theorem treeOf_eq (hk:2000≤k) (l:List TNode) (hw:∀n,n∈l→WfN n) (hlen:l.length<4294967296):
 ∃b:Bool,spec_TreeOk k l=some b∧((b=false∧∃x,impl_treeOf k l=some (((),false),x))∨
  (b=true∧l.length≤1500∧1≤l.length∧∃af,impl_treeOf k l=some (((),true),((true,(l,(),())),af))∧Sub l af 12 0 l.length∧∃n,l[0]?=some n∧n.1=12∧n.2.1=0)):=by
 unfold spec_TreeOk impl_treeOf
 simp only [within_eq,l1In_eq,Option.bind_some]
 by_cases hin:1≤l.length∧l.length≤1500
 ·have c1:(decide ((1:Int)≤(l.length:Int))&&decide ((l.length:Int)≤1500))=true:=by simp;omega
  obtain ⟨n,hn1,hn2⟩:=rdL_some (xs:=l) (i:=0) (by omega) (by omega)
  have hn2:l[0]?=some n:=hn2
  simp only [c1,Bool.not_true,cond_false,hn1,Option.bind_some,okLen_ok (show (0:Int)≤(l.length:Int) by omega) (by omega),cond_true,cst,Int.toNat_natCast]
  by_cases hr:n.1=12∧n.2.1=0
  ·have c2:(n.1 !=12||n.2.1 !=0)=false:=by simp [hr.1,hr.2]
   simp only [bneF hr.1,bneF hr.2,cond_false,Option.bind_some,Bool.or_self]
   obtain ⟨v,af',s1,s2,s3,s4⟩:=check k hk l hin.2 hw 12 k 1 0 (List.replicate l.length 0) (by omega) (by omega) (by simp)
   have s1:spec_l4Check k l 0 1=some v:=s1
   have s2:impl_tree_measure k 0 1 (true,(l,(),())) (List.replicate l.length 0)=some (v,((l,(),()),af')):=s2
   simp only [s1,s2,Option.bind_some]
   by_cases hv:v=(l.length:Int)
   ·refine ⟨true,by rw [beqT hv],.inr ⟨rfl,hin.2,hin.1,af',by simp only [bneF hv,cond_false],?_,n,hn2,hr⟩⟩
    rcases s4 with h|⟨nx,h1,h2,_⟩
    ·omega
    ·have:nx=l.length:=by omega
     rw [←this];exact h2
   ·exact ⟨false,by rw [beqF hv],.inl ⟨rfl,((false,([],(),())),[]),by simp only [bneT hv,cond_true]⟩⟩
  ·have c2:(n.1 !=12||n.2.1 !=0)=true:=by
    simp only [Bool.or_eq_true,bne_iff_ne]
    exact Classical.byContradiction fun hh=>hr ⟨Classical.byContradiction fun h=>hh (.inl h),Classical.byContradiction fun h=>hh (.inr h)⟩
   refine ⟨false,?_,.inl ⟨rfl,((false,([],(),())),[]),by simp only [c2,cond_true]⟩⟩
   by_cases h12:n.1=12
   ·have h0:¬n.2.1=0:=fun h=>hr ⟨h12,h⟩
    simp only [bneF h12,cond_false,bneT h0,Option.bind_some,cond_true,Bool.false_or]
   ·simp only [bneT h12,Option.bind_some,cond_true,Bool.true_or]
 ·have c1:(decide ((1:Int)≤(l.length:Int))&&decide ((l.length:Int)≤1500))=false:=by
   rw [Bool.eq_false_iff];intro h
   simp only [Bool.and_eq_true,decide_eq_true_eq] at h
   omega
  simp only [c1,Bool.not_false,cond_true,Option.bind_some]
  exact ⟨false,rfl,.inl ⟨rfl,_,rfl⟩⟩
end Go.Law
end
section
set_option linter.unusedVariables false
set_option linter.unusedSimpArgs false
namespace Go.Law
open Go.Am Go.Fn
variable (k:Nat)
theorem PartsR_cnt {S:Nat→Nat→Prop} {l:List TNode} {n:TNode} (hS:∀a b,S a b→a<b):∀(c pos:Nat) (last:Int) (nx:Nat),PartsR S l n c pos last nx→pos+c≤nx
 |0,pos,last,nx,e=>by have e:pos=nx:=e;omega
 |c+1,pos,last,nx,⟨p,mid,_,_,_,h4,h5⟩=>by
  have:=hS _ _ h4
  have:=PartsR_cnt hS c mid p.2.1 nx h5
  omega
theorem Sub_all {l:List TNode} {af:List Int}:∀(d a b:Nat),Sub l af d a b→∀i,a≤i→i<b→∃d' nx,d'≤d∧Sub l af d' i nx∧nx≤b
 |0,_,_,h=>h.elim
 |d+1,a,b,⟨n,h1,h2,h3,h4⟩=>by
  have key:∀(c pos:Nat) (last:Int) (nx:Nat),PartsR (Sub l af d) l n c pos last nx→∀i,pos≤i→i<nx→∃d' x,d'≤d∧Sub l af d' i x∧x≤nx:=by
   intro c
   induction c with
   |zero=>intro pos last nx e i hi1 hi2;have e:pos=nx:=e;omega
   |succ c ih=>
    intro pos last nx ⟨p,mid,_,_,_,hs,hp⟩ i hi1 hi2
    rcases Nat.lt_or_ge i mid with h|h
    ·obtain ⟨d',x,q1,q2,q3⟩:=Sub_all d pos mid hs i hi1 h
     have:=PartsR_cnt (Sub_lt d) _ _ _ _ hp
     exact ⟨d',x,q1,q2,by omega⟩
    ·exact ih mid _ nx hp i h hi2
  intro i hi1 hi2
  rcases Nat.lt_or_ge a i with h|h
  ·obtain ⟨d',x,q1,q2,q3⟩:=key _ _ _ _ h3 i (by omega) hi2
   exact ⟨d',x,by omega,q2,q3⟩
  ·obtain rfl:i=a:=by omega
   exact ⟨d+1,b,Nat.le_refl _,⟨n,h1,h2,h3,h4⟩,Nat.le_refl _⟩
theorem Sub_node {l:List TNode} {af:List Int} {d a b:Nat} (h:Sub l af d a b):∃n,l[a]?=some n∧nok n=true∧af[a]?=some (b:Int):=by
 cases d with
 |zero=>exact h.elim
 |succ d=>obtain ⟨n,h1,h2,h3,h4⟩:=h;exact ⟨n,h1,h2,h4⟩
theorem nok_many {n:TNode} (h:nok n=true):0≤n.2.2.2.2.1:=by
 unfold nok at h
 repeat' split at h
 all_goals simp only [Bool.and_eq_true,beq_iff_eq,decide_eq_true_eq,Bool.or_eq_true] at h
 all_goals omega
theorem after_eq (hk:2000≤k) {l:List TNode} {af:List Int} (hl:l.length≤1500):∀(d D at_ nx:Nat),d≤D→Sub l af d at_ nx→nx≤l.length→spec_l4After.rec k D l (at_:Int)=some (nx:Int):=by
 intro d
 induction d with
 |zero=>intro D at_ nx _ h;exact h.elim
 |succ d ih=>
  intro D at_ nx hD ⟨n,h1,h2,h3,h4⟩ hnx
  obtain ⟨D,rfl⟩:∃j,D=j+1:=⟨D-1,by omega⟩
  have hm0:=nok_many h2
  have hat:at_<l.length:=(List.getElem?_eq_some_iff.1 h1).1
  have loop:∀(c pos:Nat) (last:Int) (f:Nat) (i:Int),PartsR (Sub l af d) l n c pos last nx→c<f→n.2.2.2.2.1-i=c→0≤i→n.2.2.2.2.1≤2000→spec_l4After.l3 k (spec_l4After.rec k D) f l (at_:Int) (pos:Int) i=some (nx:Int):=by
   intro c
   induction c with
   |zero=>
    intro pos last f i hp hf hi hi0 hi2
    obtain ⟨f,rfl⟩:∃j,f=j+1:=⟨f-1,by omega⟩
    obtain rfl:pos=nx:=hp
    simp only [spec_l4After.l3,rdL_nat,h1,Option.bind_some,decide_eq_false (show ¬i<n.2.2.2.2.1 by omega),cond_false]
   |succ c ihc=>
    intro pos last f i ⟨p,mid,_,_,_,hs,hp⟩ hf hi hi0 hi2
    obtain ⟨f,rfl⟩:∃j,f=j+1:=⟨f-1,by omega⟩
    have hc:=PartsR_cnt (Sub_lt d) _ _ _ _ hp
    simp only [spec_l4After.l3,rdL_nat,h1,Option.bind_some,decide_eq_true (show i<n.2.2.2.2.1 by omega),cond_true,ih D pos mid (by omega) hs (by omega)]
    have hlt:=Sub_lt _ _ _ hs
    rw [w64 (by omega) (by omega)]
    exact ihc mid _ f (i+1) hp (by omega) (by omega) (by omega) (by omega)
  have hc:=PartsR_cnt (Sub_lt d) _ _ _ _ h3
  simp only [spec_l4After.rec,spec_l4After.b]
  rw [w64 (by omega) (by omega),show ((at_:Int)+1)=((at_+1:Nat):Int) by omega]
  exact loop _ _ 0 k 0 h3 (by omega) (by omega) (by omega) (by omega)
section
variable {l:List TNode} {af:List Int}
structure TreeFacts (l:List TNode) (af:List Int):Prop where
 len:l.length≤1500
 pos:1≤l.length
 sub:Sub l af 12 0 l.length
 wf:∀n,n∈l→WfN n
theorem TreeFacts.at (h:TreeFacts l af) {i:Nat} (hi:i<l.length):∃d nx,d≤12∧Sub l af d i nx∧nx≤l.length:=
 Sub_all 12 0 l.length h.sub i (Nat.zero_le _) hi
theorem TreeFacts.after (hk:2000≤k) (h:TreeFacts l af) {d i nx:Nat} (hd:d≤12) (hs:Sub l af d i nx) (hn:nx≤l.length):spec_l4After k l (i:Int)=some (nx:Int):=
 after_eq k hk h.len d k i nx (by omega) hs hn
abbrev tB (l:List TNode):TTreeB:=(l,(),())
theorem findLoop (hk:2000≤k) (h:TreeFacts l af) (d:Nat) (hd:d≤12) (n:TNode) (at_:Nat) (hn:l[at_]?=some n) (id:Int) (nx:Nat) (hnx:nx≤l.length):∀(c pos:Nat) (last:Int) (f:Nat) (i:Int),PartsR (Sub l af d) l n c pos last nx→c<f→n.2.2.2.2.1-i=c→0≤i→n.2.2.2.2.1≤2000→
 ∃v,spec_l4Find.l5 k f l (at_:Int) id (pos:Int) i=some v∧impl_tree_find.l5 k f id (pos:Int) n.2.2.2.2.1 i (tB l) af=some (v,(tB l,af))∧(v= -1∨∃q:Nat,v=q∧pos≤q∧q<nx∧∃mid,Sub l af d q mid∧mid≤nx):=by
 intro c
 induction c with
 |zero=>
  intro pos last f i hp hf hi hi0 hi2
  obtain ⟨f,rfl⟩:∃j,f=j+1:=⟨f-1,by omega⟩
  simp only [spec_l4Find.l5,impl_tree_find.l5,rdL_nat,hn,Option.bind_some,decide_eq_false (show ¬i<n.2.2.2.2.1 by omega),cond_false]
  exact ⟨_,rfl,rfl,.inl rfl⟩
 |succ c ihc=>
  intro pos last f i ⟨p,mid,hp1,_,_,hs,hp⟩ hf hi hi0 hi2
  obtain ⟨f,rfl⟩:∃j,f=j+1:=⟨f-1,by omega⟩
  have hc:=PartsR_cnt (Sub_lt d) _ _ _ _ hp
  have hlt:=Sub_lt _ _ _ hs
  obtain ⟨_,_,_,haf⟩:=Sub_node hs
  simp only [spec_l4Find.l5,impl_tree_find.l5,rdL_nat,hn,hp1,haf,Option.bind_some,decide_eq_true (show i<n.2.2.2.2.1 by omega),cond_true]
  by_cases hid:p.2.1=id
  ·simp only [beqT hid,cond_true]
   exact ⟨_,rfl,rfl,.inr ⟨pos,rfl,Nat.le_refl _,by omega,mid,hs,by omega⟩⟩
  ·simp only [beqF hid,cond_false,h.after k hk hd hs (by omega),Option.bind_some]
   rw [w64 (by omega) (by omega)]
   obtain ⟨v,g1,g2,g3⟩:=ihc mid _ f (i+1) hp (by omega) (by omega) (by omega) (by omega)
   refine ⟨v,g1,g2,?_⟩
   rcases g3 with g|⟨q,q1,q2,q3,q4⟩
   ·exact .inl g
   ·exact .inr ⟨q,q1,by omega,q3,q4⟩
theorem find_eq (hk:2000≤k) (h:TreeFacts l af) (at_:Nat) (hat:at_<l.length) (id:Int):
 ∃v,spec_l4Find k l (at_:Int) id=some v∧impl_tree_find k (at_:Int) id (true,tB l) af=some (v,(tB l,af))∧(v= -1∨∃q:Nat,v=q∧at_<q∧q<l.length):=by
 obtain ⟨d,nx,hd,hs,hnx⟩:=h.at hat
 have hlen:=h.len
 cases d with
 |zero=>exact hs.elim
 |succ d=>
  obtain ⟨n,h1,h2,h3,h4⟩:=hs
  have hm0:=nok_many h2
  have hc:=PartsR_cnt (Sub_lt d) _ _ _ _ h3
  unfold spec_l4Find impl_tree_find
  have c1:(decide ((0:Int)≤(at_:Int))&&decide ((at_:Int)≤IntKind.wrap .i64 ((l.length:Int)-1)))=true:=by
   rw [w64 (by omega) (by omega)];simp;omega
  simp only [cond_true,within_eq,c1,Option.bind_some,Bool.not_true,cond_false,rdL_nat,h1]
  by_cases h12:n.1=12
  ·simp only [bneF h12,cond_false]
   have ha1:IntKind.wrap .i64 ((at_:Int)+1)=((at_+1:Nat):Int):=by rw [w64 (by omega) (by omega)];omega
   rw [ha1]
   obtain ⟨v,g1,g2,g3⟩:=findLoop k hk h d (by omega) n at_ h1 id nx hnx _ _ 0 k 0 h3 (by omega) (by omega) (by omega) (by omega)
   refine ⟨v,g1,g2,?_⟩
   rcases g3 with g|⟨q,q1,q2,q3,_⟩
   ·exact .inl g
   ·exact .inr ⟨q,q1,by omega,by omega⟩
  ·simp only [bneT h12,cond_true]
   exact ⟨_,rfl,rfl,.inl rfl⟩
theorem text_eq (hk:2000≤k) (h:TreeFacts l af) (at_:Nat) (hat:at_<l.length) (id:Int):
 ∃s b n,spec_l4TextOf k l (at_:Int) id=some (s,b)∧impl_tree_part k (at_:Int) id 8 (true,tB l) af=some ((n,b),(tB l,af))∧n.2.2.2.1=s∧s.size≤300:=by
 obtain ⟨v,g1,g2,g3⟩:=find_eq k hk h at_ hat id
 unfold spec_l4TextOf impl_tree_part
 simp only [g1,g2,Option.bind_some]
 rcases g3 with rfl|⟨q,rfl,q1,q2⟩
 ·simp only [show decide ((-1:Int)<0)=true from rfl,cond_true,Option.bind_some]
  exact ⟨_,_,_,rfl,rfl,rfl,by decide⟩
 ·obtain ⟨d,nx,hd,hs,hnx⟩:=h.at q2
  obtain ⟨n,n1,n2,n3⟩:=Sub_node hs
  simp only [decide_eq_false (show ¬(q:Int)<0 by omega),cond_false,rdL_nat,n1,Option.bind_some]
  by_cases h8:n.1=8
  ·simp only [bneF h8,cond_false]
   refine ⟨_,_,_,rfl,rfl,rfl,?_⟩
   unfold nok at n2
   rw [h8] at n2
   simp only [reduceIte,if_neg (show ¬((8:Int)=5) by decide),if_neg (show ¬((8:Int)=6) by decide),Bool.and_eq_true,beq_iff_eq,decide_eq_true_eq] at n2
   omega
  ·simp only [bneT h8,cond_true]
   exact ⟨_,_,_,rfl,rfl,rfl,by decide⟩
theorem num_eq (hk:2000≤k) (h:TreeFacts l af) (at_:Nat) (hat:at_<l.length) (id:Int):
 ∃v b,spec_l4NumOf k l (at_:Int) id=some (v,b)∧impl_tree_num k (at_:Int) id (true,tB l) af=some ((v,b),(tB l,af))∧I64 v∧(∃w,spec_l4Find k l (at_:Int) id=some w∧(b=true→0≤w)):=by
 obtain ⟨v,g1,g2,g3⟩:=find_eq k hk h at_ hat id
 unfold spec_l4NumOf impl_tree_num
 simp only [g1,g2,Option.bind_some]
 have z:I64 0:=⟨by omega,by omega⟩
 rcases g3 with rfl|⟨q,rfl,q1,q2⟩
 ·simp only [show decide ((-1:Int)<0)=true from rfl,cond_true,Option.bind_some]
  exact ⟨_,_,rfl,rfl,z,-1,rfl,fun h=>by cases h⟩
 ·obtain ⟨d,nx,hd,hs,hnx⟩:=h.at q2
  obtain ⟨n,n1,n2,n3⟩:=Sub_node hs
  have hw:=h.wf n (List.mem_of_getElem? n1)
  simp only [decide_eq_false (show ¬(q:Int)<0 by omega),cond_false,rdL_nat,n1,Option.bind_some,csf]
  by_cases hb:(n.1 !=5&&n.1 !=6)=true
  ·simp only [hb,cond_true]
   exact ⟨_,_,rfl,rfl,z,q,rfl,fun h=>by cases h⟩
  ·simp only [Bool.eq_false_iff.2 hb,cond_false]
   exact ⟨_,_,rfl,rfl,hw.2.2.1,q,rfl,fun _=>by omega⟩
theorem col_eq (hk:2000≤k) (h:TreeFacts l af) (at_:Nat) (hat:at_<l.length) (root:Bool):
 ∃x x' b,spec_l5Col k l (at_:Int) root=some (x',b)∧impl_tree_col k (at_:Int) root (true,tB l) af=some ((x,b),(tB l,af))∧(b=true→x=x')∧x'.1.size≤300∧I64 x'.2.2.2.1:=by
 obtain ⟨s4,b4,n4,t1,t2,t3,t4⟩:=text_eq k hk h at_ hat 4
 obtain ⟨v1,b1,u1,u2,u3,w1,u4,u5⟩:=num_eq k hk h at_ hat 1
 obtain ⟨v3,b3,y1,y2,y3,w3,y4,y5⟩:=num_eq k hk h at_ hat 3
 obtain ⟨v5,b5,z1,z2,z3,w5,z4,z5⟩:=num_eq k hk h at_ hat 5
 obtain ⟨f1,a1,a2,a3⟩:=find_eq k hk h at_ hat 1
 obtain ⟨f5,e1,e2,e3⟩:=find_eq k hk h at_ hat 5
 obtain rfl:f1=w1:=by rw [a1] at u4;exact Option.some.inj u4
 obtain rfl:f5=w5:=by rw [e1] at z4;exact Option.some.inj z4
 have z:I64 0:=⟨by omega,by omega⟩
 have fin:∀(o100 o100':TCol) (rep:Int) (has:Bool),∃x x' b,spec_l5Col.c9 k l (at_:Int) b4 b1 v5 b5 has o100 (s4,v1,rep,0,())=some (x',b)∧
  impl_tree_col.c8 k (at_:Int) b4 has b1 v5 b5 (tB l) af o100' (s4,v1,rep,0,())=some ((x,b),(tB l,af))∧(b=true→x=x')∧x'.1.size≤300∧I64 x'.2.2.2.1:=by
  intro o100 o100' rep has
  unfold spec_l5Col.c9 spec_l5Col.c12 impl_tree_col.c8 impl_tree_col.c11
  simp only [a1,e1,e2,a2,Option.bind_some,csf,cst]
  by_cases h5:f5≥0
  ·have hf5:decide (f5<0)=false:=decide_eq_false (by omega)
   simp only [decide_eq_true h5,cond_true,hf5]
   cases b5 with
   |true=>
    cases b1 with
    |true=>
     have:¬f1<0:=by have:=u5 rfl;omega
     simp only [cond_true,cond_false,Bool.not_true,Option.bind_some,decide_eq_false this]
     cases b4<;>cases has<;>exact ⟨_,_,_,rfl,rfl,(fun h=>by cases h),t4,z⟩
    |false=>
     simp only [cond_true,cond_false,Bool.not_false,Option.bind_some]
     cases b4<;>cases has<;>cases (decide (f1<0))<;>exact ⟨_,_,_,rfl,rfl,fun _=>rfl,t4,z3⟩
   |false=>
    cases b1 with
    |true=>
     simp only [cond_true,cond_false,Bool.not_true,Option.bind_some]
     cases b4<;>cases has<;>exact ⟨_,_,_,rfl,rfl,(fun h=>by cases h),t4,z⟩
    |false=>
     simp only [cond_true,cond_false,Bool.not_false,Option.bind_some]
     cases b4<;>cases has<;>cases (decide (f1<0))<;>exact ⟨_,_,_,rfl,rfl,(fun h=>by cases h),t4,z3⟩
  ·have hf5:decide (f5<0)=true:=decide_eq_true (by omega)
   have hb5:b5=false:=by
    cases b5 with
    |false=>rfl
    |true=>have:=z5 rfl;omega
   subst hb5
   simp only [decide_eq_false h5,cond_false,hf5]
   cases b1 with
   |true=>
    simp only [cond_true,cond_false,Bool.not_true,Option.bind_some]
    cases b4<;>cases has<;>exact ⟨_,_,_,rfl,rfl,fun _=>rfl,t4,z⟩
   |false=>
    simp only [cond_true,cond_false,Bool.not_false,Option.bind_some]
    cases b4<;>cases has<;>exact ⟨_,_,_,rfl,rfl,(fun h=>by cases h),t4,z3⟩
 unfold spec_l5Col impl_tree_col
 simp only [t1,t2,u1,u2,y1,y2,z1,z2,Option.bind_some,t3]
 cases root with
 |true=>simp only [cond_true];exact fin _ _ 0 true
 |false=>simp only [cond_false];exact fin _ _ v3 b3
def chainL (af:List Int):Nat→Nat→List Int
 |0,_=>[]
 |c+1,pos=>(pos:Int)::chainL af c ((af[pos]?).getD 0).toNat
theorem chainL_len:∀(c pos:Nat),(chainL af c pos).length=c
 |0,_=>rfl
 |c+1,pos=>by simp [chainL,chainL_len c]
theorem partsLoop (hlen:l.length≤1500) (d:Nat) (n:TNode) (nx:Nat) (hnx:nx≤l.length):∀(c pos:Nat) (last:Int) (f:Nat) (M i:Int) (acc:List Int),PartsR (Sub l af d) l n c pos last nx→c<f→M-i=c→0≤i→M≤2000→acc.length+c≤4000→
 impl_tree_parts.l7 k f (pos:Int) M i (tB l) af acc=some (((),true),(tB l,af,acc++chainL af c pos)):=by
 intro c
 induction c with
 |zero=>
  intro pos last f M i acc hp hf hi hi0 hi2 ha
  obtain ⟨f,rfl⟩:∃j,f=j+1:=⟨f-1,by omega⟩
  simp only [impl_tree_parts.l7,decide_eq_false (show ¬i<M by omega),cond_false,chainL,List.append_nil]
 |succ c ihc=>
  intro pos last f M i acc ⟨p,mid,hp1,_,_,hs,hp⟩ hf hi hi0 hi2 ha
  obtain ⟨f,rfl⟩:∃j,f=j+1:=⟨f-1,by omega⟩
  have hc:=PartsR_cnt (Sub_lt d) _ _ _ _ hp
  have hlt:=Sub_lt _ _ _ hs
  obtain ⟨_,_,_,haf⟩:=Sub_node hs
  simp only [impl_tree_parts.l7,decide_eq_true (show i<M by omega),cond_true,rdL_nat,haf,Option.bind_some]
  rw [lim_ok (by simp;omega),cond_true,w64 (by omega) (by omega)]
  rw [ihc mid _ f M (i+1) _ hp (by omega) (by omega) (by omega) (by omega) (by simp;omega)]
  simp [chainL,haf]
def Small (k:Nat) (c:TCol):Prop:=c.1.size<k∧c.1.size<1000000000∧I64 c.2.2.2.1
theorem schema_all {s:List TCol} (h:IsSchema s):∀c,c∈s→colOk c=true:=by
 intro c hc
 obtain ⟨i,hi,rfl⟩:=List.mem_iff_getElem.1 hc
 obtain ⟨c',h1,h2,_⟩:=SubC_all 6 0 s.length h.2.2.1 i (Nat.zero_le _) hi
 rw [List.getElem?_eq_getElem hi] at h1
 rw [Option.some.inj h1]
 exact h2
theorem specBad (hk:2000≤k) (h:TreeFacts l af) (d:Nat) (hd:d≤12) (n:TNode) (q:Nat) (hn:l[q]?=some n) (nx:Nat) (hnx:nx≤l.length):∀(c pos:Nat) (last:Int) (f:Nat) (i:Int) (out:List TCol),PartsR (Sub l af d) l n c pos last nx→c<f→n.2.2.2.2.1-i=c→0≤i→n.2.2.2.2.1≤2000→
 (∀x,x∈out→Small k x)→(∃x,x∈out∧colOk x=false)→out.length+c≤4000→spec_l5Of.l8 k f l (q:Int) (pos:Int) i [] out=some (((),false),[]):=by
 intro c
 induction c with
 |zero=>
  intro pos last f i out hp hf hi hi0 hi2 hsm ⟨x,hx1,hx2⟩ ho
  obtain ⟨f,rfl⟩:∃j,f=j+1:=⟨f-1,by omega⟩
  obtain ⟨b,g1,_,g3⟩:=schemaOk_eq k (by omega) out hsm
  have hb:b=false:=by
   cases b with
   |false=>rfl
   |true=>
    have:=schema_all (g3 rfl).1 x hx1
    rw [hx2] at this;cases this
  subst hb
  simp only [spec_l5Of.l8,rdL_nat,hn,Option.bind_some,decide_eq_false (show ¬i<n.2.2.2.2.1 by omega),cond_false,g1,Bool.not_false,cond_true]
 |succ c ihc=>
  intro pos last f i out ⟨p,mid,hp1,_,_,hs,hp⟩ hf hi hi0 hi2 hsm hbad ho
  obtain ⟨f,rfl⟩:∃j,f=j+1:=⟨f-1,by omega⟩
  have hc:=PartsR_cnt (Sub_lt d) _ _ _ _ hp
  have hlt:=Sub_lt _ _ _ hs
  obtain ⟨x,x',b,g1,g2,g3,g4,g5⟩:=col_eq k hk h pos (by omega) (i==0)
  simp only [spec_l5Of.l8,rdL_nat,hn,Option.bind_some,decide_eq_true (show i<n.2.2.2.2.1 by omega),cond_true,g1]
  cases b with
  |false=>simp only [Bool.not_false,cond_true]
  |true=>
   simp only [Bool.not_true,cond_false]
   rw [lim_ok (by simp;omega),cond_true]
   simp only [h.after k hk hd hs (by omega),Option.bind_some]
   rw [w64 (by omega) (by omega)]
   obtain ⟨y,hy1,hy2⟩:=hbad
   refine ihc mid _ f (i+1) _ hp (by omega) (by omega) (by omega) (by omega) (fun z hz=> ?_) ⟨y,List.mem_append.2 (.inl hy1),hy2⟩ (by simp;omega)
   rcases List.mem_append.1 hz with hz|hz
   ·exact hsm z hz
   ·simp at hz;subst hz;exact ⟨by omega,by omega,g5⟩
def OkSchema (k:Nat) (r:List TCol):Prop:=IsSchema r∧spec_SchemaOk k r=some true∧impl_SchemaOk k r=some true∧∀c,c∈r→Small k c
theorem schemaLoop (hk:2000≤k) (h:TreeFacts l af) (d:Nat) (hd:d≤12) (n:TNode) (q:Nat) (hn:l[q]?=some n) (nx:Nat) (hnx:nx≤l.length) (places:List Int):∀(c pos:Nat) (last:Int) (f f' j:Nat) (out:List TCol),PartsR (Sub l af d) l n c pos last nx→c<f→c<f'→n.2.2.2.2.1-j=c→n.2.2.2.2.1≤2000→
 places.drop j=chainL af c pos→(places.length:Int)=n.2.2.2.2.1→(∀x,x∈out→Small k x)→out.length+c≤4000→
 ∃b r,spec_l5Of.l8 k f l (q:Int) (pos:Int) (j:Int) [] out=some (((),b),r)∧impl_tree_schema.l6 k f' (places.length:Int) (j:Int) (tB l) af out places=some (((),b),(tB l,af,r))∧(b=true→OkSchema k r)∧(b=false→r=[]):=by
 intro c
 induction c with
 |zero=>
  intro pos last f f' j out hp hf hf' hi hi2 hpl hplen hsm ho
  obtain ⟨f,rfl⟩:∃j,f=j+1:=⟨f-1,by omega⟩
  obtain ⟨f',rfl⟩:∃j,f'=j+1:=⟨f'-1,by omega⟩
  obtain ⟨b,g1,g2,g3⟩:=schemaOk_eq k (by omega) out hsm
  simp only [spec_l5Of.l8,impl_tree_schema.l6,rdL_nat,hn,Option.bind_some,hplen,decide_eq_false (show ¬(j:Int)<n.2.2.2.2.1 by omega),cond_false,g1,g2]
  cases b with
  |false=>exact ⟨_,_,rfl,rfl,fun h=>(by cases h),fun _=>rfl⟩
  |true=>exact ⟨_,_,rfl,rfl,fun _=>⟨(g3 rfl).1,g1,g2,hsm⟩,fun h=>(by cases h)⟩
 |succ c ihc=>
  intro pos last f f' j out ⟨p,mid,hp1,_,_,hs,hp⟩ hf hf' hi hi2 hpl hplen hsm ho
  obtain ⟨f,rfl⟩:∃j,f=j+1:=⟨f-1,by omega⟩
  obtain ⟨f',rfl⟩:∃j,f'=j+1:=⟨f'-1,by omega⟩
  have hc:=PartsR_cnt (Sub_lt d) _ _ _ _ hp
  have hlt:=Sub_lt _ _ _ hs
  obtain ⟨_,_,_,haf⟩:=Sub_node hs
  have hch:chainL af (c+1) pos=(pos:Int)::chainL af c mid:=by simp [chainL,haf]
  rw [hch] at hpl
  obtain ⟨d1,d2,d3⟩:=drop_get hpl
  obtain ⟨x,x',b,g1,g2,g3,g4,g5⟩:=col_eq k hk h pos (by omega) ((j:Int)==0)
  simp only [spec_l5Of.l8,impl_tree_schema.l6,rdL_nat,hn,d1,Option.bind_some,hplen,decide_eq_true (show (j:Int)<n.2.2.2.2.1 by omega),cond_true,g1,g2,csf,cst]
  cases b with
  |false=>
   simp only [Bool.not_false,cond_true,Bool.true_or]
   exact ⟨_,_,rfl,rfl,fun h=>(by cases h),fun _=>rfl⟩
  |true=>
   obtain rfl:=g3 rfl
   simp only [Bool.not_true,cond_false,Bool.false_or]
   rw [lim_ok (show out.length+[x].length≤4294967296 by simp;omega),cond_true]
   simp only [h.after k hk hd hs (by omega),Option.bind_some]
   rw [w64 (by omega) (by omega),show ((j:Int)+1)=((j+1:Nat):Int) by omega]
   have hsm':∀z,z∈out++[x]→Small k z:=fun z hz=>by
    rcases List.mem_append.1 hz with hz|hz
    ·exact hsm z hz
    ·simp at hz;subst hz;exact ⟨by omega,by omega,g5⟩
   by_cases hbad:(decide ((j:Int)>0)&&x.2.2.2.1==0&&x.2.1==7)=true
   ·simp only [hbad,cond_true]
    have hb:x.2.2.2.1=0∧x.2.1=7:=by
     simp only [Bool.and_eq_true,beq_iff_eq] at hbad
     exact ⟨hbad.1.2,hbad.2⟩
    rw [specBad k hk h d hd n q hn nx hnx c mid _ f _ _ hp (by omega) (by omega) (by omega) (by omega) hsm' ⟨x,by simp,by unfold colOk;rw [hb.1,hb.2];rfl⟩ (by simp;omega)]
    exact ⟨_,_,rfl,rfl,fun h=>(by cases h),fun _=>rfl⟩
   ·simp only [Bool.eq_false_iff.2 hbad,cond_false]
    have:=ihc mid _ f f' (j+1) (out++[x]) hp (by omega) (by omega) (by omega) (by omega) d3 hplen hsm' (by simp;omega)
    rw [hplen] at this
    exact this
theorem of_eq (hk:2000≤k) (h:TreeFacts l af) (at_:Nat) (hat:at_<l.length):
 ∃b r,spec_l5Of k l (at_:Int) 2=some (((),b),r)∧impl_tree_schema k (at_:Int) (true,tB l) af=some (((),b),(tB l,af,r))∧(b=true→OkSchema k r)∧(b=false→r=[]):=by
 obtain ⟨v,g1,g2,g3⟩:=find_eq k hk h at_ hat 2
 unfold spec_l5Of impl_tree_schema impl_tree_parts
 simp only [g1,g2,Option.bind_some]
 rcases g3 with rfl|⟨q,rfl,q1,q2⟩
 ·simp only [show decide ((-1:Int)<0)=true from rfl,cond_true,Option.bind_some,Bool.not_false]
  exact ⟨_,_,rfl,rfl,fun h=>(by cases h),fun _=>rfl⟩
 ·obtain ⟨d,nx,hd,hs,hnx⟩:=h.at q2
  cases d with
  |zero=>exact hs.elim
  |succ d=>
   obtain ⟨n,h1,h2,h3,h4⟩:=hs
   have hm0:=nok_many h2
   have hlen:=h.len
   have hc:=PartsR_cnt (Sub_lt d) _ _ _ _ h3
   simp only [decide_eq_false (show ¬(q:Int)<0 by omega),cond_false,rdL_nat,h1,Option.bind_some]
   by_cases h9:n.1=9
   ·simp only [bneF h9,cond_false,Option.bind_some,csf]
    have hnok:(n.2.2.2.2.1=0∧n.2.2.1=0)∨0<n.2.2.2.2.1:=by
     unfold nok at h2
     rw [h9] at h2
     simp only [reduceIte,if_neg (show ¬((9:Int)=5) by decide),if_neg (show ¬((9:Int)=6) by decide),if_neg (show ¬((9:Int)=8) by decide),Bool.and_eq_true,Bool.or_eq_true,beq_iff_eq,decide_eq_true_eq] at h2
     exact h2.2.imp id fun h=>h.1
    have ha1:IntKind.wrap .i64 ((q:Int)+1)=((q+1:Nat):Int):=by rw [w64 (by omega) (by omega)];omega
    by_cases h12:n.2.2.1=12
    ·simp only [bneF h12,cond_false,Bool.and_false,ha1]
     rw [partsLoop k hlen d n nx hnx _ _ 0 k _ 0 [] h3 (by omega) (by omega) (by omega) (by omega) (by simp;omega)]
     simp only [Option.bind_some,Bool.not_true,cond_false,List.nil_append]
     exact schemaLoop k hk h d (by omega) n q h1 nx hnx (chainL af n.2.2.2.2.1.toNat (q+1)) _ _ 0 k k 0 [] h3 (by omega) (by omega) (by omega) (by omega) rfl (by rw [chainL_len];omega) (fun x hx=>(List.not_mem_nil hx).elim) (by simp;omega)
    ·simp only [bneT h12,cond_true,Bool.and_true]
     rcases hnok with ⟨hz,_⟩|hpos
     ·obtain ⟨K,rfl⟩:∃j,k=j+1:=⟨k-1,by omega⟩
      have hso:impl_SchemaOk (K+1) []=some false:=rfl
      rw [hz]
      simp only [show decide ((0:Int)>0)=false from rfl,cond_false,impl_tree_parts.l7,show decide ((0:Int)<0)=false from rfl,Option.bind_some,Bool.not_true,List.length_nil,impl_tree_schema.l6,show decide ((((0:Nat):Int))>(((0:Nat):Int)))=false from rfl]
      refine ⟨_,_,rfl,?_,fun h=>(by cases h),fun _=>rfl⟩
      simp only [show decide ((0:Int)<((0:Nat):Int))=false from rfl,cond_false,hso,Option.bind_some,Bool.not_false,cond_true]
     ·simp only [decide_eq_true (show n.2.2.2.2.1>0 from hpos),cond_true,Bool.not_false]
      exact ⟨_,_,rfl,rfl,fun h=>(by cases h),fun _=>rfl⟩
   ·simp only [bneT h9,cond_true,Option.bind_some,Bool.not_false]
    exact ⟨_,_,rfl,rfl,fun h=>(by cases h),fun _=>rfl⟩
end
end Go.Law
end
section
set_option linter.unusedVariables false
set_option linter.unusedSimpArgs false
namespace Go.Law
open Go.Am Go.Fn
def fV (k:Nat) (l:List TNode) (a id:Int):Int:=(spec_l4Find k l a id).getD (-1)
def nV (k:Nat) (l:List TNode) (a id:Int):Int×Bool:=(spec_l4NumOf k l a id).getD (0,false)
def pV (k:Nat) (l:List TNode) (a id kind:Int):Bool×List Int:=((spec_l18List k l a id kind).map fun r=>(r.1.2,r.2)).getD (false,[])
section
variable (k:Nat) (hk:2000≤k) {l:List TNode} {af:List Int} (h:TreeFacts l af)
include hk h
theorem find_val (a:Nat) (ha:a<l.length) (id:Int):spec_l4Find k l (a:Int) id=some (fV k l a id)∧impl_tree_find k (a:Int) id (true,tB l) af=some (fV k l a id,(tB l,af))∧(fV k l a id= -1∨∃q:Nat,fV k l a id=q∧a<q∧q<l.length):=by
 obtain ⟨v,h1,h2,h3⟩:=find_eq k hk h a ha id
 have:fV k l a id=v:=by unfold fV;rw [h1];rfl
 rw [this]
 exact ⟨h1,h2,h3⟩
theorem num_val (a:Nat) (ha:a<l.length) (id:Int):spec_l4NumOf k l (a:Int) id=some (nV k l a id)∧impl_tree_num k (a:Int) id (true,tB l) af=some (nV k l a id,(tB l,af))∧I64 (nV k l a id).1∧((nV k l a id).2=true→0≤fV k l a id):=by
 obtain ⟨v,b,h1,h2,h3,w,h4,h5⟩:=num_eq k hk h a ha id
 have e:nV k l a id=(v,b):=by unfold nV;rw [h1];rfl
 have e2:fV k l a id=w:=by unfold fV;rw [h4];rfl
 rw [e,e2]
 exact ⟨h1,h2,h3,h5⟩
theorem chainL_mem (d:Nat) (n:TNode):∀(c pos:Nat) (last:Int) (nx:Nat),PartsR (Sub l af d) l n c pos last nx→nx≤l.length→∀p,p∈chainL af c pos→0≤p∧p<(l.length:Int):=by
 intro c
 induction c with
 |zero=>intro pos last nx _ _ p hp;cases hp
 |succ c ih=>
  intro pos last nx ⟨q,mid,hq,_,_,hs,hp⟩ hnx p hpm
  obtain ⟨_,_,_,haf⟩:=Sub_node hs
  have hlt:=Sub_lt _ _ _ hs
  have hc:=PartsR_cnt (Sub_lt d) _ _ _ _ hp
  simp only [chainL,haf,Option.getD_some,Int.toNat_natCast,List.mem_cons] at hpm
  rcases hpm with rfl|hpm
  ·omega
  ·exact ih mid _ nx hp hnx p hpm
theorem sparts18 (d:Nat) (hd:d≤12) (n:TNode) (q:Nat) (hn:l[q]?=some n) (nx:Nat) (hnx:nx≤l.length):∀(c pos:Nat) (last:Int) (f:Nat) (i:Int) (acc:List Int),PartsR (Sub l af d) l n c pos last nx→c<f→n.2.2.2.2.1-i=c→0≤i→n.2.2.2.2.1≤2000→acc.length+c≤4000→
 spec_l18List.l7 k f l (q:Int) (pos:Int) i acc=some (((),true),acc++chainL af c pos):=by
 intro c
 induction c with
 |zero=>
  intro pos last f i acc hp hf hi hi0 hi2 ha
  obtain ⟨f,rfl⟩:∃j,f=j+1:=⟨f-1,by omega⟩
  simp only [spec_l18List.l7,rdL_nat,hn,Option.bind_some,decide_eq_false (show ¬i<n.2.2.2.2.1 by omega),cond_false,chainL,List.append_nil]
 |succ c ihc=>
  intro pos last f i acc ⟨p,mid,hp1,_,_,hs,hp⟩ hf hi hi0 hi2 ha
  obtain ⟨f,rfl⟩:∃j,f=j+1:=⟨f-1,by omega⟩
  have hc:=PartsR_cnt (Sub_lt d) _ _ _ _ hp
  have hlt:=Sub_lt _ _ _ hs
  obtain ⟨_,_,_,haf⟩:=Sub_node hs
  simp only [spec_l18List.l7,rdL_nat,hn,Option.bind_some,decide_eq_true (show i<n.2.2.2.2.1 by omega),cond_true]
  rw [lim_ok (by simp;omega),cond_true]
  simp only [h.after k hk hd hs (by omega),Option.bind_some]
  rw [w64 (by omega) (by omega),ihc mid _ f (i+1) _ hp (by omega) (by omega) (by omega) (by omega) (by simp;omega)]
  simp [chainL,haf]
theorem parts_val (a:Nat) (ha:a<l.length) (id kind:Int):spec_l18List k l (a:Int) id kind=some (((),(pV k l a id kind).1),(pV k l a id kind).2)∧impl_tree_parts k (a:Int) id kind (true,tB l) af=some (((),(pV k l a id kind).1),(tB l,af,(pV k l a id kind).2))∧(pV k l a id kind).2.length≤1500∧(∀p,p∈(pV k l a id kind).2→0≤p∧p<(l.length:Int)):=by
 obtain ⟨g1,g2,g3⟩:=find_val k hk h a ha id
 have key:∃b ps,spec_l18List k l (a:Int) id kind=some (((),b),ps)∧impl_tree_parts k (a:Int) id kind (true,tB l) af=some (((),b),(tB l,af,ps))∧ps.length≤1500∧(∀p,p∈ps→0≤p∧p<(l.length:Int)):=by
  have none_ok:∀p:Int,p∈([]:List Int)→0≤p∧p<(l.length:Int):=fun p hp=>by cases hp
  unfold spec_l18List impl_tree_parts
  simp only [g1,g2,Option.bind_some]
  rcases g3 with g3|⟨q,g3,q1,q2⟩
  ·simp only [g3,show decide ((-1:Int)<0)=true from rfl,cond_true,Option.bind_some]
   exact ⟨_,_,rfl,rfl,by simp,none_ok⟩
  ·rw [g3]
   obtain ⟨d,nx,hd,hs,hnx⟩:=h.at q2
   have hlen:=h.len
   cases d with
   |zero=>exact hs.elim
   |succ d=>
    obtain ⟨n,h1,h2,h3,h4⟩:=hs
    have hm0:=nok_many h2
    have hc:=PartsR_cnt (Sub_lt d) _ _ _ _ h3
    have ha1:IntKind.wrap .i64 ((q:Int)+1)=((q+1:Nat):Int):=by rw [w64 (by omega) (by omega)];omega
    simp only [decide_eq_false (show ¬(q:Int)<0 by omega),cond_false,rdL_nat,h1,Option.bind_some,csf,cst,ha1]
    cases ((n.1 !=9)||(decide (n.2.2.2.2.1>0)&&(n.2.2.1 !=kind))) with
    |true=>
     simp only [cond_true]
     exact ⟨_,_,rfl,rfl,by simp,none_ok⟩
    |false=>
     simp only [cond_false]
     rw [partsLoop k hlen d n nx hnx _ _ 0 k _ 0 [] h3 (by omega) (by omega) (by omega) (by omega) (by simp;omega),sparts18 k hk h d (by omega) n q h1 nx hnx _ _ 0 k 0 [] h3 (by omega) (by omega) (by omega) (by omega) (by simp;omega)]
     refine ⟨_,_,rfl,rfl,?_,?_⟩
     ·rw [List.nil_append,chainL_len];omega
     ·rw [List.nil_append]
      exact chainL_mem k hk h d n _ _ _ nx h3 hnx
 obtain ⟨b,ps,e1,e2,e3,e4⟩:=key
 have e:pV k l a id kind=(b,ps):=by unfold pV;rw [e1];rfl
 rw [e]
 exact ⟨e1,e2,e3,e4⟩
end
abbrev mR (b:Bool):TMetaReader:=((),b,())
section
variable (k:Nat) (hk:2000≤k) {l:List TNode} {af:List Int} (h:TreeFacts l af)
include hk h
theorem mnum (a:Nat) (ha:a<l.length) (id:Int) (b:Bool):impl_metaReader_number k (a:Int) id (mR b) (tB l) af=some ((nV k l a id).1,(mR (b|| !(nV k l a id).2),tB l,af)):=by
 obtain ⟨_,g,_⟩:=num_val k hk h a ha id
 unfold impl_metaReader_number impl_metaReader_number.c4
 simp only [g,Option.bind_some]
 cases (nV k l a id).2<;>cases b<;>rfl
theorem mlist (a:Nat) (ha:a<l.length) (id kind:Int) (b:Bool):impl_metaReader_list k (a:Int) id kind (mR b) (tB l) af=some ((),(mR (b|| !(pV k l a id kind).1),tB l,af,(pV k l a id kind).2)):=by
 obtain ⟨_,g,_⟩:=parts_val k hk h a ha id kind
 unfold impl_metaReader_list impl_metaReader_list.c4
 simp only [g,Option.bind_some]
 cases (pV k l a id kind).1<;>cases b<;>rfl
end
end Go.Law
end
section
set_option linter.unusedVariables false
set_option linter.unusedSimpArgs false
namespace Go.Law
open Go.Am Go.Fn
theorem btS_at (b:ByteArray) (n:Nat):btS b (n:Int)=(b.toList[n]?).map fun c=>(c.toNat:Int):=by
 rw [ByteArray.toList_eq]
 show (match b.data.toList[n]? with|some b=>some (b.toNat:Int)|none=>none)=_
 cases b.data.toList[n]?<;>rfl
theorem toList_size (b:ByteArray):b.toList.length=b.size:=by rw [ByteArray.toList_eq,Array.length_toList];rfl
theorem sless_loop (k:Nat) (a b:TVal) (ha:a.2.1.size≤1000000) (hb:b.2.1.size≤1000000):∀(m f i:Nat),i+m=a.2.1.size→m<f→
 spec_ValLess.l8 k f (i:Int) a b=some (Op.bytesLess (a.2.1.toList.drop i) (b.2.1.toList.drop i)):=by
 intro m
 induction m with
 |zero=>
  intro f i h hf
  obtain ⟨f,rfl⟩:∃q,f=q+1:=⟨f-1,by omega⟩
  have hd:a.2.1.toList.drop i=[]:=List.drop_of_length_le (by rw [toList_size];omega)
  simp only [spec_ValLess.l8,decide_eq_false (show ¬((i:Int)<(a.2.1.size:Int)) by omega),cond_false,Option.bind_some,hd]
  cases hbd:b.2.1.toList.drop i with
  |nil=>
   have:=List.drop_eq_nil_iff.1 hbd
   rw [toList_size] at this
   rw [decide_eq_false (by omega)];rfl
  |cons y r=>
   have hl:(b.2.1.toList.drop i).length=(y::r).length:=by rw [hbd]
   simp only [List.length_drop,toList_size,List.length_cons] at hl
   rw [decide_eq_true (by omega)];rfl
 |succ m ih=>
  intro f i h hf
  obtain ⟨f,rfl⟩:∃q,f=q+1:=⟨f-1,by omega⟩
  have hi1:IntKind.wrap .i64 ((i:Int)+1)=((i+1:Nat):Int):=by rw [w64 (by omega) (by omega)];omega
  by_cases h1:i<a.2.1.size
  ·have hda:a.2.1.toList.drop i=a.2.1.toList[i]'(by rw [toList_size];omega)::a.2.1.toList.drop (i+1):=List.drop_eq_getElem_cons (by rw [toList_size];omega)
   by_cases h2:i<b.2.1.size
   ·have hdb:b.2.1.toList.drop i=b.2.1.toList[i]'(by rw [toList_size];omega)::b.2.1.toList.drop (i+1):=List.drop_eq_getElem_cons (by rw [toList_size];omega)
    have ga:btS a.2.1 (i:Int)=some ((a.2.1.toList[i]'(by rw [toList_size];omega)).toNat:Int):=by rw [btS_at,List.getElem?_eq_getElem (by rw [toList_size];omega)];rfl
    have gb:btS b.2.1 (i:Int)=some ((b.2.1.toList[i]'(by rw [toList_size];omega)).toNat:Int):=by rw [btS_at,List.getElem?_eq_getElem (by rw [toList_size];omega)];rfl
    simp only [spec_ValLess.l8,decide_eq_true (show (i:Int)<(a.2.1.size:Int) by omega),decide_eq_true (show (i:Int)<(b.2.1.size:Int) by omega),cond_true,Option.bind_some,ga,gb,hi1]
    rw [hda,hdb]
    generalize a.2.1.toList[i]'(by rw [toList_size];omega)=x at*
    generalize b.2.1.toList[i]'(by rw [toList_size];omega)=y at*
    simp only [Op.bytesLess]
    by_cases hxy:x=y
    ·subst hxy
     rw [bneF rfl,cond_false,ih f (i+1) (by omega) (by omega)]
     have:¬(x<x):=by simp
     simp [this]
    ·have hne:((x.toNat:Int))≠(y.toNat:Int):=fun h=>hxy (UInt8.toNat_inj.1 (by omega))
     rw [bneT hne,cond_true]
     have:(x==y)=false:=by simpa using hxy
     rw [this,Bool.false_and,Bool.or_false]
     congr 1
     by_cases hlt:x<y
     ·have:=UInt8.lt_iff_toNat_lt.1 hlt
      rw [decide_eq_true (by omega),decide_eq_true hlt]
     ·have:¬x.toNat<y.toNat:=fun h=>hlt (UInt8.lt_iff_toNat_lt.2 h)
      rw [decide_eq_false (by omega),decide_eq_false hlt]
   ·have hd:b.2.1.toList.drop i=[]:=List.drop_of_length_le (by rw [toList_size];omega)
    simp only [spec_ValLess.l8,decide_eq_true (show (i:Int)<(a.2.1.size:Int) by omega),decide_eq_false (show ¬((i:Int)<(b.2.1.size:Int)) by omega),cond_true,cond_false,Option.bind_some]
    rw [hda,hd,decide_eq_false (by omega)];rfl
  ·omega
def vless (t:Int) (a b:TVal):Bool:=
 if vok t a=true∧vok t b=true then
  if t=5 then decide ((if a.1<0 then bits .xor .i64 a.1 9223372036854775807 else a.1)<(if b.1<0 then bits .xor .i64 b.1 9223372036854775807 else b.1))
  else if t=6 then Op.bytesLess a.2.1.toList b.2.1.toList
  else decide (a.1<b.1)
 else false
theorem vok6_size {v:TVal} (h:vok 6 v=true):v.2.1.size≤40:=by
 unfold vok at h
 rw [if_neg (by decide),if_neg (by decide),if_neg (by decide),if_pos rfl] at h
 simp only [Bool.and_eq_true,decide_eq_true_eq] at h
 omega
theorem valLess_eq (k:Nat) (hk:2000000≤k) (t:Int) (a b:TVal):spec_ValLess k t a b=some (vless t a b)∧impl_ValLess k t a b=some (vless t a b):=by
 unfold spec_ValLess impl_ValLess vless
 simp only [svalOk_eq,valOk_eq,Option.bind_some]
 cases ha:vok t a with
 |false=>simp
 |true=>
  cases hb:vok t b with
  |false=>simp
  |true=>
   simp only [Bool.not_true,cond_false,Option.bind_some,and_self,if_true]
   by_cases h5:t=5
   ·rw [beqT h5,cond_true,cond_true,if_pos h5]
    unfold spec_ValLess.d5 impl_ValLess.d5 spec_FloatKey impl_FloatKey
    constructor<;>
    ·by_cases h1:a.1<0<;>by_cases h2:b.1<0<;>simp [h1,h2]
   ·rw [beqF h5,cond_false,cond_false,if_neg h5]
    by_cases h6:t=6
    ·subst h6
     have s1:=vok6_size ha
     have s2:=vok6_size hb
     have:=sless_loop k a b (by omega) (by omega) a.2.1.size k 0 (by omega) (by omega)
     have this:spec_ValLess.l8 k k 0 a b=_:=this
     rw [beqT rfl,cond_true,cond_true,if_pos rfl,this]
     exact ⟨rfl,rfl⟩
    ·rw [beqF h6,cond_false,cond_false,if_neg h6]
     exact ⟨rfl,rfl⟩
end Go.Law
end
section
set_option linter.unusedVariables false
set_option linter.unusedSimpArgs false
namespace Go.Law
open Go.Am Go.Fn
def lfOk (lf:TLeaf):Bool:=tyOk lf.1&&(decide (0≤lf.2.1)&&decide (lf.2.1≤lf.2.2.1)&&decide (lf.2.2.1≤6))
theorem lfOk_eq (k:Nat) (lf:TLeaf):impl_LeafOk k lf=some (lfOk lf)∧spec_LeafOk k lf=some (lfOk lf):=by
 unfold impl_LeafOk spec_LeafOk lfOk
 simp only [typeOk_eq,l5Type_eq,within_eq,l1In_eq,Option.bind_some,csf,Option.some.injEq]
 cases tyOk lf.1 with
 |false=>exact ⟨rfl,rfl⟩
 |true=>
  simp only [Bool.true_and]
  constructor<;>(rw [Bool.eq_iff_iff];simp only [Bool.and_eq_true,decide_eq_true_eq];omega)
end Go.Law
end
section
set_option linter.unusedVariables false
set_option linter.unusedSimpArgs false
namespace Go.Law
open Go.Am Go.Fn
abbrev zS:TStats:=(0,false,(0,(⟨#[]⟩:ByteArray),()),(0,(⟨#[]⟩:ByteArray),()),())
theorem value_eq (k:Nat) (hk:3000≤k) (t:Int) (s:ByteArray) (hs:s.size<1000000):
 ∃v v' b,impl_valueOf k t s=some (v,b)∧spec_l15Value k t s=some (v',b)∧(b=true→v'=v∧vok t v=true∧I64 v.1):=by
 unfold impl_valueOf spec_l15Value
 by_cases h6:t=6
 ·subst h6
  simp only [show ((6:Int)==6)=true from rfl,show ((6:Int) !=6)=false from rfl,cond_true,cond_false,valOk_eq,svalOk_eq,Option.bind_some,spec_l15Value.c7,spec_l15Value.d7,spec_l15Text]
  refine ⟨_,(0,s,()),_,rfl,?_,?_⟩
  ·cases vok 6 (0,s,()) with
   |false=>rfl
   |true=>
    simp only [cond_true,eqS_iff,decide_true]
  ·intro h
   exact ⟨rfl,h,by show _≤(0:Int);decide,by show (0:Int)<_;decide⟩
 ·obtain ⟨nx,ok,l,e1,e2,r⟩:=plainRead_eq k hk t (strInts s) (by rw [strInts_length];omega) (strInts_byte s) 0 1 ⟨by decide,by decide⟩
  simp only [beqF h6,bneT h6,cond_true,cond_false,e1,e2,Option.bind_some,cst]
  cases ok with
  |false=>
   simp only [Bool.not_false,cond_true,Bool.true_or,Option.bind_some]
   exact ⟨_,_,_,rfl,rfl,fun h=>by cases h⟩
  |true=>
   have hlen:=r.len rfl
   have hl1:l.length=1:=by rw [hlen];rfl
   obtain ⟨v,rfl⟩:∃v,l=[v]:=by
    match l,hl1 with
    |[v],_=>exact ⟨v,rfl⟩
   obtain ⟨hv,hI⟩:=r.vk rfl v (by simp)
   have hnl:=r.nl rfl
   have hty:=r.ty rfl
   have hvs:vsOk t [v]=true:=vsOk_iff.2 ⟨fun x hx=>by rw [List.mem_singleton.1 hx];exact hv,by simp,hty⟩
   obtain ⟨p1,p2⟩:=plainPack_eq k hk t [v] (by simp) (by simp;omega)
   rw [hvs,if_pos rfl] at p1 p2
   have hg:rdL [v] 0=some v:=rfl
   simp only [Bool.not_true,cond_false,Bool.false_or,hg,Option.bind_some,impl_statText,spec_l15Value.c7,spec_l15Value.d7,spec_l15Text,beqF h6,p1,p2,svalOk_eq,hv,cond_true,eqS_iff]
   by_cases hq:intsStr (plL t [v])=s
   ·have hz:nx=(s.size:Int):=by rw [←hq,intsStr_size];omega
    rw [decide_eq_true hq,bneF hz]
    exact ⟨_,_,_,rfl,rfl,fun _=>⟨rfl,hv,hI⟩⟩
   ·rw [decide_eq_false hq]
    cases (nx !=(s.size:Int)) with
    |false=>exact ⟨_,_,_,rfl,rfl,fun h=>by cases h⟩
    |true=>exact ⟨_,_,_,rfl,rfl,fun h=>by cases h⟩
section
variable (k:Nat) (hk:2000000≤k)
include hk
theorem statsOk_eq (lf:TLeaf) (st:TStats):∃b,impl_statsOk k lf st=some b∧spec_l15Ok k lf st=some b:=by
 unfold impl_statsOk spec_l15Ok
 obtain ⟨g1,g2⟩:=lfOk_eq k lf
 simp only [g1,g2,Option.bind_some,within_eq,l1In_eq,cst,csf,valOk_eq,svalOk_eq,(valLess_eq k hk _ _ _).1,(valLess_eq k hk _ _ _).2,csb]
 exact ⟨_,rfl,rfl⟩
variable {l:List TNode} {af:List Int} (h:TreeFacts l af)
include h
theorem stats_eq (lf:TLeaf) (hlf:lfOk lf=true) (a:Nat) (ha:a<l.length):
 ∃S,impl_tree_stats k lf (a:Int) (true,tB l) af=some (S,tB l,af)∧spec_l15From k lf l (a:Int)=some S∧(S.2=false→S.1=zS):=by
 have hk2:2000≤k:=by omega
 obtain ⟨f5,f5',_⟩:=find_val k hk2 h a ha 5
 obtain ⟨f6,f6',_⟩:=find_val k hk2 h a ha 6
 obtain ⟨n3,n3',_⟩:=num_val k hk2 h a ha 3
 obtain ⟨hi,hb,hn,t5,t5',hs5,z5⟩:=text_eq k hk2 h a ha 5
 obtain ⟨lo,lb,ln,t6,t6',hs6,z6⟩:=text_eq k hk2 h a ha 6
 have p5:hb=true→0≤fV k l a 5:=by
  intro hh;subst hh
  unfold spec_l4TextOf at t5
  simp only [f5,Option.bind_some] at t5
  by_cases hneg:fV k l a 5<0
  ·rw [decide_eq_true hneg] at t5
   simp at t5
  ·omega
 have p6:lb=true→0≤fV k l a 6:=by
  intro hh;subst hh
  unfold spec_l4TextOf at t6
  simp only [f6,Option.bind_some] at t6
  by_cases hneg:fV k l a 6<0
  ·rw [decide_eq_true hneg] at t6
   simp at t6
  ·omega
 obtain ⟨vh,vh',bh,v5,v5',w5⟩:=value_eq k (by omega) lf.1 hi (by omega)
 obtain ⟨vl,vl',bl,v6,v6',w6⟩:=value_eq k (by omega) lf.1 lo (by omega)
 unfold impl_tree_stats spec_l15From
 simp only [n3,n3',t5,t6,t5',t6',f5,f6,f5',f6',Option.bind_some,(lfOk_eq k lf).1,hlf,cst,csf,Bool.not_true,hs5,hs6,v5,v5',v6,v6',impl_tree_stats.c13,impl_tree_stats.d12,spec_l15From.c15]
 cases hnb:(nV k l (a:Int) 3).2 with
 |false=>
  simp only [Bool.not_false,Bool.true_or,cond_true]
  exact ⟨_,rfl,rfl,fun _=>rfl⟩
 |true=>
  simp only [Bool.not_true,Bool.false_or,Bool.or_false,cond_false]
  have fin:∀st:TStats,∃S,((impl_statsOk k lf st).bind fun r1=>cond (!r1) (some ((zS,false),tB l,af)) (some ((st,true),tB l,af)))=some (S,tB l,af)∧((spec_l15Ok k lf st).bind fun r1=>cond (!r1) (some (zS,false)) (some (st,true)))=some S∧(S.2=false→S.1=zS):=by
   intro st
   obtain ⟨b,s1,s2⟩:=statsOk_eq k hk lf st
   rw [s1,s2]
   cases b with
   |false=>exact ⟨_,rfl,rfl,fun _=>rfl⟩
   |true=>exact ⟨_,rfl,rfl,fun h=>by cases h⟩
  by_cases hany:0≤fV k l a 5∨0≤fV k l a 6
  ·have key:∀X Y:Option ((TStats×Bool)×TTreeB×List Int),(cond (decide (fV k l a 5≥0)) X (cond (decide (fV k l a 6≥0)) X Y))=X:=by
    intro X Y
    by_cases q5:0≤fV k l a 5
    ·rw [decide_eq_true q5];rfl
    ·have q6:0≤fV k l a 6:=by omega
     rw [decide_eq_false q5,decide_eq_true q6];rfl
   rw [show ∀X:Option ((TStats×Bool)×TTreeB×List Int),∀Y,cond true X Y=X from fun _ _=>rfl]
   rw [key]
   have hany':(decide (fV k l a 5≥0)||decide (fV k l a 6≥0))=true:=by simpa using hany
   cases hb with
   |false=>
    cases lb with
    |false=>simp only [hany',Bool.not_false,Bool.true_or,cond_true,Bool.and_true,beq_self_eq_true,Bool.not_true,Bool.or_true];exact ⟨_,rfl,rfl,fun _=>rfl⟩
    |true=>simp only [Bool.not_false,Bool.true_or,cond_true,show (false==true)=false from rfl];exact ⟨_,rfl,rfl,fun _=>rfl⟩
   |true=>
    cases lb with
    |false=>simp only [Bool.not_false,Bool.true_or,cond_true,show (true==false)=false from rfl,Bool.or_true];exact ⟨_,rfl,rfl,fun _=>rfl⟩
    |true=>
     cases bh with
     |false=>simp only [Bool.not_false,Bool.not_true,Bool.true_or,Bool.or_true,cond_true,cond_false,beq_self_eq_true,Bool.or_self,Bool.false_and];exact ⟨_,rfl,rfl,fun _=>rfl⟩
     |true=>
      cases bl with
      |false=>simp only [Bool.not_false,Bool.not_true,Bool.true_or,Bool.or_true,cond_true,cond_false,beq_self_eq_true,Bool.or_self,Bool.false_and];exact ⟨_,rfl,rfl,fun _=>rfl⟩
      |true=>
       obtain ⟨rfl,_⟩:=w5 rfl
       obtain ⟨rfl,_⟩:=w6 rfl
       simp only [Bool.not_true,Bool.or_self,cond_true,cond_false,beq_self_eq_true,Bool.false_and]
       exact fin _
  ·have h5:¬0≤fV k l a 5:=fun h=>hany (.inl h)
   have h6:¬0≤fV k l a 6:=fun h=>hany (.inr h)
   have b5:hb=false:=by cases hb with|false=>rfl|true=>exact (h5 (p5 rfl)).elim
   have b6:lb=false:=by cases lb with|false=>rfl|true=>exact (h6 (p6 rfl)).elim
   subst b5;subst b6
   simp only [decide_eq_false (show ¬fV k l a 5≥0 from h5),decide_eq_false (show ¬fV k l a 6≥0 from h6),cond_false,beq_self_eq_true,Bool.not_true,Bool.or_self,Bool.and_false]
   exact fin _
end
end Go.Law
end
section
set_option linter.unusedVariables false
set_option linter.unusedSimpArgs false
namespace Go.Law
open Go.Am Go.Fn
def Byt (B:List Int):Prop:=∀x,x∈B→0≤x∧x<256
theorem Byt.cons {a:Int} {B:List Int} (h0:0≤a) (h1:a<256) (h':Byt B):Byt (a::B):=fun x hx=>by
 rcases List.mem_cons.1 hx with rfl|hx
 ·exact ⟨h0,h1⟩
 ·exact h' x hx
theorem Byt.nil:Byt []:=fun x hx=>(List.not_mem_nil hx).elim
def headB (p:TNode) (last:Int):List Int:=if p.2.1-last≤15 then [16*(p.2.1-last)+p.1] else p.1::uv (zig p.2.1)
def costP (S:List TNode→Nat×List TNode) (st:Bool):Nat→Int→List TNode→Nat×List TNode
 |0,_,X=>(0,X)
 |_+1,_,[]=>(0,[])
 |c+1,last,p::X=>((if st then (headB p last).length else 0)+(S (p::X)).1+(costP S st c p.2.1 (S (p::X)).2).1,(costP S st c p.2.1 (S (p::X)).2).2)
def cost:Nat→List TNode→Nat×List TNode
 |0,X=>(0,X)
 |_+1,[]=>(0,[])
 |d+1,n::X=>
  if n.1=5∨n.1=6 then ((uv (zig n.2.2.1)).length,X)
  else if n.1=8 then ((uv (n.2.2.2.1.size:Int)).length+n.2.2.2.1.size,X)
  else if n.1=9 then ((if n.2.2.2.2.1≤14 then 1 else 1+(uv n.2.2.2.2.1).length)+(costP (cost d) false n.2.2.2.2.1.toNat 0 X).1,(costP (cost d) false n.2.2.2.2.1.toNat 0 X).2)
  else if n.1=12 then ((costP (cost d) true n.2.2.2.2.1.toNat 0 X).1+1,(costP (cost d) true n.2.2.2.2.1.toNat 0 X).2)
  else (0,X)
def sn (id j:Int):TNode:=(12,id,0,⟨#[]⟩,j,())
end Go.Law
end
section
set_option linter.unusedVariables false
set_option linter.unusedSimpArgs false
namespace Go.Law
open Go.Am Go.Fn
variable (k:Nat)
def EncP (E:List TNode→Prop) (n:TNode):Nat→Int→List TNode→Prop
 |0,_,X=>X=[]
 |c+1,last,X=>∃p Y Z,X=(p::Y)++Z∧(n.1=9→p.1=n.2.2.1∧p.2.1=0)∧(n.1=12→last+1≤p.2.1∧p.2.1≤1000)∧E (p::Y)∧EncP E n c p.2.1 Z
def Enc:Nat→List TNode→Prop
 |0,_=>False
 |_+1,[]=>False
 |d+1,n::X=>nok n=true∧EncP (Enc d) n n.2.2.2.2.1.toNat 0 X
theorem EncP_len {E:List TNode→Prop} {n:TNode}:∀(c:Nat) (last:Int) (X:List TNode),EncP E n c last X→c≤X.length
 |0,_,_,_=>Nat.zero_le _
 |c+1,_,X,⟨p,Y,Z,e,_,_,_,h⟩=>by
  have:=EncP_len c _ _ h
  subst e
  simp
  omega
theorem nok_many' {n:TNode} (h:nok n=true):0≤n.2.2.2.2.1:=by
 unfold nok at h
 repeat' split at h
 all_goals simp only [Bool.and_eq_true,beq_iff_eq,decide_eq_true_eq,Bool.or_eq_true] at h
 all_goals omega
theorem getMid' {α:Type} (pre post:List α) (x:α):rdL (pre++x::post) (pre.length:Int)=some x:=by
 rw [rdL_nat,List.getElem?_append_right (Nat.le_refl _)];simp
theorem checkEnc (hk:2000≤k):∀(d D deep:Nat) (pre B post:List TNode),d+deep≤13→d<D→Enc d B→pre.length+B.length+post.length≤1500→
 spec_l4Check.rec k D (pre++(B++post)) (pre.length:Int) (deep:Int)=some ((pre.length+B.length:Nat):Int):=by
 intro d
 induction d with
 |zero=>intro D deep pre B post _ _ h;exact h.elim
 |succ d ih=>
  intro D deep pre B post hdd hD hB hlen
  obtain ⟨D,rfl⟩:∃j,D=j+1:=⟨D-1,by omega⟩
  cases B with
  |nil=>exact hB.elim
  |cons n X=>
   obtain ⟨hok,hP⟩:=hB
   have hm0:=nok_many' hok
   have hcl:=EncP_len _ _ _ hP
   simp only [List.length_cons] at hlen
   generalize hL:pre++(n::X++post)=L
   have hLlen:L.length=pre.length+(X.length+1)+post.length:=by rw [←hL];simp;omega
   have hget:rdL L (pre.length:Int)=some n:=by rw [←hL];exact getMid' pre (X++post) n
   simp only [spec_l4Check.rec,spec_l4Check.b,cst,Option.bind_some,decide_eq_false (show ¬(pre.length:Int)≥(L.length:Int) by omega),decide_eq_false (show ¬(deep:Int)>12 by omega),Bool.or_self,cond_false,hget,plain_eq,hok,Bool.not_true]
   rw [w64 (by omega) (by omega),show ((pre.length:Int)+1)=((pre.length+1:Nat):Int) by omega]
   have loop:∀(c:Nat) (last:Int) (f:Nat) (i:Int) (Q Z:List TNode),EncP (Enc d) n c last Z→pre++(n::X)=Q++Z→c<f→n.2.2.2.2.1-i=c→0≤i→n.2.2.2.2.1≤2000→
    spec_l4Check.l7 k (spec_l4Check.rec k D) f L (deep:Int) (Q.length:Int) last i n=some ((pre.length+(X.length+1):Nat):Int):=by
    intro c
    induction c with
    |zero=>
     intro last f i Q Z hZ hQ hf hi hi0 hi2
     obtain ⟨f,rfl⟩:∃j,f=j+1:=⟨f-1,by omega⟩
     have hZ:Z=[]:=hZ
     subst hZ
     have:=congrArg List.length hQ
     simp at this
     simp only [spec_l4Check.l7,decide_eq_false (show ¬i<n.2.2.2.2.1 by omega),cond_false]
     congr 1
     omega
    |succ c ihc=>
     intro last f i Q Z ⟨p,Y,Z',hZ,h9,h12,hE,hZP⟩ hQ hf hi hi0 hi2
     obtain ⟨f,rfl⟩:∃j,f=j+1:=⟨f-1,by omega⟩
     have hLQ:L=Q++((p::Y)++(Z'++post)):=by
      rw [←hL,←List.append_assoc,hQ,hZ];simp
     have hQl:=congrArg List.length hQ
     rw [hZ] at hQl
     simp at hQl
     have hp:rdL L (Q.length:Int)=some p:=by rw [hLQ];exact getMid' Q (Y++(Z'++post)) p
     have e1:(n.1==9&&(p.1 !=n.2.2.1||p.2.1 !=0))=false:=by
      rw [Bool.eq_false_iff];intro h
      simp only [Bool.and_eq_true,Bool.or_eq_true,beq_iff_eq,bne_iff_ne] at h
      have:=h9 h.1
      omega
     have e2:(n.1==12&&(decide (p.2.1≤last)||decide (p.2.1>1000)))=false:=by
      rw [Bool.eq_false_iff];intro h
      simp only [Bool.and_eq_true,Bool.or_eq_true,beq_iff_eq,decide_eq_true_eq] at h
      have:=h12 h.1
      omega
     have:=ih D (deep+1) Q (p::Y) (Z'++post) (by omega) (by omega) hE (by simp;omega)
     rw [←hLQ] at this
     simp only [spec_l4Check.l7,decide_eq_true (show i<n.2.2.2.2.1 by omega),cond_true,decide_eq_false (show ¬(Q.length:Int)≥(L.length:Int) by omega),cond_false,hp,Option.bind_some,csf,cst,e1,e2,Bool.or_self]
     rw [w64 (show -9223372036854775808≤(deep:Int)+1 by omega) (by omega),show ((deep:Int)+1)=((deep+1:Nat):Int) by omega,this]
     simp only [Option.bind_some]
     rw [decide_eq_false (by omega),cond_false,w64 (by omega) (by omega)]
     have hr:=ihc p.2.1 f (i+1) (Q++(p::Y)) Z' hZP (by rw [hQ,hZ];simp) (by omega) (by omega) (by omega) hi2
     rw [List.length_append] at hr
     exact hr
   have hr:=loop _ 0 k 0 (pre++[n]) X hP (by simp) (by omega) (by omega) (by omega) (by omega)
   simp only [List.length_append,List.length_singleton] at hr
   rw [hr]
   simp
theorem treeOkEnc (hk:2000≤k) (n:TNode) (X:List TNode) (h:Enc 12 (n::X)) (hlen:(n::X).length≤1500) (h12:n.1=12) (h0:n.2.1=0):spec_TreeOk k (n::X)=some true:=by
 unfold spec_TreeOk
 have c1:(decide ((1:Int)≤((n::X).length:Int))&&decide (((n::X).length:Int)≤1500))=true:=by simp;simp at hlen;omega
 have hc:=checkEnc k hk 12 k 1 [] (n::X) [] (by omega) (by omega) h (by simpa using hlen)
 simp only [List.nil_append,List.append_nil,List.length_nil,Nat.zero_add] at hc
 have hc:spec_l4Check k (n::X) 0 1=some (((n::X).length:Nat):Int):=hc
 have hr:rdL (n::X) 0=some n:=rfl
 simp only [l1In_eq,c1,Option.bind_some,Bool.not_true,cond_false,hr,bneF h12,bneF h0,hc,beqT rfl]
end Go.Law
end
section
set_option linter.unusedVariables false
set_option linter.unusedSimpArgs false
namespace Go.Law
open Go.Am Go.Fn
inductive Res (α:Type) where
 |bad (code:Int)
 |ok (p:Nat) (x:α)
def zagV (x:Int):Int:=if x%2=0 then (x%18446744073709551616)/2 else-((x%18446744073709551616)/2)-1
def int32 (x:Int):Bool:=decide (-2147483648≤x)&&decide (x≤2147483647)
def prMany (b:List Int) (p:Nat):Res (Int×Int):=
 match b[p]? with
 |none=> .bad 1
 |some h=>
  match (if h/16=15 then (gv (b.drop (p+1))).map fun x=>(x.1,p+1+x.2) else some (h/16,p+1)) with
  |none=> .bad 1
  |some (many,q)=>
   if many=0 then .ok q (0,0)
   else if isItem (h%16)=false then .bad 2
   else if many<0∨1500<many then .bad 4
   else .ok q (many,h%16)
def prHead (b:List Int) (p:Nat) (last:Int):Res (Int×Int):=
 match b[p]? with
 |none=> .bad 1
 |some h=>
  if h=0 then .ok (p+1) (0,0)
  else if isKind (h%16)=false then .bad 2
  else match (if h/16=0 then (gv (b.drop (p+1))).map fun x=>(zagV x.1,p+1+x.2) else some (last+h/16,p+1)) with
  |none=> .bad 1
  |some (id,q)=>
   if id<1∨1000<id then .bad 3
   else if id≤last then .bad 5
   else .ok q (h%16,id)
def prText (b:List Int) (p:Nat):Res ByteArray:=
 match gv (b.drop p) with
 |none=> .bad 1
 |some (u,n)=>
  if u<0∨300<u then .bad 4
  else if (b.length:Int)-(p+n:Nat)<u then .bad 1
  else .ok (p+n+u.toNat) (intsStr ((b.drop (p+n)).take u.toNat))
def prParts (S:Nat→Nat→Res (List TNode)):Nat→Nat→Nat→Res (List TNode)
 |0,p,_=> .ok p []
 |m+1,p,c=>match S p c with
  | .bad e=> .bad e
  | .ok q Y=>match prParts S m q (c+Y.length) with
    | .bad e=> .bad e
    | .ok r Z=> .ok r (Y++Z)
def prFields (S:Int→Int→Nat→Nat→Res (List TNode)) (b:List Int):Nat→Int→Nat→Nat→Res (Nat×List TNode)
 |0,_,_,_=> .bad 1
 |f+1,last,p,c=>match prHead b p last with
  | .bad e=> .bad e
  | .ok q (t,id)=>
    if t=0 then .ok q (0,[])
    else match S t id q c with
    | .bad e=> .bad e
    | .ok r Y=>match prFields S b f id r (c+Y.length) with
      | .bad e=> .bad e
      | .ok z (m,Z)=> .ok z (m+1,Y++Z)
def prN:Nat→List Int→Int→Int→Nat→Nat→Res (List TNode)
 |0,_,_,_,_,_=> .bad 4
 |d+1,b,kind,id,p,c=>
  if c=1500 then .bad 4
  else if kind=5∨kind=6 then
   match gv (b.drop p) with
   |none=> .bad 1
   |some (u,n)=>if kind=5∧int32 (zagV u)=false then .bad 3 else .ok (p+n) [(kind,id,zagV u,⟨#[]⟩,0,())]
  else if kind=8 then
   match prText b p with
   | .bad e=> .bad e
   | .ok q s=> .ok q [(8,id,0,s,0,())]
  else if kind=9 then
   match prMany b p with
   | .bad e=> .bad e
   | .ok q (many,item)=>match prParts (fun p c=>prN d b item 0 p c) many.toNat q (c+1) with
     | .bad e=> .bad e
     | .ok r Y=> .ok r ((9,id,item,⟨#[]⟩,many,())::Y)
  else if kind=12 then
   match prFields (fun t id p c=>prN d b t id p c) b 1002 0 p (c+1) with
   | .bad e=> .bad e
   | .ok r (m,Y)=> .ok r ((12,id,0,⟨#[]⟩,(m:Int),())::Y)
  else .ok p [(kind,id,0,⟨#[]⟩,0,())]
theorem zig_zagV {u:Int} (h:I64 u):zig (zagV u)=u:=by
 obtain ⟨h0,h1⟩:=h
 unfold zig zagV
 simp only [IntKind.wrap_i64]
 split<;>split<;>omega
theorem zagV_i64 (u:Int):I64 (zagV u):=by
 unfold zagV I64
 split<;>omega
theorem zag_eq (k:Nat) {u:Int} (h:I64 u):impl_Zag k u=some (zagV u):=by
 have h2:=zagV_i64 u
 have:=zag_zig k (zagV u) h2.1 h2.2
 rwa [zig_zagV h] at this
theorem isKind_of_item {t:Int} (h:isItem t=true):isKind t=true:=by unfold isKind;rw [h];simp
theorem kind_cases {t:Int} (h:isKind t=true):t=1∨t=2∨t=5∨t=6∨t=8∨t=9∨t=12:=by
 unfold isKind isItem at h
 simp only [Bool.or_eq_true,beq_iff_eq] at h
 omega
theorem prHead_ok {b:List Int} {p:Nat} {last:Int} {q:Nat} {t id:Int} (h:prHead b p last= .ok q (t,id)):p<q∧(t=0∨(isKind t=true∧t≠0∧last+1≤id∧1≤id∧id≤1000)):=by
 unfold prHead at h
 split at h
 ·cases h
 ·rename_i y hy
  split at h
  ·simp only [Res.ok.injEq,Prod.mk.injEq] at h
   exact ⟨by omega,.inl h.2.1.symm⟩
  ·split at h
   ·cases h
   ·rename_i hk
    split at h
    ·cases h
    ·rename_i id' q' hm
     split at h
     ·cases h
     ·split at h
      ·cases h
      ·simp only [Res.ok.injEq,Prod.mk.injEq] at h
       obtain ⟨rfl,rfl,rfl⟩:=h
       have hk:isKind (y%16)=true:=by simpa using hk
       refine ⟨?_,.inr ⟨hk,?_,by omega,by omega,by omega⟩⟩
       ·split at hm
        ·cases hg:gv (b.drop (p+1)) with
         |none=>rw [hg] at hm;cases hm
         |some x=>
          rw [hg] at hm
          simp only [Option.map_some,Option.some.injEq,Prod.mk.injEq] at hm
          omega
        ·simp only [Option.some.injEq,Prod.mk.injEq] at hm
         omega
       ·rcases kind_cases hk with e|e|e|e|e|e|e<;>omega
theorem prMany_ok {b:List Int} {p q:Nat} {many item:Int} (h:prMany b p= .ok q (many,item)):p<q∧((many=0∧item=0)∨(1≤many∧many≤1500∧isItem item=true)):=by
 unfold prMany at h
 split at h
 ·cases h
 ·rename_i y hy
  split at h
  ·cases h
  ·rename_i m q' hm
   have hq:p<q':=by
    split at hm
    ·cases hg:gv (b.drop (p+1)) with
     |none=>rw [hg] at hm;cases hm
     |some x=>
      rw [hg] at hm
      simp only [Option.map_some,Option.some.injEq,Prod.mk.injEq] at hm
      omega
    ·simp only [Option.some.injEq,Prod.mk.injEq] at hm
     omega
   split at h
   ·simp only [Res.ok.injEq,Prod.mk.injEq] at h
    exact ⟨by omega,.inl ⟨h.2.1.symm,h.2.2.symm⟩⟩
   ·split at h
    ·cases h
    ·rename_i hi
     split at h
     ·cases h
     ·simp only [Res.ok.injEq,Prod.mk.injEq] at h
      obtain ⟨rfl,rfl,rfl⟩:=h
      exact ⟨hq,.inr ⟨by omega,by omega,by simpa using hi⟩⟩
theorem prText_ok {b:List Int} {p q:Nat} {s:ByteArray} (h:prText b p= .ok q s):p≤q∧s.size≤300:=by
 unfold prText at h
 split at h
 ·cases h
 ·split at h
  ·cases h
  ·split at h
   ·cases h
   ·simp only [Res.ok.injEq] at h
    obtain ⟨rfl,rfl⟩:=h
    refine ⟨by omega,?_⟩
    rw [intsStr_size,List.length_take]
    omega
def EncS (d:Nat) (kind id:Int) (c:Nat) (Y:List TNode):Prop:=∃n X,Y=n::X∧n.1=kind∧n.2.1=id∧Enc d Y∧c+Y.length≤1500
theorem prParts_enc {d:Nat} {item:Int} {S:Nat→Nat→Res (List TNode)} (ih:∀p c q Y,c≤1500→S p c= .ok q Y→p≤q∧EncS d item 0 c Y) (n:TNode) (hn:n.1=9) (hi:n.2.2.1=item):∀(m p c:Nat) (last:Int) (q:Nat) (Y:List TNode),c≤1500→prParts S m p c= .ok q Y→p≤q∧EncP (Enc d) n m last Y∧c+Y.length≤1500:=by
 intro m
 induction m with
 |zero=>
  intro p c last q Y hc h
  simp only [prParts,Res.ok.injEq] at h
  obtain ⟨rfl,rfl⟩:=h
  exact ⟨Nat.le_refl _,rfl,by simpa using hc⟩
 |succ m ihm=>
  intro p c last q Y hc h
  simp only [prParts] at h
  split at h
  ·cases h
  ·rename_i q1 Y1 h1
   split at h
   ·cases h
   ·rename_i q2 Z h2
    simp only [Res.ok.injEq] at h
    obtain ⟨rfl,rfl⟩:=h
    obtain ⟨hp,x,X,rfl,x1,x2,x3,x4⟩:=ih _ _ _ _ hc h1
    obtain ⟨g0,g1,g2⟩:=ihm _ _ x.2.1 _ _ (by omega) h2
    exact ⟨by omega,⟨x,X,Z,rfl,fun _=>⟨by rw [x1,hi],x2⟩,fun h12=>by omega,x3,g1⟩,by simp at g2⊢;omega⟩
theorem prFields_enc {d:Nat} {S:Int→Int→Nat→Nat→Res (List TNode)} {b:List Int} (ih:∀t id p c q Y,isKind t=true→c≤1500→S t id p c= .ok q Y→p≤q∧EncS d t id c Y) (n:TNode) (hn:n.1=12):∀(f:Nat) (last:Int) (p c q m:Nat) (Y:List TNode),c≤1500→prFields S b f last p c= .ok q (m,Y)→p<q∧EncP (Enc d) n m last Y∧c+Y.length≤1500:=by
 intro f
 induction f with
 |zero=>intro last p c q m Y hc h;cases h
 |succ f ihf=>
  intro last p c q m Y hc h
  simp only [prFields] at h
  split at h
  ·cases h
  ·rename_i q1 t id h1
   obtain ⟨a1,a2⟩:=prHead_ok h1
   split at h
   ·simp only [Res.ok.injEq,Prod.mk.injEq] at h
    obtain ⟨rfl,rfl,rfl⟩:=h
    exact ⟨a1,rfl,by simpa using hc⟩
   ·rename_i ht
    rcases a2 with a2|⟨a2,_,a3,a4,a5⟩
    ·exact (ht a2).elim
    ·split at h
     ·cases h
     ·rename_i q2 Y1 h2
      split at h
      ·cases h
      ·rename_i q3 m' Z h3
       simp only [Res.ok.injEq,Prod.mk.injEq] at h
       obtain ⟨rfl,rfl,rfl⟩:=h
       obtain ⟨hp,x,X,rfl,x1,x2,x3,x4⟩:=ih _ _ _ _ _ _ a2 hc h2
       obtain ⟨g0,g1,g2⟩:=ihf _ _ _ _ _ _ (by omega) h3
       rw [←x2] at g1
       exact ⟨by omega,⟨x,X,Z,rfl,fun h9=>by omega,fun _=>⟨by omega,by omega⟩,x3,g1⟩,by simp at g2⊢;omega⟩
theorem prN_enc:∀(d:Nat) (b:List Int) (kind id:Int) (p c q:Nat) (Y:List TNode),isKind kind=true→c≤1500→prN d b kind id p c= .ok q Y→p≤q∧EncS d kind id c Y:=by
 intro d
 induction d with
 |zero=>intro b kind id p c q Y hk hc h;cases h
 |succ d ih=>
  intro b kind id p c q Y hk hc h
  have one:∀n:TNode,nok n=true→n.2.2.2.2.1=0→Enc (d+1) [n]:=fun n hn h0=>⟨hn,by rw [h0];rfl⟩
  have ez:eqS (⟨#[]⟩:ByteArray) ⟨#[]⟩=true:=by rw [eqS_iff];simp
  simp only [prN] at h
  split at h
  ·cases h
  ·rename_i hc5
   split at h
   ·rename_i h56
    split at h
    ·cases h
    ·rename_i u n hg
     split at h
     ·cases h
     ·rename_i h32
      simp only [Res.ok.injEq] at h
      obtain ⟨rfl,rfl⟩:=h
      refine ⟨by omega,_,[],rfl,rfl,rfl,one _ ?_ rfl,by simp;omega⟩
      unfold nok
      by_cases h5:kind=5
      ·have:int32 (zagV u)=true:=by
        cases hh:int32 (zagV u) with
        |true=>rfl
        |false=>exact (h32 ⟨h5,hh⟩).elim
       unfold int32 at this
       simp only [h5,if_true,this,ez,Bool.true_and]
       rfl
      ·have h6:kind=6:=by omega
       simp [h6,ez]
   ·rename_i h56
    split at h
    ·rename_i h8
     split at h
     ·cases h
     ·rename_i q' s hs
      simp only [Res.ok.injEq] at h
      obtain ⟨rfl,rfl⟩:=h
      obtain ⟨s1,s2⟩:=prText_ok hs
      refine ⟨s1,_,[],rfl,h8.symm,rfl,one _ ?_ rfl,by simp;omega⟩
      unfold nok
      simp
      omega
    ·rename_i h8
     split at h
     ·rename_i h9
      split at h
      ·cases h
      ·rename_i q1 many item hm
       obtain ⟨m0,m1⟩:=prMany_ok hm
       split at h
       ·cases h
       ·rename_i q2 Y' hp
        simp only [Res.ok.injEq] at h
        obtain ⟨rfl,rfl⟩:=h
        rcases m1 with ⟨rfl,rfl⟩|⟨m1,m2,m3⟩
        ·simp only [Int.toNat_zero,prParts,Res.ok.injEq] at hp
         obtain ⟨rfl,rfl⟩:=hp
         refine ⟨by omega,_,[],rfl,h9.symm,rfl,one _ ?_ rfl,by simp;omega⟩
         unfold nok
         simp [ez]
        ·obtain ⟨g0,g1,g2⟩:=prParts_enc (d:=d) (item:=item) (fun p c q Y hc h=>ih b item 0 p c q Y (isKind_of_item m3) hc h) (9,id,item,⟨#[]⟩,many,()) rfl rfl _ _ _ 0 _ _ (by omega) hp
         refine ⟨by omega,_,Y',rfl,h9.symm,rfl,⟨?_,g1⟩,by simp;omega⟩
         unfold nok
         simp [ez,m3]
         omega
     ·rename_i h9
      split at h
      ·rename_i h12
       split at h
       ·cases h
       ·rename_i q1 m Y' hf
        simp only [Res.ok.injEq] at h
        obtain ⟨rfl,rfl⟩:=h
        obtain ⟨g0,g1,g2⟩:=prFields_enc (d:=d) (fun t id p c q Y hk hc h=>ih b t id p c q Y hk hc h) (12,id,0,⟨#[]⟩,(m:Int),()) rfl _ _ _ _ _ _ _ (by omega) hf
        refine ⟨by omega,_,Y',rfl,h12.symm,rfl,⟨?_,?_⟩,by simp;omega⟩
        ·unfold nok
         simp [ez]
        ·show EncP (Enc d) _ ((m:Int)).toNat 0 Y'
         rw [Int.toNat_natCast];exact g1
      ·rename_i h12
       simp only [Res.ok.injEq] at h
       obtain ⟨rfl,rfl⟩:=h
       refine ⟨Nat.le_refl _,_,[],rfl,rfl,rfl,one _ ?_ rfl,by simp;omega⟩
       have:kind=1∨kind=2:=by
        rcases kind_cases hk with e|e|e|e|e|e|e<;>omega
       unfold nok
       rcases this with rfl|rfl<;>simp [ez]
end Go.Law
end
section
set_option linter.unusedVariables false
set_option linter.unusedSimpArgs false
namespace Go.Law
open Go.Am Go.Fn
variable (k:Nat) (hk:2000≤k)
theorem begin_ok {o:TTreeReaderB} {n:TNode} {deep:Nat} {acc:List TNode} (ho:o.2.2.2.1=0) (hd:deep≤12) (ha:acc.length<1500):
 impl_treeReader_begin k n (deep:Int) o acc=some ((acc.length:Int),(o,acc++[n])):=by
 unfold impl_treeReader_begin impl_treeReader_begin.c3
 have c1:decide ((deep:Int)>12)=false:=decide_eq_false (by omega)
 have c2:((acc.length:Int)==1500)=false:=beqF (by omega)
 have c3:lim (acc.length+[n].length)=true:=lim_ok (by simp;omega)
 have e:IntKind.wrap .i64 (((acc++[n]).length:Int)-1)=(acc.length:Int):=by
  rw [List.length_append,List.length_singleton,w64 (by omega) (by omega)];omega
 simp only [c1,c2,cond_false,Option.bind_some,ho,bneF rfl,c3,cond_true,e]
end Go.Law
end
