/- plain laws of the claim's functions -/
import Derived.Test.YtceehofnlhfndaaAmStep
import Derived.Laws.BitsLemmas
import Derived.Laws.Strings
import Derived.Test.YtceehofnlhfndaaMFRF0
set_option linter.unnecessarySimpa false
set_option linter.unusedSimpArgs false
set_option linter.unusedVariables false
set_option linter.unusedSectionVars false
section
namespace Go
theorem Cy{α β:Type}(a:α)(f:α→Option β):(some a).bind f=f a:=rfl
theorem Cx{α:Type}{a b:α}:cond true a b=a:=rfl
theorem CB{α:Type}{a b:α}:cond false a b=b:=rfl
theorem CP{p:Prop}[inst:Decidable p]:p→decide p=true:=decide_eq_true
theorem CK{p:Prop}[inst:Decidable p]:¬p→decide p=false:=decide_eq_false
theorem C9:(!true)=false:=rfl
theorem Dt:(!false)=true:=rfl
theorem Dn(a b:Bool):((a&&b)=true)=(a=true∧b=true):=Bool.and_eq_true a b
theorem Gr(b:Bool):(true||b)=true:=rfl
theorem E5(b:Bool):(false||b)=b:=Bool.false_or b
theorem ER(b:Bool):(true&&b)=b:=Bool.true_and b
theorem Gz(b:Bool):(false&&b)=false:=rfl
theorem Im(b:Bool):(b||b)=b:=Bool.or_self b
theorem Dq{α:Type}{as bs:List α}:(as++bs).length=as.length+bs.length:=List.length_append
theorem DZ{α:Type}{a:α}:[a].length=1:=rfl
theorem D9{α:Type}{a:α}{as:List α}:(a::as).length=as.length+1:=rfl
theorem DY{α:Type}(as:List α):as++[]=as:=List.append_nil as
theorem GA{α:Type}(as bs cs:List α):as++bs++cs=as++(bs++cs):=List.append_assoc as bs cs
theorem Es{α:Type}{l:List α}{i:Nat}(h:i<l.length):l[i]?=some l[i]:=List.getElem?_eq_getElem h
theorem HZ{α:Type}(a b:α):(some a=some b)=(a=b):=Option.some.injEq a b
theorem DN{p:Prop}[inst:Decidable p]:(decide p=true)=p:=decide_eq_true_eq
end Go
namespace Go.Fn
open Go Go.Am
abbrev De:=Int×ByteArray×Unit
def Fy.c5(k:Nat)(L4:(List Cv)→Int→Int→Int→(List Int)→Option (Int×Int))(t0:List Cv)(t6:Int)(t7:Int)(t9:Int)(Ct:List Int):Option (Int×Int):=
 L4 t0 t6 t7 (IntKind.wrap .i64 (t9+1)) Ct
def Fy.c8(k:Nat)(L4:(List Cv)→Int→Int→Int→(List Int)→Option (Int×Int))(t0:List Cv)(t6:Int)(t7:Int)(t9:Int)(Ct:List Int):Option (Int×Int):=
 (h_ Ct t9).bind fun y1=>
 (h_ t0 y1).bind fun y2=>
 cond (y2.2.2.1==2) (Fy.c5 k L4 t0 t6 (IntKind.wrap .i64 (t7+1)) t9 Ct) (Fy.c5 k L4 t0 t6 t7 t9 Ct)
def Fy.l4(k:Nat):Nat→(List Cv)→Int→Int→Int→(List Int)→Option (Int×Int)
 |0,_,_,_,_,_=>none
 |n+1,t0,t6,t7,t9,Ct=>
  cond (decide (t9<(List.length Ct:Int)))
   ((h_ Ct t9).bind fun y3=>
    (h_ t0 y3).bind fun y4=>
    cond (y4.2.2.1 !=0)
     (Fy.c8 k (Fy.l4 k n) t0 (IntKind.wrap .i64 (t6+1)) t7 t9 Ct)
     (Fy.c8 k (Fy.l4 k n) t0 t6 t7 t9 Ct))
   (some (t6,t7))
def Fy(k:Nat)(t0:List Cv)(t1:Int):Option (Int×Int):=
 (FX k t0 t1).bind fun r5=>Fy.l4 k k t0 0 0 0 r5.2
def IL(k:Nat)(t0:List Cv)(t1:Int):Option (H_×Bool):=
 (H7 k t0).bind fun r1=>
 (FV k t1 0 (IntKind.wrap .i64 ((List.length r1.2:Int)-1))).bind fun r2=>
 cond (!r2)
  (some ((0,0,0,()),false))
  ((h_ r1.2 t1).bind fun y3=>
   (Fy k t0 y3).bind fun r4=>(h_ r1.2 t1).bind fun y5=>(h_ t0 y5).bind fun y6=>some ((y6.2.1,r4.2,r4.1,()),true))
def Wx(k:Nat)(t0:Int)(t1:Int)(t2:Int):Option Unit:=
 some ()
end Go.Fn
namespace Go.C7
open Go.Am
theorem CO{x:Int}(h0: -9223372036854775808≤x)(h1:x<9223372036854775808):IntKind.wrap .i64 x=x:=by
 rw[IntKind.wrap_i64];omega
theorem KS(x:Int): -9223372036854775808≤IntKind.wrap .i64 x:=by rw[IntKind.wrap_i64];omega
theorem KR(x:Int):IntKind.wrap .i64 x<9223372036854775808:=by rw[IntKind.wrap_i64];omega
theorem Yr(x:Int):IntKind.wrap .u8 x=x%256:=IntKind.wrap_u8 x
theorem w8{x:Int}(h0:0≤x)(h1:x<256):IntKind.wrap .u8 x=x:=by rw[Yr];omega
def CY(x:Int):Prop:= -9223372036854775808≤x∧x<9223372036854775808
theorem OC(x:Int)(i:Nat)(hi:i≤62):bits .and .i64 x (2^i-1)=x%2^i:=by
 have hpos:0<2^i:=Nat.two_pow_pos i;have hle:2^i≤2^62:=Nat.pow_le_pow_right (by decide) hi;have hc:((2:Int)^i-1)=((2^i-1:Nat):Int):=by
  rw[Int.natCast_sub hpos];simp
 have hb:(2^i-1)%2^IntKind.i64.bits=2^i-1:=Nat.mod_eq_of_lt (show 2^i-1<2^64 by omega);rw[hc];simp only[bits,BitVec.ofInt_natCast,BitVec.toNat_and,BitVec.toNat_ofNat,hb,Nat.and_two_pow_sub_one_eq_mod,BitVec.toNat_ofInt];show IntKind.wrap .i64 (((x%((2^64:Nat):Int)).toNat%2^i:Nat):Int)=_;have h1:(x%((2^64:Nat):Int)).toNat%2^i<2^i:=Nat.mod_lt _ hpos;have h2:(((x%((2^64:Nat):Int)).toNat%2^i:Nat):Int)=x%2^i:=by
  have h3:0≤x%((2^64:Nat):Int):=Int.emod_nonneg _ (by decide);rw[Int.natCast_emod,Int.toNat_of_nonneg h3];have hd:((2^i:Nat):Int)∣((2^64:Nat):Int):=by
   have:=Nat.pow_dvd_pow 2 (show i≤64 by omega)
   exact_mod_cast this
  rw[Int.emod_emod_of_dvd x hd];simp
 rw[h2];have h4:x%2^i<2^i:=Int.emod_lt_of_pos _ (by exact_mod_cast hpos);have h5':(0:Int)<2^i:=by exact_mod_cast hpos
 have h5:0≤x%2^i:=Int.emod_nonneg _ (by omega);have h6:(2:Int)^i≤2^62:=by exact_mod_cast hle
 rw[CO (by omega) (by omega)]
theorem J8(x:Int):bits .and .i64 x 255=x%256:=OC x 8 (by decide)
theorem Da{n:Nat}(h:n≤4294967296):lim n=true:=by unfold lim;exact Nat.ble_eq_true_of_le h
theorem NQ{n:Int}(h0:0≤n)(h:n≤4294967296):rR n=true:=by simp[rR,h0,h]
theorem Df{a b:Int}(h:¬a=b):(a==b)=false:=by simpa using h
theorem EF{a b:Int}(h:¬a=b):(a !=b)=true:=by simpa using h
theorem Ez{a b:Int}(h:a=b):(a==b)=true:=by simpa using h
theorem DL{a b:Int}(h:a=b):(a !=b)=false:=by simpa using h
theorem E8(b c:Bool):(cond b (some c) (some false):Option Bool)=some (b&&c):=by cases b<;>rfl
theorem cst(b c:Bool):(cond b (some true) (some c):Option Bool)=some (b||c):=by cases b<;>rfl
theorem Dv{α:Type}(xs:List α)(n:Nat):h_ xs (n:Int)=xs[n]?:=rfl
theorem FT{α:Type}{xs:List α}{i:Int}(h0:0≤i)(h1:i<xs.length):∃x,h_ xs i=some x∧xs[i.toNat]?=some x:=by
 obtain⟨n,rfl⟩:=Int.eq_ofNat_of_zero_le h0;have h:n<xs.length:=by omega
 exact⟨xs[n],by rw[Dv,Es h],by simp[h]⟩
theorem Pv{α:Type}{b:List α}{p:Nat}{y:α}{r:List α}(h:b.drop p=y::r):b[p]?=some y∧p<b.length∧b.drop (p+1)=r:=by
 have h1:=List.getElem?_drop (xs:=b) (i:=p) (j:=0);rw[h] at h1;have hl:=congrArg List.length h;simp at hl;refine⟨by simpa using h1.symm,by omega,?_⟩;rw[←List.drop_drop,h];rfl
theorem G5(a b:ByteArray):iI a b=decide (a=b):=by
 unfold iI;have h:a.toList=b.toList↔a=b:=by
  constructor
  ·intro h
   rw[ByteArray.toList_eq,ByteArray.toList_eq] at h;cases a;cases b;simp only[ByteArray.mk.injEq];exact Array.ext' h
  ·rintro rfl;rfl
 by_cases e:a=b
 ·simp[e]
 ·simp only[e,decide_false]
  have:a.toList≠b.toList:=fun h'=>e (h.1 h');simp[this]
theorem Kt(xs:List Int):(zX xs).size=xs.length:=strOfNums_size xs
end Go.C7
end
section
namespace Go.C7
open Go.Am Go.Fn
theorem Gh(k:Nat)(a b c:Int):Ff k a b c=some (decide (b≤a)&&decide (a≤c)):=by
 unfold Ff;simp only[E8,Cy,ge_iff_le]
theorem FE(k:Nat)(a b c:Int):FV k a b c=some (decide (b≤a)&&decide (a≤c)):=by
 unfold FV;simp only[E8,Cy,ge_iff_le]
theorem Gx{α:Type}(pre post:List α)(x:α):h_ (pre++x::post) (pre.length:Int)=some x:=by
 rw[Dv,List.getElem?_append_right (Nat.le_refl _)];simp
theorem X3{α:Type}(pre post:List α)(x y:α):List.set (pre++x::post) (Int.toNat (pre.length:Int)) y=pre++y::post:=by
 rw[Int.toNat_natCast,List.set_append_right _ _ (Nat.le_refl _)];simp
end Go.C7
end
section
namespace Go.C7
open Go.Am Go.Fn
variable(k:Nat)
def Gt(t:Int):Bool:=t==0||t==1||t==2||t==5||t==6
theorem WR(t:Int):Hg k t=some (Gt t):=by
 unfold Hg Hg.c7 Gt;by_cases h0:t=0
 ·subst h0;simp
 by_cases h1:t=1
 ·subst h1;simp
 by_cases h2:t=2
 ·subst h2;simp
 by_cases h5:t=5
 ·subst h5;simp
 by_cases h6:t=6
 ·subst h6;simp
 simp[Df h0,Df h1,Df h2,Df h5,Df h6,h0,h1,h2,h5,h6]
theorem Yj(t:Int):Km k t=some (Gt t):=by
 unfold Km Gt;simp only[Gh,Cy,cst]
 congr 1
 by_cases h:0≤t∧t≤2
 ·rw[CP h.1,CP h.2]
  rcases(show t=0∨t=1∨t=2 by omega) with rfl|rfl|rfl<;>rfl
 ·have:(decide (0≤t)&&decide (t≤2))=false:=by
   rw[Bool.eq_false_iff];intro hh;simp only[Dn,DN] at hh;exact h hh
  rw[this,Df (show ¬t=0 by omega),Df (show ¬t=1 by omega),Df (show ¬t=2 by omega)];rfl
end Go.C7
end
section
namespace Go.C7
open Go.Am Go.Fn
def JI(c:UInt8):Bool:=decide (97≤c.toNat)&&decide (c.toNat≤122)
def az(s:ByteArray):Bool:=s.data.toList.all JI
def Hz(s:ByteArray):Bool:=(decide (1≤(s.size:Int))&&decide ((s.size:Int)≤20))&&az s
theorem MQ{s:ByteArray}{i:Nat}{c:UInt8}(h:s.data.toList[i]?=some c):qa s (i:Int)=some (c.toNat:Int):=by
 show(match s.data.toList[i]? with|some b=>some (b.toNat:Int)|none=>none)=_;rw[h]
theorem KH(s:ByteArray):s.data.toList.length=s.size:=by
 rw[Array.length_toList];rfl
variable(k:Nat)
theorem WL(s:ByteArray)(hs:s.size<1000000):∀(m n i:Nat),s.size=i+m→m<n→H9.l4 k n s (i:Int)=some ((s.data.toList.drop i).all JI):=by
 intro m
 induction m with
 |zero=>
  intro n i hi hn;obtain⟨n,rfl⟩:∃j,n=j+1:=⟨n-1,by omega⟩;simp only[H9.l4,CK (show ¬(i:Int)<(s.size:Int) by omega),CB];rw[List.drop_eq_nil_of_le (by rw[KH];omega)];rfl
 |succ m ih=>
  intro n i hi hn;obtain⟨n,rfl⟩:∃j,n=j+1:=⟨n-1,by omega⟩;have hlt:i<s.data.toList.length:=by rw[KH];omega
  have hb:=MQ (s:=s) (i:=i) (Es hlt);have hc:=(s.data.toList[i]).toNat_lt;simp only[H9.l4,CP (show(i:Int)<(s.size:Int) by omega),Cx,hb,Cy,cst];rw[List.drop_eq_getElem_cons hlt,List.all_cons,CO (by omega) (by omega),show((i:Int)+1)=((i+1:Nat):Int) by omega,ih n (i+1) (by omega) (by omega)];unfold JI;by_cases h:97≤(s.data.toList[i]).toNat∧(s.data.toList[i]).toNat≤122
  ·simp only[CK (show ¬(((s.data.toList[i]).toNat:Nat):Int)<97 by omega),CK (show ¬(((s.data.toList[i]).toNat:Nat):Int)>122 by omega),Im,CB,CP h.1,CP h.2,Bool.and_self,ER]
  ·have h1:(decide ((((s.data.toList[i]).toNat:Nat):Int)<97)||decide ((((s.data.toList[i]).toNat:Nat):Int)>122))=true:=by
    simp only[Bool.or_eq_true,DN];omega
   have h2:(decide (97≤(s.data.toList[i]).toNat)&&decide ((s.data.toList[i]).toNat≤122))=false:=by
    rw[Bool.eq_false_iff];intro hh;simp only[Dn,DN] at hh;exact h hh
   simp only[h1,h2,Cx,Gz]
theorem WM(hk:100≤k)(s:ByteArray):H9 k s=some (Hz s):=by
 unfold H9 Hz;simp only[FE,Cy];by_cases h:1≤s.size∧s.size≤20
 ·rw[CP (show(1:Int)≤(s.size:Int) by omega),CP (show(s.size:Int)≤20 by omega)]
  simp only[Bool.and_self,C9,CB,ER];exact WL k s (by omega) s.size k 0 (by omega) (by omega)
 ·have:(decide ((1:Int)≤(s.size:Int))&&decide ((s.size:Int)≤20))=false:=by
   rw[Bool.eq_false_iff];intro hh;simp only[Dn,DN] at hh;omega
  simp only[this,Dt,Cx,Gz]
theorem O3(s:ByteArray)(hs:s.size<1000000000):∀(m n i:Nat),s.size=i+m→m<n→Ht.l2 k n s (s.size:Int) (i:Int)=some ((decide (1≤(s.size:Int))&&decide ((s.size:Int)≤20))&&(s.data.toList.drop i).all JI):=by
 intro m
 induction m with
 |zero=>
  intro n i hi hn;obtain⟨n,rfl⟩:∃j,n=j+1:=⟨n-1,by omega⟩;simp only[Ht.l2,CK (show ¬(i:Int)<(s.size:Int) by omega),CB,Gh,Cy];rw[List.drop_eq_nil_of_le (by rw[KH];omega)];simp
 |succ m ih=>
  intro n i hi hn;obtain⟨n,rfl⟩:∃j,n=j+1:=⟨n-1,by omega⟩;have hlt:i<s.data.toList.length:=by rw[KH];omega
  have hb:=MQ (s:=s) (i:=i) (Es hlt);have hc:=(s.data.toList[i]).toNat_lt;simp only[Ht.l2,CP (show(i:Int)<(s.size:Int) by omega),Cx,hb,Cy,Gh];rw[CO (show -9223372036854775808≤(((s.data.toList[i]).toNat:Nat):Int) by omega) (by omega)];rw[List.drop_eq_getElem_cons hlt,List.all_cons,CO (by omega) (by omega),show((i:Int)+1)=((i+1:Nat):Int) by omega,ih n (i+1) (by omega) (by omega)];unfold JI;by_cases h:97≤(s.data.toList[i]).toNat∧(s.data.toList[i]).toNat≤122
  ·simp only[CP (show(97:Int)≤(((s.data.toList[i]).toNat:Nat):Int) by omega),CP (show(((s.data.toList[i]).toNat:Nat):Int)≤122 by omega),C9,Bool.and_self,CB,CP h.1,CP h.2,ER]
  ·have h1:(decide ((97:Int)≤(((s.data.toList[i]).toNat:Nat):Int))&&decide ((((s.data.toList[i]).toNat:Nat):Int)≤122))=false:=by
    rw[Bool.eq_false_iff];intro hh;simp only[Dn,DN] at hh;omega
   have h2:(decide (97≤(s.data.toList[i]).toNat)&&decide ((s.data.toList[i]).toNat≤122))=false:=by
    rw[Bool.eq_false_iff];intro hh;simp only[Dn,DN] at hh;exact h hh
   simp only[h1,h2,Dt,Cx,Gz,Bool.and_false]
theorem ND(s:ByteArray)(hs:s.size<k)(hs2:s.size<1000000000):Ht k s=some (Hz s):=by
 unfold Ht Hz;exact O3 k s hs2 s.size k 0 (by omega) (by omega)
def Ee(c:Cv):Bool:=((c.2.1==7&&decide (c.2.2.2.1>0))||(Gt c.2.1&&c.2.2.2.1==0))&&(decide (0≤c.2.2.1)&&decide (c.2.2.1≤2))
theorem MX(c:Cv):Ko k c=some (Ee c):=by
 unfold Ko Ee;simp only[Gh,Yj,Cy,E8,cst]
theorem Mg:Gt 7=false:=rfl
def GJ(S:Nat→Nat→Prop)(s:List Cv):Nat→Nat→List ByteArray→Nat→Prop
 |0,pos,_,nx=>pos=nx
 |c+1,pos,names,nx=>∃p mid,s[pos]?=some p∧p.1∉names∧S pos mid∧GJ S s c mid (names++[p.1]) nx
def EE(s:List Cv):Nat→Nat→Nat→Prop
 |0,_,_=>False
 |d+1,at_,nx=>∃c,s[at_]?=some c∧Ee c=true∧(0<at_→Hz c.1=true)∧GJ (EE s d) s c.2.2.2.1.toNat (at_+1) [] nx
theorem I1{S:Nat→Nat→Prop}{s:List Cv}(hS:∀a b,S a b→a<b):∀(c pos:Nat) (names:List ByteArray) (nx:Nat),GJ S s c pos names nx→pos+c≤nx
 |0,pos,names,nx,e=>by have e:pos=nx:=e;omega
 |c+1,pos,names,nx,⟨p,mid,_,_,h3,h4⟩=>by
  have:=hS _ _ h3;have:=I1 hS c mid _ nx h4;omega
theorem Gw{s:List Cv}:∀(d a b:Nat),EE s d a b→a<b
 |0,_,_,h=>h.elim
 |d+1,a,b,⟨c,_,_,_,h⟩=>by
  have:=I1 (Gw d) _ _ _ _ h;omega
theorem J6{s:List Cv}:∀(d a b:Nat),EE s d a b→∀i,a≤i→i<b→∃c,s[i]?=some c∧Ee c=true∧(0<i→Hz c.1=true)
 |0,_,_,h=>h.elim
 |d+1,a,b,⟨c,h1,h2,h3,h4⟩=>by
  have key:∀(n pos:Nat) (names:List ByteArray) (nx:Nat),GJ (EE s d) s n pos names nx→∀i,pos≤i→i<nx→∃c,s[i]?=some c∧Ee c=true∧(0<i→Hz c.1=true):=by
   intro n
   induction n with
   |zero=>intro pos names nx e i hi1 hi2;have e:pos=nx:=e;omega
   |succ n ih=>
    intro pos names nx ⟨p,mid,_,_,hs,hp⟩ i hi1 hi2;rcases Nat.lt_or_ge i mid with h|h
    ·exact J6 d pos mid hs i hi1 h
    ·exact ih mid _ nx hp i h hi2
  intro i hi1 hi2;rcases Nat.lt_or_ge a i with h|h
  ·exact key _ _ _ _ h4 i (by omega) hi2
  ·obtain rfl:i=a:=by omega
   exact⟨c,h1,h2,h3⟩
open Classical in
theorem Yb(S:List Cv→Int→Int→Option Int)(L:List Cv→Int→Int→Int→Cv→List ByteArray→Option Int)(s:List Cv)(deep:Int)(pos:Nat)(i:Int)(c p:Cv)(hp:s[pos]?=some p)(names:List ByteArray)(hn:names.length≤100):
 ∀(m n j:Nat),names.length=j+m→m<n→DU.Jw k S L n s deep (pos:Int) i (j:Int) c names=
  if p.1∈names.drop j then some (-1) else(S s (pos:Int) (IntKind.wrap .i64 (deep+1))).bind fun r=>cond (decide (r<0)) (some (-1)) (L s deep r (IntKind.wrap .i64 (i+1)) c (names++[p.1])):=by
 intro m
 induction m with
 |zero=>
  intro n j hj hn';obtain⟨n,rfl⟩:∃q,n=q+1:=⟨n-1,by omega⟩;simp only[DU.Jw,CK (show ¬(j:Int)<(names.length:Int) by omega),CB,Dv,hp,Cy];rw[Da (by simp;omega),Cx,List.drop_eq_nil_of_le (by omega)];simp
 |succ m ih=>
  intro n j hj hn';obtain⟨n,rfl⟩:∃q,n=q+1:=⟨n-1,by omega⟩;have hlt:j<names.length:=by omega
  simp only[DU.Jw,CP (show(j:Int)<(names.length:Int) by omega),Cx,Dv,hp,Es hlt,Cy,G5];rw[CO (by omega) (by omega),show((j:Int)+1)=((j+1:Nat):Int) by omega,ih n (j+1) (by omega) (by omega),List.drop_eq_getElem_cons hlt];by_cases h:names[j]=p.1
  ·rw[CP h,Cx,if_pos (by rw[h];exact List.mem_cons_self ..)]
  ·rw[CK h,CB]
   have:(p.1∈names[j]::names.drop (j+1))↔p.1∈names.drop (j+1):=by
    rw[List.mem_cons];exact⟨fun hh=>hh.elim (fun e=>absurd e.symm h) id,.inr⟩
   simp only[this]
open Classical in
theorem NC(S:List Cv→Int→Int→Option Int)(L:List Cv→Int→Int→Int→Int→List ByteArray→Option Int)(s:List Cv)(deep:Int)(pos:Nat)(M i:Int)(p:Cv)(hp:s[pos]?=some p)(names:List ByteArray)(hn:names.length≤100):
 ∀(m n j:Nat),names.length=j+m→m<n→Dp.l10 k S L n s deep (pos:Int) M i (names.length:Int) (j:Int) names=
  if p.1∈names.drop j then some (-1) else(S s (pos:Int) (IntKind.wrap .i64 (deep+1))).bind fun r=>cond (decide (r<0)) (some (-1)) (L s deep r M (IntKind.wrap .i64 (i+1)) (names++[p.1])):=by
 intro m
 induction m with
 |zero=>
  intro n j hj hn';obtain⟨n,rfl⟩:∃q,n=q+1:=⟨n-1,by omega⟩;simp only[Dp.l10,CK (show ¬(j:Int)<(names.length:Int) by omega),CB,Dv,hp,Cy];rw[Da (by simp;omega),Cx,List.drop_eq_nil_of_le (by omega)];simp
 |succ m ih=>
  intro n j hj hn';obtain⟨n,rfl⟩:∃q,n=q+1:=⟨n-1,by omega⟩;have hlt:j<names.length:=by omega
  simp only[Dp.l10,CP (show(j:Int)<(names.length:Int) by omega),Cx,Dv,hp,Es hlt,Cy,G5];rw[CO (by omega) (by omega),show((j:Int)+1)=((j+1:Nat):Int) by omega,ih n (j+1) (by omega) (by omega),List.drop_eq_getElem_cons hlt];by_cases h:names[j]=p.1
  ·rw[CP h,Cx,if_pos (by rw[h];exact List.mem_cons_self ..)]
  ·rw[CK h,CB]
   have:(p.1∈names[j]::names.drop (j+1))↔p.1∈names.drop (j+1):=by
    rw[List.mem_cons];exact⟨fun hh=>hh.elim (fun e=>absurd e.symm h) id,.inr⟩
   simp only[this]
theorem XX(hk:100≤k)(s:List Cv)(hs:s.length≤20)(d D deep:Nat)(GR:deep≤6)
 (ih:∀at_:Nat,0<at_→∃v,DU.rec k D s (at_:Int) ((deep+1:Nat):Int)=some v∧Dp.rec k D s (at_:Int) ((deep+1:Nat):Int)=some v∧(v= -1∨∃nx:Nat,v=nx∧EE s d at_ nx∧nx≤s.length))
 (c:Cv) (M:Int) (hM:c.2.2.2.1=M) (hM1:M<9223372036854775808):∀(f pos:Nat) (i:Int) (names:List ByteArray),s.length-pos<f→0<pos→pos≤s.length→0≤i→i≤M→names.length≤pos→
  ∃v,DU.Jv k (DU.rec k D) f s (deep:Int) (pos:Int) i c names=some v∧Dp.l6 k (Dp.rec k D) f s (deep:Int) (pos:Int) M i names=some v∧
   (v= -1∨∃nx:Nat,v=nx∧GJ (EE s d) s (M-i).toNat pos names nx∧nx≤s.length):=by
 intro f
 induction f with
 |zero=>intro pos i names h;omega
 |succ f Lu=>
  intro pos i names hf hpos hpl hi0 hiM hnm;simp only[DU.Jv,Dp.l6,hM];by_cases hlt:i<M
  ·simp only[CP hlt,Cx]
   by_cases hpe:(pos:Int)≥(s.length:Int)
   ·simp only[CP hpe,Cx]
    exact⟨_,rfl,rfl,.inl rfl⟩
   ·have hpl':pos<s.length:=by omega
    simp only[CK hpe,CB];have hp:=Es hpl';rw[show(0:Int)=((0:Nat):Int) from rfl,Yb k _ _ s _ pos i c _ hp names (by omega) names.length k 0 (by omega) (by omega),NC k _ _ s _ pos M i _ hp names (by omega) names.length k 0 (by omega) (by omega)];rw[List.drop_zero];by_cases hmem:(s[pos]'hpl').1∈names
    ·rw[if_pos hmem,if_pos hmem]
     exact⟨_,rfl,rfl,.inl rfl⟩
    ·rw[if_neg hmem,if_neg hmem]
     have hd1:IntKind.wrap .i64 ((deep:Int)+1)=((deep+1:Nat):Int):=by rw[CO (by omega) (by omega)];omega
     rw[hd1];obtain⟨v,s1,s2,s4⟩:=ih pos hpos;simp only[s1,s2,Cy];rcases s4 with rfl|⟨mid,rfl,s5,s6⟩
     ·simp only[show decide ((-1:Int)<0)=true from rfl,Cx]
      exact⟨_,rfl,rfl,.inl rfl⟩
     ·have hml:=Gw _ _ _ s5
      have hm0:decide ((mid:Int)<0)=false:=CK (by omega);have hi1:IntKind.wrap .i64 (i+1)=i+1:=CO (by omega) (by omega);simp only[hm0,CB,hi1];obtain⟨w,t1,t2,t4⟩:=Lu mid (i+1) (names++[(s[pos]'hpl').1]) (by omega) (by omega) s6 (by omega) (by omega) (by simp;omega);refine⟨w,t1,t2,?_⟩;rcases t4 with h|⟨nx,h1,h2,h3⟩
      ·exact .inl h
      ·refine .inr ⟨nx,h1,?_,h3⟩
       rw[show(M-i).toNat=(M-(i+1)).toNat+1 by omega];exact⟨_,mid,hp,hmem,s5,h2⟩
  ·simp only[CK hlt,CB]
   refine⟨_,rfl,rfl,.inr ⟨pos,rfl,?_,hpl⟩⟩;rw[show(M-i).toNat=0 by omega];rfl
theorem XW(hk:100≤k)(s:List Cv)(hs:s.length≤20)(hn:∀c,c∈s→c.1.size<k∧c.1.size<1000000000∧CY c.2.2.2.1)(hroot:∀c,s[0]?=some c→c.1=⟨#[]⟩∧c.2.2.1=0∧c.2.1=7):
 ∀(d D deep at_:Nat),d+deep=7→d<D→∃v,DU.rec k D s (at_:Int) (deep:Int)=some v∧Dp.rec k D s (at_:Int) (deep:Int)=some v∧(v= -1∨∃nx:Nat,v=nx∧EE s d at_ nx∧nx≤s.length):=by
 intro d
 induction d with
 |zero=>
  intro D deep at_ hd hD;obtain⟨D,rfl⟩:∃m,D=m+1:=⟨D-1,by omega⟩;obtain rfl:deep=7:=by omega
  simp only[DU.rec,Dp.rec,DU.b,Dp.b,cst,Cy,show decide (((7:Nat):Int)>6)=true from rfl,Bool.or_true,Cx];exact⟨_,rfl,rfl,.inl rfl⟩
 |succ d ih=>
  intro D deep at_ hd hD;obtain⟨D,rfl⟩:∃m,D=m+1:=⟨D-1,by omega⟩;simp only[DU.rec,Dp.rec,DU.b,Dp.b,cst,Cy];by_cases hat:(at_:Int)≥(s.length:Int)
  ·simp only[CP hat,Gr,Cx,Cy]
   exact⟨_,rfl,rfl,.inl rfl⟩
  ·have hat':at_<s.length:=by omega
   have hdd:decide ((deep:Int)>6)=false:=CK (by omega);have hc:=Es hat';generalize hcd:s[at_]'hat'=c at hc;have hcm:c∈s:=List.mem_of_getElem? hc;obtain⟨n1,n2,n3⟩:=hn c hcm;simp only[CK hat,hdd,E5,CB,Dv,hc,Cy,MX,ND k c.1 n1 n2,WM k hk,FE,WR,E8,cst];have hr0:(((at_:Int)==0)&&((!iI c.1 ⟨#[]⟩||c.2.2.1 !=0)||c.2.1 !=7))=false:=by
    by_cases h0:at_=0
    ·subst h0
     obtain⟨r1,r2,r3⟩:=hroot c hc;rw[r1,r2,r3,G5];simp
    ·rw[Df (show ¬(at_:Int)=0 by omega)];rfl
   simp only[hr0,E5];generalize hnm:(decide ((at_:Int)>0)&& !Hz c.1)=bn;have hname:bn=false→0<at_→Hz c.1=true:=by
    intro hb h0;rw[hb,CP (show(at_:Int)>0 by omega)] at hnm;simpa using hnm
   have ha1:IntKind.wrap .i64 ((at_:Int)+1)=((at_+1:Nat):Int):=by rw[CO (by omega) (by omega)];omega
   cases bn with
   |true=>
    simp only[Gr,Bool.or_true,Cx];exact⟨_,rfl,rfl,.inl rfl⟩
   |false=>
    simp only[E5,Bool.or_false];by_cases hrep:(0≤c.2.2.1∧c.2.2.1≤2)
    ·have er:(decide (0≤c.2.2.1)&&decide (c.2.2.1≤2))=true:=by rw[CP hrep.1,CP hrep.2];rfl
     simp only[er,C9,CB];have M5:Ee c=((c.2.1==7&&decide (c.2.2.2.1>0))||(Gt c.2.1&&c.2.2.2.1==0)):=by
      unfold Ee;rw[er,Bool.and_true]
     by_cases h7:c.2.1=7
     ·have JN:Ee c=decide (c.2.2.2.1>0):=by rw[M5,h7,Mg];simp
      simp only[DL h7,CB];by_cases hM:c.2.2.2.1<1
      ·simp only[CP hM,Cx,JN,CK (show ¬c.2.2.2.1>0 by omega),Dt]
       exact⟨_,rfl,rfl,.inl rfl⟩
      ·have hok:Ee c=true:=by rw[JN];exact CP (by omega)
       simp only[CK hM,CB,hok,C9,ha1];obtain⟨v,t1,t2,t3⟩:=XX k hk s hs d D deep (by omega) (fun a h0=>ih D (deep+1) a (by omega) (by omega)) c _ rfl n3.2 k (at_+1) 0 [] (by omega) (by omega) (by omega) (by omega) (by omega) (by simp);refine⟨v,t1,t2,?_⟩;rcases t3 with h|⟨nx,h1,h2,h3⟩
       ·exact .inl h
       ·exact .inr ⟨nx,h1,⟨c,hc,hok,hname rfl,by simpa using h2⟩,h3⟩
     ·have JN:Ee c=(Gt c.2.1&&c.2.2.2.1==0):=by rw[M5,Df h7];simp
      simp only[EF h7,Cx];by_cases hl:Gt c.2.1=true∧c.2.2.2.1=0
      ·have hok:Ee c=true:=by rw[JN,hl.1,Ez hl.2];rfl
       simp only[hl.1,DL hl.2,C9,Im,CB,hok,ha1];obtain⟨K,hK⟩:∃j,k=j+1:=⟨k-1,by omega⟩;refine⟨_,rfl,?_,.inr ⟨at_+1,rfl,⟨c,hc,hok,hname rfl,?_⟩,by omega⟩⟩
       ·rw[hl.2]
        have:∀(j:Nat) (S:List Cv→Int→Int→Option Int),Dp.l6 k S (j+1) s (deep:Int) ((at_+1:Nat):Int) 0 0 []=some ((at_+1:Nat):Int):=fun j S=>rfl;have h2:=this K (Dp.rec k D);rw[←hK] at h2;exact h2
       ·rw[hl.2];rfl
      ·have e1:(!Gt c.2.1||c.2.2.2.1 !=0)=true:=by
        cases ht:Gt c.2.1 with
        |false=>rfl
        |true=>simp only[C9,E5];exact EF fun h=>hl ⟨ht,h⟩
       have hok:Ee c=false:=by
        rw[JN];cases ht:Gt c.2.1 with
        |false=>rfl
        |true=>simp only[ER];exact Df fun h=>hl ⟨ht,h⟩
       simp only[e1,hok,Cx,Dt];exact⟨_,rfl,rfl,.inl rfl⟩
    ·have er:(decide (0≤c.2.2.1)&&decide (c.2.2.1≤2))=false:=by
      rw[Bool.eq_false_iff];intro hh;simp only[Dn,DN] at hh;exact hrep hh
     have hok:Ee c=false:=by unfold Ee;rw[er,Bool.and_false]
     simp only[er,hok,Dt,Cx];exact⟨_,rfl,rfl,.inl rfl⟩
def Fj(s:List Cv):Prop:=2≤s.length∧s.length≤20∧EE s 6 0 s.length∧∃c,s[0]?=some c∧c.1=⟨#[]⟩∧c.2.2.1=0∧c.2.1=7
theorem KF(hk:100≤k)(s:List Cv)(hn:∀c,c∈s→c.1.size<k∧c.1.size<1000000000∧CY c.2.2.2.1):
 ∃b,EB k s=some b∧EZ k s=some b∧(b=true→Fj s∧Dp k s 0 1=some (s.length:Int)):=by
 unfold EB EZ;simp only[FE,Gh,Cy];by_cases hin:2≤s.length∧s.length≤20
 ·have c1:(decide ((2:Int)≤(s.length:Int))&&decide ((s.length:Int)≤20))=true:=by simp;omega
  obtain⟨n,hn1,hn2⟩:=FT (xs:=s) (i:=0) (by omega) (by omega);have hn2:s[0]?=some n:=hn2;simp only[c1,Cx,C9,CB,hn1,Cy,cst];by_cases hr:n.1=⟨#[]⟩∧n.2.2.1=0∧n.2.1=7
  ·have e0:iI n.1 ⟨#[]⟩=true:=by rw[G5];exact CP hr.1
   simp only[DL hr.2.2,DL hr.2.1,e0,CB,Cy,Im,C9];obtain⟨v,s1,s2,s4⟩:=XW k hk s hin.2 hn (fun c hc=>by rw[hn2] at hc;cases hc;exact hr) 6 k 1 0 (by omega) (by omega);have s1:DU k s 0 1=some v:=s1;have s2:Dp k s 0 1=some v:=s2;simp only[s1,s2,Cy];refine⟨_,rfl,rfl,fun hb=> ?_⟩;have hv:v=(s.length:Int):=by simpa using hb
   refine⟨⟨hin.1,hin.2,?_,n,hn2,hr⟩,by rw[hv]⟩;rcases s4 with h|⟨nx,h1,h2,_⟩
   ·omega
   ·have:nx=s.length:=by omega
    rw[←this];exact h2
  ·
    have hs:DU k s 0 1=some (-1):=by
     obtain⟨K,rfl⟩:∃j,k=j+1:=⟨k-1,by omega⟩;show DU.b (K+1) (DU.rec (K+1) K) s 0 1=_;unfold DU.b;have e1:(cond ((0:Int)==0) (some ((!iI n.1 ⟨#[]⟩||n.2.2.1 !=0)||n.2.1 !=7)) (some false):Option Bool)=some true:=by
      show some _=_
      congr 1
      cases he:iI n.1 ⟨#[]⟩ with
      |false=>rfl
      |true=>
       rw[G5] at he;have he:=of_decide_eq_true he;simp only[C9,E5,Bool.or_eq_true,bne_iff_ne];exact Classical.byContradiction fun hh=>hr ⟨he,Classical.byContradiction fun h=>hh (.inl h),Classical.byContradiction fun h=>hh (.inr h)⟩
     simp only[CK (show ¬(0:Int)≥(s.length:Int) by omega),cst,Cy,show decide ((1:Int)>6)=false from rfl,Im,CB,hn1,e1,Gr,Cx]
    refine⟨false,?_,?_,fun h=>by cases h⟩
    ·simp only[hs,Cy]
     rw[Df (by omega)]
    ·by_cases h7:n.2.1=7
     ·by_cases h0:n.2.2.1=0
      ·have he:iI n.1 ⟨#[]⟩=false:=by
        rw[G5];exact CK fun h=>hr ⟨h,h0,h7⟩
       simp only[DL h7,DL h0,he,Cy,CB,Im,Dt,E5,Cx]
      ·simp only[DL h7,EF h0,Cy,CB,E5,Cx,Gr]
     ·simp only[EF h7,Cy,Cx,Gr]
 ·have c1:(decide ((2:Int)≤(s.length:Int))&&decide ((s.length:Int)≤20))=false:=by
   rw[Bool.eq_false_iff];intro h;simp only[Dn,DN] at h;omega
  simp only[c1,Dt,Cx,CB,Cy];exact⟨false,rfl,rfl,fun h=>by cases h⟩
end Go.C7
end
section
namespace Go.C7
open Go.Am Go.Fn
def Jb(t:Int):Bool:=t==5||t==6||t==8||t==9||t==12
def isKind(t:Int):Bool:=t==1||t==2||Jb t
theorem WA(k:Nat)(t:Int)(b:Bool):FL k t b=some (Jb t||((t==1||t==2)&& !b)):=by
 unfold FL FL.c4 FL.c10 Jb;by_cases h1:t=1
 ·subst h1;simp
 by_cases h2:t=2
 ·subst h2;simp
 by_cases h5:t=5
 ·subst h5;simp
 by_cases h6:t=6
 ·subst h6;simp
 by_cases h8:t=8
 ·subst h8;simp
 by_cases h9:t=9
 ·subst h9;simp
 by_cases h12:t=12
 ·subst h12;simp
 simp[Df h1,Df h2,Df h5,Df h6,Df h8,Df h9,Df h12,h1,h2,h5,h6,h8,h9,h12]
theorem WI(k:Nat)(t:Int):GG k t=some (isKind t):=by
 unfold GG GG.c9 isKind Jb;by_cases h1:t=1
 ·subst h1;simp
 by_cases h2:t=2
 ·subst h2;simp
 by_cases h5:t=5
 ·subst h5;simp
 by_cases h6:t=6
 ·subst h6;simp
 by_cases h8:t=8
 ·subst h8;simp
 by_cases h9:t=9
 ·subst h9;simp
 by_cases h12:t=12
 ·subst h12;simp
 simp[Df h1,Df h2,Df h5,Df h6,Df h8,Df h9,Df h12,h1,h2,h5,h6,h8,h9,h12]
theorem WH(k:Nat)(t:Int):KN k t=some (Jb t):=by
 unfold KN;rw[WI];simp only[Cy,E8]
 congr 1
 unfold isKind;by_cases h1:t=1
 ·subst h1;rfl
 by_cases h2:t=2
 ·subst h2;rfl
 simp[Df h1,Df h2,EF h1,EF h2]
def FQ(n:Cu):Bool:=
 if n.1=5 then(decide (-2147483648≤n.2.2.1)&&decide (n.2.2.1≤2147483647))&&iI n.2.2.2.1 ⟨#[]⟩&&n.2.2.2.2.1==0
 else if n.1=6 then iI n.2.2.2.1 ⟨#[]⟩&&n.2.2.2.2.1==0
 else if n.1=8 then n.2.2.1==0&&decide ((n.2.2.2.1.size:Int)≤300)&&n.2.2.2.2.1==0
 else if n.1=9 then iI n.2.2.2.1 ⟨#[]⟩&&decide (n.2.2.2.2.1≥0)&&((n.2.2.2.2.1==0&&n.2.2.1==0)||(decide (n.2.2.2.2.1>0)&&Jb n.2.2.1))
 else if n.1=12 then n.2.2.1==0&&iI n.2.2.2.1 ⟨#[]⟩&&decide (n.2.2.2.2.1≥0)
 else(n.1==1||n.1==2)&&n.2.2.1==0&&iI n.2.2.2.1 ⟨#[]⟩&&n.2.2.2.2.1==0
theorem Xq(k:Nat)(n:Cu):Kq k n=some (FQ n):=by
 unfold Kq Lv FQ;simp only[Gh,WA,Cy,E8,cst];by_cases h5:n.1=5
 ·simp[h5]
 by_cases h6:n.1=6
 ·simp[h6]
 by_cases h8:n.1=8
 ·simp[h8]
 by_cases h9:n.1=9
 ·simp[h9]
 by_cases h12:n.1=12
 ·simp[h12]
 simp[Df h5,Df h6,Df h8,Df h9,Df h12,h5,h6,h8,h9,h12,Jb]
theorem Xv(k:Nat)(n:Cu):Iu k n=some (FQ n):=by
 unfold Iu Iu.c4 Mc FQ;simp only[FE,WH,Cy,E8,cst];by_cases h1:n.1=1
 ·simp[h1]
 by_cases h2:n.1=2
 ·simp[h2]
 by_cases h5:n.1=5
 ·simp[h5]
 by_cases h6:n.1=6
 ·simp[h6]
 by_cases h8:n.1=8
 ·simp[h8]
 by_cases h9:n.1=9
 ·simp[h9]
 by_cases h12:n.1=12
 ·simp[h12]
 simp[Df h1,Df h2,Df h5,Df h6,Df h8,Df h9,Df h12,h1,h2,h5,h6,h8,h9,h12]
def F8(S:Nat→Nat→Prop)(l:List Cu)(n:Cu):Nat→Nat→Int→Nat→Prop
 |0,pos,_,nx=>pos=nx
 |c+1,pos,last,nx=>∃p mid,l[pos]?=some p∧(n.1=9→p.1=n.2.2.1∧p.2.1=0)∧(n.1=12→last+1≤p.2.1∧p.2.1≤1000)∧S pos mid∧F8 S l n c mid p.2.1 nx
def Sub(l:List Cu)(af:List Int):Nat→Nat→Nat→Prop
 |0,_,_=>False
 |d+1,at_,nx=>∃n,l[at_]?=some n∧FQ n=true∧F8 (Sub l af d) l n n.2.2.2.2.1.toNat (at_+1) 0 nx∧af[at_]?=some (nx:Int)
theorem JG{S S':Nat→Nat→Prop}{l:List Cu}{n:Cu}(hS:∀a b,S a b→a<b):∀(c pos:Nat) (last:Int) (nx:Nat),(∀a b,pos≤a→b≤nx→S a b→S' a b)→F8 S l n c pos last nx→F8 S' l n c pos last nx∧pos≤nx
 |0,pos,last,nx,h,e=>⟨e,by have e:pos=nx:=e;omega⟩
 |c+1,pos,last,nx,h,⟨p,mid,h1,h2,h3,h4,h5⟩=>by
  have hlt:=hS _ _ h4;obtain⟨k1,k2⟩:=JG hS c mid p.2.1 nx (fun a b ha hb=>h a b (by omega) hb) h5;exact⟨⟨p,mid,h1,h2,h3,h _ _ (Nat.le_refl _) k2 h4,k1⟩,by omega⟩
theorem EN{l:List Cu}{af:List Int}:∀(d a b:Nat),Sub l af d a b→a<b
 |0,_,_,h=>h.elim
 |d+1,a,b,⟨n,h1,h2,h3,h4⟩=>by
  have:=(JG (S':=fun _ _=>True) (EN d) _ _ _ _ (fun _ _ _ _ _=>trivial) h3).2;omega
theorem MH{l:List Cu}{af EW:List Int}:∀(d a b:Nat),(∀i,a≤i→i<b→EW[i]?=af[i]?)→Sub l af d a b→Sub l EW d a b
 |0,_,_,_,h=>h.elim
 |d+1,a,b,hf,⟨n,h1,h2,h3,h4⟩=>by
  have hlt:=EN (d+1) a b ⟨n,h1,h2,h3,h4⟩;refine⟨n,h1,h2,(JG (EN d) _ _ _ _ (fun x y hx hy hs=> ?_) h3).1,by rw[hf a (Nat.le_refl _) hlt];exact h4⟩;exact MH d x y (fun i hi1 hi2=>hf i (by omega) (by omega)) hs
def DK(n:Cu):Prop:=CY n.1∧CY n.2.1∧CY n.2.2.1∧CY n.2.2.2.2.1∧n.2.2.2.1.size≤1073741824
theorem OL(k:Nat)(l:List Cu)(hl:l.length≤1500)(d D deep:Nat)(GR:deep≤12)
 (ih:∀(at_:Nat) (af:List Int),af.length=l.length→
  ∃v EW,EL.rec k D l (at_:Int) ((deep+1:Nat):Int)=some v∧EJ.rec k D (at_:Int) ((deep+1:Nat):Int) (true,(l,(),())) af=some (v,((l,(),()),EW))∧EW.length=l.length∧
   (v= -1∨∃nx:Nat,v=nx∧Sub l EW d at_ nx∧nx≤l.length∧∀i,(i<at_∨nx≤i)→EW[i]?=af[i]?))
 (at_:Nat) (hat:at_<l.length) (n:Cu) (M:Int) (hM:n.2.2.2.2.1=M) (hM1:M<9223372036854775808):∀(f pos:Nat) (last i:Int) (af:List Int),l.length-pos<f→at_<pos→0≤i→i≤M→pos≤l.length→
  (n.1=12→0≤last∧last≤1000)→af.length=l.length→
  ∃v EW,EL.l7 k (EL.rec k D) f l (deep:Int) (pos:Int) last i n=some v∧EJ.l7 k (EJ.rec k D) f (at_:Int) (deep:Int) (pos:Int) last M i (l,(),()) af n=some (v,((l,(),()),EW))∧EW.length=l.length∧
   (v= -1∨∃nx:Nat,v=nx∧F8 (Sub l EW d) l n (M-i).toNat pos last nx∧nx≤l.length∧EW[at_]?=some (nx:Int)∧∀j,(j<pos∨nx≤j)→j≠at_→EW[j]?=af[j]?):=by
 intro f
 induction f with
 |zero=>intro pos last i af h;omega
 |succ f Lu=>
  intro pos last i af hf hpos hi0 hiM hpl hlast EO;simp only[EL.l7,EJ.l7,hM];by_cases hlt:i<M
  ·simp only[CP hlt,Cx]
   by_cases hpe:(pos:Int)≥(l.length:Int)
   ·simp only[CP hpe,Cx]
    exact⟨_,_,rfl,rfl,EO,.inl rfl⟩
   ·simp only[CK hpe,CB]
    obtain⟨p,hp1,hp2⟩:=FT (xs:=l) (i:=(pos:Int)) (by omega) (by omega);simp only[hp1,Cy,E8,cst,Gh];have hp2:l[pos]?=some p:=by simpa using hp2
    by_cases hc1:n.1=9∧(p.1≠n.2.2.1∨p.2.1≠0)
    ·have e1:(n.1==9&&(p.1 !=n.2.2.1||p.2.1 !=0))=true:=by
      simp only[Dn,Bool.or_eq_true,beq_iff_eq,bne_iff_ne];exact hc1
     simp only[e1,Gr,Cx];exact⟨_,_,rfl,rfl,EO,.inl rfl⟩
    ·have e1:(n.1==9&&(p.1 !=n.2.2.1||p.2.1 !=0))=false:=by
      rw[Bool.eq_false_iff];intro h;simp only[Dn,Bool.or_eq_true,beq_iff_eq,bne_iff_ne] at h;exact hc1 h
     simp only[e1,E5,CB];by_cases hc2:n.1=12∧¬(last+1≤p.2.1∧p.2.1≤1000)
     ·have hw:IntKind.wrap .i64 (last+1)=last+1:=by
       have:=hlast hc2.1;exact CO (by omega) (by omega)
      have e2:(n.1==12&&(decide (p.2.1≤last)||decide (p.2.1>1000)))=true:=by
       simp only[Dn,Bool.or_eq_true,beq_iff_eq,DN];exact⟨hc2.1,by have:=hc2.2;omega⟩
      have e3:(cond (n.1==12) (some (!(decide (last+1≤p.2.1)&&decide (p.2.1≤1000)))) (some false):Option Bool)=some true:=by
       rw[Ez hc2.1,Cx]
       congr 1
       have:=hc2.2;simp only[Bool.not_eq_true',Bool.and_eq_false_iff,decide_eq_false_iff_not];omega
      rw[hw];simp only[e2,e3,Cy,Cx];rw[E8] at e3;simp only[HZ] at e3;simp only[e3,Cx];exact⟨_,_,rfl,rfl,EO,.inl rfl⟩
     ·have e2:(n.1==12&&(decide (p.2.1≤last)||decide (p.2.1>1000)))=false:=by
       rw[Bool.eq_false_iff];intro h;simp only[Dn,Bool.or_eq_true,beq_iff_eq,DN] at h;exact hc2 ⟨h.1,by omega⟩
      have e3:(n.1==12&& !(decide (IntKind.wrap .i64 (last+1)≤p.2.1)&&decide (p.2.1≤1000)))=false:=by
       rw[Bool.eq_false_iff];intro h;simp only[Dn,beq_iff_eq,Bool.not_eq_true',Bool.and_eq_false_iff,decide_eq_false_iff_not] at h;have hl:=hlast h.1;rw[CO (by omega) (by omega)] at h;exact hc2 ⟨h.1,by omega⟩
      simp only[e2,e3,CB];have hd1:IntKind.wrap .i64 ((deep:Int)+1)=((deep+1:Nat):Int):=by rw[CO (by omega) (by omega)];omega
      rw[hd1];obtain⟨v,OA,s1,s2,s3,s4⟩:=ih pos af EO;simp only[s1,s2,Cy];rcases s4 with rfl|⟨mid,rfl,s5,s6,s7⟩
      ·simp only[show decide ((-1:Int)<0)=true from rfl,Cx]
       exact⟨_,_,rfl,rfl,s3,.inl rfl⟩
      ·have hml:=EN _ _ _ s5
       have hm0:decide ((mid:Int)<0)=false:=CK (by omega);have hi1:IntKind.wrap .i64 (i+1)=i+1:=CO (by omega) (by omega);simp only[hm0,CB,hi1]
       obtain⟨w,OB,t1,t2,t3,t4⟩:=Lu mid p.2.1 (i+1) OA (by omega) (by omega) (by omega) (by omega) s6 (fun h12=>by
        have h:=fun hh=>hc2 ⟨h12,hh⟩;have hl:=hlast h12;omega) s3
       refine⟨w,OB,t1,t2,t3,?_⟩;rcases t4 with h|⟨nx,h1,h2,h3,h4,h5⟩
       ·exact .inl h
       ·have hmn:=(JG (S':=fun _ _=>True) (EN d) _ _ _ _ (fun _ _ _ _ _=>trivial) h2).2
        refine .inr ⟨nx,h1,?_,h3,h4,fun j hj hja=> ?_⟩
        ·rw[show(M-i).toNat=(M-(i+1)).toNat+1 by omega]
         refine⟨p,mid,hp2,fun h9=> ?_,fun h12=> ?_,MH d pos mid (fun j hj1 hj2=>h5 j (.inl hj2) (by omega)) s5,h2⟩
         ·constructor
          ·exact Classical.byContradiction fun hh=>hc1 ⟨h9,.inl hh⟩
          ·exact Classical.byContradiction fun hh=>hc1 ⟨h9,.inr hh⟩
         ·exact Classical.byContradiction fun hh=>hc2 ⟨h12,hh⟩
        ·rw[h5 j (by omega) hja,s7 j (by omega)]
  ·simp only[CK hlt,CB]
   obtain⟨y,hy1,hy2⟩:=FT (xs:=af) (i:=(at_:Int)) (by omega) (by omega);simp only[hy1,Cy];refine⟨_,_,rfl,rfl,by simpa using EO,.inr ⟨pos,rfl,?_,hpl,?_,fun j _ hj=> ?_⟩⟩
   ·rw[show(M-i).toNat=0 by omega]
    rfl
   ·simp[List.getElem?_set,EO,hat]
   ·simp[List.getElem?_set]
    intro h;omega
theorem check(k:Nat)(hk:2000≤k)(l:List Cu)(hl:l.length≤1500)(hw:∀n,n∈l→DK n):∀(d D deep at_:Nat) (af:List Int),d+deep=13→d<D→af.length=l.length→
 ∃v EW,EL.rec k D l (at_:Int) (deep:Int)=some v∧EJ.rec k D (at_:Int) (deep:Int) (true,(l,(),())) af=some (v,((l,(),()),EW))∧EW.length=l.length∧
  (v= -1∨∃nx:Nat,v=nx∧Sub l EW d at_ nx∧nx≤l.length∧∀i,(i<at_∨nx≤i)→EW[i]?=af[i]?):=by
 intro d
 induction d with
 |zero=>
  intro D deep at_ af hd hD EO;obtain⟨D,rfl⟩:∃m,D=m+1:=⟨D-1,by omega⟩;obtain rfl:deep=13:=by omega
  simp only[EL.rec,EJ.rec,EL.b,EJ.b,cst,Cy,show decide (((13:Nat):Int)>12)=true from rfl,Bool.or_true,Cx];exact⟨_,_,rfl,rfl,EO,.inl rfl⟩
 |succ d ih=>
  intro D deep at_ af hd hD EO;obtain⟨D,rfl⟩:∃m,D=m+1:=⟨D-1,by omega⟩;simp only[EL.rec,EJ.rec,EL.b,EJ.b,cst,Cy,Cx];by_cases hat:(at_:Int)≥(l.length:Int)
  ·simp only[CP hat,Gr,Cx,Cy]
   exact⟨_,_,rfl,rfl,EO,.inl rfl⟩
  ·obtain⟨n,hn1,hn2⟩:=FT (xs:=l) (i:=(at_:Int)) (by omega) (by omega)
   have hn2:l[at_]?=some n:=by simpa using hn2
   have hdd:decide ((deep:Int)>12)=false:=CK (by omega);simp only[CK hat,hdd,E5,CB,hn1,Cy,Xv,Xq];cases hok:FQ n with
   |false=>
    simp only[Dt,Cx];exact⟨_,_,rfl,rfl,EO,.inl rfl⟩
   |true=>
    simp only[C9,CB];have hwn:=hw n (List.mem_of_getElem? hn2);have hM0:0≤n.2.2.2.2.1:=by
     unfold FQ at hok
     repeat' split at hok
     all_goals simp only[Dn,beq_iff_eq,DN,Bool.or_eq_true] at hok
     all_goals omega
    have ha1:IntKind.wrap .i64 ((at_:Int)+1)=((at_+1:Nat):Int):=by rw[CO (by omega) (by omega)];omega
    rw[ha1];obtain⟨v,EW,t1,t2,t3,t4⟩:=OL k l hl d D deep (by omega) (fun a af EO=>ih D (deep+1) a af (by omega) (by omega) EO) at_ (by omega) n n.2.2.2.2.1 rfl hwn.2.2.2.1.2 k (at_+1) 0 0 af (by omega) (by omega) (by omega) hM0 (by omega) (fun _=>by omega) EO;refine⟨v,EW,t1,t2,t3,?_⟩;rcases t4 with h|⟨nx,h1,h2,h3,h4,h5⟩
    ·exact .inl h
    ·refine .inr ⟨nx,h1,⟨n,hn2,hok,by simpa using h2,h4⟩,h3,fun i hi=> ?_⟩
     have:=(JG (S':=fun _ _=>True) (EN d) _ _ _ _ (fun _ _ _ _ _=>trivial) h2).2;exact h5 i (by omega) (by omega)
end Go.C7
end
section
namespace Go.C7
open Go.Am Go.Fn
variable(k:Nat)
theorem Mf(hk:2000≤k)(l:List Cu)(hw:∀n,n∈l→DK n)(hlen:l.length<4294967296):
 ∃b:Bool,Iq k l=some b∧((b=false∧∃x,Ju k l=some (((),false),x))∨
  (b=true∧l.length≤1500∧1≤l.length∧∃af,Ju k l=some (((),true),((true,(l,(),())),af))∧Sub l af 12 0 l.length∧∃n,l[0]?=some n∧n.1=12∧n.2.1=0)):=by
 unfold Iq Ju;simp only[Gh,FE,Cy];by_cases hin:1≤l.length∧l.length≤1500
 ·have c1:(decide ((1:Int)≤(l.length:Int))&&decide ((l.length:Int)≤1500))=true:=by simp;omega
  obtain⟨n,hn1,hn2⟩:=FT (xs:=l) (i:=0) (by omega) (by omega);have hn2:l[0]?=some n:=hn2;simp only[c1,C9,CB,hn1,Cy,NQ (show(0:Int)≤(l.length:Int) by omega) (by omega),Cx,cst,Int.toNat_natCast];by_cases hr:n.1=12∧n.2.1=0
  ·have c2:(n.1 !=12||n.2.1 !=0)=false:=by simp[hr.1,hr.2]
   simp only[DL hr.1,DL hr.2,CB,Cy,Im];obtain⟨v,EW,s1,s2,s3,s4⟩:=check k hk l hin.2 hw 12 k 1 0 (List.replicate l.length 0) (by omega) (by omega) (by simp);have s1:EL k l 0 1=some v:=s1;have s2:EJ k 0 1 (true,(l,(),())) (List.replicate l.length 0)=some (v,((l,(),()),EW)):=s2;simp only[s1,s2,Cy];by_cases hv:v=(l.length:Int)
   ·refine⟨true,by rw[Ez hv],.inr ⟨rfl,hin.2,hin.1,EW,by simp only[DL hv,CB],?_,n,hn2,hr⟩⟩
    rcases s4 with h|⟨nx,h1,h2,_⟩
    ·omega
    ·have:nx=l.length:=by omega
     rw[←this];exact h2
   ·exact⟨false,by rw[Df hv],.inl ⟨rfl,((false,([],(),())),[]),by simp only[EF hv,Cx]⟩⟩
  ·have c2:(n.1 !=12||n.2.1 !=0)=true:=by
    simp only[Bool.or_eq_true,bne_iff_ne];exact Classical.byContradiction fun hh=>hr ⟨Classical.byContradiction fun h=>hh (.inl h),Classical.byContradiction fun h=>hh (.inr h)⟩
   refine⟨false,?_,.inl ⟨rfl,((false,([],(),())),[]),by simp only[c2,Cx]⟩⟩;by_cases h12:n.1=12
   ·have h0:¬n.2.1=0:=fun h=>hr ⟨h12,h⟩
    simp only[DL h12,CB,EF h0,Cy,Cx,E5]
   ·simp only[EF h12,Cy,Cx,Gr]
 ·have c1:(decide ((1:Int)≤(l.length:Int))&&decide ((l.length:Int)≤1500))=false:=by
   rw[Bool.eq_false_iff];intro h;simp only[Dn,DN] at h;omega
  simp only[c1,Dt,Cx,Cy];exact⟨false,rfl,.inl ⟨rfl,_,rfl⟩⟩
end Go.C7
end
section
namespace Go.C7
open Go.Am Go.Fn
variable(k:Nat)
theorem GK{S:Nat→Nat→Prop}{l:List Cu}{n:Cu}(hS:∀a b,S a b→a<b):∀(c pos:Nat) (last:Int) (nx:Nat),F8 S l n c pos last nx→pos+c≤nx
 |0,pos,last,nx,e=>by have e:pos=nx:=e;omega
 |c+1,pos,last,nx,⟨p,mid,_,_,_,h4,h5⟩=>by
  have:=hS _ _ h4;have:=GK hS c mid p.2.1 nx h5;omega
theorem MG{l:List Cu}{af:List Int}:∀(d a b:Nat),Sub l af d a b→∀i,a≤i→i<b→∃d' nx,d'≤d∧Sub l af d' i nx∧nx≤b
 |0,_,_,h=>h.elim
 |d+1,a,b,⟨n,h1,h2,h3,h4⟩=>by
  have key:∀(c pos:Nat) (last:Int) (nx:Nat),F8 (Sub l af d) l n c pos last nx→∀i,pos≤i→i<nx→∃d' x,d'≤d∧Sub l af d' i x∧x≤nx:=by
   intro c
   induction c with
   |zero=>intro pos last nx e i hi1 hi2;have e:pos=nx:=e;omega
   |succ c ih=>
    intro pos last nx ⟨p,mid,_,_,_,hs,hp⟩ i hi1 hi2;rcases Nat.lt_or_ge i mid with h|h
    ·obtain⟨d',x,q1,q2,q3⟩:=MG d pos mid hs i hi1 h
     have:=GK (EN d) _ _ _ _ hp;exact⟨d',x,q1,q2,by omega⟩
    ·exact ih mid _ nx hp i h hi2
  intro i hi1 hi2;rcases Nat.lt_or_ge a i with h|h
  ·obtain⟨d',x,q1,q2,q3⟩:=key _ _ _ _ h3 i (by omega) hi2
   exact⟨d',x,by omega,q2,q3⟩
  ·obtain rfl:i=a:=by omega
   exact⟨d+1,b,Nat.le_refl _,⟨n,h1,h2,h3,h4⟩,Nat.le_refl _⟩
theorem I4{l:List Cu}{af:List Int}{d a b:Nat}(h:Sub l af d a b):∃n,l[a]?=some n∧FQ n=true∧af[a]?=some (b:Int):=by
 cases d with
 |zero=>exact h.elim
 |succ d=>obtain⟨n,h1,h2,h3,h4⟩:=h;exact⟨n,h1,h2,h4⟩
theorem Ky{n:Cu}(h:FQ n=true):0≤n.2.2.2.2.1:=by
 unfold FQ at h
 repeat' split at h
 all_goals simp only[Dn,beq_iff_eq,DN,Bool.or_eq_true] at h
 all_goals omega
theorem after_eq(hk:2000≤k){l:List Cu}{af:List Int}(hl:l.length≤1500):∀(d D at_ nx:Nat),d≤D→Sub l af d at_ nx→nx≤l.length→EC.rec k D l (at_:Int)=some (nx:Int):=by
 intro d
 induction d with
 |zero=>intro D at_ nx _ h;exact h.elim
 |succ d ih=>
  intro D at_ nx hD ⟨n,h1,h2,h3,h4⟩ hnx;obtain⟨D,rfl⟩:∃j,D=j+1:=⟨D-1,by omega⟩;have hm0:=Ky h2;have hat:at_<l.length:=(List.getElem?_eq_some_iff.1 h1).1;have loop:∀(c pos:Nat) (last:Int) (f:Nat) (i:Int),F8 (Sub l af d) l n c pos last nx→c<f→n.2.2.2.2.1-i=c→0≤i→n.2.2.2.2.1≤2000→EC.l3 k (EC.rec k D) f l (at_:Int) (pos:Int) i=some (nx:Int):=by
   intro c
   induction c with
   |zero=>
    intro pos last f i hp hf hi hi0 hi2;obtain⟨f,rfl⟩:∃j,f=j+1:=⟨f-1,by omega⟩;obtain rfl:pos=nx:=hp;simp only[EC.l3,Dv,h1,Cy,CK (show ¬i<n.2.2.2.2.1 by omega),CB]
   |succ c qW=>
    intro pos last f i ⟨p,mid,_,_,_,hs,hp⟩ hf hi hi0 hi2;obtain⟨f,rfl⟩:∃j,f=j+1:=⟨f-1,by omega⟩;have hc:=GK (EN d) _ _ _ _ hp;simp only[EC.l3,Dv,h1,Cy,CP (show i<n.2.2.2.2.1 by omega),Cx,ih D pos mid (by omega) hs (by omega)];have hlt:=EN _ _ _ hs;rw[CO (by omega) (by omega)];exact qW mid _ f (i+1) hp (by omega) (by omega) (by omega) (by omega)
  have hc:=GK (EN d) _ _ _ _ h3;simp only[EC.rec,EC.b];rw[CO (by omega) (by omega),show((at_:Int)+1)=((at_+1:Nat):Int) by omega];exact loop _ _ 0 k 0 h3 (by omega) (by omega) (by omega) (by omega)
section
variable{l:List Cu}{af:List Int}
structure Ey(l:List Cu)(af:List Int):Prop where
 len:l.length≤1500
 pos:1≤l.length
 sub:Sub l af 12 0 l.length
 wf:∀n,n∈l→DK n
theorem Ey.at(h:Ey l af){i:Nat}(hi:i<l.length):∃d nx,d≤12∧Sub l af d i nx∧nx≤l.length:=
 MG 12 0 l.length h.sub i (Nat.zero_le _) hi
theorem Ey.after(hk:2000≤k)(h:Ey l af){d i nx:Nat}(hd:d≤12)(hs:Sub l af d i nx)(hn:nx≤l.length):EC k l (i:Int)=some (nx:Int):=
 after_eq k hk h.len d k i nx (by omega) hs hn
abbrev tB(l:List Cu):Dc:=(l,(),())
theorem VM(hk:2000≤k)(h:Ey l af)(d:Nat)(hd:d≤12)(n:Cu)(at_:Nat)(hn:l[at_]?=some n)(id:Int)(nx:Nat)(hnx:nx≤l.length):∀(c pos:Nat) (last:Int) (f:Nat) (i:Int),F8 (Sub l af d) l n c pos last nx→c<f→n.2.2.2.2.1-i=c→0≤i→n.2.2.2.2.1≤2000→
 ∃v,DT.l5 k f l (at_:Int) id (pos:Int) i=some v∧FO.l5 k f id (pos:Int) n.2.2.2.2.1 i (tB l) af=some (v,(tB l,af))∧(v= -1∨∃q:Nat,v=q∧pos≤q∧q<nx∧∃mid,Sub l af d q mid∧mid≤nx):=by
 intro c
 induction c with
 |zero=>
  intro pos last f i hp hf hi hi0 hi2;obtain⟨f,rfl⟩:∃j,f=j+1:=⟨f-1,by omega⟩;simp only[DT.l5,FO.l5,Dv,hn,Cy,CK (show ¬i<n.2.2.2.2.1 by omega),CB];exact⟨_,rfl,rfl,.inl rfl⟩
 |succ c qW=>
  intro pos last f i ⟨p,mid,hp1,_,_,hs,hp⟩ hf hi hi0 hi2;obtain⟨f,rfl⟩:∃j,f=j+1:=⟨f-1,by omega⟩;have hc:=GK (EN d) _ _ _ _ hp;have hlt:=EN _ _ _ hs;obtain⟨_,_,_,EO⟩:=I4 hs;simp only[DT.l5,FO.l5,Dv,hn,hp1,EO,Cy,CP (show i<n.2.2.2.2.1 by omega),Cx];by_cases hid:p.2.1=id
  ·simp only[Ez hid,Cx]
   exact⟨_,rfl,rfl,.inr ⟨pos,rfl,Nat.le_refl _,by omega,mid,hs,by omega⟩⟩
  ·simp only[Df hid,CB,h.after k hk hd hs (by omega),Cy]
   rw[CO (by omega) (by omega)];obtain⟨v,g1,g2,g3⟩:=qW mid _ f (i+1) hp (by omega) (by omega) (by omega) (by omega);refine⟨v,g1,g2,?_⟩;rcases g3 with g|⟨q,q1,q2,q3,q4⟩
   ·exact .inl g
   ·exact .inr ⟨q,q1,by omega,q3,q4⟩
theorem find_eq(hk:2000≤k)(h:Ey l af)(at_:Nat)(hat:at_<l.length)(id:Int):
 ∃v,DT k l (at_:Int) id=some v∧FO k (at_:Int) id (true,tB l) af=some (v,(tB l,af))∧(v= -1∨∃q:Nat,v=q∧at_<q∧q<l.length):=by
 obtain⟨d,nx,hd,hs,hnx⟩:=h.at hat;have hlen:=h.len;cases d with
 |zero=>exact hs.elim
 |succ d=>
  obtain⟨n,h1,h2,h3,h4⟩:=hs;have hm0:=Ky h2;have hc:=GK (EN d) _ _ _ _ h3;unfold DT FO;have c1:(decide ((0:Int)≤(at_:Int))&&decide ((at_:Int)≤IntKind.wrap .i64 ((l.length:Int)-1)))=true:=by
   rw[CO (by omega) (by omega)];simp;omega
  simp only[Cx,Gh,c1,Cy,C9,CB,Dv,h1];by_cases h12:n.1=12
  ·simp only[DL h12,CB]
   have ha1:IntKind.wrap .i64 ((at_:Int)+1)=((at_+1:Nat):Int):=by rw[CO (by omega) (by omega)];omega
   rw[ha1];obtain⟨v,g1,g2,g3⟩:=VM k hk h d (by omega) n at_ h1 id nx hnx _ _ 0 k 0 h3 (by omega) (by omega) (by omega) (by omega);refine⟨v,g1,g2,?_⟩;rcases g3 with g|⟨q,q1,q2,q3,_⟩
   ·exact .inl g
   ·exact .inr ⟨q,q1,by omega,by omega⟩
  ·simp only[EF h12,Cx]
   exact⟨_,rfl,rfl,.inl rfl⟩
theorem text_eq(hk:2000≤k)(h:Ey l af)(at_:Nat)(hat:at_<l.length)(id:Int):
 ∃s b n,JD k l (at_:Int) id=some (s,b)∧Kr k (at_:Int) id 8 (true,tB l) af=some ((n,b),(tB l,af))∧n.2.2.2.1=s∧s.size≤300:=by
 obtain⟨v,g1,g2,g3⟩:=find_eq k hk h at_ hat id;unfold JD Kr;simp only[g1,g2,Cy];rcases g3 with rfl|⟨q,rfl,q1,q2⟩
 ·simp only[show decide ((-1:Int)<0)=true from rfl,Cx,Cy]
  exact⟨_,_,_,rfl,rfl,rfl,by decide⟩
 ·obtain⟨d,nx,hd,hs,hnx⟩:=h.at q2
  obtain⟨n,n1,n2,n3⟩:=I4 hs;simp only[CK (show ¬(q:Int)<0 by omega),CB,Dv,n1,Cy];by_cases h8:n.1=8
  ·simp only[DL h8,CB]
   refine⟨_,_,_,rfl,rfl,rfl,?_⟩;unfold FQ at n2;rw[h8] at n2;simp only[reduceIte,if_neg (show ¬((8:Int)=5) by decide),if_neg (show ¬((8:Int)=6) by decide),Dn,beq_iff_eq,DN] at n2;omega
  ·simp only[EF h8,Cx]
   exact⟨_,_,_,rfl,rfl,rfl,by decide⟩
theorem num_eq(hk:2000≤k)(h:Ey l af)(at_:Nat)(hat:at_<l.length)(id:Int):
 ∃v b,FW k l (at_:Int) id=some (v,b)∧IG k (at_:Int) id (true,tB l) af=some ((v,b),(tB l,af))∧CY v∧(∃w,DT k l (at_:Int) id=some w∧(b=true→0≤w)):=by
 obtain⟨v,g1,g2,g3⟩:=find_eq k hk h at_ hat id;unfold FW IG;simp only[g1,g2,Cy];have z:CY 0:=⟨by omega,by omega⟩;rcases g3 with rfl|⟨q,rfl,q1,q2⟩
 ·simp only[show decide ((-1:Int)<0)=true from rfl,Cx,Cy]
  exact⟨_,_,rfl,rfl,z,-1,rfl,fun h=>by cases h⟩
 ·obtain⟨d,nx,hd,hs,hnx⟩:=h.at q2
  obtain⟨n,n1,n2,n3⟩:=I4 hs;have hw:=h.wf n (List.mem_of_getElem? n1);simp only[CK (show ¬(q:Int)<0 by omega),CB,Dv,n1,Cy,E8];by_cases hb:(n.1 !=5&&n.1 !=6)=true
  ·simp only[hb,Cx]
   exact⟨_,_,rfl,rfl,z,q,rfl,fun h=>by cases h⟩
  ·simp only[Bool.eq_false_iff.2 hb,CB]
   exact⟨_,_,rfl,rfl,hw.2.2.1,q,rfl,fun _=>by omega⟩
theorem M0(hk:2000≤k)(h:Ey l af)(at_:Nat)(hat:at_<l.length)(root:Bool):
 ∃x x' b,ET k l (at_:Int) root=some (x',b)∧Ga k (at_:Int) root (true,tB l) af=some ((x,b),(tB l,af))∧(b=true→x=x')∧x'.1.size≤300∧CY x'.2.2.2.1:=by
 obtain⟨s4,b4,n4,t1,t2,t3,t4⟩:=text_eq k hk h at_ hat 4;obtain⟨v1,b1,u1,u2,u3,w1,u4,u5⟩:=num_eq k hk h at_ hat 1;obtain⟨v3,b3,y1,y2,y3,w3,y4,y5⟩:=num_eq k hk h at_ hat 3;obtain⟨v5,b5,z1,z2,z3,w5,z4,z5⟩:=num_eq k hk h at_ hat 5;obtain⟨f1,a1,a2,a3⟩:=find_eq k hk h at_ hat 1;obtain⟨f5,e1,e2,e3⟩:=find_eq k hk h at_ hat 5;obtain rfl:f1=w1:=by rw[a1] at u4;exact Option.some.inj u4
 obtain rfl:f5=w5:=by rw[e1] at z4;exact Option.some.inj z4
 have z:CY 0:=⟨by omega,by omega⟩
 have fin:∀(Ct NP:Cv) (rep:Int) (has:Bool),∃x x' b,ET.c9 k l (at_:Int) b4 b1 v5 b5 has Ct (s4,v1,rep,0,())=some (x',b)∧
  Ga.c8 k (at_:Int) b4 has b1 v5 b5 (tB l) af NP (s4,v1,rep,0,())=some ((x,b),(tB l,af))∧(b=true→x=x')∧x'.1.size≤300∧CY x'.2.2.2.1:=by
  intro Ct NP rep has;unfold ET.c9 ET.c12 Ga.c8 Ga.c11;simp only[a1,e1,e2,a2,Cy,E8,cst];by_cases h5:f5≥0
  ·have Lp:decide (f5<0)=false:=CK (by omega)
   simp only[CP h5,Cx,Lp];cases b5 with
   |true=>
    cases b1 with
    |true=>
     have:¬f1<0:=by have:=u5 rfl;omega
     simp only[Cx,CB,C9,Cy,CK this];cases b4<;>cases has<;>exact⟨_,_,_,rfl,rfl,(fun h=>by cases h),t4,z⟩
    |false=>
     simp only[Cx,CB,Dt,Cy];cases b4<;>cases has<;>cases(decide (f1<0))<;>exact⟨_,_,_,rfl,rfl,fun _=>rfl,t4,z3⟩
   |false=>
    cases b1 with
    |true=>
     simp only[Cx,CB,C9,Cy];cases b4<;>cases has<;>exact⟨_,_,_,rfl,rfl,(fun h=>by cases h),t4,z⟩
    |false=>
     simp only[Cx,CB,Dt,Cy];cases b4<;>cases has<;>cases(decide (f1<0))<;>exact⟨_,_,_,rfl,rfl,(fun h=>by cases h),t4,z3⟩
  ·have Lp:decide (f5<0)=true:=CP (by omega)
   have hb5:b5=false:=by
    cases b5 with
    |false=>rfl
    |true=>have:=z5 rfl;omega
   subst hb5;simp only[CK h5,CB,Lp];cases b1 with
   |true=>
    simp only[Cx,CB,C9,Cy];cases b4<;>cases has<;>exact⟨_,_,_,rfl,rfl,fun _=>rfl,t4,z⟩
   |false=>
    simp only[Cx,CB,Dt,Cy];cases b4<;>cases has<;>exact⟨_,_,_,rfl,rfl,(fun h=>by cases h),t4,z3⟩
 unfold ET Ga;simp only[t1,t2,u1,u2,y1,y2,z1,z2,Cy,t3];cases root with
 |true=>simp only[Cx];exact fin _ _ 0 true
 |false=>simp only[CB];exact fin _ _ v3 b3
def F9(af:List Int):Nat→Nat→List Int
 |0,_=>[]
 |c+1,pos=>(pos:Int)::F9 af c ((af[pos]?).getD 0).toNat
theorem K8:∀(c pos:Nat),(F9 af c pos).length=c
 |0,_=>rfl
 |c+1,pos=>by simp[F9,K8 c]
theorem NR(hlen:l.length≤1500)(d:Nat)(n:Cu)(nx:Nat)(hnx:nx≤l.length):∀(c pos:Nat) (last:Int) (f:Nat) (M i:Int) (acc:List Int),F8 (Sub l af d) l n c pos last nx→c<f→M-i=c→0≤i→M≤2000→acc.length+c≤4000→
 Gn.l7 k f (pos:Int) M i (tB l) af acc=some (((),true),(tB l,af,acc++F9 af c pos)):=by
 intro c
 induction c with
 |zero=>
  intro pos last f M i acc hp hf hi hi0 hi2 ha;obtain⟨f,rfl⟩:∃j,f=j+1:=⟨f-1,by omega⟩;simp only[Gn.l7,CK (show ¬i<M by omega),CB,F9,DY]
 |succ c qW=>
  intro pos last f M i acc ⟨p,mid,hp1,_,_,hs,hp⟩ hf hi hi0 hi2 ha;obtain⟨f,rfl⟩:∃j,f=j+1:=⟨f-1,by omega⟩;have hc:=GK (EN d) _ _ _ _ hp;have hlt:=EN _ _ _ hs;obtain⟨_,_,_,EO⟩:=I4 hs;simp only[Gn.l7,CP (show i<M by omega),Cx,Dv,EO,Cy];rw[Da (by simp;omega),Cx,CO (by omega) (by omega)];rw[qW mid _ f M (i+1) _ hp (by omega) (by omega) (by omega) (by omega) (by simp;omega)];simp[F9,EO]
def Small(k:Nat)(c:Cv):Prop:=c.1.size<k∧c.1.size<1000000000∧CY c.2.2.2.1
theorem XU{s:List Cv}(h:Fj s):∀c,c∈s→Ee c=true:=by
 intro c hc;obtain⟨i,hi,rfl⟩:=List.mem_iff_getElem.1 hc;obtain⟨c',h1,h2,_⟩:=J6 6 0 s.length h.2.2.1 i (Nat.zero_le _) hi;rw[Es hi] at h1;rw[Option.some.inj h1];exact h2
theorem X_(hk:2000≤k)(h:Ey l af)(d:Nat)(hd:d≤12)(n:Cu)(q:Nat)(hn:l[q]?=some n)(nx:Nat)(hnx:nx≤l.length):∀(c pos:Nat) (last:Int) (f:Nat) (i:Int) (out:List Cv),F8 (Sub l af d) l n c pos last nx→c<f→n.2.2.2.2.1-i=c→0≤i→n.2.2.2.2.1≤2000→
 (∀x,x∈out→Small k x)→(∃x,x∈out∧Ee x=false)→out.length+c≤4000→FH.l8 k f l (q:Int) (pos:Int) i [] out=some (((),false),[]):=by
 intro c
 induction c with
 |zero=>
  intro pos last f i out hp hf hi hi0 hi2 hsm ⟨x,hx1,hx2⟩ ho;obtain⟨f,rfl⟩:∃j,f=j+1:=⟨f-1,by omega⟩;obtain⟨b,g1,_,g3⟩:=KF k (by omega) out hsm;have hb:b=false:=by
   cases b with
   |false=>rfl
   |true=>
    have:=XU (g3 rfl).1 x hx1;rw[hx2] at this;cases this
  subst hb;simp only[FH.l8,Dv,hn,Cy,CK (show ¬i<n.2.2.2.2.1 by omega),CB,g1,Dt,Cx]
 |succ c qW=>
  intro pos last f i out ⟨p,mid,hp1,_,_,hs,hp⟩ hf hi hi0 hi2 hsm hbad ho;obtain⟨f,rfl⟩:∃j,f=j+1:=⟨f-1,by omega⟩;have hc:=GK (EN d) _ _ _ _ hp;have hlt:=EN _ _ _ hs;obtain⟨x,x',b,g1,g2,g3,g4,g5⟩:=M0 k hk h pos (by omega) (i==0);simp only[FH.l8,Dv,hn,Cy,CP (show i<n.2.2.2.2.1 by omega),Cx,g1];cases b with
  |false=>simp only[Dt,Cx]
  |true=>
   simp only[C9,CB];rw[Da (by simp;omega),Cx];simp only[h.after k hk hd hs (by omega),Cy];rw[CO (by omega) (by omega)];obtain⟨y,hy1,hy2⟩:=hbad;refine qW mid _ f (i+1) _ hp (by omega) (by omega) (by omega) (by omega) (fun z hz=> ?_) ⟨y,List.mem_append.2 (.inl hy1),hy2⟩ (by simp;omega);rcases List.mem_append.1 hz with hz|hz
   ·exact hsm z hz
   ·simp at hz;subst hz;exact⟨by omega,by omega,g5⟩
def Mx(k:Nat)(r:List Cv):Prop:=Fj r∧EB k r=some true∧EZ k r=some true∧∀c,c∈r→Small k c
theorem XR(hk:2000≤k)(h:Ey l af)(d:Nat)(hd:d≤12)(n:Cu)(q:Nat)(hn:l[q]?=some n)(nx:Nat)(hnx:nx≤l.length)(places:List Int):∀(c pos:Nat) (last:Int) (f f' j:Nat) (out:List Cv),F8 (Sub l af d) l n c pos last nx→c<f→c<f'→n.2.2.2.2.1-j=c→n.2.2.2.2.1≤2000→
 places.drop j=F9 af c pos→(places.length:Int)=n.2.2.2.2.1→(∀x,x∈out→Small k x)→out.length+c≤4000→
 ∃b r,FH.l8 k f l (q:Int) (pos:Int) (j:Int) [] out=some (((),b),r)∧G6.l6 k f' (places.length:Int) (j:Int) (tB l) af out places=some (((),b),(tB l,af,r))∧(b=true→Mx k r)∧(b=false→r=[]):=by
 intro c
 induction c with
 |zero=>
  intro pos last f f' j out hp hf hf' hi hi2 hpl JQ hsm ho;obtain⟨f,rfl⟩:∃j,f=j+1:=⟨f-1,by omega⟩;obtain⟨f',rfl⟩:∃j,f'=j+1:=⟨f'-1,by omega⟩;obtain⟨b,g1,g2,g3⟩:=KF k (by omega) out hsm;simp only[FH.l8,G6.l6,Dv,hn,Cy,JQ,CK (show ¬(j:Int)<n.2.2.2.2.1 by omega),CB,g1,g2];cases b with
  |false=>exact⟨_,_,rfl,rfl,fun h=>(by cases h),fun _=>rfl⟩
  |true=>exact⟨_,_,rfl,rfl,fun _=>⟨(g3 rfl).1,g1,g2,hsm⟩,fun h=>(by cases h)⟩
 |succ c qW=>
  intro pos last f f' j out ⟨p,mid,hp1,_,_,hs,hp⟩ hf hf' hi hi2 hpl JQ hsm ho;obtain⟨f,rfl⟩:∃j,f=j+1:=⟨f-1,by omega⟩;obtain⟨f',rfl⟩:∃j,f'=j+1:=⟨f'-1,by omega⟩;have hc:=GK (EN d) _ _ _ _ hp;have hlt:=EN _ _ _ hs;obtain⟨_,_,_,EO⟩:=I4 hs;have hch:F9 af (c+1) pos=(pos:Int)::F9 af c mid:=by simp[F9,EO]
  rw[hch] at hpl;obtain⟨d1,d2,d3⟩:=Pv hpl;obtain⟨x,x',b,g1,g2,g3,g4,g5⟩:=M0 k hk h pos (by omega) ((j:Int)==0);simp only[FH.l8,G6.l6,Dv,hn,d1,Cy,JQ,CP (show(j:Int)<n.2.2.2.2.1 by omega),Cx,g1,g2,E8,cst];cases b with
  |false=>
   simp only[Dt,Cx,Gr];exact⟨_,_,rfl,rfl,fun h=>(by cases h),fun _=>rfl⟩
  |true=>
   obtain rfl:=g3 rfl;simp only[C9,CB,E5];rw[Da (show out.length+[x].length≤4294967296 by simp;omega),Cx];simp only[h.after k hk hd hs (by omega),Cy];rw[CO (by omega) (by omega),show((j:Int)+1)=((j+1:Nat):Int) by omega];have NA:∀z,z∈out++[x]→Small k z:=fun z hz=>by
    rcases List.mem_append.1 hz with hz|hz
    ·exact hsm z hz
    ·simp at hz;subst hz;exact⟨by omega,by omega,g5⟩
   by_cases hbad:(decide ((j:Int)>0)&&x.2.2.2.1==0&&x.2.1==7)=true
   ·simp only[hbad,Cx]
    have hb:x.2.2.2.1=0∧x.2.1=7:=by
     simp only[Dn,beq_iff_eq] at hbad;exact⟨hbad.1.2,hbad.2⟩
    rw[X_ k hk h d hd n q hn nx hnx c mid _ f _ _ hp (by omega) (by omega) (by omega) (by omega) NA ⟨x,by simp,by unfold Ee;rw[hb.1,hb.2];rfl⟩ (by simp;omega)];exact⟨_,_,rfl,rfl,fun h=>(by cases h),fun _=>rfl⟩
   ·simp only[Bool.eq_false_iff.2 hbad,CB]
    have:=qW mid _ f f' (j+1) (out++[x]) hp (by omega) (by omega) (by omega) (by omega) d3 JQ NA (by simp;omega);rw[JQ] at this;exact this
theorem of_eq(hk:2000≤k)(h:Ey l af)(at_:Nat)(hat:at_<l.length):
 ∃b r,FH k l (at_:Int) 2=some (((),b),r)∧G6 k (at_:Int) (true,tB l) af=some (((),b),(tB l,af,r))∧(b=true→Mx k r)∧(b=false→r=[]):=by
 obtain⟨v,g1,g2,g3⟩:=find_eq k hk h at_ hat 2;unfold FH G6 Gn;simp only[g1,g2,Cy];rcases g3 with rfl|⟨q,rfl,q1,q2⟩
 ·simp only[show decide ((-1:Int)<0)=true from rfl,Cx,Cy,Dt]
  exact⟨_,_,rfl,rfl,fun h=>(by cases h),fun _=>rfl⟩
 ·obtain⟨d,nx,hd,hs,hnx⟩:=h.at q2
  cases d with
  |zero=>exact hs.elim
  |succ d=>
   obtain⟨n,h1,h2,h3,h4⟩:=hs;have hm0:=Ky h2;have hlen:=h.len;have hc:=GK (EN d) _ _ _ _ h3;simp only[CK (show ¬(q:Int)<0 by omega),CB,Dv,h1,Cy];by_cases h9:n.1=9
   ·simp only[DL h9,CB,Cy,E8]
    have Lr:(n.2.2.2.2.1=0∧n.2.2.1=0)∨0<n.2.2.2.2.1:=by
     unfold FQ at h2;rw[h9] at h2;simp only[reduceIte,if_neg (show ¬((9:Int)=5) by decide),if_neg (show ¬((9:Int)=6) by decide),if_neg (show ¬((9:Int)=8) by decide),Dn,Bool.or_eq_true,beq_iff_eq,DN] at h2;exact h2.2.imp id fun h=>h.1
    have ha1:IntKind.wrap .i64 ((q:Int)+1)=((q+1:Nat):Int):=by rw[CO (by omega) (by omega)];omega
    by_cases h12:n.2.2.1=12
    ·simp only[DL h12,CB,Bool.and_false,ha1]
     rw[NR k hlen d n nx hnx _ _ 0 k _ 0 [] h3 (by omega) (by omega) (by omega) (by omega) (by simp;omega)];simp only[Cy,C9,CB,List.nil_append];exact XR k hk h d (by omega) n q h1 nx hnx (F9 af n.2.2.2.2.1.toNat (q+1)) _ _ 0 k k 0 [] h3 (by omega) (by omega) (by omega) (by omega) rfl (by rw[K8];omega) (fun x hx=>(List.not_mem_nil hx).elim) (by simp;omega)
    ·simp only[EF h12,Cx,Bool.and_true]
     rcases Lr with⟨hz,_⟩|hpos
     ·obtain⟨K,rfl⟩:∃j,k=j+1:=⟨k-1,by omega⟩
      have hso:EZ (K+1) []=some false:=rfl;rw[hz];simp only[show decide ((0:Int)>0)=false from rfl,CB,Gn.l7,show decide ((0:Int)<0)=false from rfl,Cy,C9,List.length_nil,G6.l6,show decide ((((0:Nat):Int))>(((0:Nat):Int)))=false from rfl];refine⟨_,_,rfl,?_,fun h=>(by cases h),fun _=>rfl⟩;simp only[show decide ((0:Int)<((0:Nat):Int))=false from rfl,CB,hso,Cy,Dt,Cx]
     ·simp only[CP (show n.2.2.2.2.1>0 from hpos),Cx,Dt]
      exact⟨_,_,rfl,rfl,fun h=>(by cases h),fun _=>rfl⟩
   ·simp only[EF h9,Cx,Cy,Dt]
    exact⟨_,_,rfl,rfl,fun h=>(by cases h),fun _=>rfl⟩
end
end Go.C7
end
section
namespace Go.C7
open Go.Am Go.Fn
def fV(k:Nat)(l:List Cu)(a id:Int):Int:=(DT k l a id).getD (-1)
def nV(k:Nat)(l:List Cu)(a id:Int):Int×Bool:=(FW k l a id).getD (0,false)
def pV(k:Nat)(l:List Cu)(a id kind:Int):Bool×List Int:=((Fg k l a id kind).map fun r=>(r.1.2,r.2)).getD (false,[])
section
variable(k:Nat)(hk:2000≤k){l:List Cu}{af:List Int}(h:Ey l af)
include hk h
theorem Jq(a:Nat)(ha:a<l.length)(id:Int):DT k l (a:Int) id=some (fV k l a id)∧FO k (a:Int) id (true,tB l) af=some (fV k l a id,(tB l,af))∧(fV k l a id= -1∨∃q:Nat,fV k l a id=q∧a<q∧q<l.length):=by
 obtain⟨v,h1,h2,h3⟩:=find_eq k hk h a ha id;have:fV k l a id=v:=by unfold fV;rw[h1];rfl
 rw[this];exact⟨h1,h2,h3⟩
theorem Jz(a:Nat)(ha:a<l.length)(id:Int):FW k l (a:Int) id=some (nV k l a id)∧IG k (a:Int) id (true,tB l) af=some (nV k l a id,(tB l,af))∧CY (nV k l a id).1∧((nV k l a id).2=true→0≤fV k l a id):=by
 obtain⟨v,b,h1,h2,h3,w,h4,h5⟩:=num_eq k hk h a ha id;have e:nV k l a id=(v,b):=by unfold nV;rw[h1];rfl
 have e2:fV k l a id=w:=by unfold fV;rw[h4];rfl
 rw[e,e2];exact⟨h1,h2,h3,h5⟩
theorem OJ(d:Nat)(n:Cu):∀(c pos:Nat) (last:Int) (nx:Nat),F8 (Sub l af d) l n c pos last nx→nx≤l.length→∀p,p∈F9 af c pos→0≤p∧p<(l.length:Int):=by
 intro c
 induction c with
 |zero=>intro pos last nx _ _ p hp;cases hp
 |succ c ih=>
  intro pos last nx ⟨q,mid,hq,_,_,hs,hp⟩ hnx p hpm;obtain⟨_,_,_,EO⟩:=I4 hs;have hlt:=EN _ _ _ hs;have hc:=GK (EN d) _ _ _ _ hp;simp only[F9,EO,Option.getD_some,Int.toNat_natCast,List.mem_cons] at hpm;rcases hpm with rfl|hpm
  ·omega
  ·exact ih mid _ nx hp hnx p hpm
theorem X7(d:Nat)(hd:d≤12)(n:Cu)(q:Nat)(hn:l[q]?=some n)(nx:Nat)(hnx:nx≤l.length):∀(c pos:Nat) (last:Int) (f:Nat) (i:Int) (acc:List Int),F8 (Sub l af d) l n c pos last nx→c<f→n.2.2.2.2.1-i=c→0≤i→n.2.2.2.2.1≤2000→acc.length+c≤4000→
 Fg.l7 k f l (q:Int) (pos:Int) i acc=some (((),true),acc++F9 af c pos):=by
 intro c
 induction c with
 |zero=>
  intro pos last f i acc hp hf hi hi0 hi2 ha;obtain⟨f,rfl⟩:∃j,f=j+1:=⟨f-1,by omega⟩;simp only[Fg.l7,Dv,hn,Cy,CK (show ¬i<n.2.2.2.2.1 by omega),CB,F9,DY]
 |succ c qW=>
  intro pos last f i acc ⟨p,mid,hp1,_,_,hs,hp⟩ hf hi hi0 hi2 ha;obtain⟨f,rfl⟩:∃j,f=j+1:=⟨f-1,by omega⟩;have hc:=GK (EN d) _ _ _ _ hp;have hlt:=EN _ _ _ hs;obtain⟨_,_,_,EO⟩:=I4 hs;simp only[Fg.l7,Dv,hn,Cy,CP (show i<n.2.2.2.2.1 by omega),Cx];rw[Da (by simp;omega),Cx];simp only[h.after k hk hd hs (by omega),Cy];rw[CO (by omega) (by omega),qW mid _ f (i+1) _ hp (by omega) (by omega) (by omega) (by omega) (by simp;omega)];simp[F9,EO]
theorem HY(a:Nat)(ha:a<l.length)(id kind:Int):Fg k l (a:Int) id kind=some (((),(pV k l a id kind).1),(pV k l a id kind).2)∧Gn k (a:Int) id kind (true,tB l) af=some (((),(pV k l a id kind).1),(tB l,af,(pV k l a id kind).2))∧(pV k l a id kind).2.length≤1500∧(∀p,p∈(pV k l a id kind).2→0≤p∧p<(l.length:Int)):=by
 obtain⟨g1,g2,g3⟩:=Jq k hk h a ha id;have key:∃b ps,Fg k l (a:Int) id kind=some (((),b),ps)∧Gn k (a:Int) id kind (true,tB l) af=some (((),b),(tB l,af,ps))∧ps.length≤1500∧(∀p,p∈ps→0≤p∧p<(l.length:Int)):=by
  have LK:∀p:Int,p∈([]:List Int)→0≤p∧p<(l.length:Int):=fun p hp=>by cases hp
  unfold Fg Gn;simp only[g1,g2,Cy];rcases g3 with g3|⟨q,g3,q1,q2⟩
  ·simp only[g3,show decide ((-1:Int)<0)=true from rfl,Cx,Cy]
   exact⟨_,_,rfl,rfl,by simp,LK⟩
  ·rw[g3]
   obtain⟨d,nx,hd,hs,hnx⟩:=h.at q2;have hlen:=h.len;cases d with
   |zero=>exact hs.elim
   |succ d=>
    obtain⟨n,h1,h2,h3,h4⟩:=hs;have hm0:=Ky h2;have hc:=GK (EN d) _ _ _ _ h3;have ha1:IntKind.wrap .i64 ((q:Int)+1)=((q+1:Nat):Int):=by rw[CO (by omega) (by omega)];omega
    simp only[CK (show ¬(q:Int)<0 by omega),CB,Dv,h1,Cy,E8,cst,ha1];cases((n.1 !=9)||(decide (n.2.2.2.2.1>0)&&(n.2.2.1 !=kind))) with
    |true=>
     simp only[Cx];exact⟨_,_,rfl,rfl,by simp,LK⟩
    |false=>
     simp only[CB];rw[NR k hlen d n nx hnx _ _ 0 k _ 0 [] h3 (by omega) (by omega) (by omega) (by omega) (by simp;omega),X7 k hk h d (by omega) n q h1 nx hnx _ _ 0 k 0 [] h3 (by omega) (by omega) (by omega) (by omega) (by simp;omega)];refine⟨_,_,rfl,rfl,?_,?_⟩
     ·rw[List.nil_append,K8];omega
     ·rw[List.nil_append]
      exact OJ k hk h d n _ _ _ nx h3 hnx
 obtain⟨b,ps,e1,e2,e3,e4⟩:=key;have e:pV k l a id kind=(b,ps):=by unfold pV;rw[e1];rfl
 rw[e];exact⟨e1,e2,e3,e4⟩
end
abbrev mR(b:Bool):D6:=((),b,())
section
variable(k:Nat)(hk:2000≤k){l:List Cu}{af:List Int}(h:Ey l af)
include hk h
theorem Jy(a:Nat)(ha:a<l.length)(id:Int)(b:Bool):FN k (a:Int) id (mR b) (tB l) af=some ((nV k l a id).1,(mR (b|| !(nV k l a id).2),tB l,af)):=by
 obtain⟨_,g,_⟩:=Jz k hk h a ha id;unfold FN FN.c4;simp only[g,Cy];cases(nV k l a id).2<;>cases b<;>rfl
theorem Kw(a:Nat)(ha:a<l.length)(id kind:Int)(b:Bool):GV k (a:Int) id kind (mR b) (tB l) af=some ((),(mR (b|| !(pV k l a id kind).1),tB l,af,(pV k l a id kind).2)):=by
 obtain⟨_,g,_⟩:=HY k hk h a ha id kind;unfold GV GV.c4;simp only[g,Cy];cases(pV k l a id kind).1<;>cases b<;>rfl
end
end Go.C7
end
section
namespace Go.C7
open Go.Am Go.Fn
variable(k:Nat)
theorem K4{S:Nat→Nat→Prop}{s:List Cv}(hS:∀a b,S a b→a<b):∀(c pos:Nat) (names:List ByteArray) (nx:Nat),GJ S s c pos names nx→pos≤nx
 |c,pos,names,nx,h=>by have:=I1 hS c pos names nx h;omega
section
variable(s:List Cv)(hs:s.length≤20)(hn:∀c,c∈s→c.1.size<k∧c.1.size<1000000000∧CY c.2.2.2.1)
include hs hn
theorem OY(hk:100≤k)(d D deep:Nat)(GR:deep≤6)(M:Int)(hM:M<9223372036854775808)
 (ih:∀at_ nx:Nat,EE s d at_ nx→nx≤s.length→Dp.rec k D s (at_:Int) ((deep+1:Nat):Int)=some (nx:Int)):
 ∀(c f pos:Nat) (i:Int) (names:List ByteArray) (nx:Nat),GJ (EE s d) s c pos names nx→c<f→M-i=c→0≤i→nx≤s.length→names.length≤pos→
  Dp.l6 k (Dp.rec k D) f s (deep:Int) (pos:Int) M i names=some (nx:Int):=by
 intro c
 induction c with
 |zero=>
  intro f pos i names nx hp hf hi h0 hnx hnm;obtain⟨f,rfl⟩:∃m,f=m+1:=⟨f-1,by omega⟩;have hp:pos=nx:=hp;subst hp;simp only[Dp.l6,CK (show ¬i<M by omega),CB]
 |succ c qW=>
  intro f pos i names nx hp hf hi h0 hnx hnm;obtain⟨f,rfl⟩:∃m,f=m+1:=⟨f-1,by omega⟩;obtain⟨p,mid,p1,p2,p3,p4⟩:=hp;have hlt:=Gw _ _ _ p3;have hmn:=K4 (Gw d) _ _ _ _ p4;have hd1:IntKind.wrap .i64 ((deep:Int)+1)=((deep+1:Nat):Int):=by rw[CO (by omega) (by omega)];omega
  have hi1:IntKind.wrap .i64 (i+1)=i+1:=CO (by omega) (by omega);simp only[Dp.l6,CP (show i<M by omega),Cx,CK (show ¬(pos:Int)≥(s.length:Int) by omega),CB];rw[show(0:Int)=((0:Nat):Int) from rfl,NC k _ _ s _ pos M i _ p1 names (by omega) names.length k 0 (by omega) (by omega),List.drop_zero,if_neg p2,hd1,ih pos mid p3 (by omega)];simp only[Cy,CK (show ¬((mid:Int)<0) by omega),CB,hi1];exact qW f mid (i+1) (names++[p.1]) nx p4 (by omega) (by omega) (by omega) hnx (by simp;omega)
theorem OZ(hk:100≤k):∀(d D deep at_ nx:Nat),EE s d at_ nx→d+deep≤7→d<D→nx≤s.length→Dp.rec k D s (at_:Int) (deep:Int)=some (nx:Int):=by
 intro d
 induction d with
 |zero=>intro D deep at_ nx h;exact h.elim
 |succ d ih=>
  intro D deep at_ nx h hd hD hnx;obtain⟨D,rfl⟩:∃m,D=m+1:=⟨D-1,by omega⟩;have hlt:=Gw _ _ _ h;obtain⟨c,h1,h2,h3,h4⟩:=h;have hcm:c∈s:=List.mem_of_getElem? h1;obtain⟨n1,n2,n3⟩:=hn c hcm;have hle:=I1 (Gw d) _ _ _ _ h4;have ha1:IntKind.wrap .i64 ((at_:Int)+1)=((at_+1:Nat):Int):=by rw[CO (by omega) (by omega)];omega
  have hm0:0≤c.2.2.2.1:=by
   unfold Ee at h2;simp only[Dn,Bool.or_eq_true,beq_iff_eq,DN] at h2;omega
  have hname:(decide ((at_:Int)>0)&& !Hz c.1)=false:=by
   by_cases h0:0<at_
   ·rw[h3 h0];simp
   ·rw[CK (show ¬(at_:Int)>0 by omega)];rfl
  simp only[Dp.rec,Dp.b,cst,E8,CK (show ¬(at_:Int)≥(s.length:Int) by omega),CK (show ¬(deep:Int)>6 by omega),E5,Cy,CB,Dv,h1,MX,h2,C9,ND k c.1 n1 n2,hname,ha1];have:=OY k s hs hn hk d D deep (by omega) c.2.2.2.1 n3.2 (fun a b hab hb=>ih D (deep+1) a b hab (by omega) (by omega) hb) c.2.2.2.1.toNat k (at_+1) 0 [] nx h4 (by omega) (by omega) (by omega) hnx (by simp);exact this
theorem O0(hk:100≤k){d at_ nx:Nat}(h:EE s d at_ nx)(hd:d≤6)(hnx:nx≤s.length):Dp k s (at_:Int) 1=some (nx:Int):=
 OZ k s hs hn hk d k 1 at_ nx h (by omega) (by omega) hnx
theorem WJ(hk:100≤k):∀(d D at_ nx:Nat),EE s d at_ nx→d<D→nx≤s.length→ES.rec k D s (at_:Int)=some (nx:Int):=by
 intro d
 induction d with
 |zero=>intro D at_ nx h;exact h.elim
 |succ d ih=>
  intro D at_ nx h hD hnx;obtain⟨D,rfl⟩:∃m,D=m+1:=⟨D-1,by omega⟩;have hlt:=Gw _ _ _ h;obtain⟨c,h1,h2,h3,h4⟩:=h;obtain⟨n1,n2,n3⟩:=hn c (List.mem_of_getElem? h1);have hle:=I1 (Gw d) _ _ _ _ h4;have ha1:IntKind.wrap .i64 ((at_:Int)+1)=((at_+1:Nat):Int):=by rw[CO (by omega) (by omega)];omega
  have hm0:0≤c.2.2.2.1:=by
   unfold Ee at h2;simp only[Dn,Bool.or_eq_true,beq_iff_eq,DN] at h2;omega
  have key:∀(m f pos:Nat) (i:Int) (names:List ByteArray),GJ (EE s d) s m pos names nx→m<f→c.2.2.2.1-i=m→0≤i→ES.l3 k (ES.rec k D) f s (at_:Int) (pos:Int) i=some (nx:Int):=by
   intro m
   induction m with
   |zero=>
    intro f pos i names hp hf hi h0;obtain⟨f,rfl⟩:∃m,f=m+1:=⟨f-1,by omega⟩;have hp:pos=nx:=hp;subst hp;simp only[ES.l3,Dv,h1,Cy,CK (show ¬i<c.2.2.2.1 by omega),CB]
   |succ m I9=>
    intro f pos i names hp hf hi h0;obtain⟨f,rfl⟩:∃m,f=m+1:=⟨f-1,by omega⟩;obtain⟨p,mid,p1,p2,p3,p4⟩:=hp;have hmn:=K4 (Gw d) _ _ _ _ p4;have hi1:IntKind.wrap .i64 (i+1)=i+1:=CO (by omega) (by obtain⟨_,q⟩:=n3;omega);simp only[ES.l3,Dv,h1,Cy,CP (show i<c.2.2.2.1 by omega),Cx,ih D pos mid p3 (by omega) (by omega),hi1];exact I9 f mid (i+1) _ p4 (by omega) (by omega) (by omega)
  simp only[ES.rec,ES.b,ha1];exact key c.2.2.2.1.toNat k (at_+1) 0 [] h4 (by omega) (by omega) (by omega)
theorem WK(hk:100≤k){d at_ nx:Nat}(h:EE s d at_ nx)(hd:d≤6)(hnx:nx≤s.length):ES k s (at_:Int)=some (nx:Int):=
 WJ k s hs hn hk d k at_ nx h (by omega) hnx
end
def Dk:Nat→List Cv→List Int
 |_,[]=>[]
 |i,c::r=>if c.2.1=7 then Dk (i+1) r else(i:Int)::Dk (i+1) r
theorem Gq:∀(i:Nat) (s:List Cv),(Dk i s).length≤s.length
 |_,[]=>Nat.le_refl _
 |i,c::r=>by
  have:=Gq (i+1) r;simp only[Dk];split<;>simp<;>omega
theorem WS(s:List Cv)(hs:s.length≤1000):∀(post pre:List Cv) (n:Nat) (o:List Int),s=pre++post→post.length<n→o.length≤pre.length→
 FM.l3 k n s (s.length:Int) (pre.length:Int) o=some ((),o++Dk pre.length post)∧ED.l3 k n s (pre.length:Int) o=some ((),o++Dk pre.length post):=by
 intro post
 induction post with
 |nil=>
  intro pre n o hsp hn ho;obtain⟨n,rfl⟩:∃j,n=j+1:=⟨n-1,by omega⟩;have:s=pre:=by simpa using hsp
  subst this;simp only[FM.l3,ED.l3,CK (show ¬(s.length:Int)<(s.length:Int) by omega),CB];simp[Dk]
 |cons x post ih=>
  intro pre n o hsp hn ho;simp only[D9] at hn;obtain⟨n,rfl⟩:∃j,n=j+1:=⟨n-1,by omega⟩;have hlen:s.length=pre.length+(post.length+1):=by rw[hsp];simp
  have hg:h_ s (pre.length:Int)=some x:=by rw[hsp];exact Gx _ _ _
  have hi1:IntKind.wrap .i64 ((pre.length:Int)+1)=((pre.length+1:Nat):Int):=by rw[CO (by omega) (by omega)];omega
  simp only[FM.l3,ED.l3,CP (show(pre.length:Int)<(s.length:Int) by omega),Cx,hg,Cy,FM.c7,ED.c4,hi1,Dk];by_cases h7:x.2.1=7
  ·have hi:=ih (pre++[x]) n o (by rw[hsp];simp) (by omega) (by simp;omega)
   rw[Dq,DZ] at hi;rw[DL h7,CB,CB,if_pos h7];exact hi
  ·have hi:=ih (pre++[x]) n (o++[(pre.length:Int)]) (by rw[hsp];simp) (by omega) (by simp;omega)
   rw[Dq,DZ,GA,List.singleton_append] at hi;rw[EF h7,Cx,Cx,if_neg h7,Da (by simp;omega),Cx,Cx];exact hi
theorem Hw(hk:2000≤k)(s:List Cv)(hs:s.length≤1000):FM k s=some ((),Dk 0 s)∧ED k s=some ((),Dk 0 s):=by
 have:=WS k s hs s [] k [] rfl (by omega) (by simp);exact this
end Go.C7
end
section
namespace Go.C7
open Go.Am Go.Fn
variable(k:Nat)
def Og(t:Int)(v:De):Bool:=
 if t=0 then(decide (0≤v.1)&&decide (v.1≤1))&&iI v.2.1 ⟨#[]⟩
 else if t=1 then(decide (-2147483648≤v.1)&&decide (v.1≤2147483647))&&iI v.2.1 ⟨#[]⟩
 else if t=2∨t=5 then iI v.2.1 ⟨#[]⟩
 else if t=6 then v.1==0&&decide ((v.2.1.size:Int)≤40)
 else false
end Go.C7
end
section
namespace Go.C7
open Go.Am Go.Fn
structure Ev where
 at_:Nat
 leaf:Bool
 rep:Int
 DD:Int
 v:De
def zv:De:=(0,⟨#[]⟩,())
def JK(v:De)(most:Int):Bool:= !iI v.2.1 ⟨#[]⟩|| !(decide (0≤v.1)&&decide (v.1≤most))
theorem MS{v:De}{most:Int}(h:JK v most=false):0≤v.1∧v.1≤most:=by
 unfold JK at h;simp only[Bool.or_eq_false_iff,Bool.not_eq_false',Dn,DN] at h;exact h.2
abbrev Ei:=Option (List Ev×List De)
def Hq(a:Ei)(f:List De→Ei):Ei:=
 match a with
 |none=>none
 |some (x,V)=>match f V with
  |none=>none
  |some (y,W)=>some (x++y,W)
def gT(F:Nat→List De→Ei)(e:Nat→Nat):Nat→Nat→List De→Ei
 |0,_,V=>some ([],V)
 |m+1,a,V=>Hq (F a V) (gT F e m (e a))
def Jo(F:List De→Ei):Nat→List De→Ei
 |0,V=>some ([],V)
 |m+1,V=>Hq (F V) (Jo F m)
def iter(f:Nat→Nat):Nat→Nat→Nat
 |0,a=>a
 |n+1,a=>iter f n (f a)
def I5(s:List Cv):Nat→Nat→Nat
 |0,a=>a
 |d+1,a=>match s[a]? with
  |none=>a+1
  |some c=>iter (I5 s d) c.2.2.2.1.toNat (a+1)
theorem M7{s:List Cv}{S:Nat→Nat→Prop}{e:Nat→Nat}(h:∀a b,S a b→e a=b):∀(m a:Nat) (names:List ByteArray) (nx:Nat),GJ S s m a names nx→iter e m a=nx
 |0,a,_,nx,hp=>hp
 |m+1,a,names,nx,⟨p,mid,_,_,h3,h4⟩=>by
  show iter e m (e a)=nx;rw[h a mid h3];exact M7 h m mid _ nx h4
theorem M6{s:List Cv}:∀(d:Nat) {a b:Nat},EE s d a b→∀d',d≤d'→I5 s d' a=b
 |0,_,_,h,_,_=>h.elim
 |d+1,a,b,⟨c,h1,_,_,h2⟩,d',hd=>by
  obtain⟨d',rfl⟩:∃q,d'=q+1:=⟨d'-1,by omega⟩;simp only[I5,h1];exact M7 (S:=EE s d) (fun x y hxy=>M6 d hxy d' (by omega)) _ _ _ _ h2
def G8(s:List Cv)(rep DD:Int):Nat→Nat→List Ev
 |0,_=>[]
 |n+1,i=>(match s[i]? with
  |none=>[]
  |some c=>if c.2.1=7 then[] else[⟨i,false,rep,DD,zv⟩])++G8 s rep DD n (i+1)
def I6(s:List Cv)(C:Int→Int→Int→List De→Ei)(e a:Nat)(rep DD deep:Int)(V:List De):Ei:=
 match s[a]? with
 |none=>none
 |some c=>
  if c.2.2.1=0 then C rep DD deep V
  else match V with
   |[]=>none
   |v::V=>
    if c.2.2.1=2 then
     if JK v 20=true then none
     else if v.1=0 then some (G8 s rep DD (e-a) a,V)
     else Hq (C rep (DD+1) (deep+1) V) (Jo (C (deep+1) (DD+1) (deep+1)) (v.1.toNat-1))
    else
     if JK v 1=true then none
     else if v.1=0 then some (G8 s rep DD (e-a) a,V)
     else C rep (DD+1) deep V
def Jn(s:List Cv):Nat→Nat→Int→Int→Int→List De→Ei
 |0,_,_,_,_,_=>none
 |d+1,a,rep,DD,deep,V=>match s[a]? with
  |none=>none
  |some c=>
   if c.2.1=7 then gT (fun a V=>I6 s (Jn s d a) (I5 s d a) a rep DD deep V) (I5 s d) c.2.2.2.1.toNat (a+1) V
   else match V with
    |[]=>none
    |v::V=>if Og c.2.1 v=true then some ([⟨a,true,rep,DD,v⟩],V) else none
def EM(V:List De)(r:Ei):Prop:=∀X W,r=some (X,W)→W.length≤V.length∧X.length+20*W.length≤20*V.length∧W=V.drop (V.length-W.length)
theorem M_{a:Ei}{f:List De→Ei}{X:List Ev}{W:List De}(h:Hq a f=some (X,W)):∃x y V,a=some (x,V)∧f V=some (y,W)∧X=x++y:=by
 unfold Hq at h;split at h
 ·cases h
 ·rename_i x V
  split at h
  ·cases h
  ·rename_i y W' hf
   simp only[HZ,Prod.mk.injEq] at h;obtain⟨rfl,rfl⟩:=h;exact⟨x,y,V,rfl,hf,rfl⟩
theorem EM.pair{V:List De}{a:Ei}{f:List De→Ei}(h:EM V a)(k:∀W,EM W (f W)):EM V (Hq a f):=by
 intro X W hr;obtain⟨x,y,U,h1,h2,rfl⟩:=M_ hr;obtain⟨a1,a2,a3⟩:=h _ _ h1;obtain⟨b1,b2,b3⟩:=k U _ _ h2;refine⟨by omega,by simp;omega,?_⟩;rw[b3,a3,List.drop_drop]
 congr 1
 simp only[List.length_drop];omega
theorem EM.nil(V:List De):EM V (some ([],V)):=by
 intro X W h;simp only[HZ,Prod.mk.injEq] at h;obtain⟨rfl,rfl⟩:=h;exact⟨Nat.le_refl _,by simp,by simp⟩
theorem EM.parts{F:Nat→List De→Ei}{e:Nat→Nat}(h:∀a V,EM V (F a V)):∀(m a:Nat) (V:List De),EM V (gT F e m a V)
 |0,_,V=>EM.nil V
 |m+1,a,V=>(h a V).pair (EM.parts h m (e a))
theorem EM.items{F:List De→Ei}(h:∀V,EM V (F V)):∀(m:Nat) (V:List De),EM V (Jo F m V)
 |0,V=>EM.nil V
 |m+1,V=>(h V).pair (EM.items h m)
theorem NM(s:List Cv)(rep DD:Int):∀(n i:Nat),i+(G8 s rep DD n i).length≤max i s.length
 |0,i=>by simp only[G8,List.length_nil];omega
 |n+1,i=>by
  have:=NM s rep DD n (i+1);simp only[G8,Dq];cases h:s[i]? with
  |none=>
   have hl:s.length≤i:=List.getElem?_eq_none_iff.1 h;simp only[List.length_nil];omega
  |some c=>
   have hl:i<s.length:=(List.getElem?_eq_some_iff.1 h).1;simp only;split<;>simp<;>omega
theorem EM.part{s:List Cv}(hs:s.length≤20){C:Int→Int→Int→List De→Ei}(h:∀r d p V,EM V (C r d p V))(e a:Nat)(rep DD deep:Int)(V:List De):EM V (I6 s C e a rep DD deep V):=by
 intro X W hr;unfold I6 at hr;have hm:∀n,(G8 s rep DD n a).length≤20:=fun n=>by
  have:=NM s rep DD n a;rcases Nat.lt_or_ge a s.length with h1|h1
  ·omega
  ·have:(G8 s rep DD n a).length=0:=by omega
   omega
 split at hr
 ·cases hr
 ·rename_i c hc
  split at hr
  ·exact h _ _ _ _ _ _ hr
  ·split at hr
   ·cases hr
   ·rename_i v V
    have lift:∀r:Ei,EM V r→r=some (X,W)→W.length≤(v::V).length∧X.length+20*W.length≤20*(v::V).length∧W=(v::V).drop ((v::V).length-W.length):=by
     intro r hg hr;obtain⟨g1,g2,g3⟩:=hg _ _ hr;refine⟨by simp;omega,by simp;omega,?_⟩;rw[D9,show V.length+1-W.length=(V.length-W.length)+1 by omega,List.drop_succ_cons];exact g3
    have ms:some (G8 s rep DD (e-a) a,V)=some (X,W)→W.length≤(v::V).length∧X.length+20*W.length≤20*(v::V).length∧W=(v::V).drop ((v::V).length-W.length):=by
     intro hr;simp only[HZ,Prod.mk.injEq] at hr;obtain⟨rfl,rfl⟩:=hr;have:=hm (e-a);refine⟨by simp,by simp;omega,by simp⟩
    split at hr
    ·split at hr
     ·cases hr
     ·split at hr
      ·exact ms hr
      ·exact lift _ ((h _ _ _ _).pair (EM.items (h _ _ _) _)) hr
    ·split at hr
     ·cases hr
     ·split at hr
      ·exact ms hr
      ·exact lift _ (h _ _ _ _) hr
theorem M8{s:List Cv}(hs:s.length≤20):∀(d a:Nat) (rep DD deep:Int) (V:List De),EM V (Jn s d a rep DD deep V)
 |0,_,_,_,_,_=>fun X W h=>by cases h
 |d+1,a,rep,DD,deep,V=>by
  intro X W h;simp only[Jn] at h;split at h
  ·cases h
  ·split at h
   ·exact EM.parts (fun a V=>EM.part hs (fun r d p V=>M8 hs _ a r d p V) _ a rep DD deep V) _ _ _ _ _ h
   ·split at h
    ·cases h
    ·split at h
     ·simp only[HZ,Prod.mk.injEq] at h
      obtain⟨rfl,rfl⟩:=h;refine⟨by simp,by simp;omega,by simp⟩
     ·cases h
def Gs(r:Ei):Option (List De):=match r with
 |none=>none
 |some (_,W)=>some W
theorem Ma(a:Ei)(f:List De→Ei):Gs (Hq a f)=(Gs a).bind fun V=>Gs (f V):=by
 unfold Hq Gs;cases a with
 |none=>rfl
 |some q=>
  obtain⟨x,V⟩:=q;simp only[Cy];cases f V with
  |none=>rfl
  |some q2=>rfl
def IK(C:List De→Option (List De)):Nat→List De→Option (List De)
 |0,V=>some V
 |m+1,V=>(C V).bind (IK C m)
theorem N7(F:List De→Ei)(C:List De→Option (List De))(h:∀V,Gs (F V)=C V):∀(m:Nat) (V:List De),Gs (Jo F m V)=IK C m V
 |0,V=>rfl
 |m+1,V=>by
  show Gs (Hq (F V) (Jo F m))=_;rw[Ma,h V];show _=(C V).bind (IK C m)
  congr 1
  funext W;exact N7 F C h m W
def L_(s:List Cv)(C:List De→Option (List De))(a:Nat)(V:List De):Option (List De):=
 match s[a]? with
 |none=>none
 |some c=>
  if c.2.2.1=0 then C V
  else match V with
   |[]=>none
   |v::V=>if JK v (if c.2.2.1=2 then 20 else 1)=true then none else IK C v.1.toNat V
theorem XM(s:List Cv)(F:Int→Int→Int→List De→Ei)(C:List De→Option (List De))(h:∀r q p V,Gs (F r q p V)=C V)(e a:Nat)(rep DD deep:Int)(V:List De):Gs (I6 s F e a rep DD deep V)=L_ s C a V:=by
 unfold I6 L_;cases s[a]? with
 |none=>rfl
 |some c=>
  simp only;split
  ·exact h _ _ _ _
  ·cases V with
   |nil=>rfl
   |cons v V=>
    simp only;split
    ·rename_i h2
     split
     ·rename_i hb;rfl
     ·rename_i hb
      have hb:=MS (by simpa using hb);split
      ·rename_i h0;rw[h0];rfl
      ·rename_i h0
       obtain⟨n,hn⟩:∃n:Nat,v.1=((n+1:Nat):Int):=⟨v.1.toNat-1,by omega⟩;rw[hn,Ma,h];show _=IK C (n+1) V;simp only[IK]
       congr 1
       funext W;exact N7 _ C (h _ _ _) _ W
    ·rename_i h2
     split
     ·rename_i hb;rfl
     ·rename_i hb
      have hb:=MS (by simpa using hb);split
      ·rename_i h0;rw[h0];rfl
      ·rename_i h0
       have h1:v.1=1:=by omega
       rw[h1,h];show C V=IK C 1 V;simp only[IK];cases C V<;>rfl
def KD(F:Nat→List De→Option (List De))(e:Nat→Nat):Nat→Nat→List De→Option (List De)
 |0,_,V=>some V
 |m+1,a,V=>(F a V).bind (KD F e m (e a))
theorem N8(F:Nat→List De→Ei)(C:Nat→List De→Option (List De))(h:∀a V,Gs (F a V)=C a V)(e:Nat→Nat):∀(m a:Nat) (V:List De),Gs (gT F e m a V)=KD C e m a V
 |0,_,V=>rfl
 |m+1,a,V=>by
  show Gs (Hq (F a V) (gT F e m (e a)))=_;rw[Ma,h a V];show _=(C a V).bind (KD C e m (e a))
  congr 1
  funext W;exact N8 F C h e m (e a) W
def rC(s:List Cv):Nat→Nat→List De→Option (List De)
 |0,_,_=>none
 |d+1,a,V=>match s[a]? with
  |none=>none
  |some c=>
   if c.2.1=7 then KD (fun a V=>L_ s (rC s d a) a V) (I5 s d) c.2.2.2.1.toNat (a+1) V
   else match V with
    |[]=>none
    |v::V=>if Og c.2.1 v=true then some V else none
theorem NZ(s:List Cv):∀(d a:Nat) (rep DD deep:Int) (V:List De),Gs (Jn s d a rep DD deep V)=rC s d a V
 |0,_,_,_,_,_=>rfl
 |d+1,a,rep,DD,deep,V=>by
  simp only[Jn,rC];cases s[a]? with
  |none=>rfl
  |some c=>
   simp only;split
   ·exact N8 _ _ (fun a V=>XM s _ (rC s d a) (fun r q p V=>NZ s d a r q p V) _ a rep DD deep V) _ _ _ _
   ·cases V with
    |nil=>rfl
    |cons v V=>
     simp only;split<;>rfl
def RG(C:List De→Option (List De)):Prop:=∀V W,C V=some W→W.length≤V.length∧W=V.drop (V.length-W.length)
theorem RG.of{F:List De→Ei}{C:List De→Option (List De)}(h:∀V,Gs (F V)=C V)(g:∀V,EM V (F V)):RG C:=by
 intro V W hc;rw[←h V] at hc;unfold Gs at hc;split at hc
 ·cases hc
 ·rename_i X U hf
  simp only[HZ] at hc;subst hc;obtain⟨g1,_,g3⟩:=g V X U hf;exact⟨g1,g3⟩
theorem RG.c{s:List Cv}(hs:s.length≤20)(d a:Nat):RG (rC s d a):=RG.of (F:=Jn s d a 0 0 0) (NZ s d a 0 0 0) (M8 hs d a 0 0 0)
theorem RG.pos{C:List De→Option (List De)}(g:RG C){V W:List De}{pos:Nat}(hp:pos≤V.length)(h:C (V.drop pos)=some W):V.length-W.length≤V.length∧V.drop (V.length-W.length)=W∧pos≤V.length-W.length:=by
 obtain⟨g1,g2⟩:=g _ _ h;simp only[List.length_drop] at g1 g2;refine⟨by omega,?_,by omega⟩;rw[List.drop_drop] at g2;rw[show V.length-W.length=pos+(V.length-pos-W.length) by omega];exact g2.symm
section
variable(k:Nat)(s:List Cv)(hs:s.length≤20)(hn:∀c,c∈s→c.1.size<k∧c.1.size<1000000000∧CY c.2.2.2.1)(hk:2000000≤k)
variable(V:List De)(hV:V.length≤1048576)
include hs hn hk hV
end
def WO.P(_:Nat)(_:Nat):Prop:=True
section
variable(k:Nat)(s:List Cv)
theorem WO.LK(a:Nat)(rep DD:Int)(acc:Nat)(m:Nat)(hP:WO.P (m+1) acc)(ha:a<s.length)(hc:∀c,s[a]?=some c→c.2.1≠7):Wx k (a:Int) rep DD=some ():=rfl
end
section
variable(k:Nat)(s:List Cv)(hs:s.length≤20)(hn:∀c,c∈s→c.1.size<k∧c.1.size<1000000000∧CY c.2.2.2.1)(hk:2000000≤k)
include hs hn hk
end
theorem XV{s:List Cv}(hS:Fj s):∃c0,s[0]?=some c0∧c0.2.1=7∧0<c0.2.2.2.1:=by
 obtain⟨_,_,⟨c,e1,e2,_,_⟩,c0,hc0,_,_,h7⟩:=hS;rw[hc0] at e1;obtain rfl:=Option.some.inj e1;refine⟨c0,hc0,h7,?_⟩;unfold Ee at e2;rw[h7,Mg] at e2;simp at e2;exact e2.1
def Jp(s:List Cv)(X:List Ev):Prop:=∀e,e∈X→∃c,s[e.at_]?=some c∧c.2.1≠7
theorem M9{s:List Cv}{X Y:List Ev}(h1:Jp s X)(h2:Jp s Y):Jp s (X++Y):=fun e he=>(List.mem_append.1 he).elim (h1 e) (h2 e)
def EvL(s:List Cv)(r:Ei):Prop:=∀X W,r=some (X,W)→Jp s X
theorem EvL.pair{s:List Cv}{a:Ei}{f:List De→Ei}(h:EvL s a)(g:∀V,EvL s (f V)):EvL s (Hq a f):=by
 intro X W he;obtain⟨x,y,V,h1,h2,rfl⟩:=M_ he;exact M9 (h _ _ h1) (g _ _ _ h2)
theorem EvL.nil(s:List Cv)(V:List De):EvL s (some ([],V)):=by
 intro X W h;simp only[HZ,Prod.mk.injEq] at h;obtain⟨rfl,rfl⟩:=h;exact fun e he=>by cases he
theorem EvL.parts{s:List Cv}{F:Nat→List De→Ei}{e:Nat→Nat}(h:∀a V,EvL s (F a V)):∀(m a:Nat) (V:List De),EvL s (gT F e m a V)
 |0,_,V=>EvL.nil s V
 |m+1,a,V=>(h a V).pair (EvL.parts h m (e a))
theorem EvL.items{s:List Cv}{F:List De→Ei}(h:∀V,EvL s (F V)):∀(m:Nat) (V:List De),EvL s (Jo F m V)
 |0,V=>EvL.nil s V
 |m+1,V=>(h V).pair (EvL.items h m)
theorem NL(s:List Cv)(rep DD:Int):∀(n i:Nat),Jp s (G8 s rep DD n i)
 |0,i=>fun e he=>by cases he
 |n+1,i=>by
  simp only[G8];refine M9 ?_ (NL s rep DD n (i+1));cases h:s[i]? with
  |none=>exact fun e he=>by cases he
  |some c=>
   simp only;split
   ·exact fun e he=>by cases he
   ·rename_i h7
    intro e he;rw[List.mem_singleton] at he;subst he;exact⟨c,h,h7⟩
theorem EvL.part{s:List Cv}{C:Int→Int→Int→List De→Ei}(h:∀r d p V,EvL s (C r d p V))(e a:Nat)(rep DD deep:Int)(V:List De):EvL s (I6 s C e a rep DD deep V):=by
 intro X W hr;unfold I6 at hr;have ms:∀U,some (G8 s rep DD (e-a) a,U)=some (X,W)→Jp s X:=by
  intro U hr;simp only[HZ,Prod.mk.injEq] at hr;obtain⟨rfl,rfl⟩:=hr;exact NL _ _ _ _ _
 split at hr
 ·cases hr
 ·split at hr
  ·exact h _ _ _ _ _ _ hr
  ·split at hr
   ·cases hr
   ·split at hr
    ·split at hr
     ·cases hr
     ·split at hr
      ·exact ms _ hr
      ·exact(EvL.pair (h _ _ _ _) (fun V=>EvL.items (h _ _ _) _ V)) _ _ hr
    ·split at hr
     ·cases hr
     ·split at hr
      ·exact ms _ hr
      ·exact h _ _ _ _ _ _ hr
theorem KP{s:List Cv}:∀(d:Nat) (a nx:Nat),EE s d a nx→∀t,a≤t→t<nx→∃nx',EE s d t nx'∧nx'≤nx
 |0,_,_,h,_,_,_=>h.elim
 |d+1,a,nx,h,t,h1,h2=>by
  rcases Nat.eq_or_lt_of_le h1 with rfl|h1
  ·exact⟨nx,h,Nat.le_refl _⟩
  ·obtain⟨c,_,_,_,hp⟩:=h
   have key:∀(m pl:Nat) (names:List ByteArray),GJ (EE s d) s m pl names nx→pl≤t→∃nx',EE s d t nx'∧nx'≤nx:=by
    intro m
    induction m with
    |zero=>
     intro pl names hp ht;have hp:pl=nx:=hp;omega
    |succ m ih=>
     intro pl names hp ht;obtain⟨q,mid,q1,q2,q3,q4⟩:=hp;have hmn:=K4 (Gw d) _ _ _ _ q4;rcases Nat.lt_or_ge t mid with h|h
     ·obtain⟨nx',e1,e2⟩:=KP d pl mid q3 t ht h
      exact⟨nx',e1,by omega⟩
     ·exact ih mid _ q4 h
   obtain⟨nx',e1,e2⟩:=key _ _ _ hp (by omega);exact⟨nx',MC d e1,e2⟩
where
 MC:∀{s:List Cv} (d:Nat) {a b:Nat},EE s d a b→EE s (d+1) a b
 |_,0,_,_,h=>h.elim
 |s,d+1,a,b,⟨c,h1,h2,h3,h4⟩=>⟨c,h1,h2,h3,MB (fun x y h=>MC d h) _ _ _ _ h4⟩
 MB {S T:Nat→Nat→Prop} {s:List Cv} (h:∀a b,S a b→T a b):∀(m pos:Nat) (names:List ByteArray) (nx:Nat),GJ S s m pos names nx→GJ T s m pos names nx
 |0,_,_,_,hp=>hp
 |m+1,_,_,_,⟨q,mid,q1,q2,q3,q4⟩=>⟨q,mid,q1,q2,h _ _ q3,MB h m _ _ _ q4⟩
def EG(s:List Cv)(t:Nat):Nat:=I5 s 6 t
theorem JL{s:List Cv}{d a b:Nat}(hd:d≤6)(h:EE s d a b):EG s a=b:=M6 d h 6 hd
theorem MW{s:List Cv}{d a nx:Nat}(hd:d≤6)(h:EE s d a nx){t:Nat}(h1:a≤t)(h2:t<nx):t<EG s t∧EG s t≤nx:=by
 obtain⟨nx',e1,e2⟩:=KP d a nx h t h1 h2;rw[JL hd e1];exact⟨Gw _ _ _ e1,e2⟩
def EH(s:List Cv)(f:Cv→Bool)(L:Nat):Nat→Nat→Nat
 |0,_=>0
 |n+1,t=>(match s[t]? with
  |none=>0
  |some c=>if L<EG s t∧f c=true then 1 else 0)+EH s f L n (t+1)
def Hy(s:List Cv)(f:Cv→Bool)(a L:Nat):Nat:=EH s f L (L+1-a) a
def F4(c:Cv):Bool:=c.2.2.1 !=0
def F5(c:Cv):Bool:=c.2.2.1==2
def G7(s:List Cv):Nat→Nat
 |0=>0
 |a+1=>G7 s a+(match s[a]? with
  |none=>0
  |some c=>if c.2.1=7 then 0 else 1)
theorem WX{s:List Cv}{a:Nat}{c:Cv}(hc:s[a]?=some c)(h7:c.2.1≠7):G7 s (a+1)=G7 s a+1:=by
 simp only[G7,hc];rw[if_neg h7]
theorem WW{s:List Cv}{a:Nat}{c:Cv}(hc:s[a]?=some c)(h7:c.2.1=7):G7 s (a+1)=G7 s a:=by
 simp only[G7,hc];rw[if_pos h7];rfl
theorem LD:∀(post pre:List Cv) (s:List Cv),s=pre++post→∀(j:Nat) (x:Int),(Dk pre.length post)[j]?=some x→∃a:Nat,x=(a:Int)∧pre.length≤a∧G7 s a=G7 s pre.length+j∧∃c,s[a]?=some c∧c.2.1≠7
 |[],pre,s,h,j,x,hx=>by simp[Dk] at hx
 |c::post,pre,s,h,j,x,hx=>by
  have hc:s[pre.length]?=some c:=by rw[h];simp
  have ih:=LD post (pre++[c]) s (by rw[h];simp);rw[Dq,DZ] at ih;simp only[Dk] at hx;by_cases h7:c.2.1=7
  ·rw[if_pos h7] at hx
   obtain⟨a,h1,h2,h3,h4⟩:=ih j x hx;rw[WW hc h7] at h3;exact⟨a,h1,by omega,h3,h4⟩
  ·rw[if_neg h7] at hx
   cases j with
   |zero=>
    simp only[List.getElem?_cons_zero,HZ] at hx;exact⟨pre.length,hx.symm,Nat.le_refl _,rfl,c,hc,h7⟩
   |succ j=>
    simp only[List.getElem?_cons_succ] at hx;obtain⟨a,h1,h2,h3,h4⟩:=ih j x hx;rw[WX hc h7] at h3;exact⟨a,h1,by omega,by omega,h4⟩
def Dr(s:List Cv)(L:Nat):Nat→Nat→List Int
 |0,_=>[]
 |n+1,t=>(if L<EG s t then[(t:Int)] else[])++Dr s L n (t+1)
theorem Oo(s:List Cv)(L:Nat):∀n t,(Dr s L n t).length≤n
 |0,_=>Nat.le_refl _
 |n+1,t=>by
  have:=Oo s L n (t+1);simp only[Dr,Dq];split<;>simp<;>omega
theorem Oq(s:List Cv)(L:Nat):∀(m n t:Nat),(∀u,t≤u→u<t+m→EG s u≤L)→Dr s L (m+n) t=Dr s L n (t+m)
 |0,n,t,_=>by simp
 |m+1,n,t,h=>by
  have h1:=h t (Nat.le_refl _) (by omega);have:=Oq s L m n (t+1) (fun u h2 h3=>h u (by omega) (by omega));rw[show m+1+n=(m+n)+1 by omega];simp only[Dr];rw[this,show t+1+m=t+(m+1) by omega,if_neg (by omega),List.nil_append]
section
variable(k:Nat)(s:List Cv)(hS:Fj s)(hn:∀c,c∈s→c.1.size<k∧c.1.size<1000000000∧CY c.2.2.2.1)(hk:2000000≤k)
include hS hn hk
theorem Lb(t:Nat)(ht:t<s.length):t<EG s t∧EG s t≤s.length∧ES k s (t:Int)=some (EG s t:Int)∧Dp k s (t:Int) 1=some (EG s t:Int):=by
 obtain⟨nx',e1,e2⟩:=KP 6 0 s.length hS.2.2.1 t (Nat.zero_le _) ht;have e3:=JL (Nat.le_refl _) e1;rw[e3];exact⟨Gw _ _ _ e1,e2,WK k s hS.2.1 hn (by omega) e1 (Nat.le_refl _) e2,O0 k s hS.2.1 hn (by omega) e1 (Nat.le_refl _) e2⟩
theorem Od(L:Nat)(hL:L<s.length):FX k s (L:Int)=some ((),Dr s L (L+1) 0):=by
 have Gl:=hS.2.1;have key:∀(n t f:Nat) (o:List Int),t+n=L+1→n<f→o.length≤t→FX.l3 k f s (L:Int) (t:Int) o=some ((),o++Dr s L n t):=by
  intro n
  induction n with
  |zero=>
   intro t f o h hf ho;obtain⟨f,rfl⟩:∃q,f=q+1:=⟨f-1,by omega⟩;simp only[FX.l3,CK (show ¬((t:Int)≤(L:Int)) by omega),CB,Dr,DY]
  |succ n ih=>
   intro t f o h hf ho;obtain⟨f,rfl⟩:∃q,f=q+1:=⟨f-1,by omega⟩;obtain⟨a1,a2,a3,_⟩:=Lb k s hS hn hk t (by omega);have ht1:IntKind.wrap .i64 ((t:Int)+1)=((t+1:Nat):Int):=by rw[CO (by omega) (by omega)];omega
   simp only[FX.l3,CP (show(t:Int)≤(L:Int) by omega),Cx,a3,Cy,FX.c4,ht1,Dr];by_cases h1:L<EG s t
   ·rw[CP (show(EG s t:Int)>(L:Int) by omega),Cx,Da (by simp;omega),Cx,if_pos h1,ih (t+1) f _ (by omega) (by omega) (by simp;omega)]
    simp
   ·rw[CK (show ¬(EG s t:Int)>(L:Int) by omega),CB,if_neg h1,ih (t+1) f _ (by omega) (by omega) (by omega)]
    simp
 have:=key (L+1) 0 k [] (by omega) (by omega) (by simp);exact this
theorem Oa(f1 f2:Int)(L:Nat)(hL:L<s.length):∀(n t f:Nat) (pre:List Int) (x y:Nat),t+n=L+1→n<f→x≤t→y≤t→pre.length≤t→
 Fy.l4 k f s (x:Int) (y:Int) (pre.length:Int) (pre++Dr s L n t)=some (((x+EH s F4 L n t:Nat):Int),((y+EH s F5 L n t:Nat):Int))∧
 EI.l6 k f s (x:Int) (y:Int) ((pre++Dr s L n t).length:Int) (pre.length:Int) (pre++Dr s L n t)=some (((x+EH s F4 L n t:Nat):Int),((y+EH s F5 L n t:Nat):Int)):=by
 have Gl:=hS.2.1;intro n
 induction n with
 |zero=>
  intro t f pre x y h hf hx hy hp;obtain⟨f,rfl⟩:∃q,f=q+1:=⟨f-1,by omega⟩;simp only[Fy.l4,EI.l6,Dr,DY,CK (show ¬((pre.length:Int)<(pre.length:Int)) by omega),CB,EH,Nat.add_zero];exact⟨trivial,trivial⟩
 |succ n ih=>
  intro t f pre x y h hf hx hy hp;have hc:=Es (show t<s.length by omega);generalize s[t]=c at hc;by_cases h1:L<EG s t
  ·obtain⟨f,rfl⟩:∃q,f=q+1:=⟨f-1,by omega⟩
   have hi1:IntKind.wrap .i64 ((pre.length:Int)+1)=((pre.length+1:Nat):Int):=by rw[CO (by omega) (by omega)];omega
   have hx1:IntKind.wrap .i64 ((x:Int)+1)=((x+1:Nat):Int):=by rw[CO (by omega) (by omega)];omega
   have hy1:IntKind.wrap .i64 ((y:Int)+1)=((y+1:Nat):Int):=by rw[CO (by omega) (by omega)];omega
   simp only[Dr];rw[if_pos h1,List.singleton_append];have dT:∀g:Cv→Bool,g c=true→EH s g L (n+1) t=1+EH s g L n (t+1):=fun g hg=>by simp only[EH,hc];rw[if_pos ⟨h1,hg⟩]
   have dF:∀g:Cv→Bool,g c=false→EH s g L (n+1) t=EH s g L n (t+1):=fun g hg=>by simp only[EH,hc];rw[if_neg (fun q=>by rw[hg] at q;cases q.2),Nat.zero_add]
   have hg:=Gx pre (Dr s L n (t+1)) (t:Int);have hlt:(pre.length:Int)<((pre++(t:Int)::Dr s L n (t+1)).length:Int):=by simp;omega
   simp only[Fy.l4,EI.l6,CP hlt,Cx,hg,Cy,Dv,hc,Fy.c8,EI.c10,Fy.c5,EI.c12,hi1,hx1,hy1];have ih':=fun x y hx hy=>ih (t+1) f (pre++[(t:Int)]) x y (by omega) (by omega) hx hy (by simp;omega);simp only[GA,List.singleton_append,Dq,DZ] at ih';simp only[Dq];by_cases ho:c.2.2.1=0
   ·have hr:¬c.2.2.1=2:=by omega
    have i1:F4 c=false:=by simp[F4,ho]
    have i2:F5 c=false:=by simp[F5,ho]
    rw[DL ho,CB,CB,Df hr,CB,CB,dF _ i1,dF _ i2];exact ih' x y (by omega) (by omega)
   ·have i1:F4 c=true:=by simp[F4,ho]
    by_cases hr:c.2.2.1=2
    ·have i2:F5 c=true:=by simp[F5,hr]
     rw[EF ho,Cx,Cx,Ez hr,Cx,Cx,dT _ i1,dT _ i2];have:=ih' (x+1) (y+1) (by omega) (by omega);rw[show x+(1+EH s F4 L n (t+1))=x+1+EH s F4 L n (t+1) by omega,show y+(1+EH s F5 L n (t+1))=y+1+EH s F5 L n (t+1) by omega];exact this
    ·have i2:F5 c=false:=by simp[F5,hr]
     rw[EF ho,Cx,Cx,Df hr,CB,CB,dT _ i1,dF _ i2];have:=ih' (x+1) y (by omega) (by omega);rw[show x+(1+EH s F4 L n (t+1))=x+1+EH s F4 L n (t+1) by omega];exact this
  ·have e1:Dr s L (n+1) t=Dr s L n (t+1):=by simp only[Dr];rw[if_neg h1,List.nil_append]
   have e2:∀g,EH s g L (n+1) t=EH s g L n (t+1):=fun g=>by simp only[EH,hc];rw[if_neg (fun q=>h1 q.1),Nat.zero_add]
   rw[e1,e2,e2];exact ih (t+1) f pre x y (by omega) (by omega) (by omega) (by omega) (by omega)
theorem NF(lv:List Int)(j:Int)(L:Nat)(hj:h_ lv j=some (L:Int))(hL:L<s.length):∀(N n t f:Nat) (o:List Int),n≤N→t+n=L+1→n<f→o.length≤t→
 Gb.l6 k f s j (t:Int) lv o=some ((),o++Dr s L n t):=by
 have Gl:=hS.2.1;intro N
 induction N with
 |zero=>
  intro n t f o hN h hf ho;obtain⟨f,rfl⟩:∃q,f=q+1:=⟨f-1,by omega⟩;have hn0:n=0:=by omega
  subst hn0;simp only[Gb.l6,hj,Cy,CK (show ¬((t:Int)≤(L:Int)) by omega),CB,Dr,DY]
 |succ N ih=>
  intro n t f o hN h hf ho;obtain⟨f,rfl⟩:∃q,f=q+1:=⟨f-1,by omega⟩;cases n with
  |zero=>simp only[Gb.l6,hj,Cy,CK (show ¬((t:Int)≤(L:Int)) by omega),CB,Dr,DY]
  |succ n=>
   obtain⟨a1,a2,_,a4⟩:=Lb k s hS hn hk t (by omega);have ht1:IntKind.wrap .i64 ((t:Int)+1)=((t+1:Nat):Int):=by rw[CO (by omega) (by omega)];omega
   simp only[Gb.l6,hj,Cy,CP (show(t:Int)≤(L:Int) by omega),Cx,a4,ht1];by_cases h1:L<EG s t
   ·rw[CP (show(EG s t:Int)>(L:Int) by omega),Cx,Da (by simp;omega),Cx,ih n (t+1) f _ (by omega) (by omega) (by omega) (by simp;omega)]
    simp only[Dr];rw[if_pos h1];simp
   ·rw[CK (show ¬(EG s t:Int)>(L:Int) by omega),CB]
    obtain⟨nx',e1,e2⟩:=KP 6 0 s.length hS.2.2.1 t (Nat.zero_le _) (by omega);have e3:=JL (Nat.le_refl _) e1
    have hsk:=Oq s L (EG s t-t) (n+1-(EG s t-t)) t (fun u u1 u2=>by
     have:=(MW (Nat.le_refl _) e1 u1 (by omega)).2;omega)
    rw[show EG s t-t+(n+1-(EG s t-t))=n+1 by omega,show t+(EG s t-t)=EG s t by omega] at hsk;rw[hsk];exact ih _ _ f o (by omega) (by omega) (by omega) (by omega)
theorem LC(hok:EB k s=some true)(hok2:EZ k s=some true)(j:Int):
 (∃L c,h_ (Dk 0 s) j=some ((L:Nat):Int)∧0≤j∧j<((Dk 0 s).length:Int)∧1≤L∧s[L]?=some c∧c.2.1≠7∧j=(G7 s L:Int)∧
  EI k s j=some ((Hy s F4 1 L:Int),(Hy s F5 1 L:Int))∧Fy k s (L:Int)=some ((Hy s F4 1 L:Int),(Hy s F5 1 L:Int)))∨
 (¬(0≤j∧j<((Dk 0 s).length:Int))∧EI k s j=some (-1,-1)):=by
 obtain⟨v1,v2⟩:=Hw k (by omega) s (by have:=hS.2.1;omega);have Gl:=hS.2.1;have hll:=Gq 0 s;obtain⟨c0,hc0,Ll,_⟩:=XV hS;have zI:c0.2.2.1=0:=by
  obtain⟨_,_,_,c,e1,_,e2,_⟩:=hS;rw[hc0] at e1;cases e1;exact e2
 unfold EI Gb Js;rw[hok2];simp only[Cy,Cx,CB,C9,v1,v2,FE,Gh];generalize hlv:Dk 0 s=lv at hll;rw[CO (show -9223372036854775808≤(lv.length:Int)-1 by omega) (by omega)];by_cases hin:0≤j∧j<(lv.length:Int)
 ·left
  have hw:(decide (0≤j)&&decide (j≤(lv.length:Int)-1))=true:=by simp;omega
  obtain⟨n,rfl⟩:=Int.eq_ofNat_of_zero_le hin.1;have hnl:n<lv.length:=by omega
  obtain⟨L,e1,e2,e3,c,e4,e5⟩:=LD s [] s rfl n _ (by rw[show([]:List Cv).length=0 from rfl,hlv];exact Es hnl);have hg:h_ lv (n:Int)=some (L:Int):=by rw[Dv,Es hnl,e1]
  have e3:G7 s L=0+n:=e3;have hL:L<s.length:=(List.getElem?_eq_some_iff.1 e4).1;have hL1:1≤L:=by
   rcases Nat.eq_zero_or_pos L with h|h
   ·subst h
    rw[hc0] at e4;cases e4;exact absurd Ll e5
   ·exact h
  have Nv:L<EG s 0:=by rw[JL (Nat.le_refl _) hS.2.2.1];exact hL
  have hz:∀g:Cv→Bool,g c0=false→EH s g L (L+1) 0=Hy s g 1 L:=fun g hg=>by
   simp only[EH,hc0];rw[if_neg (fun q=>by rw[hg] at q;cases q.2),Nat.zero_add];unfold Hy;rw[show L+1-1=L by omega]
  have z1:=hz F4 (by simp[F4,zI]);have z2:=hz F5 (by simp[F5,zI]);have hmx:Fy k s (L:Int)=some ((Hy s F4 1 L:Int),(Hy s F5 1 L:Int)):=by
   have h1:=(Oa k s hS hn hk 0 0 L hL (L+1) 0 k [] 0 0 (by omega) (by omega) (by omega) (by omega) (by simp)).1;rw[z1,z2,Nat.zero_add,Nat.zero_add] at h1;unfold Fy;rw[Od k s hS hn hk L hL];exact h1
  refine⟨L,c,hg,hin.1,hin.2,hL1,e4,e5,by omega,?_,hmx⟩
  ·rw[hw]
   simp only[C9,CB];have h1:=NF k s hS hn hk lv (n:Int) L hg hL L L 1 k [] (Nat.le_refl _) (by omega) (by omega) (by simp);have h1:Gb.l6 k k s (n:Int) 1 lv []=some ((),Dr s L L 1):=h1;rw[h1];simp only[Cy];have h2:=(Oa k s hS hn hk 0 0 L hL L 1 k [] 0 0 (by omega) (by omega) (by omega) (by omega) (by simp)).2;have hne:((Dr s L L 1).length:Int)≠0:=by
    have:∀n t,t+n=L+1→0<n→0<(Dr s L n t).length:=by
     intro n
     induction n with
     |zero=>intro t _ h;omega
     |succ n ih=>
      intro t h _;simp only[Dr,Dq];rcases Nat.eq_zero_or_pos n with h0|h0
      ·subst h0
       have:t=L:=by omega
       subst this;rw[if_pos (Lb k s hS hn hk t hL).1,DZ];omega
      ·have:=ih (t+1) (by omega) h0;omega
    have:=this L 1 (by omega) (by omega);omega
   rw[Df hne,CB];have h2:EI.l6 k k s 0 0 ((Dr s L L 1).length:Int) 0 (Dr s L L 1)=some (((0+EH s F4 L L 1:Nat):Int),((0+EH s F5 L L 1:Nat):Int)):=h2;rw[h2,Nat.zero_add,Nat.zero_add];unfold Hy;rw[show L+1-1=L by omega]
 ·right
  have hw:(decide (0≤j)&&decide (j≤(lv.length:Int)-1))=false:=by
   rw[Bool.eq_false_iff];intro h;simp only[Dn,DN] at h;omega
  rw[hw];exact⟨hin,rfl⟩
end
section
variable(k:Nat)(s:List Cv)(hn:∀c,c∈s→c.1.size<k∧c.1.size<1000000000∧CY c.2.2.2.1)(hk:2000000≤k)
variable(hS:Fj s)(hok:EB k s=some true)(hok2:EZ k s=some true)
include hn hk hS hok hok2
theorem JR(j:Int):∃l b,IL k s j=some (l,b)∧I_ k s j=some (l,b)∧
 (b=true→∃L c,h_ (Dk 0 s) j=some ((L:Nat):Int)∧s[L]?=some c∧c.2.1≠7∧j=(G7 s L:Int)∧l=(c.2.1,(Hy s F5 1 L:Int),(Hy s F4 1 L:Int),())):=by
 obtain⟨v1,v2⟩:=Hw k (by omega) s (by have:=hS.2.1;omega);have hll:=Gq 0 s;have Gl:=hS.2.1;have hlm:=LC k s hS hn hk hok hok2 j;unfold IL I_ H7 Js;rw[hok,hok2];simp only[Cy,C9,CB,v1,v2,FE,Gh];generalize hlv:Dk 0 s=lv at hll hlm;rw[CO (show -9223372036854775808≤(lv.length:Int)-1 by omega) (by omega)];rcases hlm with⟨L,c,hg,h0,h1,_,hc,h7,hj,m2,m3⟩|⟨hin,_⟩
 ·have hw:(decide (0≤j)&&decide (j≤(lv.length:Int)-1))=true:=by simp;omega
  rw[hw];simp only[C9,CB,hg,Cy,m2,m3,Dv,hc];exact⟨_,_,rfl,rfl,fun _=>⟨L,c,rfl,hc,h7,hj,rfl⟩⟩
 ·have hw:(decide (0≤j)&&decide (j≤(lv.length:Int)-1))=false:=by
   rw[Bool.eq_false_iff];intro h;simp only[Dn,DN] at h;omega
  rw[hw];exact⟨_,_,rfl,rfl,fun h=>by cases h⟩
end
theorem Yl(s:List Cv)(L:Nat):∀(n t:Nat) (x:Int),x∈Dr s L n t→∃a:Nat,x=a∧t≤a∧a<t+n:=by
 intro n
 induction n with
 |zero=>intro t x hx;cases hx
 |succ n ih=>
  intro t x hx;simp only[Dr] at hx;rcases List.mem_append.1 hx with hx|hx
  ·split at hx
   ·rw[List.mem_singleton] at hx
    exact⟨t,hx,by omega,by omega⟩
   ·cases hx
  ·obtain⟨a,e,h1,h2⟩:=ih (t+1) x hx
   exact⟨a,e,by omega,by omega⟩
theorem Ym(s:List Cv)(L:Nat)(hL:L<EG s L):∀(n t:Nat),t≤L→L<t+n→(L:Int)∈Dr s L n t:=by
 intro n
 induction n with
 |zero=>intro t h1 h2;omega
 |succ n ih=>
  intro t h1 h2;simp only[Dr];by_cases e:t=L
  ·subst e
   rw[if_pos hL];exact List.mem_append_left _ (List.mem_singleton.2 rfl)
  ·exact List.mem_append_right _ (ih (t+1) (by omega) (by omega))
def II(s:List Cv)(x:Int):ByteArray:=((h_ s x).map (·.1)).getD ⟨#[]⟩
section
variable(k:Nat)(s:List Cv)
theorem X8(w:List Int)(hw:w.length≤100)(hm:∀x,x∈w→∃c,h_ s x=some c):∀(post pre:List Int) (f:Nat) (o:List ByteArray),w=pre++post→post.length<f→o.length≤pre.length→
 Gc.l7 k f s (pre.length:Int) o w=some ((),o++post.map (II s)):=by
 intro post
 induction post with
 |nil=>
  intro pre f o h hf ho;obtain⟨f,rfl⟩:∃q,f=q+1:=⟨f-1,by omega⟩;have hlen:w.length=pre.length:=by rw[h];simp
  simp only[Gc.l7,CK (show ¬((pre.length:Int)<(w.length:Int)) by omega),CB,List.map_nil,DY]
 |cons x post ih=>
  intro pre f o h hf ho;simp only[D9] at hf;obtain⟨f,rfl⟩:∃q,f=q+1:=⟨f-1,by omega⟩;have hlen:w.length=pre.length+(post.length+1):=by rw[h];simp
  have hg:h_ w (pre.length:Int)=some x:=by rw[h];exact Gx _ _ _
  have hi1:IntKind.wrap .i64 ((pre.length:Int)+1)=((pre.length+1:Nat):Int):=by rw[CO (by omega) (by omega)];omega
  obtain⟨c,hc⟩:=hm x (by rw[h];simp);have hi:=ih (pre++[x]) f (o++[c.1]) (by rw[h];simp) (by omega) (by simp;omega);rw[Dq,DZ] at hi;simp only[Gc.l7,CP (show(pre.length:Int)<(w.length:Int) by omega),Cx,hg,hc,Cy,hi1];rw[Da (by simp;omega),Cx,hi];simp[II,hc]
theorem Wy(w:List Int)(hw:w.length≤100)(hm:∀x,x∈w→∃c,h_ s x=some c):∀(post pre:List Int) (f:Nat) (o:List ByteArray),w=pre++post→post.length<f→o.length≤pre.length→
 FK.l3 k f s (w.length:Int) (pre.length:Int) o w=some ((),o++post.map (II s)):=by
 intro post
 induction post with
 |nil=>
  intro pre f o h hf ho;obtain⟨f,rfl⟩:∃q,f=q+1:=⟨f-1,by omega⟩;have hlen:w.length=pre.length:=by rw[h];simp
  simp only[FK.l3,CK (show ¬((pre.length:Int)<(w.length:Int)) by omega),CB,List.map_nil,DY]
 |cons x post ih=>
  intro pre f o h hf ho;simp only[D9] at hf;obtain⟨f,rfl⟩:∃q,f=q+1:=⟨f-1,by omega⟩;have hlen:w.length=pre.length+(post.length+1):=by rw[h];simp
  have hg:h_ w (pre.length:Int)=some x:=by rw[h];exact Gx _ _ _
  have hi1:IntKind.wrap .i64 ((pre.length:Int)+1)=((pre.length+1:Nat):Int):=by rw[CO (by omega) (by omega)];omega
  obtain⟨c,hc⟩:=hm x (by rw[h];simp);have hi:=ih (pre++[x]) f (o++[c.1]) (by rw[h];simp) (by omega) (by simp;omega);rw[Dq,DZ] at hi;simp only[FK.l3,CP (show(pre.length:Int)<(w.length:Int) by omega),Cx,hg,hc,Cy,hi1];rw[Da (by simp;omega),Cx,hi];simp[II,hc]
theorem XN(a b:List ByteArray)(hab:a.length=b.length)(hl:a.length<4611686018427387904):∀(m f i:Nat),i+m=a.length→m<f→G_.l4 k f a b (a.length:Int) (i:Int)=some (decide (a.drop i=b.drop i)):=by
 intro m
 induction m with
 |zero=>
  intro f i hi hf;obtain⟨f,rfl⟩:∃q,f=q+1:=⟨f-1,by omega⟩;simp only[G_.l4,CK (show ¬((i:Int)<(a.length:Int)) by omega),CB];rw[List.drop_eq_nil_of_le (by omega),List.drop_eq_nil_of_le (by omega)];rfl
 |succ m ih=>
  intro f i hi hf;obtain⟨f,rfl⟩:∃q,f=q+1:=⟨f-1,by omega⟩;have ha:=Es (show i<a.length by omega);have hb:=Es (show i<b.length by omega);have hi1:IntKind.wrap .i64 ((i:Int)+1)=((i+1:Nat):Int):=by rw[CO (by omega) (by omega)];omega
  have da:=List.drop_eq_getElem_cons (show i<a.length by omega);have db:=List.drop_eq_getElem_cons (show i<b.length by omega);rw[da,db];generalize a[i]'_=x at ha;generalize b[i]'_=y at hb;simp only[G_.l4,CP (show(i:Int)<(a.length:Int) by omega),Cx,Dv,ha,hb,Cy,G5,hi1];by_cases hxy:x=y
  ·subst hxy
   simp only[decide_true,C9,CB,bne];rw[ih f (i+1) (by omega) (by omega)];simp
  ·simp only[CK hxy,Dt,Cx,bne]
   simp[hxy]
theorem XO(a b:List ByteArray)(hl:a.length<k)(hl2:a.length<4611686018427387904)(hl3:b.length<4611686018427387904):G_ k a b=some (decide (a=b)):=by
 unfold G_;by_cases h:a.length=b.length
 ·rw[DL (by omega),CB]
  have:=XN k a b h hl2 a.length k 0 (by omega) hl;simpa using this
 ·rw[EF (by omega),Cx]
  rw[CK (fun e=>h (by rw[e]))]
end
section
variable(k:Nat)(s:List Cv)(hn:∀c,c∈s→c.1.size<k∧c.1.size<1000000000∧CY c.2.2.2.1)(hk:2000000≤k)
variable(hS:Fj s)(hok:EB k s=some true)(hok2:EZ k s=some true)
include hn hk hS hok hok2
theorem LX(j:Int):∃N,Gc k s j=some ((),N)∧FK k s j=some ((),N)∧N.length≤20∧(∀t,t∈N→t.size<1000000000)∧(0≤j∧j<((Dk 0 s).length:Int)→N≠[]):=by
 have hnm:∀x,(II s x).size<1000000000:=by
  intro x;unfold II;cases hx:h_ s x with
  |none=>exact(by decide:CX.size<1000000000)
  |some c=>
   have hc:c∈s:=by
    unfold h_ at hx;split at hx
    ·exact List.mem_of_getElem? hx
    ·cases hx
   exact(hn c hc).2.1
 obtain⟨v1,v2⟩:=Hw k (by omega) s (by have:=hS.2.1;omega);have Gl:=hS.2.1;have hll:=Gq 0 s;unfold Gc FK Gb H7 Js;rw[hok,hok2];simp only[Cy,C9,CB,v1,v2,FE,Gh];generalize hlv:Dk 0 s=lv at hll;rw[CO (show -9223372036854775808≤(lv.length:Int)-1 by omega) (by omega)];by_cases hin:0≤j∧j<(lv.length:Int)
 ·have hw:(decide (0≤j)&&decide (j≤(lv.length:Int)-1))=true:=by simp;omega
  obtain⟨n,rfl⟩:=Int.eq_ofNat_of_zero_le hin.1;have hnl:n<lv.length:=by omega
  obtain⟨L,e1,e2,e3,c,e4,e5⟩:=LD s [] s rfl n _ (by rw[show([]:List Cv).length=0 from rfl,hlv];exact Es hnl);have hg:h_ lv (n:Int)=some (L:Int):=by rw[Dv,Es hnl,e1]
  have hL:L<s.length:=(List.getElem?_eq_some_iff.1 e4).1;have Nv:L<EG s 0:=by rw[JL (Nat.le_refl _) hS.2.2.1];exact hL
  have Wp:Dr s L (L+1) 0=0::Dr s L L 1:=by
   simp only[Dr];rw[if_pos Nv];rfl
  have hmem:∀x,x∈Dr s L L 1→∃c,h_ s x=some c:=fun x hx=>by
   obtain⟨a,rfl,h1,h2⟩:=Yl s L L 1 x hx;exact⟨_,Es (show a<s.length by omega)⟩
  have hlen:=Oo s L L 1;have h1:=NF k s hS hn hk lv (n:Int) L hg hL L L 1 k [] (Nat.le_refl _) (by omega) (by omega) (by simp);have h1:Gb.l6 k k s (n:Int) 1 lv []=some ((),Dr s L L 1):=h1;have hI:=Wy k s (Dr s L L 1) (by omega) hmem (Dr s L L 1) [] k [] rfl (by omega) (by simp);have hI:FK.l3 k k s ((Dr s L L 1).length:Int) 0 [] (Dr s L L 1)=_:=hI;have Wl:∀x,x∈(0:Int)::Dr s L L 1→∃c,h_ s x=some c:=fun x hx=>by
   rcases List.mem_cons.1 hx with rfl|hx
   ·exact⟨_,Es (show 0<s.length by omega)⟩
   ·exact hmem x hx
  have hP:=X8 k s (0::Dr s L L 1) (by simp;omega) Wl (Dr s L L 1) [0] k [] rfl (by omega) (by simp);have hP:Gc.l7 k k s 1 [] (0::Dr s L L 1)=_:=hP;rw[hw];simp only[C9,CB,hg,Cy,Od k s hS hn hk L hL,Wp,h1,hI,hP]
  exact⟨_,rfl,rfl,by simp;omega,fun t ht=>by
   rw[List.nil_append] at ht;obtain⟨x,_,rfl⟩:=List.mem_map.1 ht;exact hnm x,fun _ hnil=>by
   rw[List.nil_append] at hnil;have hL1:1≤L:=by
    rcases Nat.eq_zero_or_pos L with h0|h0
    ·obtain⟨_,_,_,c0,f0,_,_,f3⟩:=hS
     rw[h0,f0] at e4;obtain rfl:=Option.some.inj e4;exact absurd f3 e5
    ·exact h0
   have V5:L<EG s L:=(MW (Nat.le_refl _) hS.2.2.1 (Nat.zero_le _) hL).1;have:=Ym s L V5 L 1 hL1 (by omega);have h2:II s (L:Int)∈(Dr s L L 1).map (II s):=List.mem_map_of_mem this;rw[hnil] at h2;cases h2⟩
 ·have hw:(decide (0≤j)&&decide (j≤(lv.length:Int)-1))=false:=by
   rw[Bool.eq_false_iff];intro h;simp only[Dn,DN] at h;omega
  obtain⟨K,rfl⟩:∃K,k=K+1:=⟨k-1,by omega⟩;rw[hw];exact⟨[],rfl,rfl,by simp,by simp,fun h=>absurd h hin⟩
theorem path_eq(j:Int):∃N,Gc k s j=some ((),N)∧FK k s j=some ((),N)∧N.length≤20:=by
 obtain⟨N,h1,h2,h3,_⟩:=LX k s hn hk hS hok hok2 j;exact⟨N,h1,h2,h3⟩
end
def HV(l:List Cu)(p:Int):Int:=((h_ l p).map (·.2.2.1)).getD 0
def GH(l:List Cu)(p:Int):ByteArray:=((h_ l p).map (·.2.2.2.1)).getD ⟨#[]⟩
def Dh(k:Nat)(s:List Cv)(j:Int):List ByteArray:=((Gc k s j).map (·.2)).getD []
def DX(k:Nat)(s:List Cv)(j:Int):Int:=((IL k s j).map (·.1.1)).getD 0
def El(k:Nat)(l:List Cu)(a:Int):Int:=if fV k l a 3<0 then -1 else if((h_ l (fV k l a 3)).map (·.1)).getD 0=12 then fV k l a 3 else -1
def FC(k:Nat)(l:List Cu)(s:List Cv)(strict:Bool)(a j:Int):Bool:=
 if El k l a<0 then false else
  (pV k l (El k l a) 2 5).1&&(pV k l (El k l a) 3 8).1&&((nV k l (El k l a) 1).2&&((nV k l (El k l a) 1).1==DX k s j))&&((nV k l (El k l a) 4).2&&((nV k l (El k l a) 4).1==0))&&
   decide ((pV k l (El k l a) 3 8).2.map (GH l)=Dh k s j)&&(nV k l (El k l a) 5).2&&(nV k l (El k l a) 6).2&&((nV k l (El k l a) 7).2&&((nV k l (El k l a) 7).1==(nV k l (El k l a) 6).1))&&(nV k l (El k l a) 9).2&&
   (if fV k l (El k l a) 11<0 then true else(nV k l (El k l a) 11).2&&(if strict then decide (0≤(nV k l (El k l a) 11).1) else(nV k l (El k l a) 11).1 != -1))
def Ep(k:Nat)(l:List Cu)(a j:Int):Dg:=
 if El k l a<0 then(j,0,-1,0,0,[],()) else
  (j,(nV k l (El k l a) 9).1,(if fV k l (El k l a) 11<0 then -1 else(nV k l (El k l a) 11).1),(nV k l (El k l a) 5).1,(nV k l (El k l a) 6).1,(pV k l (El k l a) 2 5).2.map (HV l),())
section
variable(k:Nat)(hk:2000000≤k){l:List Cu}{af:List Int}(h:Ey l af)
include hk h
theorem Wt(t3 t10:Int)(b:Bool)(s:List Cv)(Ct Cw:Int×Int×Int×Int×Int×Unit×Unit)(lf:H_)(E:List Int)(hE:E.length≤1500)(hm:∀p,p∈E→0≤p∧p<(l.length:Int))(CJ:List Int):∀(post pre:List Int) (f:Nat) (o:List Int),E=pre++post→post.length<f→o.length≤pre.length→
 Dl.l8 k f t3 t10 (E.length:Int) (pre.length:Int) (mR b) (tB l) af s Ct Cw lf E CJ o=(GV k t10 3 8 (mR b) (tB l) af).bind fun H6=>Dl.Jc k k t3 t10 (List.length H6.2.2.2.2:Int) 0 H6.2.1 H6.2.2.1 H6.2.2.2.1 s Ct Cw lf [] H6.2.2.2.2 CJ (o++post.map (HV l)):=by
 intro post
 induction post with
 |nil=>
  intro pre f o h hf ho;obtain⟨f,rfl⟩:∃q,f=q+1:=⟨f-1,by omega⟩;have hlen:E.length=pre.length:=by rw[h];simp
  simp only[Dl.l8,CK (show ¬((pre.length:Int)<(E.length:Int)) by omega),CB,List.map_nil,DY]
 |cons x post ih=>
  intro pre f o h hf ho;simp only[D9] at hf;obtain⟨f,rfl⟩:∃q,f=q+1:=⟨f-1,by omega⟩;have hlen:E.length=pre.length+(post.length+1):=by rw[h];simp
  have hg:h_ E (pre.length:Int)=some x:=by rw[h];exact Gx _ _ _
  have hi1:IntKind.wrap .i64 ((pre.length:Int)+1)=((pre.length+1:Nat):Int):=by rw[CO (by omega) (by omega)];omega
  obtain⟨x0,x1⟩:=hm x (by rw[h];simp);obtain⟨c,hc,_⟩:=FT x0 x1;have hi:=ih (pre++[x]) f (o++[c.2.2.1]) (by rw[h];simp) (by omega) (by simp;omega);rw[Dq,DZ] at hi;have hc':h_ (tB l).1 x=some c:=hc;simp only[Dl.l8,CP (show(pre.length:Int)<(E.length:Int) by omega),Cx,hg,Cy,Dl.d10,hc',hi1];rw[Da (by simp;omega),Cx,hi];simp[HV,hc]
theorem Wz(t3 t10:Int)(b:Bool)(s:List Cv)(Ct Cw:Int×Int×Int×Int×Int×Unit×Unit)(lf:H_)(E:List Int)(hE:E.length≤1500)(hm:∀p,p∈E→0≤p∧p<(l.length:Int))(CL CW:List Int):∀(post pre:List Int) (f:Nat) (o:List ByteArray),E=pre++post→post.length<f→o.length≤pre.length→
 Dl.Jc k f t3 t10 (E.length:Int) (pre.length:Int) (mR b) (tB l) af s Ct Cw lf o E CL CW=Dl.d18 k t3 t10 (mR b) (tB l) af s Ct Cw lf (o++post.map (GH l)) CL CW:=by
 intro post
 induction post with
 |nil=>
  intro pre f o h hf ho;obtain⟨f,rfl⟩:∃q,f=q+1:=⟨f-1,by omega⟩;have hlen:E.length=pre.length:=by rw[h];simp
  simp only[Dl.Jc,CK (show ¬((pre.length:Int)<(E.length:Int)) by omega),CB,List.map_nil,DY]
 |cons x post ih=>
  intro pre f o h hf ho;simp only[D9] at hf;obtain⟨f,rfl⟩:∃q,f=q+1:=⟨f-1,by omega⟩;have hlen:E.length=pre.length+(post.length+1):=by rw[h];simp
  have hg:h_ E (pre.length:Int)=some x:=by rw[h];exact Gx _ _ _
  have hi1:IntKind.wrap .i64 ((pre.length:Int)+1)=((pre.length+1:Nat):Int):=by rw[CO (by omega) (by omega)];omega
  obtain⟨x0,x1⟩:=hm x (by rw[h];simp);obtain⟨c,hc,_⟩:=FT x0 x1;have hi:=ih (pre++[x]) f (o++[c.2.2.2.1]) (by rw[h];simp) (by omega) (by simp;omega);rw[Dq,DZ] at hi;have hc':h_ (tB l).1 x=some c:=hc;simp only[Dl.Jc,CP (show(pre.length:Int)<(E.length:Int) by omega),Cx,hg,Cy,hc',hi1];rw[Da (by simp;omega),Cx,hi];simp[GH,hc]
theorem LU(a:Nat)(ha:a<l.length):(El k l a= -1∧∀(D:Option Unit),True)∨(∃q:Nat,El k l a=q∧a<q∧q<l.length∧fV k l a 3=q∧∃n,l[q]?=some n∧n.1=12):=by
 obtain⟨_,_,g3⟩:=Jq k (by omega) h a ha 3;unfold El;rcases g3 with g3|⟨q,g3,q1,q2⟩
 ·left;rw[g3,if_pos (by omega)];exact⟨rfl,fun _=>trivial⟩
 ·rw[g3,if_neg (by omega),Dv,Es q2]
  simp only[Option.map_some,Option.getD_some];split
  ·rename_i h12
   exact .inr ⟨q,rfl,q1,q2,rfl,_,Es q2,h12⟩
  ·exact .inl ⟨rfl,fun _=>trivial⟩
variable(s:List Cv)(hn:∀c,c∈s→c.1.size<k∧c.1.size<1000000000∧CY c.2.2.2.1)(hS:Fj s)(hok:EB k s=some true)(hok2:EZ k s=some true)
include hn hS hok hok2
theorem NN(j:Int):Gc k s j=some ((),Dh k s j)∧FK k s j=some ((),Dh k s j)∧(Dh k s j).length≤20:=by
 obtain⟨N,e1,e2,e3⟩:=path_eq k s hn hk hS hok hok2 j;have:Dh k s j=N:=by unfold Dh;rw[e1];rfl
 rw[this];exact⟨e1,e2,e3⟩
theorem Wq(a:Nat)(ha:a<l.length)(j:Int)(b:Bool):
 Dl k (a:Int) j (mR b) (tB l) af s=some (((Ep k l a j).1,(Ep k l a j).2.1,(Ep k l a j).2.2.1,(Ep k l a j).2.2.2.1,(Ep k l a j).2.2.2.2.1,(),()),(mR (b|| !FC k l s false a j),tB l,af,s,(Ep k l a j).2.2.2.2.2.1)):=by
 have hk2:2000≤k:=by omega
 obtain⟨_,g2,g3⟩:=Jq k hk2 h a ha 3;unfold Dl;simp only[g2,Cy];rcases LU k hk h a ha with⟨ho,_⟩|⟨q,ho,q1,q2,q3,n,hnq,h12⟩
 ·have hbad:(cond (decide (fV k l a 3<0)) (some true) ((h_ (tB l).1 (fV k l a 3)).bind fun Jh=>some (Jh.1 !=12)))=some true:=by
   rcases g3 with g3|⟨q,g3,q1,q2⟩
   ·rw[g3];rfl
   ·rw[g3,CK (by omega),CB,Dv,show(tB l).1=l from rfl,Es q2]
    unfold El at ho;rw[g3,if_neg (by omega),Dv,Es q2] at ho;simp only[Option.map_some,Option.getD_some] at ho;split at ho
    ·omega
    ·rename_i h12
     simp only[Cy,EF h12]
  rw[hbad];unfold Ep FC;simp only[ho,show((-1:Int)<0) from by omega,if_true,Cy,Cx,Dt,Bool.or_true]
 ·have hgood:(cond (decide (fV k l a 3<0)) (some true) ((h_ (tB l).1 (fV k l a 3)).bind fun Jh=>some (Jh.1 !=12)))=some false:=by
   rw[q3,CK (by omega),CB,Dv,show(tB l).1=l from rfl,hnq];simp only[Cy,DL h12]
  obtain⟨lf,lb,e1,e2,_⟩:=JR k s hn hk hS hok hok2 j;have hlf:DX k s j=lf.1:=by unfold DX;rw[e1];rfl
  obtain⟨_,p2,p3⟩:=NN k hk h s hn hS hok hok2 j;obtain⟨_,_,m1,m2⟩:=HY k hk2 h q q2 2 5;obtain⟨_,_,m3,m4⟩:=HY k hk2 h q q2 3 8;obtain⟨_,f2,f3⟩:=Jq k hk2 h q q2 11;rw[hgood];simp only[Cy,CB,e2,q3,Kw k hk2 h q q2];have le:=Wt k hk h j (q:Int) (b|| !(pV k l q 2 5).1) s (0,0,0,0,0,(),()) (j,0,(-1),0,0,(),()) lf (pV k l q 2 5).2 m1 m2 [] (pV k l q 2 5).2 [] k [] rfl (by omega) (by simp);rw[List.length_nil,show((0:Nat):Int)=0 from rfl] at le;rw[le];simp only[Kw k hk2 h q q2,Cy,List.nil_append];have lp:=Wz k hk h j (q:Int) (b|| !(pV k l q 2 5).1|| !(pV k l q 3 8).1) s (0,0,0,0,0,(),()) (j,0,(-1),0,0,(),()) lf (pV k l q 3 8).2 m3 m4 [] ((pV k l q 2 5).2.map (HV l)) (pV k l q 3 8).2 [] k [] rfl (by omega) (by simp);rw[List.length_nil,show((0:Nat):Int)=0 from rfl] at lp;rw[lp,List.nil_append];have Wn:=XO k ((pV k l q 3 8).2.map (GH l)) (Dh k s j) (by rw[List.length_map];omega) (by rw[List.length_map];omega) (by omega)
  have tail:∀b':Bool,Dl.c20 k (q:Int) (mR b') (tB l) af s (0,0,0,0,0,(),()) (j,0,(-1),0,0,(),()) [] ((pV k l q 2 5).2.map (HV l))=
   some (((Ep k l a j).1,(Ep k l a j).2.1,(Ep k l a j).2.2.1,(Ep k l a j).2.2.2.1,(Ep k l a j).2.2.2.2.1,(),()),(mR (b'|| !((nV k l q 5).2&&(nV k l q 6).2&&((nV k l q 7).2&&((nV k l q 7).1==(nV k l q 6).1))&&(nV k l q 9).2&&(if fV k l q 11<0 then true else(nV k l q 11).2&&((nV k l q 11).1 != -1)))),tB l,af,s,(Ep k l a j).2.2.2.2.2.1)):=by
   intro b';unfold Dl.c20 Dl.d22 Dl.c24 Dl.c28 Ep;rw[ho,if_neg (by omega)];have Wh:(((nV k l q 7).1 !=(nV k l q 6).1))= !((nV k l q 7).1==(nV k l q 6).1):=rfl;simp only[Jy k hk2 h q q2,Cy,Wh];have hbne:((nV k l q 11).1 != -1)= !((nV k l q 11).1== -1):=rfl;cases h7:((nV k l q 7).1==(nV k l q 6).1)
   all_goals
    simp only[C9,Dt,Cx,CB,Jy k hk2 h q q2,Cy,f2];by_cases hf:fV k l q 11<0
    ·rw[CK (show ¬fV k l q 11≥0 by omega),if_pos hf,if_pos hf]
     cases b'<;>cases(nV k l q 5).2<;>cases(nV k l q 6).2<;>cases(nV k l q 7).2<;>cases(nV k l q 9).2<;>rfl
    ·rw[CP (show fV k l q 11≥0 by omega),if_neg hf,if_neg hf,hbne]
     simp only[Cx,Jy k hk2 h q q2,Cy,cst];cases b'<;>cases(nV k l q 5).2<;>cases(nV k l q 6).2<;>cases(nV k l q 7).2<;>cases(nV k l q 9).2<;>cases(nV k l q 11).2<;>cases((nV k l q 11).1== -1)<;>rfl
  unfold Dl.d18;have hm1:(((nV k l q 1).1 !=lf.1))= !((nV k l q 1).1==lf.1):=rfl;have We:(((nV k l q 4).1 !=0))= !((nV k l q 4).1==0):=rfl;simp only[Jy k hk2 h q q2,Cy,hm1,We,Cx,p2,Wn]
  have hfin:FC k l s false a j=((pV k l q 2 5).1&&(pV k l q 3 8).1&&((nV k l q 1).2&&((nV k l q 1).1==lf.1))&&((nV k l q 4).2&&((nV k l q 4).1==0))&&decide ((pV k l q 3 8).2.map (GH l)=Dh k s j)&&
   ((nV k l q 5).2&&(nV k l q 6).2&&((nV k l q 7).2&&((nV k l q 7).1==(nV k l q 6).1))&&(nV k l q 9).2&&(if fV k l q 11<0 then true else(nV k l q 11).2&&((nV k l q 11).1 != -1)))):=by
   unfold FC;rw[ho,if_neg (by omega),hlf];simp only[Bool.and_assoc,Bool.false_eq_true,if_false]
  generalize hC:((nV k l q 5).2&&(nV k l q 6).2&&((nV k l q 7).2&&((nV k l q 7).1==(nV k l q 6).1))&&(nV k l q 9).2&&(if fV k l q 11<0 then true else(nV k l q 11).2&&((nV k l q 11).1 != -1)))=C at tail hfin;rw[hfin];generalize(pV k l q 2 5).1=x1;generalize(pV k l q 3 8).1=x2;generalize(nV k l q 1).2=x3;generalize(nV k l q 4).2=x4;generalize decide ((pV k l q 3 8).2.map (GH l)=Dh k s j)=x5;generalize((nV k l q 4).1==0)=x7;cases((nV k l q 1).1==lf.1) with
  |false=>
   simp only[Dt,Cx];refine(tail true).trans ?_;cases b<;>cases x1<;>cases x2<;>cases x3<;>cases x4<;>cases x5<;>cases x7<;>cases C<;>rfl
  |true=>
   simp only[C9,CB];cases x7 with
   |false=>
    simp only[Dt,Cx];refine(tail true).trans ?_;cases b<;>cases x1<;>cases x2<;>cases x3<;>cases x4<;>cases x5<;>cases C<;>rfl
   |true=>
    simp only[C9,CB];cases x5 with
    |false=>
     simp only[Dt,Cx];refine(tail true).trans ?_;cases b<;>cases x1<;>cases x2<;>cases x3<;>cases x4<;>cases C<;>rfl
    |true=>
     simp only[C9,CB];refine(tail _).trans ?_;cases b<;>cases x1<;>cases x2<;>cases x3<;>cases x4<;>cases C<;>rfl
end
section
variable(k:Nat)(hk:2000000≤k){l:List Cu}{af:List Int}(h:Ey l af)
include hk h
theorem Ws(q:Nat)(hq:q<l.length):∃O,Ir k l (q:Int) [1,4,5,6,7,9]=some (((),(nV k l q 1).2&&((nV k l q 4).2&&((nV k l q 5).2&&((nV k l q 6).2&&((nV k l q 7).2&&(nV k l q 9).2))))),O)∧
 (((nV k l q 1).2&&((nV k l q 4).2&&((nV k l q 5).2&&((nV k l q 6).2&&((nV k l q 7).2&&(nV k l q 9).2)))))=true→O=[(nV k l q 1).1,(nV k l q 4).1,(nV k l q 5).1,(nV k l q 6).1,(nV k l q 7).1,(nV k l q 9).1]):=by
 have n1:=fun id=>(Jz k (by omega) h q hq id).1
 have key:∀f,7≤f→∃O,Ir.l3 k f l (q:Int) [1,4,5,6,7,9] 0 []=some (((),(nV k l q 1).2&&((nV k l q 4).2&&((nV k l q 5).2&&((nV k l q 6).2&&((nV k l q 7).2&&(nV k l q 9).2))))),O)∧
  (((nV k l q 1).2&&((nV k l q 4).2&&((nV k l q 5).2&&((nV k l q 6).2&&((nV k l q 7).2&&(nV k l q 9).2)))))=true→O=[(nV k l q 1).1,(nV k l q 4).1,(nV k l q 5).1,(nV k l q 6).1,(nV k l q 7).1,(nV k l q 9).1]):=by
  intro f hf;obtain⟨f,rfl⟩:∃g,f=g+7:=⟨f-7,by omega⟩;have r0:h_ [(1:Int),4,5,6,7,9] 0=some 1:=rfl;have r1:h_ [(1:Int),4,5,6,7,9] 1=some 4:=rfl;have r2:h_ [(1:Int),4,5,6,7,9] 2=some 5:=rfl;have r3:h_ [(1:Int),4,5,6,7,9] 3=some 6:=rfl;have r4:h_ [(1:Int),4,5,6,7,9] 4=some 7:=rfl;have r5:h_ [(1:Int),4,5,6,7,9] 5=some 9:=rfl;have w0:IntKind.wrap .i64 (0+1)=1:=by decide
  have w1:IntKind.wrap .i64 (1+1)=2:=by decide
  have w2:IntKind.wrap .i64 (2+1)=3:=by decide
  have w3:IntKind.wrap .i64 (3+1)=4:=by decide
  have w4:IntKind.wrap .i64 (4+1)=5:=by decide
  have w5:IntKind.wrap .i64 (5+1)=6:=by decide
  have L6:(([(1:Int),4,5,6,7,9].length:Nat):Int)=6:=rfl;simp only[Ir.l3,L6,show decide ((0:Int)<6)=true by decide,show decide ((1:Int)<6)=true by decide,show decide ((2:Int)<6)=true by decide,show decide ((3:Int)<6)=true by decide,show decide ((4:Int)<6)=true by decide,show decide ((5:Int)<6)=true by decide,show decide ((6:Int)<6)=false by decide,Cx,CB,r0,r1,r2,r3,r4,r5,w0,w1,w2,w3,w4,w5,Cy,n1];cases(nV k l q 1).2 with
  |false=>exact⟨_,rfl,fun h=>by cases h⟩
  |true=>
   simp only[C9,CB,ER];rw[Da (by simp),Cx];cases(nV k l q 4).2 with
   |false=>exact⟨_,rfl,fun h=>by cases h⟩
   |true=>
    simp only[C9,CB,ER];rw[Da (by simp),Cx];cases(nV k l q 5).2 with
    |false=>exact⟨_,rfl,fun h=>by cases h⟩
    |true=>
     simp only[C9,CB,ER];rw[Da (by simp),Cx];cases(nV k l q 6).2 with
     |false=>exact⟨_,rfl,fun h=>by cases h⟩
     |true=>
      simp only[C9,CB,ER];rw[Da (by simp),Cx];cases(nV k l q 7).2 with
      |false=>exact⟨_,rfl,fun h=>by cases h⟩
      |true=>
       simp only[C9,CB,ER];rw[Da (by simp),Cx];cases(nV k l q 9).2 with
       |false=>exact⟨_,rfl,fun h=>by cases h⟩
       |true=>
        simp only[C9,CB];rw[Da (by simp),Cx];exact⟨_,rfl,fun _=>rfl⟩
 exact key k (by omega)
theorem XZ(q:Nat)(hq:q<l.length)(Ct Cw c:Int×Int×Int×Int×Int×Unit×Unit)(E:List Int)(hE:E.length≤1500)(hm:∀p,p∈E→0≤p∧p<(l.length:Int))(CJ CL:List Int):∀(post pre:List Int) (f:Nat) (o:List Int),E=pre++post→post.length<f→o.length≤pre.length→
 CZ.Gp k f l (q:Int) (pre.length:Int) Ct Cw E c CJ CL o=if fV k l q 11<0 then some ((c,true),o++post.map (HV l)) else if((nV k l q 11).2&&decide (0≤(nV k l q 11).1))=true then some (((c.1,c.2.1,(nV k l q 11).1,c.2.2.2.1,c.2.2.2.2.1,(),()),true),o++post.map (HV l)) else some ((Cw,false),CL):=by
 intro post
 induction post with
 |nil=>
  intro pre f o h' hf ho;obtain⟨f,rfl⟩:∃q,f=q+1:=⟨f-1,by omega⟩;have hlen:E.length=pre.length:=by rw[h'];simp
  obtain⟨f1,_,_⟩:=Jq k (by omega) h q hq 11;obtain⟨n1,_,_⟩:=Jz k (by omega) h q hq 11;simp only[CZ.Gp,CK (show ¬((pre.length:Int)<(E.length:Int)) by omega),CB,List.map_nil,DY,f1,n1,Cy,CZ.J_,cst];by_cases hf:fV k l q 11<0
  ·rw[CK (show ¬fV k l q 11≥0 by omega),if_pos hf];rfl
  ·rw[CP (show fV k l q 11≥0 by omega),if_neg hf]
   simp only[Cx];by_cases hx:0≤(nV k l q 11).1
   ·rw[CP hx,CK (show ¬(nV k l q 11).1<0 by omega)]
    cases(nV k l q 11).2<;>rfl
   ·rw[CK hx,CP (show(nV k l q 11).1<0 by omega)]
    cases(nV k l q 11).2<;>rfl
 |cons x post ih=>
  intro pre f o h' hf ho;simp only[D9] at hf;obtain⟨f,rfl⟩:∃q,f=q+1:=⟨f-1,by omega⟩;have hlen:E.length=pre.length+(post.length+1):=by rw[h'];simp
  have hg:h_ E (pre.length:Int)=some x:=by rw[h'];exact Gx _ _ _
  have hi1:IntKind.wrap .i64 ((pre.length:Int)+1)=((pre.length+1:Nat):Int):=by rw[CO (by omega) (by omega)];omega
  obtain⟨x0,x1⟩:=hm x (by rw[h'];simp);obtain⟨d,hd,_⟩:=FT x0 x1;have hi:=ih (pre++[x]) f (o++[d.2.2.1]) (by rw[h'];simp) (by omega) (by simp;omega);rw[Dq,DZ] at hi;simp only[CZ.Gp,CP (show(pre.length:Int)<(E.length:Int) by omega),Cx,hg,hd,Cy,hi1];rw[Da (by simp;omega),Cx,hi];simp[HV,hd]
theorem X9(q:Nat)(j:Int)(Ct Cw:Int×Int×Int×Int×Int×Unit×Unit)(O EP E:List Int)(hE:E.length≤1500)(hm:∀p,p∈E→0≤p∧p<(l.length:Int))(N:List ByteArray)(hN:N.length=E.length)(CW CF:List Int):∀(m f i:Nat),i+m=E.length→m<f→
 CZ.C_ k f l j (q:Int) (i:Int) Ct Cw O EP E N CW CF=if(E.drop i).map (GH l)=N.drop i then((h_ O 5).bind fun y9=>(h_ O 2).bind fun Hl=>(h_ O 3).bind fun IV=>CZ.Gp k k l (q:Int) 0 Ct Cw EP (j,y9,(-1),Hl,IV,(),()) CW CF []) else some ((Cw,false),CF):=by
 intro m
 induction m with
 |zero=>
  intro f i hi hf;obtain⟨f,rfl⟩:∃q,f=q+1:=⟨f-1,by omega⟩;simp only[CZ.C_,CK (show ¬((i:Int)<(E.length:Int)) by omega),CB];rw[List.drop_eq_nil_of_le (by omega),List.drop_eq_nil_of_le (by omega),List.map_nil,if_pos rfl]
 |succ m ih=>
  intro f i hi hf;obtain⟨f,rfl⟩:∃q,f=q+1:=⟨f-1,by omega⟩;have ha:=Es (show i<E.length by omega);have hb:=Es (show i<N.length by omega);have hi1:IntKind.wrap .i64 ((i:Int)+1)=((i+1:Nat):Int):=by rw[CO (by omega) (by omega)];omega
  have da:=List.drop_eq_getElem_cons (show i<E.length by omega);have db:=List.drop_eq_getElem_cons (show i<N.length by omega);rw[da,db];obtain⟨x0,x1⟩:=hm _ (List.mem_of_getElem? ha);generalize E[i]'_=x at ha x0 x1;generalize N[i]'_=y at hb;obtain⟨d,hd,_⟩:=FT x0 x1;simp only[CZ.C_,CP (show(i:Int)<(E.length:Int) by omega),Cx,Dv,ha,hb,hd,Cy,G5,hi1,List.map_cons];have ht:GH l x=d.2.2.2.1:=by unfold GH;rw[hd];rfl
  rw[ht];by_cases hxy:d.2.2.2.1=y
  ·rw[hxy,CP rfl]
   simp only[C9,CB,List.cons.injEq,true_and];rw[ih f (i+1) (by omega) (by omega)]
  ·rw[CK hxy,if_neg (fun e=>hxy (List.cons.inj e).1)]
   rfl
variable(s:List Cv)(hn:∀c,c∈s→c.1.size<k∧c.1.size<1000000000∧CY c.2.2.2.1)(hS:Fj s)(hok:EB k s=some true)(hok2:EZ k s=some true)
include hn hS hok hok2
theorem XY(a:Nat)(ha:a<l.length)(j:Nat)(hj:j<(Dk 0 s).length):
 ∃hd E,CZ k l (a:Int) s (j:Int)=some ((hd,FC k l s true a j),E)∧
  (FC k l s true a j=true→hd=((Ep k l a j).1,(Ep k l a j).2.1,(Ep k l a j).2.2.1,(Ep k l a j).2.2.2.1,(Ep k l a j).2.2.2.2.1,(),())∧E=(Ep k l a j).2.2.2.2.2.1):=by
 have hk2:2000≤k:=by omega
 obtain⟨g1,_,g3⟩:=Jq k hk2 h a ha 3;unfold CZ;simp only[g1,Cy];rcases LU k hk h a ha with⟨ho,_⟩|⟨q,ho,q1,q2,q3,n,hnq,h12⟩
 ·have hbad:(cond (decide (fV k l a 3<0)) (some true) ((h_ l (fV k l a 3)).bind fun J3=>some (J3.1 !=12)))=some true:=by
   rcases g3 with g3|⟨q,g3,q1,q2⟩
   ·rw[g3];rfl
   ·rw[g3,CK (by omega),CB,Dv,Es q2]
    unfold El at ho;rw[g3,if_neg (by omega),Dv,Es q2] at ho;simp only[Option.map_some,Option.getD_some] at ho;split at ho
    ·omega
    ·rename_i h12
     simp only[Cy,EF h12]
  rw[hbad];have hI:FC k l s true a j=false:=by
   unfold FC;rw[ho,if_pos (by omega)]
  rw[hI];simp only[Cy,Cx];exact⟨_,_,rfl,fun h=>by cases h⟩
 ·have hgood:(cond (decide (fV k l a 3<0)) (some true) ((h_ l (fV k l a 3)).bind fun J3=>some (J3.1 !=12)))=some false:=by
   rw[q3,CK (by omega),CB,Dv,hnq];simp only[Cy,DL h12]
  obtain⟨O,i1,i2⟩:=Ws k hk h q q2;obtain⟨p1,_,p3⟩:=NN k hk h s hn hS hok hok2 j;obtain⟨b1,_,m1,m2⟩:=HY k hk2 h q q2 2 5;obtain⟨b2,_,m3,m4⟩:=HY k hk2 h q q2 3 8;obtain⟨_,v2⟩:=Hw k (by omega) s (by have:=hS.2.1;omega);obtain⟨lf,lb,e1,_,e3⟩:=JR k s hn hk hS hok hok2 (j:Int);have hlb:lb=true:=by
   unfold IL H7 at e1;rw[hok] at e1;have hll:=Gq 0 s;have Gl:=hS.2.1;simp only[Cy,C9,CB,v2,FE] at e1;rw[CO (by omega) (by omega),show(decide ((0:Int)≤(j:Int))&&decide ((j:Int)≤((Dk 0 s).length:Int)-1))=true by simp;omega] at e1;simp only[C9,CB] at e1;cases h1:h_ (Dk 0 s) (j:Int) with
   |none=>rw[h1] at e1;cases e1
   |some x=>
    rw[h1] at e1;simp only[Cy] at e1;cases h2:Fy k s x with
    |none=>rw[h2] at e1;cases e1
    |some y=>
     rw[h2] at e1;simp only[Cy] at e1;cases h3:h_ s x with
     |none=>rw[h3] at e1;cases e1
     |some z=>
      rw[h3] at e1;simp only[Cy,HZ,Prod.mk.injEq] at e1;exact e1.2.symm
  obtain⟨L,c,hL,hc,_,_,hlf⟩:=e3 hlb;have Wd:DX k s j=c.2.1:=by unfold DX;rw[e1,hlf];rfl
  have hcr:h_ s ((L:Nat):Int)=some c:=hc;rw[hgood,q3];simp only[Cy,CB,i1,b1,b2,p1,CZ.d9,Cx,v2,hL,hcr]
  have hI:FC k l s true a j=((((nV k l q 1).2&&((nV k l q 4).2&&((nV k l q 5).2&&((nV k l q 6).2&&((nV k l q 7).2&&(nV k l q 9).2)))))&&(pV k l q 2 5).1&&(pV k l q 3 8).1&&((nV k l q 1).1==c.2.1)&&((nV k l q 4).1==0)&&((nV k l q 6).1==(nV k l q 7).1))&&
   decide ((pV k l q 3 8).2.map (GH l)=Dh k s j)&&(if fV k l q 11<0 then true else(nV k l q 11).2&&decide (0≤(nV k l q 11).1))):=by
   unfold FC;rw[ho,if_neg (by omega),Wd,show((nV k l q 7).1==(nV k l q 6).1)=((nV k l q 6).1==(nV k l q 7).1) from by rw[Bool.eq_iff_iff];simp;omega];simp only[if_true];generalize(nV k l q 1).2=x1;generalize(nV k l q 4).2=x2;generalize(nV k l q 5).2=x3;generalize(nV k l q 6).2=x4;generalize(nV k l q 7).2=x5;generalize(nV k l q 9).2=x6;generalize(pV k l q 2 5).1=x7;generalize(pV k l q 3 8).1=x8;cases x1<;>cases x2<;>cases x3<;>cases x4<;>cases x5<;>cases x6<;>cases x7<;>cases x8<;>simp[Bool.and_assoc,Bool.and_comm,Bool.and_left_comm]
  rw[hI];clear hI;generalize hA:((nV k l q 1).2&&((nV k l q 4).2&&((nV k l q 5).2&&((nV k l q 6).2&&((nV k l q 7).2&&(nV k l q 9).2)))))=A at i2;cases A with
  |false=>
   simp only[Dt,Cx,Gz];exact⟨_,_,rfl,fun h=>by cases h⟩
  |true=>
   obtain rfl:=i2 rfl;simp only[C9,CB,ER];cases(pV k l q 2 5).1 with
   |false=>
    simp only[Dt,Cx,Gz];exact⟨_,_,rfl,fun h=>by cases h⟩
   |true=>
    simp only[C9,CB,ER];cases(pV k l q 3 8).1 with
    |false=>
     simp only[Dt,Cx,Gz];exact⟨_,_,rfl,fun h=>by cases h⟩
    |true=>
     simp only[C9,CB,ER];by_cases hlen:(pV k l q 3 8).2.length=(Dh k s j).length
     ·have r0:h_ [(nV k l q 1).1,(nV k l q 4).1,(nV k l q 5).1,(nV k l q 6).1,(nV k l q 7).1,(nV k l q 9).1] 0=some (nV k l q 1).1:=rfl
      have r1:h_ [(nV k l q 1).1,(nV k l q 4).1,(nV k l q 5).1,(nV k l q 6).1,(nV k l q 7).1,(nV k l q 9).1] 1=some (nV k l q 4).1:=rfl;have r2:h_ [(nV k l q 1).1,(nV k l q 4).1,(nV k l q 5).1,(nV k l q 6).1,(nV k l q 7).1,(nV k l q 9).1] 2=some (nV k l q 5).1:=rfl;have r3:h_ [(nV k l q 1).1,(nV k l q 4).1,(nV k l q 5).1,(nV k l q 6).1,(nV k l q 7).1,(nV k l q 9).1] 3=some (nV k l q 6).1:=rfl;have r4:h_ [(nV k l q 1).1,(nV k l q 4).1,(nV k l q 5).1,(nV k l q 6).1,(nV k l q 7).1,(nV k l q 9).1] 4=some (nV k l q 7).1:=rfl;have r5:h_ [(nV k l q 1).1,(nV k l q 4).1,(nV k l q 5).1,(nV k l q 6).1,(nV k l q 7).1,(nV k l q 9).1] 5=some (nV k l q 9).1:=rfl;rw[DL (show((pV k l q 3 8).2.length:Int)=((Dh k s j).length:Int) by omega)];simp only[CB,r0,r1,r3,r4,Cy,bne];cases((nV k l q 1).1==c.2.1) with
      |false=>
       simp only[Dt,Cx,Gz];exact⟨_,_,rfl,fun h=>by cases h⟩
      |true=>
       simp only[C9,CB,ER];cases((nV k l q 4).1==0) with
       |false=>
        simp only[Dt,Cx,Gz];exact⟨_,_,rfl,fun h=>by cases h⟩
       |true=>
        simp only[C9,CB,ER];cases((nV k l q 6).1==(nV k l q 7).1) with
        |false=>
         simp only[Dt,Cx,Gz];exact⟨_,_,rfl,fun h=>by cases h⟩
        |true=>
         simp only[C9,CB,ER];have lp:=X9 k hk h q (j:Int) (0,0,0,0,0,(),()) (0,0,0,0,0,(),()) [(nV k l q 1).1,(nV k l q 4).1,(nV k l q 5).1,(nV k l q 6).1,(nV k l q 7).1,(nV k l q 9).1] (pV k l q 2 5).2 (pV k l q 3 8).2 m3 m4 (Dh k s j) hlen.symm [] [] (pV k l q 3 8).2.length k 0 (by omega) (by omega);rw[show((0:Nat):Int)=0 from rfl] at lp;rw[lp,List.drop_zero,List.drop_zero];by_cases hp:(pV k l q 3 8).2.map (GH l)=Dh k s j
         ·rw[if_pos hp,CP hp]
          simp only[r5,r2,r3,Cy,ER];have le:=XZ k hk h q q2 (0,0,0,0,0,(),()) (0,0,0,0,0,(),()) ((j:Int),(nV k l q 9).1,(-1),(nV k l q 5).1,(nV k l q 6).1,(),()) (pV k l q 2 5).2 m1 m2 [] [] (pV k l q 2 5).2 [] k [] rfl (by omega) (by simp);rw[List.length_nil,show((0:Nat):Int)=0 from rfl] at le;rw[le];have hch:Ep k l a j=((j:Int),(nV k l q 9).1,(if fV k l q 11<0 then -1 else(nV k l q 11).1),(nV k l q 5).1,(nV k l q 6).1,(pV k l q 2 5).2.map (HV l),()):=by
           unfold Ep;rw[ho,if_neg (by omega)]
          rw[hch];by_cases hf:fV k l q 11<0
          ·simp only[if_pos hf,List.nil_append]
           exact⟨_,_,rfl,fun _=>⟨rfl,rfl⟩⟩
          ·simp only[if_neg hf,List.nil_append]
           cases hd:((nV k l q 11).2&&decide (0≤(nV k l q 11).1)) with
           |false=>
            rw[if_neg (by decide)];exact⟨_,_,rfl,fun h=>by cases h⟩
           |true=>
            rw[if_pos rfl];exact⟨_,_,rfl,fun _=>⟨rfl,rfl⟩⟩
         ·rw[if_neg hp,CK hp]
          simp only[Gz];exact⟨_,_,rfl,fun h=>by cases h⟩
     ·rw[EF (show ¬((pV k l q 3 8).2.length:Int)=((Dh k s j).length:Int) by omega)]
      have hp:¬(pV k l q 3 8).2.map (GH l)=Dh k s j:=fun e=>hlen (by rw[←e,List.length_map]);rw[CK hp];simp only[Cx,Bool.and_false,Gz];exact⟨_,_,rfl,fun h=>by cases h⟩
end
section
variable(k:Nat)
theorem Px(c:Dg)(hc:c.2.2.2.2.2.1.length<k)(hl:c.2.2.2.2.2.1.length<4294967296):∀(m f f' i:Nat),i+m=c.2.2.2.2.2.1.length→m<f→m<f'→
 ∃b,Fa.l4 k f (i:Int) c=some b∧Ib.l2 k f' c.2.2.2.2.2.1 c.2.2.2.2.2.1 (c.2.2.2.2.2.1.length:Int) (i:Int)=some (b&&(decide ((1:Int)≤(c.2.2.2.2.2.1.length:Int))&&decide ((c.2.2.2.2.2.1.length:Int)≤5))):=by
 intro m
 induction m with
 |zero=>
  intro f f' i hi hf hf';obtain⟨f,rfl⟩:∃q,f=q+1:=⟨f-1,by omega⟩;obtain⟨f',rfl⟩:∃q,f'=q+1:=⟨f'-1,by omega⟩;simp only[Fa.l4,Ib.l2,CK (show ¬((i:Int)<(c.2.2.2.2.2.1.length:Int)) by omega),CB,Gh,Cy];exact⟨true,rfl,by rw[ER]⟩
 |succ m ih=>
  intro f f' i hi hf hf';obtain⟨f,rfl⟩:∃q,f=q+1:=⟨f-1,by omega⟩;obtain⟨f',rfl⟩:∃q,f'=q+1:=⟨f'-1,by omega⟩;obtain⟨x,hx,_⟩:=FT (xs:=c.2.2.2.2.2.1) (i:=(i:Int)) (by omega) (by omega);have hi1:IntKind.wrap .i64 ((i:Int)+1)=((i+1:Nat):Int):=by rw[CO (by omega) (by omega)];omega
  obtain⟨b,g1,g2⟩:=ih f f' (i+1) (by omega) (by omega) (by omega);simp only[Fa.l4,Ib.l2,CP (show(i:Int)<(c.2.2.2.2.2.1.length:Int) by omega),Cx,Fa.d6,hx,Cy,Gh,FE,hi1,g1,g2];cases(decide ((0:Int)≤x)&&decide (x≤9)) with
  |false=>
   simp only[Dt,Cx,Cy];exact⟨false,rfl,by rw[Gz]⟩
  |true=>
   simp only[C9,CB];by_cases h0:(i:Int)>0
   ·obtain⟨y,hy,_⟩:=FT (xs:=c.2.2.2.2.2.1) (i:=(i:Int)-1) (by omega) (by omega)
    have hm1:IntKind.wrap .i64 ((i:Int)-1)=(i:Int)-1:=CO (by omega) (by omega);simp only[CP h0,Cx,hm1,hy,Cy];cases decide (y≥x) with
    |true=>
     simp only[Cx];exact⟨false,rfl,by rw[Gz]⟩
    |false=>
     simp only[CB];exact⟨b,rfl,rfl⟩
   ·simp only[CK h0,CB,Cy]
    exact⟨b,rfl,rfl⟩
theorem chunk_eq(c:Dg)(hc:c.2.2.2.2.2.1.length<k)(hl:c.2.2.2.2.2.1.length<4294967296)(leaf:Int):∃b,Fa k c leaf=some b∧Kn k c leaf=some b∧(b=true→-1≤c.2.2.1):=by
 obtain⟨b,g1,g2⟩:=Px k c hc hl c.2.2.2.2.2.1.length k k 0 (by omega) hc hc;rw[show((0:Nat):Int)=0 from rfl] at g1 g2;unfold Fa Kn Ib;simp only[FE,Gh,Cy,cst,E8,g1,g2];generalize h2:(decide ((0:Int)≤c.2.1)&&decide (c.2.1≤60000))=x2;generalize h3:(decide ((-1:Int)≤c.2.2.1)&&decide (c.2.2.1≤60000))=x3;generalize(decide ((1:Int)≤c.2.2.2.1)&&decide (c.2.2.2.1≤2000))=x4;generalize(decide ((0:Int)≤c.2.2.2.2.1)&&decide (c.2.2.2.2.1≤60000))=x5;generalize(decide ((1:Int)≤(c.2.2.2.2.2.1.length:Int))&&decide ((c.2.2.2.2.2.1.length:Int)≤5))=x6;simp only[bne];generalize(c.1==leaf)=x1;have hd:x3=true→-1≤c.2.2.1:=fun h=>by
  rw[h] at h3;simp only[Dn,DN] at h3;exact h3.1
 clear g1 g2 h2 h3;cases x1<;>cases x2<;>cases x3<;>cases x4<;>cases x5<;>cases x6<;>cases b<;>first|exact⟨_,rfl,rfl,fun _=>hd rfl⟩|exact⟨_,rfl,rfl,fun h=>Bool.noConfusion h⟩
end
def Mv(n:Nat)(G:List CU):Prop:=∀g,g∈G→g.2.1.length=n∧∀c,c∈g.2.1→-1≤c.2.2.1
def Fit(k:Nat)(G:List CU):Prop:=∀g,g∈G→g.2.1.length<k∧g.2.1.length<4294967296∧∀c,c∈g.2.1→c.2.2.2.2.2.1.length<k∧c.2.2.2.2.2.1.length<4294967296
section
variable(k:Nat)(hk:2000≤k)(s:List Cv)(hok:EB k s=some true)(hok2:EZ k s=some true)(hs:s.length≤1000)
include hk hok hok2 hs
theorem OV(m:DJ)(g:CU)(L6:Int→Int→DJ→List Int→Option Bool)(L5:Int→List CU→Int→Int→DJ→Option Bool)(hfit:g.2.1.length<4294967296∧∀c,c∈g.2.1→c.2.2.2.2.2.1.length<k∧c.2.2.2.2.2.1.length<4294967296)
 (t4 t5:Int) (Cw:List Int) (t3:Int) (t19:List CU) (t20 t21:Int) (x y:Bool) (h6:L6 t4 (IntKind.wrap .i64 (t5+1)) m Cw=some x) (h5:L5 (IntKind.wrap .i64 (t3+g.1)) t19 t20 (IntKind.wrap .i64 (t21+1)) m=some y):
 ∀(post pre:List Dg) (f f':Nat),g.2.1=pre++post→post.length<f→post.length<f'→
 ∃b,Ea.FP k L6 f t4 t5 (pre.length:Int) m Cw g=some (b&&x)∧Eg.l10 k L5 f' t3 t19 t20 t21 g.2.1 (g.2.1.length:Int) (pre.length:Int) m g=some (b&&y)∧(b=true→∀c,c∈post→-1≤c.2.2.1):=by
 intro post
 induction post with
 |nil=>
  intro pre f f' h hf hf';obtain⟨f,rfl⟩:∃q,f=q+1:=⟨f-1,by omega⟩;obtain⟨f',rfl⟩:∃q,f'=q+1:=⟨f'-1,by omega⟩;have hlen:g.2.1.length=pre.length:=by rw[h];simp
  simp only[Ea.FP,Eg.l10,CK (show ¬((pre.length:Int)<(g.2.1.length:Int)) by omega),CB,h6,h5];exact⟨true,by simp,by simp,fun _ c hc=>by cases hc⟩
 |cons c post ih=>
  intro pre f f' h hf hf';simp only[D9] at hf hf';obtain⟨f,rfl⟩:∃q,f=q+1:=⟨f-1,by omega⟩;obtain⟨f',rfl⟩:∃q,f'=q+1:=⟨f'-1,by omega⟩;have hlen:g.2.1.length=pre.length+(post.length+1):=by rw[h];simp
  have hg:h_ g.2.1 (pre.length:Int)=some c:=by rw[h];exact Gx _ _ _
  have hi1:IntKind.wrap .i64 ((pre.length:Int)+1)=((pre.length+1:Nat):Int):=by rw[CO (by omega) (by omega)];omega
  have hcm:c∈g.2.1:=by rw[h];simp
  obtain⟨b,e1,e2,e3⟩:=chunk_eq k c (hfit.2 c hcm).1 (hfit.2 c hcm).2 (pre.length:Int);obtain⟨b',i1,i2,i3⟩:=ih (pre++[c]) f f' (by rw[h];simp) (by omega) (by omega);rw[Dq,DZ] at i1 i2;simp only[Ea.FP,Eg.l10,CP (show(pre.length:Int)<(g.2.1.length:Int) by omega),Cx,hg,Cy,e1,e2,hi1,i1,i2];cases b with
  |false=>exact⟨false,rfl,rfl,fun h=>by cases h⟩
  |true=>
   refine⟨b',rfl,rfl,fun hb c' hc'=> ?_⟩;rcases List.mem_cons.1 hc' with rfl|hc'
   ·exact e3 rfl
   ·exact i3 hb c' hc'
theorem VQ(m:DJ)(hm:m.1=s)(hfit:Fit k m.2.2.1)(hG:m.2.2.1.length≤40):∀(post pre:List CU) (f f':Nat) (R:Int),m.2.2.1=pre++post→post.length<f→post.length<f'→0≤R→R≤200*pre.length→
 ∃b,Ea.l6 k f R (pre.length:Int) m (Dk 0 s)=some b∧Eg.l5 k f' R m.2.2.1 (m.2.2.1.length:Int) (pre.length:Int) m=some (b&&decide (m.2.1≤200))∧(b=true→0≤m.2.1∧Mv (Dk 0 s).length post):=by
 obtain⟨v1,v2⟩:=Hw k hk s hs;intro post
 induction post with
 |nil=>
  intro pre f f' R h hf hf' h0 hR;obtain⟨f,rfl⟩:∃q,f=q+1:=⟨f-1,by omega⟩;obtain⟨f',rfl⟩:∃q,f'=q+1:=⟨f'-1,by omega⟩;have hlen:m.2.2.1.length=pre.length:=by rw[h];simp
  simp only[Ea.l6,Eg.l5,CK (show ¬((pre.length:Int)<(m.2.2.1.length:Int)) by omega),CB,E8,Cy];refine⟨_,rfl,?_,fun hb=>⟨?_,fun g hg=>by cases hg⟩⟩
  ·by_cases he:R=m.2.1
   ·rw[Ez he,he]
   ·rw[Df he];rfl
  ·simp only[beq_iff_eq] at hb
   omega
 |cons g post ih=>
  intro pre f f' R h hf hf' h0 hR;simp only[D9] at hf hf';obtain⟨f,rfl⟩:∃q,f=q+1:=⟨f-1,by omega⟩;obtain⟨f',rfl⟩:∃q,f'=q+1:=⟨f'-1,by omega⟩;have hlen:m.2.2.1.length=pre.length+(post.length+1):=by rw[h];simp
  have hg:h_ m.2.2.1 (pre.length:Int)=some g:=by rw[h];exact Gx _ _ _
  have hgm:g∈m.2.2.1:=by rw[h];simp
  have hi1:IntKind.wrap .i64 ((pre.length:Int)+1)=((pre.length+1:Nat):Int):=by rw[CO (by omega) (by omega)];omega
  simp only[Ea.l6,Eg.l5,CP (show(pre.length:Int)<(m.2.2.1.length:Int) by omega),Cx,hg,Cy,FE,cst,Eg.d7,Gh,hm,v1];by_cases hr:1≤g.1∧g.1≤200
  ·have hw:(decide ((1:Int)≤g.1)&&decide (g.1≤200))=true:=by simp;omega
   have Nt:IntKind.wrap .i64 (R+g.1)=R+g.1:=CO (by omega) (by omega);simp only[hw,C9,E5,CB,Cy];by_cases hn:g.2.1.length=(Dk 0 s).length
   ·rw[DL (show((g.2.1.length:Int))=((Dk 0 s).length:Int) by omega),CB,CB]
    obtain⟨b',i1,i2,i3⟩:=ih (pre++[g]) f f' (R+g.1) (by rw[h];simp) (by omega) (by omega) (by omega) (by simp;omega);rw[Dq,DZ] at i1 i2;obtain⟨b,c1,c2,c3⟩:=OV k hk s hok hok2 hs m g (Ea.l6 k f) (Eg.l5 k f') (hfit g hgm).2 (IntKind.wrap .i64 (R+g.1)) (pre.length:Int) (Dk 0 s) R m.2.2.1 (m.2.2.1.length:Int) (pre.length:Int) b' (b'&&decide (m.2.1≤200)) (by rw[Nt,hi1];exact i1) (by rw[Nt,hi1];exact i2) g.2.1 [] k k rfl (hfit g hgm).1 (hfit g hgm).1;rw[List.length_nil,show((0:Nat):Int)=0 from rfl] at c1 c2;rw[c1,c2];refine⟨_,rfl,by rw[Bool.and_assoc],fun hb=> ?_⟩;simp only[Dn] at hb;obtain⟨q1,q2⟩:=i3 hb.2;refine⟨q1,fun g' hg'=> ?_⟩;rcases List.mem_cons.1 hg' with rfl|hg'
    ·exact⟨hn,c3 hb.1⟩
    ·exact q2 g' hg'
   ·rw[EF (show ¬((g.2.1.length:Int))=((Dk 0 s).length:Int) by omega),Cx,Cx]
    exact⟨false,rfl,rfl,fun h=>by cases h⟩
  ·have hw:(decide ((1:Int)≤g.1)&&decide (g.1≤200))=false:=by
    rw[Bool.eq_false_iff];intro q;simp only[Dn,DN] at q;exact hr q
   simp only[hw,Dt,Gr,Cx];exact⟨false,rfl,rfl,fun h=>by cases h⟩
theorem LJ(rows:Int)(G:List CU)(hfit:Fit k G):∃b,Ea k (s,rows,G,())=some b∧Eg k (s,rows,G,())=some b∧(b=true→G.length≤40∧0≤rows∧rows≤200∧Mv (Dk 0 s).length G):=by
 obtain⟨v1,v2⟩:=Hw k hk s hs;unfold Ea Eg H7;simp only[hok,hok2,v2,Cy,C9,CB,cst,E5,FE];by_cases hG:G.length≤40
 ·rw[CK (show ¬((G.length:Int)>40) by omega)]
  obtain⟨b,e1,e2,e3⟩:=VQ k hk s hok hok2 hs (s,rows,G,()) rfl hfit hG G [] k k 0 rfl (by omega) (by omega) (by omega) (by simp);have e1:Ea.l6 k k 0 0 (s,rows,G,()) (Dk 0 s)=some b:=e1;have e2:Eg.l5 k k 0 G (G.length:Int) 0 (s,rows,G,())=some (b&&decide (rows≤200)):=e2;simp only[E5,CB,e2];by_cases hr:0≤rows∧rows≤200
  ·rw[show(decide ((0:Int)≤rows)&&decide (rows≤200))=true by simp;omega,CP hr.2]
   simp only[C9,CB,Bool.and_true,e1];exact⟨b,rfl,rfl,fun h=>⟨hG,hr.1,hr.2,(e3 h).2⟩⟩
  ·rw[show(decide ((0:Int)≤rows)&&decide (rows≤200))=false by rw[Bool.eq_false_iff];intro q;simp only[Dn,DN] at q;exact hr q]
   simp only[Dt,Cx];refine⟨false,rfl,?_,fun h=>by cases h⟩;cases b with
   |false=>rfl
   |true=>
    have:=(e3 rfl).1;have this:0≤rows:=this;rw[CK (show ¬rows≤200 by omega)];rfl
 ·rw[CP (show((G.length:Int)>40) by omega)]
  exact⟨false,rfl,rfl,fun h=>by cases h⟩
end
def EX(k:Nat)(l:List Cu)(s:List Cv)(strict:Bool):Nat→List Int→Bool
 |_,[]=>true
 |j,p::r=>FC k l s strict p j&&EX k l s strict (j+1) r
def FD(k:Nat)(l:List Cu):Nat→List Int→List Dg
 |_,[]=>[]
 |j,p::r=>Ep k l p j::FD k l (j+1) r
theorem K_(k:Nat)(l:List Cu):∀(r:List Int) (j:Nat),(FD k l j r).length=r.length
 |[],_=>rfl
 |p::r,j=>by simp[FD,K_ k l r (j+1)]
def Ia(k:Nat)(l:List Cu)(s:List Cv)(a:Int):Bool:=(nV k l a 3).2&&(pV k l a 1 12).1&&(EX k l s false 0 (pV k l a 1 12).2&&decide ((pV k l a 1 12).2.length≤20))
def Il(k:Nat)(l:List Cu)(s:List Cv)(a:Int):Bool:=(nV k l a 3).2&&(pV k l a 1 12).1&&(decide ((pV k l a 1 12).2.length=(Dk 0 s).length)&&EX k l s true 0 (pV k l a 1 12).2)
def Gj(k:Nat)(l:List Cu)(a:Int):CU:=((nV k l a 3).1,FD k l 0 (pV k l a 1 12).2,())
abbrev IJ:((Unit×Int×Unit×Unit)×Bool)×(List Cv)×(List CU):=((((),0,(),()),false),([],[]))
section
variable(k:Nat)(hk:2000000≤k){l:List Cu}{af:List Int}(h:Ey l af)
variable(s:List Cv)(hn:∀c,c∈s→c.1.size<k∧c.1.size<1000000000∧CY c.2.2.2.1)(hS:Fj s)(hok:EB k s=some true)(hok2:EZ k s=some true)
include hk h hn hS hok hok2
theorem Wu(Ct Cw:Int×Unit×Unit)(ps:List Int)(hps:ps.length≤1500)(hm:∀p,p∈ps→0≤p∧p<(l.length:Int))(CE:List Dg):∀(post pre:List Int) (f:Nat) (b:Bool) (acc:List Dg),ps=pre++post→post.length<f→acc.length≤pre.length→(b=false→pre.length≤20)→
 ∃acc',F3.l4 k f (ps.length:Int) (pre.length:Int) (mR b) (tB l) af s Ct Cw ps CE acc=some (Cw,(mR (b|| !(EX k l s false pre.length post&&decide (ps.length≤20))),tB l,af,s,acc'))∧((b|| !(EX k l s false pre.length post&&decide (ps.length≤20)))=false→acc'=acc++FD k l pre.length post):=by
 intro post
 induction post with
 |nil=>
  intro pre f b acc h' hf ha hb;obtain⟨f,rfl⟩:∃q,f=q+1:=⟨f-1,by omega⟩;have hlen:ps.length=pre.length:=by rw[h'];simp
  simp only[F3.l4,CK (show ¬((pre.length:Int)<(ps.length:Int)) by omega),CB,F3.c11,EX,FD,DY,ER];cases b with
  |true=>exact⟨_,rfl,fun h=>by cases h⟩
  |false=>
   have:=hb rfl;rw[CP (show ps.length≤20 by omega)];exact⟨_,rfl,fun _=>rfl⟩
 |cons x post ih=>
  intro pre f b acc h' hf ha hb;simp only[D9] at hf;obtain⟨f,rfl⟩:∃q,f=q+1:=⟨f-1,by omega⟩;have hlen:ps.length=pre.length+(post.length+1):=by rw[h'];simp
  have hg:h_ ps (pre.length:Int)=some x:=by rw[h'];exact Gx _ _ _
  have hi1:IntKind.wrap .i64 ((pre.length:Int)+1)=((pre.length+1:Nat):Int):=by rw[CO (by omega) (by omega)];omega
  obtain⟨x0,x1⟩:=hm x (by rw[h'];simp);obtain⟨a,rfl⟩:=Int.eq_ofNat_of_zero_le x0;simp only[F3.l4,CP (show(pre.length:Int)<(ps.length:Int) by omega),Cx,hg,Cy,cst,F3.c11];cases b with
  |true=>
   simp only[Gr,Cx];exact⟨_,rfl,fun h=>by cases h⟩
  |false=>
   simp only[E5];by_cases h20:20≤pre.length
   ·rw[CP (show(pre.length:Int)≥20 by omega),Cx,CK (show ¬ps.length≤20 by omega),Bool.and_false]
    exact⟨_,rfl,fun h=>by cases h⟩
   ·rw[CK (show ¬(pre.length:Int)≥20 by omega),CB,Wq k hk h s hn hS hok hok2 a (by omega) (pre.length:Int) false]
    simp only[Cy,hi1,E5];rw[Da (by simp;omega),Cx];obtain⟨acc',e1,e2⟩:=ih (pre++[(a:Int)]) f (!FC k l s false a pre.length) (acc++[Ep k l a pre.length]) (by rw[h'];simp) (by omega) (by simp;omega) (fun _=>by simp;omega);rw[Dq,DZ] at e1 e2;have hb':((!FC k l s false (a:Int) (pre.length:Int))|| !(EX k l s false (pre.length+1) post&&decide (ps.length≤20)))= !(EX k l s false pre.length ((a:Int)::post)&&decide (ps.length≤20)):=by
     simp only[EX];cases FC k l s false (a:Int) (pre.length:Int)<;>rfl
    rw[hb'] at e1 e2;refine⟨acc',e1,fun hh=> ?_⟩;rw[e2 hh];simp[FD]
theorem NB(a:Nat)(ha:a<l.length)(b:Bool):∃C,F3 k (a:Int) (mR b) (tB l) af s=some (((nV k l a 3).1,(),()),(mR (b|| !Ia k l s a),tB l,af,s,C))∧((b|| !Ia k l s a)=false→C=FD k l 0 (pV k l a 1 12).2):=by
 have hk2:2000≤k:=by omega
 obtain⟨_,_,m1,m2⟩:=HY k hk2 h a ha 1 12;unfold F3;simp only[Jy k hk2 h a ha,Kw k hk2 h a ha,Cy];obtain⟨C,e1,e2⟩:=Wu k hk h s hn hS hok hok2 (0,(),()) ((nV k l a 3).1,(),()) (pV k l a 1 12).2 m1 m2 [] (pV k l a 1 12).2 [] k (b|| !(nV k l a 3).2|| !(pV k l a 1 12).1) [] rfl (by omega) (by simp) (fun _=>by simp);rw[List.length_nil,show((0:Nat):Int)=0 from rfl] at e1;rw[List.length_nil] at e2;have hb:(b|| !(nV k l a 3).2|| !(pV k l a 1 12).1|| !(EX k l s false 0 (pV k l a 1 12).2&&decide ((pV k l a 1 12).2.length≤20)))=(b|| !Ia k l s a):=by
  unfold Ia;cases b<;>cases(nV k l a 3).2<;>cases(pV k l a 1 12).1<;>rfl
 rw[hb] at e1 e2;exact⟨C,e1,fun hh=>by rw[e2 hh];rfl⟩
theorem Wv(Ct Cw:Unit×Int×Unit×Unit)(gs:List Int)(hgs:gs.length≤1500)(hm:∀p,p∈gs→0≤p∧p<(l.length:Int))(CJ:List Cv)(CL:List CU):∀(post pre:List Int) (f:Nat) (b:Bool) (G:List CU),gs=pre++post→post.length<f→G.length≤pre.length→
 Gm.EA k f (gs.length:Int) (pre.length:Int) Ct Cw (mR b) gs CJ CL s G (tB l) af=if(b|| !post.all (Ia k l s))=true then some IJ else(Eg k (s,Cw.2.1,G++post.map (Gj k l),())).bind fun r=>cond (!r) (some IJ) (some ((Cw,true),(s,G++post.map (Gj k l)))):=by
 have bad:∀(post pre:List Int) (f:Nat) (G:List CU),gs=pre++post→post.length<f→G.length≤pre.length→Gm.EA k f (gs.length:Int) (pre.length:Int) Ct Cw (mR true) gs CJ CL s G (tB l) af=some IJ:=by
  intro post
  induction post with
  |nil=>
   intro pre f G h' hf hG;obtain⟨f,rfl⟩:∃q,f=q+1:=⟨f-1,by omega⟩;have hlen:gs.length=pre.length:=by rw[h'];simp
   simp only[Gm.EA,CK (show ¬((pre.length:Int)<(gs.length:Int)) by omega),CB,Cx,Cy]
  |cons x post ih=>
   intro pre f G h' hf hG;simp only[D9] at hf;obtain⟨f,rfl⟩:∃q,f=q+1:=⟨f-1,by omega⟩;have hlen:gs.length=pre.length+(post.length+1):=by rw[h'];simp
   have hg:h_ gs (pre.length:Int)=some x:=by rw[h'];exact Gx _ _ _
   have hi1:IntKind.wrap .i64 ((pre.length:Int)+1)=((pre.length+1:Nat):Int):=by rw[CO (by omega) (by omega)];omega
   obtain⟨x0,x1⟩:=hm x (by rw[h'];simp);obtain⟨a,rfl⟩:=Int.eq_ofNat_of_zero_le x0;obtain⟨C,e1,_⟩:=NB k hk h s hn hS hok hok2 a (by omega) true;simp only[Gm.EA,CP (show(pre.length:Int)<(gs.length:Int) by omega),Cx,hg,Cy,e1,hi1,Gr];rw[Da (by simp;omega),Cx];have:=ih (pre++[(a:Int)]) f (G++[((nV k l a 3).1,C,())]) (by rw[h'];simp) (by omega) (by simp;omega);rw[Dq,DZ] at this;exact this
 intro post
 induction post with
 |nil=>
  intro pre f b G h' hf hG;cases b with
  |true=>rw[bad [] pre f G h' hf hG];rfl
  |false=>
   obtain⟨f,rfl⟩:∃q,f=q+1:=⟨f-1,by omega⟩;have hlen:gs.length=pre.length:=by rw[h'];simp
   simp only[Gm.EA,CK (show ¬((pre.length:Int)<(gs.length:Int)) by omega),CB,List.all_nil,C9,Im,Bool.false_eq_true,if_false,List.map_nil,DY];cases Eg k (s,Cw.2.1,G,()) with
   |none=>rfl
   |some r=>rfl
 |cons x post ih=>
  intro pre f b G h' hf hG;cases b with
  |true=>rw[bad (x::post) pre f G h' hf hG];rfl
  |false=>
   simp only[D9] at hf;obtain⟨f,rfl⟩:∃q,f=q+1:=⟨f-1,by omega⟩;have hlen:gs.length=pre.length+(post.length+1):=by rw[h'];simp
   have hg:h_ gs (pre.length:Int)=some x:=by rw[h'];exact Gx _ _ _
   have hi1:IntKind.wrap .i64 ((pre.length:Int)+1)=((pre.length+1:Nat):Int):=by rw[CO (by omega) (by omega)];omega
   obtain⟨x0,x1⟩:=hm x (by rw[h'];simp);obtain⟨a,rfl⟩:=Int.eq_ofNat_of_zero_le x0;obtain⟨C,e1,e2⟩:=NB k hk h s hn hS hok hok2 a (by omega) false;simp only[Gm.EA,CP (show(pre.length:Int)<(gs.length:Int) by omega),Cx,hg,Cy,e1,hi1,E5];rw[Da (by simp;omega),Cx];have:=ih (pre++[(a:Int)]) f (!Ia k l s a) (G++[((nV k l a 3).1,C,())]) (by rw[h'];simp) (by omega) (by simp;omega);rw[Dq,DZ] at this;rw[this];simp only[List.all_cons,List.map_cons];cases hgr:Ia k l s (a:Int) with
   |false=>rfl
   |true=>
    have hC:=e2 (by rw[hgr];rfl);subst hC;simp only[C9,E5,ER,GA,List.singleton_append];rfl
theorem X4(IY:(List Cu)→Int→(Unit×Int×Unit×Unit)→(Unit×Int×Unit×Unit)→(List Cv)→(List Int)→(Unit×Int×Unit×Unit)→(List Cv)→(List CU)→(List Cv)→(List CU)→(List CU)→Option (((Unit×Int×Unit×Unit)×Bool)×(List Cv)×(List CU)))
 (t12:Int) (Ct:Unit×Int×Unit×Unit) (gs:List Int) (CJ:Unit×Int×Unit×Unit) (ps:List Int) (hps:ps.length=(Dk 0 s).length) (ZK:ps.length≤1500) (hm:∀p,p∈ps→0≤p∧p<(l.length:Int)) (rows:Int) (CF:List Cv) (Gy:List CU) (G:List CU) (hG:G.length≤10000):
 ∀(post pre:List Int) (f:Nat) (acc:List Dg),ps=pre++post→post.length<f→acc.length≤pre.length→
 E_.GX k IY f l t12 (pre.length:Int) Ct ((),0,(),()) s gs CJ ps (rows,(),()) CF Gy [] [] G acc=if EX k l s true pre.length post=true then IY l (IntKind.wrap .i64 (t12+1)) Ct ((),0,(),()) s gs CJ CF Gy [] [] (G++[(rows,acc++FD k l pre.length post,())]) else some IJ:=by
 intro post
 induction post with
 |nil=>
  intro pre f acc h' hf ha;obtain⟨f,rfl⟩:∃q,f=q+1:=⟨f-1,by omega⟩;have hlen:ps.length=pre.length:=by rw[h'];simp
  simp only[E_.GX,CK (show ¬((pre.length:Int)<(ps.length:Int)) by omega),CB,EX,FD,DY,if_true];rw[Da (by simp;omega),Cx]
 |cons x post ih=>
  intro pre f acc h' hf ha;simp only[D9] at hf;obtain⟨f,rfl⟩:∃q,f=q+1:=⟨f-1,by omega⟩;have hlen:ps.length=pre.length+(post.length+1):=by rw[h'];simp
  have hg:h_ ps (pre.length:Int)=some x:=by rw[h'];exact Gx _ _ _
  have hi1:IntKind.wrap .i64 ((pre.length:Int)+1)=((pre.length+1:Nat):Int):=by rw[CO (by omega) (by omega)];omega
  obtain⟨x0,x1⟩:=hm x (by rw[h'];simp);obtain⟨a,rfl⟩:=Int.eq_ofNat_of_zero_le x0;obtain⟨hd,E,e1,e2⟩:=XY k hk h s hn hS hok hok2 a (by omega) pre.length (by omega);simp only[E_.GX,CP (show(pre.length:Int)<(ps.length:Int) by omega),Cx,hg,Cy,e1,hi1,EX];by_cases hc:FC k l s true (a:Int) (pre.length:Int)=true
  ·obtain⟨rfl,rfl⟩:=e2 hc
   simp only[hc,C9,CB,ER];rw[Da (by simp;omega),Cx];have:=ih (pre++[(a:Int)]) f (acc++[Ep k l a pre.length]) (by rw[h'];simp) (by omega) (by simp;omega);rw[Dq,DZ] at this;refine this.trans ?_;simp only[FD,GA,List.singleton_append]
  ·have hc:=Bool.eq_false_iff.2 hc
   simp only[hc,Dt,Cx,Gz,Bool.false_eq_true,if_false]
theorem N9(Ct:Unit×Int×Unit×Unit)(gs:List Int)(hgs:gs.length≤1500)(hm:∀p,p∈gs→0≤p∧p<(l.length:Int))(CJ:Unit×Int×Unit×Unit)(CL:List Cv)(CW:List CU):∀(post pre:List Int) (f:Nat) (G:List CU),gs=pre++post→post.length<f→G.length≤pre.length→
 E_.EA k f l (pre.length:Int) Ct ((),0,(),()) s gs CJ CL CW [] [] G=if post.all (Il k l s)=true then(Ea k (s,CJ.2.1,G++post.map (Gj k l),())).bind fun r=>cond (!r) (some IJ) (some ((CJ,true),(s,G++post.map (Gj k l)))) else some IJ:=by
 have hk2:2000≤k:=by omega
 obtain⟨_,v2⟩:=Hw k hk2 s (by have:=hS.2.1;omega);intro post
 induction post with
 |nil=>
  intro pre f G h' hf hG;obtain⟨f,rfl⟩:∃q,f=q+1:=⟨f-1,by omega⟩;have hlen:gs.length=pre.length:=by rw[h'];simp
  simp only[E_.EA,CK (show ¬((pre.length:Int)<(gs.length:Int)) by omega),CB,List.all_nil,if_true,List.map_nil,DY]
 |cons x post ih=>
  intro pre f G h' hf hG;simp only[D9] at hf;obtain⟨f,rfl⟩:∃q,f=q+1:=⟨f-1,by omega⟩;have hlen:gs.length=pre.length+(post.length+1):=by rw[h'];simp
  have hg:h_ gs (pre.length:Int)=some x:=by rw[h'];exact Gx _ _ _
  have hi1:IntKind.wrap .i64 ((pre.length:Int)+1)=((pre.length+1:Nat):Int):=by rw[CO (by omega) (by omega)];omega
  obtain⟨x0,x1⟩:=hm x (by rw[h'];simp);obtain⟨a,rfl⟩:=Int.eq_ofNat_of_zero_le x0;obtain⟨n1,_⟩:=Jz k hk2 h a (by omega) 3;obtain⟨b1,_,m1,m2⟩:=HY k hk2 h a (by omega) 1 12;simp only[E_.EA,CP (show(pre.length:Int)<(gs.length:Int) by omega),Cx,hg,Cy,n1,b1,v2,cst];have hgr:Il k l s (a:Int)=((nV k l a 3).2&&(pV k l a 1 12).1&&(decide ((pV k l a 1 12).2.length=(Dk 0 s).length)&&EX k l s true 0 (pV k l a 1 12).2)):=rfl;simp only[List.all_cons,hgr];cases(nV k l a 3).2 with
  |false=>rfl
  |true=>
   cases(pV k l a 1 12).1 with
   |false=>rfl
   |true=>
    simp only[C9,Im,CB,ER];by_cases hl:(pV k l a 1 12).2.length=(Dk 0 s).length
    ·rw[DL (show((pV k l a 1 12).2.length:Int)=((Dk 0 s).length:Int) by omega),CP hl]
     simp only[Cy,CB,ER,E5];have:=X4 k hk h s hn hS hok hok2 (E_.EA k f) (pre.length:Int) Ct gs CJ (pV k l a 1 12).2 hl m1 m2 (nV k l a 3).1 CL CW G (by omega) (pV k l a 1 12).2 [] k [] rfl (by omega) (by simp);rw[List.length_nil,show((0:Nat):Int)=0 from rfl] at this;rw[this];cases EX k l s true 0 (pV k l a 1 12).2 with
     |false=>rfl
     |true=>
      rw[if_pos rfl,hi1];have:=ih (pre++[(a:Int)]) f (G++[Gj k l a]) (by rw[h'];simp) (by omega) (by simp;omega);rw[Dq,DZ] at this;refine this.trans ?_;simp only[ER,List.map_cons,GA,List.singleton_append]
    ·rw[EF (show ¬((pV k l a 1 12).2.length:Int)=((Dk 0 s).length:Int) by omega),CK hl]
     rfl
theorem OO:∀(r:List Int) (j:Nat),EX k l s true j r=true→EX k l s false j r=true:=by
 intro r
 induction r with
 |nil=>intro j _;rfl
 |cons p r ih=>
  intro j hh;simp only[EX,Dn] at hh⊢;refine⟨?_,ih _ hh.2⟩;have h1:=hh.1;unfold FC at h1⊢;split at h1
  ·cases h1
  ·rename_i ho
   rw[if_neg ho];simp only[Dn] at h1⊢;refine⟨h1.1,?_⟩;have h2:=h1.2;split at h2
   ·rename_i hf
    rw[if_pos hf]
   ·rename_i hf
    rw[if_neg hf];simp only[if_true,Dn,DN] at h2;simp only[Bool.false_eq_true,if_false,Dn,bne_iff_ne,ne_eq];exact⟨h2.1,by omega⟩
theorem OM:∀(r:List Int) (j:Nat),EX k l s false j r=true→(∀c,c∈FD k l j r→-1≤c.2.2.1)→EX k l s true j r=true:=by
 intro r
 induction r with
 |nil=>intro j _ _;rfl
 |cons p r ih=>
  intro j hh hc;simp only[EX,Dn] at hh⊢;refine⟨?_,ih _ hh.2 (fun c hcm=>hc c (by simp[FD,hcm]))⟩;have h1:=hh.1;have hd:=hc (Ep k l p j) (by simp[FD]);unfold FC at h1⊢;unfold Ep at hd;split at h1
  ·cases h1
  ·rename_i ho
   rw[if_neg ho] at hd⊢;simp only[Dn] at h1⊢;refine⟨h1.1,?_⟩;have h2:=h1.2;split at h2
   ·rename_i hf
    rw[if_pos hf]
   ·rename_i hf
    rw[if_neg hf];simp only[if_neg hf] at hd;simp only[Bool.false_eq_true,if_false,Dn,bne_iff_ne,ne_eq] at h2;simp only[if_true,Dn,DN];exact⟨h2.1,by omega⟩
end
structure Oz(k:Nat)(s:List Cv)(rows:Int)(G:List CU):Prop where
 ZM:Fj s
 ok:EB k s=some true
 Jd:EZ k s=some true
 hn:∀c,c∈s→c.1.size<k∧c.1.size<1000000000∧CY c.2.2.2.1
 JS:Ea k (s,rows,G,())=some true
theorem LH(k:Nat)(hk:2000000≤k)(l:List Cu)(hw:∀n,n∈l→DK n)(hlen:l.length<4294967296):∃r,E_ k l=some r∧Gm k l=some r∧(r.1.2=false→r=IJ)∧r.2.1.length≤20∧r.2.2.length≤40∧(∀g,g∈r.2.2→g.2.1.length≤1500∧∀c,c∈g.2.1→c.2.2.2.2.2.1.length≤1500)∧(r.1.2=true→Oz k r.2.1 r.1.1.2.1 r.2.2):=by
 have hk2:2000≤k:=by omega
 obtain⟨b,h1,h2⟩:=Mf k hk2 l hw hlen;unfold E_ Gm;simp only[h1,Cy];rcases h2 with⟨rfl,x,hx⟩|⟨rfl,hl,hl1,af,hx,hSb,_⟩
 ·simp only[hx,Cy,Dt,Cx]
  exact⟨_,rfl,rfl,fun _=>rfl,by simp,by simp,fun g hg=>(by cases hg),fun h=>(by cases h)⟩
 ·have h:Ey l af:=⟨hl,hl1,hSb,hw⟩
  obtain⟨c,s,g1,g2,g3,_⟩:=of_eq k hk2 h 0 hl1;obtain⟨n1,_⟩:=Jz k hk2 h 0 hl1 3;obtain⟨b1,_,m1,m2⟩:=HY k hk2 h 0 hl1 4 12;have z:((0:Nat):Int)=0:=rfl;rw[z] at g1 g2 n1 b1 m1 m2;simp only[hx,Cy,C9,CB,g1,g2,n1,b1,cst];cases c with
  |false=>
   simp only[Dt,Cx,Gr];exact⟨_,rfl,rfl,fun _=>rfl,by simp,by simp,fun g hg=>(by cases hg),fun h=>(by cases h)⟩
  |true=>
   obtain⟨hS,ok1,Jd,hn⟩:=g3 rfl;have Gl:=hS.2.1;have mn:=Jy k hk2 h 0 hl1 3 false;have ml:=Kw k hk2 h 0 hl1 4 12 (!(nV k l 0 3).2);rw[z] at mn ml;rw[E5] at mn;have mn:FN k 0 3 ((),false,()) (tB l) af=_:=mn;simp only[C9,CB,mn,ml,Cy,E5];have hI:=Wv k hk h s hn hS ok1 Jd ((),0,(),()) ((),(nV k l 0 3).1,(),()) (pV k l 0 4 12).2 m1 m2 [] [] (pV k l 0 4 12).2 [] k (!(nV k l 0 3).2|| !(pV k l 0 4 12).1) [] rfl (by omega) (by simp);have hSp:=N9 k hk h s hn hS ok1 Jd ((),0,(),()) (pV k l 0 4 12).2 m1 m2 ((),(nV k l 0 3).1,(),()) [] [] (pV k l 0 4 12).2 [] k [] rfl (by omega) (by simp);rw[List.length_nil,z] at hI hSp;rw[hI,List.nil_append];have Nw:∀g,g∈(pV k l 0 4 12).2.map (Gj k l)→g.2.1.length≤1500∧∀c,c∈g.2.1→c.2.2.2.2.2.1.length≤1500:=by
    intro g hg;obtain⟨p,hp,rfl⟩:=List.mem_map.1 hg;obtain⟨p0,p1⟩:=m2 p hp;obtain⟨a,rfl⟩:=Int.eq_ofNat_of_zero_le p0;obtain⟨_,_,q1,q2⟩:=HY k hk2 h a (by omega) 1 12;have hlen:(Gj k l (a:Int)).2.1.length=(pV k l a 1 12).2.length:=K_ k l _ _;refine⟨by omega,?_⟩;have key:∀(r:List Int) (j:Nat),(∀p,p∈r→0≤p∧p<(l.length:Int))→∀c,c∈FD k l j r→c.2.2.2.2.2.1.length≤1500:=by
     intro r
     induction r with
     |nil=>intro j _ c hc;cases hc
     |cons p r ih=>
      intro j hr c hc;simp only[FD,List.mem_cons] at hc;rcases hc with rfl|hc
      ·obtain⟨p0,p1⟩:=hr p (by simp)
       obtain⟨a,rfl⟩:=Int.eq_ofNat_of_zero_le p0;unfold Ep;rcases LU k hk h a (by omega) with⟨ho,_⟩|⟨q,ho,_,q2,_⟩
       ·rw[ho,if_pos (by omega)]
        simp
       ·rw[ho,if_neg (by omega)]
        obtain⟨_,_,w1,_⟩:=HY k hk2 h q q2 2 5;simp only[List.length_map];omega
      ·exact ih (j+1) (fun p hp=>hr p (by simp[hp])) c hc
    exact key _ 0 q2
   have hfit:Fit k ((pV k l 0 4 12).2.map (Gj k l)):=fun g hg=>by
    obtain⟨f1,f2⟩:=Nw g hg;exact⟨by omega,by omega,fun c hc=>by have:=f2 c hc;omega⟩
   obtain⟨mb,o1,o2,o3⟩:=LJ k hk2 s ok1 Jd (by omega) (nV k l 0 3).1 ((pV k l 0 4 12).2.map (Gj k l)) hfit;have Wi:Eg k (s,(((),(nV k l 0 3).1,(),()):Unit×Int×Unit×Unit).2.1,(pV k l 0 4 12).2.map (Gj k l),())=some mb:=o2;rw[Wi];have same:(((pV k l 0 4 12).2.all (Ia k l s))&&mb)=(((pV k l 0 4 12).2.all (Il k l s))&&mb):=by
    cases hmb:mb with
    |false=>simp
    |true=>
     obtain⟨_,_,_,V4⟩:=o3 hmb;rw[Bool.and_true,Bool.and_true,Bool.eq_iff_iff,List.all_eq_true,List.all_eq_true];constructor
     ·intro hh p hp
      have hI:=hh p hp;obtain⟨q1,q2⟩:=V4 (Gj k l p) (List.mem_map_of_mem hp);have q1:(FD k l 0 (pV k l p 1 12).2).length=(Dk 0 s).length:=q1;rw[K_] at q1;unfold Ia at hI;unfold Il;simp only[Dn,DN] at hI⊢;exact⟨hI.1,q1,OM k hk h s hn hS ok1 Jd _ 0 hI.2.1 q2⟩
     ·intro hh p hp
      have hI:=hh p hp;have hll:=Gq 0 s;unfold Il at hI;unfold Ia;simp only[Dn,DN] at hI⊢;exact⟨hI.1,OO k hk h s hn hS ok1 Jd _ 0 hI.2.2,by omega⟩
   cases ZI:(nV k l 0 3).2 with
   |false=>
    simp only[Dt,Gr,Cx,if_true];exact⟨_,rfl,rfl,fun _=>rfl,by simp,by simp,fun g hg=>(by cases hg),fun h=>(by cases h)⟩
   |true=>
    cases ZJ:(pV k l 0 4 12).1 with
    |false=>
     simp only[C9,Dt,Bool.or_true,Gr,Cx,if_true];exact⟨_,rfl,rfl,fun _=>rfl,by simp,by simp,fun g hg=>(by cases hg),fun h=>(by cases h)⟩
    |true=>
     have Wj:Ea k (s,(((),(nV k l 0 3).1,(),()):Unit×Int×Unit×Unit).2.1,[]++(pV k l 0 4 12).2.map (Gj k l),())=some mb:=o1;simp only[C9,Im,CB,E5];rw[hSp,Wj];simp only[Cy,List.nil_append];cases mb with
     |false=>
      simp only[Dt,Cx,ite_self];exact⟨_,rfl,rfl,fun _=>rfl,by simp,by simp,fun g hg=>(by cases hg),fun h=>(by cases h)⟩
     |true=>
      rw[Bool.and_true,Bool.and_true] at same;rw[same];simp only[C9,CB];cases(pV k l 0 4 12).2.all (Il k l s) with
      |false=>
       simp only[Dt,if_true,Bool.false_eq_true,if_false];exact⟨_,rfl,rfl,fun _=>rfl,by simp,by simp,fun g hg=>(by cases hg),fun h=>(by cases h)⟩
      |true=>
       simp only[C9,if_true,Bool.false_eq_true,if_false];exact⟨_,rfl,rfl,(fun h=>by cases h),Gl,(o3 rfl).1,Nw,fun _=>⟨hS,ok1,Jd,hn,o1⟩⟩
end Go.C7
end
section
namespace Go.C7
open Go.Am Go.Fn
structure Jj(c:Dg)(j:Nat):Prop where
 leaf:c.1=(j:Int)
 OD:0≤c.2.1∧c.2.1≤60000
 Le: -1≤c.2.2.1∧c.2.2.1≤60000
 many:1≤c.2.2.2.1∧c.2.2.2.1≤2000
 size:0≤c.2.2.2.2.1∧c.2.2.2.2.1≤60000
 el:1≤c.2.2.2.2.2.1.length∧c.2.2.2.2.2.1.length≤5
 enc:∀e,e∈c.2.2.2.2.2.1→0≤e∧e≤9
def IW:Nat→List Dg→Prop
 |_,[]=>True
 |j,c::r=>Jj c j∧IW (j+1) r
structure Iy(n:Nat)(g:CU):Prop where
 rows:1≤g.1∧g.1≤200
 len:g.2.1.length=n
 K9:IW 0 g.2.1
variable(k:Nat)
theorem MR{α:Type}{x:Option α}{f:α→Option Bool}(h:x.bind f=some true):∃y,x=some y∧f y=some true:=Option.bind_eq_some_iff.1 h
theorem Pw(c:Dg)(hl:c.2.2.2.2.2.1.length<1000000):∀(f i:Nat),i≤c.2.2.2.2.2.1.length→Fa.l4 k f (i:Int) c=some true→∀e,e∈c.2.2.2.2.2.1.drop i→0≤e∧e≤9:=by
 intro f
 induction f with
 |zero=>intro i _ h;cases h
 |succ f ih=>
  intro i hi h e he;by_cases hlt:i<c.2.2.2.2.2.1.length
  ·simp only[Fa.l4,CP (show(i:Int)<(c.2.2.2.2.2.1.length:Int) by omega),Cx,Fa.d6,Dv,Es hlt,Cy,FE] at h
   rw[List.drop_eq_getElem_cons hlt] at he;by_cases hb:0≤c.2.2.2.2.2.1[i]∧c.2.2.2.2.2.1[i]≤9
   ·rw[show(decide ((0:Int)≤c.2.2.2.2.2.1[i])&&decide (c.2.2.2.2.2.1[i]≤9))=true by simp;omega] at h
    have h':Fa.l4 k f ((i+1:Nat):Int) c=some true:=by
     simp only[C9,CB] at h;have hw:IntKind.wrap .i64 ((i:Int)+1)=((i+1:Nat):Int):=by rw[CO (by omega) (by omega)];omega
     rw[hw] at h;cases hd:decide ((i:Int)>0) with
     |false=>rw[hd] at h;exact h
     |true=>
      rw[hd] at h;simp only[Cx] at h;obtain⟨y,_,h⟩:=MR h;cases hy:decide (y≥c.2.2.2.2.2.1[i]) with
      |false=>rw[hy] at h;exact h
      |true=>rw[hy] at h;cases h
    rcases List.mem_cons.1 he with rfl|he
    ·exact hb
    ·exact ih (i+1) (by omega) h' e he
   ·rw[show(decide ((0:Int)≤c.2.2.2.2.2.1[i])&&decide (c.2.2.2.2.2.1[i]≤9))=false by rw[Bool.eq_false_iff];intro q;simp only[Dn,DN] at q;exact hb q] at h
    cases h
  ·rw[List.drop_eq_nil_of_le (by omega)] at he
   cases he
theorem OT(c:Dg)(j:Nat)(hl:c.2.2.2.2.2.1.length<1000000)(h:Fa k c (j:Int)=some true):Jj c j:=by
 unfold Fa at h;simp only[FE,Cy] at h;have two:∀{a b x:Int},(decide (a≤x)&&decide (x≤b))=true→a≤x∧x≤b:=fun h=>by simpa using h
 cases h0:(c.1 !=(j:Int)) with
 |true=>rw[h0] at h;cases h
 |false=>
  rw[h0] at h;cases h1:(decide ((0:Int)≤c.2.1)&&decide (c.2.1≤60000)) with
  |false=>rw[h1] at h;cases h
  |true=>
   rw[h1] at h;cases h2:(decide ((-1:Int)≤c.2.2.1)&&decide (c.2.2.1≤60000)) with
   |false=>rw[h2] at h;cases h
   |true=>
    rw[h2] at h;cases h3:(decide ((1:Int)≤c.2.2.2.1)&&decide (c.2.2.2.1≤2000)) with
    |false=>rw[h3] at h;cases h
    |true=>
     rw[h3] at h;cases h4:(decide ((0:Int)≤c.2.2.2.2.1)&&decide (c.2.2.2.2.1≤60000)) with
     |false=>rw[h4] at h;cases h
     |true=>
      rw[h4] at h;cases h5:(decide ((1:Int)≤(c.2.2.2.2.2.1.length:Int))&&decide ((c.2.2.2.2.2.1.length:Int)≤5)) with
      |false=>rw[h5] at h;cases h
      |true=>
       rw[h5] at h;have h5:=two h5;exact⟨by simpa using h0,two h1,two h2,two h3,two h4,by omega,fun e he=>Pw k c hl k 0 (Nat.zero_le _) h e (by simpa using he)⟩
theorem OU(L6:Int→Int→DJ→List Int→Option Bool)(t4 t5:Int)(Ct:DJ)(Cw:List Int)(g:CU)(hl:g.2.1.length<1000000)(hc:∀c,c∈g.2.1→c.2.2.2.2.2.1.length<1000000):
 ∀(f i:Nat),Ea.FP k L6 f t4 t5 (i:Int) Ct Cw g=some true→IW i (g.2.1.drop i)∧L6 t4 (IntKind.wrap .i64 (t5+1)) Ct Cw=some true:=by
 intro f
 induction f with
 |zero=>intro i h;cases h
 |succ f ih=>
  intro i h;by_cases hlt:i<g.2.1.length
  ·simp only[Ea.FP,CP (show(i:Int)<(g.2.1.length:Int) by omega),Cx,Dv,Es hlt,Cy] at h
   obtain⟨b,hb,h⟩:=MR h;cases b with
   |false=>cases h
   |true=>
    simp only[C9,CB] at h;rw[show IntKind.wrap .i64 ((i:Int)+1)=((i+1:Nat):Int) by rw[CO (by omega) (by omega)];omega] at h;obtain⟨h1,h2⟩:=ih (i+1) h;rw[List.drop_eq_getElem_cons hlt];exact⟨⟨OT k _ i (hc _ (List.getElem_mem hlt)) hb,h1⟩,h2⟩
  ·simp only[Ea.FP,CK (show ¬(i:Int)<(g.2.1.length:Int) by omega),CB] at h
   rw[List.drop_eq_nil_of_le (by omega)];exact⟨trivial,h⟩
theorem VP(m:DJ)(Cw:List Int)(hl:m.2.2.1.length<1000000)(hc:∀g,g∈m.2.2.1→g.2.1.length<1000000∧∀c,c∈g.2.1→c.2.2.2.2.2.1.length<1000000):
 ∀(f i:Nat) (t4:Int),Ea.l6 k f t4 (i:Int) m Cw=some true→∀g,g∈m.2.2.1.drop i→Iy Cw.length g:=by
 intro f
 induction f with
 |zero=>intro i t4 h;cases h
 |succ f ih=>
  intro i t4 h;by_cases hlt:i<m.2.2.1.length
  ·simp only[Ea.l6,CP (show(i:Int)<(m.2.2.1.length:Int) by omega),Cx,Dv,Es hlt,Cy,FE] at h
   rw[List.drop_eq_getElem_cons hlt];cases h1:(decide ((1:Int)≤m.2.2.1[i].1)&&decide (m.2.2.1[i].1≤200)) with
   |false=>rw[h1] at h;cases h
   |true=>
    rw[h1] at h;cases h2:((m.2.2.1[i].2.1.length:Int) !=(Cw.length:Int)) with
    |true=>rw[h2] at h;cases h
    |false=>
     rw[h2] at h;obtain⟨c1,c2⟩:=hc _ (List.getElem_mem hlt);obtain⟨h3,h4⟩:=OU k _ _ _ m Cw _ c1 c2 k 0 h;rw[show IntKind.wrap .i64 ((i:Int)+1)=((i+1:Nat):Int) by rw[CO (by omega) (by omega)];omega] at h4;intro g hg;rcases List.mem_cons.1 hg with rfl|hg
     ·have h2:(m.2.2.1[i].2.1.length:Int)=(Cw.length:Int):=by simpa using h2
      exact⟨by simpa using h1,by omega,by simpa using h3⟩
     ·exact ih (i+1) _ h4 g hg
  ·rw[List.drop_eq_nil_of_le (by omega)]
   intro g hg;cases hg
theorem NK(hk:2000≤k)(s:List Cv)(rows:Int)(G:List CU)(hs:s.length≤1000)(hl:G.length<1000000)(hc:∀g,g∈G→g.2.1.length<1000000∧∀c,c∈g.2.1→c.2.2.2.2.2.1.length<1000000)
 (h:Ea k (s,rows,G,())=some true):G.length≤40∧0≤rows∧rows≤200∧EB k s=some true∧∀g,g∈G→Iy (Dk 0 s).length g:=by
 obtain⟨_,v2⟩:=Hw k hk s hs;unfold Ea H7 at h;simp only[v2,Cy] at h;cases hsc:EB k s with
 |none=>rw[hsc] at h;cases h
 |some b=>
 rw[hsc] at h;simp only[Cy] at h;cases b with
 |false=>cases h
 |true=>
  simp only[C9,CB,Cy,FE] at h;cases h1:decide ((G.length:Int)>40) with
  |true=>rw[h1] at h;cases h
  |false=>
   rw[h1] at h;cases h2:(decide ((0:Int)≤rows)&&decide (rows≤200)) with
   |false=>rw[h2] at h;cases h
   |true=>
    rw[h2] at h;have h1:¬((G.length:Int)>40):=by simpa using h1
    have h2:0≤rows∧rows≤200:=by simpa using h2
    refine⟨by omega,h2.1,h2.2,rfl,?_⟩;have:=VP k (s,rows,G,()) (Dk 0 s) hl hc k 0 0 h;simpa using this
end Go.C7
end
section
namespace Go.C7
open Go.Am Go.Fn
variable(k:Nat)
def IX(E:List Cu→Prop)(n:Cu):Nat→Int→List Cu→Prop
 |0,_,X=>X=[]
 |c+1,last,X=>∃p Y Z,X=(p::Y)++Z∧(n.1=9→p.1=n.2.2.1∧p.2.1=0)∧(n.1=12→last+1≤p.2.1∧p.2.1≤1000)∧E (p::Y)∧IX E n c p.2.1 Z
def Enc:Nat→List Cu→Prop
 |0,_=>False
 |_+1,[]=>False
 |d+1,n::X=>FQ n=true∧IX (Enc d) n n.2.2.2.2.1.toNat 0 X
theorem EY{α:Type}(pre post:List α)(x:α):h_ (pre++x::post) (pre.length:Int)=some x:=by
 rw[Dv,List.getElem?_append_right (Nat.le_refl _)];simp
end Go.C7
end
