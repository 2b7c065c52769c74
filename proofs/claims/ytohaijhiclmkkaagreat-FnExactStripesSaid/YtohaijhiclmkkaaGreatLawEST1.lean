/- plain laws of the claim's functions -/
import Derived.Test.YtohaijhiclmkkaaGreatLawEST0
import Derived.Test.YtohaijhiclmkkaaGreatESTF0
set_option linter.unnecessarySimpa false
set_option linter.unusedSimpArgs false
set_option linter.unusedVariables false
set_option linter.unusedSectionVars false
section
namespace Go.zJ
open Go.Am Go.Fn
theorem O6(k:IntKind)(a b:Int):bits .xor k a b=bits .xor k b a:=by
 simp only[bits,BitVec.xor_comm]
theorem OX(x:Int):bits .and .i64 x 9223372036854775807=x%9223372036854775808:=by
 have hc:(9223372036854775807:Int)=((2^63-1:Nat):Int):=by decide
 have hb:(2^63-1)%2^IntKind.i64.bits=2^63-1:=by decide
 rw[hc];simp only[bits,BitVec.ofInt_natCast,BitVec.toNat_and,BitVec.toNat_ofNat,hb,Nat.and_two_pow_sub_one_eq_mod,BitVec.toNat_ofInt];show IntKind.wrap .i64 (((x%((2^64:Nat):Int)).toNat%2^63:Nat):Int)=_;rw[zh (by omega) (by omega)];omega
variable(k:Nat)
theorem abT{u:Int}(h:zM u):KN k u=some (BB u):=by
 obtain⟨h0,h1⟩:=h;have hm:IntKind.wrap .i64 (pz .i64 1 (IntKind.wrap .i64 (64-1))-1)=9223372036854775807:=by decide
 have hd:JF k u 1=some ((u%18446744073709551616)/2):=by
  unfold JF;rw[zn (by decide),y_,zi (show(0:Int)≤1 by decide),yZ,zi (show(0:Int)≤IntKind.wrap .i64 (64-1) by decide),yZ,hm,OX];have:=GI .i64 u 1 (by decide);rw[show((1:Nat):Int)=1 from rfl] at this;rw[this]
  congr 1
  omega
 unfold KN BB;rw[hd,and1];by_cases h2:u%2=0
 ·rw[if_pos h2,zn (by omega)]
  rfl
 ·rw[if_neg h2,zQ (by omega)]
  simp only[yZ,yX];rw[O6,OI _ (by omega) (by omega)]
theorem aby(b:List Int)(p:Nat)(hb:b.length<4611686018427387904)(hby:∀x,x∈b→0≤x∧x<256)(hp:p≤b.length):∀(f n i acc:Nat),i+f=10→f<n→acc<2^(7*i)→
 DJ.l5 k n b (p:Int) (IntKind.wrap .i64 (acc:Int)) (i:Int)=match Cv f (b.drop (p+i)) with
  |none=>some (0,0,false)
  |some (v,m)=>some (IntKind.wrap .i64 ((acc+v*2^(7*i):Nat):Int),((p+i+m:Nat):Int),true):=by
 have last:∀(n:Nat) (x:Int),0<n→DJ.l5 k n b (p:Int) x ((10:Nat):Int)=some (0,0,false):=by
  intro n x hn;obtain⟨n,rfl⟩:∃j,n=j+1:=⟨n-1,by omega⟩;simp only[DJ.l5,show decide (((10:Nat):Int)<10)=false by decide,y_,yX]
 intro f
 induction f with
 |zero=>
  intro n i acc hi hn hacc;obtain rfl:i=10:=by omega
  exact last n _ (by omega)
 |succ f ih=>
  intro n i acc hi hn hacc;obtain⟨n,rfl⟩:∃j,n=j+1:=⟨n-1,by omega⟩;have hP:0<2^(7*i):=Nat.two_pow_pos _;have Io:2^(7*(i+1))=128*2^(7*i):=by rw[Nat.mul_add,Nat.pow_add];simp[Nat.mul_comm]
  have c1:decide ((i:Int)<10)=true:=by simp;omega
  have e2:IntKind.wrap .i64 ((p:Int)+(i:Int))=((p+i:Nat):Int):=by rw[zh (by omega) (by omega)];omega
  by_cases hlt:p+i<b.length
  ·obtain⟨c,hc,hc2⟩:=Ic hlt
   obtain⟨c0,JX⟩:=hby c (List.mem_of_getElem? hc2);have e3:IntKind.wrap .i64 (7*(i:Int))=((7*i:Nat):Int):=by rw[zh (by omega) (by omega)];omega
   have e5:IntKind.wrap .i64 (((p+i:Nat):Int)+1)=((p+i+1:Nat):Int):=by rw[zh (by omega) (by omega)];omega
   have e6:IntKind.wrap .i64 ((i:Int)+1)=((i+1:Nat):Int):=by rw[zh (by omega) (by omega)];omega
   have c2:decide (((p+i:Nat):Int)<(b.length:Int))=true:=by simp;omega
   have c5:decide ((0:Int)≤((7*i:Nat):Int))=true:=zi (by omega);have hget:gU b ((p+i:Nat):Int)=some c:=by rw[Aq];exact hc2
   have ec:IntKind.wrap .i64 c=c:=zh (by omega) (by omega);have e127:bits .and .i64 c 127=(((c%128).toNat:Nat):Int):=by
    have:=JS c 7 (by decide);rw[show((2:Int)^7-1)=127 by decide,show((2:Int)^7)=128 by decide] at this;rw[this];omega
   rw[hc,Cv];simp only[DJ.l5,c1,c2,e2,e3,e5,e6,hget,ec,c5,yZ,yX,Ah,e127];by_cases h9:f=0∧1<c
   ·obtain⟨rfl,h1c⟩:=h9
    obtain rfl:i=9:=by omega
    rw[if_pos ⟨rfl,h1c⟩];by_cases h128:c<128
    ·simp only[zi h128,yZ,show(((9:Nat):Int)==9)=true by decide,show decide (c>1)=true from zi h1c,Bool.and_self]
    ·simp only[zl h128,y_]
     exact last n _ (by omega)
   ·rw[if_neg h9]
    have Lj:(((i:Int)==9)&&decide (c>1))=false:=by
     rw[Bool.eq_false_iff];intro q;simp only[Aa,beq_iff_eq,Ae] at q;exact h9 ⟨by omega,q.2⟩
    have hsum:acc+(c%128).toNat*2^(7*i)<2^IntKind.bits .i64:=by
     show _<2^64;by_cases hf:f=0
     ·have:i=9:=by omega
      subst this;have hc1:c≤1:=by
       rcases Int.lt_or_le 1 c with q|q
       ·exact(h9 ⟨hf,q⟩).elim
       ·exact q
      have h1:(c%128).toNat≤1:=by omega
      have h2:(2:Nat)^(7*9)=9223372036854775808:=by decide
      rw[h2] at hacc⊢;have:=Nat.mul_le_mul_right 9223372036854775808 h1;omega
     ·have h1:(c%128).toNat*2^(7*i)≤127*2^(7*i):=Nat.mul_le_mul_right _ (by omega)
      have h2:2^(7*(i+1))≤2^63:=Nat.pow_le_pow_right (by omega) (by omega);rw[Io] at h2;have h3:(2:Nat)^63=9223372036854775808:=by decide
      omega
    have Jg:=Jv .i64 (a:=acc) (b:=(c%128).toNat) (i:=7*i) (show 7*i≤64 by omega) hacc hsum;rw[Jg];by_cases h128:c<128
    ·rw[if_pos h128]
     simp only[zi h128,yZ,Lj,y_];have:(c%128).toNat=c.toNat:=by omega
     rw[this]
    ·rw[if_neg h128]
     simp only[zl h128,y_];have hlt2:acc+(c%128).toNat*2^(7*i)<2^(7*(i+1)):=by
      rw[Io];have:(c%128).toNat*2^(7*i)≤127*2^(7*i):=Nat.mul_le_mul_right _ (by omega);omega
     rw[ih n (i+1) _ (by omega) (by omega) hlt2,←Nat.add_assoc];cases Cv f (b.drop (p+i+1)) with
     |none=>rfl
     |some x=>
      obtain⟨v,m⟩:=x;simp only[Option.map_some];rw[Io,show acc+(c%128).toNat*2^(7*i)+v*(128*2^(7*i))=acc+((c%128).toNat+128*v)*2^(7*i) by grind,show p+i+1+m=p+i+(m+1) by omega]
  ·have c2:decide (((p+i:Nat):Int)<(b.length:Int))=false:=zl (by omega)
   rw[List.drop_eq_nil_of_le (by omega),Cv];simp only[DJ.l5,c1,e2,c2,yZ,y_,yX]
theorem LX(hk:2000≤k){b:List Int}(hl:b.length<4611686018427387904)(hb:Av b)(p:Nat)(hp:p≤b.length):DJ k b (p:Int)=match gv (b.drop p) with
 |none=>some (0,0,false)
 |some (u,n)=>some (u,((p+n:Nat):Int),true):=by
 unfold DJ;rw[zl (show ¬((p:Int)<0) by omega)];by_cases h:p=b.length
 ·rw[zi (show(p:Int)≥(b.length:Int) by omega),List.drop_eq_nil_of_le (by omega)]
  rfl
 ·rw[zl (show ¬(p:Int)≥(b.length:Int) by omega)]
  simp only[y_,yX];have h:=aby k b p hl hb hp 10 k 0 0 rfl (by omega) (by simp);rw[show IntKind.wrap .i64 ((0:Nat):Int)=0 by decide,show((0:Nat):Int)=0 from rfl] at h;rw[h];unfold gv;rw[Nat.add_zero];cases Cv 10 (b.drop p) with
  |none=>rfl
  |some x=>
   simp only[Option.map_some,Nat.mul_zero,Nat.pow_zero,Nat.mul_one,Nat.zero_add]
theorem Oc(hk:2000≤k){b:List Int}(hl:b.length<4611686018427387904)(hb:Av b)(p:Nat)(hp:p≤b.length):JD k b (p:Int)=match gv (b.drop p) with
 |none=>some (0,0,false)
 |some (u,n)=>some (BB u,((p+n:Nat):Int),true):=by
 unfold JD;rw[LX k hk hl hb p hp];cases hg:gv (b.drop p) with
 |none=>rfl
 |some z=>
  obtain⟨u,n⟩:=z;obtain⟨f1,_⟩:=DX _ u n (fun x hx=>hb x (List.mem_of_mem_drop hx)) hg;simp only[yX,zq,y_,abT k f1]
theorem abE(hk:2000≤k){b:List Int}(hl:b.length<4611686018427387904)(hb:Av b)(p:Nat)(hp:p≤b.length):∃x y z e,FV k b (p:Int)=some (x,y,z,e)∧
 (match Gj b p with
 | .bad c=>e=c∧c≠0
 | .ok q (many,item)=>x=many∧y=item∧z=(q:Int)∧e=0∧q≤b.length):=by
 unfold FV Gj;by_cases hlt:p<b.length
 ·obtain⟨c,hc,hc2⟩:=Ic hlt
  obtain⟨c0,JX⟩:=hb c (List.mem_of_getElem? hc2);have ec:IntKind.wrap .i64 c=c:=zh (by omega) (by omega);have e16:IntKind.wrap .i64 (Int.tdiv c 16)=c/16:=by
   rw[Int.tdiv_eq_ediv_of_nonneg c0,zh (by omega) (by omega)]
  have em:Int.tmod c 16=c%16:=Int.tmod_eq_emod_of_nonneg c0;have ep:IntKind.wrap .i64 ((p:Int)+1)=((p+1:Nat):Int):=by rw[zh (by omega) (by omega)];omega
  rw[zl (by omega),y_,Aq,hc2];simp only[yX,ec,e16,em,ep]
  have tail:∀(many:Int) (q:Nat),q≤b.length→∃x y z e,FV.c11 k (q:Int) many (c%16)=some (x,y,z,e)∧
   (match(if many=0 then(.ok q (0,0):zx (Int×Int)) else if CU (c%16)=false then .bad 2 else if many<0∨1500<many then .bad 4 else .ok q (many,c%16)) with
   | .bad c=>e=c∧c≠0
   | .ok q (many,item)=>x=many∧y=item∧z=(q:Int)∧e=0∧q≤b.length):=by
   intro many q hq;unfold FV.c11;by_cases h0:many=0
   ·rw[zQ h0,yZ,if_pos h0]
    exact⟨_,_,_,_,rfl,rfl,rfl,rfl,rfl,hq⟩
   ·rw[zn h0,y_,if_neg h0,Nw]
    simp only[yX,cst];cases CU (c%16) with
    |false=>
     rw[if_pos rfl];exact⟨_,_,_,_,rfl,rfl,by decide⟩
    |true=>
     rw[if_neg (by decide)];simp only[zq,y_];by_cases hm:many<0∨1500<many
     ·rw[if_pos hm]
      have:(decide (many<0)||decide (many>1500))=true:=by
       rcases hm with h|h
       ·rw[zi h,Ac]
       ·rw[zi (show many>1500 from h),Bool.or_true]
      rw[this];exact⟨_,_,_,_,rfl,rfl,by decide⟩
     ·rw[if_neg hm]
      rw[zl (show ¬many<0 by omega),zl (show ¬many>1500 by omega)];exact⟨_,_,_,_,rfl,rfl,rfl,rfl,rfl,hq⟩
  by_cases EW:c/16=15
  ·simp only[if_pos EW,zQ EW,yZ,LX k hk hl hb (p+1) (by omega)]
   cases hg:gv (b.drop (p+1)) with
   |none=>
    simp only[yX,zO,yZ,Option.map_none];exact⟨_,_,_,_,rfl,rfl,by decide⟩
   |some z=>
    obtain⟨u,n⟩:=z;obtain⟨f1,f2,f3,f4,f5⟩:=DX _ u n (fun x hx=>hb x (List.mem_of_mem_drop hx)) hg;rw[List.length_drop] at f3;simp only[yX,zq,y_,Option.map_some];exact tail u (p+1+n) (by omega)
  ·simp only[if_neg EW,zn EW,y_]
   exact tail (c/16) (p+1) (by omega)
 ·rw[zi (by omega),yZ,List.getElem?_eq_none (by omega)]
  exact⟨_,_,_,_,rfl,rfl,by decide⟩
theorem abz(hk:2000≤k){b:List Int}(hl:b.length<4611686018427387904)(hb:Av b)(p:Nat)(hp:p≤b.length)(last:Int)(hla:0≤last∧last≤1000):∃x y z e,FU k b (p:Int) last=some (x,y,z,e)∧
 (match Gi b p last with
 | .bad c=>e=c∧c≠0
 | .ok q (t,id)=>x=t∧(t≠0→y=id)∧z=(q:Int)∧e=0∧q≤b.length):=by
 unfold FU Gi;by_cases hlt:p<b.length
 ·obtain⟨c,hc,hc2⟩:=Ic hlt
  obtain⟨c0,JX⟩:=hb c (List.mem_of_getElem? hc2);have ec:IntKind.wrap .i64 c=c:=zh (by omega) (by omega);have e16:IntKind.wrap .i64 (Int.tdiv c 16)=c/16:=by
   rw[Int.tdiv_eq_ediv_of_nonneg c0,zh (by omega) (by omega)]
  have em:Int.tmod c 16=c%16:=Int.tmod_eq_emod_of_nonneg c0;have ep:IntKind.wrap .i64 ((p:Int)+1)=((p+1:Nat):Int):=by rw[zh (by omega) (by omega)];omega
  have el:IntKind.wrap .i64 (last+c/16)=last+c/16:=zh (by omega) (by omega);rw[zl (by omega),y_,Aq,hc2];simp only[yX,ec,e16,em,ep,el];by_cases h0:c=0
  ·rw[zQ h0,yZ,if_pos h0]
   exact⟨_,_,_,_,rfl,rfl,fun h=>(h rfl).elim,rfl,rfl,by omega⟩
  ·rw[zn h0,y_,if_neg h0,Ny]
   simp only[yX];cases hkd:isKind (c%16) with
   |false=>
    rw[if_pos rfl];exact⟨_,_,_,_,rfl,rfl,by decide⟩
   |true=>
    rw[if_neg (by decide)];simp only[zq,y_]
    have tail:∀(id:Int) (q:Nat),q≤b.length→∃x y z e,FU.c16 k (q:Int) last (c%16) id=some (x,y,z,e)∧
     (match(if id<1∨1000<id then(.bad 3:zx (Int×Int)) else if id≤last then .bad 5 else .ok q (c%16,id)) with
     | .bad c=>e=c∧c≠0
     | .ok q (t,id)=>x=t∧(t≠0→y=id)∧z=(q:Int)∧e=0∧q≤b.length):=by
     intro id q hq;unfold FU.c16;rw[AV];simp only[yX];by_cases hi:id<1∨1000<id
     ·rw[if_pos hi]
      have hw:(decide ((1:Int)≤id)&&decide (id≤1000))=false:=by
       rw[Bool.eq_false_iff];intro q;simp only[Aa,Ae] at q;omega
      rw[hw];exact⟨_,_,_,_,rfl,rfl,by decide⟩
     ·rw[if_neg hi]
      have hw:(decide ((1:Int)≤id)&&decide (id≤1000))=true:=by simp;omega
      rw[hw];simp only[zq,y_];by_cases h5:id≤last
      ·rw[if_pos h5,zi h5]
       exact⟨_,_,_,_,rfl,rfl,by decide⟩
      ·rw[if_neg h5,zl h5]
       exact⟨_,_,_,_,rfl,rfl,fun _=>rfl,rfl,rfl,hq⟩
    by_cases h16:c/16=0
    ·simp only[if_pos h16,zQ h16,yZ,Oc k hk hl hb (p+1) (by omega)]
     cases hg:gv (b.drop (p+1)) with
     |none=>
      simp only[yX,zO,yZ,Option.map_none];exact⟨_,_,_,_,rfl,rfl,by decide⟩
     |some z=>
      obtain⟨u,n⟩:=z;obtain⟨f1,f2,f3,f4,f5⟩:=DX _ u n (fun x hx=>hb x (List.mem_of_mem_drop hx)) hg;rw[List.length_drop] at f3;simp only[yX,zq,y_,Option.map_some];exact tail (BB u) (p+1+n) (by omega)
    ·simp only[if_neg h16,zn h16,y_]
     exact tail (last+c/16) (p+1) (by omega)
 ·rw[zi (by omega),yZ,List.getElem?_eq_none (by omega)]
  exact⟨_,_,_,_,rfl,rfl,by decide⟩
theorem abM(hk:2000≤k){b:List Int}(hl:b.length<4611686018427387904)(hb:Av b)(p:Nat)(hp:p≤b.length):∃x z e,KR k b (p:Int)=some (x,z,e)∧
 (match EJ b p with
 | .bad c=>e=c∧c≠0
 | .ok q s=>x=s∧z=(q:Int)∧e=0∧q≤b.length):=by
 unfold KR EJ;rw[LX k hk hl hb p hp];cases hg:gv (b.drop p) with
 |none=>exact⟨_,_,_,rfl,rfl,by decide⟩
 |some z=>
  obtain⟨u,n⟩:=z;obtain⟨⟨f0,f1⟩,f2,f3,f4,f5⟩:=DX _ u n (fun x hx=>hb x (List.mem_of_mem_drop hx)) hg;rw[List.length_drop] at f3;simp only[yX,zq,y_,cst];by_cases hu:u<0∨300<u
  ·rw[if_pos hu]
   have:(decide (u<0)||decide (u>300))=true:=by
    rcases hu with h|h
    ·rw[zi h,Ac]
    ·rw[zi (show u>300 from h),Bool.or_true]
   rw[this];exact⟨_,_,_,rfl,rfl,by decide⟩
  ·rw[if_neg hu,zl (show ¬u<0 by omega),zl (show ¬u>300 by omega)]
   have e1:IntKind.wrap .i64 ((b.length:Int)-((p+n:Nat):Int))=(b.length:Int)-((p+n:Nat):Int):=zh (by omega) (by omega);simp only[AX,y_,e1];by_cases hs:(b.length:Int)-((p+n:Nat):Int)<u
   ·rw[if_pos hs,zi hs]
    exact⟨_,_,_,rfl,rfl,by decide⟩
   ·rw[if_neg hs,zl hs]
    obtain⟨U,rfl⟩:=Int.eq_ofNat_of_zero_le (show 0≤u by omega);have e2:IntKind.wrap .i64 (((p+n:Nat):Int)+(U:Int))=((p+n+U:Nat):Int):=by rw[zh (by omega) (by omega)];omega
    have c3:jg ((p+n:Nat):Int) ((p+n+U:Nat):Int) b.length=true:=Jo (by omega) (by omega) (by omega);have hcut:kV b ((p+n:Nat):Int) ((p+n+U:Nat):Int)=(b.drop (p+n)).take U:=by
     unfold kV;rw[Int.toNat_natCast,Int.toNat_natCast,List.drop_take,show p+n+U-(p+n)=U by omega]
    simp only[y_,e2,c3,yZ,hcut,Int.toNat_natCast];exact⟨_,_,_,rfl,rfl,rfl,rfl,by omega⟩
def GX(S:(List Int)→Int→Int→Int→Int→(List yY)→Option ((Unit×Int×Int)×(List yY)))(b:List Int)(kind id deep:Int)(p:Nat)(acc:List yY)(r:zx (List yY)):Prop:=
 match r with
 | .bad e=>e≠0∧∃q l,S b (p:Int) kind id deep acc=some (((),q,e),l)
 | .ok q Y=>q≤b.length∧S b (p:Int) kind id deep acc=some (((),(q:Int),0),acc++Y)
theorem abH(S:(List Int)→Int→Int→Int→Int→(List yY)→Option ((Unit×Int×Int)×(List yY)))(b:List Int)(item:Int)(deep:Nat)(Ip:deep≤100)(P:Nat→Nat→zx (List yY))
 (ih:∀(p:Nat) (acc:List yY),p≤b.length→acc.length≤1500→GX S b item 0 ((deep+1:Nat):Int) p acc (P p acc.length))
 (hP:∀p c q Y,c≤1500→P p c= .ok q Y→c+Y.length≤1500) (many:Int) (hm:many≤1500):
 ∀(m f:Nat) (i:Int) (p:Nat) (acc:List yY),many-i=m→0≤i→m<f→p≤b.length→acc.length≤1500→
 match A8 P m p acc.length with
 | .bad e=>e≠0∧∃q l,zT.Ey k S f b (deep:Int) many item (p:Int) 0 i acc=some (((),q,e),l)
 | .ok q Y=>q≤b.length∧zT.Ey k S f b (deep:Int) many item (p:Int) 0 i acc=some (((),(q:Int),0),acc++Y):=by
 have hdw:IntKind.wrap .i64 ((deep:Int)+1)=((deep+1:Nat):Int):=by rw[zh (by omega) (by omega)];omega
 intro m
 induction m with
 |zero=>
  intro f i p acc hi h0 hf hp hc;obtain⟨f,rfl⟩:∃j,f=j+1:=⟨f-1,by omega⟩;simp only[A8,zT.Ey,zl (show ¬i<many by omega),y_,yX,DD];exact⟨hp,trivial⟩
 |succ m EZ=>
  intro f i p acc hi h0 hf hp hc;obtain⟨f,rfl⟩:∃j,f=j+1:=⟨f-1,by omega⟩;have hi1:IntKind.wrap .i64 (i+1)=i+1:=zh (by omega) (by omega);have h1:=ih p acc hp hc;simp only[A8,zT.Ey,zi (show i<many by omega),yZ,yX,zQ rfl,hdw,hi1];unfold GX at h1;cases hr:P p acc.length with
  |bad e=>
   rw[hr] at h1;obtain⟨he,q,l,e1⟩:=h1;refine⟨he,q,l,?_⟩;obtain⟨f,rfl⟩:∃j,f=j+1:=⟨f-1,by omega⟩;simp only[e1,yX,zT.Ey,zn he];cases decide (i+1<many)<;>rfl
  |ok q Y=>
   rw[hr] at h1;obtain⟨hq,e1⟩:=h1;have hlen:=hP _ _ _ _ hc hr;have h2:=EZ f (i+1) q (acc++Y) (by omega) (by omega) (by omega) hq (by rw[Ab];exact hlen);rw[Ab] at h2;simp only[e1,yX];cases hr2:A8 P m q (acc.length+Y.length) with
   |bad e=>rw[hr2] at h2;exact h2
   |ok q2 Z=>rw[hr2] at h2;simpa[CE] using h2
theorem abx(hk:2000≤k)(S:(List Int)→Int→Int→Int→Int→(List yY)→Option ((Unit×Int×Int)×(List yY)))(b:List Int)(hl:b.length<4611686018427387904)(hb:Av b)(deep:Nat)(Ip:deep≤100)(P:Int→Int→Nat→Nat→zx (List yY))
 (ih:∀(t id:Int) (p:Nat) (acc:List yY),isKind t=true→p≤b.length→acc.length≤1500→GX S b t id ((deep+1:Nat):Int) p acc (P t id p acc.length))
 (hP:∀t id p c q Y,isKind t=true→c≤1500→P t id p c= .ok q Y→c+Y.length≤1500) (Bb:Int) (pre:List yY):
 ∀(g f:Nat) (last:Int) (p:Nat) (j:Nat) (mid:List yY),1002≤(g:Int)+last→0≤last→last≤1000→g<f→p≤b.length→pre.length+1+mid.length≤1500→(j:Int)+g≤4000→
 match CP P b g last p (pre.length+1+mid.length) with
 | .bad e=>e≠0∧∃q l,zT.IG k S f b (p:Int) (deep:Int) (pre.length:Int) last (j:Int) (pre++sn Bb 0::mid)=some (((),q,e),l)
 | .ok q (m,Y)=>q≤b.length∧zT.IG k S f b (p:Int) (deep:Int) (pre.length:Int) last (j:Int) (pre++sn Bb 0::mid)=some (((),(q:Int),0),pre++sn Bb ((j+m:Nat):Int)::(mid++Y)):=by
 have hdw:IntKind.wrap .i64 ((deep:Int)+1)=((deep+1:Nat):Int):=by rw[zh (by omega) (by omega)];omega
 intro g
 induction g with
 |zero=>intro f last p j mid h1 h2 h3;omega
 |succ g Lu=>
  intro f last p j mid h1 h2 h3 hf hp hc hj;obtain⟨f,rfl⟩:∃j,f=j+1:=⟨f-1,by omega⟩;have Lp:IntKind.wrap .i64 ((j:Int)+1)=((j+1:Nat):Int):=by rw[zh (by omega) (by omega)];omega
  obtain⟨x,y,z,e,e1,e2⟩:=abz k hk hl hb p hp last ⟨h2,h3⟩;simp only[CP,zT.IG,e1,yX];cases hr:Gi b p last with
  |bad c=>
   rw[hr] at e2;obtain⟨rfl,he⟩:=e2;simp only[zK he,yZ];exact⟨he,_,_,rfl⟩
  |ok q w=>
   obtain⟨t,id⟩:=w;rw[hr] at e2;obtain⟨rfl,hy,rfl,rfl,hq⟩:=e2;obtain⟨a1,a2⟩:=Jw hr;simp only[zB rfl,y_];by_cases ht:x=0
   ·simp only[if_pos ht,zQ ht,yZ]
    have hget:gU (pre++sn Bb 0::mid) (pre.length:Int)=some (sn Bb 0):=by
     rw[Aq,List.getElem?_append_right (Nat.le_refl _)];simp
    have hset:∀x y:yY,List.set (pre++x::mid) (Int.toNat (pre.length:Int)) y=pre++y::mid:=fun x y=>by
     rw[Int.toNat_natCast,List.set_append_right _ _ (Nat.le_refl _)];simp
    simp only[hget,yX,hset];exact⟨hq,by simp[sn]⟩
   ·obtain rfl:=hy ht
    rcases a2 with a2|⟨a2,_,a3,a4,a5⟩
    ·exact(ht a2).elim
    ·simp only[if_neg ht,zn ht,y_,hdw]
     have hn:=ih x y q (pre++sn Bb 0::mid) a2 hq (by simp;omega);rw[show(pre++sn Bb 0::mid).length=pre.length+1+mid.length by simp;omega] at hn;unfold GX at hn;cases hr2:P x y q (pre.length+1+mid.length) with
     |bad e=>
      rw[hr2] at hn;obtain⟨he,q',l,e3⟩:=hn;simp only[e3,yX,zK he,yZ];exact⟨he,_,_,rfl⟩
     |ok r Y=>
      rw[hr2] at hn;obtain⟨hr1,e3⟩:=hn;have hlen:=hP _ _ _ _ _ _ a2 (by omega) hr2;have h4:=Lu f y r (j+1) (mid++Y) (by omega) (by omega) (by omega) (by omega) hr1 (by rw[Ab];omega) (by omega);rw[Ab,←Nat.add_assoc] at h4;simp only[e3,yX,zB rfl,y_,Lp,CE,List.cons_append];cases hr3:CP P b g y r (pre.length+1+mid.length+Y.length) with
      |bad e=>rw[hr3] at h4;exact h4
      |ok z w=>
       obtain⟨m,Z⟩:=w;rw[hr3] at h4;obtain⟨h5,h6⟩:=h4;refine⟨h5,?_⟩;rw[h6,show j+1+m=j+(m+1) by omega,CE]
theorem abJ(hk:2000≤k)(b:List Int)(hl:b.length<4611686018427387904)(hb:Av b):∀(d D deep:Nat) (kind id:Int) (p:Nat) (acc:List yY),d+deep=13→d<D→isKind kind=true→p≤b.length→acc.length≤1500→
 GX (zT.rec k D) b kind id (deep:Int) p acc (BA d b kind id p acc.length):=by
 intro d
 induction d with
 |zero=>
  intro D deep kind id p acc hdd hD hkd hp hc;obtain⟨D,rfl⟩:∃m,D=m+1:=⟨D-1,by omega⟩;refine⟨by decide,0,acc,?_⟩;simp only[zT.rec,zT.b,cst,zi (show(deep:Int)>12 by omega),Bool.or_true,yX,yZ]
 |succ d ih=>
  intro D deep kind id p acc hdd hD hkd hp hc;obtain⟨D,rfl⟩:∃m,D=m+1:=⟨D-1,by omega⟩;have hset:∀(acc:List yY) (x y:yY),List.set (acc++[x]) (Int.toNat (acc.length:Int)) y=acc++[y]:=fun acc x y=>by
   rw[Int.toNat_natCast,List.set_append_right _ _ (Nat.le_refl _)];simp
  have hget:∀(acc:List yY) (x:yY),gU (acc++[x]) (acc.length:Int)=some x:=fun acc x=>by
   rw[Aq,List.getElem?_append_right (Nat.le_refl _)];simp
  unfold BA;by_cases Gw:acc.length=1500
  ·rw[if_pos Gw]
   refine⟨by decide,0,acc,?_⟩;simp only[zT.rec,zT.b,cst,zQ (show(acc.length:Int)=1500 by omega),Ac,yX,yZ]
  ·rw[if_neg Gw]
   unfold GX;simp only[zT.rec,zT.b,cst,zn (show ¬(acc.length:Int)=1500 by omega),zl (show ¬(deep:Int)>12 by omega),AX,yX,y_];rw[Bn (by simp;omega),yZ];by_cases Eg:kind=5∨kind=6
   ·rw[if_pos Eg]
    have e0:(cond (kind==5)
         (zT.c8 k (zT.rec k D) b (p:Int) kind (deep:Int) (acc.length:Int) kind (kind==5) (acc++[(kind,id,0,zk,0,())]))
         (zT.c8 k (zT.rec k D) b (p:Int) kind (deep:Int) (acc.length:Int) kind (kind==6) (acc++[(kind,id,0,zk,0,())])))
     =zT.c8 k (zT.rec k D) b (p:Int) kind (deep:Int) (acc.length:Int) kind true (acc++[(kind,id,0,zk,0,())]):=by
     rcases Eg with h|h
     ·rw[zQ h,yZ]
     ·rw[zn (show ¬kind=5 by omega),zQ h,y_]
    rw[e0];simp only[zT.c8,yZ,Oc k hk hl hb p hp];cases hg:gv (b.drop p) with
    |none=>exact⟨by decide,_,_,rfl⟩
    |some z=>
     obtain⟨u,n⟩:=z;obtain⟨f1,f2,f3,f4,f5⟩:=DX _ u n (fun x hx=>hb x (List.mem_of_mem_drop hx)) hg;rw[List.length_drop] at f3;simp only[yX,zq,y_,HV,AV,Ah];have h32:(decide (-2147483648≤BB u)&&decide (BB u≤2147483647))=int32 (BB u):=rfl;rw[h32];by_cases hbad:kind=5∧int32 (BB u)=false
     ·rw[if_pos hbad]
      refine⟨by decide,0,acc++[(kind,id,0,⟨#[]⟩,0,())],?_⟩;simp only[zQ hbad.1,hbad.2,zO,Bool.and_self,yZ]
     ·rw[if_neg hbad]
      have hb2:((kind==5)&& !int32 (BB u))=false:=by
       rw[Bool.eq_false_iff];intro q;simp only[Aa,beq_iff_eq,Bool.not_eq_true'] at q;exact hbad q
      refine⟨by omega,?_⟩;simp only[hb2,y_,hget,hset,yX]
   ·rw[if_neg Eg]
    have e5:(kind==5)=false:=zn (by omega);have e6:(kind==6)=false:=zn (by omega);simp only[e5,e6,y_,zT.c8];by_cases h8:kind=8
    ·subst h8
     simp only[if_true,show((8:Int)==8)=true from rfl,yZ];obtain⟨x,z,e,e1,e2⟩:=abM k hk hl hb p hp;simp only[e1,yX,hget,hset];cases hr:EJ b p with
     |bad c=>
      rw[hr] at e2;obtain⟨rfl,he⟩:=e2;exact⟨he,_,_,rfl⟩
     |ok q s=>
      rw[hr] at e2;obtain⟨rfl,rfl,rfl,hq⟩:=e2;exact⟨hq,rfl⟩
    ·rw[if_neg h8]
     simp only[zn h8,y_];by_cases h9:kind=9
     ·subst h9
      simp only[if_true,show((9:Int)==9)=true from rfl,yZ];obtain⟨x,y,z,e,e1,e2⟩:=abE k hk hl hb p hp;simp only[e1,yX,hget,hset];cases hr:Gj b p with
      |bad c=>
       rw[hr] at e2;obtain⟨rfl,he⟩:=e2;have:∀f a,f≠0→zT.Ey k (zT.rec k D) f b (deep:Int) x y z e 0 a=some (((),z,e),a):=by
        intro f a hf;obtain⟨f,rfl⟩:∃j,f=j+1:=⟨f-1,by omega⟩;simp only[zT.Ey,zn he];cases decide ((0:Int)<x)<;>rfl
       refine⟨he,_,_,this k _ (by omega)⟩
      |ok q w=>
       obtain⟨many,item⟩:=w;rw[hr] at e2;obtain⟨rfl,rfl,rfl,rfl,hq⟩:=e2;obtain⟨_,m1⟩:=Jy hr;simp only;have hx:x≤1500:=by rcases m1 with h|h<;>omega
       have hx0:0≤x:=by rcases m1 with h|h<;>omega
       rcases m1 with⟨rfl,rfl⟩|⟨m1,m2,m3⟩
       ·obtain⟨K,hK⟩:∃K,k=K+1:=⟨k-1,by omega⟩
        have:∀f a,f≠0→zT.Ey k (zT.rec k D) f b (deep:Int) 0 0 (q:Int) 0 0 a=some (((),(q:Int),0),a):=by
         intro f a hf;obtain⟨f,rfl⟩:∃j,f=j+1:=⟨f-1,by omega⟩;simp only[zT.Ey,zl (show ¬((0:Int)<0) by omega),y_,yX]
        simp only[Int.toNat_zero,A8];exact⟨hq,this k _ (by omega)⟩
       ·have hp:=abH k (zT.rec k D) b y deep (by omega) (fun p c=>BA d b y 0 p c)
         (fun p acc hp hc=>ih D (deep+1) y 0 p acc (by omega) (by omega) (Gy m3) hp hc)
         (fun p c q Y hc h=>by
          obtain⟨_,n,X,rfl,_,_,_,h5⟩:=IL d b y 0 p c q Y (Gy m3) hc h;exact h5) x hx x.toNat k 0 q (acc++[(9,id,y,⟨#[]⟩,x,())]) (by omega) (by omega) (by omega) hq (by simp;omega)
        rw[Ab,AJ] at hp;cases hr2:A8 (fun p c=>BA d b y 0 p c) x.toNat q (acc.length+1) with
        |bad e=>rw[hr2] at hp;exact hp
        |ok q' Y=>
         rw[hr2] at hp;obtain⟨h1,h2⟩:=hp;exact⟨h1,by rw[h2];simp⟩
     ·rw[if_neg h9]
      simp only[zn h9,y_];by_cases h12:kind=12
      ·subst h12
       simp only[if_true,show((12:Int)==12)=true from rfl,yZ]
       have hf:=abx k hk (zT.rec k D) b hl hb deep (by omega) (fun t id p c=>BA d b t id p c)
        (fun t id p acc ht hp hc=>ih D (deep+1) t id p acc (by omega) (by omega) ht hp hc)
        (fun t id p c q Y ht hc h=>by
         obtain⟨_,n,X,rfl,_,_,_,h5⟩:=IL d b t id p c q Y ht hc h;exact h5) id acc 1002 k 0 p 0 [] (by omega) (by omega) (by omega) (by omega) hp (by simp;omega) (by omega)
       rw[List.length_nil,Nat.add_zero] at hf;rw[show(acc++[((12:Int),id,(0:Int),zk,(0:Int),())]:List yY)=acc++sn id 0::[] from rfl];cases hr:CP (fun t id p c=>BA d b t id p c) b 1002 0 p (acc.length+1) with
       |bad e=>rw[hr] at hf;exact hf
       |ok q' x=>
        obtain⟨m,Y⟩:=x;rw[hr] at hf;obtain⟨hq',e1⟩:=hf;refine⟨hq',?_⟩;rw[show((0:Nat):Int)=0 from rfl] at e1;rw[e1];simp[sn]
      ·rw[if_neg h12]
       simp only[zn h12,y_];exact⟨hp,trivial⟩
end Go.zJ
end
section
namespace Go.zJ
open Go.Am Go.Fn
theorem abl{S:Nat→Nat→zx (List yY)}(ih:∀p c q Y,S p c= .ok q Y→p≤q):∀(j p c q:Nat) (Y:List yY),A8 S j p c= .ok q Y→p≤q:=by
 intro j
 induction j with
 |zero=>
  intro p c q Y h;simp only[A8,zx.ok.injEq] at h;omega
 |succ j ihj=>
  intro p c q Y h;simp only[A8] at h;split at h
  ·cases h
  ·rename_i h1
   split at h
   ·cases h
   ·rename_i h2
    simp only[zx.ok.injEq] at h;have:=ih _ _ _ _ h1;have:=ihj _ _ _ _ h2;omega
theorem NV{S:Int→Int→Nat→Nat→zx (List yY)}{b:List Int}(ih:∀t id p c q Y,S t id p c= .ok q Y→p≤q):∀(f:Nat) (last:Int) (p c q:Nat) (Y:Nat×List yY),CP S b f last p c= .ok q Y→p<q:=by
 intro f
 induction f with
 |zero=>intro last p c q Y h;cases h
 |succ f EY=>
  intro last p c q Y h;simp only[CP] at h;split at h
  ·cases h
  ·rename_i h1
   have:=(Jw h1).1;split at h
   ·simp only[zx.ok.injEq] at h
    omega
   ·split at h
    ·cases h
    ·rename_i h2
     split at h
     ·cases h
     ·rename_i h3
      simp only[zx.ok.injEq] at h;have:=ih _ _ _ _ _ _ h2;have:=EY _ _ _ _ _ h3;omega
theorem abg:∀(d:Nat) (b:List Int) (kind id:Int) (p c q:Nat) (Y:List yY),BA d b kind id p c= .ok q Y→p≤q:=by
 intro d
 induction d with
 |zero=>intro b kind id p c q Y h;cases h
 |succ d ih=>
  intro b kind id p c q Y h;simp only[BA] at h;split at h
  ·cases h
  ·split at h
   ·split at h
    ·cases h
    ·split at h
     ·cases h
     ·simp only[zx.ok.injEq] at h
      omega
   ·split at h
    ·split at h
     ·cases h
     ·rename_i hs
      simp only[zx.ok.injEq] at h;have:=(LK hs).1;omega
    ·split at h
     ·split at h
      ·cases h
      ·rename_i hm
       have:=(Jy hm).1;split at h
       ·cases h
       ·rename_i hp
        simp only[zx.ok.injEq] at h;have:=abl (fun p c q Y h=>ih b _ 0 p c q Y h) _ _ _ _ _ hp;omega
     ·split at h
      ·split at h
       ·cases h
       ·rename_i hf
        simp only[zx.ok.injEq] at h;have:=NV (fun t id p c q Y h=>ih b t id p c q Y h) _ _ _ _ _ _ hf;omega
      ·simp only[zx.ok.injEq] at h
       omega
def I7(d:Nat)(Y:List yY)(m:Nat):Prop:=∀rest,(cost d (Y++rest)).2=rest∧(cost d (Y++rest)).1≤m
def I8(d:Nat)(st:Bool)(c:Nat)(last:Int)(Y:List yY)(m:Nat):Prop:=∀rest,(F4 (cost d) st c last (Y++rest)).2=rest∧(F4 (cost d) st c last (Y++rest)).1≤m
theorem Mm{d:Nat}{st:Bool}{c:Nat}{last:Int}{x:yY}{X Z:List yY}{m1 m2 m:Nat}(h1:I7 d (x::X) m1)(h2:I8 d st c x.2.1 Z m2)(hm:(if st then(Jh x last).length else 0)+m1+m2≤m):I8 d st (c+1) last ((x::X)++Z) m:=by
 intro rest;obtain⟨a1,a2⟩:=h1 (Z++rest);obtain⟨b1,b2⟩:=h2 rest;rw[CE,List.cons_append];rw[List.cons_append] at a1 a2;simp only[F4,a1];exact⟨b1,by omega⟩
theorem abd{b:List Int}(hb:Av b){p:Nat}{last:Int}{q:Nat}{t id:Int}(hl:0≤last)(h:Gi b p last= .ok q (t,id)):q≤b.length∧(t≠0→∀x:yY,x.2.1=id→p+(Jh x last).length≤q):=by
 unfold Gi at h;split at h
 ·cases h
 ·rename_i y hy
  have hp:p<b.length:=(List.getElem?_eq_some_iff.1 hy).1;obtain⟨y0,y1⟩:=hb y (List.mem_of_getElem? hy);split at h
  ·simp only[zx.ok.injEq,Prod.mk.injEq] at h
   exact⟨by omega,fun hh=>by omega⟩
  ·split at h
   ·cases h
   ·split at h
    ·cases h
    ·rename_i id' q' hm
     split at h
     ·cases h
     ·split at h
      ·cases h
      ·simp only[zx.ok.injEq,Prod.mk.injEq] at h
       obtain⟨rfl,rfl,rfl⟩:=h;split at hm
       ·cases hg:gv (b.drop (p+1)) with
        |none=>rw[hg] at hm;cases hm
        |some z=>
         rw[hg] at hm;obtain⟨u,n⟩:=z;simp only[Option.map_some,A_,Prod.mk.injEq] at hm;obtain⟨rfl,rfl⟩:=hm;obtain⟨f1,f2,f3,f4,f5⟩:=DX _ u n (fun x hx=>hb x (List.mem_of_mem_drop hx)) hg;rw[List.length_drop] at f3;refine⟨by omega,fun _ x hx=> ?_⟩;unfold Jh;split
         ·simp<;>omega
         ·rw[hx,Ml f1,A9];omega
       ·simp only[A_,Prod.mk.injEq] at hm
        obtain⟨rfl,rfl⟩:=hm;refine⟨by omega,fun _ x hx=> ?_⟩;unfold Jh;rw[if_pos (by omega)];simp
theorem abe{b:List Int}(hb:Av b){p q:Nat}{many item:Int}(h:Gj b p= .ok q (many,item)):q≤b.length∧p+(if many≤14 then 1 else 1+(uv many).length)≤q:=by
 unfold Gj at h;split at h
 ·cases h
 ·rename_i y hy
  have hp:p<b.length:=(List.getElem?_eq_some_iff.1 hy).1;obtain⟨y0,y1⟩:=hb y (List.mem_of_getElem? hy);split at h
  ·cases h
  ·rename_i m q' hm
   have hq:q'≤b.length∧p+(if m≤14 then 1 else 1+(uv m).length)≤q':=by
    split at hm
    ·cases hg:gv (b.drop (p+1)) with
     |none=>rw[hg] at hm;cases hm
     |some z=>
      rw[hg] at hm;obtain⟨u,n⟩:=z;simp only[Option.map_some,A_,Prod.mk.injEq] at hm;obtain⟨rfl,rfl⟩:=hm;obtain⟨f1,f2,f3,f4,f5⟩:=DX _ u n (fun x hx=>hb x (List.mem_of_mem_drop hx)) hg;rw[List.length_drop] at f3;refine⟨by omega,?_⟩;split<;>omega
    ·simp only[A_,Prod.mk.injEq] at hm
     obtain⟨rfl,rfl⟩:=hm;refine⟨by omega,?_⟩;rw[if_pos (by omega)];omega
   split at h
   ·rename_i h0
    simp only[zx.ok.injEq,Prod.mk.injEq] at h;obtain⟨rfl,rfl,rfl⟩:=h;rw[h0] at hq;exact hq
   ·split at h
    ·cases h
    ·split at h
     ·cases h
     ·simp only[zx.ok.injEq,Prod.mk.injEq] at h
      obtain⟨rfl,rfl,rfl⟩:=h;exact hq
theorem abn{b:List Int}(hb:Av b){p q:Nat}{s:ByteArray}(h:EJ b p= .ok q s):q≤b.length∧p+((uv (s.size:Int)).length+s.size)≤q:=by
 unfold EJ at h;split at h
 ·cases h
 ·rename_i u n hg
  obtain⟨f1,f2,f3,f4,f5⟩:=DX _ u n (fun x hx=>hb x (List.mem_of_mem_drop hx)) hg;rw[List.length_drop] at f3;split at h
  ·cases h
  ·split at h
   ·cases h
   ·simp only[zx.ok.injEq] at h
    obtain⟨rfl,rfl⟩:=h;have hs:(wY (List.take u.toNat (List.drop (p+n) b))).size=u.toNat:=by
     rw[Ho,List.length_take,List.length_drop];omega
    rw[hs,show((u.toNat:Nat):Int)=u by omega];omega
theorem abj{d:Nat}{b:List Int}{S:Nat→Nat→zx (List yY)}(ih:∀p c q Y,p≤b.length→c≤1500→S p c= .ok q Y→p≤q∧q≤b.length∧Y≠[]∧c+Y.length≤1500∧I7 d Y (q-p)):∀(m p c:Nat) (last:Int) (q:Nat) (Y:List yY),p≤b.length→c≤1500→A8 S m p c= .ok q Y→p≤q∧q≤b.length∧I8 d false m last Y (q-p):=by
 intro m
 induction m with
 |zero=>
  intro p c last q Y hp hc h;simp only[A8,zx.ok.injEq] at h;obtain⟨rfl,rfl⟩:=h;exact⟨Nat.le_refl _,hp,fun rest=>⟨rfl,Nat.zero_le _⟩⟩
 |succ m EZ=>
  intro p c last q Y hp hc h;simp only[A8] at h;split at h
  ·cases h
  ·rename_i q1 Y1 h1
   split at h
   ·cases h
   ·rename_i q2 Z h2
    simp only[zx.ok.injEq] at h;obtain⟨rfl,rfl⟩:=h;obtain⟨a1,a2,a3,a4,a5⟩:=ih _ _ _ _ hp hc h1;cases Y1 with
    |nil=>exact(a3 rfl).elim
    |cons x X=>
     obtain⟨b1,b2,b3⟩:=EZ _ _ x.2.1 _ _ a2 (by omega) h2;exact⟨by omega,b2,Mm a5 b3 (by simp;omega)⟩
theorem aa_{d:Nat}{b:List Int}(hb:Av b){S:Int→Int→Nat→Nat→zx (List yY)}(ih:∀t id p c q Y,isKind t=true→p≤b.length→c≤1500→S t id p c= .ok q Y→p≤q∧q≤b.length∧(∃x X,Y=x::X∧x.2.1=id)∧c+Y.length≤1500∧I7 d Y (q-p)):∀(f:Nat) (last:Int) (p c q m:Nat) (Y:List yY),0≤last→p≤b.length→c≤1500→CP S b f last p c= .ok q (m,Y)→p<q∧q≤b.length∧I8 d true m last Y (q-p-1):=by
 intro f
 induction f with
 |zero=>intro last p c q m Y hl hp hc h;cases h
 |succ f EY=>
  intro last p c q m Y hl hp hc h;simp only[CP] at h;split at h
  ·cases h
  ·rename_i q1 t id h1
   obtain⟨a1,a2⟩:=Jw h1;obtain⟨l1,l2⟩:=abd hb hl h1;split at h
   ·simp only[zx.ok.injEq,Prod.mk.injEq] at h
    obtain⟨rfl,rfl,rfl⟩:=h;exact⟨a1,l1,fun rest=>⟨rfl,Nat.zero_le _⟩⟩
   ·rename_i ht
    rcases a2 with a2|⟨a2,_,a3,a4,a5⟩
    ·exact(ht a2).elim
    ·split at h
     ·cases h
     ·rename_i q2 Y1 h2
      split at h
      ·cases h
      ·rename_i q3 m' Z h3
       simp only[zx.ok.injEq,Prod.mk.injEq] at h;obtain⟨rfl,rfl,rfl⟩:=h;obtain⟨c1,c2,⟨x,X,rfl,hx⟩,c4,c5⟩:=ih _ _ _ _ _ _ a2 l1 hc h2;obtain⟨b1,b2,b3⟩:=EY _ _ _ _ _ _ (by omega) c2 (by omega) h3;rw[←hx] at b3;have:=l2 ht x hx;exact⟨by omega,b2,Mm c5 b3 (by simp;omega)⟩
theorem abf:∀(d:Nat) (b:List Int) (hb:Av b) (kind id:Int) (p c q:Nat) (Y:List yY),isKind kind=true→p≤b.length→c≤1500→BA d b kind id p c= .ok q Y→q≤b.length∧I7 d Y (q-p):=by
 intro d
 induction d with
 |zero=>intro b hb kind id p c q Y hk hp hc h;cases h
 |succ d ih=>
  intro b hb kind id p c q Y hk hp hc h;have Nt:∀t id p c q Y,isKind t=true→p≤b.length→c≤1500→BA d b t id p c= .ok q Y→p≤q∧q≤b.length∧(∃x X,Y=x::X∧x.2.1=id)∧c+Y.length≤1500∧I7 d Y (q-p):=by
   intro t id p c q Y hk hp hc h;obtain⟨a1,x,X,rfl,x1,x2,x3,x4⟩:=IL d b t id p c q Y hk hc h;obtain⟨b1,b2⟩:=ih b hb t id p c q _ hk hp hc h;exact⟨a1,b1,⟨x,X,rfl,x2⟩,x4,b2⟩
  simp only[BA] at h;split at h
  ·cases h
  ·rename_i Gw
   split at h
   ·rename_i Eg
    split at h
    ·cases h
    ·rename_i u n hg
     obtain⟨f1,f2,f3,f4,f5⟩:=DX _ u n (fun x hx=>hb x (List.mem_of_mem_drop hx)) hg;rw[List.length_drop] at f3;split at h
     ·cases h
     ·simp only[zx.ok.injEq] at h
      obtain⟨rfl,rfl⟩:=h;refine⟨by omega,fun rest=> ?_⟩;simp only[List.cons_append,List.nil_append,cost,if_pos Eg,Ml f1];exact⟨trivial,by omega⟩
   ·rename_i Eg
    split at h
    ·rename_i h8
     split at h
     ·cases h
     ·rename_i q' s hs
      simp only[zx.ok.injEq] at h;obtain⟨rfl,rfl⟩:=h;obtain⟨s1,s2⟩:=abn hb hs;refine⟨s1,fun rest=> ?_⟩;simp only[List.cons_append,List.nil_append,cost,if_neg (show ¬((8:Int)=5∨(8:Int)=6) by omega),if_true];exact⟨trivial,by omega⟩
    ·rename_i h8
     split at h
     ·rename_i h9
      split at h
      ·cases h
      ·rename_i q1 many item hm
       obtain⟨m0,m1⟩:=Jy hm;obtain⟨l0,l1⟩:=abe hb hm;split at h
       ·cases h
       ·rename_i q2 Y' hq
        simp only[zx.ok.injEq] at h;obtain⟨rfl,rfl⟩:=h;have key:q1≤q2∧q2≤b.length∧I8 d false many.toNat 0 Y' (q2-q1):=by
         rcases m1 with⟨rfl,rfl⟩|⟨m1,m2,m3⟩
         ·simp only[Int.toNat_zero,A8,zx.ok.injEq] at hq
          obtain⟨rfl,rfl⟩:=hq;exact⟨Nat.le_refl _,l0,fun rest=>⟨rfl,Nat.zero_le _⟩⟩
         ·refine abj (d:=d) (b:=b) (fun p c q Y hp hc h=> ?_) _ _ _ 0 _ _ l0 (by omega) hq
          obtain⟨c1,c2,⟨x,X,c3,_⟩,c4,c5⟩:=Nt _ _ _ _ _ _ (Gy m3) hp hc h;exact⟨c1,c2,by rw[c3];simp,c4,c5⟩
        obtain⟨k0,k1,k2⟩:=key;refine⟨k1,fun rest=> ?_⟩;obtain⟨e1,e2⟩:=k2 rest;simp only[List.cons_append,cost,if_neg (show ¬((9:Int)=5∨(9:Int)=6) by omega),if_neg (show ¬((9:Int)=8) by omega),if_true];exact⟨e1,by omega⟩
     ·rename_i h9
      split at h
      ·rename_i h12
       split at h
       ·cases h
       ·rename_i q1 m Y' hf
        simp only[zx.ok.injEq] at h;obtain⟨rfl,rfl⟩:=h;obtain⟨k0,k1,k2⟩:=aa_ (d:=d) hb Nt _ _ _ _ _ _ _ (Int.le_refl 0) hp (by omega) hf;refine⟨k1,fun rest=> ?_⟩;obtain⟨e1,e2⟩:=k2 rest;simp only[List.cons_append,cost,if_neg (show ¬((12:Int)=5∨(12:Int)=6) by omega),if_neg (show ¬((12:Int)=8) by omega),if_neg (show ¬((12:Int)=9) by omega),if_true,Int.toNat_natCast];exact⟨e1,by omega⟩
      ·rename_i h12
       simp only[zx.ok.injEq] at h;obtain⟨rfl,rfl⟩:=h;refine⟨hp,fun rest=> ?_⟩;simp only[List.cons_append,List.nil_append,cost,if_neg Eg,if_neg h8,if_neg h9,if_neg h12];exact⟨trivial,by omega⟩
end Go.zJ
end
section
namespace Go.zJ
open Go.Am Go.Fn
theorem LB{x:Int}(h0: -1000000000000≤x)(h1:x≤1000000000000):zM x:=⟨by omega,by omega⟩
theorem I1{k id num m:Int}{t:ByteArray}(h1:zM k)(h2:zM id)(h3:zM num)(h4:zM m)(h5:t.size≤1073741824):DW (k,id,num,t,m,()):=⟨h1,h2,h3,h4,h5⟩
theorem i8:zM 8:=⟨by decide,by decide⟩
theorem i9:zM 9:=⟨by decide,by decide⟩
theorem i12:zM 12:=⟨by decide,by decide⟩
theorem abm{S:Nat→Nat→zx (List yY)}(ih:∀p c q Y,S p c= .ok q Y→∀n,n∈Y→DW n):∀(m p c q:Nat) (Y:List yY),A8 S m p c= .ok q Y→∀n,n∈Y→DW n:=by
 intro m
 induction m with
 |zero=>
  intro p c q Y h n hn;simp only[A8,zx.ok.injEq] at h;obtain⟨_,rfl⟩:=h;cases hn
 |succ m EZ=>
  intro p c q Y h n hn;simp only[A8] at h;split at h
  ·cases h
  ·rename_i h1
   split at h
   ·cases h
   ·rename_i h2
    simp only[zx.ok.injEq] at h;obtain⟨_,rfl⟩:=h;rcases List.mem_append.1 hn with hn|hn
    ·exact ih _ _ _ _ h1 n hn
    ·exact EZ _ _ _ _ h2 n hn
theorem abb{S:Int→Int→Nat→Nat→zx (List yY)}{b:List Int}(ih:∀t id p c q Y,isKind t=true→0≤id→id≤1000→S t id p c= .ok q Y→∀n,n∈Y→DW n):∀(f:Nat) (last:Int) (p c q m:Nat) (Y:List yY),CP S b f last p c= .ok q (m,Y)→m≤f∧∀n,n∈Y→DW n:=by
 intro f
 induction f with
 |zero=>intro last p c q m Y h;cases h
 |succ f EY=>
  intro last p c q m Y h;simp only[CP] at h;split at h
  ·cases h
  ·rename_i q1 t id h1
   obtain⟨a1,a2⟩:=Jw h1;split at h
   ·simp only[zx.ok.injEq,Prod.mk.injEq] at h
    obtain⟨_,rfl,rfl⟩:=h;exact⟨by omega,fun n hn=>by cases hn⟩
   ·rename_i ht
    rcases a2 with a2|⟨a2,_,a3,a4,a5⟩
    ·exact(ht a2).elim
    ·split at h
     ·cases h
     ·rename_i h2
      split at h
      ·cases h
      ·rename_i h3
       simp only[zx.ok.injEq,Prod.mk.injEq] at h;obtain⟨_,rfl,rfl⟩:=h;obtain⟨g1,g2⟩:=EY _ _ _ _ _ _ h3;refine⟨by omega,fun n hn=> ?_⟩;rcases List.mem_append.1 hn with hn|hn
       ·exact ih _ _ _ _ _ _ a2 (by omega) a5 h2 n hn
       ·exact g2 n hn
theorem abh:∀(d:Nat) (b:List Int) (kind id:Int) (p c q:Nat) (Y:List yY),isKind kind=true→0≤id→id≤1000→BA d b kind id p c= .ok q Y→∀n,n∈Y→DW n:=by
 intro d
 induction d with
 |zero=>intro b kind id p c q Y _ _ _ h;cases h
 |succ d ih=>
  intro b kind id p c q Y hk h0 h1 h;have hkb:zM kind:=by rcases Jq hk with e|e|e|e|e|e|e<;>subst e<;>exact⟨by decide,by decide⟩
  have hid:zM id:=LB (by omega) (by omega);have hz:zM 0:=⟨by decide,by decide⟩;have he:zk.size≤1073741824:=by decide
  have mk:∀(x:yY) (Y:List yY),DW x→(∀n,n∈Y→DW n)→∀n,n∈x::Y→DW n:=fun x Y hx hY n hn=>by
   rcases List.mem_cons.1 hn with rfl|hn
   ·exact hx
   ·exact hY n hn
  have nil:∀n:yY,n∈([]:List yY)→DW n:=fun n hn=>by cases hn
  simp only[BA] at h;split at h
  ·cases h
  ·split at h
   ·split at h
    ·cases h
    ·split at h
     ·cases h
     ·simp only[zx.ok.injEq] at h
      obtain⟨_,rfl⟩:=h;exact mk _ _ (I1 hkb hid (Mk _) hz he) nil
   ·split at h
    ·split at h
     ·cases h
     ·rename_i s hs
      obtain⟨_,s2⟩:=LK hs;simp only[zx.ok.injEq] at h;obtain⟨_,rfl⟩:=h;exact mk _ _ (I1 i8 hid hz hz (by omega)) nil
    ·split at h
     ·split at h
      ·cases h
      ·rename_i many item hm
       obtain⟨_,m1⟩:=Jy hm;split at h
       ·cases h
       ·rename_i hp
        simp only[zx.ok.injEq] at h;obtain⟨_,rfl⟩:=h;rcases m1 with⟨rfl,rfl⟩|⟨m1,m2,m3⟩
        ·simp only[Int.toNat_zero,A8,zx.ok.injEq] at hp
         obtain⟨_,rfl⟩:=hp;exact mk _ _ (I1 i9 hid hz hz he) nil
        ·refine mk _ _ (I1 i9 hid ?_ (LB (by omega) (by omega)) he) (abm (fun p c q Y h=>ih b item 0 p c q Y (Gy m3) (by omega) (by omega) h) _ _ _ _ _ hp)
         rcases Jq (Gy m3) with e|e|e|e|e|e|e<;>subst e<;>exact⟨by decide,by decide⟩
     ·split at h
      ·split at h
       ·cases h
       ·rename_i hf
        simp only[zx.ok.injEq] at h;obtain⟨_,rfl⟩:=h;obtain⟨g1,g2⟩:=abb (fun t id p c q Y hk h0 h1 h=>ih b t id p c q Y hk h0 h1 h) _ _ _ _ _ _ _ hf;exact mk _ _ (I1 i12 hid hz (LB (by omega) (by omega)) he) g2
      ·simp only[zx.ok.injEq] at h
       obtain⟨_,rfl⟩:=h;exact mk _ _ (I1 hkb hid hz hz he) nil
def JJ(b:List Int)(at_:Int):zx (List yY):=if 0≤at_∧at_<b.length then BA 12 b 12 0 at_.toNat 0 else .bad 1
structure Mv(b:List Int)(at_:Int)(q:Nat)(Y:List yY):Prop where
 rng:0≤at_∧at_<q∧q≤b.length
 enc:Enc 12 Y
 root:∃X,∃n:yY,Y=n::X∧n.1=12∧n.2.1=0
 len:Y.length≤1500
 wf:∀n,n∈Y→DW n
theorem abY{b:List Int}(hl:b.length<4611686018427387904)(hb:Av b){at_:Int}{q:Nat}{Y:List yY}(h:JJ b at_= .ok q Y):Mv b at_ q Y:=by
 unfold JJ at h;split at h
 ·rename_i hr
  obtain⟨a1,n,X,e1,e2,e3,e4,e5⟩:=IL 12 b 12 0 _ 0 q Y (by decide) (by omega) h;have hlt:at_.toNat<q:=by
   simp only[BA] at h;simp only[if_neg (show ¬(0:Nat)=1500 by omega),if_neg (show ¬((12:Int)=5∨(12:Int)=6) by omega),if_neg (show ¬((12:Int)=8) by omega),if_neg (show ¬((12:Int)=9) by omega),if_true] at h;split at h
   ·cases h
   ·rename_i hf
    simp only[zx.ok.injEq] at h;obtain⟨rfl,rfl⟩:=h;exact NV (fun t id p c q Y h=>abg 11 b t id p c q Y h) _ _ _ _ _ _ hf
  have hq:=(abf 12 b hb 12 0 _ 0 q Y (by decide) (by omega) (by omega) h).1;exact⟨⟨hr.1,by omega,hq⟩,e4,⟨X,n,e1,e2,e3⟩,by omega,abh 12 b 12 0 _ 0 q Y (by decide) (by omega) (by omega) h⟩
 ·cases h
variable(k:Nat)
theorem ab0(hk:2000≤k)(b:List Int)(hl:b.length<4611686018427387904)(hb:Av b)(at_:Int):
 match JJ b at_ with
 | .bad e=>e≠0∧JC k b at_=some (((),0,e),[])∧Jl k b at_=some (((),0,e),[])
 | .ok q Y=>JC k b at_=some (((),(q:Int),0),Y)∧Jl k b at_=some (((),(q:Int),0),Y):=by
 unfold JJ JC Jl;simp only[cst,Ay];by_cases hr:0≤at_∧at_<b.length
 ·rw[if_pos hr]
  have c1:(decide ((0:Int)≤at_)&&decide (at_≤IntKind.wrap .i64 ((b.length:Int)-1)))=true:=by
   rw[zh (by omega) (by omega)];simp;omega
  rw[zl (show ¬at_<0 by omega),zl (show ¬at_≥(b.length:Int) by omega),c1];simp only[AX,yX,y_,zq];obtain⟨p,rfl⟩:=Int.eq_ofNat_of_zero_le hr.1;rw[Int.toNat_natCast];have hs:=abJ k hk b hl hb 12 k 1 12 0 p [] (by omega) (by omega) (by decide) (by omega) (by simp);have hi:=aag k hk b hl hb 12 k 1 12 0 p [] (by omega) (by omega) (by decide) (by omega) (by simp);have es:∀x,zT k b (p:Int) 12 0 1 []=x↔zT.rec k k b (p:Int) 12 0 ((1:Nat):Int) []=x:=fun x=>Iff.rfl;have ei:∀x,zI k 12 0 1 (b,(p:Int),(),0,()) []=x↔(zI.rec k k).1 12 0 ((1:Nat):Int) (zW b p 0) []=x:=fun x=>Iff.rfl;rw[List.length_nil] at hs hi;unfold GX at hs;unfold GR at hi;cases h:BA 12 b 12 0 p 0 with
  |bad e=>
   rw[h] at hs hi;obtain⟨he,q,l,e1⟩:=hs;obtain⟨_,q',l',_,e2⟩:=hi;rw[(es _).2 e1,(ei _).2 e2];simp only[yX,zK he,yZ];exact⟨he,trivial,trivial⟩
  |ok q Y=>
   rw[h] at hs hi;obtain⟨_,e1⟩:=hs;obtain⟨_,e2⟩:=hi;rw[(es _).2 e1,(ei _).2 e2];simp only[yX,zB rfl,y_,List.nil_append];exact⟨trivial,trivial⟩
 ·rw[if_neg hr]
  have c1:(decide ((0:Int)≤at_)&&decide (at_≤IntKind.wrap .i64 ((b.length:Int)-1)))=false:=by
   rw[zh (by omega) (by omega),Bool.eq_false_iff];intro q;simp only[Aa,Ae] at q;omega
  have c2:(decide (at_<0)||decide (at_≥(b.length:Int)))=true:=by
   simp only[Bool.or_eq_true,Ae];omega
  rw[c1,c2];simp only[yX,yZ,zO];exact⟨by decide,trivial,trivial⟩
theorem abq(hk:2000≤k){b:List Int}{at_:Int}{q:Nat}{Y:List yY}(h:Mv b at_ q Y):JB k Y=some true:=by
 obtain⟨X,n,rfl,h1,h2⟩:=h.root;exact abZ k hk n X h.enc h.len h1 h2
end Go.zJ
end
section
namespace Go.zJ
open Go.Am Go.Fn
abbrev hdr(a:Int)(bad:Bool):BP:=((),a,bad,())
abbrev zN:yY:=(0,0,0,zk,0,())
abbrev zH:zA:=(0,0,0,0,0,0,0,0,false,0,false,zS,0,())
section
variable(k:Nat)(hk:2000000≤k){l:List yY}{af:List Int}(h:Ee l af)
include hk h
theorem hany(a:Nat)(ha:a<l.length)(id:Int)(b:Bool):Dq k id (hdr a b) (true,tB l) af=some ((nV k l a id).1,(hdr a (b|| !(nV k l a id).2),tB l,af)):=by
 obtain⟨_,g,_⟩:=IK k (by omega) h a ha id;unfold Dq Dq.c4;simp only[g,yX];cases(nV k l a id).2<;>cases b<;>rfl
theorem Iq(a:Nat)(ha:a<l.length)(id:Int)(b:Bool):Dx k id 0 (hdr a b) (tB l) af=some ((nV k l a id).1,(hdr a (b||(!(nV k l a id).2||decide ((nV k l a id).1<0))),tB l,af)):=by
 obtain⟨_,g,_⟩:=IK k (by omega) h a ha id;unfold Dx Dx.c4;simp only[g,yX,cst];cases(nV k l a id).2<;>cases decide ((nV k l a id).1<0)<;>cases b<;>rfl
def Kq(l:List yY)(q:Int):Int:=((gU l q).map (·.1)).getD 0
theorem Jp(q:Int)(h0:0≤q)(h1:q<l.length):∃n,gU l q=some n∧Kq l q=n.1∧Ce n=true:=by
 obtain⟨p,rfl⟩:=Int.eq_ofNat_of_zero_le h0;obtain⟨d,nx,hd,hs,hnx⟩:=h.at (i:=p) (by omega);obtain⟨n,n1,n2,n3⟩:=JR hs;refine⟨n,n1,?_,n2⟩;unfold Kq;rw[show gU l ((p:Nat):Int)=some n from n1];rfl
theorem ZI(q:Nat)(hq:q<l.length)(hn:Kq l q≠12)(id:Int):fV k l q id= -1:=by
 obtain⟨n,n1,n2,n3⟩:=Jp k hk h (q:Int) (by omega) (by omega);have c1:(decide ((0:Int)≤(q:Int))&&decide ((q:Int)≤IntKind.wrap .i64 ((l.length:Int)-1)))=true:=by
  have:=h.len;rw[zh (by omega) (by omega)];simp;omega
 have:BZ k l (q:Int) id=some (-1):=by
  unfold BZ;simp only[AV,c1,yX,zq,y_,n1,cst,Ah,zK (show ¬n.1=12 by omega),yZ,Ac,Bool.or_true]
 unfold fV;rw[this];rfl
def EK(k:Nat)(l:List yY)(id:Int):Bool:=decide (0≤fV k l 0 id)&&(Kq l (fV k l 0 id)==12)
theorem Le(id:Int)(b:Bool):∃q:Nat,q<l.length∧Iu k id (hdr 0 b) (tB l) af=some ((),(hdr q (b|| !EK k l id),tB l,af))∧KP k l id=some (if EK k l id then(q:Int) else -1):=by
 have hpos:=h.pos;obtain⟨f1,f2,f3⟩:=G7 k (by omega) h 0 (by omega) id;rw[show((0:Nat):Int)=0 from rfl] at f1 f2 f3;unfold Iu KP EK;simp only[f1,f2,yX];rcases f3 with f3|⟨q,f3,q1,q2⟩
 ·rw[f3]
  refine⟨0,hpos,?_,rfl⟩;cases b<;>rfl
 ·rw[f3]
  obtain⟨n,n1,n2,n3⟩:=Jp k hk h (q:Int) (by omega) (by omega);simp only[zl (show ¬(q:Int)<0 by omega),y_,n1,yX,n2,zi (show(0:Int)≤(q:Int) by omega),CX];by_cases h12:n.1=12
  ·refine⟨q,q2,?_,?_⟩
   ·rw[zB h12,zQ h12,y_];cases b<;>rfl
   ·rw[zB h12,zQ h12];rfl
  ·refine⟨0,hpos,?_,?_⟩
   ·rw[zK h12,zn h12,yZ];cases b<;>rfl
   ·rw[zK h12,zn h12];rfl
theorem aac(a:Nat)(ha:a<l.length)(ids:List Int)(hi:ids.length<1000):∀(post pre:List Int) (n:Nat) (o:List Int),ids=pre++post→post.length<n→o.length=pre.length→
 ∃out,EM.l3 k n l (a:Int) ids (pre.length:Int) o=some (((),post.all fun id=>(nV k l a id).2),out)∧((post.all fun id=>(nV k l a id).2)=true→out=o++post.map fun id=>(nV k l a id).1):=by
 intro post
 induction post with
 |nil=>
  intro pre n o hp hn ho;obtain⟨n,rfl⟩:∃x,n=x+1:=⟨n-1,by omega⟩;have:ids=pre:=by simpa using hp
  subst this;simp only[EM.l3,zl (show ¬(ids.length:Int)<(ids.length:Int) by omega),y_];exact⟨o,rfl,fun _=>by simp⟩
 |cons id post ih=>
  intro pre n o hp hn ho;simp only[A9] at hn;obtain⟨n,rfl⟩:∃x,n=x+1:=⟨n-1,by omega⟩;have hlen:ids.length=pre.length+(post.length+1):=by rw[hp];simp
  have hg:gU ids (pre.length:Int)=some id:=by rw[hp];exact Ai pre post id
  obtain⟨g,_⟩:=IK k (by omega) h a ha id;simp only[EM.l3,zi (show(pre.length:Int)<(ids.length:Int) by omega),yZ,hg,yX,g,List.all_cons];cases hb:(nV k l a id).2 with
  |false=>exact⟨o,rfl,fun h=>by cases h⟩
  |true=>
   obtain⟨out,i1,i2⟩:=ih (pre++[id]) n (o++[(nV k l a id).1]) (by rw[hp];simp) (by omega) (by simp[ho]);rw[Ab,AJ] at i1;simp only[zq,y_,Bn (show o.length+[(nV k l a id).1].length≤4294967296 by simp;omega),yZ,zh (x:=(pre.length:Int)+1) (by omega) (by omega),CX];exact⟨out,i1,fun hh=>by rw[i2 hh];simp⟩
theorem ids_eq(a:Nat)(ha:a<l.length)(ids:List Int)(hi:ids.length<1000):
 ∃out,EM k l (a:Int) ids=some (((),ids.all fun id=>(nV k l a id).2),out)∧((ids.all fun id=>(nV k l a id).2)=true→out=ids.map fun id=>(nV k l a id).1):=by
 obtain⟨out,i1,i2⟩:=aac k hk h a ha ids hi ids [] k [] rfl (by omega) rfl;exact⟨out,i1,fun hh=>by rw[i2 hh];simp⟩
abbrev setSt(x:zA)(S:Bl×Bool):zA:=(x.1,x.2.1,x.2.2.1,x.2.2.2.1,x.2.2.2.2.1,x.2.2.2.2.2.1,x.2.2.2.2.2.2.1,x.2.2.2.2.2.2.2.1,x.2.2.2.2.2.2.2.2.1,x.2.2.2.2.2.2.2.2.2.1,S.2,S.1,x.2.2.2.2.2.2.2.2.2.2.2.2.1,())
def JH(k:Nat)(lf:zD)(l:List yY)(a id:Int):Bl×Bool:=
 if 0≤fV k l a id then(FE k lf l (fV k l a id)).getD (zS,false) else(zS,false)
def JP(x:zA):Prop:=x.2.2.2.2.2.2.2.2.2.2.1=false∧x.2.2.2.2.2.2.2.2.2.2.2.1=zS
theorem N_(lf:zD)(hlf:D6 lf=true)(a:Nat)(ha:a<l.length)(id:Int)(hid:id>0)(b:Bool)(x:zA)(hx:JP x)(zC:zA):
 Jm k lf id (hdr a b) x (tB l) af=some ((),(hdr a b,setSt x (JH k lf l a id),tB l,af))∧Ar.F3 k l id (a:Int) lf x zC=some (setSt x (JH k lf l a id),true):=by
 obtain⟨f1,f2,f3⟩:=G7 k (by omega) h a ha id;have Lt:setSt x (zS,false)=x:=by
  obtain⟨h1,h2⟩:=hx;obtain⟨x1,x2,x3,x4,x5,x6,x7,x8,x9,x10,x11,x12,x13,x14⟩:=x;simp only at h1 h2;subst h1;subst h2;rfl
 unfold Jm Ar.F3 Ar.GY JH;simp only[f1,f2,yX,zi hid,yZ];rcases f3 with f3|⟨q,f3,q1,q2⟩
 ·rw[f3]
  exact⟨by rw[if_neg (by decide),Lt];rfl,by rw[if_neg (by decide),Lt];rfl⟩
 ·rw[f3]
  obtain⟨n,n1,n2,n3⟩:=Jp k hk h (q:Int) (by omega) (by omega);obtain⟨S,s1,s2,s3⟩:=abL k hk h lf hlf q q2;rw[if_pos (by omega),s2];simp only[zi (show(q:Int)≥0 by omega),yZ,n1,yX,s1,Ah,Option.getD_some];by_cases h12:n.1=12
  ·rw[zQ h12]
   simp only[CX,yZ,s2,yX];exact⟨trivial,trivial⟩
  ·rw[zn h12]
   have:S=(zS,false):=by
    have hm:(nV k l q 3).2=false:=by
     obtain⟨_,_,_,g4⟩:=IK k (by omega) h q q2 3;have:=ZI k hk h q q2 (by omega) 3;cases hb:(nV k l q 3).2 with
     |false=>rfl
     |true=>have:=g4 hb;omega
    unfold FE at s2;obtain⟨g1,_⟩:=IK k (by omega) h q q2 3;obtain⟨t5,b5,_,g5,_⟩:=text_eq k (by omega) h q q2 5;obtain⟨t6,b6,_,g6,_⟩:=text_eq k (by omega) h q q2 6;simp only[g1,g5,g6,yX,hm,zO,yZ,A_] at s2;exact s2.symm
   subst this;simp only[Bool.and_false,y_];exact⟨trivial,by rw[Lt]⟩
def tl(k:Nat)(l:List yY)(a:Int):Bool:=(!(nV k l a 1).2||decide ((nV k l a 1).1<0))||decide ((nV k l a 1).1>2000)
abbrev LW(x:zA)(m:Int):zA:=(x.1,x.2.1,m,x.2.2.2.1,x.2.2.2.2.1,x.2.2.2.2.2.1,x.2.2.2.2.2.2.1,x.2.2.2.2.2.2.2.1,x.2.2.2.2.2.2.2.2.1,x.2.2.2.2.2.2.2.2.2.1,x.2.2.2.2.2.2.2.2.2.2.1,x.2.2.2.2.2.2.2.2.2.2.2.1,x.2.2.2.2.2.2.2.2.2.2.2.2.1,())
theorem Jc(a:Nat)(ha:a<l.length)(b:Bool)(x:zA):Aw.c23 k (hdr a b) x (tB l) af=some ((),(hdr a (b||tl k l a),LW x (nV k l a 1).1,tB l,af)):=by
 unfold Aw.c23 tl;simp only[Iq k hk h a ha 1 b,yX,cst,Bool.or_assoc]
theorem L8{a:Int}(hh:tl k l a=false):(nV k l a 1).2=true∧0≤(nV k l a 1).1∧(nV k l a 1).1≤2000:=by
 unfold tl at hh;simp only[Bool.or_eq_false_iff,Bool.not_eq_false',decide_eq_false_iff_not] at hh;exact⟨hh.1.1,by omega,by omega⟩
theorem L9{a:Int}(hh:tl k l a=true):(nV k l a 1).2=false∨(decide (0≤(nV k l a 1).1)&&decide ((nV k l a 1).1≤2000))=false:=by
 cases hb:(nV k l a 1).2 with
 |false=>exact .inl rfl
 |true=>
  right;unfold tl at hh;rw[hb] at hh;simp only[zq,AB,Bool.or_eq_true,Ae] at hh;rw[Bool.eq_false_iff];simp only[ne_eq,Aa,Ae];omega
def GV(k:Nat)(l:List yY)(af:List Int)(lf:zD)(b:Bool)(x:zA):Prop:=
 ∃(a':Int) (c:Bool) (y y':zA),Aw k lf (hdr 0 b) x (tB l) af=some ((),(hdr a' (b||c),y,tB l,af))∧Ar k lf l x=some (y',!c)∧(y.2.1=x.2.1∧y.2.2.2.2.2.2.2.2.2.2.2.2.1=x.2.2.2.2.2.2.2.2.2.2.2.2.1)∧(c=false→y'=y∧0≤y.2.2.1∧y.2.2.1≤2000)
theorem aaW(lf:zD)(b:Bool)(x:zA)(hkd:x.1=2):GV k l af lf b x:=by
 obtain⟨q,hq,e1,e2⟩:=Le k hk h 7 b;obtain⟨out,g1,g2⟩:=ids_eq k hk h q hq [1,2] (by decide);unfold GV Aw Ar Ar.c7 Ar.F3 Ar.GY;simp only[hkd,show((2:Int)==0)=false from rfl,show((2:Int)==3)=false from rfl,show((2:Int)==2)=true from rfl,yZ,y_,e1,e2,yX,hany k hk h q hq,Jc k hk h q hq,AV,cst,show decide ((0:Int)>0)=false from rfl];have gx:∀c:Bool,(((b|| !EK k l 7)|| !(nV k l q 2).2)||tl k l q)=(b||(!EK k l 7||(!(nV k l q 2).2||tl k l q))):=fun _=>by simp only[Bool.or_assoc]
 rw[gx true];cases hE:EK k l 7 with
 |false=>
  simp only[Bool.false_eq_true,if_false,show decide ((-1:Int)<0)=true from rfl,yZ];exact⟨_,_,_,_,rfl,rfl,⟨rfl,rfl⟩,fun hh=>by simp at hh⟩
 |true=>
  simp only[if_true,zl (show ¬(q:Int)<0 by omega),y_,g1,yX,List.all_cons,List.all_nil,Bool.and_true];cases h2:(nV k l q 2).2 with
  |false=>
   simp only[Bool.and_false,zO,yZ,yX];exact⟨_,_,_,_,rfl,rfl,⟨rfl,rfl⟩,fun hh=>by simp at hh⟩
  |true=>
   cases ht:tl k l q with
   |true=>
    rcases L9 k hk h ht with h1|h1
    ·simp only[h1,Df,zO,yZ,yX]
     exact⟨_,_,_,_,rfl,rfl,⟨rfl,rfl⟩,fun hh=>by simp at hh⟩
    ·cases h1':(nV k l q 1).2 with
     |false=>
      simp only[Df,zO,yZ,yX];exact⟨_,_,_,_,rfl,rfl,⟨rfl,rfl⟩,fun hh=>by simp at hh⟩
     |true=>
      have g2:=g2 (by simp[h1',h2]);subst g2;simp only[List.map_cons,List.map_nil,Bool.and_self,zq,y_,Hz,List.getElem?_cons_zero,yX,h1,zO,yZ];exact⟨_,_,_,_,rfl,rfl,⟨rfl,rfl⟩,fun hh=>by simp at hh⟩
   |false=>
    obtain⟨h1,t0,t1⟩:=L8 k hk h ht;have g2:=g2 (by simp[h1,h2]);subst g2;have r1:gU [(nV k l q 1).1,(nV k l q 2).1] 1=some (nV k l q 2).1:=rfl;simp only[h1,List.map_cons,List.map_nil,Bool.and_self,zq,y_,Hz,List.getElem?_cons_zero,yX,r1,zi t0,zi t1];exact⟨_,_,_,_,rfl,rfl,⟨rfl,rfl⟩,fun _=>⟨rfl,t0,t1⟩⟩
theorem aaV(lf:zD)(hlf:D6 lf=true)(b:Bool)(x:zA)(hkd:x.1=0)(hx:JP x):GV k l af lf b x:=by
 obtain⟨q,hq,e1,e2⟩:=Le k hk h 5 b;obtain⟨out,g1,g2⟩:=ids_eq k hk h q hq [1,2,3,4] (by decide);have st:=fun(bb:Bool) (m e:Int)=>N_ k hk h lf hlf q hq 5 (by decide) bb ((0,x.2.1,m,e,x.2.2.2.2.1,x.2.2.2.2.2.1,x.2.2.2.2.2.2.1,x.2.2.2.2.2.2.2.1,x.2.2.2.2.2.2.2.2.1,x.2.2.2.2.2.2.2.2.2.1,x.2.2.2.2.2.2.2.2.2.2.1,x.2.2.2.2.2.2.2.2.2.2.2.1,x.2.2.2.2.2.2.2.2.2.2.2.2.1,()):zA) hx zH;by_cases hc3:(nV k l q 3).1=3∧(nV k l q 4).1=3
 ·obtain⟨h3,h4⟩:=hc3
  unfold GV Aw Ar Ar.c7 Aw.c8;simp only[hkd,show((0:Int)==0)=true from rfl,show((0:Int)==3)=false from rfl,show((0:Int)==2)=false from rfl,yZ,y_,e1,e2,yX,hany k hk h q hq,(st _ _ _).1,Jc k hk h q hq,AV,cst];simp only[zB h3,zB h4,y_];rw[show((((((b|| !EK k l 5)|| !(nV k l q 2).2)|| !(nV k l q 3).2)|| !(nV k l q 4).2)||tl k l q))=(b||(!EK k l 5||(!(nV k l q 2).2||(!(nV k l q 3).2||(!(nV k l q 4).2||tl k l q))))) by simp only[Bool.or_assoc]];cases hE:EK k l 5 with
  |false=>
   simp only[Bool.false_eq_true,if_false,show decide ((-1:Int)<0)=true from rfl,yZ];exact⟨_,_,_,_,rfl,rfl,⟨rfl,rfl⟩,fun hh=>by simp at hh⟩
  |true=>
   simp only[if_true,zl (show ¬(q:Int)<0 by omega),y_,g1,yX,List.all_cons,List.all_nil,Bool.and_true];cases n2:(nV k l q 2).2 with
   |false=>
    simp only[Bool.and_false,Df,zO,yZ,yX];exact⟨_,_,_,_,rfl,rfl,⟨rfl,rfl⟩,fun hh=>by simp at hh⟩
   |true=>
    cases n3:(nV k l q 3).2 with
    |false=>
     simp only[Bool.and_false,Df,zO,yZ,yX];exact⟨_,_,_,_,rfl,rfl,⟨rfl,rfl⟩,fun hh=>by simp at hh⟩
    |true=>
     cases n4:(nV k l q 4).2 with
     |false=>
      simp only[Bool.and_false,Df,zO,yZ,yX];exact⟨_,_,_,_,rfl,rfl,⟨rfl,rfl⟩,fun hh=>by simp at hh⟩
     |true=>
      cases n1:(nV k l q 1).2 with
      |false=>
       have ht:tl k l q=true:=by unfold tl;rw[n1];rfl
       rw[ht];simp only[Bool.and_false,Df,zO,yZ,yX];exact⟨_,_,_,_,rfl,rfl,⟨rfl,rfl⟩,fun hh=>by simp at hh⟩
      |true=>
       have g2:=g2 (by simp[n1,n2,n3,n4]);subst g2;have r1:∀a b c d:Int,gU [a,b,c,d] 1=some b:=fun _ _ _ _=>rfl;have r2:∀a b c d:Int,gU [a,b,c,d] 2=some c:=fun _ _ _ _=>rfl;have r3:∀a b c d:Int,gU [a,b,c,d] 3=some d:=fun _ _ _ _=>rfl;simp only[List.map_cons,List.map_nil,Bool.and_self,zq,y_,Hz,List.getElem?_cons_zero,yX,r1,r2,r3,zB h3,zB h4];cases ht:tl k l q with
       |true=>
        rcases L9 k hk h ht with t|t
        ·rw[n1] at t;cases t
        ·simp only[t,zO,yZ]
         exact⟨_,_,_,_,rfl,rfl,⟨rfl,rfl⟩,fun hh=>by simp at hh⟩
       |false=>
        obtain⟨_,t0,t1⟩:=L8 k hk h ht;simp only[zi t0,zi t1,Bool.and_self,zq,y_];exact⟨_,_,_,_,rfl,(st b _ _).2,⟨rfl,rfl⟩,fun _=>⟨rfl,t0,t1⟩⟩
 ·
   have hI:∃(a':Int) (y:zA),Aw k lf (hdr 0 b) x (tB l) af=some ((),(hdr a' true,y,tB l,af))∧(y.2.1=x.2.1∧y.2.2.2.2.2.2.2.2.2.2.2.2.1=x.2.2.2.2.2.2.2.2.2.2.2.2.1):=by
    unfold Aw Aw.c8;simp only[hkd,show((0:Int)==0)=true from rfl,yZ,e1,yX,hany k hk h q hq,(st _ _ _).1,Jc k hk h q hq];by_cases h3:(nV k l q 3).1=3
    ·have h4:¬(nV k l q 4).1=3:=fun h4=>hc3 ⟨h3,h4⟩
     simp only[zB h3,zK h4,y_,yZ,Ac];exact⟨_,_,rfl,rfl,rfl⟩
    ·simp only[zK h3,yZ,Ac]
     exact⟨_,_,rfl,rfl,rfl⟩
   have hS:∃y',Ar k lf l x=some (y',false):=by
    unfold Ar Ar.c7;simp only[hkd,show((0:Int)==0)=true from rfl,show((0:Int)==3)=false from rfl,show((0:Int)==2)=false from rfl,yZ,y_,e2,yX,AV,cst];cases EK k l 5 with
    |false=>
     simp only[Bool.false_eq_true,if_false,show decide ((-1:Int)<0)=true from rfl,yZ];exact⟨_,rfl⟩
    |true=>
     simp only[if_true,zl (show ¬(q:Int)<0 by omega),y_,g1,yX];cases hal:([1,2,3,4].all fun id=>(nV k l (q:Int) id).2) with
     |false=>
      simp only[zO,yZ,yX];exact⟨_,rfl⟩
     |true=>
      have g2:=g2 hal;subst g2;have r1:∀a b c d:Int,gU [a,b,c,d] 1=some b:=fun _ _ _ _=>rfl;have r2:∀a b c d:Int,gU [a,b,c,d] 2=some c:=fun _ _ _ _=>rfl;have r3:∀a b c d:Int,gU [a,b,c,d] 3=some d:=fun _ _ _ _=>rfl;simp only[List.map_cons,List.map_nil,zq,y_,Hz,List.getElem?_cons_zero,yX,r1,r2,r3];cases(decide (0≤(nV k l (q:Int) 1).1)&&decide ((nV k l (q:Int) 1).1≤2000)) with
      |false=>exact⟨_,rfl⟩
      |true=>
       by_cases h3:(nV k l q 3).1=3
       ·have h4:¬(nV k l q 4).1=3:=fun h4=>hc3 ⟨h3,h4⟩
        simp only[zB h3,zK h4,y_,yX,yZ,zq,Bool.or_true,AB];exact⟨_,rfl⟩
       ·simp only[zK h3,yX,yZ,zq,y_,Ac]
        exact⟨_,rfl⟩
   obtain⟨a',y,i1,i2⟩:=hI;obtain⟨y',s1⟩:=hS;exact⟨a',true,y,y',by rw[i1,Bool.or_true],s1,i2,nofun⟩
theorem aaX(lf:zD)(hlf:D6 lf=true)(b:Bool)(x:zA)(hkd:x.1=3)(hx:JP x):GV k l af lf b x:=by
 obtain⟨q,hq,e1,e2⟩:=Le k hk h 8 b;obtain⟨out,g1,g2⟩:=ids_eq k hk h q hq [1,4,2,3,5,6] (by decide);have st:=fun(bb:Bool) (m e r n d p:Int)=>N_ k hk h lf hlf q hq 8 (by decide) bb ((3,x.2.1,m,e,r,n,d,p,x.2.2.2.2.2.2.2.2.1,x.2.2.2.2.2.2.2.2.2.1,x.2.2.2.2.2.2.2.2.2.2.1,x.2.2.2.2.2.2.2.2.2.2.2.1,x.2.2.2.2.2.2.2.2.2.2.2.2.1,()):zA) hx zH;obtain⟨f1,f2,f3⟩:=G7 k (by omega) h q hq 7;have hmk:∃c7:Bool,(bif decide (fV k l q 7<0) then some true else(gU l (fV k l q 7)).bind fun y=>some (y.1==1))=some c7:=by
  rcases f3 with f3|⟨p,f3,p1,p2⟩
  ·rw[f3];exact⟨_,rfl⟩
  ·rw[f3,zl (show ¬(p:Int)<0 by omega),y_]
   obtain⟨n,n1,_⟩:=Jp k hk h (p:Int) (by omega) (by omega);rw[n1];exact⟨_,rfl⟩
 obtain⟨c7,Lm⟩:=hmk
 have hI:∃(a':Int),Aw k lf (hdr 0 b) x (tB l) af=some ((),(hdr a' (b||(!EK k l 8||((!(nV k l q 2).2||decide ((nV k l q 2).1<0))||((!(nV k l q 3).2||decide ((nV k l q 3).1<0))||(!(nV k l q 4).2||((!(nV k l q 5).2||decide ((nV k l q 5).1<0))||((!(nV k l q 6).2||decide ((nV k l q 6).1<0))||(c7||tl k l q)))))))),
  LW (setSt (3,x.2.1,0,(nV k l q 4).1,(nV k l q 3).1,(nV k l q 2).1,(nV k l q 5).1,(nV k l q 6).1,x.2.2.2.2.2.2.2.2.1,x.2.2.2.2.2.2.2.2.2.1,false,zS,x.2.2.2.2.2.2.2.2.2.2.2.2.1,()) (JH k lf l q 8)) (nV k l q 1).1,tB l,af)):=by
  unfold Aw Aw.c19;simp only[hkd,show((3:Int)==0)=false from rfl,show((3:Int)==3)=true from rfl,yZ,y_,e1,yX,hany k hk h q hq,Iq k hk h q hq,f2,Lm,(st _ _ _ _ _ _ _).1,Jc k hk h q hq];refine⟨q,?_⟩;cases c7 with
  |true=>simp only[yZ,Ac,Bool.or_true]
  |false=>simp only[y_,AB,Bool.or_assoc]
 obtain⟨a',hI⟩:=hI;generalize hYd:LW (setSt (3,x.2.1,0,(nV k l q 4).1,(nV k l q 3).1,(nV k l q 2).1,(nV k l q 5).1,(nV k l q 6).1,x.2.2.2.2.2.2.2.2.1,x.2.2.2.2.2.2.2.2.2.1,false,zS,x.2.2.2.2.2.2.2.2.2.2.2.2.1,()) (JH k lf l q 8)) (nV k l q 1).1=Y at hI;have hy2:Y.2.1=x.2.1∧Y.2.2.2.2.2.2.2.2.2.2.2.2.1=x.2.2.2.2.2.2.2.2.2.2.2.2.1:=by rw[←hYd];exact⟨rfl,rfl⟩
 unfold GV;rw[hI];unfold Ar Ar.c7;simp only[hkd,show((3:Int)==0)=false from rfl,show((3:Int)==3)=true from rfl,show((3:Int)==2)=false from rfl,yZ,y_,e2,yX,AV,cst,f1];cases hE:EK k l 8 with
 |false=>
  simp only[Bool.false_eq_true,if_false,show decide ((-1:Int)<0)=true from rfl,yZ];exact⟨a',_,Y,_,rfl,rfl,hy2,fun hh=>by simp at hh⟩
 |true=>
  simp only[if_true,zl (show ¬(q:Int)<0 by omega),y_,g1,yX];cases hal:([1,4,2,3,5,6].all fun id=>(nV k l (q:Int) id).2) with
  |false=>
   simp only[zO,yZ,yX];refine⟨a',true,Y,_,?_,rfl,hy2,nofun⟩;have:(!true||((!(nV k l q 2).2||decide ((nV k l q 2).1<0))||((!(nV k l q 3).2||decide ((nV k l q 3).1<0))||(!(nV k l q 4).2||((!(nV k l q 5).2||decide ((nV k l q 5).1<0))||((!(nV k l q 6).2||decide ((nV k l q 6).1<0))||(c7||tl k l q)))))))=true:=by
    unfold tl;simp only[List.all_cons,List.all_nil,Bool.and_true] at hal;revert hal;cases(nV k l q 1).2<;>cases(nV k l q 2).2<;>cases(nV k l q 3).2<;>cases(nV k l q 4).2<;>cases(nV k l q 5).2<;>cases(nV k l q 6).2<;>simp
   rw[this]
  |true=>
   have g2:=g2 hal;subst g2;simp only[List.all_cons,List.all_nil,Bool.and_true,Aa] at hal;obtain⟨n1,n4,n2,n3,n5,n6⟩:=hal;have r1:∀a b c d e f:Int,gU [a,b,c,d,e,f] 1=some b:=fun _ _ _ _ _ _=>rfl;have r2:∀a b c d e f:Int,gU [a,b,c,d,e,f] 2=some c:=fun _ _ _ _ _ _=>rfl;have r3:∀a b c d e f:Int,gU [a,b,c,d,e,f] 3=some d:=fun _ _ _ _ _ _=>rfl;have r4:∀a b c d e f:Int,gU [a,b,c,d,e,f] 4=some e:=fun _ _ _ _ _ _=>rfl;have r5:∀a b c d e f:Int,gU [a,b,c,d,e,f] 5=some f:=fun _ _ _ _ _ _=>rfl;have hsum:∀y:Bool,(bif y then some true else(bif decide (fV k l q 7<0) then some true else(gU l (fV k l q 7)).bind fun y=>some (y.1==1)))=some (y||c7):=by
    intro y;rw[Lm];cases y<;>rfl
   have aab:∀y:Bool,(bif y||decide (fV k l q 7<0) then some true else(gU l (fV k l q 7)).bind fun y=>some (y.1==1))=some (y||c7):=by
    intro y;cases y with
    |true=>rfl
    |false=>rw[AB,Lm,AB]
   simp only[List.map_cons,List.map_nil,zq,y_,Hz,List.getElem?_cons_zero,yX,r1,r2,r3,r4,r5,n1,n2,n3,n4,n5,n6,AB,f1,aab];cases ht:tl k l q with
   |true=>
    rcases L9 k hk h ht with t|t
    ·rw[n1] at t;cases t
    ·simp only[t,zO,yZ]
     refine⟨a',true,Y,_,by simp only[Bool.or_true],rfl,hy2,nofun⟩
   |false=>
    obtain⟨_,t0,t1⟩:=L8 k hk h ht;simp only[zi t0,zi t1,Bool.and_self,zq,y_];cases hbad:(((((decide ((nV k l q 2).1<0)||decide ((nV k l q 3).1<0))||decide ((nV k l q 5).1<0))||decide ((nV k l q 6).1<0)))||c7) with
    |true=>
     simp only[yZ];refine⟨a',true,Y,_,?_,rfl,hy2,nofun⟩;have:(decide ((nV k l q 2).1<0)||(decide ((nV k l q 3).1<0)||(decide ((nV k l q 5).1<0)||(decide ((nV k l q 6).1<0)||(c7||false)))))=true:=by
      simpa only[Bool.or_assoc,Bool.or_false] using hbad
     rw[this]
    |false=>
     simp only[y_];have:(decide ((nV k l q 2).1<0)||(decide ((nV k l q 3).1<0)||(decide ((nV k l q 5).1<0)||(decide ((nV k l q 6).1<0)||(c7||false)))))=false:=by
      simpa only[Bool.or_assoc,Bool.or_false] using hbad
     refine⟨a',false,Y,_,by rw[this],(st b _ _ _ _ _ _).2,hy2,fun _=>⟨?_,?_⟩⟩
     ·rw[←hYd,hx.1,hx.2]
     ·rw[←hYd];exact⟨t0,t1⟩
theorem aa3(id kind:Int):(fV k l 0 id= -1∧E8 k 0 id kind (true,tB l) af=some ((zN,false),(tB l,af)))∨
 ∃n:yY,0≤fV k l 0 id∧gU l (fV k l 0 id)=some n∧Ce n=true∧E8 k 0 id kind (true,tB l) af=some ((if n.1=kind then n else zN,n.1==kind),(tB l,af)):=by
 obtain⟨f1,f2,f3⟩:=G7 k (by omega) h 0 h.pos id;rw[show((0:Nat):Int)=0 from rfl] at f1 f2 f3;unfold E8;simp only[f2,yX];rcases f3 with f3|⟨q,f3,q1,q2⟩
 ·left
  rw[f3];exact⟨rfl,rfl⟩
 ·right
  obtain⟨n,n1,_,n2⟩:=Jp k hk h (q:Int) (by omega) (by omega);rw[f3];refine⟨n,by omega,n1,n2,?_⟩;simp only[zl (show ¬(q:Int)<0 by omega),y_,n1,yX];by_cases hkd:n.1=kind
  ·rw[zB hkd,zQ hkd,if_pos hkd];rfl
  ·rw[zK hkd,zn hkd,if_neg hkd];rfl
theorem NR(lf:zD)(hlf:D6 lf=true)(b:Bool)(x:zA)(hkd:x.1=0∨x.1=2∨x.1=3)(hx:JP x):GV k l af lf b x:=by
 rcases hkd with hkd|hkd|hkd
 ·exact aaV k hk h lf hlf b x hkd hx
 ·exact aaW k hk h lf b x hkd
 ·exact aaX k hk h lf hlf b x hkd hx
theorem NQ(lf:zD)(b:Bool)(x:zA)(hkd:¬(x.1=0∨x.1=2∨x.1=3)):∃a' y,Aw k lf (hdr 0 b) x (tB l) af=some ((),(hdr a' true,y,tB l,af)):=by
 unfold Aw;simp only[zn (show ¬x.1=0 from fun h=>hkd (.inl h)),zn (show ¬x.1=3 from fun h=>hkd (.inr (.inr h))),zn (show ¬x.1=2 from fun h=>hkd (.inr (.inl h))),y_];have:=Jc k hk h 0 h.pos true x;rw[show((0:Nat):Int)=0 from rfl,Ac] at this;exact⟨_,_,this⟩
abbrev hd0(v1 v2:Int)(c:Bool)(w q:Int):zA:=(v1,v2,0,0,0,0,0,0,c,w,false,zS,q,())
def EU(k:Nat)(l:List yY)(af:List Int)(lf:zD)(b:List Int)(q:Int)(bad:Bool)(x:zA):Option (zA×Int):=
 (Aw k lf (hdr 0 bad) x (tB l) af).bind fun r1=>cond r1.2.1.2.2.1 (some (zH,1)) (cond (decide (r1.2.2.1.2.1>(IntKind.wrap .i64 ((List.length b:Int)-q)))) (some (zH,2)) (some (r1.2.2.1,0)))
theorem Ng(lf:zD)(hlf:D6 lf=true)(b:List Int)(q v1 v2 w p:Int)(c:Bool):EU k l af lf b q true (hd0 v1 v2 c w p)=some (zH,1):=by
 unfold EU;by_cases hkd:v1=0∨v1=2∨v1=3
 ·obtain⟨a',cc,y,y',e1,_⟩:=NR k hk h lf hlf true (hd0 v1 v2 c w p) hkd ⟨rfl,rfl⟩
  rw[e1];rfl
 ·obtain⟨a',y,e1⟩:=NQ k hk h lf true (hd0 v1 v2 c w p) hkd
  rw[e1];rfl
theorem ZG(lf:zD)(b:List Int)(q v1 v2 w p:Int)(c bad:Bool)(hkd:¬(v1=0∨v1=2∨v1=3)):EU k l af lf b q bad (hd0 v1 v2 c w p)=some (zH,1):=by
 unfold EU;obtain⟨a',y,e1⟩:=NQ k hk h lf bad (hd0 v1 v2 c w p) hkd;rw[e1];rfl
theorem ZF(lf:zD)(hlf:D6 lf=true)(b:List Int)(q v1 v2 w p:Int)(c:Bool)(hkd:v1=0∨v1=2∨v1=3):
 ∃r,EU k l af lf b q false (hd0 v1 v2 c w p)=some r∧AY.c17 k b q lf zH zH l (hd0 v1 v2 c w p)=some r∧(r.2=0→(r.1.2.1=v2∧r.1.2.2.2.2.2.2.2.2.2.2.2.2.1=p)∧(0≤r.1.2.2.1∧r.1.2.2.1≤2000)∧r.1.2.1≤IntKind.wrap .i64 ((b.length:Int)-q))∧(r.2=0∨r.2=1∨r.2=2):=by
 unfold EU AY.c17;obtain⟨a',cc,y,y',e1,e2,e3,e4⟩:=NR k hk h lf hlf false (hd0 v1 v2 c w p) hkd ⟨rfl,rfl⟩;rw[e1,e2];cases cc with
 |true=>exact⟨_,rfl,rfl,(fun hh=>by cases hh),.inr (.inl rfl)⟩
 |false=>
  obtain⟨e4,e5⟩:=e4 rfl;subst e4;simp only[yX,AX,y_,zO,zq];by_cases hs:y'.2.1>IntKind.wrap .i64 ((b.length:Int)-q)
  ·rw[zi hs]
   exact⟨_,rfl,rfl,(fun hh=>by cases hh),.inr (.inr rfl)⟩
  ·rw[zl hs]
   exact⟨_,rfl,rfl,fun _=>⟨e3,e5,Int.not_lt.1 hs⟩,.inl rfl⟩
theorem Pt{x:Int}(h0: -2147483648≤x)(h1:x≤2147483647):bits .and .i64 x 4294967295=if x<0 then IntKind.wrap .i64 (x+4294967296) else x:=by
 have:=JS x 32 (by decide);have e:(2:Int)^32-1=4294967295:=by decide
 rw[e] at this;rw[this];have e2:(2:Int)^32=4294967296:=by decide
 rw[e2];split
 ·rw[zh (by omega) (by omega)];omega
 ·omega
theorem head_eq(lf:zD)(hlf:D6 lf=true)(b:List Int)(q:Int):
 ∃r,((Dq k 1 (hdr 0 false) (true,tB l) af).bind fun z_=>(Dx k 2 0 z_.2.1 z_.2.2.1 z_.2.2.2).bind fun r16=>
  Bv.d9 k b q lf zH r16.2.2.1 r16.2.1 (z_.1,r16.1,0,0,0,0,0,0,false,0,false,zS,q,()) r16.2.2.2)=some r∧
 ((EM k l 0 [1,2,3]).bind fun r5=>
  (cond (!r5.1.2) (some true) ((gU r5.2 0).bind fun y6=>
   (cond (y6 !=0) ((gU r5.2 0).bind fun y7=>some (y7 !=2)) (some false)).bind fun b8=>
   (cond b8 ((gU r5.2 0).bind fun y9=>some (y9 !=3)) (some false)).bind fun b10=>some (b10))).bind fun b11=>
  (cond b11 (some true) ((gU r5.2 1).bind fun Cj=>some (decide (Cj<0)))).bind fun b13=>
  (cond b13 (some true) ((gU r5.2 1).bind fun FY=>(gU r5.2 2).bind fun DU=>some (FY !=DU))).bind fun b16=>
  cond b16
   (some (zH,1))
   ((gU r5.2 0).bind fun Ag=>
    (gU r5.2 1).bind fun C7=>
    (BZ k l 0 4).bind fun Bp=>
    cond (decide (Bp≥0))
     ((gU l Bp).bind fun y20=>
      cond (y20.1 !=5)
       (some (zH,1))
       ((gU l Bp).bind fun y21=>
        cond (decide (y21.2.2.1<0))
         (AY.c17 k b q lf zH zH l (Ag,C7,0,0,0,0,0,0,true,IntKind.wrap .i64 (y21.2.2.1+4294967296),false,zS,q,()))
         (AY.c17 k b q lf zH zH l (Ag,C7,0,0,0,0,0,0,true,y21.2.2.1,false,zS,q,()))))
     (AY.c17 k b q lf zH zH l (Ag,C7,0,0,0,0,0,0,false,0,false,zS,q,()))))=some r∧
 (r.2=0→(0≤r.1.2.1∧r.1.2.2.2.2.2.2.2.2.2.2.2.2.1=q)∧(0≤r.1.2.2.1∧r.1.2.2.1≤2000)∧r.1.2.1≤IntKind.wrap .i64 ((b.length:Int)-q))∧(r.2=0∨r.2=1∨r.2=2):=by
 have hpos:=h.pos;have z:((0:Nat):Int)=0:=rfl;have a1:=hany k hk h 0 hpos 1 false;have a2:=fun bb=>Iq k hk h 0 hpos 2 bb;have a3:=fun bb=>hany k hk h 0 hpos 3 bb;obtain⟨f1,f2,f3⟩:=G7 k (by omega) h 0 hpos 4;obtain⟨out,g1,g2⟩:=ids_eq k hk h 0 hpos [1,2,3] (by decide);rw[z] at a1 f1 f2 f3 g1 g2;simp only[z] at a2 a3
 have Z_:∃(cb ch:Bool) (cw:Int),(∀bb v1 v2,Bv.c11 k b q lf zH (tB l) (hdr 0 bb) (v1,v2,0,0,0,0,0,0,false,0,false,zS,q,()) af=EU k l af lf b q (bb||cb) (hd0 v1 v2 ch cw q))∧
  ∀v1 v2,((BZ k l 0 4).bind fun Bp=>cond (decide (Bp≥0)) ((gU l Bp).bind fun y20=>cond (y20.1 !=5) (some (zH,1)) ((gU l Bp).bind fun y21=>
   cond (decide (y21.2.2.1<0))
    (AY.c17 k b q lf zH zH l (v1,v2,0,0,0,0,0,0,true,IntKind.wrap .i64 (y21.2.2.1+4294967296),false,zS,q,()))
    (AY.c17 k b q lf zH zH l (v1,v2,0,0,0,0,0,0,true,y21.2.2.1,false,zS,q,()))))
   (AY.c17 k b q lf zH zH l (v1,v2,0,0,0,0,0,0,false,0,false,zS,q,())))=cond cb (some (zH,1)) (AY.c17 k b q lf zH zH l (hd0 v1 v2 ch cw q)):=by
  unfold Bv.c11 Bv.c14 Bv.d14 EU;simp only[f1,f2,yX];rcases aa3 k hk h 4 5 with⟨p1,p2⟩|⟨n,p1,p2,p3,p4⟩
  ·simp only[p1,p2,f2,yX,show decide ((-1:Int)≥0)=false from rfl,y_]
   refine⟨false,false,0,fun bb v1 v2=> ?_,fun v1 v2=>rfl⟩;rw[Bool.or_false];rfl
  ·simp only[p2,p4,f2,yX,zi (show fV k l 0 4≥0 from p1),yZ]
   by_cases h5:n.1=5
   ·have Iq: -2147483648≤n.2.2.1∧n.2.2.1≤2147483647:=by
     unfold Ce at p3;rw[if_pos h5] at p3;simp only[Aa,Ae] at p3;exact p3.1.1
    rw[zQ h5,zB h5,if_pos h5];refine⟨false,true,bits .and .i64 n.2.2.1 4294967295,fun bb v1 v2=> ?_,fun v1 v2=> ?_⟩
    ·simp only[zq,yX,y_,Bool.or_false]
    ·simp only[y_]
     rw[Pt k hk h Iq.1 Iq.2];by_cases hneg:n.2.2.1<0
     ·rw[zi hneg,if_pos hneg,yZ]
     ·rw[zl hneg,if_neg hneg,y_]
   ·rw[zn h5,zK h5,if_neg h5]
    refine⟨true,false,bits .and .i64 0 4294967295,fun bb v1 v2=> ?_,fun v1 v2=>rfl⟩;simp only[zO,yX,yZ,Bool.or_true]
 obtain⟨cb,ch,cw,c1,c2⟩:=Z_;simp only[a1,a2,yX,Bv.d9,a3,c1,g1,c2];have hfl:∀(B C:Bool),(cond B (EU k l af lf b q (true||cb) (hd0 (nV k l 0 1).1 (nV k l 0 2).1 ch cw q)) (EU k l af lf b q (C||cb) (hd0 (nV k l 0 1).1 (nV k l 0 2).1 ch cw q)))=EU k l af lf b q ((C||B)||cb) (hd0 (nV k l 0 1).1 (nV k l 0 2).1 ch cw q):=by
  intro B C;cases B<;>cases C<;>rfl
 rw[hfl];by_cases good:((nV k l 0 1).2=true∧(nV k l 0 2).2=true∧(nV k l 0 3).2=true)∧((nV k l 0 1).1=0∨(nV k l 0 1).1=2∨(nV k l 0 1).1=3)∧0≤(nV k l 0 2).1∧(nV k l 0 2).1=(nV k l 0 3).1
 ·obtain⟨⟨n1,n2,n3⟩,hkd,hs0,hs1⟩:=good
  have hal:([1,2,3].all fun id=>(nV k l 0 id).2)=true:=by simp[n1,n2,n3]
  have g2:=g2 hal;subst g2;rw[hal];have r1:∀a b c:Int,gU [a,b,c] 1=some b:=fun _ _ _=>rfl;have r2:∀a b c:Int,gU [a,b,c] 2=some c:=fun _ _ _=>rfl;have hk3:((bif (nV k l 0 1).1 !=0 then(some ((nV k l 0 1).1 !=2):Option Bool) else some false).bind fun b8=>(bif b8 then(some ((nV k l 0 1).1 !=3):Option Bool) else some false).bind fun b10=>some b10)=some false:=by
   rcases hkd with e|e|e<;>rw[e]<;>rfl
  simp only[List.map_cons,List.map_nil,zq,y_,Hz,List.getElem?_cons_zero,yX,r1,r2,hk3,n1,n2,n3,zl (show ¬(nV k l 0 2).1<0 by omega),zB hs1,zB hs1.symm,AX,AB];cases cb with
  |true=>exact⟨_,Ng k hk h lf hlf b q _ _ _ _ _,rfl,(fun hh=>by cases hh),.inr (.inl rfl)⟩
  |false=>
   obtain⟨r,e1,e2,e3,e9⟩:=ZF k hk h lf hlf b q (nV k l 0 1).1 (nV k l 0 2).1 cw q ch hkd;exact⟨r,e1,e2,(fun hh=>by obtain⟨⟨x1,x2⟩,x3,x4⟩:=e3 hh;exact⟨⟨by omega,x2⟩,x3,x4⟩),e9⟩
 ·refine⟨(zH,1),?_,?_,(fun hh=>by cases hh),.inr (.inl rfl)⟩
  ·by_cases hkd:(nV k l 0 1).1=0∨(nV k l 0 1).1=2∨(nV k l 0 1).1=3
   ·have:((((((false|| !(nV k l 0 1).2)||(!(nV k l 0 2).2||decide ((nV k l 0 2).1<0)))|| !(nV k l 0 3).2)||((nV k l 0 3).1 !=(nV k l 0 2).1))||cb))=true:=by
     cases n1:(nV k l 0 1).2 with
     |false=>simp
     |true=>
      cases n2:(nV k l 0 2).2 with
      |false=>simp
      |true=>
       cases n3:(nV k l 0 3).2 with
       |false=>simp
       |true=>
        by_cases hs:(nV k l 0 2).1<0
        ·rw[zi hs];simp
        ·have:¬(nV k l 0 3).1=(nV k l 0 2).1:=fun e=>good ⟨⟨n1,n2,n3⟩,hkd,by omega,e.symm⟩
         rw[zK this];simp
    rw[this];exact Ng k hk h lf hlf b q _ _ _ _ _
   ·exact ZG k hk h lf b q _ _ _ _ _ _ hkd
  ·cases hal:([1,2,3].all fun id=>(nV k l 0 id).2) with
   |false=>rfl
   |true=>
    have g2:=g2 hal;subst g2;simp only[List.all_cons,List.all_nil,Bool.and_true,Aa] at hal;obtain⟨n1,n2,n3⟩:=hal;have r1:∀a b c:Int,gU [a,b,c] 1=some b:=fun _ _ _=>rfl;have r2:∀a b c:Int,gU [a,b,c] 2=some c:=fun _ _ _=>rfl;simp only[List.map_cons,List.map_nil,zq,y_,Hz,List.getElem?_cons_zero,yX,r1,r2];by_cases hkd:(nV k l 0 1).1=0∨(nV k l 0 1).1=2∨(nV k l 0 1).1=3
    ·have hk3:((bif (nV k l 0 1).1 !=0 then(some ((nV k l 0 1).1 !=2):Option Bool) else some false).bind fun b8=>(bif b8 then(some ((nV k l 0 1).1 !=3):Option Bool) else some false).bind fun b10=>some b10)=some false:=by
      rcases hkd with e|e|e<;>rw[e]<;>rfl
     rw[hk3];simp only[yX,y_];by_cases hs:(nV k l 0 2).1<0
     ·rw[zi hs];rfl
     ·have:¬(nV k l 0 2).1=(nV k l 0 3).1:=fun e=>good ⟨⟨n1,n2,n3⟩,hkd,by omega,e⟩
      rw[zl hs,zK this];rfl
    ·have hk3:((bif (nV k l 0 1).1 !=0 then(some ((nV k l 0 1).1 !=2):Option Bool) else some false).bind fun b8=>(bif b8 then(some ((nV k l 0 1).1 !=3):Option Bool) else some false).bind fun b10=>some b10)=some true:=by
      rw[zK (fun e=>hkd (.inl e)),zK (fun e=>hkd (.inr (.inl e))),zK (fun e=>hkd (.inr (.inr e)))];rfl
     rw[hk3];rfl
end
theorem J_(k:Nat)(hk:2000000≤k)(lf:zD)(b:List Int)(hl:b.length<4611686018427387904)(hb:Av b)(at_:Int):
 ∃r,Bv k lf b at_=some r∧AY k lf b at_=some r∧
  (r.2=0→D6 lf=true∧0≤r.1.2.1∧0≤r.1.2.2.2.2.2.2.2.2.2.2.2.2.1∧r.1.2.2.2.2.2.2.2.2.2.2.2.2.1+r.1.2.1≤(b.length:Int)∧0≤r.1.2.2.1∧r.1.2.2.1≤2000∧0≤at_∧at_<r.1.2.2.2.2.2.2.2.2.2.2.2.2.1)∧(r.2=0∨r.2=1∨r.2=2):=by
 have hr:=ab0 k (by omega) b hl hb at_;unfold Bv AY;cases ht:JJ b at_ with
 |bad c=>
  rw[ht] at hr;obtain⟨hc,e1,e2⟩:=hr;have hto:∃x,Iw k []=some x:=by
   obtain⟨_,_,h2⟩:=Oe k (by omega) [] (fun n hn=>by cases hn) (by simp);rcases h2 with⟨_,x,hx⟩|⟨_,_,h1,_⟩
   ·exact⟨_,hx⟩
   ·simp at h1
  obtain⟨x,hx⟩:=hto;simp only[e1,e2,hx,yX,(II k lf).1,(II k lf).2,cst,zK hc,Bool.or_true,Ac,yZ];exact⟨(zH,1),rfl,rfl,(fun hh=>by cases hh),.inr (.inl rfl)⟩
 |ok q Y=>
  rw[ht] at hr;obtain⟨e1,e2⟩:=hr;have g:=abY hl hb ht;have hok:=abq k (by omega) g;obtain⟨bb,h1,h2⟩:=Oe k (by omega) Y g.wf (by have:=g.len;omega);rw[hok] at h1;rcases h2 with⟨rfl,_⟩|⟨_,hl1,hl2,af,hx,hSb,_⟩
  ·cases h1
  have h:Ee Y af:=⟨hl1,hl2,hSb,g.wf⟩;simp only[e1,e2,hx,yX,(II k lf).1,(II k lf).2,cst,zB rfl,Bool.or_false,zq];cases hlf:D6 lf with
  |false=>
   simp only[zO,yZ];exact⟨(zH,1),rfl,rfl,(fun hh=>by cases hh),.inr (.inl rfl)⟩
  |true=>
   simp only[zq,y_];obtain⟨r,r1,r2,r3,r4⟩:=head_eq k hk h lf hlf b (q:Int);refine⟨r,r1,r2,fun hh=> ?_,r4⟩;obtain⟨⟨x1,x2⟩,x3,x4⟩:=r3 hh;have:=g.rng;rw[zh (by omega) (by omega)] at x4;exact⟨trivial,x1,by omega,by omega,x3.1,x3.2,by omega,by omega⟩
theorem cnd{α:Type}{b:Bool}{x y:Option α}{z:α}(h:cond b x y=some z):(b=true∧x=some z)∨(b=false∧y=some z):=by
 cases b with
 |true=>exact .inl ⟨rfl,h⟩
 |false=>exact .inr ⟨rfl,h⟩
theorem bnd{α β:Type}{x:Option α}{f:α→Option β}{z:β}(h:x.bind f=some z):∃a,x=some a∧f a=some z:=Option.bind_eq_some_iff.1 h
theorem Gv{b:Bool}{x:Option Bool}(h:cond b (some true) x=some false):b=false∧x=some false:=by
 rcases cnd h with⟨_,h⟩|h
 ·cases h
 ·exact h
def OP(y x:zA):Prop:=y.1=x.1∧y.2.2.2.2.1=x.2.2.2.2.1∧y.2.2.2.2.2.1=x.2.2.2.2.2.1∧y.2.2.2.2.2.2.1=x.2.2.2.2.2.2.1∧y.2.2.2.2.2.2.2.1=x.2.2.2.2.2.2.2.1
theorem K_{k:Nat}{t1:List yY}{t10 t11:Int}{o:zD}{x o2 y:zA}{z:Bool}(h:Ar.F3 k t1 t10 t11 o x o2=some (y,z)):OP y x:=by
 unfold Ar.F3 Ar.GY at h;replace h:=cnd h;rcases h with⟨_,h⟩|⟨_,h⟩
 ·replace h:=bnd h;obtain⟨r1,_,h⟩:=h
  replace h:=bnd h;obtain⟨b3,_,h⟩:=h;replace h:=cnd h;rcases h with⟨_,h⟩|⟨_,h⟩
  ·replace h:=bnd h;obtain⟨r4,_,h⟩:=h
   cases h;exact⟨rfl,rfl,rfl,rfl,rfl⟩
  ·cases h
   exact⟨rfl,rfl,rfl,rfl,rfl⟩
 ·cases h
  exact⟨rfl,rfl,rfl,rfl,rfl⟩
theorem MJ{k:Nat}{t1:List yY}{t8 t10:Int}{o:zD}{x o2 y:zA}{L:List Int}(h:Ar.c7 k t1 t8 t10 o x o2 L=some (y,true)):
 y.1=x.1∧(x.1=3→0≤y.2.2.2.2.1∧0≤y.2.2.2.2.2.1∧0≤y.2.2.2.2.2.2.1∧0≤y.2.2.2.2.2.2.2.1):=by
 unfold Ar.c7 at h;replace h:=bnd h;obtain⟨r5,_,h⟩:=h;replace h:=cnd h;rcases h with⟨_,h⟩|⟨_,h⟩
 ·cases h
 replace h:=bnd h;obtain⟨r6,_,h⟩:=h;replace h:=bnd h;obtain⟨b9,_,h⟩:=h;replace h:=cnd h;rcases h with⟨_,h⟩|⟨_,h⟩
 ·cases h
 replace h:=bnd h;obtain⟨A7,_,h⟩:=h;replace h:=bnd h;obtain⟨Af,_,h⟩:=h;replace h:=cnd h;rcases h with⟨h0,h⟩|⟨h0,h⟩
 ·have h0:x.1=0:=eq_of_beq h0
  replace h:=bnd h;obtain⟨Cj,_,h⟩:=h;replace h:=bnd h;obtain⟨b14,_,h⟩:=h;replace h:=cnd h;rcases h with⟨_,h⟩|⟨_,h⟩
  ·cases h
  exact⟨(K_ h).1,fun h3=>by omega⟩
 ·replace h:=cnd h;rcases h with⟨h3,h⟩|⟨h3,h⟩
  ·replace h:=bnd h;obtain⟨DU,_,h⟩:=h
   replace h:=bnd h;obtain⟨Dv,_,h⟩:=h;replace h:=bnd h;obtain⟨Ag,_,h⟩:=h;replace h:=bnd h;obtain⟨C7,_,h⟩:=h;replace h:=bnd h;obtain⟨Bp,_,h⟩:=h;replace h:=bnd h;obtain⟨b20,f20,h⟩:=h;replace h:=bnd h;obtain⟨MC,f21,h⟩:=h;replace h:=bnd h;obtain⟨ME,f22,h⟩:=h;replace h:=bnd h;obtain⟨JU,f23,h⟩:=h;replace h:=bnd h;obtain⟨JV,f25,h⟩:=h;replace h:=cnd h;rcases h with⟨_,h⟩|⟨hb,h⟩
   ·cases h
   subst hb;obtain⟨hb,_⟩:=Gv f25;subst hb;obtain⟨hb,_⟩:=Gv f23;subst hb;obtain⟨hb,g22⟩:=Gv f22;subst hb;obtain⟨hb,g21⟩:=Gv f21;subst hb;obtain⟨g15,g20⟩:=Gv f20;have g15:=of_decide_eq_false g15;have g20:=of_decide_eq_false (Option.some.inj g20);have g21:=of_decide_eq_false (Option.some.inj g21);have g22:=of_decide_eq_false (Option.some.inj g22);obtain⟨s1,s2,s3,s4,s5⟩:=K_ h;refine⟨s1,fun _=>⟨?_,?_,?_,?_⟩⟩
   ·rw[s2];show 0≤Dv;omega
   ·rw[s3];show 0≤DU;omega
   ·rw[s4];show 0≤Ag;omega
   ·rw[s5];show 0≤C7;omega
  ·exact⟨(K_ h).1,fun e=>by rw[zQ e] at h3;cases h3⟩
theorem O_{k:Nat}{t1:List Int}{t10:Int}{o:zD}{o1 o2 x h:zA}{l:List yY}(e:AY.c17 k t1 t10 o o1 o2 l x=some (h,0)):
 h.1=x.1∧(x.1=3→0≤h.2.2.2.2.1∧0≤h.2.2.2.2.2.1∧0≤h.2.2.2.2.2.2.1∧0≤h.2.2.2.2.2.2.2.1):=by
 unfold AY.c17 at e;replace e:=bnd e;obtain⟨r1,f,e⟩:=e;obtain⟨y,z⟩:=r1;replace e:=cnd e;rcases e with⟨_,e⟩|⟨hz,e⟩
 ·cases e
 have hz:z=true:=by simpa using hz
 subst hz;replace e:=cnd e;rcases e with⟨_,e⟩|⟨_,e⟩
 ·cases e
 cases e;unfold Ar at f;replace f:=cnd f;rcases f with⟨_,f⟩|⟨_,f⟩
 ·exact MJ f
 ·replace f:=cnd f;rcases f with⟨_,f⟩|⟨_,f⟩<;>exact MJ f
theorem aaa{k:Nat}{o:zD}{b:List Int}{at_:Int}{h:zA}(e:AY k o b at_=some (h,0)):
 (h.1=0∨h.1=2∨h.1=3)∧(h.1=3→0≤h.2.2.2.2.1∧0≤h.2.2.2.2.2.1∧0≤h.2.2.2.2.2.2.1∧0≤h.2.2.2.2.2.2.2.1):=by
 unfold AY at e;replace e:=bnd e;obtain⟨r2,_,e⟩:=e;replace e:=bnd e;obtain⟨r3,_,e⟩:=e;replace e:=bnd e;obtain⟨b4,_,e⟩:=e;replace e:=cnd e;rcases e with⟨_,e⟩|⟨_,e⟩
 ·cases e
 replace e:=bnd e;obtain⟨r5,_,e⟩:=e;replace e:=bnd e;obtain⟨b11,f11,e⟩:=e;replace e:=bnd e;obtain⟨b13,f13,e⟩:=e;replace e:=bnd e;obtain⟨b16,f16,e⟩:=e;replace e:=cnd e;rcases e with⟨_,e⟩|⟨hb,e⟩
 ·cases e
 subst hb;obtain⟨hb,_⟩:=Gv f16;subst hb;obtain⟨hb,_⟩:=Gv f13;subst hb;obtain⟨_,f11⟩:=Gv f11;replace e:=bnd e;obtain⟨Ag,f17,e⟩:=e;replace e:=bnd e;obtain⟨C7,_,e⟩:=e;replace e:=bnd e;obtain⟨Bp,_,e⟩:=e;have hk:Ag=0∨Ag=2∨Ag=3:=by
  rw[f17] at f11;simp only[yX,Ah,A_,Bool.and_eq_false_iff] at f11;rcases f11 with(f|f)|f
  ·left;simpa using f
  ·right;left;simpa using f
  ·right;right;simpa using f
 have fin:∀{c:Bool} {w:Int},AY.c17 k b r2.1.2.1 o (0,0,0,0,0,0,0,0,false,0,false,(0,false,(0,zk,()),(0,zk,()),()),0,()) (0,0,0,0,0,0,0,0,false,0,false,(0,false,(0,zk,()),(0,zk,()),()),0,()) r2.2 (Ag,C7,0,0,0,0,0,0,c,w,false,(0,false,(0,zk,()),(0,zk,()),()),r2.1.2.1,())=some (h,0)→
  (h.1=0∨h.1=2∨h.1=3)∧(h.1=3→0≤h.2.2.2.2.1∧0≤h.2.2.2.2.2.1∧0≤h.2.2.2.2.2.2.1∧0≤h.2.2.2.2.2.2.2.1):=by
  intro c w e;obtain⟨s1,s2⟩:=O_ e;have s1:h.1=Ag:=s1;have s2:Ag=3→_:=s2;rw[s1];exact⟨hk,s2⟩
 replace e:=cnd e;rcases e with⟨_,e⟩|⟨_,e⟩
 ·replace e:=bnd e;obtain⟨y20,_,e⟩:=e
  replace e:=cnd e;rcases e with⟨_,e⟩|⟨_,e⟩
  ·cases e
  replace e:=bnd e;obtain⟨y21,_,e⟩:=e;replace e:=cnd e;rcases e with⟨_,e⟩|⟨_,e⟩<;>exact fin e
 ·exact fin e
end Go.zJ
end
section
namespace Go.zJ
open Go.Am Go.Fn
variable(k:Nat)
theorem JL{a b:Nat}(ha:a<2^62)(hb:b<2^62):bits .xor .i64 (a:Int) (b:Int)=((a^^^b:Nat):Int):=by
 have h:=Nat.xor_lt_two_pow ha hb;simp only[bits,BitVec.ofInt_natCast,BitVec.toNat_xor,BitVec.toNat_ofNat];rw[Nat.mod_eq_of_lt (show a<2^IntKind.i64.bits from Nat.lt_of_lt_of_le ha (by decide)),Nat.mod_eq_of_lt (show b<2^IntKind.i64.bits from Nat.lt_of_lt_of_le hb (by decide))];exact zh (by omega) (by omega)
def CG:Nat→Nat→Nat
 |0,n=>n
 |m+1,n=>CG m (if n%2=1 then(n/2)^^^3988292384 else n/2)
theorem MS:∀m n,n<2^32→CG m n<2^32
 |0,n,h=>h
 |m+1,n,h=>by
  unfold CG;apply MS;have:n/2<2^32:=by omega
  split
  ·exact Nat.xor_lt_two_pow this (by decide)
  ·exact this
theorem Pv:∀(m f i n:Nat),i+m=8→m<f→n<2^32→Da.l2 k f (n:Int) (i:Int)=some ((CG m n:Nat):Int)∧Dh.l2 k f (n:Int) (i:Int)=some ((CG m n:Nat):Int):=by
 intro m
 induction m with
 |zero=>
  intro f i n hi hf hn;obtain⟨f,rfl⟩:∃x,f=x+1:=⟨f-1,by omega⟩;simp only[Da.l2,Dh.l2,zl (show ¬(i:Int)<8 by omega),y_,CG];exact⟨trivial,trivial⟩
 |succ m ih=>
  intro f i n hi hf hn;obtain⟨f,rfl⟩:∃x,f=x+1:=⟨f-1,by omega⟩;have e3:IntKind.wrap .i64 ((i:Int)+1)=((i+1:Nat):Int):=by rw[zh (by omega) (by omega)];omega
  have hdiv:IntKind.wrap .i64 (Int.tdiv (n:Int) 2)=((n/2:Nat):Int):=by
   rw[Int.tdiv_eq_ediv_of_nonneg (by omega),zh (by omega) (by omega)];omega
  have hmod:Int.tmod (n:Int) 2=((n%2:Nat):Int):=by rw[Int.tmod_eq_emod_of_nonneg (by omega)];omega
  have hand:bits .and .i64 (n:Int) 1=((n%2:Nat):Int):=by rw[and1];omega
  have hx:bits .xor .i64 ((n/2:Nat):Int) 3988292384=(((n/2)^^^3988292384:Nat):Int):=JL (b:=3988292384) (by omega) (by decide);simp only[Da.l2,Dh.l2,zi (show(i:Int)<8 by omega),yZ,hdiv,hmod,hand,hx,Da.c7,Dh.c3,e3,CG];by_cases hodd:n%2=1
  ·rw[hodd,zQ (by rfl),if_pos rfl,yZ,yZ]
   exact ih f (i+1) _ (by omega) (by omega) (Nat.xor_lt_two_pow (by omega) (by decide))
  ·have h0:n%2=0:=by omega
   rw[h0,zn (by decide),if_neg (by decide),y_,y_];exact ih f (i+1) _ (by omega) (by omega) (by omega)
theorem MU(hk:100≤k)(n:Nat)(hn:n<2^32):Da k (n:Int)=some ((CG 8 n:Nat):Int)∧Dh k (n:Int)=some ((CG 8 n:Nat):Int):=
 Pv k 8 k 0 n rfl (by omega) hn
def Je:List Int:=(List.range 256).map fun n=>((CG 8 n:Nat):Int)
theorem abV(hk:1000≤k):∀(m f i:Nat),i+m=256→m<f→FK.l3 k f (i:Int) ((List.range i).map fun n=>((CG 8 n:Nat):Int))=some ((),Je):=by
 intro m
 induction m with
 |zero=>
  intro f i hi hf;obtain⟨f,rfl⟩:∃x,f=x+1:=⟨f-1,by omega⟩;obtain rfl:i=256:=by omega
  simp only[FK.l3,zl (show ¬((256:Nat):Int)<256 by omega),y_];rfl
 |succ m ih=>
  intro f i hi hf;obtain⟨f,rfl⟩:∃x,f=x+1:=⟨f-1,by omega⟩;have e3:IntKind.wrap .i64 ((i:Int)+1)=((i+1:Nat):Int):=by rw[zh (by omega) (by omega)];omega
  simp only[FK.l3,zi (show(i:Int)<256 by omega),yZ,(MU k (by omega) i (by omega)).1,yX,e3,Bn (show((List.range i).map fun n=>((CG 8 n:Nat):Int)).length+[((CG 8 i:Nat):Int)].length≤4294967296 by simp;omega)];have:=ih f (i+1) (by omega) (by omega);rw[List.range_succ,List.map_append,List.map_singleton] at this;exact this
theorem abU(hk:1000≤k):FK k=some ((),Je):=abV k hk 256 k 0 (by omega) (by omega)
theorem aaJ(hk:1000≤k)(b:List Int)(hb:b.length<1000000000)(hby:∀x,x∈b→0≤x∧x<256):∀(post pre:List Int) (f c:Nat),b=pre++post→post.length<f→c<2^32→
 ∃r:Int,FJ.l6 k f (c:Int) b (b.length:Int) (pre.length:Int) Je=some r∧FT.l5 k f b (c:Int) (pre.length:Int)=some r:=by
 intro post
 induction post with
 |nil=>
  intro pre f c hp hf hc;obtain⟨f,rfl⟩:∃x,f=x+1:=⟨f-1,by omega⟩;have:b=pre:=by simpa using hp
  subst this;simp only[FJ.l6,FT.l5,zl (show ¬(b.length:Int)<(b.length:Int) by omega),y_];exact⟨_,rfl,rfl⟩
 |cons y post ih=>
  intro pre f c hp hf hc;simp only[A9] at hf;obtain⟨f,rfl⟩:∃x,f=x+1:=⟨f-1,by omega⟩;have hlen:b.length=pre.length+(post.length+1):=by rw[hp];simp
  have hg:gU b (pre.length:Int)=some y:=by rw[hp];exact Ai pre post y
  obtain⟨y0,y1⟩:=hby y (by rw[hp];simp);obtain⟨y,rfl⟩:∃m:Nat,y=m:=⟨y.toNat,by omega⟩;have Py:bits .and .i64 (c:Int) 255=((c%256:Nat):Int):=by rw[OW];omega
  have ey:IntKind.wrap .i64 ((y:Nat):Int)=((y:Nat):Int):=zh (by omega) (by omega);have hix:c%256^^^y<256:=Nat.xor_lt_two_pow (n:=8) (by omega) (by omega);have ex:bits .xor .i64 ((c%256:Nat):Int) ((y:Nat):Int)=((c%256^^^y:Nat):Int):=JL (by omega) (by omega);have htab:gU Je ((c%256^^^y:Nat):Int)=some ((CG 8 (c%256^^^y):Nat):Int):=by
   rw[Aq];unfold Je;rw[List.getElem?_map,List.getElem?_range hix];rfl
  have hs8:pE .i64 (c:Int) 8=((c/256:Nat):Int):=by
   rw[show(8:Int)=((8:Nat):Int) from rfl,GI .i64 _ 8 (by decide)];simp
  have hT:=MS 8 (c%256^^^y) (by omega);have x1:bits .xor .i64 ((CG 8 (c%256^^^y):Nat):Int) ((c/256:Nat):Int)=((CG 8 (c%256^^^y)^^^(c/256):Nat):Int):=JL (by omega) (by omega);have x2:bits .xor .i64 ((c/256:Nat):Int) ((CG 8 (c%256^^^y):Nat):Int)=((CG 8 (c%256^^^y)^^^(c/256):Nat):Int):=by rw[JL (by omega) (by omega),Nat.xor_comm]
  have e3:IntKind.wrap .i64 ((pre.length:Int)+1)=(pre.length:Int)+1:=zh (by omega) (by omega);simp only[FJ.l6,FT.l5,zi (show(pre.length:Int)<(b.length:Int) by omega),yZ,hg,yX,Py,ey,ex,htab,hs8,x1,(MU k (by omega) (c%256^^^y) (by omega)).2,x2,e3];have:=ih (pre++[((y:Nat):Int)]) f (CG 8 (c%256^^^y)^^^(c/256)) (by rw[hp];simp) (by omega) (Nat.xor_lt_two_pow hT (by omega));rw[Ab,AJ] at this;exact this
theorem Pq(hk:1000≤k)(b:List Int)(hb:b.length<1000000000)(hlk:b.length<k)(hby:∀x,x∈b→0≤x∧x<256):∃r:Int,Jj k b=some r∧IU k b=some r:=by
 unfold Jj IU FJ FT;have e:bits .xor .i64 0 4294967295=((4294967295:Nat):Int):=JL (a:=0) (b:=4294967295) (by decide) (by decide);obtain⟨r,r1,r2⟩:=aaJ k hk b hb hby b [] k 4294967295 rfl hlk (by decide);rw[List.length_nil,show((0:Nat):Int)=0 from rfl] at r1 r2;simp only[Ay,AV,show(decide ((0:Int)≤0)&&decide ((0:Int)≤4294967295))=true by decide,yX,zq,y_,abU k hk,e,r1,r2];exact⟨_,rfl,rfl⟩
end Go.zJ
end
section
namespace Go.zJ
open Go.Am Go.Fn
abbrev AR(h:zA):Int:=h.2.2.2.2.2.2.2.2.2.2.2.2.1
theorem checked_eq(k:Nat)(hk:2000000≤k)(lf:zD)(b:List Int)(hl:b.length≤1048576)(hb:Av b)(at_:Int):
 ∃(h:zA) (c:Int),Bv k lf b at_=some (h,c)∧AY k lf b at_=some (h,c)∧
  ((c≠0∧c≠3∧FL k lf b at_=some (h,[],c))∨
   (c=0∧D6 lf=true∧0≤AR h∧0≤h.2.1∧AR h+h.2.1≤(b.length:Int)∧0≤h.2.2.1∧h.2.2.1≤2000∧
    ∃r:Int,IU k (kV b (AR h) (AR h+h.2.1))=some r∧
     FL k lf b at_=some (if h.2.2.2.2.2.2.2.2.1=true∧r≠h.2.2.2.2.2.2.2.2.2.1 then(h,[],3) else(h,kV b (AR h) (AR h+h.2.1),0)))):=by
 obtain⟨⟨h,c⟩,e1,e2,e3,e4⟩:=J_ k hk lf b (by omega) hb at_;refine⟨h,c,e1,e2,?_⟩;by_cases hc:c=0
 ·subst hc
  obtain⟨f1,f2,f3,f4,f5,f6,_⟩:=e3 rfl;right;have f2:0≤h.2.1:=f2;have f3:0≤AR h:=f3;have f4:AR h+h.2.1≤(b.length:Int):=f4;have ew:IntKind.wrap .i64 (AR h+h.2.1)=AR h+h.2.1:=zh (by omega) (by omega);have hcb:Av (kV b (AR h) (AR h+h.2.1)):=fun x hx=>by
   unfold kV at hx;exact hb x (List.mem_of_mem_take (List.mem_of_mem_drop hx))
  have hcl:(kV b (AR h) (AR h+h.2.1)).length≤1048576:=by
   unfold kV;rw[List.length_drop,List.length_take];omega
  obtain⟨r,r1,r2⟩:=Pq k (by omega) _ (show(kV b (AR h) (AR h+h.2.1)).length<1000000000 by omega) (by omega) hcb;refine⟨rfl,f1,f3,f2,f4,f5,f6,r,r2,?_⟩;unfold FL FL.d5;simp only[e1,yX,zB rfl,y_];have ew:IntKind.wrap .i64 (h.2.2.2.2.2.2.2.2.2.2.2.2.1+h.2.1)=h.2.2.2.2.2.2.2.2.2.2.2.2.1+h.2.1:=ew;have r1:Jj k (kV b h.2.2.2.2.2.2.2.2.2.2.2.2.1 (h.2.2.2.2.2.2.2.2.2.2.2.2.1+h.2.1))=some r:=r1;rw[ew,Jo f3 (show AR h≤AR h+h.2.1 by omega) f4,yZ,r1];cases hs:h.2.2.2.2.2.2.2.2.1 with
  |false=>rw[if_neg (fun hh=>by cases hh.1)];rfl
  |true=>
   simp only[yX,yZ];by_cases hr:h.2.2.2.2.2.2.2.2.2.1=r
   ·rw[zB hr,if_neg (fun hh=>hh.2 hr.symm)];rfl
   ·rw[zK hr,if_pos ⟨trivial,fun e=>hr e.symm⟩];rfl
 ·left
  have e4:c=0∨c=1∨c=2:=e4;have h3:c≠3:=by omega
  refine⟨hc,h3,?_⟩;unfold FL;simp only[e1,yX,zK hc,yZ]
theorem Px(k:Nat)(hk:2000000≤k)(t:Int)(b:List Int)(hl:b.length≤1048576)(hb:Av b)(at_:Int):
 ∃r,Kh k t b at_=some r∧GJ k t b at_=some r∧r.2.length≤2000∧(r.1.2.2=0→Cb t=true∧∀v,v∈r.2→AZ t v=true∧zM v.1):=by
 obtain⟨h,c,e1,e2,e3⟩:=checked_eq k hk (t,0,0,()) b hl hb at_;unfold Kh GJ;rcases e3 with⟨c0,c3,e3⟩|⟨rfl,f1,f2,f3,f4,f5,f6,r,r1,e3⟩
 ·simp only[e2,e3,yX,zK c0,zn c0,zn c3,yZ,y_]
  exact⟨(((),0,c),[]),rfl,rfl,by simp,fun hh=>(c0 hh).elim⟩
 ·have ew:IntKind.wrap .i64 (h.2.2.2.2.2.2.2.2.2.2.2.2.1+h.2.1)=h.2.2.2.2.2.2.2.2.2.2.2.2.1+h.2.1:=zh (show _≤AR h+h.2.1 by omega) (show AR h+h.2.1<_ by omega)
  have hsl:jg h.2.2.2.2.2.2.2.2.2.2.2.2.1 (h.2.2.2.2.2.2.2.2.2.2.2.2.1+h.2.1) b.length=true:=Jo f2 (show AR h≤AR h+h.2.1 by omega) f4;simp only[e2,e3,yX,zB rfl,y_,Ah];by_cases hkd:(h.1 !=2||(h.2.2.2.1 !=0&&h.2.2.2.1 !=2))=true
  ·refine⟨(((),0,1),[]),?_,?_,by simp,fun hh=>by cases hh⟩
   ·by_cases hs:h.2.2.2.2.2.2.2.2.1=true∧r≠h.2.2.2.2.2.2.2.2.2.1
    ·rw[if_pos hs]
     simp only[show((3:Int)==0)=false from rfl,show((3:Int)==3)=true from rfl,y_,yX,yZ,cst,hkd,AX,Bool.or_false,AB,Bool.or_true,Ac,Ah,CX,Df]
    ·rw[if_neg hs]
     simp only[show((0:Int)==0)=true from rfl,yX,yZ,cst,hkd,AX,Bool.or_false,AB,Bool.or_true,Ac,Ah,CX]
   ·simp only[yX,cst,hkd,yZ]
  ·have hkd:=Bool.eq_false_iff.2 hkd
   obtain⟨nx,ok,l,p1,p2,pr⟩:=NT k (by omega) t (kV b (AR h) (AR h+h.2.1)) (by unfold kV;rw[List.length_drop,List.length_take];omega) (fun x hx=>by
    unfold kV at hx;exact hb x (List.mem_of_mem_take (List.mem_of_mem_drop hx))) 0 h.2.2.1 ⟨by decide,by decide⟩
   have r1:IU k (kV b h.2.2.2.2.2.2.2.2.2.2.2.2.1 (h.2.2.2.2.2.2.2.2.2.2.2.2.1+h.2.1))=some r:=r1;have p2:Ct k t (kV b h.2.2.2.2.2.2.2.2.2.2.2.2.1 (h.2.2.2.2.2.2.2.2.2.2.2.2.1+h.2.1)) 0 h.2.2.1=some (((),nx,ok),l):=p2;unfold GJ.d8;simp only[yX,cst,hkd,y_,ew,hsl,yZ,r1,p2];by_cases hs:h.2.2.2.2.2.2.2.2.1=true∧r≠h.2.2.2.2.2.2.2.2.2.1
   ·obtain⟨hs1,hs2⟩:=hs
    rw[if_pos ⟨hs1,hs2⟩,hs1,zK hs2];simp only[show((3:Int)==0)=false from rfl,show((3:Int)==3)=true from rfl,show((3:Int) !=0)=true from rfl,y_,yX,yZ,hkd,cst,AX,Bool.or_false,AB,Bool.or_true,Ac,Ah,CX,Df];exact⟨(((),0,3),[]),rfl,rfl,by simp,fun hh=>by cases hh⟩
   ·rw[if_neg hs]
    have hin:(bif h.2.2.2.2.2.2.2.2.1 then
     (bif r !=h.2.2.2.2.2.2.2.2.2.1 then some ((((),0,3),[]):(Unit×Int×Int)×List ze) else(bif !ok||nx !=((kV b h.2.2.2.2.2.2.2.2.2.2.2.2.1 (h.2.2.2.2.2.2.2.2.2.2.2.2.1+h.2.1)).length:Int) then some (((),0,5),[]) else some (((),h.2.2.2.2.2.2.2.2.2.2.2.2.1+h.2.1,0),l)))
     else(bif !ok||nx !=((kV b h.2.2.2.2.2.2.2.2.2.2.2.2.1 (h.2.2.2.2.2.2.2.2.2.2.2.2.1+h.2.1)).length:Int) then some (((),0,5),[]) else some (((),h.2.2.2.2.2.2.2.2.2.2.2.2.1+h.2.1,0),l)))=
     (bif !ok||nx !=((kV b h.2.2.2.2.2.2.2.2.2.2.2.2.1 (h.2.2.2.2.2.2.2.2.2.2.2.2.1+h.2.1)).length:Int) then some (((),0,5),[]) else some (((),h.2.2.2.2.2.2.2.2.2.2.2.2.1+h.2.1,0),l)):=by
     cases hs1:h.2.2.2.2.2.2.2.2.1 with
     |false=>rfl
     |true=>
      have:r=h.2.2.2.2.2.2.2.2.2.1:=Classical.byContradiction fun hh=>hs ⟨hs1,hh⟩;rw[zB this];rfl
    have p1:Eh k t (kV b h.2.2.2.2.2.2.2.2.2.2.2.2.1 (h.2.2.2.2.2.2.2.2.2.2.2.2.1+h.2.1)) 0 h.2.2.1=some (((),nx,ok),l):=p1;rw[hin];simp only[show((0:Int)==0)=true from rfl,show((0:Int) !=0)=false from rfl,y_,yX,yZ,cst,hkd,p1,ew,AX,Bool.or_false,Ac,Ah,CX];cases ok with
    |false=>
     simp only[zO,Ac,yZ];exact⟨(((),0,5),[]),rfl,rfl,by simp,fun hh=>by cases hh⟩
    |true=>
     have hlen:=pr.len rfl;have hm:=pr.m0 rfl;cases(!true||nx !=((kV b h.2.2.2.2.2.2.2.2.2.2.2.2.1 (h.2.2.2.2.2.2.2.2.2.2.2.2.1+h.2.1)).length:Int)) with
     |true=>exact⟨(((),0,5),[]),rfl,rfl,by simp,fun hh=>by cases hh⟩
     |false=>exact⟨_,rfl,rfl,(by show l.length≤2000;omega),fun _=>⟨pr.ty rfl,pr.vk rfl⟩⟩
theorem NS(k:Nat)(hk:2000000≤k)(lf:zD)(ck:zP)(b:List Int)(hl:b.length≤1048576)(hb:Av b)(F5:List ze):∀(f n:Nat) (at_ many:Int) (o:List Int),((b.length:Int)-at_).toNat≤f→f<n→0≤at_→0≤many→many+2000*f≤1000000000000→o.length+f≤1048576→
 ∃(c:Int) (P:List Int) (V:List ze),Dp.Bd k n b many at_ lf ck F5 o=some (((),(),c),(P,V))∧Cq.Aj k n b at_ many lf ck [] [] F5 o=some (((),(),c),(P,V))∧
  P.length≤1048576∧(V=F5∨V=[]):=by
 intro f
 induction f with
 |zero=>
  intro n at_ many o hf hn h0 hm hb2 hol;obtain⟨n,rfl⟩:∃x,n=x+1:=⟨n-1,by omega⟩;obtain⟨⟨h,c⟩,e1,e2,e3,e4⟩:=J_ k hk lf b (by omega) hb at_;simp only[Dp.Bd,Cq.Aj];by_cases hmore:many<ck.2.2.2.1
  ·have hc:¬c=0:=by
    intro hc;obtain⟨_,_,_,f4,_,_,_,f8⟩:=e3 hc;have f4:AR h+h.2.1≤(b.length:Int):=f4;have f8:at_<AR h:=f8;have f2:0≤h.2.1:=by obtain⟨_,f2,_⟩:=e3 hc;exact f2
    omega
   simp only[zi hmore,yZ,e1,e2,yX,zK hc];exact⟨_,_,_,rfl,rfl,by simp,.inr rfl⟩
  ·simp only[zl hmore,y_]
   exact⟨_,_,_,rfl,rfl,by omega,.inl rfl⟩
 |succ f ih=>
  intro n at_ many o hf hn h0 hm hb2 hol;obtain⟨n,rfl⟩:∃x,n=x+1:=⟨n-1,by omega⟩;obtain⟨⟨h,c⟩,e1,e2,e3,e4⟩:=J_ k hk lf b (by omega) hb at_;simp only[Dp.Bd,Cq.Aj];by_cases hmore:many<ck.2.2.2.1
  ·simp only[zi hmore,yZ,e1,e2,yX]
   by_cases hc:c=0
   ·subst hc
    obtain⟨_,f2,f3,f4,f5,f6,_,f8⟩:=e3 rfl;have f2:0≤h.2.1:=f2;have f4:AR h+h.2.1≤(b.length:Int):=f4;have f8:at_<AR h:=f8;have f5:0≤h.2.2.1:=f5;have f6:h.2.2.1≤2000:=f6;simp only[zB rfl,y_,cst,yX];cases((h.1==2||h.2.2.1==0)||decide (IntKind.wrap .i64 (many+h.2.2.1)>ck.2.2.2.1)) with
    |true=>
     simp only[yZ];exact⟨_,_,_,rfl,rfl,by simp,.inr rfl⟩
    |false=>
     have em:IntKind.wrap .i64 (many+h.2.2.1)=many+h.2.2.1:=zh (by omega) (by omega);have eb:IntKind.wrap .i64 (h.2.2.2.2.2.2.2.2.2.2.2.2.1+h.2.1)=h.2.2.2.2.2.2.2.2.2.2.2.2.1+h.2.1:=zh (show _≤AR h+h.2.1 by omega) (show AR h+h.2.1<_ by omega);simp only[y_,em,eb];rw[Bn (show o.length+[at_].length≤4294967296 by simp;omega),yZ,yZ];exact ih n (AR h+h.2.1) (many+h.2.2.1) (o++[at_]) (by omega) (by omega) (by omega) (by omega) (by omega) (by simp;omega)
   ·simp only[zK hc,yZ]
    exact⟨_,_,_,rfl,rfl,by simp,.inr rfl⟩
  ·simp only[zl hmore,y_]
   exact⟨_,_,_,rfl,rfl,by omega,.inl rfl⟩
theorem Pe(k:Nat)(hk:2000000≤k)(lf:zD)(ck:zP)(b:List Int)(hl:b.length≤1048576)(hb:Av b):
 ∃(c:Int) (P:List Int) (V:List ze),Dp k lf b ck=some (((),(),c),(P,V))∧Cq k lf b ck=some (((),(),c),(P,V))∧P.length≤1048576∧V.length≤2000:=by
 unfold Dp Cq Dp.c9 Cq.c10;simp only[cst,yX];by_cases hat:ck.2.1<0
 ·simp only[zi hat,Ac,yZ]
  exact⟨_,_,_,rfl,rfl,by simp,by simp⟩
 by_cases hdi:ck.2.2.1< -1
 ·simp only[zi hdi,Bool.or_true,yZ]
  exact⟨_,_,_,rfl,rfl,by simp,by simp⟩
 simp only[zl hat,zl hdi,AX,y_];by_cases hd:ck.2.2.1≥0
 ·obtain⟨r,e1,e2,e3,_⟩:=Px k hk lf.1 b hl hb ck.2.2.1
  simp only[zi hd,yZ,e1,e2,yX];by_cases hc:r.1.2.2=0
  ·simp only[zB hc,y_]
   obtain⟨c,P,V,i1,i2,i3,i4⟩:=NS k hk lf ck b hl hb r.2 b.length k ck.2.1 0 [] (by omega) (by omega) (by omega) (by omega) (by omega) (by simp;omega);refine⟨c,P,V,i1,i2,i3,?_⟩;rcases i4 with rfl|rfl
   ·exact e3
   ·simp
  ·simp only[zK hc,yZ]
   exact⟨_,_,_,rfl,rfl,by simp,by simp⟩
 ·simp only[zl hd,y_]
  obtain⟨c,P,V,i1,i2,i3,i4⟩:=NS k hk lf ck b hl hb [] b.length k ck.2.1 0 [] (by omega) (by omega) (by omega) (by omega) (by omega) (by simp;omega);refine⟨c,P,V,i1,i2,i3,?_⟩;rcases i4 with rfl|rfl<;>simp
end Go.zJ
end
section
namespace Go.zJ
open Go.Am Go.Fn
variable(k:Nat)
theorem K7{S:Nat→Nat→Prop}{s:List zg}(hS:∀a b,S a b→a<b):∀(c pos:Nat) (names:List ByteArray) (nx:Nat),EO S s c pos names nx→pos≤nx
 |c,pos,names,nx,h=>by have:=I_ hS c pos names nx h;omega
section
variable(s:List zg)(hs:s.length≤20)(hn:∀c,c∈s→c.1.size<k∧c.1.size<1000000000∧zM c.2.2.2.1)
include hs hn
theorem Pk(hk:100≤k)(d D deep:Nat)(Ip:deep≤6)(M:Int)(hM:M<9223372036854775808)
 (ih:∀at_ nx:Nat,Ck s d at_ nx→nx≤s.length→zZ.rec k D s (at_:Int) ((deep+1:Nat):Int)=some (nx:Int)):
 ∀(c f pos:Nat) (i:Int) (names:List ByteArray) (nx:Nat),EO (Ck s d) s c pos names nx→c<f→M-i=c→0≤i→nx≤s.length→names.length≤pos→
  zZ.l6 k (zZ.rec k D) f s (deep:Int) (pos:Int) M i names=some (nx:Int):=by
 intro c
 induction c with
 |zero=>
  intro f pos i names nx hp hf hi h0 hnx hnm;obtain⟨f,rfl⟩:∃m,f=m+1:=⟨f-1,by omega⟩;have hp:pos=nx:=hp;subst hp;simp only[zZ.l6,zl (show ¬i<M by omega),y_]
 |succ c oq=>
  intro f pos i names nx hp hf hi h0 hnx hnm;obtain⟨f,rfl⟩:∃m,f=m+1:=⟨f-1,by omega⟩;obtain⟨p,mid,p1,p2,p3,p4⟩:=hp;have hlt:=Es _ _ _ p3;have hmn:=K7 (Es d) _ _ _ _ p4;have hd1:IntKind.wrap .i64 ((deep:Int)+1)=((deep+1:Nat):Int):=by rw[zh (by omega) (by omega)];omega
  have hi1:IntKind.wrap .i64 (i+1)=i+1:=zh (by omega) (by omega);simp only[zZ.l6,zi (show i<M by omega),yZ,zl (show ¬(pos:Int)≥(s.length:Int) by omega),y_];rw[show(0:Int)=((0:Nat):Int) from rfl,Nu k _ _ s _ pos M i _ p1 names (by omega) names.length k 0 (by omega) (by omega),List.drop_zero,if_neg p2,hd1,ih pos mid p3 (by omega)];simp only[yX,zl (show ¬((mid:Int)<0) by omega),y_,hi1];exact oq f mid (i+1) (names++[p.1]) nx p4 (by omega) (by omega) (by omega) hnx (by simp;omega)
theorem Pm(hk:100≤k):∀(d D deep at_ nx:Nat),Ck s d at_ nx→d+deep≤7→d<D→nx≤s.length→zZ.rec k D s (at_:Int) (deep:Int)=some (nx:Int):=by
 intro d
 induction d with
 |zero=>intro D deep at_ nx h;exact h.elim
 |succ d ih=>
  intro D deep at_ nx h hd hD hnx;obtain⟨D,rfl⟩:∃m,D=m+1:=⟨D-1,by omega⟩;have hlt:=Es _ _ _ h;obtain⟨c,h1,h2,h3,h4⟩:=h;have hcm:c∈s:=List.mem_of_getElem? h1;obtain⟨n1,n2,n3⟩:=hn c hcm;have hle:=I_ (Es d) _ _ _ _ h4;have ha1:IntKind.wrap .i64 ((at_:Int)+1)=((at_+1:Nat):Int):=by rw[zh (by omega) (by omega)];omega
  have hm0:0≤c.2.2.2.1:=by
   unfold Dw at h2;simp only[Aa,Bool.or_eq_true,beq_iff_eq,Ae] at h2;omega
  have hname:(decide ((at_:Int)>0)&& !GA c.1)=false:=by
   by_cases h0:0<at_
   ·rw[h3 h0];simp
   ·rw[zl (show ¬(at_:Int)>0 by omega)];rfl
  simp only[zZ.rec,zZ.b,cst,Ah,zl (show ¬(at_:Int)≥(s.length:Int) by omega),zl (show ¬(deep:Int)>6 by omega),AB,yX,y_,Aq,h1,MR,h2,zq,Nv k c.1 n1 n2,hname,ha1];have:=Pk k s hs hn hk d D deep (by omega) c.2.2.2.1 n3.2 (fun a b hab hb=>ih D (deep+1) a b hab (by omega) (by omega) hb) c.2.2.2.1.toNat k (at_+1) 0 [] nx h4 (by omega) (by omega) (by omega) hnx (by simp);exact this
theorem Pn(hk:100≤k){d at_ nx:Nat}(h:Ck s d at_ nx)(hd:d≤6)(hnx:nx≤s.length):zZ k s (at_:Int) 1=some (nx:Int):=
 Pm k s hs hn hk d k 1 at_ nx h (by omega) (by omega) hnx
theorem aaj(hk:100≤k):∀(d D at_ nx:Nat),Ck s d at_ nx→d<D→nx≤s.length→B_.rec k D s (at_:Int)=some (nx:Int):=by
 intro d
 induction d with
 |zero=>intro D at_ nx h;exact h.elim
 |succ d ih=>
  intro D at_ nx h hD hnx;obtain⟨D,rfl⟩:∃m,D=m+1:=⟨D-1,by omega⟩;have hlt:=Es _ _ _ h;obtain⟨c,h1,h2,h3,h4⟩:=h;obtain⟨n1,n2,n3⟩:=hn c (List.mem_of_getElem? h1);have hle:=I_ (Es d) _ _ _ _ h4;have ha1:IntKind.wrap .i64 ((at_:Int)+1)=((at_+1:Nat):Int):=by rw[zh (by omega) (by omega)];omega
  have hm0:0≤c.2.2.2.1:=by
   unfold Dw at h2;simp only[Aa,Bool.or_eq_true,beq_iff_eq,Ae] at h2;omega
  have key:∀(m f pos:Nat) (i:Int) (names:List ByteArray),EO (Ck s d) s m pos names nx→m<f→c.2.2.2.1-i=m→0≤i→B_.l3 k (B_.rec k D) f s (at_:Int) (pos:Int) i=some (nx:Int):=by
   intro m
   induction m with
   |zero=>
    intro f pos i names hp hf hi h0;obtain⟨f,rfl⟩:∃m,f=m+1:=⟨f-1,by omega⟩;have hp:pos=nx:=hp;subst hp;simp only[B_.l3,Aq,h1,yX,zl (show ¬i<c.2.2.2.1 by omega),y_]
   |succ m EZ=>
    intro f pos i names hp hf hi h0;obtain⟨f,rfl⟩:∃m,f=m+1:=⟨f-1,by omega⟩;obtain⟨p,mid,p1,p2,p3,p4⟩:=hp;have hmn:=K7 (Es d) _ _ _ _ p4;have hi1:IntKind.wrap .i64 (i+1)=i+1:=zh (by omega) (by obtain⟨_,q⟩:=n3;omega);simp only[B_.l3,Aq,h1,yX,zi (show i<c.2.2.2.1 by omega),yZ,ih D pos mid p3 (by omega) (by omega),hi1];exact EZ f mid (i+1) _ p4 (by omega) (by omega) (by omega)
  simp only[B_.rec,B_.b,ha1];exact key c.2.2.2.1.toNat k (at_+1) 0 [] h4 (by omega) (by omega) (by omega)
theorem aak(hk:100≤k){d at_ nx:Nat}(h:Ck s d at_ nx)(hd:d≤6)(hnx:nx≤s.length):B_ k s (at_:Int)=some (nx:Int):=
 aaj k s hs hn hk d k at_ nx h (by omega) hnx
end
def Bw:Nat→List zg→List Int
 |_,[]=>[]
 |i,c::r=>if c.2.1=7 then Bw (i+1) r else(i:Int)::Bw (i+1) r
theorem Kz:∀(i:Nat) (s:List zg),(Bw i s).length≤s.length
 |_,[]=>Nat.le_refl _
 |i,c::r=>by
  have:=Kz (i+1) r;simp only[Bw];split<;>simp<;>omega
theorem aar(s:List zg)(hs:s.length≤1000):∀(post pre:List zg) (n:Nat) (o:List Int),s=pre++post→post.length<n→o.length≤pre.length→
 CR.l3 k n s (s.length:Int) (pre.length:Int) o=some ((),o++Bw pre.length post)∧Di.l3 k n s (pre.length:Int) o=some ((),o++Bw pre.length post):=by
 intro post
 induction post with
 |nil=>
  intro pre n o hsp hn ho;obtain⟨n,rfl⟩:∃j,n=j+1:=⟨n-1,by omega⟩;have:s=pre:=by simpa using hsp
  subst this;simp only[CR.l3,Di.l3,zl (show ¬(s.length:Int)<(s.length:Int) by omega),y_];simp[Bw]
 |cons x post ih=>
  intro pre n o hsp hn ho;simp only[A9] at hn;obtain⟨n,rfl⟩:∃j,n=j+1:=⟨n-1,by omega⟩;have hlen:s.length=pre.length+(post.length+1):=by rw[hsp];simp
  have hg:gU s (pre.length:Int)=some x:=by rw[hsp];exact Ai _ _ _
  have hi1:IntKind.wrap .i64 ((pre.length:Int)+1)=((pre.length+1:Nat):Int):=by rw[zh (by omega) (by omega)];omega
  simp only[CR.l3,Di.l3,zi (show(pre.length:Int)<(s.length:Int) by omega),yZ,hg,yX,CR.c7,Di.c4,hi1,Bw];by_cases h7:x.2.1=7
  ·have hi:=ih (pre++[x]) n o (by rw[hsp];simp) (by omega) (by simp;omega)
   rw[Ab,AJ] at hi;rw[zB h7,y_,y_,if_pos h7];exact hi
  ·have hi:=ih (pre++[x]) n (o++[(pre.length:Int)]) (by rw[hsp];simp) (by omega) (by simp;omega)
   rw[Ab,AJ,CE,List.singleton_append] at hi;rw[zK h7,yZ,yZ,if_neg h7,Bn (by simp;omega),yZ,yZ];exact hi
theorem KA(hk:2000≤k)(s:List zg)(hs:s.length≤1000):CR k s=some ((),Bw 0 s)∧Di k s=some ((),Bw 0 s):=by
 have:=aar k s hs s [] k [] rfl (by omega) (by simp);exact this
end Go.zJ
end
section
namespace Go.zJ
open Go.Am Go.Fn
section
variable(k:Nat)
theorem Pz(c:zP)(hc:c.2.2.2.2.2.1.length<k)(hl:c.2.2.2.2.2.1.length<4294967296):∀(m f f' i:Nat),i+m=c.2.2.2.2.2.1.length→m<f→m<f'→
 ∃b,Du.l4 k f (i:Int) c=some b∧FM.l2 k f' c.2.2.2.2.2.1 c.2.2.2.2.2.1 (c.2.2.2.2.2.1.length:Int) (i:Int)=some (b&&(decide ((1:Int)≤(c.2.2.2.2.2.1.length:Int))&&decide ((c.2.2.2.2.2.1.length:Int)≤5))):=by
 intro m
 induction m with
 |zero=>
  intro f f' i hi hf hf';obtain⟨f,rfl⟩:∃q,f=q+1:=⟨f-1,by omega⟩;obtain⟨f',rfl⟩:∃q,f'=q+1:=⟨f'-1,by omega⟩;simp only[Du.l4,FM.l2,zl (show ¬((i:Int)<(c.2.2.2.2.2.1.length:Int)) by omega),y_,Ay,yX];exact⟨true,rfl,by rw[CX]⟩
 |succ m ih=>
  intro f f' i hi hf hf';obtain⟨f,rfl⟩:∃q,f=q+1:=⟨f-1,by omega⟩;obtain⟨f',rfl⟩:∃q,f'=q+1:=⟨f'-1,by omega⟩;obtain⟨x,hx,_⟩:=GH (xs:=c.2.2.2.2.2.1) (i:=(i:Int)) (by omega) (by omega);have hi1:IntKind.wrap .i64 ((i:Int)+1)=((i+1:Nat):Int):=by rw[zh (by omega) (by omega)];omega
  obtain⟨b,g1,g2⟩:=ih f f' (i+1) (by omega) (by omega) (by omega);simp only[Du.l4,FM.l2,zi (show(i:Int)<(c.2.2.2.2.2.1.length:Int) by omega),yZ,Du.d6,hx,yX,Ay,AV,hi1,g1,g2];cases(decide ((0:Int)≤x)&&decide (x≤9)) with
  |false=>
   simp only[zO,yZ,yX];exact⟨false,rfl,by rw[Df]⟩
  |true=>
   simp only[zq,y_];by_cases h0:(i:Int)>0
   ·obtain⟨y,hy,_⟩:=GH (xs:=c.2.2.2.2.2.1) (i:=(i:Int)-1) (by omega) (by omega)
    have hm1:IntKind.wrap .i64 ((i:Int)-1)=(i:Int)-1:=zh (by omega) (by omega);simp only[zi h0,yZ,hm1,hy,yX];cases decide (y≥x) with
    |true=>
     simp only[yZ];exact⟨false,rfl,by rw[Df]⟩
    |false=>
     simp only[y_];exact⟨b,rfl,rfl⟩
   ·simp only[zl h0,y_,yX]
    exact⟨b,rfl,rfl⟩
theorem chunk_eq(c:zP)(hc:c.2.2.2.2.2.1.length<k)(hl:c.2.2.2.2.2.1.length<4294967296)(leaf:Int):∃b,Du k c leaf=some b∧Kk k c leaf=some b∧(b=true→-1≤c.2.2.1):=by
 obtain⟨b,g1,g2⟩:=Pz k c hc hl c.2.2.2.2.2.1.length k k 0 (by omega) hc hc;rw[show((0:Nat):Int)=0 from rfl] at g1 g2;unfold Du Kk FM;simp only[AV,Ay,yX,cst,Ah,g1,g2];generalize h2:(decide ((0:Int)≤c.2.1)&&decide (c.2.1≤60000))=x2;generalize h3:(decide ((-1:Int)≤c.2.2.1)&&decide (c.2.2.1≤60000))=x3;generalize(decide ((1:Int)≤c.2.2.2.1)&&decide (c.2.2.2.1≤2000))=x4;generalize(decide ((0:Int)≤c.2.2.2.2.1)&&decide (c.2.2.2.2.1≤60000))=x5;generalize(decide ((1:Int)≤(c.2.2.2.2.2.1.length:Int))&&decide ((c.2.2.2.2.2.1.length:Int)≤5))=x6;simp only[bne];generalize(c.1==leaf)=x1;have hd:x3=true→-1≤c.2.2.1:=fun h=>by
  rw[h] at h3;simp only[Aa,Ae] at h3;exact h3.1
 clear g1 g2 h2 h3;cases x1<;>cases x2<;>cases x3<;>cases x4<;>cases x5<;>cases x6<;>cases b<;>first|exact⟨_,rfl,rfl,fun _=>hd rfl⟩|exact⟨_,rfl,rfl,fun h=>Bool.noConfusion h⟩
end
def Mq(n:Nat)(G:List zF):Prop:=∀g,g∈G→g.2.1.length=n∧∀c,c∈g.2.1→-1≤c.2.2.1
def Fit(k:Nat)(G:List zF):Prop:=∀g,g∈G→g.2.1.length<k∧g.2.1.length<4294967296∧∀c,c∈g.2.1→c.2.2.2.2.2.1.length<k∧c.2.2.2.2.2.1.length<4294967296
section
variable(k:Nat)(hk:2000≤k)(s:List zg)(hok:Gl k s=some true)(hok2:F6 k s=some true)(hs:s.length≤1000)
include hk hok hok2 hs
theorem Pg(m:zY)(g:zF)(L6:Int→Int→zY→List Int→Option Bool)(L5:Int→List zF→Int→Int→zY→Option Bool)(hfit:g.2.1.length<4294967296∧∀c,c∈g.2.1→c.2.2.2.2.2.1.length<k∧c.2.2.2.2.2.1.length<4294967296)
 (t4 t5:Int) (za:List Int) (t3:Int) (t19:List zF) (t20 t21:Int) (x y:Bool) (h6:L6 t4 (IntKind.wrap .i64 (t5+1)) m za=some x) (h5:L5 (IntKind.wrap .i64 (t3+g.1)) t19 t20 (IntKind.wrap .i64 (t21+1)) m=some y):
 ∀(post pre:List zP) (f f':Nat),g.2.1=pre++post→post.length<f→post.length<f'→
 ∃b,Co.Aj k L6 f t4 t5 (pre.length:Int) m za g=some (b&&x)∧Bc.l10 k L5 f' t3 t19 t20 t21 g.2.1 (g.2.1.length:Int) (pre.length:Int) m g=some (b&&y)∧(b=true→∀c,c∈post→-1≤c.2.2.1):=by
 intro post
 induction post with
 |nil=>
  intro pre f f' h hf hf';obtain⟨f,rfl⟩:∃q,f=q+1:=⟨f-1,by omega⟩;obtain⟨f',rfl⟩:∃q,f'=q+1:=⟨f'-1,by omega⟩;have hlen:g.2.1.length=pre.length:=by rw[h];simp
  simp only[Co.Aj,Bc.l10,zl (show ¬((pre.length:Int)<(g.2.1.length:Int)) by omega),y_,h6,h5];exact⟨true,by simp,by simp,fun _ c hc=>by cases hc⟩
 |cons c post ih=>
  intro pre f f' h hf hf';simp only[A9] at hf hf';obtain⟨f,rfl⟩:∃q,f=q+1:=⟨f-1,by omega⟩;obtain⟨f',rfl⟩:∃q,f'=q+1:=⟨f'-1,by omega⟩;have hlen:g.2.1.length=pre.length+(post.length+1):=by rw[h];simp
  have hg:gU g.2.1 (pre.length:Int)=some c:=by rw[h];exact Ai _ _ _
  have hi1:IntKind.wrap .i64 ((pre.length:Int)+1)=((pre.length+1:Nat):Int):=by rw[zh (by omega) (by omega)];omega
  have hcm:c∈g.2.1:=by rw[h];simp
  obtain⟨b,e1,e2,e3⟩:=chunk_eq k c (hfit.2 c hcm).1 (hfit.2 c hcm).2 (pre.length:Int);obtain⟨b',i1,i2,i3⟩:=ih (pre++[c]) f f' (by rw[h];simp) (by omega) (by omega);rw[Ab,AJ] at i1 i2;simp only[Co.Aj,Bc.l10,zi (show(pre.length:Int)<(g.2.1.length:Int) by omega),yZ,hg,yX,e1,e2,hi1,i1,i2];cases b with
  |false=>exact⟨false,rfl,rfl,fun h=>by cases h⟩
  |true=>
   refine⟨b',rfl,rfl,fun hb c' hc'=> ?_⟩;rcases List.mem_cons.1 hc' with rfl|hc'
   ·exact e3 rfl
   ·exact i3 hb c' hc'
theorem ZQ(m:zY)(hm:m.1=s)(hfit:Fit k m.2.2.1)(hG:m.2.2.1.length≤40):∀(post pre:List zF) (f f':Nat) (R:Int),m.2.2.1=pre++post→post.length<f→post.length<f'→0≤R→R≤200*pre.length→
 ∃b,Co.l6 k f R (pre.length:Int) m (Bw 0 s)=some b∧Bc.l5 k f' R m.2.2.1 (m.2.2.1.length:Int) (pre.length:Int) m=some (b&&decide (m.2.1≤200))∧(b=true→0≤m.2.1∧Mq (Bw 0 s).length post):=by
 obtain⟨v1,v2⟩:=KA k hk s hs;intro post
 induction post with
 |nil=>
  intro pre f f' R h hf hf' h0 hR;obtain⟨f,rfl⟩:∃q,f=q+1:=⟨f-1,by omega⟩;obtain⟨f',rfl⟩:∃q,f'=q+1:=⟨f'-1,by omega⟩;have hlen:m.2.2.1.length=pre.length:=by rw[h];simp
  simp only[Co.l6,Bc.l5,zl (show ¬((pre.length:Int)<(m.2.2.1.length:Int)) by omega),y_,Ah,yX];refine⟨_,rfl,?_,fun hb=>⟨?_,fun g hg=>by cases hg⟩⟩
  ·by_cases he:R=m.2.1
   ·rw[zQ he,he]
   ·rw[zn he];rfl
  ·simp only[beq_iff_eq] at hb
   omega
 |cons g post ih=>
  intro pre f f' R h hf hf' h0 hR;simp only[A9] at hf hf';obtain⟨f,rfl⟩:∃q,f=q+1:=⟨f-1,by omega⟩;obtain⟨f',rfl⟩:∃q,f'=q+1:=⟨f'-1,by omega⟩;have hlen:m.2.2.1.length=pre.length+(post.length+1):=by rw[h];simp
  have hg:gU m.2.2.1 (pre.length:Int)=some g:=by rw[h];exact Ai _ _ _
  have hgm:g∈m.2.2.1:=by rw[h];simp
  have hi1:IntKind.wrap .i64 ((pre.length:Int)+1)=((pre.length+1:Nat):Int):=by rw[zh (by omega) (by omega)];omega
  simp only[Co.l6,Bc.l5,zi (show(pre.length:Int)<(m.2.2.1.length:Int) by omega),yZ,hg,yX,AV,cst,Bc.d7,Ay,hm,v1];by_cases hr:1≤g.1∧g.1≤200
  ·have hw:(decide ((1:Int)≤g.1)&&decide (g.1≤200))=true:=by simp;omega
   have Nn:IntKind.wrap .i64 (R+g.1)=R+g.1:=zh (by omega) (by omega);simp only[hw,zq,AB,y_,yX];by_cases hn:g.2.1.length=(Bw 0 s).length
   ·rw[zB (show((g.2.1.length:Int))=((Bw 0 s).length:Int) by omega),y_,y_]
    obtain⟨b',i1,i2,i3⟩:=ih (pre++[g]) f f' (R+g.1) (by rw[h];simp) (by omega) (by omega) (by omega) (by simp;omega);rw[Ab,AJ] at i1 i2;obtain⟨b,c1,c2,c3⟩:=Pg k hk s hok hok2 hs m g (Co.l6 k f) (Bc.l5 k f') (hfit g hgm).2 (IntKind.wrap .i64 (R+g.1)) (pre.length:Int) (Bw 0 s) R m.2.2.1 (m.2.2.1.length:Int) (pre.length:Int) b' (b'&&decide (m.2.1≤200)) (by rw[Nn,hi1];exact i1) (by rw[Nn,hi1];exact i2) g.2.1 [] k k rfl (hfit g hgm).1 (hfit g hgm).1;rw[List.length_nil,show((0:Nat):Int)=0 from rfl] at c1 c2;rw[c1,c2];refine⟨_,rfl,by rw[Bool.and_assoc],fun hb=> ?_⟩;simp only[Aa] at hb;obtain⟨q1,q2⟩:=i3 hb.2;refine⟨q1,fun g' hg'=> ?_⟩;rcases List.mem_cons.1 hg' with rfl|hg'
    ·exact⟨hn,c3 hb.1⟩
    ·exact q2 g' hg'
   ·rw[zK (show ¬((g.2.1.length:Int))=((Bw 0 s).length:Int) by omega),yZ,yZ]
    exact⟨false,rfl,rfl,fun h=>by cases h⟩
  ·have hw:(decide ((1:Int)≤g.1)&&decide (g.1≤200))=false:=by
    rw[Bool.eq_false_iff];intro q;simp only[Aa,Ae] at q;exact hr q
   simp only[hw,zO,Ac,yZ];exact⟨false,rfl,rfl,fun h=>by cases h⟩
theorem aaH(rows:Int)(G:List zF)(hfit:Fit k G):∃b,Co k (s,rows,G,())=some b∧Bc k (s,rows,G,())=some b∧(b=true→G.length≤40∧0≤rows∧rows≤200∧Mq (Bw 0 s).length G):=by
 obtain⟨v1,v2⟩:=KA k hk s hs;unfold Co Bc IV;simp only[hok,hok2,v2,yX,zq,y_,cst,AB,AV];by_cases hG:G.length≤40
 ·rw[zl (show ¬((G.length:Int)>40) by omega)]
  obtain⟨b,e1,e2,e3⟩:=ZQ k hk s hok hok2 hs (s,rows,G,()) rfl hfit hG G [] k k 0 rfl (by omega) (by omega) (by omega) (by simp);have e1:Co.l6 k k 0 0 (s,rows,G,()) (Bw 0 s)=some b:=e1;have e2:Bc.l5 k k 0 G (G.length:Int) 0 (s,rows,G,())=some (b&&decide (rows≤200)):=e2;simp only[AB,y_,e2];by_cases hr:0≤rows∧rows≤200
  ·rw[show(decide ((0:Int)≤rows)&&decide (rows≤200))=true by simp;omega,zi hr.2]
   simp only[zq,y_,Bool.and_true,e1];exact⟨b,rfl,rfl,fun h=>⟨hG,hr.1,hr.2,(e3 h).2⟩⟩
  ·rw[show(decide ((0:Int)≤rows)&&decide (rows≤200))=false by rw[Bool.eq_false_iff];intro q;simp only[Aa,Ae] at q;exact hr q]
   simp only[zO,yZ];refine⟨false,rfl,?_,fun h=>by cases h⟩;cases b with
   |false=>rfl
   |true=>
    have:=(e3 rfl).1;have this:0≤rows:=this;rw[zl (show ¬rows≤200 by omega)];rfl
 ·rw[zi (show((G.length:Int)>40) by omega)]
  exact⟨false,rfl,rfl,fun h=>by cases h⟩
end
structure Ev where
 at_:Nat
 leaf:Bool
 rep:Int
 Al:Int
 v:ze
def zv:ze:=(0,⟨#[]⟩,())
def Jd(v:ze)(most:Int):Bool:= !iY v.2.1 ⟨#[]⟩|| !(decide (0≤v.1)&&decide (v.1≤most))
theorem MK{v:ze}{most:Int}(h:Jd v most=false):0≤v.1∧v.1≤most:=by
 unfold Jd at h;simp only[Bool.or_eq_false_iff,Bool.not_eq_false',Aa,Ae] at h;exact h.2
abbrev Az:=Option (List Ev×List ze)
def ES(a:Az)(f:List ze→Az):Az:=
 match a with
 |none=>none
 |some (x,V)=>match f V with
  |none=>none
  |some (y,W)=>some (x++y,W)
def iZ(F:Nat→List ze→Az)(e:Nat→Nat):Nat→Nat→List ze→Az
 |0,_,V=>some ([],V)
 |m+1,a,V=>ES (F a V) (iZ F e m (e a))
def Ig(F:List ze→Az):Nat→List ze→Az
 |0,V=>some ([],V)
 |m+1,V=>ES (F V) (Ig F m)
def iter(f:Nat→Nat):Nat→Nat→Nat
 |0,a=>a
 |n+1,a=>iter f n (f a)
def G5(s:List zg):Nat→Nat→Nat
 |0,a=>a
 |d+1,a=>match s[a]? with
  |none=>a+1
  |some c=>iter (G5 s d) c.2.2.2.1.toNat (a+1)
theorem MX{s:List zg}{S:Nat→Nat→Prop}{e:Nat→Nat}(h:∀a b,S a b→e a=b):∀(m a:Nat) (names:List ByteArray) (nx:Nat),EO S s m a names nx→iter e m a=nx
 |0,a,_,nx,hp=>hp
 |m+1,a,names,nx,⟨p,mid,_,_,h3,h4⟩=>by
  show iter e m (e a)=nx;rw[h a mid h3];exact MX h m mid _ nx h4
theorem MW{s:List zg}:∀(d:Nat) {a b:Nat},Ck s d a b→∀d',d≤d'→G5 s d' a=b
 |0,_,_,h,_,_=>h.elim
 |d+1,a,b,⟨c,h1,_,_,h2⟩,d',hd=>by
  obtain⟨d',rfl⟩:∃q,d'=q+1:=⟨d'-1,by omega⟩;simp only[G5,h1];exact MX (S:=Ck s d) (fun x y hxy=>MW d hxy d' (by omega)) _ _ _ _ h2
def EG(s:List zg)(rep Al:Int):Nat→Nat→List Ev
 |0,_=>[]
 |n+1,i=>(match s[i]? with
  |none=>[]
  |some c=>if c.2.1=7 then[] else[⟨i,false,rep,Al,zv⟩])++EG s rep Al n (i+1)
def G6(s:List zg)(C:Int→Int→Int→List ze→Az)(e a:Nat)(rep Al deep:Int)(V:List ze):Az:=
 match s[a]? with
 |none=>none
 |some c=>
  if c.2.2.1=0 then C rep Al deep V
  else match V with
   |[]=>none
   |v::V=>
    if c.2.2.1=2 then
     if Jd v 20=true then none
     else if v.1=0 then some (EG s rep Al (e-a) a,V)
     else ES (C rep (Al+1) (deep+1) V) (Ig (C (deep+1) (Al+1) (deep+1)) (v.1.toNat-1))
    else
     if Jd v 1=true then none
     else if v.1=0 then some (EG s rep Al (e-a) a,V)
     else C rep (Al+1) deep V
def Ie(s:List zg):Nat→Nat→Int→Int→Int→List ze→Az
 |0,_,_,_,_,_=>none
 |d+1,a,rep,Al,deep,V=>match s[a]? with
  |none=>none
  |some c=>
   if c.2.1=7 then iZ (fun a V=>G6 s (Ie s d a) (G5 s d a) a rep Al deep V) (G5 s d) c.2.2.2.1.toNat (a+1) V
   else match V with
    |[]=>none
    |v::V=>if AZ c.2.1 v=true then some ([⟨a,true,rep,Al,v⟩],V) else none
def BL(V:List ze)(r:Az):Prop:=∀X W,r=some (X,W)→W.length≤V.length∧X.length+20*W.length≤20*V.length∧W=V.drop (V.length-W.length)
theorem M4{a:Az}{f:List ze→Az}{X:List Ev}{W:List ze}(h:ES a f=some (X,W)):∃x y V,a=some (x,V)∧f V=some (y,W)∧X=x++y:=by
 unfold ES at h;split at h
 ·cases h
 ·rename_i x V
  split at h
  ·cases h
  ·rename_i y W' hf
   simp only[A_,Prod.mk.injEq] at h;obtain⟨rfl,rfl⟩:=h;exact⟨x,y,V,rfl,hf,rfl⟩
theorem BL.pair{V:List ze}{a:Az}{f:List ze→Az}(h:BL V a)(k:∀W,BL W (f W)):BL V (ES a f):=by
 intro X W hr;obtain⟨x,y,U,h1,h2,rfl⟩:=M4 hr;obtain⟨a1,a2,a3⟩:=h _ _ h1;obtain⟨b1,b2,b3⟩:=k U _ _ h2;refine⟨by omega,by simp;omega,?_⟩;rw[b3,a3,List.drop_drop]
 congr 1
 simp only[List.length_drop];omega
theorem BL.nil(V:List ze):BL V (some ([],V)):=by
 intro X W h;simp only[A_,Prod.mk.injEq] at h;obtain⟨rfl,rfl⟩:=h;exact⟨Nat.le_refl _,by simp,by simp⟩
theorem BL.parts{F:Nat→List ze→Az}{e:Nat→Nat}(h:∀a V,BL V (F a V)):∀(m a:Nat) (V:List ze),BL V (iZ F e m a V)
 |0,_,V=>BL.nil V
 |m+1,a,V=>(h a V).pair (BL.parts h m (e a))
theorem BL.items{F:List ze→Az}(h:∀V,BL V (F V)):∀(m:Nat) (V:List ze),BL V (Ig F m V)
 |0,V=>BL.nil V
 |m+1,V=>(h V).pair (BL.items h m)
theorem NH(s:List zg)(rep Al:Int):∀(n i:Nat),i+(EG s rep Al n i).length≤max i s.length
 |0,i=>by simp only[EG,List.length_nil];omega
 |n+1,i=>by
  have:=NH s rep Al n (i+1);simp only[EG,Ab];cases h:s[i]? with
  |none=>
   have hl:s.length≤i:=List.getElem?_eq_none_iff.1 h;simp only[List.length_nil];omega
  |some c=>
   have hl:i<s.length:=(List.getElem?_eq_some_iff.1 h).1;simp only;split<;>simp<;>omega
theorem BL.part{s:List zg}(hs:s.length≤20){C:Int→Int→Int→List ze→Az}(h:∀r d p V,BL V (C r d p V))(e a:Nat)(rep Al deep:Int)(V:List ze):BL V (G6 s C e a rep Al deep V):=by
 intro X W hr;unfold G6 at hr;have hm:∀n,(EG s rep Al n a).length≤20:=fun n=>by
  have:=NH s rep Al n a;rcases Nat.lt_or_ge a s.length with h1|h1
  ·omega
  ·have:(EG s rep Al n a).length=0:=by omega
   omega
 split at hr
 ·cases hr
 ·rename_i c hc
  split at hr
  ·exact h _ _ _ _ _ _ hr
  ·split at hr
   ·cases hr
   ·rename_i v V
    have lift:∀r:Az,BL V r→r=some (X,W)→W.length≤(v::V).length∧X.length+20*W.length≤20*(v::V).length∧W=(v::V).drop ((v::V).length-W.length):=by
     intro r hg hr;obtain⟨g1,g2,g3⟩:=hg _ _ hr;refine⟨by simp;omega,by simp;omega,?_⟩;rw[A9,show V.length+1-W.length=(V.length-W.length)+1 by omega,List.drop_succ_cons];exact g3
    have ms:some (EG s rep Al (e-a) a,V)=some (X,W)→W.length≤(v::V).length∧X.length+20*W.length≤20*(v::V).length∧W=(v::V).drop ((v::V).length-W.length):=by
     intro hr;simp only[A_,Prod.mk.injEq] at hr;obtain⟨rfl,rfl⟩:=hr;have:=hm (e-a);refine⟨by simp,by simp;omega,by simp⟩
    split at hr
    ·split at hr
     ·cases hr
     ·split at hr
      ·exact ms hr
      ·exact lift _ ((h _ _ _ _).pair (BL.items (h _ _ _) _)) hr
    ·split at hr
     ·cases hr
     ·split at hr
      ·exact ms hr
      ·exact lift _ (h _ _ _ _) hr
theorem MZ{s:List zg}(hs:s.length≤20):∀(d a:Nat) (rep Al deep:Int) (V:List ze),BL V (Ie s d a rep Al deep V)
 |0,_,_,_,_,_=>fun X W h=>by cases h
 |d+1,a,rep,Al,deep,V=>by
  intro X W h;simp only[Ie] at h;split at h
  ·cases h
  ·split at h
   ·exact BL.parts (fun a V=>BL.part hs (fun r d p V=>MZ hs _ a r d p V) _ a rep Al deep V) _ _ _ _ _ h
   ·split at h
    ·cases h
    ·split at h
     ·simp only[A_,Prod.mk.injEq] at h
      obtain⟨rfl,rfl⟩:=h;refine⟨by simp,by simp;omega,by simp⟩
     ·cases h
def DI(r:Az):Option (List ze):=match r with
 |none=>none
 |some (_,W)=>some W
theorem LU(a:Az)(f:List ze→Az):DI (ES a f)=(DI a).bind fun V=>DI (f V):=by
 unfold ES DI;cases a with
 |none=>rfl
 |some q=>
  obtain⟨x,V⟩:=q;simp only[yX];cases f V with
  |none=>rfl
  |some q2=>rfl
def GG(C:List ze→Option (List ze)):Nat→List ze→Option (List ze)
 |0,V=>some V
 |m+1,V=>(C V).bind (GG C m)
theorem NZ(F:List ze→Az)(C:List ze→Option (List ze))(h:∀V,DI (F V)=C V):∀(m:Nat) (V:List ze),DI (Ig F m V)=GG C m V
 |0,V=>rfl
 |m+1,V=>by
  show DI (ES (F V) (Ig F m))=_;rw[LU,h V];show _=(C V).bind (GG C m)
  congr 1
  funext W;exact NZ F C h m W
def LQ(s:List zg)(C:List ze→Option (List ze))(a:Nat)(V:List ze):Option (List ze):=
 match s[a]? with
 |none=>none
 |some c=>
  if c.2.2.1=0 then C V
  else match V with
   |[]=>none
   |v::V=>if Jd v (if c.2.2.1=2 then 20 else 1)=true then none else GG C v.1.toNat V
theorem abr(s:List zg)(F:Int→Int→Int→List ze→Az)(C:List ze→Option (List ze))(h:∀r q p V,DI (F r q p V)=C V)(e a:Nat)(rep Al deep:Int)(V:List ze):DI (G6 s F e a rep Al deep V)=LQ s C a V:=by
 unfold G6 LQ;cases s[a]? with
 |none=>rfl
 |some c=>
  simp only;split
  ·exact h _ _ _ _
  ·cases V with
   |nil=>rfl
   |cons v V=>
    simp only;split
    ·rename_i h2
     split
     ·rename_i hb;rfl
     ·rename_i hb
      have hb:=MK (by simpa using hb);split
      ·rename_i h0;rw[h0];rfl
      ·rename_i h0
       obtain⟨n,hn⟩:∃n:Nat,v.1=((n+1:Nat):Int):=⟨v.1.toNat-1,by omega⟩;rw[hn,LU,h];show _=GG C (n+1) V;simp only[GG]
       congr 1
       funext W;exact NZ _ C (h _ _ _) _ W
    ·rename_i h2
     split
     ·rename_i hb;rfl
     ·rename_i hb
      have hb:=MK (by simpa using hb);split
      ·rename_i h0;rw[h0];rfl
      ·rename_i h0
       have h1:v.1=1:=by omega
       rw[h1,h];show C V=GG C 1 V;simp only[GG];cases C V<;>rfl
def KH(F:Nat→List ze→Option (List ze))(e:Nat→Nat):Nat→Nat→List ze→Option (List ze)
 |0,_,V=>some V
 |m+1,a,V=>(F a V).bind (KH F e m (e a))
theorem N7(F:Nat→List ze→Az)(C:Nat→List ze→Option (List ze))(h:∀a V,DI (F a V)=C a V)(e:Nat→Nat):∀(m a:Nat) (V:List ze),DI (iZ F e m a V)=KH C e m a V
 |0,_,V=>rfl
 |m+1,a,V=>by
  show DI (ES (F a V) (iZ F e m (e a)))=_;rw[LU,h a V];show _=(C a V).bind (KH C e m (e a))
  congr 1
  funext W;exact N7 F C h e m (e a) W
def rC(s:List zg):Nat→Nat→List ze→Option (List ze)
 |0,_,_=>none
 |d+1,a,V=>match s[a]? with
  |none=>none
  |some c=>
   if c.2.1=7 then KH (fun a V=>LQ s (rC s d a) a V) (G5 s d) c.2.2.2.1.toNat (a+1) V
   else match V with
    |[]=>none
    |v::V=>if AZ c.2.1 v=true then some V else none
theorem NY(s:List zg):∀(d a:Nat) (rep Al deep:Int) (V:List ze),DI (Ie s d a rep Al deep V)=rC s d a V
 |0,_,_,_,_,_=>rfl
 |d+1,a,rep,Al,deep,V=>by
  simp only[Ie,rC];cases s[a]? with
  |none=>rfl
  |some c=>
   simp only;split
   ·exact N7 _ _ (fun a V=>abr s _ (rC s d a) (fun r q p V=>NY s d a r q p V) _ a rep Al deep V) _ _ _ _
   ·cases V with
    |nil=>rfl
    |cons v V=>
     simp only;split<;>rfl
def RG(C:List ze→Option (List ze)):Prop:=∀V W,C V=some W→W.length≤V.length∧W=V.drop (V.length-W.length)
theorem RG.of{F:List ze→Az}{C:List ze→Option (List ze)}(h:∀V,DI (F V)=C V)(g:∀V,BL V (F V)):RG C:=by
 intro V W hc;rw[←h V] at hc;unfold DI at hc;split at hc
 ·cases hc
 ·rename_i X U hf
  simp only[A_] at hc;subst hc;obtain⟨g1,_,g3⟩:=g V X U hf;exact⟨g1,g3⟩
theorem RG.c{s:List zg}(hs:s.length≤20)(d a:Nat):RG (rC s d a):=RG.of (F:=Ie s d a 0 0 0) (NY s d a 0 0 0) (MZ hs d a 0 0 0)
theorem RG.pos{C:List ze→Option (List ze)}(g:RG C){V W:List ze}{pos:Nat}(hp:pos≤V.length)(h:C (V.drop pos)=some W):V.length-W.length≤V.length∧V.drop (V.length-W.length)=W∧pos≤V.length-W.length:=by
 obtain⟨g1,g2⟩:=g _ _ h;simp only[List.length_drop] at g1 g2;refine⟨by omega,?_,by omega⟩;rw[List.drop_drop] at g2;rw[show V.length-W.length=pos+(V.length-pos-W.length) by omega];exact g2.symm
section
variable(k:Nat)(s:List zg)(hs:s.length≤20)(hn:∀c,c∈s→c.1.size<k∧c.1.size<1000000000∧zM c.2.2.2.1)(hk:2000000≤k)
variable(V:List ze)(hV:V.length≤1048576)
include hs hn hk hV
end
def WO.P(_:Nat)(_:Nat):Prop:=True
section
variable(k:Nat)(s:List zg)
end
section
variable(k:Nat)(s:List zg)(hs:s.length≤20)(hn:∀c,c∈s→c.1.size<k∧c.1.size<1000000000∧zM c.2.2.2.1)(hk:2000000≤k)
include hs hn hk
end
theorem abu{s:List zg}(hS:I9 s):∃c0,s[0]?=some c0∧c0.2.1=7∧0<c0.2.2.2.1:=by
 obtain⟨_,_,⟨c,e1,e2,_,_⟩,c0,hc0,_,_,h7⟩:=hS;rw[hc0] at e1;obtain rfl:=Option.some.inj e1;refine⟨c0,hc0,h7,?_⟩;unfold Dw at e2;rw[h7,Og] at e2;simp at e2;exact e2.1
def Ih(s:List zg)(X:List Ev):Prop:=∀e,e∈X→∃c,s[e.at_]?=some c∧c.2.1≠7
theorem M3{s:List zg}{X Y:List Ev}(h1:Ih s X)(h2:Ih s Y):Ih s (X++Y):=fun e he=>(List.mem_append.1 he).elim (h1 e) (h2 e)
def EvL(s:List zg)(r:Az):Prop:=∀X W,r=some (X,W)→Ih s X
theorem EvL.pair{s:List zg}{a:Az}{f:List ze→Az}(h:EvL s a)(g:∀V,EvL s (f V)):EvL s (ES a f):=by
 intro X W he;obtain⟨x,y,V,h1,h2,rfl⟩:=M4 he;exact M3 (h _ _ h1) (g _ _ _ h2)
theorem EvL.nil(s:List zg)(V:List ze):EvL s (some ([],V)):=by
 intro X W h;simp only[A_,Prod.mk.injEq] at h;obtain⟨rfl,rfl⟩:=h;exact fun e he=>by cases he
theorem EvL.parts{s:List zg}{F:Nat→List ze→Az}{e:Nat→Nat}(h:∀a V,EvL s (F a V)):∀(m a:Nat) (V:List ze),EvL s (iZ F e m a V)
 |0,_,V=>EvL.nil s V
 |m+1,a,V=>(h a V).pair (EvL.parts h m (e a))
theorem EvL.items{s:List zg}{F:List ze→Az}(h:∀V,EvL s (F V)):∀(m:Nat) (V:List ze),EvL s (Ig F m V)
 |0,V=>EvL.nil s V
 |m+1,V=>(h V).pair (EvL.items h m)
theorem NG(s:List zg)(rep Al:Int):∀(n i:Nat),Ih s (EG s rep Al n i)
 |0,i=>fun e he=>by cases he
 |n+1,i=>by
  simp only[EG];refine M3 ?_ (NG s rep Al n (i+1));cases h:s[i]? with
  |none=>exact fun e he=>by cases he
  |some c=>
   simp only;split
   ·exact fun e he=>by cases he
   ·rename_i h7
    intro e he;rw[List.mem_singleton] at he;subst he;exact⟨c,h,h7⟩
theorem EvL.part{s:List zg}{C:Int→Int→Int→List ze→Az}(h:∀r d p V,EvL s (C r d p V))(e a:Nat)(rep Al deep:Int)(V:List ze):EvL s (G6 s C e a rep Al deep V):=by
 intro X W hr;unfold G6 at hr;have ms:∀U,some (EG s rep Al (e-a) a,U)=some (X,W)→Ih s X:=by
  intro U hr;simp only[A_,Prod.mk.injEq] at hr;obtain⟨rfl,rfl⟩:=hr;exact NG _ _ _ _ _
 split at hr
 ·cases hr
 ·split at hr
  ·exact h _ _ _ _ _ _ hr
  ·split at hr
   ·cases hr
   ·split at hr
    ·split at hr
     ·cases hr
     ·split at hr
      ·exact ms _ hr
      ·exact(EvL.pair (h _ _ _ _) (fun V=>EvL.items (h _ _ _) _ V)) _ _ hr
    ·split at hr
     ·cases hr
     ·split at hr
      ·exact ms _ hr
      ·exact h _ _ _ _ _ _ hr
theorem KS{s:List zg}:∀(d:Nat) (a nx:Nat),Ck s d a nx→∀t,a≤t→t<nx→∃nx',Ck s d t nx'∧nx'≤nx
 |0,_,_,h,_,_,_=>h.elim
 |d+1,a,nx,h,t,h1,h2=>by
  rcases Nat.eq_or_lt_of_le h1 with rfl|h1
  ·exact⟨nx,h,Nat.le_refl _⟩
  ·obtain⟨c,_,_,_,hp⟩:=h
   have key:∀(m pl:Nat) (names:List ByteArray),EO (Ck s d) s m pl names nx→pl≤t→∃nx',Ck s d t nx'∧nx'≤nx:=by
    intro m
    induction m with
    |zero=>
     intro pl names hp ht;have hp:pl=nx:=hp;omega
    |succ m ih=>
     intro pl names hp ht;obtain⟨q,mid,q1,q2,q3,q4⟩:=hp;have hmn:=K7 (Es d) _ _ _ _ q4;rcases Nat.lt_or_ge t mid with h|h
     ·obtain⟨nx',e1,e2⟩:=KS d pl mid q3 t ht h
      exact⟨nx',e1,by omega⟩
     ·exact ih mid _ q4 h
   obtain⟨nx',e1,e2⟩:=key _ _ _ hp (by omega);exact⟨nx',Mw d e1,e2⟩
where
 Mw:∀{s:List zg} (d:Nat) {a b:Nat},Ck s d a b→Ck s (d+1) a b
 |_,0,_,_,h=>h.elim
 |s,d+1,a,b,⟨c,h1,h2,h3,h4⟩=>⟨c,h1,h2,h3,Ms (fun x y h=>Mw d h) _ _ _ _ h4⟩
 Ms {S T:Nat→Nat→Prop} {s:List zg} (h:∀a b,S a b→T a b):∀(m pos:Nat) (names:List ByteArray) (nx:Nat),EO S s m pos names nx→EO T s m pos names nx
 |0,_,_,_,hp=>hp
 |m+1,_,_,_,⟨q,mid,q1,q2,q3,q4⟩=>⟨q,mid,q1,q2,h _ _ q3,Ms h m _ _ _ q4⟩
def Cc(s:List zg)(t:Nat):Nat:=G5 s 6 t
theorem JY{s:List zg}{d a b:Nat}(hd:d≤6)(h:Ck s d a b):Cc s a=b:=MW d h 6 hd
theorem Po{s:List zg}{d a nx:Nat}(hd:d≤6)(h:Ck s d a nx){t:Nat}(h1:a≤t)(h2:t<nx):t<Cc s t∧Cc s t≤nx:=by
 obtain⟨nx',e1,e2⟩:=KS d a nx h t h1 h2;rw[JY hd e1];exact⟨Es _ _ _ e1,e2⟩
def BG(s:List zg)(f:zg→Bool)(L:Nat):Nat→Nat→Nat
 |0,_=>0
 |n+1,t=>(match s[t]? with
  |none=>0
  |some c=>if L<Cc s t∧f c=true then 1 else 0)+BG s f L n (t+1)
def FC(s:List zg)(f:zg→Bool)(a L:Nat):Nat:=BG s f L (L+1-a) a
def Db(c:zg):Bool:=c.2.2.1 !=0
def Dc(c:zg):Bool:=c.2.2.1==2
def EF(s:List zg):Nat→Nat
 |0=>0
 |a+1=>EF s a+(match s[a]? with
  |none=>0
  |some c=>if c.2.1=7 then 0 else 1)
theorem aat{s:List zg}{a:Nat}{c:zg}(hc:s[a]?=some c)(h7:c.2.1≠7):EF s (a+1)=EF s a+1:=by
 simp only[EF,hc];rw[if_neg h7]
theorem aas{s:List zg}{a:Nat}{c:zg}(hc:s[a]?=some c)(h7:c.2.1=7):EF s (a+1)=EF s a:=by
 simp only[EF,hc];rw[if_pos h7];rfl
theorem NC:∀(post pre:List zg) (s:List zg),s=pre++post→∀(j:Nat) (x:Int),(Bw pre.length post)[j]?=some x→∃a:Nat,x=(a:Int)∧pre.length≤a∧EF s a=EF s pre.length+j∧∃c,s[a]?=some c∧c.2.1≠7
 |[],pre,s,h,j,x,hx=>by simp[Bw] at hx
 |c::post,pre,s,h,j,x,hx=>by
  have hc:s[pre.length]?=some c:=by rw[h];simp
  have ih:=NC post (pre++[c]) s (by rw[h];simp);rw[Ab,AJ] at ih;simp only[Bw] at hx;by_cases h7:c.2.1=7
  ·rw[if_pos h7] at hx
   obtain⟨a,h1,h2,h3,h4⟩:=ih j x hx;rw[aas hc h7] at h3;exact⟨a,h1,by omega,h3,h4⟩
  ·rw[if_neg h7] at hx
   cases j with
   |zero=>
    simp only[List.getElem?_cons_zero,A_] at hx;exact⟨pre.length,hx.symm,Nat.le_refl _,rfl,c,hc,h7⟩
   |succ j=>
    simp only[List.getElem?_cons_succ] at hx;obtain⟨a,h1,h2,h3,h4⟩:=ih j x hx;rw[aat hc h7] at h3;exact⟨a,h1,by omega,by omega,h4⟩
def Br(s:List zg)(L:Nat):Nat→Nat→List Int
 |0,_=>[]
 |n+1,t=>(if L<Cc s t then[(t:Int)] else[])++Br s L n (t+1)
theorem Oy(s:List zg)(L:Nat):∀(m n t:Nat),(∀u,t≤u→u<t+m→Cc s u≤L)→Br s L (m+n) t=Br s L n (t+m)
 |0,n,t,_=>by simp
 |m+1,n,t,h=>by
  have h1:=h t (Nat.le_refl _) (by omega);have:=Oy s L m n (t+1) (fun u h2 h3=>h u (by omega) (by omega));rw[show m+1+n=(m+n)+1 by omega];simp only[Br];rw[this,show t+1+m=t+(m+1) by omega,if_neg (by omega),List.nil_append]
section
variable(k:Nat)(s:List zg)(hS:I9 s)(hn:∀c,c∈s→c.1.size<k∧c.1.size<1000000000∧zM c.2.2.2.1)(hk:2000000≤k)
include hS hn hk
theorem Ld(t:Nat)(ht:t<s.length):t<Cc s t∧Cc s t≤s.length∧B_ k s (t:Int)=some (Cc s t:Int)∧zZ k s (t:Int) 1=some (Cc s t:Int):=by
 obtain⟨nx',e1,e2⟩:=KS 6 0 s.length hS.2.2.1 t (Nat.zero_le _) ht;have e3:=JY (Nat.le_refl _) e1;rw[e3];exact⟨Es _ _ _ e1,e2,aak k s hS.2.1 hn (by omega) e1 (Nat.le_refl _) e2,Pn k s hS.2.1 hn (by omega) e1 (Nat.le_refl _) e2⟩
theorem abR(L:Nat)(hL:L<s.length):Dj k s (L:Int)=some ((),Br s L (L+1) 0):=by
 have Ji:=hS.2.1;have key:∀(n t f:Nat) (o:List Int),t+n=L+1→n<f→o.length≤t→Dj.l3 k f s (L:Int) (t:Int) o=some ((),o++Br s L n t):=by
  intro n
  induction n with
  |zero=>
   intro t f o h hf ho;obtain⟨f,rfl⟩:∃q,f=q+1:=⟨f-1,by omega⟩;simp only[Dj.l3,zl (show ¬((t:Int)≤(L:Int)) by omega),y_,Br,DD]
  |succ n ih=>
   intro t f o h hf ho;obtain⟨f,rfl⟩:∃q,f=q+1:=⟨f-1,by omega⟩;obtain⟨a1,a2,a3,_⟩:=Ld k s hS hn hk t (by omega);have ht1:IntKind.wrap .i64 ((t:Int)+1)=((t+1:Nat):Int):=by rw[zh (by omega) (by omega)];omega
   simp only[Dj.l3,zi (show(t:Int)≤(L:Int) by omega),yZ,a3,yX,Dj.c4,ht1,Br];by_cases h1:L<Cc s t
   ·rw[zi (show(Cc s t:Int)>(L:Int) by omega),yZ,Bn (by simp;omega),yZ,if_pos h1,ih (t+1) f _ (by omega) (by omega) (by simp;omega)]
    simp
   ·rw[zl (show ¬(Cc s t:Int)>(L:Int) by omega),y_,if_neg h1,ih (t+1) f _ (by omega) (by omega) (by omega)]
    simp
 have:=key (L+1) 0 k [] (by omega) (by omega) (by simp);exact this
theorem N9(f1 f2:Int)(L:Nat)(hL:L<s.length):∀(n t f:Nat) (pre:List Int) (x y:Nat),t+n=L+1→n<f→x≤t→y≤t→pre.length≤t→
 Ca.l4 k f s (x:Int) (y:Int) (pre.length:Int) (pre++Br s L n t)=some (((x+BG s Db L n t:Nat):Int),((y+BG s Dc L n t:Nat):Int))∧
 BJ.l6 k f s (x:Int) (y:Int) ((pre++Br s L n t).length:Int) (pre.length:Int) (pre++Br s L n t)=some (((x+BG s Db L n t:Nat):Int),((y+BG s Dc L n t:Nat):Int)):=by
 have Ji:=hS.2.1;intro n
 induction n with
 |zero=>
  intro t f pre x y h hf hx hy hp;obtain⟨f,rfl⟩:∃q,f=q+1:=⟨f-1,by omega⟩;simp only[Ca.l4,BJ.l6,Br,DD,zl (show ¬((pre.length:Int)<(pre.length:Int)) by omega),y_,BG,Nat.add_zero];exact⟨trivial,trivial⟩
 |succ n ih=>
  intro t f pre x y h hf hx hy hp;have hc:=DF (show t<s.length by omega);generalize s[t]=c at hc;by_cases h1:L<Cc s t
  ·obtain⟨f,rfl⟩:∃q,f=q+1:=⟨f-1,by omega⟩
   have hi1:IntKind.wrap .i64 ((pre.length:Int)+1)=((pre.length+1:Nat):Int):=by rw[zh (by omega) (by omega)];omega
   have hx1:IntKind.wrap .i64 ((x:Int)+1)=((x+1:Nat):Int):=by rw[zh (by omega) (by omega)];omega
   have hy1:IntKind.wrap .i64 ((y:Int)+1)=((y+1:Nat):Int):=by rw[zh (by omega) (by omega)];omega
   simp only[Br];rw[if_pos h1,List.singleton_append];have dT:∀g:zg→Bool,g c=true→BG s g L (n+1) t=1+BG s g L n (t+1):=fun g hg=>by simp only[BG,hc];rw[if_pos ⟨h1,hg⟩]
   have dF:∀g:zg→Bool,g c=false→BG s g L (n+1) t=BG s g L n (t+1):=fun g hg=>by simp only[BG,hc];rw[if_neg (fun q=>by rw[hg] at q;cases q.2),Nat.zero_add]
   have hg:=Ai pre (Br s L n (t+1)) (t:Int);have hlt:(pre.length:Int)<((pre++(t:Int)::Br s L n (t+1)).length:Int):=by simp;omega
   simp only[Ca.l4,BJ.l6,zi hlt,yZ,hg,yX,Aq,hc,Ca.c8,BJ.c10,Ca.c5,BJ.c12,hi1,hx1,hy1];have ih':=fun x y hx hy=>ih (t+1) f (pre++[(t:Int)]) x y (by omega) (by omega) hx hy (by simp;omega);simp only[CE,List.singleton_append,Ab,AJ] at ih';simp only[Ab];by_cases ho:c.2.2.1=0
   ·have hr:¬c.2.2.1=2:=by omega
    have i1:Db c=false:=by simp[Db,ho]
    have i2:Dc c=false:=by simp[Dc,ho]
    rw[zB ho,y_,y_,zn hr,y_,y_,dF _ i1,dF _ i2];exact ih' x y (by omega) (by omega)
   ·have i1:Db c=true:=by simp[Db,ho]
    by_cases hr:c.2.2.1=2
    ·have i2:Dc c=true:=by simp[Dc,hr]
     rw[zK ho,yZ,yZ,zQ hr,yZ,yZ,dT _ i1,dT _ i2];have:=ih' (x+1) (y+1) (by omega) (by omega);rw[show x+(1+BG s Db L n (t+1))=x+1+BG s Db L n (t+1) by omega,show y+(1+BG s Dc L n (t+1))=y+1+BG s Dc L n (t+1) by omega];exact this
    ·have i2:Dc c=false:=by simp[Dc,hr]
     rw[zK ho,yZ,yZ,zn hr,y_,y_,dT _ i1,dF _ i2];have:=ih' (x+1) y (by omega) (by omega);rw[show x+(1+BG s Db L n (t+1))=x+1+BG s Db L n (t+1) by omega];exact this
  ·have e1:Br s L (n+1) t=Br s L n (t+1):=by simp only[Br];rw[if_neg h1,List.nil_append]
   have e2:∀g,BG s g L (n+1) t=BG s g L n (t+1):=fun g=>by simp only[BG,hc];rw[if_neg (fun q=>h1 q.1),Nat.zero_add]
   rw[e1,e2,e2];exact ih (t+1) f pre x y (by omega) (by omega) (by omega) (by omega) (by omega)
theorem aah(lv:List Int)(j:Int)(L:Nat)(hj:gU lv j=some (L:Int))(hL:L<s.length):∀(N n t f:Nat) (o:List Int),n≤N→t+n=L+1→n<f→o.length≤t→
 Ei.l6 k f s j (t:Int) lv o=some ((),o++Br s L n t):=by
 have Ji:=hS.2.1;intro N
 induction N with
 |zero=>
  intro n t f o hN h hf ho;obtain⟨f,rfl⟩:∃q,f=q+1:=⟨f-1,by omega⟩;have hn0:n=0:=by omega
  subst hn0;simp only[Ei.l6,hj,yX,zl (show ¬((t:Int)≤(L:Int)) by omega),y_,Br,DD]
 |succ N ih=>
  intro n t f o hN h hf ho;obtain⟨f,rfl⟩:∃q,f=q+1:=⟨f-1,by omega⟩;cases n with
  |zero=>simp only[Ei.l6,hj,yX,zl (show ¬((t:Int)≤(L:Int)) by omega),y_,Br,DD]
  |succ n=>
   obtain⟨a1,a2,_,a4⟩:=Ld k s hS hn hk t (by omega);have ht1:IntKind.wrap .i64 ((t:Int)+1)=((t+1:Nat):Int):=by rw[zh (by omega) (by omega)];omega
   simp only[Ei.l6,hj,yX,zi (show(t:Int)≤(L:Int) by omega),yZ,a4,ht1];by_cases h1:L<Cc s t
   ·rw[zi (show(Cc s t:Int)>(L:Int) by omega),yZ,Bn (by simp;omega),yZ,ih n (t+1) f _ (by omega) (by omega) (by omega) (by simp;omega)]
    simp only[Br];rw[if_pos h1];simp
   ·rw[zl (show ¬(Cc s t:Int)>(L:Int) by omega),y_]
    obtain⟨nx',e1,e2⟩:=KS 6 0 s.length hS.2.2.1 t (Nat.zero_le _) (by omega);have e3:=JY (Nat.le_refl _) e1
    have hsk:=Oy s L (Cc s t-t) (n+1-(Cc s t-t)) t (fun u u1 u2=>by
     have:=(Po (Nat.le_refl _) e1 u1 (by omega)).2;omega)
    rw[show Cc s t-t+(n+1-(Cc s t-t))=n+1 by omega,show t+(Cc s t-t)=Cc s t by omega] at hsk;rw[hsk];exact ih _ _ f o (by omega) (by omega) (by omega) (by omega)
theorem aap(hok:Gl k s=some true)(hok2:F6 k s=some true)(j:Int):
 (∃L c,gU (Bw 0 s) j=some ((L:Nat):Int)∧0≤j∧j<((Bw 0 s).length:Int)∧1≤L∧s[L]?=some c∧c.2.1≠7∧j=(EF s L:Int)∧
  BJ k s j=some ((FC s Db 1 L:Int),(FC s Dc 1 L:Int))∧Ca k s (L:Int)=some ((FC s Db 1 L:Int),(FC s Dc 1 L:Int)))∨
 (¬(0≤j∧j<((Bw 0 s).length:Int))∧BJ k s j=some (-1,-1)):=by
 obtain⟨v1,v2⟩:=KA k (by omega) s (by have:=hS.2.1;omega);have Ji:=hS.2.1;have hll:=Kz 0 s;obtain⟨c0,hc0,Z7,_⟩:=abu hS;have wN:c0.2.2.1=0:=by
  obtain⟨_,_,_,c,e1,_,e2,_⟩:=hS;rw[hc0] at e1;cases e1;exact e2
 unfold BJ Ei Jk;rw[hok2];simp only[yX,yZ,y_,zq,v1,v2,AV,Ay];generalize hlv:Bw 0 s=lv at hll;rw[zh (show -9223372036854775808≤(lv.length:Int)-1 by omega) (by omega)];by_cases hin:0≤j∧j<(lv.length:Int)
 ·left
  have hw:(decide (0≤j)&&decide (j≤(lv.length:Int)-1))=true:=by simp;omega
  obtain⟨n,rfl⟩:=Int.eq_ofNat_of_zero_le hin.1;have hnl:n<lv.length:=by omega
  obtain⟨L,e1,e2,e3,c,e4,e5⟩:=NC s [] s rfl n _ (by rw[show([]:List zg).length=0 from rfl,hlv];exact DF hnl);have hg:gU lv (n:Int)=some (L:Int):=by rw[Aq,DF hnl,e1]
  have e3:EF s L=0+n:=e3;have hL:L<s.length:=(List.getElem?_eq_some_iff.1 e4).1;have hL1:1≤L:=by
   rcases Nat.eq_zero_or_pos L with h|h
   ·subst h
    rw[hc0] at e4;cases e4;exact absurd Z7 e5
   ·exact h
  have ac2:L<Cc s 0:=by rw[JY (Nat.le_refl _) hS.2.2.1];exact hL
  have hz:∀g:zg→Bool,g c0=false→BG s g L (L+1) 0=FC s g 1 L:=fun g hg=>by
   simp only[BG,hc0];rw[if_neg (fun q=>by rw[hg] at q;cases q.2),Nat.zero_add];unfold FC;rw[show L+1-1=L by omega]
  have z1:=hz Db (by simp[Db,wN]);have z2:=hz Dc (by simp[Dc,wN]);have hmx:Ca k s (L:Int)=some ((FC s Db 1 L:Int),(FC s Dc 1 L:Int)):=by
   have h1:=(N9 k s hS hn hk 0 0 L hL (L+1) 0 k [] 0 0 (by omega) (by omega) (by omega) (by omega) (by simp)).1;rw[z1,z2,Nat.zero_add,Nat.zero_add] at h1;unfold Ca;rw[abR k s hS hn hk L hL];exact h1
  refine⟨L,c,hg,hin.1,hin.2,hL1,e4,e5,by omega,?_,hmx⟩
  ·rw[hw]
   simp only[zq,y_];have h1:=aah k s hS hn hk lv (n:Int) L hg hL L L 1 k [] (Nat.le_refl _) (by omega) (by omega) (by simp);have h1:Ei.l6 k k s (n:Int) 1 lv []=some ((),Br s L L 1):=h1;rw[h1];simp only[yX];have h2:=(N9 k s hS hn hk 0 0 L hL L 1 k [] 0 0 (by omega) (by omega) (by omega) (by omega) (by simp)).2;have hne:((Br s L L 1).length:Int)≠0:=by
    have:∀n t,t+n=L+1→0<n→0<(Br s L n t).length:=by
     intro n
     induction n with
     |zero=>intro t _ h;omega
     |succ n ih=>
      intro t h _;simp only[Br,Ab];rcases Nat.eq_zero_or_pos n with h0|h0
      ·subst h0
       have:t=L:=by omega
       subst this;rw[if_pos (Ld k s hS hn hk t hL).1,AJ];omega
      ·have:=ih (t+1) (by omega) h0;omega
    have:=this L 1 (by omega) (by omega);omega
   rw[zn hne,y_];have h2:BJ.l6 k k s 0 0 ((Br s L L 1).length:Int) 0 (Br s L L 1)=some (((0+BG s Db L L 1:Nat):Int),((0+BG s Dc L L 1:Nat):Int)):=h2;rw[h2,Nat.zero_add,Nat.zero_add];unfold FC;rw[show L+1-1=L by omega]
 ·right
  have hw:(decide (0≤j)&&decide (j≤(lv.length:Int)-1))=false:=by
   rw[Bool.eq_false_iff];intro h;simp only[Aa,Ae] at h;omega
  rw[hw];exact⟨hin,rfl⟩
end
section
variable(k:Nat)(s:List zg)(hn:∀c,c∈s→c.1.size<k∧c.1.size<1000000000∧zM c.2.2.2.1)(hk:2000000≤k)
variable(hS:I9 s)(hok:Gl k s=some true)(hok2:F6 k s=some true)
include hn hk hS hok hok2
theorem aaq(j:Int):∃l b,KM k s j=some (l,b)∧Kj k s j=some (l,b)∧
 (b=true→∃L c,gU (Bw 0 s) j=some ((L:Nat):Int)∧s[L]?=some c∧c.2.1≠7∧j=(EF s L:Int)∧l=(c.2.1,(FC s Dc 1 L:Int),(FC s Db 1 L:Int),())):=by
 obtain⟨v1,v2⟩:=KA k (by omega) s (by have:=hS.2.1;omega);have hll:=Kz 0 s;have Ji:=hS.2.1;have hlm:=aap k s hS hn hk hok hok2 j;unfold KM Kj IV Jk;rw[hok,hok2];simp only[yX,zq,y_,v1,v2,AV,Ay];generalize hlv:Bw 0 s=lv at hll hlm;rw[zh (show -9223372036854775808≤(lv.length:Int)-1 by omega) (by omega)];rcases hlm with⟨L,c,hg,h0,h1,_,hc,h7,hj,m2,m3⟩|⟨hin,_⟩
 ·have hw:(decide (0≤j)&&decide (j≤(lv.length:Int)-1))=true:=by simp;omega
  rw[hw];simp only[zq,y_,hg,yX,m2,m3,Aq,hc];exact⟨_,_,rfl,rfl,fun _=>⟨L,c,rfl,hc,h7,hj,rfl⟩⟩
 ·have hw:(decide (0≤j)&&decide (j≤(lv.length:Int)-1))=false:=by
   rw[Bool.eq_false_iff];intro h;simp only[Aa,Ae] at h;omega
  rw[hw];exact⟨_,_,rfl,rfl,fun h=>by cases h⟩
end
def KI(y:zo)(K:AA)(p:Int):zo:=(y.1,y.2.1++[K],y.2.2.1++[p],())
def Er(j i:Nat)(out:List zo):Prop:=∀a x,out[a]?=some x→x.2.1.length=(if a<i then j+1 else j)∧x.2.2.1.length=(if a<i then j+1 else j)
theorem abo{α:Type}{l:List α}{i:Nat}{x:α}(h:i<l.length):gU (List.set l (Int.toNat (i:Int)) x) (i:Int)=some x:=by
 rw[Aq,Int.toNat_natCast,List.getElem?_set_self h]
theorem Er.put{j i:Nat}{out:List zo}(h:Er j i out){y:zo}(hy:out[i]?=some y)(K:AA)(p:Int):Er j (i+1) (List.set out i (KI y K p)):=by
 intro a x hx;have hi:=(List.getElem?_eq_some_iff.1 hy).1;by_cases ha:a=i
 ·subst ha
  rw[List.getElem?_set_self hi,A_] at hx;subst hx;obtain⟨h1,h2⟩:=h a y hy;rw[if_neg (by omega)] at h1 h2;rw[if_pos (by omega)];simp only[KI,Ab,AJ];omega
 ·rw[List.getElem?_set_ne (by omega)] at hx
  obtain⟨h1,h2⟩:=h a x hx;rw[h1,h2];by_cases h3:a<i
  ·rw[if_pos h3,if_pos (by omega)];exact⟨rfl,rfl⟩
  ·rw[if_neg h3,if_neg (by omega)];exact⟨rfl,rfl⟩
section
variable(k:Nat)(hk:2000000≤k)(lf:zD)(b:List Int)(hl:b.length≤1048576)(hb:Av b)
include hk hl hb
theorem aa1(ck:zP)(F5:List ze):∀(n:Nat) (at_ many:Int) (o:List Int) (P:List Int) (V:List ze),(∀p,p∈o→∃h,AY k lf b p=some (h,0))→
 Cq.Aj k n b at_ many lf ck [] [] F5 o=some (((),(),0),(P,V))→∀p,p∈P→∃h,AY k lf b p=some (h,0):=by
 intro n
 induction n with
 |zero=>intro at_ many o P V _ h;cases h
 |succ n ih=>
  intro at_ many o P V ho h;simp only[Cq.Aj] at h;replace h:=cnd h;rcases h with⟨_,h⟩|⟨_,h⟩
  ·replace h:=bnd h;obtain⟨⟨hd,c⟩,e,h⟩:=h
   replace h:=cnd h;rcases h with⟨hc,h⟩|⟨hc,h⟩
   ·simp only[A_,Prod.mk.injEq] at h
    obtain⟨⟨_,_,rfl⟩,_⟩:=h;simp at hc
   ·have hc:c=0:=by simpa using hc
    subst hc;simp only[cst,yX] at h;replace h:=cnd h;rcases h with⟨_,h⟩|⟨_,h⟩
    ·cases h
    ·replace h:=cnd h;rcases h with⟨_,h⟩|⟨_,h⟩
     ·refine ih _ _ _ _ _ (fun p hp=> ?_) h
      rcases List.mem_append.1 hp with hp|hp
      ·exact ho p hp
      ·simp only[List.mem_singleton] at hp
       subst hp;exact⟨hd,e⟩
     ·cases h
  ·simp only[A_,Prod.mk.injEq] at h
   obtain⟨_,rfl,_⟩:=h;exact ho
theorem Pf(ck:zP){P:List Int}{V:List ze}(h:Cq k lf b ck=some (((),(),0),(P,V))):∀p,p∈P→∃h,AY k lf b p=some (h,0):=by
 have fin:∀F5,Cq.Aj k k b ck.2.1 0 lf ck [] [] F5 []=some (((),(),0),(P,V))→∀p,p∈P→∃h,AY k lf b p=some (h,0):=
  fun F5 h=>aa1 k hk lf b hl hb ck F5 k ck.2.1 0 [] P V (fun p hp=>by cases hp) h
 unfold Cq Cq.c10 at h;replace h:=bnd h;obtain⟨b1,_,h⟩:=h;replace h:=cnd h;rcases h with⟨_,h⟩|⟨_,h⟩
 ·cases h
 replace h:=cnd h;rcases h with⟨_,h⟩|⟨_,h⟩
 ·replace h:=bnd h;obtain⟨r,_,h⟩:=h
  replace h:=cnd h;rcases h with⟨hc,h⟩|⟨_,h⟩
  ·simp only[A_,Prod.mk.injEq] at h
   obtain⟨⟨_,_,h⟩,_⟩:=h;rw[h] at hc;simp at hc
  ·exact fin _ h
 ·exact fin _ h
theorem abC(L6:(List Int)→Int→zY→(List zo)→(List zo)→zF→Option ((Unit×Bool)×(List zo)))(m:zY)(g:zF)(j:Nat)(hj:j≤1000000)(P:List Int)(hP:P.length≤1048576)(hh:∀p,p∈P→∃h,AY k lf b p=some (h,0)):
 ∀(post pre:List Int) (n n':Nat) (out:List zo),P=pre++post→post.length<n→post.length<n'→Er j pre.length out→(j=0→out.length=pre.length)→(j≠0→out.length=P.length)→
 (Ad.l4 k n b ((j:Int)==0) P (P.length:Int) (pre.length:Int) out lf=some (((),false),[])∧zy.Aj k L6 n' b (j:Int) (pre.length:Int) m out [] g lf P=some (((),false),[]))∨
 ∃out',Ad.l4 k n b ((j:Int)==0) P (P.length:Int) (pre.length:Int) out lf=some (((),true),out')∧zy.Aj k L6 n' b (j:Int) (pre.length:Int) m out [] g lf P=L6 b (IntKind.wrap .i64 ((j:Int)+1)) m out' [] g∧Er j P.length out'∧out'.length=P.length:=by
 intro post
 induction post with
 |nil=>
  intro pre n n' out h hn hn' hs h0 h1;obtain⟨n,rfl⟩:∃q,n=q+1:=⟨n-1,by omega⟩;obtain⟨n',rfl⟩:∃q,n'=q+1:=⟨n'-1,by omega⟩;rw[DD] at h;subst h;right;simp only[Ad.l4,zy.Aj,zl (show ¬((P.length:Int)<(P.length:Int)) by omega),y_];refine⟨out,rfl,rfl,hs,?_⟩;by_cases hz:j=0
  ·exact h0 hz
  ·exact h1 hz
 |cons p post ih=>
  intro pre n n' out h hn hn' hs h0 h1;simp only[A9] at hn hn';obtain⟨n,rfl⟩:∃q,n=q+1:=⟨n-1,by omega⟩;obtain⟨n',rfl⟩:∃q,n'=q+1:=⟨n'-1,by omega⟩;have hlen:P.length=pre.length+(post.length+1):=by rw[h];simp
  have hg:gU P (pre.length:Int)=some p:=by rw[h];exact Ai _ _ _
  have hi1:IntKind.wrap .i64 ((pre.length:Int)+1)=((pre.length+1:Nat):Int):=by rw[zh (by omega) (by omega)];omega
  obtain⟨hd,e⟩:=hh p (by rw[h];simp);obtain⟨⟨hd',c'⟩,e1,e2,e3,_⟩:=J_ k hk lf b (by omega) hb p;rw[e,A_,Prod.mk.injEq] at e2;obtain⟨rfl,rfl⟩:=e2;obtain⟨_,_,_,_,f5,_,_,_⟩:=e3 rfl;have f5:0≤hd.2.2.1:=f5;have hz:=(aaa e).2
  have main:∀(out:List zo) (R:Int),0≤R→Er j pre.length out→pre.length<out.length→(j=0→out.length=pre.length+1)→(j≠0→out.length=P.length)→
   (Ad.c12 k (Ad.l4 k n) b ((j:Int)==0) (pre.length:Int) p R P (P.length:Int) (pre.length:Int) out lf hd=some (((),false),[])∧zy.c19 k (zy.Aj k L6 n') b (j:Int) (pre.length:Int) R m out [] g lf P hd=some (((),false),[]))∨
   ∃out',Ad.c12 k (Ad.l4 k n) b ((j:Int)==0) (pre.length:Int) p R P (P.length:Int) (pre.length:Int) out lf hd=some (((),true),out')∧zy.c19 k (zy.Aj k L6 n') b (j:Int) (pre.length:Int) R m out [] g lf P hd=L6 b (IntKind.wrap .i64 ((j:Int)+1)) m out' [] g∧Er j P.length out'∧out'.length=P.length:=by
   intro out R hR hs hlo h0 h1;have hy:=DF hlo;generalize out[pre.length]=y at hy;have Nr:gU out (pre.length:Int)=some y:=by rw[Aq];exact hy
   obtain⟨l1,l2⟩:=hs _ _ hy;rw[if_neg (by omega)] at l1 l2
   have fin:∀K:AA,
    (Ad.c17 k (Ad.l4 k n) b ((j:Int)==0) (pre.length:Int) p P (P.length:Int) (pre.length:Int) out lf K=some (((),false),[])∧zy.c24 k (zy.Aj k L6 n') b (j:Int) (pre.length:Int) m out [] g lf P K=some (((),false),[]))∨
    ∃out',Ad.c17 k (Ad.l4 k n) b ((j:Int)==0) (pre.length:Int) p P (P.length:Int) (pre.length:Int) out lf K=some (((),true),out')∧zy.c24 k (zy.Aj k L6 n') b (j:Int) (pre.length:Int) m out [] g lf P K=L6 b (IntKind.wrap .i64 ((j:Int)+1)) m out' [] g∧Er j P.length out'∧out'.length=P.length:=by
    intro K;have hset:List.set (List.set out (Int.toNat (pre.length:Int)) (y.1,y.2.1++[K],y.2.2.1,())) (Int.toNat (pre.length:Int)) (y.1,y.2.1++[K],y.2.2.1++[p],())=List.set out pre.length (KI y K p):=by
     rw[List.set_set,Int.toNat_natCast];rfl
    have hs1:∀z:zo,gU (List.set out (Int.toNat (pre.length:Int)) z) (pre.length:Int)=some z:=fun z=>abo hlo;unfold Ad.c17 zy.c24;simp only[Nr,yX,hg,hs1,beq_self_eq_true,yZ,Bn (show y.2.1.length+[K].length≤4294967296 by simp;omega),Bn (show y.2.2.1.length+[p].length≤4294967296 by simp;omega),hset,hi1];have:=ih (pre++[p]) n n' (List.set out pre.length (KI y K p)) (by rw[h];simp) (by omega) (by omega) (by rw[Ab,AJ];exact hs.put hy K p) (by intro hz;rw[List.length_set,Ab,AJ];exact h0 hz) (by intro hz;rw[List.length_set];exact h1 hz);rw[Ab,AJ] at this;exact this
   unfold Ad.c12 zy.c19;simp only[Nr,yX,zl (show ¬R<0 by omega),y_];by_cases hr:y.1=R
   ·simp only[zB hr,y_]
    cases hd.2.2.2.2.2.2.2.2.2.2.1 with
    |false=>simp only[y_,yX];exact fin _
    |true=>
     simp only[yZ,yX];cases(lf.2.1==0) with
     |false=>simp only[y_];exact fin _
     |true=>simp only[yZ];exact fin _
   ·simp only[zK hr,yZ]
    exact .inl ⟨by first|trivial|rfl,by first|trivial|rfl⟩
  have go:∀R:Int,0≤R→
   (cond ((j:Int)==0) (cond (lim (out.length+([(R,[],[],())]:List zo).length)) (Ad.c12 k (Ad.l4 k n) b ((j:Int)==0) (pre.length:Int) p R P (P.length:Int) (pre.length:Int) (out++[(R,[],[],())]) lf hd) none) (Ad.c12 k (Ad.l4 k n) b ((j:Int)==0) (pre.length:Int) p R P (P.length:Int) (pre.length:Int) out lf hd)=some (((),false),[])∧
    cond ((j:Int)==0) (cond (lim (out.length+([(R,[],[],())]:List zo).length)) (zy.c19 k (zy.Aj k L6 n') b (j:Int) (pre.length:Int) R m (out++[(R,[],[],())]) [] g lf P hd) none) (zy.c19 k (zy.Aj k L6 n') b (j:Int) (pre.length:Int) R m out [] g lf P hd)=some (((),false),[]))∨
   ∃out',cond ((j:Int)==0) (cond (lim (out.length+([(R,[],[],())]:List zo).length)) (Ad.c12 k (Ad.l4 k n) b ((j:Int)==0) (pre.length:Int) p R P (P.length:Int) (pre.length:Int) (out++[(R,[],[],())]) lf hd) none) (Ad.c12 k (Ad.l4 k n) b ((j:Int)==0) (pre.length:Int) p R P (P.length:Int) (pre.length:Int) out lf hd)=some (((),true),out')∧
    cond ((j:Int)==0) (cond (lim (out.length+([(R,[],[],())]:List zo).length)) (zy.c19 k (zy.Aj k L6 n') b (j:Int) (pre.length:Int) R m (out++[(R,[],[],())]) [] g lf P hd) none) (zy.c19 k (zy.Aj k L6 n') b (j:Int) (pre.length:Int) R m out [] g lf P hd)=L6 b (IntKind.wrap .i64 ((j:Int)+1)) m out' [] g∧Er j P.length out'∧out'.length=P.length:=by
   intro R hR;by_cases hj0:j=0
   ·have ho:=h0 hj0
    rw[zQ (show(j:Int)=0 by omega)];simp only[yZ,Bn (show out.length+([(R,[],[],())]:List zo).length≤4294967296 by simp;omega)];have hs':Er j pre.length (out++[(R,[],[],())]):=by
     intro a x hx;by_cases ha:a<out.length
     ·rw[List.getElem?_append_left ha] at hx
      exact hs a x hx
     ·rw[List.getElem?_append_right (by omega)] at hx
      have h2:a-out.length=0:=by
       have:=(List.getElem?_eq_some_iff.1 hx).1;simp at this;omega
      rw[h2] at hx;simp only[List.getElem?_cons_zero,A_] at hx;subst hx;rw[if_neg (by omega)];exact⟨by simp[hj0],by simp[hj0]⟩
    have:=main (out++[(R,[],[],())]) R hR hs' (by simp;omega) (fun _=>by simp;omega) (fun h=>absurd hj0 h);rw[zQ (show(j:Int)=0 by omega)] at this;exact this
   ·have ho:=h1 hj0
    rw[zn (show ¬(j:Int)=0 by omega)];simp only[y_];have:=main out R hR hs (by omega) (fun h=>absurd h hj0) h1;rw[zn (show ¬(j:Int)=0 by omega)] at this;exact this
  simp only[Ad.l4,zy.Aj,zy.d15,zi (show(pre.length:Int)<(P.length:Int) by omega),yZ,hg,yX,e1,e,Lv,LY];by_cases h3:hd.1=3
  ·have:=(hz h3).1
   simp only[zQ h3,yZ,yX,zB rfl,y_,zq];exact go _ this
  ·simp only[zn h3,y_]
   cases hr0:(lf.2.1==0) with
   |true=>
    simp only[yZ,yX,zB rfl,y_,zq];exact go _ f5
   |false=>
    simp only[y_,yX,zB rfl,zO,yZ];left;refine⟨by first|trivial|rfl,?_⟩;have hneg:∀o:List zo,zy.c19 k (zy.Aj k L6 n') b (j:Int) (pre.length:Int) (-1) m o [] g lf P hd=some (((),false),[]):=by
     intro o;unfold zy.c19;simp only[show decide ((-1:Int)<0)=true from rfl,yZ,yX]
    by_cases hj0:j=0
    ·have ho:=h0 hj0
     rw[zQ (show(j:Int)=0 by omega),yZ,Bn (show out.length+([((-1),[],[],())]:List zo).length≤4294967296 by simp;omega),yZ];exact hneg _
    ·rw[zn (show ¬(j:Int)=0 by omega),y_]
     exact hneg _
end
theorem abQ(k:Nat)(g:zF)(t2:Int)(m:zY)(hg:gU m.2.2.1 t2=some g)(out:List zo)(hO:out.length≤1048576):∀(post pre:List zo) (n n':Nat) (t:Int),out=pre++post→post.length<n→post.length<n'→
 ∃r,Cw.IA k n t2 t (out.length:Int) (pre.length:Int) m out=some r∧zy.IE k n' t (pre.length:Int) out [] g=some r∧(r.2=out∨r.2=[]):=by
 intro post
 induction post with
 |nil=>
  intro pre n n' t h hn hn';obtain⟨n,rfl⟩:∃q,n=q+1:=⟨n-1,by omega⟩;obtain⟨n',rfl⟩:∃q,n'=q+1:=⟨n'-1,by omega⟩;rw[DD] at h;subst h;simp only[Cw.IA,zy.IE,zl (show ¬((out.length:Int)<(out.length:Int)) by omega),y_,hg,yX];cases(t !=g.1) with
  |true=>exact⟨_,rfl,rfl,.inr rfl⟩
  |false=>exact⟨_,rfl,rfl,.inl rfl⟩
 |cons y post ih=>
  intro pre n n' t h hn hn';simp only[A9] at hn hn';obtain⟨n,rfl⟩:∃q,n=q+1:=⟨n-1,by omega⟩;obtain⟨n',rfl⟩:∃q,n'=q+1:=⟨n'-1,by omega⟩;have hlen:out.length=pre.length+(post.length+1):=by rw[h];simp
  have hy:gU out (pre.length:Int)=some y:=by rw[h];exact Ai _ _ _
  have hi1:IntKind.wrap .i64 ((pre.length:Int)+1)=((pre.length+1:Nat):Int):=by rw[zh (by omega) (by omega)];omega
  simp only[Cw.IA,zy.IE,zi (show(pre.length:Int)<(out.length:Int) by omega),yZ,hy,yX,hi1];have:=ih (pre++[y]) n n' (IntKind.wrap .i64 (t+y.1)) (by rw[h];simp) (by omega) (by omega);rw[Ab,AJ] at this;exact this
section
variable(k:Nat)(hk:2000000≤k)(b:List Int)(hl:b.length≤1048576)(hb:Av b)
variable(s:List zg)(hn:∀c,c∈s→c.1.size<k∧c.1.size<1000000000∧zM c.2.2.2.1)
variable(hS:I9 s)(hok:Gl k s=some true)(hok2:F6 k s=some true)
include hk hl hb hn hS hok hok2
theorem abO(rows:Int)(G:List zF)(g:zF)(t2:Int)(hg:gU G t2=some g)(hgl:g.2.1.length≤1000):∀(post pre:List zP) (n n':Nat) (out:List zo),g.2.1=pre++post→post.length<n→post.length<n'→Er pre.length 0 out→(pre.length=0→out.length=0)→out.length≤1048576→
 ∃r,Cw.l5 k n b t2 g.2.1 (g.2.1.length:Int) (pre.length:Int) (s,rows,G,()) out=some r∧zy.l6 k n' b (pre.length:Int) (s,rows,G,()) out [] g=some r∧
  r.2.length≤1048576∧∀x,x∈r.2→x.2.1.length≤1000∧x.2.2.1.length≤1000:=by
 intro post
 induction post with
 |nil=>
  intro pre n n' out h hn1 hn' hs h0 hO;obtain⟨n,rfl⟩:∃q,n=q+1:=⟨n-1,by omega⟩;obtain⟨n',rfl⟩:∃q,n'=q+1:=⟨n'-1,by omega⟩;rw[DD] at h;simp only[Cw.l5,zy.l6,h,zl (show ¬((pre.length:Int)<(pre.length:Int)) by omega),y_];obtain⟨r,r1,r2,r3⟩:=abQ k g t2 (s,rows,G,()) hg out hO out [] k k 0 rfl (by omega) (by omega);refine⟨r,r1,r2,?_,?_⟩
  ·rcases r3 with r3|r3
   ·rw[r3];exact hO
   ·rw[r3];simp
  ·intro x hx
   rcases r3 with r3|r3
   ·rw[r3] at hx
    obtain⟨a,ha⟩:=List.getElem?_of_mem hx;obtain⟨q1,q2⟩:=hs a x ha;rw[if_neg (by omega)] at q1 q2;rw[h] at hgl;omega
   ·rw[r3] at hx;cases hx
 |cons ck post ih=>
  intro pre n n' out h hn1 hn' hs h0 hO;simp only[A9] at hn1 hn';obtain⟨n,rfl⟩:∃q,n=q+1:=⟨n-1,by omega⟩;obtain⟨n',rfl⟩:∃q,n'=q+1:=⟨n'-1,by omega⟩;have hlen:g.2.1.length=pre.length+(post.length+1):=by rw[h];simp
  have hgk:gU g.2.1 (pre.length:Int)=some ck:=by rw[h];exact Ai _ _ _
  have hi1:IntKind.wrap .i64 ((pre.length:Int)+1)=((pre.length+1:Nat):Int):=by rw[zh (by omega) (by omega)];omega
  obtain⟨l,bb,l1,l2,_⟩:=aaq k s hn hk hS hok hok2 (pre.length:Int);obtain⟨c,P,V,p1,p2,p3,_⟩:=Pe k hk l ck b hl hb
  have bad:∃r:(Unit×Bool)×List zo,some (((),false),([]:List zo))=some r∧some (((),false),([]:List zo))=some r∧r.2.length≤1048576∧∀x,x∈r.2→x.2.1.length≤1000∧x.2.2.1.length≤1000:=
   ⟨_,rfl,rfl,by simp,fun x hx=>by cases hx⟩
  simp only[Cw.l5,zy.l6,zy.d9,zi (show(pre.length:Int)<(g.2.1.length:Int) by omega),yZ,hgk,l1,l2,p1,p2,yX];by_cases hc:c=0
  ·subst hc
   have hh:=Pf k hk l b hl hb ck p2;simp only[zB rfl,y_,Ad]
   have go:(pre.length≠0→out.length=P.length)→
    ∃r,((Ad.l4 k k b ((pre.length:Int)==0) P (P.length:Int) 0 out l).bind fun r6=>cond (!r6.1.2) (some (((),false),[])) ((Cw.l5 k n) b t2 g.2.1 (g.2.1.length:Int) (IntKind.wrap .i64 ((pre.length:Int)+1)) (s,rows,G,()) r6.2))=some r∧
     zy.Aj k (zy.l6 k n') k b (pre.length:Int) 0 (s,rows,G,()) out [] g l P=some r∧r.2.length≤1048576∧∀x,x∈r.2→x.2.1.length≤1000∧x.2.2.1.length≤1000:=by
    intro h1;rcases abC k hk l b hl hb (zy.l6 k n') (s,rows,G,()) g pre.length (by omega) P p3 hh P [] k k out rfl (by omega) (by omega) hs h0 h1 with⟨q1,q2⟩|⟨out',q1,q2,q3,q4⟩
    ·have q1:Ad.l4 k k b ((pre.length:Int)==0) P (P.length:Int) 0 out l=some (((),false),[]):=q1
     have q2:zy.Aj k (zy.l6 k n') k b (pre.length:Int) 0 (s,rows,G,()) out [] g l P=some (((),false),[]):=q2;rw[q1,q2];exact bad
    ·have q1:Ad.l4 k k b ((pre.length:Int)==0) P (P.length:Int) 0 out l=some (((),true),out'):=q1
     have q2:zy.Aj k (zy.l6 k n') k b (pre.length:Int) 0 (s,rows,G,()) out [] g l P=_:=q2;rw[q1,q2];simp only[yX,zq,y_,hi1];have hs':Er (pre.length+1) 0 out':=by
      intro a x hx;obtain⟨u1,u2⟩:=q3 a x hx;have:=(List.getElem?_eq_some_iff.1 hx).1;rw[if_pos (by omega)] at u1 u2;rw[if_neg (by omega)];exact⟨u1,u2⟩
     have:=ih (pre++[ck]) n n' out' (by rw[h];simp) (by omega) (by omega) (by rw[Ab,AJ];exact hs') (by intro hz;simp at hz) (by omega);rw[Ab,AJ] at this;exact this
   by_cases hj0:pre.length=0
   ·rw[zQ (show(pre.length:Int)=0 by omega),zl (show ¬(pre.length:Int)>0 by omega)]
    rw[zQ (show(pre.length:Int)=0 by omega)] at go;simp only[zq,y_,yX];exact go (fun h=>absurd hj0 h)
   ·rw[zn (show ¬(pre.length:Int)=0 by omega),zi (show(pre.length:Int)>0 by omega)]
    rw[zn (show ¬(pre.length:Int)=0 by omega)] at go;simp only[zO,yZ,yX];by_cases hpl:(P.length:Int)=(out.length:Int)
    ·simp only[zB hpl,y_]
     exact go (fun _=>by omega)
    ·simp only[zK hpl,yZ,yX,zO]
     exact bad
  ·simp only[zK hc,yZ,yX]
   exact bad
end
theorem abP(k:Nat)(hk:2000000≤k)(b:List Int)(hl:b.length≤1048576)(hb:Av b)(s:List zg)(hn:∀c,c∈s→c.1.size<k∧c.1.size<1000000000∧zM c.2.2.2.1)(rows:Int)(G:List zF)(hfit:Fit k G)(hG:G.length≤1048576)(t2:Int):
 ∃r,Cw k b (s,rows,G,()) t2=some r∧zy k b (s,rows,G,()) t2=some r∧r.2.length≤1048576∧∀x,x∈r.2→x.2.1.length≤1000∧x.2.2.1.length≤1000:=by
 have bad:∃r:(Unit×Bool)×List zo,some (((),false),([]:List zo))=some r∧some (((),false),([]:List zo))=some r∧r.2.length≤1048576∧∀x,x∈r.2→x.2.1.length≤1000∧x.2.2.1.length≤1000:=
  ⟨_,rfl,rfl,by simp,fun x hx=>by cases hx⟩
 unfold Cw zy;obtain⟨b0,o1,o2,o3⟩:=abt k (by omega) s hn;cases b0 with
 |false=>
  have m1:Co k (s,rows,G,())=some false:=by
   unfold Co IV;simp only[o1,yX,zO,yZ]
  have m2:Bc k (s,rows,G,())=some false:=by
   unfold Bc;simp only[o2,yX,zO,yZ]
  simp only[m1,m2,yX,zO,yZ];exact bad
 |true=>
  obtain⟨hS,_⟩:=o3 rfl;have Ji:=hS.2.1;obtain⟨b1,m1,m2,m3⟩:=aaH k (by omega) s o1 o2 (by omega) rows G hfit;simp only[m1,m2,yX];cases b1 with
  |false=>
   simp only[zO,yZ,yX];exact bad
  |true=>
   obtain⟨g1,_,_,g4⟩:=m3 rfl;simp only[zq,y_,AV,Ay,yX];rw[zh (show -9223372036854775808≤(G.length:Int)-1 by omega) (by omega)];by_cases hin:0≤t2∧t2≤(G.length:Int)-1
   ·obtain⟨g,hg,hg'⟩:=GH (xs:=G) (i:=t2) hin.1 (by omega)
    have hgm:=List.mem_of_getElem? hg';have hgl:=(g4 g hgm).1;have hlv:=Kz 0 s;simp only[zi hin.1,zi hin.2,Bool.and_self,zq,y_,hg,yX];exact abO k hk b hl hb s hn hS o1 o2 rows G g t2 hg (by omega) g.2.1 [] k k [] rfl (by omega) (by omega) (fun a x hx=>by simp at hx) (fun _=>rfl) (by simp)
   ·have:(decide (0≤t2)&&decide (t2≤(G.length:Int)-1))=false:=by
     rw[Bool.eq_false_iff];intro h;simp only[Aa,Ae] at h;exact hin h
    rw[this];simp only[zO,yZ];exact bad
end Go.zJ
end
section
namespace Go.zJ
open Go.Am Go.Fn
variable(k:Nat)
theorem w1{x:Int}{c:Int}(h:zM x)(hc:0≤c)(hb:x+c<9223372036854775808):IntKind.wrap .i64 (x+c)=x+c:=zh (by have:=h.1;omega) hb
theorem aaF:∀(f n:Nat) (t:Int) (acc:ByteArray),t<10^f→f<n→acc.size+f≤1000→t<9223372036854775808→∃s,CV.l4 k n t acc=some s∧s.size≤1001:=by
 intro f
 induction f with
 |zero=>
  intro n t acc ht hn ha h64;obtain⟨n,rfl⟩:∃j,n=j+1:=⟨n-1,by omega⟩;have ht:t<1:=by simpa using ht
  simp only[CV.l4,zl (show ¬t>0 by omega),y_];rw[Bn (by show 1+acc.size≤_;omega),yZ];exact⟨_,rfl,by rw[ByteArray.size_append];show 1+acc.size≤_;omega⟩
 |succ f ih=>
  intro n t acc ht hn ha h64;obtain⟨n,rfl⟩:∃j,n=j+1:=⟨n-1,by omega⟩;by_cases h:t>0
  ·simp only[CV.l4,zi h,yZ]
   rw[Bn (by rw[Ho];simp;omega),yZ,Int.tdiv_eq_ediv_of_nonneg (by omega),zh (show -9223372036854775808≤t/10 by omega) (by omega)];refine ih n (t/10) _ ?_ (by omega) (by rw[ByteArray.size_append,Ho];simp;omega) (by omega);have hp:(10:Int)^(f+1)=10^f*10:=Int.pow_succ 10 f;omega
  ·simp only[CV.l4,zl h,y_]
   rw[Bn (by show 1+acc.size≤_;omega),yZ];exact⟨_,rfl,by rw[ByteArray.size_append];show 1+acc.size≤_;omega⟩
theorem aaG(hk:100≤k)(t:Int)(h:t<9223372036854775808):∃s,CV k t=some s:=by
 unfold CV;by_cases h0:t≤0
 ·simp only[zi h0,yZ]
  exact⟨_,rfl⟩
 ·simp only[zl h0,y_]
  obtain⟨s,hs,_⟩:=aaF k 19 k t ⟨#[]⟩ (by omega) (by omega) (by decide) h;exact⟨s,hs⟩
def Jt(t:Int):ByteArray:=(CV k t).getD ⟨#[]⟩
theorem Ju(hk:100≤k)(t:Int)(h:t<9223372036854775808):CV k t=some (Jt k t):=by
 obtain⟨s,hs⟩:=aaG k hk t h;unfold Jt;rw[hs];rfl
end Go.zJ
end
section
namespace Go.zJ
open Go.Am Go.Fn
def zu{α:Type}(f:α→Nat):List α→Nat
 |[]=>0
 |x::r=>f x+zu f r
theorem OJ{α:Type}{f:α→Nat}{C:Nat}:∀(l:List α),(∀x,x∈l→f x≤C)→zu f l≤C*l.length
 |[],_=>Nat.zero_le _
 |x::r,h=>by
  have h1:=h x (List.mem_cons_self ..);have h2:=OJ r (fun y hy=>h y (List.mem_cons_of_mem _ hy));simp only[zu,A9,Nat.mul_add,Nat.mul_one];omega
theorem I4{α:Type}{f:α→Nat}:∀(l:List α) (x:α),x∈l→f x≤zu f l
 |y::r,x,h=>by
  simp only[zu];rcases List.mem_cons.1 h with rfl|h
  ·omega
  ·have:=I4 (f:=f) r x h;omega
def zG{α:Type}(P:α→Prop)(l:List α):Prop:=l.length≤1048576∧∀x,x∈l→P x
theorem zG.tot{α:Type}{P:α→Prop}{l:List α}(h:zG P l){f:α→Nat}{C:Nat}(hc:∀x,P x→f x≤C):zu f l≤C*1048576:=by
 have:=OJ l (f:=f) (C:=C) (fun x hx=>hc x (h.2 x hx));exact Nat.le_trans this (Nat.mul_le_mul_left _ h.1)
def Cs{α:Type}(mk:α→Int→α)(cnt:α→Nat):List α→Int→List α
 |[],_=>[]
 |x::r,m=>mk x m::Cs mk cnt r (m+cnt x)
theorem BV{α:Type}(pre:List α)(h:pre.length≤1048576):IntKind.wrap .i64 ((pre.length:Int)+1)=((pre.length+1:Nat):Int):=by rw[zh (by omega) (by omega)];omega
theorem BR{α:Type}(pre post:List α)(x:α):decide ((pre.length:Int)<((pre++x::post).length:Int))=true:=zi (by simp;omega)
theorem BQ{α:Type}(l:List α):decide ((l.length:Int)<(l.length:Int))=false:=zl (by omega)
theorem JM{α:Type}(F:Nat→List α→Int→List α→Option (Unit×List α))(z:α)(P:α→Prop)
 (h0:∀n l o,F (n+1) l (l.length:Int) o=some ((),o))
 (h1:∀n pre x post o,P x→pre.length≤1048576→F (n+1) (pre++x::post) (pre.length:Int) (pre++z::o)=F n (pre++x::post) ((pre.length+1:Nat):Int) (pre++x::o)):
 ∀(post pre:List α) (n:Nat),post.length<n→pre.length+post.length≤1048576→(∀x,x∈post→P x)→F n (pre++post) (pre.length:Int) (pre++List.replicate post.length z)=some ((),pre++post):=by
 intro post
 induction post with
 |nil=>
  intro pre n hn hl hP;obtain⟨n,rfl⟩:∃j,n=j+1:=⟨n-1,by omega⟩;simp only[DD,List.length_nil,List.replicate_zero];exact h0 n pre pre
 |cons x post ih=>
  intro pre n hn hl hP;obtain⟨n,rfl⟩:∃j,n=j+1:=⟨n-1,by omega⟩;simp only[A9] at hn hl;have:=ih (pre++[x]) n (by omega) (by simp;omega) (fun y hy=>hP y (List.mem_cons_of_mem _ hy));rw[A9,List.replicate_succ,h1 n pre x post _ (hP x (List.mem_cons_self ..)) (by omega)];rw[Ab,AJ,CE,List.singleton_append,CE,List.singleton_append] at this;exact this
theorem H9{α:Type}(F:Nat→List α→List α→Int→Option Bool)(P:α→Prop)
 (h0:∀n l,F (n+1) l l (l.length:Int)=some true)
 (h1:∀n pre x post,P x→pre.length≤1048576→F (n+1) (pre++x::post) (pre++x::post) (pre.length:Int)=F n (pre++x::post) (pre++x::post) ((pre.length+1:Nat):Int)):
 ∀(post pre:List α) (n:Nat),post.length<n→pre.length+post.length≤1048576→(∀x,x∈post→P x)→F n (pre++post) (pre++post) (pre.length:Int)=some true:=by
 intro post
 induction post with
 |nil=>
  intro pre n hn hl hP;obtain⟨n,rfl⟩:∃j,n=j+1:=⟨n-1,by omega⟩;simp only[DD];exact h0 n pre
 |cons x post ih=>
  intro pre n hn hl hP;obtain⟨n,rfl⟩:∃j,n=j+1:=⟨n-1,by omega⟩;simp only[A9] at hn hl;have:=ih (pre++[x]) n (by omega) (by simp;omega) (fun y hy=>hP y (List.mem_cons_of_mem _ hy));rw[h1 n pre x post (hP x (List.mem_cons_self ..)) (by omega)];rw[Ab,AJ,CE,List.singleton_append] at this;exact this
theorem H_{α:Type}(F:Nat→Int→Int→List α→Option (Int×List α))(mk:α→Int→α)(cnt:α→Nat)(C:Nat)(P:α→Prop)(B:Int)(hC:∀x,P x→cnt x≤C)
 (h0:∀n m l,F (n+1) m (l.length:Int) l=some (m,l))
 (h1:∀n m pre x post,P x→0≤m→m+cnt x≤B→pre.length≤1048576→F (n+1) m (pre.length:Int) (pre++x::post)=F n (m+cnt x) ((pre.length+1:Nat):Int) (pre++mk x m::post)):
 ∀(post pre:List α) (n:Nat) (m:Int),post.length<n→pre.length+post.length≤1048576→(∀x,x∈post→P x)→0≤m→m+zu cnt post≤B→F n m (pre.length:Int) (pre++post)=some (m+zu cnt post,pre++Cs mk cnt post m):=by
 intro post
 induction post with
 |nil=>
  intro pre n m hn hl hP hm hB;obtain⟨n,rfl⟩:∃j,n=j+1:=⟨n-1,by omega⟩;simp only[DD,zu,Cs];rw[h0 n m pre];simp
 |cons x post ih=>
  intro pre n m hn hl hP hm hB;obtain⟨n,rfl⟩:∃j,n=j+1:=⟨n-1,by omega⟩;simp only[A9,zu] at hn hl hB;have:=ih (pre++[mk x m]) n (m+cnt x) (by omega) (by simp;omega) (fun y hy=>hP y (List.mem_cons_of_mem _ hy)) (by omega) (by omega);rw[h1 n m pre x post (hP x (List.mem_cons_self ..)) hm (by omega) (by omega)];rw[Ab,AJ,CE,List.singleton_append,CE,List.singleton_append] at this;rw[this];simp only[zu,Cs]
  congr 2
  omega
theorem Mf{α:Type}(F:Nat→List α→Int→Int→Option Int)(mk:α→Int→α)(cnt:α→Nat)(P:α→Prop)(B:Int)
 (h0:∀n m l,F (n+1) l m (l.length:Int)=some m)
 (h1:∀n m pre x post,P x→0≤m→m+cnt x≤B→pre.length≤1048576→F (n+1) (pre++mk x m::post) m (pre.length:Int)=F n (pre++mk x m::post) (m+cnt x) ((pre.length+1:Nat):Int)):
 ∀(post pre:List α) (n:Nat) (m:Int),post.length<n→pre.length+post.length≤1048576→(∀x,x∈post→P x)→0≤m→m+zu cnt post≤B→F n (pre++Cs mk cnt post m) m (pre.length:Int)=some (m+zu cnt post):=by
 intro post
 induction post with
 |nil=>
  intro pre n m hn hl hP hm hB;obtain⟨n,rfl⟩:∃j,n=j+1:=⟨n-1,by omega⟩;simp only[DD,zu,Cs];rw[h0 n m pre];simp
 |cons x post ih=>
  intro pre n m hn hl hP hm hB;obtain⟨n,rfl⟩:∃j,n=j+1:=⟨n-1,by omega⟩;simp only[A9,zu] at hn hl hB;have:=ih (pre++[mk x m]) n (m+cnt x) (by omega) (by simp;omega) (fun y hy=>hP y (List.mem_cons_of_mem _ hy)) (by omega) (by omega);simp only[Cs,zu];rw[h1 n m pre x _ (hP x (List.mem_cons_self ..)) hm (by omega) (by omega)];rw[Ab,AJ,CE,List.singleton_append] at this;rw[this]
  congr 1
  omega
def CQ(s:Nat)(m:Int):Int:=if(s:Int)≤m then m-(s:Int) else -1
theorem EN{s:Nat}{m:Int}(h:(s:Int)≤m):CQ s m=m-s:=if_pos h
theorem D8{s:Nat}{m:Int}(h:¬(s:Int)≤m):CQ s m= -1:=if_neg h
theorem abS{m:Int}(h:0≤m):CQ 0 m=m:=by rw[EN (by omega)];omega
theorem Oa{s t:Nat}{m:Int}(h:(s:Int)≤m):CQ t (m-s)=CQ (s+t) m:=by
 unfold CQ;split<;>split<;>omega
theorem Mg{α:Type}(F:Nat→List α→Int→Int→Option Int)(sz:α→Nat)(P:α→Prop)
 (h0:∀n m l,F (n+1) l m (l.length:Int)=some m)
 (h1:∀n m pre x post,P x→0≤m→m≤1048576→pre.length≤1048576→F (n+1) (pre++x::post) m (pre.length:Int)=cond (decide (CQ (sz x) m<0)) (some (-1)) (F n (pre++x::post) (CQ (sz x) m) ((pre.length+1:Nat):Int))):
 ∀(post pre:List α) (n:Nat) (m:Int),post.length<n→pre.length+post.length≤1048576→(∀x,x∈post→P x)→0≤m→m≤1048576→F n (pre++post) m (pre.length:Int)=some (CQ (zu sz post) m):=by
 intro post
 induction post with
 |nil=>
  intro pre n m hn hl hP hm hB;obtain⟨n,rfl⟩:∃j,n=j+1:=⟨n-1,by omega⟩;simp only[DD,zu];rw[h0 n m pre,abS hm]
 |cons x post ih=>
  intro pre n m hn hl hP hm hB;obtain⟨n,rfl⟩:∃j,n=j+1:=⟨n-1,by omega⟩;simp only[A9] at hn hl;rw[h1 n m pre x post (hP x (List.mem_cons_self ..)) hm hB (by omega)];simp only[zu];by_cases hx:(sz x:Int)≤m
  ·have:=ih (pre++[x]) n (m-sz x) (by omega) (by simp;omega) (fun y hy=>hP y (List.mem_cons_of_mem _ hy)) (by omega) (by omega)
   rw[Ab,AJ,CE,List.singleton_append] at this;rw[EN hx,zl (by omega),y_,this,Oa hx]
  ·rw[D8 hx,show decide ((-1:Int)<0)=true from rfl,yZ,D8 (by omega)]
theorem Mh{α:Type}(G:List α→Int→Option Int)(F:Nat→List α→Int→Int→Option Int)(k:Nat)(sz:α→Nat)(hk:2000000≤k)(hG:∀l m,G l m=cond (decide (IntKind.wrap .i64 (m-(l.length:Int))<0)) (some (-1)) (F k l (IntKind.wrap .i64 (m-(l.length:Int))) 0))
 (l:List α) (m:Int) (h0:0≤m) (h1:m≤1048576) (hl:l.length≤9223372036854775807)
 (hF:l.length≤1048576→∀m,0≤m→m≤1048576→F k l m 0=some (CQ (zu sz l) m)):
 G l m=some (CQ (l.length+zu sz l) m):=by
 rw[hG,zh (show -9223372036854775808≤m-(l.length:Int) by omega) (by omega)];by_cases h:(l.length:Int)≤m
 ·rw[zl (by omega),y_,hF (by omega) _ (by omega) (by omega),Oa h]
 ·rw[zi (by omega),yZ,D8 (by omega)]
theorem EX{x:Int}(h:(Lit.int .i64 x).wf=true):zM x:=by
 simp only[Lit.wf,Aa,Ae] at h;have h1:IntKind.min .i64= -9223372036854775808:=by decide
 have h2:IntKind.max .i64=9223372036854775807:=by decide
 rw[h1,h2] at h;exact⟨by omega,by omega⟩
end Go.zJ
end
