/- plain laws of the claim's functions -/
import Derived.Test.YtceehofnlhfndaaGreatLawFDP0
set_option linter.unnecessarySimpa false
set_option linter.unusedSimpArgs false
set_option linter.unusedVariables false
set_option linter.unusedSectionVars false
section
namespace Go.Bd
open Go.Am Go.Fn
theorem OO(k:IntKind)(a b:Int):bits .xor k a b=bits .xor k b a:=by
 simp only[bits,BitVec.xor_comm]
theorem Rc(x:Int):bits .and .i64 x 9223372036854775807=x%9223372036854775808:=by
 have hc:(9223372036854775807:Int)=((2^63-1:Nat):Int):=by decide
 have hb:(2^63-1)%2^IntKind.i64.bits=2^63-1:=by decide
 rw[hc];simp only[bits,BitVec.ofInt_natCast,BitVec.toNat_and,BitVec.toNat_ofNat,hb,Nat.and_two_pow_sub_one_eq_mod,BitVec.toNat_ofInt];show IntKind.wrap .i64 (((x%((2^64:Nat):Int)).toNat%2^63:Nat):Int)=_;rw[AY (by omega) (by omega)];omega
variable(k:Nat)
theorem acD{u:Int}(h:Bt u):NV k u=some (CP u):=by
 obtain⟨h0,h1⟩:=h;have hm:IntKind.wrap .i64 (qV .i64 1 (IntKind.wrap .i64 (64-1))-1)=9223372036854775807:=by decide
 have hd:Gf k u 1=some ((u%18446744073709551616)/2):=by
  unfold Gf;rw[A9 (by decide),AU,AZ (show(0:Int)≤1 by decide),AP,AZ (show(0:Int)≤IntKind.wrap .i64 (64-1) by decide),AP,hm,Rc];have:=FT .i64 u 1 (by decide);rw[show((1:Nat):Int)=1 from rfl] at this;rw[this]
  congr 1
  omega
 unfold NV CP;rw[hd,and1];by_cases h2:u%2=0
 ·rw[if_pos h2,A9 (by omega)]
  rfl
 ·rw[if_neg h2,Bl (by omega)]
  simp only[AP,AQ];rw[OO,M4 _ (by omega) (by omega)]
theorem ab2(b:List Int)(p:Nat)(hb:b.length<4611686018427387904)(hby:∀x,x∈b→0≤x∧x<256)(hp:p≤b.length):∀(f n i acc:Nat),i+f=10→f<n→acc<2^(7*i)→
 Et.l5 k n b (p:Int) (IntKind.wrap .i64 (acc:Int)) (i:Int)=match El f (b.drop (p+i)) with
  |none=>some (0,0,false)
  |some (v,m)=>some (IntKind.wrap .i64 ((acc+v*2^(7*i):Nat):Int),((p+i+m:Nat):Int),true):=by
 have last:∀(n:Nat) (x:Int),0<n→Et.l5 k n b (p:Int) x ((10:Nat):Int)=some (0,0,false):=by
  intro n x hn;obtain⟨n,rfl⟩:∃j,n=j+1:=⟨n-1,by omega⟩;simp only[Et.l5,show decide (((10:Nat):Int)<10)=false by decide,AU,AQ]
 intro f
 induction f with
 |zero=>
  intro n i acc hi hn hacc;obtain rfl:i=10:=by omega
  exact last n _ (by omega)
 |succ f ih=>
  intro n i acc hi hn hacc;obtain⟨n,rfl⟩:∃j,n=j+1:=⟨n-1,by omega⟩;have hP:0<2^(7*i):=Nat.two_pow_pos _;have He:2^(7*(i+1))=128*2^(7*i):=by rw[Nat.mul_add,Nat.pow_add];simp[Nat.mul_comm]
  have c1:decide ((i:Int)<10)=true:=by simp;omega
  have e2:IntKind.wrap .i64 ((p:Int)+(i:Int))=((p+i:Nat):Int):=by rw[AY (by omega) (by omega)];omega
  by_cases hlt:p+i<b.length
  ·obtain⟨c,hc,hc2⟩:=JM hlt
   obtain⟨c0,LK⟩:=hby c (List.mem_of_getElem? hc2);have e3:IntKind.wrap .i64 (7*(i:Int))=((7*i:Nat):Int):=by rw[AY (by omega) (by omega)];omega
   have e5:IntKind.wrap .i64 (((p+i:Nat):Int)+1)=((p+i+1:Nat):Int):=by rw[AY (by omega) (by omega)];omega
   have e6:IntKind.wrap .i64 ((i:Int)+1)=((i+1:Nat):Int):=by rw[AY (by omega) (by omega)];omega
   have c2:decide (((p+i:Nat):Int)<(b.length:Int))=true:=by simp;omega
   have c5:decide ((0:Int)≤((7*i:Nat):Int))=true:=AZ (by omega);have hget:gP b ((p+i:Nat):Int)=some c:=by rw[Cg];exact hc2
   have ec:IntKind.wrap .i64 c=c:=AY (by omega) (by omega);have e127:bits .and .i64 c 127=(((c%128).toNat:Nat):Int):=by
    have:=JF c 7 (by decide);rw[show((2:Int)^7-1)=127 by decide,show((2:Int)^7)=128 by decide] at this;rw[this];omega
   rw[hc,El];simp only[Et.l5,c1,c2,e2,e3,e5,e6,hget,ec,c5,AP,AQ,BV,e127];by_cases h9:f=0∧1<c
   ·obtain⟨rfl,h1c⟩:=h9
    obtain rfl:i=9:=by omega
    rw[if_pos ⟨rfl,h1c⟩];by_cases h128:c<128
    ·simp only[AZ h128,AP,show(((9:Nat):Int)==9)=true by decide,show decide (c>1)=true from AZ h1c,Bool.and_self]
    ·simp only[A8 h128,AU]
     exact last n _ (by omega)
   ·rw[if_neg h9]
    have Nv:(((i:Int)==9)&&decide (c>1))=false:=by
     rw[Bool.eq_false_iff];intro q;simp only[BZ,beq_iff_eq,Ce] at q;exact h9 ⟨by omega,q.2⟩
    have hsum:acc+(c%128).toNat*2^(7*i)<2^IntKind.bits .i64:=by
     show _<2^64;by_cases hf:f=0
     ·have:i=9:=by omega
      subst this;have hc1:c≤1:=by
       rcases Int.lt_or_le 1 c with q|q
       ·exact(h9 ⟨hf,q⟩).elim
       ·exact q
      have h1:(c%128).toNat≤1:=by omega
      have h2:(2:Nat)^(7*9)=9223372036854775808:=by decide
      rw[h2] at hacc⊢;have:=Nat.mul_le_mul_right 9223372036854775808 h1;omega
     ·have h1:(c%128).toNat*2^(7*i)≤127*2^(7*i):=Nat.mul_le_mul_right _ (by omega)
      have h2:2^(7*(i+1))≤2^63:=Nat.pow_le_pow_right (by omega) (by omega);rw[He] at h2;have h3:(2:Nat)^63=9223372036854775808:=by decide
      omega
    have G9:=IM .i64 (a:=acc) (b:=(c%128).toNat) (i:=7*i) (show 7*i≤64 by omega) hacc hsum;rw[G9];by_cases h128:c<128
    ·rw[if_pos h128]
     simp only[AZ h128,AP,Nv,AU];have:(c%128).toNat=c.toNat:=by omega
     rw[this]
    ·rw[if_neg h128]
     simp only[A8 h128,AU];have hlt2:acc+(c%128).toNat*2^(7*i)<2^(7*(i+1)):=by
      rw[He];have:(c%128).toNat*2^(7*i)≤127*2^(7*i):=Nat.mul_le_mul_right _ (by omega);omega
     rw[ih n (i+1) _ (by omega) (by omega) hlt2,←Nat.add_assoc];cases El f (b.drop (p+i+1)) with
     |none=>rfl
     |some x=>
      obtain⟨v,m⟩:=x;simp only[Option.map_some];rw[He,show acc+(c%128).toNat*2^(7*i)+v*(128*2^(7*i))=acc+((c%128).toNat+128*v)*2^(7*i) by grind,show p+i+1+m=p+i+(m+1) by omega]
  ·have c2:decide (((p+i:Nat):Int)<(b.length:Int))=false:=A8 (by omega)
   rw[List.drop_eq_nil_of_le (by omega),El];simp only[Et.l5,c1,e2,c2,AP,AU,AQ]
theorem Lc(hk:2000≤k){b:List Int}(hl:b.length<4611686018427387904)(hb:Bn b)(p:Nat)(hp:p≤b.length):Et k b (p:Int)=match gv (b.drop p) with
 |none=>some (0,0,false)
 |some (u,n)=>some (u,((p+n:Nat):Int),true):=by
 unfold Et;rw[A8 (show ¬((p:Int)<0) by omega)];by_cases h:p=b.length
 ·rw[AZ (show(p:Int)≥(b.length:Int) by omega),List.drop_eq_nil_of_le (by omega)]
  rfl
 ·rw[A8 (show ¬(p:Int)≥(b.length:Int) by omega)]
  simp only[AU,AQ];have h:=ab2 k b p hl hb hp 10 k 0 0 rfl (by omega) (by simp);rw[show IntKind.wrap .i64 ((0:Nat):Int)=0 by decide,show((0:Nat):Int)=0 from rfl] at h;rw[h];unfold gv;rw[Nat.add_zero];cases El 10 (b.drop p) with
  |none=>rfl
  |some x=>
   simp only[Option.map_some,Nat.mul_zero,Nat.pow_zero,Nat.mul_one,Nat.zero_add]
theorem MP(hk:2000≤k){b:List Int}(hl:b.length<4611686018427387904)(hb:Bn b)(p:Nat)(hp:p≤b.length):Ih k b (p:Int)=match gv (b.drop p) with
 |none=>some (0,0,false)
 |some (u,n)=>some (CP u,((p+n:Nat):Int),true):=by
 unfold Ih;rw[Lc k hk hl hb p hp];cases hg:gv (b.drop p) with
 |none=>rfl
 |some z=>
  obtain⟨u,n⟩:=z;obtain⟨f1,_⟩:=EM _ u n (fun x hx=>hb x (List.mem_of_mem_drop hx)) hg;simp only[AQ,Bb,AU,acD k f1]
theorem ab9(hk:2000≤k){b:List Int}(hl:b.length<4611686018427387904)(hb:Bn b)(p:Nat)(hp:p≤b.length):∃x y z e,I1 k b (p:Int)=some (x,y,z,e)∧
 (match Ib b p with
 | .bad c=>e=c∧c≠0
 | .ok q (many,item)=>x=many∧y=item∧z=(q:Int)∧e=0∧q≤b.length):=by
 unfold I1 Ib;by_cases hlt:p<b.length
 ·obtain⟨c,hc,hc2⟩:=JM hlt
  obtain⟨c0,LK⟩:=hb c (List.mem_of_getElem? hc2);have ec:IntKind.wrap .i64 c=c:=AY (by omega) (by omega);have e16:IntKind.wrap .i64 (Int.tdiv c 16)=c/16:=by
   rw[Int.tdiv_eq_ediv_of_nonneg c0,AY (by omega) (by omega)]
  have em:Int.tmod c 16=c%16:=Int.tmod_eq_emod_of_nonneg c0;have ep:IntKind.wrap .i64 ((p:Int)+1)=((p+1:Nat):Int):=by rw[AY (by omega) (by omega)];omega
  rw[A8 (by omega),AU,Cg,hc2];simp only[AQ,ec,e16,em,ep]
  have tail:∀(many:Int) (q:Nat),q≤b.length→∃x y z e,I1.c11 k (q:Int) many (c%16)=some (x,y,z,e)∧
   (match(if many=0 then(.ok q (0,0):Bq (Int×Int)) else if D7 (c%16)=false then .bad 2 else if many<0∨1500<many then .bad 4 else .ok q (many,c%16)) with
   | .bad c=>e=c∧c≠0
   | .ok q (many,item)=>x=many∧y=item∧z=(q:Int)∧e=0∧q≤b.length):=by
   intro many q hq;unfold I1.c11;by_cases h0:many=0
   ·rw[Bl h0,AP,if_pos h0]
    exact⟨_,_,_,_,rfl,rfl,rfl,rfl,rfl,hq⟩
   ·rw[A9 h0,AU,if_neg h0,PR]
    simp only[AQ,cst];cases D7 (c%16) with
    |false=>
     rw[if_pos rfl];exact⟨_,_,_,_,rfl,rfl,by decide⟩
    |true=>
     rw[if_neg (by decide)];simp only[Bb,AU];by_cases hm:many<0∨1500<many
     ·rw[if_pos hm]
      have:(decide (many<0)||decide (many>1500))=true:=by
       rcases hm with h|h
       ·rw[AZ h,BR]
       ·rw[AZ (show many>1500 from h),Bool.or_true]
      rw[this];exact⟨_,_,_,_,rfl,rfl,by decide⟩
     ·rw[if_neg hm]
      rw[A8 (show ¬many<0 by omega),A8 (show ¬many>1500 by omega)];exact⟨_,_,_,_,rfl,rfl,rfl,rfl,rfl,hq⟩
  by_cases GK:c/16=15
  ·simp only[if_pos GK,Bl GK,AP,Lc k hk hl hb (p+1) (by omega)]
   cases hg:gv (b.drop (p+1)) with
   |none=>
    simp only[AQ,Bv,AP,Option.map_none];exact⟨_,_,_,_,rfl,rfl,by decide⟩
   |some z=>
    obtain⟨u,n⟩:=z;obtain⟨f1,f2,f3,f4,f5⟩:=EM _ u n (fun x hx=>hb x (List.mem_of_mem_drop hx)) hg;rw[List.length_drop] at f3;simp only[AQ,Bb,AU,Option.map_some];exact tail u (p+1+n) (by omega)
  ·simp only[if_neg GK,A9 GK,AU]
   exact tail (c/16) (p+1) (by omega)
 ·rw[AZ (by omega),AP,List.getElem?_eq_none (by omega)]
  exact⟨_,_,_,_,rfl,rfl,by decide⟩
theorem ab3(hk:2000≤k){b:List Int}(hl:b.length<4611686018427387904)(hb:Bn b)(p:Nat)(hp:p≤b.length)(last:Int)(hla:0≤last∧last≤1000):∃x y z e,IZ k b (p:Int) last=some (x,y,z,e)∧
 (match Ia b p last with
 | .bad c=>e=c∧c≠0
 | .ok q (t,id)=>x=t∧(t≠0→y=id)∧z=(q:Int)∧e=0∧q≤b.length):=by
 unfold IZ Ia;by_cases hlt:p<b.length
 ·obtain⟨c,hc,hc2⟩:=JM hlt
  obtain⟨c0,LK⟩:=hb c (List.mem_of_getElem? hc2);have ec:IntKind.wrap .i64 c=c:=AY (by omega) (by omega);have e16:IntKind.wrap .i64 (Int.tdiv c 16)=c/16:=by
   rw[Int.tdiv_eq_ediv_of_nonneg c0,AY (by omega) (by omega)]
  have em:Int.tmod c 16=c%16:=Int.tmod_eq_emod_of_nonneg c0;have ep:IntKind.wrap .i64 ((p:Int)+1)=((p+1:Nat):Int):=by rw[AY (by omega) (by omega)];omega
  have el:IntKind.wrap .i64 (last+c/16)=last+c/16:=AY (by omega) (by omega);rw[A8 (by omega),AU,Cg,hc2];simp only[AQ,ec,e16,em,ep,el];by_cases h0:c=0
  ·rw[Bl h0,AP,if_pos h0]
   exact⟨_,_,_,_,rfl,rfl,fun h=>(h rfl).elim,rfl,rfl,by omega⟩
  ·rw[A9 h0,AU,if_neg h0,PS]
   simp only[AQ];cases hkd:isKind (c%16) with
   |false=>
    rw[if_pos rfl];exact⟨_,_,_,_,rfl,rfl,by decide⟩
   |true=>
    rw[if_neg (by decide)];simp only[Bb,AU]
    have tail:∀(id:Int) (q:Nat),q≤b.length→∃x y z e,IZ.c16 k (q:Int) last (c%16) id=some (x,y,z,e)∧
     (match(if id<1∨1000<id then(.bad 3:Bq (Int×Int)) else if id≤last then .bad 5 else .ok q (c%16,id)) with
     | .bad c=>e=c∧c≠0
     | .ok q (t,id)=>x=t∧(t≠0→y=id)∧z=(q:Int)∧e=0∧q≤b.length):=by
     intro id q hq;unfold IZ.c16;rw[Dc];simp only[AQ];by_cases hi:id<1∨1000<id
     ·rw[if_pos hi]
      have hw:(decide ((1:Int)≤id)&&decide (id≤1000))=false:=by
       rw[Bool.eq_false_iff];intro q;simp only[BZ,Ce] at q;omega
      rw[hw];exact⟨_,_,_,_,rfl,rfl,by decide⟩
     ·rw[if_neg hi]
      have hw:(decide ((1:Int)≤id)&&decide (id≤1000))=true:=by simp;omega
      rw[hw];simp only[Bb,AU];by_cases h5:id≤last
      ·rw[if_pos h5,AZ h5]
       exact⟨_,_,_,_,rfl,rfl,by decide⟩
      ·rw[if_neg h5,A8 h5]
       exact⟨_,_,_,_,rfl,rfl,fun _=>rfl,rfl,rfl,hq⟩
    by_cases h16:c/16=0
    ·simp only[if_pos h16,Bl h16,AP,MP k hk hl hb (p+1) (by omega)]
     cases hg:gv (b.drop (p+1)) with
     |none=>
      simp only[AQ,Bv,AP,Option.map_none];exact⟨_,_,_,_,rfl,rfl,by decide⟩
     |some z=>
      obtain⟨u,n⟩:=z;obtain⟨f1,f2,f3,f4,f5⟩:=EM _ u n (fun x hx=>hb x (List.mem_of_mem_drop hx)) hg;rw[List.length_drop] at f3;simp only[AQ,Bb,AU,Option.map_some];exact tail (CP u) (p+1+n) (by omega)
    ·simp only[if_neg h16,A9 h16,AU]
     exact tail (last+c/16) (p+1) (by omega)
 ·rw[AZ (by omega),AP,List.getElem?_eq_none (by omega)]
  exact⟨_,_,_,_,rfl,rfl,by decide⟩
theorem acw(hk:2000≤k){b:List Int}(hl:b.length<4611686018427387904)(hb:Bn b)(p:Nat)(hp:p≤b.length):∃x z e,NY k b (p:Int)=some (x,z,e)∧
 (match Gt b p with
 | .bad c=>e=c∧c≠0
 | .ok q s=>x=s∧z=(q:Int)∧e=0∧q≤b.length):=by
 unfold NY Gt;rw[Lc k hk hl hb p hp];cases hg:gv (b.drop p) with
 |none=>exact⟨_,_,_,rfl,rfl,by decide⟩
 |some z=>
  obtain⟨u,n⟩:=z;obtain⟨⟨f0,f1⟩,f2,f3,f4,f5⟩:=EM _ u n (fun x hx=>hb x (List.mem_of_mem_drop hx)) hg;rw[List.length_drop] at f3;simp only[AQ,Bb,AU,cst];by_cases hu:u<0∨300<u
  ·rw[if_pos hu]
   have:(decide (u<0)||decide (u>300))=true:=by
    rcases hu with h|h
    ·rw[AZ h,BR]
    ·rw[AZ (show u>300 from h),Bool.or_true]
   rw[this];exact⟨_,_,_,rfl,rfl,by decide⟩
  ·rw[if_neg hu,A8 (show ¬u<0 by omega),A8 (show ¬u>300 by omega)]
   have e1:IntKind.wrap .i64 ((b.length:Int)-((p+n:Nat):Int))=(b.length:Int)-((p+n:Nat):Int):=AY (by omega) (by omega);simp only[Cu,AU,e1];by_cases hs:(b.length:Int)-((p+n:Nat):Int)<u
   ·rw[if_pos hs,AZ hs]
    exact⟨_,_,_,rfl,rfl,by decide⟩
   ·rw[if_neg hs,A8 hs]
    obtain⟨U,rfl⟩:=Int.eq_ofNat_of_zero_le (show 0≤u by omega);have e2:IntKind.wrap .i64 (((p+n:Nat):Int)+(U:Int))=((p+n+U:Nat):Int):=by rw[AY (by omega) (by omega)];omega
    have c3:jM ((p+n:Nat):Int) ((p+n+U:Nat):Int) b.length=true:=EF (by omega) (by omega) (by omega);have hcut:kP b ((p+n:Nat):Int) ((p+n+U:Nat):Int)=(b.drop (p+n)).take U:=by
     unfold kP;rw[Int.toNat_natCast,Int.toNat_natCast,List.drop_take,show p+n+U-(p+n)=U by omega]
    simp only[AU,e2,c3,AP,hcut,Int.toNat_natCast];exact⟨_,_,_,rfl,rfl,rfl,rfl,by omega⟩
def Jg(S:(List Int)→Int→Int→Int→Int→(List AR)→Option ((Unit×Int×Int)×(List AR)))(b:List Int)(kind id deep:Int)(p:Nat)(acc:List AR)(r:Bq (List AR)):Prop:=
 match r with
 | .bad e=>e≠0∧∃q l,S b (p:Int) kind id deep acc=some (((),q,e),l)
 | .ok q Y=>q≤b.length∧S b (p:Int) kind id deep acc=some (((),(q:Int),0),acc++Y)
theorem ach(S:(List Int)→Int→Int→Int→Int→(List AR)→Option ((Unit×Int×Int)×(List AR)))(b:List Int)(item:Int)(deep:Nat)(Mc:deep≤100)(P:Nat→Nat→Bq (List AR))
 (ih:∀(p:Nat) (acc:List AR),p≤b.length→acc.length≤1500→Jg S b item 0 ((deep+1:Nat):Int) p acc (P p acc.length))
 (hP:∀p c q Y,c≤1500→P p c= .ok q Y→c+Y.length≤1500) (many:Int) (hm:many≤1500):
 ∀(m f:Nat) (i:Int) (p:Nat) (acc:List AR),many-i=m→0≤i→m<f→p≤b.length→acc.length≤1500→
 match Dg P m p acc.length with
 | .bad e=>e≠0∧∃q l,Cf.Ee k S f b (deep:Int) many item (p:Int) 0 i acc=some (((),q,e),l)
 | .ok q Y=>q≤b.length∧Cf.Ee k S f b (deep:Int) many item (p:Int) 0 i acc=some (((),(q:Int),0),acc++Y):=by
 have hdw:IntKind.wrap .i64 ((deep:Int)+1)=((deep+1:Nat):Int):=by rw[AY (by omega) (by omega)];omega
 intro m
 induction m with
 |zero=>
  intro f i p acc hi h0 hf hp hc;obtain⟨f,rfl⟩:∃j,f=j+1:=⟨f-1,by omega⟩;simp only[Dg,Cf.Ee,A8 (show ¬i<many by omega),AU,AQ,DU];exact⟨hp,trivial⟩
 |succ m H_=>
  intro f i p acc hi h0 hf hp hc;obtain⟨f,rfl⟩:∃j,f=j+1:=⟨f-1,by omega⟩;have hi1:IntKind.wrap .i64 (i+1)=i+1:=AY (by omega) (by omega);have h1:=ih p acc hp hc;simp only[Dg,Cf.Ee,AZ (show i<many by omega),AP,AQ,Bl rfl,hdw,hi1];unfold Jg at h1;cases hr:P p acc.length with
  |bad e=>
   rw[hr] at h1;obtain⟨he,q,l,e1⟩:=h1;refine⟨he,q,l,?_⟩;obtain⟨f,rfl⟩:∃j,f=j+1:=⟨f-1,by omega⟩;simp only[e1,AQ,Cf.Ee,A9 he];cases decide (i+1<many)<;>rfl
  |ok q Y=>
   rw[hr] at h1;obtain⟨hq,e1⟩:=h1;have hlen:=hP _ _ _ _ hc hr;have h2:=H_ f (i+1) q (acc++Y) (by omega) (by omega) (by omega) hq (by rw[BJ];exact hlen);rw[BJ] at h2;simp only[e1,AQ];cases hr2:Dg P m q (acc.length+Y.length) with
   |bad e=>rw[hr2] at h2;exact h2
   |ok q2 Z=>rw[hr2] at h2;simpa[EI] using h2
theorem ab0(hk:2000≤k)(S:(List Int)→Int→Int→Int→Int→(List AR)→Option ((Unit×Int×Int)×(List AR)))(b:List Int)(hl:b.length<4611686018427387904)(hb:Bn b)(deep:Nat)(Mc:deep≤100)(P:Int→Int→Nat→Nat→Bq (List AR))
 (ih:∀(t id:Int) (p:Nat) (acc:List AR),isKind t=true→p≤b.length→acc.length≤1500→Jg S b t id ((deep+1:Nat):Int) p acc (P t id p acc.length))
 (hP:∀t id p c q Y,isKind t=true→c≤1500→P t id p c= .ok q Y→c+Y.length≤1500) (Dk:Int) (pre:List AR):
 ∀(g f:Nat) (last:Int) (p:Nat) (j:Nat) (mid:List AR),1002≤(g:Int)+last→0≤last→last≤1000→g<f→p≤b.length→pre.length+1+mid.length≤1500→(j:Int)+g≤4000→
 match Ey P b g last p (pre.length+1+mid.length) with
 | .bad e=>e≠0∧∃q l,Cf.K4 k S f b (p:Int) (deep:Int) (pre.length:Int) last (j:Int) (pre++sn Dk 0::mid)=some (((),q,e),l)
 | .ok q (m,Y)=>q≤b.length∧Cf.K4 k S f b (p:Int) (deep:Int) (pre.length:Int) last (j:Int) (pre++sn Dk 0::mid)=some (((),(q:Int),0),pre++sn Dk ((j+m:Nat):Int)::(mid++Y)):=by
 have hdw:IntKind.wrap .i64 ((deep:Int)+1)=((deep+1:Nat):Int):=by rw[AY (by omega) (by omega)];omega
 intro g
 induction g with
 |zero=>intro f last p j mid h1 h2 h3;omega
 |succ g NA=>
  intro f last p j mid h1 h2 h3 hf hp hc hj;obtain⟨f,rfl⟩:∃j,f=j+1:=⟨f-1,by omega⟩;have KP:IntKind.wrap .i64 ((j:Int)+1)=((j+1:Nat):Int):=by rw[AY (by omega) (by omega)];omega
  obtain⟨x,y,z,e,e1,e2⟩:=ab3 k hk hl hb p hp last ⟨h2,h3⟩;simp only[Ey,Cf.K4,e1,AQ];cases hr:Ia b p last with
  |bad c=>
   rw[hr] at e2;obtain⟨rfl,he⟩:=e2;simp only[BQ he,AP];exact⟨he,_,_,rfl⟩
  |ok q w=>
   obtain⟨t,id⟩:=w;rw[hr] at e2;obtain⟨rfl,hy,rfl,rfl,hq⟩:=e2;obtain⟨a1,a2⟩:=La hr;simp only[Bw rfl,AU];by_cases ht:x=0
   ·simp only[if_pos ht,Bl ht,AP]
    have hget:gP (pre++sn Dk 0::mid) (pre.length:Int)=some (sn Dk 0):=by
     rw[Cg,List.getElem?_append_right (Nat.le_refl _)];simp
    have hset:∀x y:AR,List.set (pre++x::mid) (Int.toNat (pre.length:Int)) y=pre++y::mid:=fun x y=>by
     rw[Int.toNat_natCast,List.set_append_right _ _ (Nat.le_refl _)];simp
    simp only[hget,AQ,hset];exact⟨hq,by simp[sn]⟩
   ·obtain rfl:=hy ht
    rcases a2 with a2|⟨a2,_,a3,a4,a5⟩
    ·exact(ht a2).elim
    ·simp only[if_neg ht,A9 ht,AU,hdw]
     have hn:=ih x y q (pre++sn Dk 0::mid) a2 hq (by simp;omega);rw[show(pre++sn Dk 0::mid).length=pre.length+1+mid.length by simp;omega] at hn;unfold Jg at hn;cases hr2:P x y q (pre.length+1+mid.length) with
     |bad e=>
      rw[hr2] at hn;obtain⟨he,q',l,e3⟩:=hn;simp only[e3,AQ,BQ he,AP];exact⟨he,_,_,rfl⟩
     |ok r Y=>
      rw[hr2] at hn;obtain⟨hr1,e3⟩:=hn;have hlen:=hP _ _ _ _ _ _ a2 (by omega) hr2;have h4:=NA f y r (j+1) (mid++Y) (by omega) (by omega) (by omega) (by omega) hr1 (by rw[BJ];omega) (by omega);rw[BJ,←Nat.add_assoc] at h4;simp only[e3,AQ,Bw rfl,AU,KP,EI,List.cons_append];cases hr3:Ey P b g y r (pre.length+1+mid.length+Y.length) with
      |bad e=>rw[hr3] at h4;exact h4
      |ok z w=>
       obtain⟨m,Z⟩:=w;rw[hr3] at h4;obtain⟨h5,h6⟩:=h4;refine⟨h5,?_⟩;rw[h6,show j+1+m=j+(m+1) by omega,EI]
theorem aco(hk:2000≤k)(b:List Int)(hl:b.length<4611686018427387904)(hb:Bn b):∀(d D deep:Nat) (kind id:Int) (p:Nat) (acc:List AR),d+deep=13→d<D→isKind kind=true→p≤b.length→acc.length≤1500→
 Jg (Cf.rec k D) b kind id (deep:Int) p acc (Dr d b kind id p acc.length):=by
 intro d
 induction d with
 |zero=>
  intro D deep kind id p acc hdd hD hkd hp hc;obtain⟨D,rfl⟩:∃m,D=m+1:=⟨D-1,by omega⟩;refine⟨by decide,0,acc,?_⟩;simp only[Cf.rec,Cf.b,cst,AZ (show(deep:Int)>12 by omega),Bool.or_true,AQ,AP]
 |succ d ih=>
  intro D deep kind id p acc hdd hD hkd hp hc;obtain⟨D,rfl⟩:∃m,D=m+1:=⟨D-1,by omega⟩;have hset:∀(acc:List AR) (x y:AR),List.set (acc++[x]) (Int.toNat (acc.length:Int)) y=acc++[y]:=fun acc x y=>by
   rw[Int.toNat_natCast,List.set_append_right _ _ (Nat.le_refl _)];simp
  have hget:∀(acc:List AR) (x:AR),gP (acc++[x]) (acc.length:Int)=some x:=fun acc x=>by
   rw[Cg,List.getElem?_append_right (Nat.le_refl _)];simp
  unfold Dr;by_cases Iw:acc.length=1500
  ·rw[if_pos Iw]
   refine⟨by decide,0,acc,?_⟩;simp only[Cf.rec,Cf.b,cst,Bl (show(acc.length:Int)=1500 by omega),BR,AQ,AP]
  ·rw[if_neg Iw]
   unfold Jg;simp only[Cf.rec,Cf.b,cst,A9 (show ¬(acc.length:Int)=1500 by omega),A8 (show ¬(deep:Int)>12 by omega),Cu,AQ,AU];rw[Bz (by simp;omega),AP];by_cases E8:kind=5∨kind=6
   ·rw[if_pos E8]
    have e0:(cond (kind==5)
         (Cf.c8 k (Cf.rec k D) b (p:Int) kind (deep:Int) (acc.length:Int) kind (kind==5) (acc++[(kind,id,0,A7,0,())]))
         (Cf.c8 k (Cf.rec k D) b (p:Int) kind (deep:Int) (acc.length:Int) kind (kind==6) (acc++[(kind,id,0,A7,0,())])))
     =Cf.c8 k (Cf.rec k D) b (p:Int) kind (deep:Int) (acc.length:Int) kind true (acc++[(kind,id,0,A7,0,())]):=by
     rcases E8 with h|h
     ·rw[Bl h,AP]
     ·rw[A9 (show ¬kind=5 by omega),Bl h,AU]
    rw[e0];simp only[Cf.c8,AP,MP k hk hl hb p hp];cases hg:gv (b.drop p) with
    |none=>exact⟨by decide,_,_,rfl⟩
    |some z=>
     obtain⟨u,n⟩:=z;obtain⟨f1,f2,f3,f4,f5⟩:=EM _ u n (fun x hx=>hb x (List.mem_of_mem_drop hx)) hg;rw[List.length_drop] at f3;simp only[AQ,Bb,AU,Jy,Dc,BV];have h32:(decide (-2147483648≤CP u)&&decide (CP u≤2147483647))=int32 (CP u):=rfl;rw[h32];by_cases hbad:kind=5∧int32 (CP u)=false
     ·rw[if_pos hbad]
      refine⟨by decide,0,acc++[(kind,id,0,⟨#[]⟩,0,())],?_⟩;simp only[Bl hbad.1,hbad.2,Bv,Bool.and_self,AP]
     ·rw[if_neg hbad]
      have hb2:((kind==5)&& !int32 (CP u))=false:=by
       rw[Bool.eq_false_iff];intro q;simp only[BZ,beq_iff_eq,Bool.not_eq_true'] at q;exact hbad q
      refine⟨by omega,?_⟩;simp only[hb2,AU,hget,hset,AQ]
   ·rw[if_neg E8]
    have e5:(kind==5)=false:=A9 (by omega);have e6:(kind==6)=false:=A9 (by omega);simp only[e5,e6,AU,Cf.c8];by_cases h8:kind=8
    ·subst h8
     simp only[if_true,show((8:Int)==8)=true from rfl,AP];obtain⟨x,z,e,e1,e2⟩:=acw k hk hl hb p hp;simp only[e1,AQ,hget,hset];cases hr:Gt b p with
     |bad c=>
      rw[hr] at e2;obtain⟨rfl,he⟩:=e2;exact⟨he,_,_,rfl⟩
     |ok q s=>
      rw[hr] at e2;obtain⟨rfl,rfl,rfl,hq⟩:=e2;exact⟨hq,rfl⟩
    ·rw[if_neg h8]
     simp only[A9 h8,AU];by_cases h9:kind=9
     ·subst h9
      simp only[if_true,show((9:Int)==9)=true from rfl,AP];obtain⟨x,y,z,e,e1,e2⟩:=ab9 k hk hl hb p hp;simp only[e1,AQ,hget,hset];cases hr:Ib b p with
      |bad c=>
       rw[hr] at e2;obtain⟨rfl,he⟩:=e2;have:∀f a,f≠0→Cf.Ee k (Cf.rec k D) f b (deep:Int) x y z e 0 a=some (((),z,e),a):=by
        intro f a hf;obtain⟨f,rfl⟩:∃j,f=j+1:=⟨f-1,by omega⟩;simp only[Cf.Ee,A9 he];cases decide ((0:Int)<x)<;>rfl
       refine⟨he,_,_,this k _ (by omega)⟩
      |ok q w=>
       obtain⟨many,item⟩:=w;rw[hr] at e2;obtain⟨rfl,rfl,rfl,rfl,hq⟩:=e2;obtain⟨_,m1⟩:=Lb hr;simp only;have hx:x≤1500:=by rcases m1 with h|h<;>omega
       have hx0:0≤x:=by rcases m1 with h|h<;>omega
       rcases m1 with⟨rfl,rfl⟩|⟨m1,m2,m3⟩
       ·obtain⟨K,hK⟩:∃K,k=K+1:=⟨k-1,by omega⟩
        have:∀f a,f≠0→Cf.Ee k (Cf.rec k D) f b (deep:Int) 0 0 (q:Int) 0 0 a=some (((),(q:Int),0),a):=by
         intro f a hf;obtain⟨f,rfl⟩:∃j,f=j+1:=⟨f-1,by omega⟩;simp only[Cf.Ee,A8 (show ¬((0:Int)<0) by omega),AU,AQ]
        simp only[Int.toNat_zero,Dg];exact⟨hq,this k _ (by omega)⟩
       ·have hp:=ach k (Cf.rec k D) b y deep (by omega) (fun p c=>Dr d b y 0 p c)
         (fun p acc hp hc=>ih D (deep+1) y 0 p acc (by omega) (by omega) (IJ m3) hp hc)
         (fun p c q Y hc h=>by
          obtain⟨_,n,X,rfl,_,_,_,h5⟩:=Ke d b y 0 p c q Y (IJ m3) hc h;exact h5) x hx x.toNat k 0 q (acc++[(9,id,y,⟨#[]⟩,x,())]) (by omega) (by omega) (by omega) hq (by simp;omega)
        rw[BJ,CQ] at hp;cases hr2:Dg (fun p c=>Dr d b y 0 p c) x.toNat q (acc.length+1) with
        |bad e=>rw[hr2] at hp;exact hp
        |ok q' Y=>
         rw[hr2] at hp;obtain⟨h1,h2⟩:=hp;exact⟨h1,by rw[h2];simp⟩
     ·rw[if_neg h9]
      simp only[A9 h9,AU];by_cases h12:kind=12
      ·subst h12
       simp only[if_true,show((12:Int)==12)=true from rfl,AP]
       have hf:=ab0 k hk (Cf.rec k D) b hl hb deep (by omega) (fun t id p c=>Dr d b t id p c)
        (fun t id p acc ht hp hc=>ih D (deep+1) t id p acc (by omega) (by omega) ht hp hc)
        (fun t id p c q Y ht hc h=>by
         obtain⟨_,n,X,rfl,_,_,_,h5⟩:=Ke d b t id p c q Y ht hc h;exact h5) id acc 1002 k 0 p 0 [] (by omega) (by omega) (by omega) (by omega) hp (by simp;omega) (by omega)
       rw[List.length_nil,Nat.add_zero] at hf;rw[show(acc++[((12:Int),id,(0:Int),A7,(0:Int),())]:List AR)=acc++sn id 0::[] from rfl];cases hr:Ey (fun t id p c=>Dr d b t id p c) b 1002 0 p (acc.length+1) with
       |bad e=>rw[hr] at hf;exact hf
       |ok q' x=>
        obtain⟨m,Y⟩:=x;rw[hr] at hf;obtain⟨hq',e1⟩:=hf;refine⟨hq',?_⟩;rw[show((0:Nat):Int)=0 from rfl] at e1;rw[e1];simp[sn]
      ·rw[if_neg h12]
       simp only[A9 h12,AU];exact⟨hp,trivial⟩
end Go.Bd
end
section
namespace Go.Bd
open Go.Am Go.Fn
theorem abM{S:Nat→Nat→Bq (List AR)}(ih:∀p c q Y,S p c= .ok q Y→p≤q):∀(j p c q:Nat) (Y:List AR),Dg S j p c= .ok q Y→p≤q:=by
 intro j
 induction j with
 |zero=>
  intro p c q Y h;simp only[Dg,Bq.ok.injEq] at h;omega
 |succ j ihj=>
  intro p c q Y h;simp only[Dg] at h;split at h
  ·cases h
  ·rename_i h1
   split at h
   ·cases h
   ·rename_i h2
    simp only[Bq.ok.injEq] at h;have:=ih _ _ _ _ h1;have:=ihj _ _ _ _ h2;omega
theorem Qk{S:Int→Int→Nat→Nat→Bq (List AR)}{b:List Int}(ih:∀t id p c q Y,S t id p c= .ok q Y→p≤q):∀(f:Nat) (last:Int) (p c q:Nat) (Y:Nat×List AR),Ey S b f last p c= .ok q Y→p<q:=by
 intro f
 induction f with
 |zero=>intro last p c q Y h;cases h
 |succ f H9=>
  intro last p c q Y h;simp only[Ey] at h;split at h
  ·cases h
  ·rename_i h1
   have:=(La h1).1;split at h
   ·simp only[Bq.ok.injEq] at h
    omega
   ·split at h
    ·cases h
    ·rename_i h2
     split at h
     ·cases h
     ·rename_i h3
      simp only[Bq.ok.injEq] at h;have:=ih _ _ _ _ _ _ h2;have:=H9 _ _ _ _ _ h3;omega
theorem abI:∀(d:Nat) (b:List Int) (kind id:Int) (p c q:Nat) (Y:List AR),Dr d b kind id p c= .ok q Y→p≤q:=by
 intro d
 induction d with
 |zero=>intro b kind id p c q Y h;cases h
 |succ d ih=>
  intro b kind id p c q Y h;simp only[Dr] at h;split at h
  ·cases h
  ·split at h
   ·split at h
    ·cases h
    ·split at h
     ·cases h
     ·simp only[Bq.ok.injEq] at h
      omega
   ·split at h
    ·split at h
     ·cases h
     ·rename_i hs
      simp only[Bq.ok.injEq] at h;have:=(NM hs).1;omega
    ·split at h
     ·split at h
      ·cases h
      ·rename_i hm
       have:=(Lb hm).1;split at h
       ·cases h
       ·rename_i hp
        simp only[Bq.ok.injEq] at h;have:=abM (fun p c q Y h=>ih b _ 0 p c q Y h) _ _ _ _ _ hp;omega
     ·split at h
      ·split at h
       ·cases h
       ·rename_i hf
        simp only[Bq.ok.injEq] at h;have:=Qk (fun t id p c q Y h=>ih b t id p c q Y h) _ _ _ _ _ _ hf;omega
      ·simp only[Bq.ok.injEq] at h
       omega
def Kt(d:Nat)(Y:List AR)(m:Nat):Prop:=∀rest,(cost d (Y++rest)).2=rest∧(cost d (Y++rest)).1≤m
def Ku(d:Nat)(st:Bool)(c:Nat)(last:Int)(Y:List AR)(m:Nat):Prop:=∀rest,(Gj (cost d) st c last (Y++rest)).2=rest∧(Gj (cost d) st c last (Y++rest)).1≤m
theorem Oz{d:Nat}{st:Bool}{c:Nat}{last:Int}{x:AR}{X Z:List AR}{m1 m2 m:Nat}(h1:Kt d (x::X) m1)(h2:Ku d st c x.2.1 Z m2)(hm:(if st then(EN x last).length else 0)+m1+m2≤m):Ku d st (c+1) last ((x::X)++Z) m:=by
 intro rest;obtain⟨a1,a2⟩:=h1 (Z++rest);obtain⟨b1,b2⟩:=h2 rest;rw[EI,List.cons_append];rw[List.cons_append] at a1 a2;simp only[Gj,a1];exact⟨b1,by omega⟩
theorem abF{b:List Int}(hb:Bn b){p:Nat}{last:Int}{q:Nat}{t id:Int}(hl:0≤last)(h:Ia b p last= .ok q (t,id)):q≤b.length∧(t≠0→∀x:AR,x.2.1=id→p+(EN x last).length≤q):=by
 unfold Ia at h;split at h
 ·cases h
 ·rename_i y hy
  have hp:p<b.length:=(List.getElem?_eq_some_iff.1 hy).1;obtain⟨y0,y1⟩:=hb y (List.mem_of_getElem? hy);split at h
  ·simp only[Bq.ok.injEq,Prod.mk.injEq] at h
   exact⟨by omega,fun hh=>by omega⟩
  ·split at h
   ·cases h
   ·split at h
    ·cases h
    ·rename_i id' q' hm
     split at h
     ·cases h
     ·split at h
      ·cases h
      ·simp only[Bq.ok.injEq,Prod.mk.injEq] at h
       obtain⟨rfl,rfl,rfl⟩:=h;split at hm
       ·cases hg:gv (b.drop (p+1)) with
        |none=>rw[hg] at hm;cases hm
        |some z=>
         rw[hg] at hm;obtain⟨u,n⟩:=z;simp only[Option.map_some,Dt,Prod.mk.injEq] at hm;obtain⟨rfl,rfl⟩:=hm;obtain⟨f1,f2,f3,f4,f5⟩:=EM _ u n (fun x hx=>hb x (List.mem_of_mem_drop hx)) hg;rw[List.length_drop] at f3;refine⟨by omega,fun _ x hx=> ?_⟩;unfold EN;split
         ·simp<;>omega
         ·rw[hx,Oy f1,Co];omega
       ·simp only[Dt,Prod.mk.injEq] at hm
        obtain⟨rfl,rfl⟩:=hm;refine⟨by omega,fun _ x hx=> ?_⟩;unfold EN;rw[if_pos (by omega)];simp
theorem abG{b:List Int}(hb:Bn b){p q:Nat}{many item:Int}(h:Ib b p= .ok q (many,item)):q≤b.length∧p+(if many≤14 then 1 else 1+(uv many).length)≤q:=by
 unfold Ib at h;split at h
 ·cases h
 ·rename_i y hy
  have hp:p<b.length:=(List.getElem?_eq_some_iff.1 hy).1;obtain⟨y0,y1⟩:=hb y (List.mem_of_getElem? hy);split at h
  ·cases h
  ·rename_i m q' hm
   have hq:q'≤b.length∧p+(if m≤14 then 1 else 1+(uv m).length)≤q':=by
    split at hm
    ·cases hg:gv (b.drop (p+1)) with
     |none=>rw[hg] at hm;cases hm
     |some z=>
      rw[hg] at hm;obtain⟨u,n⟩:=z;simp only[Option.map_some,Dt,Prod.mk.injEq] at hm;obtain⟨rfl,rfl⟩:=hm;obtain⟨f1,f2,f3,f4,f5⟩:=EM _ u n (fun x hx=>hb x (List.mem_of_mem_drop hx)) hg;rw[List.length_drop] at f3;refine⟨by omega,?_⟩;split<;>omega
    ·simp only[Dt,Prod.mk.injEq] at hm
     obtain⟨rfl,rfl⟩:=hm;refine⟨by omega,?_⟩;rw[if_pos (by omega)];omega
   split at h
   ·rename_i h0
    simp only[Bq.ok.injEq,Prod.mk.injEq] at h;obtain⟨rfl,rfl,rfl⟩:=h;rw[h0] at hq;exact hq
   ·split at h
    ·cases h
    ·split at h
     ·cases h
     ·simp only[Bq.ok.injEq,Prod.mk.injEq] at h
      obtain⟨rfl,rfl,rfl⟩:=h;exact hq
theorem abO{b:List Int}(hb:Bn b){p q:Nat}{s:ByteArray}(h:Gt b p= .ok q s):q≤b.length∧p+((uv (s.size:Int)).length+s.size)≤q:=by
 unfold Gt at h;split at h
 ·cases h
 ·rename_i u n hg
  obtain⟨f1,f2,f3,f4,f5⟩:=EM _ u n (fun x hx=>hb x (List.mem_of_mem_drop hx)) hg;rw[List.length_drop] at f3;split at h
  ·cases h
  ·split at h
   ·cases h
   ·simp only[Bq.ok.injEq] at h
    obtain⟨rfl,rfl⟩:=h;have hs:(yM (List.take u.toNat (List.drop (p+n) b))).size=u.toNat:=by
     rw[II,List.length_take,List.length_drop];omega
    rw[hs,show((u.toNat:Nat):Int)=u by omega];omega
theorem abK{d:Nat}{b:List Int}{S:Nat→Nat→Bq (List AR)}(ih:∀p c q Y,p≤b.length→c≤1500→S p c= .ok q Y→p≤q∧q≤b.length∧Y≠[]∧c+Y.length≤1500∧Kt d Y (q-p)):∀(m p c:Nat) (last:Int) (q:Nat) (Y:List AR),p≤b.length→c≤1500→Dg S m p c= .ok q Y→p≤q∧q≤b.length∧Ku d false m last Y (q-p):=by
 intro m
 induction m with
 |zero=>
  intro p c last q Y hp hc h;simp only[Dg,Bq.ok.injEq] at h;obtain⟨rfl,rfl⟩:=h;exact⟨Nat.le_refl _,hp,fun rest=>⟨rfl,Nat.zero_le _⟩⟩
 |succ m H_=>
  intro p c last q Y hp hc h;simp only[Dg] at h;split at h
  ·cases h
  ·rename_i q1 Y1 h1
   split at h
   ·cases h
   ·rename_i q2 Z h2
    simp only[Bq.ok.injEq] at h;obtain⟨rfl,rfl⟩:=h;obtain⟨a1,a2,a3,a4,a5⟩:=ih _ _ _ _ hp hc h1;cases Y1 with
    |nil=>exact(a3 rfl).elim
    |cons x X=>
     obtain⟨b1,b2,b3⟩:=H_ _ _ x.2.1 _ _ a2 (by omega) h2;exact⟨by omega,b2,Oz a5 b3 (by simp;omega)⟩
theorem abC{d:Nat}{b:List Int}(hb:Bn b){S:Int→Int→Nat→Nat→Bq (List AR)}(ih:∀t id p c q Y,isKind t=true→p≤b.length→c≤1500→S t id p c= .ok q Y→p≤q∧q≤b.length∧(∃x X,Y=x::X∧x.2.1=id)∧c+Y.length≤1500∧Kt d Y (q-p)):∀(f:Nat) (last:Int) (p c q m:Nat) (Y:List AR),0≤last→p≤b.length→c≤1500→Ey S b f last p c= .ok q (m,Y)→p<q∧q≤b.length∧Ku d true m last Y (q-p-1):=by
 intro f
 induction f with
 |zero=>intro last p c q m Y hl hp hc h;cases h
 |succ f H9=>
  intro last p c q m Y hl hp hc h;simp only[Ey] at h;split at h
  ·cases h
  ·rename_i q1 t id h1
   obtain⟨a1,a2⟩:=La h1;obtain⟨l1,l2⟩:=abF hb hl h1;split at h
   ·simp only[Bq.ok.injEq,Prod.mk.injEq] at h
    obtain⟨rfl,rfl,rfl⟩:=h;exact⟨a1,l1,fun rest=>⟨rfl,Nat.zero_le _⟩⟩
   ·rename_i ht
    rcases a2 with a2|⟨a2,_,a3,a4,a5⟩
    ·exact(ht a2).elim
    ·split at h
     ·cases h
     ·rename_i q2 Y1 h2
      split at h
      ·cases h
      ·rename_i q3 m' Z h3
       simp only[Bq.ok.injEq,Prod.mk.injEq] at h;obtain⟨rfl,rfl,rfl⟩:=h;obtain⟨c1,c2,⟨x,X,rfl,hx⟩,c4,c5⟩:=ih _ _ _ _ _ _ a2 l1 hc h2;obtain⟨b1,b2,b3⟩:=H9 _ _ _ _ _ _ (by omega) c2 (by omega) h3;rw[←hx] at b3;have:=l2 ht x hx;exact⟨by omega,b2,Oz c5 b3 (by simp;omega)⟩
theorem abH:∀(d:Nat) (b:List Int) (hb:Bn b) (kind id:Int) (p c q:Nat) (Y:List AR),isKind kind=true→p≤b.length→c≤1500→Dr d b kind id p c= .ok q Y→q≤b.length∧Kt d Y (q-p):=by
 intro d
 induction d with
 |zero=>intro b hb kind id p c q Y hk hp hc h;cases h
 |succ d ih=>
  intro b hb kind id p c q Y hk hp hc h;have PL:∀t id p c q Y,isKind t=true→p≤b.length→c≤1500→Dr d b t id p c= .ok q Y→p≤q∧q≤b.length∧(∃x X,Y=x::X∧x.2.1=id)∧c+Y.length≤1500∧Kt d Y (q-p):=by
   intro t id p c q Y hk hp hc h;obtain⟨a1,x,X,rfl,x1,x2,x3,x4⟩:=Ke d b t id p c q Y hk hc h;obtain⟨b1,b2⟩:=ih b hb t id p c q _ hk hp hc h;exact⟨a1,b1,⟨x,X,rfl,x2⟩,x4,b2⟩
  simp only[Dr] at h;split at h
  ·cases h
  ·rename_i Iw
   split at h
   ·rename_i E8
    split at h
    ·cases h
    ·rename_i u n hg
     obtain⟨f1,f2,f3,f4,f5⟩:=EM _ u n (fun x hx=>hb x (List.mem_of_mem_drop hx)) hg;rw[List.length_drop] at f3;split at h
     ·cases h
     ·simp only[Bq.ok.injEq] at h
      obtain⟨rfl,rfl⟩:=h;refine⟨by omega,fun rest=> ?_⟩;simp only[List.cons_append,List.nil_append,cost,if_pos E8,Oy f1];exact⟨trivial,by omega⟩
   ·rename_i E8
    split at h
    ·rename_i h8
     split at h
     ·cases h
     ·rename_i q' s hs
      simp only[Bq.ok.injEq] at h;obtain⟨rfl,rfl⟩:=h;obtain⟨s1,s2⟩:=abO hb hs;refine⟨s1,fun rest=> ?_⟩;simp only[List.cons_append,List.nil_append,cost,if_neg (show ¬((8:Int)=5∨(8:Int)=6) by omega),if_true];exact⟨trivial,by omega⟩
    ·rename_i h8
     split at h
     ·rename_i h9
      split at h
      ·cases h
      ·rename_i q1 many item hm
       obtain⟨m0,m1⟩:=Lb hm;obtain⟨l0,l1⟩:=abG hb hm;split at h
       ·cases h
       ·rename_i q2 Y' hq
        simp only[Bq.ok.injEq] at h;obtain⟨rfl,rfl⟩:=h;have key:q1≤q2∧q2≤b.length∧Ku d false many.toNat 0 Y' (q2-q1):=by
         rcases m1 with⟨rfl,rfl⟩|⟨m1,m2,m3⟩
         ·simp only[Int.toNat_zero,Dg,Bq.ok.injEq] at hq
          obtain⟨rfl,rfl⟩:=hq;exact⟨Nat.le_refl _,l0,fun rest=>⟨rfl,Nat.zero_le _⟩⟩
         ·refine abK (d:=d) (b:=b) (fun p c q Y hp hc h=> ?_) _ _ _ 0 _ _ l0 (by omega) hq
          obtain⟨c1,c2,⟨x,X,c3,_⟩,c4,c5⟩:=PL _ _ _ _ _ _ (IJ m3) hp hc h;exact⟨c1,c2,by rw[c3];simp,c4,c5⟩
        obtain⟨k0,k1,k2⟩:=key;refine⟨k1,fun rest=> ?_⟩;obtain⟨e1,e2⟩:=k2 rest;simp only[List.cons_append,cost,if_neg (show ¬((9:Int)=5∨(9:Int)=6) by omega),if_neg (show ¬((9:Int)=8) by omega),if_true];exact⟨e1,by omega⟩
     ·rename_i h9
      split at h
      ·rename_i h12
       split at h
       ·cases h
       ·rename_i q1 m Y' hf
        simp only[Bq.ok.injEq] at h;obtain⟨rfl,rfl⟩:=h;obtain⟨k0,k1,k2⟩:=abC (d:=d) hb PL _ _ _ _ _ _ _ (Int.le_refl 0) hp (by omega) hf;refine⟨k1,fun rest=> ?_⟩;obtain⟨e1,e2⟩:=k2 rest;simp only[List.cons_append,cost,if_neg (show ¬((12:Int)=5∨(12:Int)=6) by omega),if_neg (show ¬((12:Int)=8) by omega),if_neg (show ¬((12:Int)=9) by omega),if_true,Int.toNat_natCast];exact⟨e1,by omega⟩
      ·rename_i h12
       simp only[Bq.ok.injEq] at h;obtain⟨rfl,rfl⟩:=h;refine⟨hp,fun rest=> ?_⟩;simp only[List.cons_append,List.nil_append,cost,if_neg E8,if_neg h8,if_neg h9,if_neg h12];exact⟨trivial,by omega⟩
end Go.Bd
end
section
namespace Go.Bd
open Go.Am Go.Fn
theorem NC{x:Int}(h0: -1000000000000≤x)(h1:x≤1000000000000):Bt x:=⟨by omega,by omega⟩
theorem I8{k id num m:Int}{t:ByteArray}(h1:Bt k)(h2:Bt id)(h3:Bt num)(h4:Bt m)(h5:t.size≤1073741824):DD (k,id,num,t,m,()):=⟨h1,h2,h3,h4,h5⟩
theorem i8:Bt 8:=⟨by decide,by decide⟩
theorem i9:Bt 9:=⟨by decide,by decide⟩
theorem i12:Bt 12:=⟨by decide,by decide⟩
theorem abN{S:Nat→Nat→Bq (List AR)}(ih:∀p c q Y,S p c= .ok q Y→∀n,n∈Y→DD n):∀(m p c q:Nat) (Y:List AR),Dg S m p c= .ok q Y→∀n,n∈Y→DD n:=by
 intro m
 induction m with
 |zero=>
  intro p c q Y h n hn;simp only[Dg,Bq.ok.injEq] at h;obtain⟨_,rfl⟩:=h;cases hn
 |succ m H_=>
  intro p c q Y h n hn;simp only[Dg] at h;split at h
  ·cases h
  ·rename_i h1
   split at h
   ·cases h
   ·rename_i h2
    simp only[Bq.ok.injEq] at h;obtain⟨_,rfl⟩:=h;rcases List.mem_append.1 hn with hn|hn
    ·exact ih _ _ _ _ h1 n hn
    ·exact H_ _ _ _ _ h2 n hn
theorem abE{S:Int→Int→Nat→Nat→Bq (List AR)}{b:List Int}(ih:∀t id p c q Y,isKind t=true→0≤id→id≤1000→S t id p c= .ok q Y→∀n,n∈Y→DD n):∀(f:Nat) (last:Int) (p c q m:Nat) (Y:List AR),Ey S b f last p c= .ok q (m,Y)→m≤f∧∀n,n∈Y→DD n:=by
 intro f
 induction f with
 |zero=>intro last p c q m Y h;cases h
 |succ f H9=>
  intro last p c q m Y h;simp only[Ey] at h;split at h
  ·cases h
  ·rename_i q1 t id h1
   obtain⟨a1,a2⟩:=La h1;split at h
   ·simp only[Bq.ok.injEq,Prod.mk.injEq] at h
    obtain⟨_,rfl,rfl⟩:=h;exact⟨by omega,fun n hn=>by cases hn⟩
   ·rename_i ht
    rcases a2 with a2|⟨a2,_,a3,a4,a5⟩
    ·exact(ht a2).elim
    ·split at h
     ·cases h
     ·rename_i h2
      split at h
      ·cases h
      ·rename_i h3
       simp only[Bq.ok.injEq,Prod.mk.injEq] at h;obtain⟨_,rfl,rfl⟩:=h;obtain⟨g1,g2⟩:=H9 _ _ _ _ _ _ h3;refine⟨by omega,fun n hn=> ?_⟩;rcases List.mem_append.1 hn with hn|hn
       ·exact ih _ _ _ _ _ _ a2 (by omega) a5 h2 n hn
       ·exact g2 n hn
theorem abJ:∀(d:Nat) (b:List Int) (kind id:Int) (p c q:Nat) (Y:List AR),isKind kind=true→0≤id→id≤1000→Dr d b kind id p c= .ok q Y→∀n,n∈Y→DD n:=by
 intro d
 induction d with
 |zero=>intro b kind id p c q Y _ _ _ h;cases h
 |succ d ih=>
  intro b kind id p c q Y hk h0 h1 h;have hkb:Bt kind:=by rcases KZ hk with e|e|e|e|e|e|e<;>subst e<;>exact⟨by decide,by decide⟩
  have hid:Bt id:=NC (by omega) (by omega);have hz:Bt 0:=⟨by decide,by decide⟩;have he:A7.size≤1073741824:=by decide
  have mk:∀(x:AR) (Y:List AR),DD x→(∀n,n∈Y→DD n)→∀n,n∈x::Y→DD n:=fun x Y hx hY n hn=>by
   rcases List.mem_cons.1 hn with rfl|hn
   ·exact hx
   ·exact hY n hn
  have nil:∀n:AR,n∈([]:List AR)→DD n:=fun n hn=>by cases hn
  simp only[Dr] at h;split at h
  ·cases h
  ·split at h
   ·split at h
    ·cases h
    ·split at h
     ·cases h
     ·simp only[Bq.ok.injEq] at h
      obtain⟨_,rfl⟩:=h;exact mk _ _ (I8 hkb hid (M6 _) hz he) nil
   ·split at h
    ·split at h
     ·cases h
     ·rename_i s hs
      obtain⟨_,s2⟩:=NM hs;simp only[Bq.ok.injEq] at h;obtain⟨_,rfl⟩:=h;exact mk _ _ (I8 i8 hid hz hz (by omega)) nil
    ·split at h
     ·split at h
      ·cases h
      ·rename_i many item hm
       obtain⟨_,m1⟩:=Lb hm;split at h
       ·cases h
       ·rename_i hp
        simp only[Bq.ok.injEq] at h;obtain⟨_,rfl⟩:=h;rcases m1 with⟨rfl,rfl⟩|⟨m1,m2,m3⟩
        ·simp only[Int.toNat_zero,Dg,Bq.ok.injEq] at hp
         obtain⟨_,rfl⟩:=hp;exact mk _ _ (I8 i9 hid hz hz he) nil
        ·refine mk _ _ (I8 i9 hid ?_ (NC (by omega) (by omega)) he) (abN (fun p c q Y h=>ih b item 0 p c q Y (IJ m3) (by omega) (by omega) h) _ _ _ _ _ hp)
         rcases KZ (IJ m3) with e|e|e|e|e|e|e<;>subst e<;>exact⟨by decide,by decide⟩
     ·split at h
      ·split at h
       ·cases h
       ·rename_i hf
        simp only[Bq.ok.injEq] at h;obtain⟨_,rfl⟩:=h;obtain⟨g1,g2⟩:=abE (fun t id p c q Y hk h0 h1 h=>ih b t id p c q Y hk h0 h1 h) _ _ _ _ _ _ _ hf;exact mk _ _ (I8 i12 hid hz (NC (by omega) (by omega)) he) g2
      ·simp only[Bq.ok.injEq] at h
       obtain⟨_,rfl⟩:=h;exact mk _ _ (I8 hkb hid hz hz he) nil
def JA(b:List Int)(at_:Int):Bq (List AR):=if 0≤at_∧at_<b.length then Dr 12 b 12 0 at_.toNat 0 else .bad 1
structure OE(b:List Int)(at_:Int)(q:Nat)(Y:List AR):Prop where
 rng:0≤at_∧at_<q∧q≤b.length
 enc:Enc 12 Y
 root:∃X,∃n:AR,Y=n::X∧n.1=12∧n.2.1=0
 len:Y.length≤1500
 wf:∀n,n∈Y→DD n
theorem acJ{b:List Int}(hl:b.length<4611686018427387904)(hb:Bn b){at_:Int}{q:Nat}{Y:List AR}(h:JA b at_= .ok q Y):OE b at_ q Y:=by
 unfold JA at h;split at h
 ·rename_i hr
  obtain⟨a1,n,X,e1,e2,e3,e4,e5⟩:=Ke 12 b 12 0 _ 0 q Y (by decide) (by omega) h;have hlt:at_.toNat<q:=by
   simp only[Dr] at h;simp only[if_neg (show ¬(0:Nat)=1500 by omega),if_neg (show ¬((12:Int)=5∨(12:Int)=6) by omega),if_neg (show ¬((12:Int)=8) by omega),if_neg (show ¬((12:Int)=9) by omega),if_true] at h;split at h
   ·cases h
   ·rename_i hf
    simp only[Bq.ok.injEq] at h;obtain⟨rfl,rfl⟩:=h;exact Qk (fun t id p c q Y h=>abI 11 b t id p c q Y h) _ _ _ _ _ _ hf
  have hq:=(abH 12 b hb 12 0 _ 0 q Y (by decide) (by omega) (by omega) h).1;exact⟨⟨hr.1,by omega,hq⟩,e4,⟨X,n,e1,e2,e3⟩,by omega,abJ 12 b 12 0 _ 0 q Y (by decide) (by omega) (by omega) h⟩
 ·cases h
variable(k:Nat)
theorem Od(hk:2000≤k)(b:List Int)(hl:b.length<4611686018427387904)(hb:Bn b)(at_:Int):
 match JA b at_ with
 | .bad e=>e≠0∧Ki k b at_=some (((),0,e),[])∧Gm k b at_=some (((),0,e),[])
 | .ok q Y=>Ki k b at_=some (((),(q:Int),0),Y)∧Gm k b at_=some (((),(q:Int),0),Y):=by
 unfold JA Ki Gm;simp only[cst,CB];by_cases hr:0≤at_∧at_<b.length
 ·rw[if_pos hr]
  have c1:(decide ((0:Int)≤at_)&&decide (at_≤IntKind.wrap .i64 ((b.length:Int)-1)))=true:=by
   rw[AY (by omega) (by omega)];simp;omega
  rw[A8 (show ¬at_<0 by omega),A8 (show ¬at_≥(b.length:Int) by omega),c1];simp only[Cu,AQ,AU,Bb];obtain⟨p,rfl⟩:=Int.eq_ofNat_of_zero_le hr.1;rw[Int.toNat_natCast];have hs:=aco k hk b hl hb 12 k 1 12 0 p [] (by omega) (by omega) (by decide) (by omega) (by simp);have hi:=aaA k hk b hl hb 12 k 1 12 0 p [] (by omega) (by omega) (by decide) (by omega) (by simp);have es:∀x,Cf k b (p:Int) 12 0 1 []=x↔Cf.rec k k b (p:Int) 12 0 ((1:Nat):Int) []=x:=fun x=>Iff.rfl;have ei:∀x,Bh k 12 0 1 (b,(p:Int),(),0,()) []=x↔(Bh.rec k k).1 12 0 ((1:Nat):Int) (Cb b p 0) []=x:=fun x=>Iff.rfl;rw[List.length_nil] at hs hi;unfold Jg at hs;unfold Ja at hi;cases h:Dr 12 b 12 0 p 0 with
  |bad e=>
   rw[h] at hs hi;obtain⟨he,q,l,e1⟩:=hs;obtain⟨_,q',l',_,e2⟩:=hi;rw[(es _).2 e1,(ei _).2 e2];simp only[AQ,BQ he,AP];exact⟨he,trivial,trivial⟩
  |ok q Y=>
   rw[h] at hs hi;obtain⟨_,e1⟩:=hs;obtain⟨_,e2⟩:=hi;rw[(es _).2 e1,(ei _).2 e2];simp only[AQ,Bw rfl,AU,List.nil_append];exact⟨trivial,trivial⟩
 ·rw[if_neg hr]
  have c1:(decide ((0:Int)≤at_)&&decide (at_≤IntKind.wrap .i64 ((b.length:Int)-1)))=false:=by
   rw[AY (by omega) (by omega),Bool.eq_false_iff];intro q;simp only[BZ,Ce] at q;omega
  have c2:(decide (at_<0)||decide (at_≥(b.length:Int)))=true:=by
   simp only[Bool.or_eq_true,Ce];omega
  rw[c1,c2];simp only[AQ,AP,Bv];exact⟨by decide,trivial,trivial⟩
theorem abR(hk:2000≤k){b:List Int}{at_:Int}{q:Nat}{Y:List AR}(h:OE b at_ q Y):IX k Y=some true:=by
 obtain⟨X,n,rfl,h1,h2⟩:=h.root;exact QA k hk n X h.enc h.len h1 h2
end Go.Bd
end
section
namespace Go.Bd
open Go.Am Go.Fn
variable(k:Nat)
def M_(l:List AR)(af:List Int)(d at_:Nat)(B:List Int):Prop:=
 ∀D,d≤D→Br.rec k D (at_:Int) (true,(l,(),())) af=some ((),((l,(),()),af,B))
def Reads(l:List AR)(d deep at_ nx:Nat)(n:AR)(B:List Int):Prop:=
 ∀(D:Nat) (b:List Int) (p:Nat) (r:List Int) (acc:List AR),2*d≤D→b.length<4611686018427387904→b.drop p=B++r→acc.length+(nx-at_)≤1500→
  (Bh.rec k D).1 n.1 n.2.1 (deep:Int) (D_ b p) acc=some ((),(D_ b (p+B.length),acc++slice l at_ nx))
theorem aae(hk:2000≤k){p:AR}{last:Int}(hp:Cr p=true)(h1:last+1≤p.2.1)(h2:p.2.1≤1000)(h0:0≤last):IA k p last=some ((),EN p last):=by
 have:=K7 hp;unfold IA EN IA.d4;rw[AY (show -9223372036854775808≤p.2.1-last by omega) (by omega),AY (show -9223372036854775808≤16*(p.2.1-last) by omega) (by omega)];by_cases hd:p.2.1-last≤15
 ·simp only[AZ hd,AP,if_pos hd]
  rw[AY (by omega) (by omega),w8 (by omega) (by omega)]
 ·simp only[A8 hd,AU,if_neg hd]
  rw[QY k (by omega) _ (by omega) (by omega)];simp only[AQ];have:=G6 (zig p.2.1);rw[Bz (by(try simp);omega),AP,w8 (by omega) (by omega)];rfl
theorem acy(hk:2000≤k)(l:List AR)(hl:l.length≤1500)(af:List Int)(d deep:Nat)(hdd:d+deep=12)(n:AR)(hn:n.1=12)(id:Int)
 (ih:∀at_ nx,Sub l af d at_ nx→nx≤l.length→∃m B,l[at_]?=some m∧Cr m=true∧af[at_]?=some (nx:Int)∧M_ k l af d at_ B∧B.length+11≤400*(nx-at_)∧Bn B∧Reads k l d (deep+1) at_ nx m B∧LA d l at_ nx B.length):
 ∀(c pos:Nat) (last:Int) (nx:Nat),EX (Sub l af d) l n c pos last nx→nx≤l.length→0≤last→last≤1000→
 ∃T,(∀(D f:Nat) (out:List Int) (M i:Int),d≤D→c<f→M-i=c→0≤i→M<9223372036854775808→out.length+400*(nx-pos)+1≤4000000→
  Br.Ch k (Br.rec k D) f (pos:Int) last M i (l,(),()) af n out=some ((),((l,(),()),af,out++T)))∧
  T.length≤400*(nx-pos)+1∧Bn T∧
  (∀(D f:Nat) (b:List Int) (p:Nat) (r:List Int) (pre mid:List AR) (j:Int),2*d≤D→c<f→b.length<4611686018427387904→b.drop p=T++r→pre.length+1+mid.length+(nx-pos)≤1500→0≤j→j+c<2000→
   BG.l1 k (Bh.rec k D).1 f (pre.length:Int) (deep:Int) last (D_ b p) (pre++sn id j::mid)=some ((),(D_ b (p+T.length),pre++sn id (j+c)::(mid++slice l pos nx))))∧(Kv d true c last l pos nx (T.length-1)∧1≤T.length):=by
 intro c
 induction c with
 |zero=>
  intro pos last nx hP hnx h0 h1;obtain rfl:pos=nx:=hP;refine⟨[0],?_,by simp,Bn.cons (by omega) (by omega) Bn.nil,?_,OB,by simp⟩
  ·intro D f out M i hD hf KO hi hM hout
   obtain⟨f,rfl⟩:∃m,f=m+1:=⟨f-1,by omega⟩;simp only[Br.Ch,show decide (i<M)=false from A8 (by omega),AU,hn,Bl rfl,AP,Br.Ji];rw[Bz (by(try simp);omega),AP]
  ·intro D f b p r pre mid j hD hf hb hd hlen hj hjc
   obtain⟨f,rfl⟩:∃m,f=m+1:=⟨f-1,by omega⟩;simp only[BG.l1];have:=K_ k (acc:=pre++sn id j::mid) hb hd (by omega) (by omega);simp only[this,AQ,Bw rfl,Bl rfl,cst,Bool.or_true,AP,NT,DU];simp
 |succ c qb=>
  intro pos last nx ⟨p0,Hq,hp,_,h12,hS,hP⟩ hnx h0 h1;obtain⟨hl1,hl2⟩:=h12 hn;have hlt:=Dv _ _ _ hS;have hmn:=(GC (S':=fun _ _=>True) (Dv d) _ _ _ _ (fun _ _ _ _ _=>trivial) hP).2;obtain⟨m,B,b1,b2,b3,b4,b5,b6,b7,b8⟩:=ih pos Hq hS (by omega);obtain rfl:p0=m:=by rw[hp] at b1;exact Option.some.inj b1
  obtain⟨T,t1,t2,t3,t4,t5,t6⟩:=qb Hq p0.2.1 nx hP hnx (by omega) hl2;have hkind:=K7 b2;obtain⟨hh1,hh2⟩:=aai p0 last;refine⟨EN p0 last++B++T,?_,by simp;omega,(Bn.app (aag b2 hl1) b6).app t3,?_,OA hp hlt hmn b8 t5 (by simp;omega),by simp;omega⟩
  ·intro D f out M i hD hf KO hi hM hout
   obtain⟨f,rfl⟩:∃m,f=m+1:=⟨f-1,by omega⟩;simp only[Br.Ch,show decide (i<M)=true from AZ (by omega),AP,Cg,hp,AQ,hn,Bl rfl,aae k hk b2 hl1 hl2 h0];rw[Bz (by(try simp);omega),AP];simp only[Br.c20,b4 D hD,AQ,Cg,b3];rw[Bz (by(try simp);omega),AP,AY (by omega) (by omega)];rw[t1 D f _ M (i+1) hD (by omega) (by omega) (by omega) hM (by simp;omega)];simp
  ·intro D f b p r pre mid j hD hf hb hd hlen hj hjc
   obtain⟨f,rfl⟩:∃m,f=m+1:=⟨f-1,by omega⟩;have hget:∀x:AR,gP (pre++x::mid) (pre.length:Int)=some x:=fun x=>by
    rw[Cg,List.getElem?_append_right (Nat.le_refl _)];simp
   have hset:∀x y:AR,List.set (pre++x::mid) (Int.toNat (pre.length:Int)) y=pre++y::mid:=fun x y=>by
    rw[Int.toNat_natCast,List.set_append_right _ _ (Nat.le_refl _)];simp
   have KP:IntKind.wrap .i64 (j+1)=j+1:=AY (by omega) (by omega);have hdw:IntKind.wrap .i64 ((deep:Int)+1)=((deep+1:Nat):Int):=by rw[AY (by omega) (by omega)];omega
   have hty:(D7 p0.1||((p0.1==1||p0.1==2)&& !false))=true:=by
    unfold D7;rcases hkind with h|h|h|h|h|h|h<;>rw[h]<;>rfl
   have tail:∀q:Nat,b.drop q=B++(T++r)→q+(B.length+T.length)=p+(EN p0 last++B++T).length→
    BG.c8 k (Bh.rec k D).1 (BG.l1 k (Bh.rec k D).1 f) (pre.length:Int) (deep:Int) last p0.1 p0.2.1 (D_ b q) (pre++sn id j::mid)=
     some ((),(D_ b (p+(EN p0 last++B++T).length),pre++sn id (j+(c+1:Nat))::(mid++slice l pos nx))):=by
    intro q hq hqe;have c1:(decide ((1:Int)≤p0.2.1)&&decide (p0.2.1≤1000))=true:=by simp;omega
    have c2:decide (p0.2.1≤last)=false:=A8 (by omega);simp only[BG.c8,BG.c10,BG.c12,CB,Bl rfl,Bw rfl,AP,AU,c1,c2,Bb,AQ,hget,hset,hdw];have hsn:((sn id j).1,(sn id j).2.1,(sn id j).2.2.1,(sn id j).2.2.2.1,IntKind.wrap .i64 ((sn id j).2.2.2.2.1+1),())=sn id (j+1):=by
     show(_,_,_,_,IntKind.wrap .i64 (j+1),())=_;rw[KP];rfl
    simp only[hsn];rw[b7 D b q (T++r) _ hD hb hq (by simp;omega)];simp only[AQ];rw[show pre++sn id (j+1)::mid++slice l pos Hq=pre++sn id (j+1)::(mid++slice l pos Hq) by simp];have hsl:=Qs l (show pos≤Hq by omega) (by omega);rw[t4 D f b (q+B.length) r pre (mid++slice l pos Hq) (j+1) hD (by omega) hb ((KJ hq).1) (by simp[hsl];omega) (by omega) (by omega)];rw[EI,Kh l (by omega) hmn,←hqe,Nat.add_assoc,show j+1+(c:Int)=j+((c+1:Nat):Int) by omega]
   simp only[BG.l1];unfold EN at hd tail⊢;by_cases Py:p0.2.1-last≤15
   ·simp only[if_pos Py] at hd tail⊢
    have hone:=K_ k (acc:=pre++sn id j::mid) (b:=b) (p:=p) (y:=16*(p0.2.1-last)+p0.1) (r:=B++(T++r)) hb (by rw[hd];simp) (by omega) (by omega);have hmod:Int.tmod (16*(p0.2.1-last)+p0.1) 16=p0.1:=by rw[Int.tmod_eq_emod_of_nonneg (by omega)];omega
    have hdiv:IntKind.wrap .i64 (last+IntKind.wrap .i64 (Int.tdiv (16*(p0.2.1-last)+p0.1) 16))=p0.2.1:=by
     rw[Int.tdiv_eq_ediv_of_nonneg (by omega),AY (show -9223372036854775808≤(16*(p0.2.1-last)+p0.1)/16 by omega) (by omega),AY (by omega) (by omega)];omega
    have c0:(16*(p0.2.1-last)+p0.1==0)=false:=A9 (by omega);have c16:decide (16*(p0.2.1-last)+p0.1<16)=false:=A8 (by omega);simp only[hone,AQ,Bw rfl,c0,cst,Cu,AU,hmod,hdiv,J7,hty,Bb,BG.c6,c16];exact tail (p+1) (KL (show b.drop p=(16*(p0.2.1-last)+p0.1)::(B++(T++r)) by rw[hd];simp)).2.2 (by simp;omega)
   ·simp only[if_neg Py] at hd tail⊢
    have hd':b.drop p=p0.1::(uv (zig p0.2.1)++(B++(T++r))):=by rw[hd];simp
    obtain⟨g1,g2,g3⟩:=KL hd';have hone:=K_ k (acc:=pre++sn id j::mid) hb hd' (by omega) (by omega);have hmod:Int.tmod p0.1 16=p0.1:=by rw[Int.tmod_eq_emod_of_nonneg (by omega)];omega
    have c0:(p0.1==0)=false:=A9 (by omega);have c16:decide (p0.1<16)=true:=AZ (by omega);have hu:=MW k hk (acc:=pre++sn id j::mid) hb g3 (Ox p0.2.1);simp only[hone,AQ,Bw rfl,c0,cst,Cu,AU,hmod,J7,hty,Bb,BG.c6,c16,AP,hu,Ov k p0.2.1 (by omega) (by omega)];exact tail (p+1+(uv (zig p0.2.1)).length) (KJ g3).1 (by simp;omega)
theorem aaJ(hk:2000≤k)(l:List AR)(hl:l.length≤1500)(af:List Int)(d deep:Nat)(hdd:d+deep=12)(n:AR)(hn:n.1=9)
 (ih:∀at_ nx,Sub l af d at_ nx→nx≤l.length→∃m B,l[at_]?=some m∧Cr m=true∧af[at_]?=some (nx:Int)∧M_ k l af d at_ B∧B.length+11≤400*(nx-at_)∧Bn B∧Reads k l d (deep+1) at_ nx m B∧LA d l at_ nx B.length):
 ∀(c pos:Nat) (last:Int) (nx:Nat),EX (Sub l af d) l n c pos last nx→nx≤l.length→
 ∃T,(∀(D f:Nat) (out:List Int) (M i:Int),d≤D→c<f→M-i=c→0≤i→M<9223372036854775808→out.length+400*(nx-pos)+1≤4000000→
  Br.Ch k (Br.rec k D) f (pos:Int) last M i (l,(),()) af n out=some ((),((l,(),()),af,out++T)))∧
  T.length≤400*(nx-pos)∧Bn T∧
  (∀(D f:Nat) (b:List Int) (p:Nat) (r:List Int) (acc:List AR) (M i:Int),2*d≤D→c<f→M-i=c→0≤i→M<2000→b.length<4611686018427387904→b.drop p=T++r→acc.length+(nx-pos)≤1500→
   Ca.DI k (Bh.rec k D).1 f (deep:Int) M n.2.2.1 i (D_ b p) acc=some ((),(D_ b (p+T.length),acc++slice l pos nx)))∧Kv d false c last l pos nx T.length:=by
 intro c
 induction c with
 |zero=>
  intro pos last nx hP hnx;obtain rfl:pos=nx:=hP;refine⟨[],?_,by simp,Bn.nil,?_,OB⟩
  ·intro D f out M i hD hf KO hi hM hout
   obtain⟨f,rfl⟩:∃m,f=m+1:=⟨f-1,by omega⟩;simp only[Br.Ch,show decide (i<M)=false from A8 (by omega),AU,hn,show((9:Int)==12)=false from rfl,Br.Ji];simp
  ·intro D f b p r acc M i hD hf KO hi hM hb hd hlen
   obtain⟨f,rfl⟩:∃m,f=m+1:=⟨f-1,by omega⟩;simp only[Ca.DI,show decide (i<M)=false from A8 (by omega),AU,AQ,NT,DU];simp
 |succ c qb=>
  intro pos last nx ⟨p0,Hq,hp,h9,_,hS,hP⟩ hnx;obtain⟨hl1,hl2⟩:=h9 hn;have hlt:=Dv _ _ _ hS;have hmn:=(GC (S':=fun _ _=>True) (Dv d) _ _ _ _ (fun _ _ _ _ _=>trivial) hP).2;obtain⟨m,B,b1,b2,b3,b4,b5,b6,b7,b8⟩:=ih pos Hq hS (by omega);obtain rfl:p0=m:=by rw[hp] at b1;exact Option.some.inj b1
  obtain⟨T,t1,t2,t3,t4,t5⟩:=qb Hq p0.2.1 nx hP hnx;refine⟨B++T,?_,by simp;omega,b6.app t3,?_,OA hp hlt hmn b8 t5 (by simp)⟩
  ·intro D f out M i hD hf KO hi hM hout
   obtain⟨f,rfl⟩:∃m,f=m+1:=⟨f-1,by omega⟩;simp only[Br.Ch,show decide (i<M)=true from AZ (by omega),AP,AU,Cg,hp,AQ,hn,show((9:Int)==12)=false from rfl];simp only[Br.c20,b4 D hD,AQ,Cg,b3];rw[Bz (by(try simp);omega),AP,AY (by omega) (by omega)];rw[t1 D f _ M (i+1) hD (by omega) (by omega) (by omega) hM (by simp;omega)];simp
  ·intro D f b p r acc M i hD hf KO hi hM hb hd hlen
   obtain⟨f,rfl⟩:∃m,f=m+1:=⟨f-1,by omega⟩;have hdw:IntKind.wrap .i64 ((deep:Int)+1)=((deep+1:Nat):Int):=by rw[AY (by omega) (by omega)];omega
   have hiw:IntKind.wrap .i64 (i+1)=i+1:=AY (by omega) (by omega);have hd':b.drop p=B++(T++r):=by rw[hd];simp
   have h7:=b7 D b p (T++r) acc hD hb hd' (by omega);rw[hl1,hl2] at h7;simp only[Ca.DI,show decide (i<M)=true from AZ (by omega),AP,AQ,Bl rfl,hdw,h7,hiw];have hsl:=Qs l (show pos≤Hq by omega) (by omega);rw[t4 D f b (p+B.length) r _ M (i+1) hD (by omega) (by omega) (by omega) hM hb (KJ hd').1 (by simp[hsl];omega)];rw[EI,Kh l (by omega) hmn,BJ,Nat.add_assoc]
theorem abh(hk:2000≤k)(l:List AR)(hl:l.length≤1500)(hw:∀n,n∈l→DD n)(af:List Int):∀(d deep at_ nx:Nat),d+deep=13→Sub l af d at_ nx→nx≤l.length→
 ∃m B,l[at_]?=some m∧Cr m=true∧af[at_]?=some (nx:Int)∧M_ k l af d at_ B∧B.length+11≤400*(nx-at_)∧Bn B∧Reads k l d deep at_ nx m B∧LA d l at_ nx B.length:=by
 intro d
 induction d with
 |zero=>intro deep at_ nx _ h;exact h.elim
 |succ d ih=>
  intro deep at_ nx hdd hS hnx;obtain⟨n,hn,hok,hP,DX⟩:=hS;have hwn:=hw n (List.mem_of_getElem? hn);have hat:at_<l.length:=(List.getElem?_eq_some_iff.1 hn).1;have hmn:=(GC (S':=fun _ _=>True) (Dv d) _ _ _ _ (fun _ _ _ _ _=>trivial) hP).2;have ha1:IntKind.wrap .i64 ((at_:Int)+1)=((at_+1:Nat):Int):=by rw[AY (by omega) (by omega)];omega
  have hset:∀(acc:List AR) (x y:AR),List.set (acc++[x]) (Int.toNat (acc.length:Int)) y=acc++[y]:=fun acc x y=>by
   rw[Int.toNat_natCast,List.set_append_right _ _ (Nat.le_refl _)];simp
  have hget:∀(acc:List AR) (x:AR),gP (acc++[x]) (acc.length:Int)=some x:=fun acc x=>by
   rw[Cg,List.getElem?_append_right (Nat.le_refl _)];simp
  have JW:n=(n.1,n.2.1,n.2.2.1,n.2.2.2.1,n.2.2.2.2.1,()):=rfl;have hM:=hwn.2.2.2.1;rcases K7 hok with h|h|h|h|h|h|h
  iterate 2
   ·have hok':=hok
    simp only[Cr,h,if_neg (show ¬((1:Int)=5) by decide),if_neg (show ¬((1:Int)=6) by decide),if_neg (show ¬((1:Int)=8) by decide),if_neg (show ¬((1:Int)=9) by decide),if_neg (show ¬((1:Int)=12) by decide),
     if_neg (show ¬((2:Int)=5) by decide),if_neg (show ¬((2:Int)=6) by decide),if_neg (show ¬((2:Int)=8) by decide),if_neg (show ¬((2:Int)=9) by decide),if_neg (show ¬((2:Int)=12) by decide),BZ,beq_iff_eq] at hok'
    obtain⟨⟨⟨_,e1⟩,e2⟩,e3⟩:=hok';have e2:=LQ e2;rw[e3] at hP;obtain rfl:at_+1=nx:=hP;refine⟨n,[],hn,hok,DX,?_,by simp<;>omega,Bn.nil,?_,fun rest=>by rw[Ht hn];simp[cost,h]⟩
    ·intro D hD
     obtain⟨D,rfl⟩:∃m,D=m+1:=⟨D-1,by omega⟩;obtain⟨K,rfl⟩:∃m,k=m+1:=⟨k-1,by omega⟩;simp only[Br.rec,Br.b,AP,Cg,hn,AQ,h];simp only[Br.c6,Br.c13,Br.Ch,e3,h,Br.Ji];rfl
    ·intro D b p r acc hD hb hd hlen
     obtain⟨D,rfl⟩:∃m,D=m+1:=⟨D-1,by omega⟩;simp only[Bh.rec,Bh.b];rw[Jh k rfl (by omega) (by omega)];simp only[AQ,Bw rfl,AU,h,Bh.c5];have EO:n=(n.1,n.2.1,0,⟨#[]⟩,0,()):=by conv=>lhs;rw[JW,e1,e2,e3]
     rw[h] at EO;rw[Ht hn,←EO];rfl
  iterate 2
   ·have hok':(n.1=5→-2147483648≤n.2.2.1∧n.2.2.1≤2147483647)∧ig n.2.2.2.1 ⟨#[]⟩=true∧n.2.2.2.2.1=0:=by
     unfold Cr at hok;rw[h] at hok⊢;simp only[reduceIte,if_neg (show ¬((6:Int)=5) by decide),BZ,beq_iff_eq,Ce] at hok
     first|exact⟨fun _=>hok.1.1,hok.1.2,hok.2⟩|exact⟨fun h=>by omega,hok.1,hok.2⟩
    obtain⟨e1,e2,e3⟩:=hok';have e2:=LQ e2;rw[e3] at hP;obtain rfl:at_+1=nx:=hP;have hu:=G6 (zig n.2.2.1);refine⟨n,uv (zig n.2.2.1),hn,hok,DX,?_,by omega,Im _,?_,fun rest=>by rw[Ht hn];simp[cost,h]⟩
    ·intro D hD
     obtain⟨D,rfl⟩:∃m,D=m+1:=⟨D-1,by omega⟩;simp only[Br.rec,Br.b,AP,Cg,hn,AQ,h,Bl rfl,show((6:Int)==5)=false from rfl,AU,Br.c6,QY k (by omega) _ hwn.2.2.1.1 hwn.2.2.1.2]
    ·intro D b p r acc hD hb hd hlen
     obtain⟨D,rfl⟩:∃m,D=m+1:=⟨D-1,by omega⟩;simp only[Bh.rec,Bh.b];rw[Jh k rfl (by omega) (by omega)];have c5:n.1=5→(decide (-2147483648≤n.2.2.1)&&decide (n.2.2.1≤2147483647))=true:=fun h5=>by
      have:=e1 h5;rw[AZ this.1,AZ this.2];rfl
     simp only[AQ,Bw rfl,AU,AP,h,Bl rfl,show((6:Int)==5)=false from rfl,Bh.c5,MW k hk hb hd (Ox _),Ov k _ hwn.2.2.1.1 hwn.2.2.1.2,GR,CB]
     try simp only[c5 h,Bb,AU]
     simp only[Bh.c8,hget,hset,AQ];have EO:n=(n.1,n.2.1,n.2.2.1,⟨#[]⟩,0,()):=by conv=>lhs;rw[JW,e2,e3]
     rw[h] at EO;rw[Ht hn,←EO]
  ·have hok':n.2.2.1=0∧n.2.2.2.1.size≤300∧n.2.2.2.2.1=0:=by
    unfold Cr at hok;rw[h] at hok;simp only[reduceIte,if_neg (show ¬((8:Int)=5) by decide),if_neg (show ¬((8:Int)=6) by decide),BZ,beq_iff_eq,Ce] at hok;exact⟨hok.1.1,by omega,hok.2⟩
   obtain⟨e1,e2,e3⟩:=hok';rw[e3] at hP;obtain rfl:at_+1=nx:=hP;have hu:=G6 (n.2.2.2.1.size:Int);refine⟨n,uv (n.2.2.2.1.size:Int)++fH n.2.2.2.1,hn,hok,DX,?_,by rw[BJ,vR];omega,Bn.app (Im _) (fun x hx=>NZ _ x hx),?_,fun rest=>by rw[Ht hn];simp[cost,h,vR]⟩
   ·intro D hD
    obtain⟨D,rfl⟩:∃m,D=m+1:=⟨D-1,by omega⟩;simp only[Br.rec,Br.b,AP,Cg,hn,AQ,h,Bl rfl,show((8:Int)==5)=false from rfl,show((8:Int)==6)=false from rfl,AU,Br.c6,Br.d8,Oh k (by omega)];rw[Bz (by rw[vR];omega),AP]
   ·intro D b p r acc hD hb hd hlen
    obtain⟨D,rfl⟩:∃m,D=m+1:=⟨D-1,by omega⟩;simp only[Bh.rec,Bh.b];rw[Jh k rfl (by omega) (by omega)];simp only[AQ,Bw rfl,AU,AP,h,Bl rfl,show((8:Int)==5)=false from rfl,show((8:Int)==6)=false from rfl,Bh.c5,Bh.d10];rw[acH k hk (r:=r) hb (by rw[hd];simp) e2];simp only[AQ,hget,hset];have EO:n=(n.1,n.2.1,0,n.2.2.2.1,0,()):=by conv=>lhs;rw[JW,e1,e3]
    rw[h] at EO;rw[Ht hn,←EO,BJ,vR]
  ·have hok':n.2.2.2.1=⟨#[]⟩∧0≤n.2.2.2.2.1∧((n.2.2.2.2.1=0∧n.2.2.1=0)∨(0<n.2.2.2.2.1∧D7 n.2.2.1=true)):=by
    unfold Cr at hok;rw[h] at hok;simp only[reduceIte,if_neg (show ¬((9:Int)=5) by decide),if_neg (show ¬((9:Int)=6) by decide),if_neg (show ¬((9:Int)=8) by decide),BZ,Bool.or_eq_true,beq_iff_eq,Ce] at hok;exact⟨LQ hok.1.1,hok.1.2,hok.2⟩
   obtain⟨e1,e2,e3⟩:=hok';have Jm:0≤n.2.2.1∧n.2.2.1<16:=by
    rcases e3 with e3|e3
    ·omega
    ·have:=e3.2
     unfold D7 at this;simp only[Bool.or_eq_true,beq_iff_eq] at this;omega
   obtain⟨T,t1,t2,t3,t4,t5⟩:=aaJ k hk l hl af d deep (by omega) n h (fun a x hS hx=>ih (deep+1) a x (by omega) hS hx) _ _ _ _ hP hnx;have hcnt:∀(c pos:Nat) (last:Int) (nx:Nat),EX (Sub l af d) l n c pos last nx→pos+c≤nx:=by
    intro c
    induction c with
    |zero=>intro pos last nx hp;have hp:pos=nx:=hp;omega
    |succ c qb=>
     intro pos last nx ⟨_,mid,_,_,_,hS,hp⟩;have:=Dv _ _ _ hS;have:=qb _ _ _ hp;omega
   have hc:=hcnt _ _ _ _ hP;have Pq:(n.2.2.2.2.1.toNat:Int)=n.2.2.2.2.1:=Int.toNat_of_nonneg e2;have hu:=G6 n.2.2.2.2.1
   refine⟨n,(if n.2.2.2.2.1≤14 then[16*n.2.2.2.2.1+n.2.2.1] else(240+n.2.2.1)::uv n.2.2.2.2.1)++T,hn,hok,DX,?_,by split<;>simp<;>omega,?_,?_,fun rest=>by
    obtain⟨c1,c2⟩:=t5 rest;rw[MF hn (by omega),List.cons_append,BJ];simp only[cost,h,if_neg (show ¬((9:Int)=5∨(9:Int)=6) by omega),if_neg (show ¬((9:Int)=8) by omega),if_true,c1,c2];refine⟨trivial,?_⟩;split
    ·simp
    ·simp only[Co];omega⟩
   ·intro D hD
    obtain⟨D,rfl⟩:∃m,D=m+1:=⟨D-1,by omega⟩;simp only[Br.rec,Br.b,AP,Cg,hn,AQ,h,Bl rfl,show((9:Int)==5)=false from rfl,show((9:Int)==6)=false from rfl,show((9:Int)==8)=false from rfl,AU,Br.c6];by_cases H8:n.2.2.2.2.1≤14
    ·simp only[AZ H8,AP,if_pos H8]
     rw[Bz (by(try simp)),AP,AY (show -9223372036854775808≤16*n.2.2.2.2.1 by omega) (by omega),AY (by omega) (by omega),w8 (by omega) (by omega)];simp only[Br.c13,ha1];rw[t1 D k _ _ 0 (by omega) (by omega) (by omega) (by omega) hM.2 (by simp<;>omega)];simp
    ·simp only[A8 H8,AU,if_neg H8,Br.d12,Oh k (by omega),AQ]
     rw[AY (by omega) (by omega),w8 (by omega) (by omega),Bz (by simp<;>omega),AP];simp only[Br.c13,ha1];rw[t1 D k _ _ 0 (by omega) (by omega) (by omega) (by omega) hM.2 (by simp<;>omega)];simp
   ·refine Bn.app ?_ t3
    split
    ·exact Bn.cons (by omega) (by omega) Bn.nil
    ·exact Bn.cons (by omega) (by omega) (Im _)
   ·intro D b p r acc hD hb hd hlen
    obtain⟨D,rfl⟩:∃m,D=m+2:=⟨D-2,by omega⟩;simp only[Bh.rec,Bh.b];rw[Jh k rfl (by omega) (by omega)];simp only[AQ,Bw rfl,AU,AP,h,Bl rfl,show((9:Int)==5)=false from rfl,show((9:Int)==6)=false from rfl,show((9:Int)==8)=false from rfl,Bh.c5,Ca.b]
    have tail:∀q:Nat,b.drop q=T++r→q+T.length=p+((if n.2.2.2.2.1≤14 then[16*n.2.2.2.2.1+n.2.2.1] else(240+n.2.2.1)::uv n.2.2.2.2.1)++T).length→
     Ca.c4 k (Bh.rec k D).1 (acc.length:Int) (deep:Int) n.2.2.2.2.1 n.2.2.1 (D_ b q) (acc++[(9,n.2.1,0,⟨#[]⟩,0,())])=
      some ((),(D_ b (p+((if n.2.2.2.2.1≤14 then[16*n.2.2.2.2.1+n.2.2.1] else(240+n.2.2.1)::uv n.2.2.2.2.1)++T).length),acc++slice l at_ nx)):=by
     intro q hq hqe;rw[←hqe];simp only[Ca.c4,Bw rfl,cst,Cm,AQ];rcases e3 with⟨e3,e4⟩|⟨e3,e4⟩
     ·simp only[e3,Bl rfl,AP]
      rw[e3] at hP;obtain rfl:at_+1=nx:=hP;have hT:T=[]:=by
       have:=t1 d 1 [] 0 0 (Nat.le_refl _) (by omega) (by omega) (by omega) (by omega) (by simp<;>omega);simp only[Br.Ch,show decide ((0:Int)<0)=false from rfl,AU,h,show((9:Int)==12)=false from rfl,Br.Ji] at this;simpa using this
      have EO:n=(n.1,n.2.1,0,⟨#[]⟩,0,()):=by conv=>lhs;rw[JW,e1,e3,e4]
      rw[h] at EO;rw[Ht hn,←EO,hT];simp
     ·simp only[A9 (show ¬n.2.2.2.2.1=0 by omega),AU,J7,e4,BR,AQ,Bb,Ca.c7,CB]
      rw[AZ (show(0:Int)≤n.2.2.2.2.1 from e2),AZ (show n.2.2.2.2.1≤1500 by omega)];simp only[Bool.and_self,AQ,Bb,AU,Ca.c9,hget,hset];rw[t4 D k b q r _ _ 0 (by omega) (by omega) (by omega) (by omega) (by omega) hb hq (by simp<;>omega)];rw[EI,←Kh l (show at_≤at_+1 by omega) (show at_+1≤nx by omega),Ht hn];have EO:n=(n.1,n.2.1,n.2.2.1,⟨#[]⟩,n.2.2.2.2.1,()):=by conv=>lhs;rw[JW,e1]
      rw[h] at EO;rw[←EO]
    by_cases H8:n.2.2.2.2.1≤14
    ·simp only[if_pos H8] at hd tail⊢
     have hd':b.drop p=(16*n.2.2.2.2.1+n.2.2.1)::(T++r):=by rw[hd];simp
     rw[K_ k hb hd' (by omega) (by omega)];have e16:IntKind.wrap .i64 (Int.tdiv (16*n.2.2.2.2.1+n.2.2.1) 16)=n.2.2.2.2.1:=by
      rw[Int.tdiv_eq_ediv_of_nonneg (by omega),AY (by omega) (by omega)];omega
     have em:Int.tmod (16*n.2.2.2.2.1+n.2.2.1) 16=n.2.2.1:=by rw[Int.tmod_eq_emod_of_nonneg (by omega)];omega
     simp only[AQ,e16,em,A9 (show ¬n.2.2.2.2.1=15 by omega),AU];rw[tail (p+1) (KL hd').2.2 (by simp<;>omega)];rfl
    ·simp only[if_neg H8] at hd tail⊢
     have hd':b.drop p=(240+n.2.2.1)::(uv n.2.2.2.2.1++(T++r)):=by rw[hd];simp
     obtain⟨g1,g2,g3⟩:=KL hd';rw[K_ k hb hd' (by omega) (by omega)];have e16:IntKind.wrap .i64 (Int.tdiv (240+n.2.2.1) 16)=15:=by
      rw[Int.tdiv_eq_ediv_of_nonneg (by omega),AY (by omega) (by omega)];omega
     have em:Int.tmod (240+n.2.2.1) 16=n.2.2.1:=by rw[Int.tmod_eq_emod_of_nonneg (by omega)];omega
     simp only[AQ,e16,em,Bl rfl,AP];rw[MW k hk hb g3 hM];simp only[AQ];rw[tail (p+1+(uv n.2.2.2.2.1).length) (KJ g3).1 (by simp<;>omega)];rfl
  ·have hok':n.2.2.1=0∧n.2.2.2.1=⟨#[]⟩∧0≤n.2.2.2.2.1:=by
    unfold Cr at hok;rw[h] at hok;simp only[reduceIte,if_neg (show ¬((12:Int)=5) by decide),if_neg (show ¬((12:Int)=6) by decide),if_neg (show ¬((12:Int)=8) by decide),if_neg (show ¬((12:Int)=9) by decide),BZ,beq_iff_eq,Ce] at hok;exact⟨hok.1.1,LQ hok.1.2,hok.2⟩
   obtain⟨e1,e2,e3⟩:=hok';obtain⟨T,t1,t2,t3,t4,t5,t6⟩:=acy k hk l hl af d deep (by omega) n h n.2.1 (fun a x hS hx=>ih (deep+1) a x (by omega) hS hx) _ _ _ _ hP hnx (by omega) (by omega);have hcnt:∀(c pos:Nat) (last:Int) (nx:Nat),EX (Sub l af d) l n c pos last nx→pos+c≤nx:=by
    intro c
    induction c with
    |zero=>intro pos last nx hp;have hp:pos=nx:=hp;omega
    |succ c qb=>
     intro pos last nx ⟨_,mid,_,_,_,hS,hp⟩;have:=Dv _ _ _ hS;have:=qb _ _ _ hp;omega
   have hc:=hcnt _ _ _ _ hP;have Pq:(n.2.2.2.2.1.toNat:Int)=n.2.2.2.2.1:=Int.toNat_of_nonneg e3
   refine⟨n,T,hn,hok,DX,?_,by omega,t3,?_,fun rest=>by
    obtain⟨c1,c2⟩:=t5 rest;rw[MF hn (by omega),List.cons_append];simp only[cost,h,if_neg (show ¬((12:Int)=5∨(12:Int)=6) by omega),if_neg (show ¬((12:Int)=8) by omega),if_neg (show ¬((12:Int)=9) by omega),if_true,c1,c2];exact⟨trivial,by omega⟩⟩
   ·intro D hD
    obtain⟨D,rfl⟩:∃m,D=m+1:=⟨D-1,by omega⟩;simp only[Br.rec,Br.b,AP,Cg,hn,AQ,h,show((12:Int)==5)=false from rfl,show((12:Int)==6)=false from rfl,show((12:Int)==8)=false from rfl,show((12:Int)==9)=false from rfl,AU,Br.c6,Br.c13,ha1];rw[t1 D k [] _ 0 (by omega) (by omega) (by omega) (by omega) hM.2 (by simp<;>omega)];simp
   ·intro D b p r acc hD hb hd hlen
    obtain⟨D,rfl⟩:∃m,D=m+2:=⟨D-2,by omega⟩;simp only[Bh.rec,Bh.b];rw[Jh k rfl (by omega) (by omega)];simp only[AQ,Bw rfl,AU,AP,h,Bl rfl,show((12:Int)==5)=false from rfl,show((12:Int)==6)=false from rfl,show((12:Int)==8)=false from rfl,show((12:Int)==9)=false from rfl,Bh.c5,BG.b];have:=t4 D k b p r acc [] 0 (by omega) (by omega) hb hd (by simp<;>omega) (by omega) (by omega);rw[show(acc++[((12:Int),n.2.1,(0:Int),A7,(0:Int),())]:List AR)=acc++sn n.2.1 0::[] from rfl,this];simp only[AQ,List.nil_append];rw[←Kh l (show at_≤at_+1 by omega) (show at_+1≤nx by omega),Ht hn,Int.zero_add,Pq];have EO:n=(n.1,n.2.1,0,⟨#[]⟩,n.2.2.2.2.1,()):=by conv=>lhs;rw[JW,e1,e2]
    rw[h] at EO;rw[show sn n.2.1 n.2.2.2.2.1=n from EO.symm];rfl
end Go.Bd
end
section
namespace Go.Bd
open Go.Am Go.Fn
variable(k:Nat)
theorem acK(hk:2000≤k)(l:List AR)(hw:∀n,n∈l→DD n)(hlen:l.length<4294967296):
 ∃b:Bool,IX k l=some b∧((b=false∧Jp k l=some (((),false),[]))∨
  (b=true∧∃B,Jp k l=some (((),true),B)∧B.length≤1000000∧Bn B∧(cost 12 l).1=B.length∧
   ∀(pre r:List Int),pre.length+r.length<4000000000000000000→Gm k (pre++(B++r)) (pre.length:Int)=some (((),((pre.length+B.length:Nat):Int),0),l))):=by
 obtain⟨b,h1,h2⟩:=MQ k hk l hw hlen;refine⟨b,h1,?_⟩;unfold Jp;rcases h2 with⟨rfl,x,hx⟩|⟨rfl,hl,hl1,af,hx,hS,n,hn,h12,hid⟩
 ·exact .inl ⟨rfl,by rw[hx];rfl⟩
 ·rw[hx]
  simp only[AQ,Bb,AU];obtain⟨m,B,b1,b2,b3,b4,b5,b6,b7,b8⟩:=abh k hk l hl hw af 12 1 0 l.length rfl hS (Nat.le_refl _);obtain rfl:n=m:=by rw[hn] at b1;exact Option.some.inj b1
  have hp:Br k 0 (true,(l,(),())) af=some ((),((l,(),()),af,B)):=b4 k (by omega);refine .inr ⟨trivial,B,by rw[hp];rfl,by omega,b6,?_,fun pre r hpr=> ?_⟩
  ·have:=(b8 []).2
   rw[DU,show slice l 0 l.length=l by simp[slice]] at this;exact this
  have hB0:0<B.length∨B.length=0:=by omega
  have hrd:=b7 k (pre++(B++r)) pre.length r [] (by omega) (by simp;omega) (by simp) (by simp;omega);have hrd:Bh k 12 0 1 (D_ (pre++(B++r)) pre.length) []=some ((),(D_ (pre++(B++r)) (pre.length+B.length),[]++slice l 0 l.length)):=by
   rw[h12,hid] at hrd;exact hrd
  unfold Gm;have hpos:0<B.length:=by
   rcases hB0 with h|h
   ·exact h
   ·exfalso
    have hB:B=[]:=List.eq_nil_of_length_eq_zero h;have JX:=b7 k [] 0 [] [] (by omega) (by simp) (by simp[hB]) (by simp;omega);rw[h12,hid] at JX;obtain⟨K,rfl⟩:∃m,k=m+2:=⟨k-2,by omega⟩;simp only[Bh.rec,Bh.b] at JX;rw[Jh (K+2) rfl (by omega) (by simp)] at JX;simp only[AQ,Bw rfl,AU,show((12:Int)==5)=false from rfl,show((12:Int)==6)=false from rfl,show((12:Int)==8)=false from rfl,show((12:Int)==9)=false from rfl,Bh.c5,Bl rfl,AP,BG.b] at JX;simp only[BG.l1,Ho,D_,List.length_nil,Bw rfl,cst,AQ,show decide (((0:Nat):Int)≥((0:Nat):Int))=true from rfl,Bool.or_true,AP,ER,Bl rfl] at JX;simp[hB] at JX
  have c1:(decide ((0:Int)≤(pre.length:Int))&&decide ((pre.length:Int)≤IntKind.wrap .i64 (((pre++(B++r)).length:Int)-1)))=true:=by
   rw[AY (by simp;omega) (by simp;omega)];simp;omega
  simp only[CB,c1,AQ,Bb,AU];rw[show((pre++(B++r),(pre.length:Int),(),(0:Int),()):A_)=D_ (pre++(B++r)) pre.length from rfl,hrd];simp only[AQ,Bw rfl,AU,List.nil_append];rw[show slice l 0 l.length=l by simp[slice]]
end Go.Bd
end
section
namespace Go.Bd
open Go.Am Go.Fn
variable(k:Nat)
theorem PO(t:Int)(h0: -9223372036854775808≤t)(h1:t<18446744073709551616):Gf k t 7=some ((t%18446744073709551616)/128):=by
 have hm:IntKind.wrap .i64 (qV .i64 1 (IntKind.wrap .i64 (64-7))-1)=2^57-1:=by decide
 unfold Gf;rw[A9 (by decide),AU,AZ (show(0:Int)≤7 by decide),AP,AZ (show(0:Int)≤IntKind.wrap .i64 (64-7) by decide),AP,hm,JF _ 57 (by decide)];have:=FT .i64 t 7 (by decide);rw[show((7:Nat):Int)=7 from rfl] at this;rw[this,show(2:Int)^57=144115188075855872 by decide,show(2:Int)^7=128 by decide]
 congr 1
 omega
theorem acn:∀(f n:Nat) (t:Int) (acc:List Int),Bt t→(t%18446744073709551616).toNat<128^(f+1)→f<n→acc.length+f≤1000→
 Gb.l2 k n t acc=some ((),acc++CY f (t%18446744073709551616).toNat):=by
 intro f
 induction f with
 |zero=>
  intro n t acc ht h hn hl;obtain⟨h0,h1⟩:=ht;obtain⟨n,rfl⟩:∃m,n=m+1:=⟨n-1,by omega⟩;have h:(t%18446744073709551616).toNat<128:=by simpa using h
  simp only[Gb.l2,PO k t h0 (by omega),AQ];rw[Bw (by omega),AU,Bz (by simp;omega),AP,w8 (by omega) (by omega)];simp only[CY];rw[show(((t%18446744073709551616).toNat:Nat):Int)=t by omega]
 |succ f ih=>
  intro n t acc ht h hn hl;obtain⟨h0,h1⟩:=ht;obtain⟨n,rfl⟩:∃m,n=m+1:=⟨n-1,by omega⟩;simp only[Gb.l2,PO k t h0 (by omega),AQ];by_cases hb:(t%18446744073709551616)/128=0
  ·rw[Bw hb,AU,Bz (by simp;omega),AP,w8 (by omega) (by omega)]
   simp only[CY];rw[if_neg (by omega),show(((t%18446744073709551616).toNat:Nat):Int)=t by omega]
  ·have e127:bits .and .i64 t 127=t%128:=by
    have:=JF t 7 (by decide);rw[show((2:Int)^7-1)=127 by decide,show((2:Int)^7)=128 by decide] at this;exact this
   rw[BQ hb,AP,Bz (by simp;omega),AP,e127,AY (by omega) (by omega),w8 (by omega) (by omega)];have hmod:((t%18446744073709551616)/128)%18446744073709551616=(t%18446744073709551616)/128:=by omega
   have:=ih n ((t%18446744073709551616)/128) (acc++[t%128+128]) ⟨by omega,by omega⟩ (by
    rw[hmod];rw[Nat.pow_succ] at h;have:((t%18446744073709551616)/128).toNat=(t%18446744073709551616).toNat/128:=by omega
    rw[this];exact Nat.div_lt_of_lt_mul (by rw[Nat.mul_comm];exact h)) (by omega) (by simp;omega)
   rw[this,hmod];simp only[CY];rw[if_pos (show 127<(t%18446744073709551616).toNat by omega),show((t%18446744073709551616)/128).toNat=(t%18446744073709551616).toNat/128 by omega,show(((t%18446744073709551616).toNat%128+128:Nat):Int)=t%128+128 by omega];simp
theorem N8(hk:100≤k)(x:Int)(h:Bt x):Gb k x=some ((),uv x):=by
 unfold Gb;have:=acn k 9 k x [] h (by omega) (by omega) (by simp);rw[this];rfl
theorem Qz(hk:100≤k)(x:Int)(h:Bt x):Lf k x=some ((),uv (zig x)):=by
 obtain⟨h0,h1⟩:=h;have e:qV .i64 x 1=IntKind.wrap .i64 (x*2):=by
  unfold qV;simp[IntKind.bits]
 have hz:MJ k x=some (zig x):=by
  have:=I7 (x*2);have:=I6 (x*2);unfold MJ zig;rw[e];by_cases hx:x<0
  ·rw[AZ hx,AP,if_neg (by omega),OO,M4 _ (by assumption) (by assumption)]
  ·rw[A8 hx,AU,if_pos (by omega)]
 unfold Lf;rw[hz];simp only[AQ,N8 k hk _ (Ox x)]
theorem LH(x:Int):Bn [IntKind.wrap .u8 x]:=by
 intro y hy;rw[List.mem_singleton] at hy;subst hy;rw[Oq];omega
theorem ab8(l:List AR)(hl:l.length≤1500)(af:List Int)(d:Nat)(n:AR)(hM:n.2.2.2.2.1<1000000)(D:Nat)
 (ih:∀at_ nx,Sub l af d at_ nx→nx≤l.length→∃B,BA.rec k D l (at_:Int)=some (((),(nx:Int)),B)∧Bn B∧B.length+11≤400*(nx-at_)):
 ∀(c pos:Nat) (last:Int) (nx:Nat) (f:Nat) (i:Int) (out:List Int),EX (Sub l af d) l n c pos last nx→nx≤l.length→c<f→n.2.2.2.2.1-i=c→0≤i→out.length+400*(nx-pos)≤4000000→Bn out→
 ∃B,BA.Ch k (BA.rec k D) f l (pos:Int) i n out=some (((),(nx:Int)),B)∧Bn B∧B.length≤out.length+400*(nx-pos):=by
 intro c
 induction c with
 |zero=>
  intro pos last nx f i out hP hnx hf hi h0 ho hb;obtain⟨f,rfl⟩:∃m,f=m+1:=⟨f-1,by omega⟩;obtain rfl:pos=nx:=hP;simp only[BA.Ch,A8 (show ¬i<n.2.2.2.2.1 by omega),AU,BA.JL];exact⟨_,rfl,hb,by omega⟩
 |succ c qb=>
  intro pos last nx f i out hP hnx hf hi h0 ho hb;obtain⟨p0,mid,hp,_,_,hS,hP⟩:=hP;obtain⟨f,rfl⟩:∃m,f=m+1:=⟨f-1,by omega⟩;have hlt:=Dv _ _ _ hS;have hmn:=(GC (S':=fun _ _=>True) (Dv d) _ _ _ _ (fun _ _ _ _ _=>trivial) hP).2;obtain⟨B,b1,b2,b3⟩:=ih pos mid hS (by omega);simp only[BA.Ch,AZ (show i<n.2.2.2.2.1 by omega),AP,b1,AQ];rw[Bz (by omega),AP,AY (by omega) (by omega)];obtain⟨T,t1,t2,t3⟩:=qb mid p0.2.1 nx f (i+1) (out++B) hP hnx (by omega) (by omega) (by omega) (by simp;omega) (hb.app b2);exact⟨T,t1,t2,by simp at t3;omega⟩
theorem acs(hk:2000≤k)(l:List AR)(hl:l.length≤1500)(af:List Int)(d:Nat)(n:AR)(hn:n.1=12)(hM:n.2.2.2.2.1<1000000)(D:Nat)
 (ih:∀at_ nx,Sub l af d at_ nx→nx≤l.length→∃B,BA.rec k D l (at_:Int)=some (((),(nx:Int)),B)∧Bn B∧B.length+11≤400*(nx-at_)):
 ∀(c pos:Nat) (last:Int) (nx:Nat) (f:Nat) (i:Int) (out:List Int),EX (Sub l af d) l n c pos last nx→nx≤l.length→0≤last→last≤1000→c<f→n.2.2.2.2.1-i=c→0≤i→out.length+400*(nx-pos)+1≤4000000→Bn out→
 ∃B,BA.Ee k (BA.rec k D) f l (pos:Int) last i n out=some (((),(nx:Int)),B)∧Bn B∧B.length≤out.length+400*(nx-pos)+1∧out.length+1≤B.length:=by
 intro c
 induction c with
 |zero=>
  intro pos last nx f i out hP hnx _ _ hf hi h0 ho hb;obtain⟨f,rfl⟩:∃m,f=m+1:=⟨f-1,by omega⟩;obtain rfl:pos=nx:=hP;simp only[BA.Ee,A8 (show ¬i<n.2.2.2.2.1 by omega),AU,BA.JL];rw[Bz (by simp;omega),AP];exact⟨_,rfl,hb.app (Bn.cons (by omega) (by omega) Bn.nil),by simp,by simp⟩
 |succ c qb=>
  intro pos last nx f i out hP hnx hl0 hl1 hf hi h0 ho hb;obtain⟨p0,mid,hp,_,h12,hS,hP⟩:=hP;obtain⟨q1,q2⟩:=h12 hn;obtain⟨f,rfl⟩:∃m,f=m+1:=⟨f-1,by omega⟩;have hlt:=Dv _ _ _ hS;have hmn:=(GC (S':=fun _ _=>True) (Dv d) _ _ _ _ (fun _ _ _ _ _=>trivial) hP).2;obtain⟨B,b1,b2,b3⟩:=ih pos mid hS (by omega);have tail:∀o:List Int,Bn o→o.length≤out.length+11→out.length≤o.length→∃B,BA.c31 k (BA.rec k D) (BA.Ee k (BA.rec k D) f) l (pos:Int) i n o p0=some (((),(nx:Int)),B)∧Bn B∧B.length≤out.length+400*(nx-pos)+1∧out.length+1≤B.length:=by
   intro o Z_ hol ac_;unfold BA.c31;simp only[b1,AQ];rw[Bz (by omega),AP,AY (by omega) (by omega)];obtain⟨T,t1,t2,t3,t4⟩:=qb mid p0.2.1 nx f (i+1) (o++B) hP hnx (by omega) q2 (by omega) (by omega) (by omega) (by simp;omega) (Z_.app b2);exact⟨T,t1,t2,by simp at t3;omega,by simp at t4;omega⟩
  have hu:=G6 (zig p0.2.1);simp only[BA.Ee,AZ (show i<n.2.2.2.2.1 by omega),AP,Cg,hp,AQ];cases decide (IntKind.wrap .i64 (p0.2.1-last)≤15) with
  |true=>
   rw[AP,Bz (by simp;omega),AP];exact tail _ (hb.app (LH _)) (by simp) (by simp)
  |false=>
   rw[AU,Bz (by simp;omega),AP,Qz k (by omega) _ ⟨by omega,by omega⟩];simp only[AQ];rw[Bz (by simp;omega),AP];exact tail _ ((hb.app (LH _)).app (Im _)) (by simp<;>omega) (by simp<;>omega)
theorem acg(hk:2000≤k)(l:List AR)(hl:l.length≤1500)(hw:∀n,n∈l→DD n)(af:List Int):∀(d D at_ nx:Nat),d≤D→Sub l af d at_ nx→nx≤l.length→
 ∃B,BA.rec k D l (at_:Int)=some (((),(nx:Int)),B)∧(Bn B∧B.length+11≤400*(nx-at_))∧(∀n:AR,l[at_]?=some n→n.1=12→1≤B.length):=by
 intro d
 induction d with
 |zero=>intro D at_ nx _ h;exact h.elim
 |succ d ih=>
  intro D at_ nx hD hS hnx;obtain⟨D,rfl⟩:∃m,D=m+1:=⟨D-1,by omega⟩;obtain⟨n,hn,hok,hP,DX⟩:=hS;obtain⟨w1,w2,w3,w4,w5⟩:=hw n (List.mem_of_getElem? hn);have hat:at_<l.length:=(List.getElem?_eq_some_iff.1 hn).1;have hmn:=(GC (S':=fun _ _=>True) (Dv d) _ _ _ _ (fun _ _ _ _ _=>trivial) hP).2;have ha1:IntKind.wrap .i64 ((at_:Int)+1)=((at_+1:Nat):Int):=by rw[AY (by omega) (by omega)];omega
  have hcnt:∀(c pos:Nat) (last:Int) (nx:Nat),EX (Sub l af d) l n c pos last nx→pos+c≤nx:=by
   intro c
   induction c with
   |zero=>intro pos last nx hp;have hp:pos=nx:=hp;omega
   |succ c qb=>
    intro pos last nx ⟨_,mid,_,_,_,hS,hp⟩;have:=Dv _ _ _ hS;have:=qb _ _ _ hp;omega
  have hc:=hcnt _ _ _ _ hP;have leaf:n.2.2.2.2.1=0→at_+1=nx:=fun h0=>by rw[h0] at hP;exact hP
  have K8:n.1≠12→∀(B:List Int) (m:AR),some n=some m→m.1=12→1≤B.length:=fun h B m hm h12=>by cases hm;exact(h h12).elim
  simp only[BA.rec,BA.b,Cg,hn,AQ,ha1];have hk':=K7 hok;by_cases E8:n.1=5∨n.1=6
  ·have h0:n.2.2.2.2.1=0:=by
    unfold Cr at hok;rcases E8 with h|h
    ·rw[if_pos h] at hok
     simp only[BZ,beq_iff_eq] at hok;exact hok.2
    ·rw[if_neg (by omega),if_pos h] at hok
     simp only[BZ,beq_iff_eq] at hok;exact hok.2
   obtain rfl:=leaf h0;have hu:=G6 (zig n.2.2.1);have e:∀t,BA.c7 k (BA.rec k D) l ((at_+1:Nat):Int) t true n []=some (((),((at_+1:Nat):Int)),uv (zig n.2.2.1)):=fun t=>by
    simp only[BA.c7,AP,Qz k (by omega) _ w3,AQ]
   rcases E8 with h|h
   ·rw[Bl h,AP,e]
    exact⟨_,rfl,⟨Im _,by omega⟩,K8 (by omega) _⟩
   ·rw[A9 (show ¬n.1=5 by omega),Bl h,AU,e]
    exact⟨_,rfl,⟨Im _,by omega⟩,K8 (by omega) _⟩
  ·rw[A9 (show ¬n.1=5 by omega),A9 (show ¬n.1=6 by omega),AU]
   simp only[BA.c7,AU];by_cases h8:n.1=8
   ·have h0:n.2.2.2.1.size≤300∧n.2.2.2.2.1=0:=by
     unfold Cr at hok;rw[if_neg (by omega),if_neg (by omega),if_pos h8] at hok;simp only[BZ,beq_iff_eq,Ce] at hok;exact⟨by omega,hok.2⟩
    obtain rfl:=leaf h0.2;have hu:=G6 (n.2.2.2.1.size:Int);rw[Bl h8,AP];unfold BA.d9;simp only[N8 k (by omega) (n.2.2.2.1.size:Int) ⟨by omega,by omega⟩,AQ];rw[Bz (by rw[vR];omega),AP];exact⟨_,rfl,⟨Bn.app (Im _) (fun x hx=>NZ _ x hx),by rw[BJ,vR];omega⟩,K8 (by omega) _⟩
   ·rw[A9 h8,AU]
    by_cases h9:n.1=9
    ·have h0:0≤n.2.2.2.2.1:=by
      unfold Cr at hok;rw[if_neg (by omega),if_neg (by omega),if_neg h8,if_pos h9] at hok;simp only[BZ,Ce] at hok;omega
     rw[Bl h9,AP];have lp:∀out:List Int,Bn out→out.length≤11→∃B,BA.c15 k (BA.rec k D) l ((at_+1:Nat):Int) n out=some (((),(nx:Int)),B)∧(Bn B∧B.length+11≤400*(nx-at_))∧(∀m:AR,some n=some m→m.1=12→1≤B.length):=fun out hb ho=>by
      unfold BA.c15;obtain⟨B,b1,b2,b3⟩:=ab8 k l hl af d n (by omega) D (fun a x hS hx=>by obtain⟨B,q1,q2,_⟩:=ih D a x (by omega) hS hx;exact⟨B,q1,q2⟩) n.2.2.2.2.1.toNat (at_+1) 0 nx k 0 out hP hnx (by omega) (by omega) (by omega) (by omega) hb;exact⟨B,b1,⟨b2,by omega⟩,K8 (by omega) _⟩
     have hu:=G6 n.2.2.2.2.1;cases decide (n.2.2.2.2.1≤14) with
     |true=>
      rw[AP,Bz (by simp),AP];exact lp _ (Bn.nil.app (LH _)) (by simp)
     |false=>
      rw[AU,Bz (by simp),AP,N8 k (by omega) _ w4];simp only[AQ];rw[Bz (by simp;omega),AP];exact lp _ ((Bn.nil.app (LH _)).app (Im _)) (by simp;omega)
    ·rw[A9 h9,AU]
     by_cases h12:n.1=12
     ·have h0:0≤n.2.2.2.2.1:=by
       unfold Cr at hok;rw[if_neg (by omega),if_neg (by omega),if_neg h8,if_neg h9,if_pos h12] at hok;simp only[BZ,Ce] at hok;omega
      rw[Bl h12,AP];obtain⟨B,b1,b2,b3,b4⟩:=acs k hk l hl af d n h12 (by omega) D (fun a x hS hx=>by obtain⟨B,q1,q2,_⟩:=ih D a x (by omega) hS hx;exact⟨B,q1,q2⟩) n.2.2.2.2.1.toNat (at_+1) 0 nx k 0 [] hP hnx (by omega) (by omega) (by omega) (by omega) (by omega) (by simp;omega) Bn.nil;exact⟨B,b1,⟨b2,by simp at b3;omega⟩,fun _ _ _=>by simp at b4;omega⟩
     ·rw[A9 h12,AU]
      have h0:n.2.2.2.2.1=0:=by
       unfold Cr at hok;rw[if_neg (by omega),if_neg (by omega),if_neg h8,if_neg h9,if_neg h12] at hok;simp only[BZ,beq_iff_eq] at hok;exact hok.2
      obtain rfl:=leaf h0;exact⟨_,rfl,⟨Bn.nil,by simp⟩,K8 h12 _⟩
end Go.Bd
end
section
namespace Go.Bd
open Go.Am Go.Fn
variable(k:Nat)
theorem Kr{a b:Nat}(ha:a<2^62)(hb:b<2^62):bits .xor .i64 (a:Int) (b:Int)=((a^^^b:Nat):Int):=by
 have h:=Nat.xor_lt_two_pow ha hb;simp only[bits,BitVec.ofInt_natCast,BitVec.toNat_xor,BitVec.toNat_ofNat];rw[Nat.mod_eq_of_lt (show a<2^IntKind.i64.bits from Nat.lt_of_lt_of_le ha (by decide)),Nat.mod_eq_of_lt (show b<2^IntKind.i64.bits from Nat.lt_of_lt_of_le hb (by decide))];exact AY (by omega) (by omega)
def Ei:Nat→Nat→Nat
 |0,n=>n
 |m+1,n=>Ei m (if n%2=1 then(n/2)^^^3988292384 else n/2)
theorem O0:∀m n,n<2^32→Ei m n<2^32
 |0,n,h=>h
 |m+1,n,h=>by
  unfold Ei;apply O0;have:n/2<2^32:=by omega
  split
  ·exact Nat.xor_lt_two_pow this (by decide)
  ·exact this
theorem RB:∀(m f i n:Nat),i+m=8→m<f→n<2^32→EP.l2 k f (n:Int) (i:Int)=some ((Ei m n:Nat):Int)∧ET.l2 k f (n:Int) (i:Int)=some ((Ei m n:Nat):Int):=by
 intro m
 induction m with
 |zero=>
  intro f i n hi hf hn;obtain⟨f,rfl⟩:∃x,f=x+1:=⟨f-1,by omega⟩;simp only[EP.l2,ET.l2,A8 (show ¬(i:Int)<8 by omega),AU,Ei];exact⟨trivial,trivial⟩
 |succ m ih=>
  intro f i n hi hf hn;obtain⟨f,rfl⟩:∃x,f=x+1:=⟨f-1,by omega⟩;have e3:IntKind.wrap .i64 ((i:Int)+1)=((i+1:Nat):Int):=by rw[AY (by omega) (by omega)];omega
  have hdiv:IntKind.wrap .i64 (Int.tdiv (n:Int) 2)=((n/2:Nat):Int):=by
   rw[Int.tdiv_eq_ediv_of_nonneg (by omega),AY (by omega) (by omega)];omega
  have hmod:Int.tmod (n:Int) 2=((n%2:Nat):Int):=by rw[Int.tmod_eq_emod_of_nonneg (by omega)];omega
  have hand:bits .and .i64 (n:Int) 1=((n%2:Nat):Int):=by rw[and1];omega
  have hx:bits .xor .i64 ((n/2:Nat):Int) 3988292384=(((n/2)^^^3988292384:Nat):Int):=Kr (b:=3988292384) (by omega) (by decide);simp only[EP.l2,ET.l2,AZ (show(i:Int)<8 by omega),AP,hdiv,hmod,hand,hx,EP.c7,ET.c3,e3,Ei];by_cases hodd:n%2=1
  ·rw[hodd,Bl (by rfl),if_pos rfl,AP,AP]
   exact ih f (i+1) _ (by omega) (by omega) (Nat.xor_lt_two_pow (by omega) (by decide))
  ·have h0:n%2=0:=by omega
   rw[h0,A9 (by decide),if_neg (by decide),AU,AU];exact ih f (i+1) _ (by omega) (by omega) (by omega)
theorem O1(hk:100≤k)(n:Nat)(hn:n<2^32):EP k (n:Int)=some ((Ei 8 n:Nat):Int)∧ET k (n:Int)=some ((Ei 8 n:Nat):Int):=
 RB k 8 k 0 n rfl (by omega) hn
def KG:List Int:=(List.range 256).map fun n=>((Ei 8 n:Nat):Int)
theorem acF(hk:1000≤k):∀(m f i:Nat),i+m=256→m<f→Hg.l3 k f (i:Int) ((List.range i).map fun n=>((Ei 8 n:Nat):Int))=some ((),KG):=by
 intro m
 induction m with
 |zero=>
  intro f i hi hf;obtain⟨f,rfl⟩:∃x,f=x+1:=⟨f-1,by omega⟩;obtain rfl:i=256:=by omega
  simp only[Hg.l3,A8 (show ¬((256:Nat):Int)<256 by omega),AU];rfl
 |succ m ih=>
  intro f i hi hf;obtain⟨f,rfl⟩:∃x,f=x+1:=⟨f-1,by omega⟩;have e3:IntKind.wrap .i64 ((i:Int)+1)=((i+1:Nat):Int):=by rw[AY (by omega) (by omega)];omega
  simp only[Hg.l3,AZ (show(i:Int)<256 by omega),AP,(O1 k (by omega) i (by omega)).1,AQ,e3,Bz (show((List.range i).map fun n=>((Ei 8 n:Nat):Int)).length+[((Ei 8 i:Nat):Int)].length≤4294967296 by simp;omega)];have:=ih f (i+1) (by omega) (by omega);rw[List.range_succ,List.map_append,List.map_singleton] at this;exact this
theorem acE(hk:1000≤k):Hg k=some ((),KG):=acF k hk 256 k 0 (by omega) (by omega)
def KH:Nat→List Int→Nat
 |c,[]=>c
 |c,y::r=>KH (Ei 8 (c%256^^^y.toNat)^^^(c/256)) r
def E5(b:List Int):Nat:=KH 4294967295 b^^^4294967295
theorem aaZ(hk:1000≤k)(b:List Int)(hb:b.length<1000000000)(hby:∀x,x∈b→0≤x∧x<256):∀(post pre:List Int) (f c:Nat),b=pre++post→post.length<f→c<2^32→
 KH c post<2^32∧Hf.l6 k f (c:Int) b (b.length:Int) (pre.length:Int) KG=some ((KH c post^^^4294967295:Nat):Int)∧Hu.l5 k f b (c:Int) (pre.length:Int)=some ((KH c post^^^4294967295:Nat):Int):=by
 intro post
 induction post with
 |nil=>
  intro pre f c hp hf hc;obtain⟨f,rfl⟩:∃x,f=x+1:=⟨f-1,by omega⟩;have:b=pre:=by simpa using hp
  subst this;have e:bits .xor .i64 (c:Int) 4294967295=((c^^^4294967295:Nat):Int):=Kr (b:=4294967295) (by omega) (by decide);simp only[Hf.l6,Hu.l5,A8 (show ¬(b.length:Int)<(b.length:Int) by omega),AU,e];exact⟨hc,rfl,rfl⟩
 |cons y post ih=>
  intro pre f c hp hf hc;simp only[Co] at hf;obtain⟨f,rfl⟩:∃x,f=x+1:=⟨f-1,by omega⟩;have hlen:b.length=pre.length+(post.length+1):=by rw[hp];simp
  have hg:gP b (pre.length:Int)=some y:=by rw[hp];exact Ej pre post y
  obtain⟨y0,y1⟩:=hby y (by rw[hp];simp);obtain⟨y,rfl⟩:∃m:Nat,y=m:=⟨y.toNat,by omega⟩;have RV:bits .and .i64 (c:Int) 255=((c%256:Nat):Int):=by rw[KC];omega
  have ey:IntKind.wrap .i64 ((y:Nat):Int)=((y:Nat):Int):=AY (by omega) (by omega);have hix:c%256^^^y<256:=Nat.xor_lt_two_pow (n:=8) (by omega) (by omega);have ex:bits .xor .i64 ((c%256:Nat):Int) ((y:Nat):Int)=((c%256^^^y:Nat):Int):=Kr (by omega) (by omega);have htab:gP KG ((c%256^^^y:Nat):Int)=some ((Ei 8 (c%256^^^y):Nat):Int):=by
   rw[Cg];unfold KG;rw[List.getElem?_map,List.getElem?_range hix];rfl
  have Ny:qW .i64 (c:Int) 8=((c/256:Nat):Int):=by
   rw[show(8:Int)=((8:Nat):Int) from rfl,FT .i64 _ 8 (by decide)];simp
  have hT:=O0 8 (c%256^^^y) (by omega);have x1:bits .xor .i64 ((Ei 8 (c%256^^^y):Nat):Int) ((c/256:Nat):Int)=((Ei 8 (c%256^^^y)^^^(c/256):Nat):Int):=Kr (by omega) (by omega);have x2:bits .xor .i64 ((c/256:Nat):Int) ((Ei 8 (c%256^^^y):Nat):Int)=((Ei 8 (c%256^^^y)^^^(c/256):Nat):Int):=by rw[Kr (by omega) (by omega),Nat.xor_comm]
  have e3:IntKind.wrap .i64 ((pre.length:Int)+1)=(pre.length:Int)+1:=AY (by omega) (by omega);simp only[Hf.l6,Hu.l5,AZ (show(pre.length:Int)<(b.length:Int) by omega),AP,hg,AQ,RV,ey,ex,htab,Ny,x1,(O1 k (by omega) (c%256^^^y) (by omega)).2,x2,e3];have:=ih (pre++[((y:Nat):Int)]) f (Ei 8 (c%256^^^y)^^^(c/256)) (by rw[hp];simp) (by omega) (Nat.xor_lt_two_pow hT (by omega));rw[BJ,CQ] at this;exact this
theorem Nj(hk:1000≤k)(b:List Int)(hb:b.length<1000000000)(hlk:b.length<k)(hby:∀x,x∈b→0≤x∧x<256):E5 b<2^32∧Jo k b=some ((E5 b:Nat):Int)∧Hw k b=some ((E5 b:Nat):Int):=by
 unfold Jo Hw Hf Hu;have e:bits .xor .i64 0 4294967295=((4294967295:Nat):Int):=Kr (a:=0) (b:=4294967295) (by decide) (by decide);obtain⟨r0,r1,r2⟩:=aaZ k hk b hb hby b [] k 4294967295 rfl hlk (by decide);rw[List.length_nil,show((0:Nat):Int)=0 from rfl] at r1 r2;simp only[CB,Dc,show(decide ((0:Int)≤0)&&decide ((0:Int)≤4294967295))=true by decide,AQ,Bb,AU,acE k hk,e,r1,r2];exact⟨Nat.xor_lt_two_pow r0 (by decide),rfl,rfl⟩
theorem Rz(hk:1000≤k)(b:List Int)(hb:b.length<1000000000)(hlk:b.length<k)(hby:∀x,x∈b→0≤x∧x<256):∃r:Int,Jo k b=some r∧Hw k b=some r:=by
 obtain⟨_,h1,h2⟩:=Nj k hk b hb hlk hby;exact⟨_,h1,h2⟩
end Go.Bd
end
section
namespace Go.Bd
open Go.Am Go.Fn
attribute [-simp] List.length_flatten
def CL(id x:Int):AR:=(5,id,x,⟨#[]⟩,0,())
def FC(id m:Int):AR:=(12,id,0,⟨#[]⟩,m,())
theorem aa5{id x:Int}(h0: -2147483648≤x)(h1:x≤2147483647):Cr (CL id x)=true:=by
 unfold Cr CL;simp[h0,h1,F6]
theorem aa7{id m:Int}(h:0≤m):Cr (FC id m)=true:=by
 unfold Cr FC;simp[h,F6]
inductive Parts(E:List AR→Prop):Nat→Int→List AR→Prop
 |nil (l:Int):Parts E 0 l []
 |cons {c:Nat} {l:Int} {p:AR} {Y Z:List AR} (h1:l+1≤p.2.1) (h2:p.2.1≤1000) (hE:E (p::Y)) (h:Parts E c p.2.1 Z):Parts E (c+1) l (p::Y++Z)
theorem Parts.enc{E:List AR→Prop}{n:AR}(hn:n.1=12):∀{c:Nat} {l:Int} {X:List AR},Parts E c l X→H6 E n c l X
 |_,_,_,.nil _=>rfl
 |_,_,_,.cons h1 h2 hE h=>⟨_,_,_,rfl,fun h9=>by omega,fun _=>⟨h1,h2⟩,hE,h.enc hn⟩
theorem R3(d:Nat){id x:Int}(h0: -2147483648≤x)(h1:x≤2147483647):Enc (d+1) [CL id x]:=⟨aa5 h0 h1,rfl⟩
theorem Nn(d:Nat){id:Int}{c:Nat}{X:List AR}(h:Parts (Enc d) c 0 X):Enc (d+1) (FC id c::X):=
 ⟨aa7 (by omega),by show H6 (Enc d) (FC id c) (c:Int).toNat 0 X;rw[Int.toNat_natCast];exact h.enc rfl⟩
theorem Parts.int{d c:Nat}{l id x:Int}{Z:List AR}(h:Parts (Enc (d+1)) c id Z)(h1:l+1≤id)(h2:id≤1000)(h3: -2147483648≤x)(h4:x≤2147483647):Parts (Enc (d+1)) (c+1) l (CL id x::Z):=
 .cons (p:=CL id x) (Y:=[]) h1 h2 (R3 d h3 h4) h
def EB(r:Nat):Int:=if(r:Int)≤2147483647 then r else(r:Int)-4294967296
def Dj(kind size:Int)(sum:Bool)(r:Nat)(own:List AR):List AR:=
 FC 0 (((if sum then 5 else 4:Nat):Nat):Int)::CL 1 kind::CL 2 size::CL 3 size::((if sum then[CL 4 (EB r)] else[])++own)
theorem aab{kind size:Int}{sum:Bool}{r:Nat}{p:AR}{Y:List AR}(h0:0≤kind)(h1:kind≤3)(h2:0≤size)(h3:size≤2147483647)(hr:r<2^32)(hp:5≤p.2.1∧p.2.1≤8)
 (hE:Enc 11 (p::Y)):Enc 12 (Dj kind size sum r (p::Y)):=by
 have last:∀l:Int,l≤4→Parts (Enc 11) 1 l (p::Y):=fun l hl=>by
  have:=Parts.cons (E:=Enc 11) (l:=l) (p:=p) (Y:=Y) (by omega) (by omega) hE (.nil _)
  rwa [DU] at this
 unfold Dj;cases sum with
 |false=>exact Nn 11 (.int (.int (.int (last 3 (by omega)) (by omega) (by omega) (by omega) (by omega)) (by omega) (by omega) (by omega) (by omega)) (by omega) (by omega) (by omega) (by omega))
 |true=>
  have hc: -2147483648≤EB r∧EB r≤2147483647:=by unfold EB;split<;>omega
  exact Nn 11 (.int (.int (.int (.int (last 4 (by omega)) (by omega) (by omega) hc.1 hc.2) (by omega) (by omega) (by omega) (by omega)) (by omega) (by omega) (by omega) (by omega)) (by omega) (by omega) (by omega) (by omega))
variable(k:Nat)
theorem Ms(id x:Int):IC k id x=some (CL id x):=rfl
theorem ND(id x:Int):IY k id x=some (CL id x):=rfl
theorem Kq{id x:Int}(h0:Bt id)(h1:Bt x):DD (CL id x):=I8 ⟨by omega,by omega⟩ h0 h1 ⟨by omega,by omega⟩ (by decide)
theorem QK{id m:Int}(h0:Bt id)(h1:Bt m):DD (FC id m):=I8 i12 h0 ⟨by omega,by omega⟩ h1 (by decide)
theorem aad{kind size:Int}{sum:Bool}{r:Nat}{own:List AR}(h0:0≤kind)(h1:kind≤3)(h2:0≤size)(h3:size≤2147483647)(hr:r<2^32)(ho:∀n,n∈own→DD n):∀n,n∈Dj kind size sum r own→DD n:=by
 have hc: -2147483648≤EB r∧EB r≤2147483647:=by unfold EB;split<;>omega
 intro n hn;unfold Dj at hn;simp only[List.mem_cons,List.mem_append] at hn;rcases hn with rfl|rfl|rfl|rfl|hn|hn
 ·exact QK ⟨by omega,by omega⟩ (by split<;>exact⟨by omega,by omega⟩)
 ·exact Kq ⟨by omega,by omega⟩ ⟨by omega,by omega⟩
 ·exact Kq ⟨by omega,by omega⟩ ⟨by omega,by omega⟩
 ·exact Kq ⟨by omega,by omega⟩ ⟨by omega,by omega⟩
 ·split at hn
  ·obtain rfl:=List.mem_singleton.1 hn
   exact Kq ⟨by omega,by omega⟩ ⟨by omega,by omega⟩
  ·cases hn
 ·exact ho n hn
theorem aaC(x:Int):GR k x=some (decide (-2147483648≤x)&&decide (x≤2147483647)):=by
 unfold GR;simp only[CB,AQ]
theorem acL(hk:2000≤k)(l:List AR)(n:AR)(X:List AR)(hl:l=n::X)(hE:Enc 12 l)(hw:∀n,n∈l→DD n)(hlen:l.length≤1500)(h12:n.1=12)(h0:n.2.1=0):
 ∃B,Jp k l=some (((),true),B)∧(∃B',Le k l=some (((),true),B')∧B'.length≤600000)∧B.length≤1000000∧Bn B∧1≤B.length∧
  ∀(pre r:List Int),pre.length+r.length<4000000000000000000→Gm k (pre++(B++r)) (pre.length:Int)=some (((),((pre.length+B.length:Nat):Int),0),l):=by
 have hok:=QA k hk n X (hl▸hE) (hl▸hlen) h12 h0;rw[←hl] at hok;obtain⟨b,h1,h3⟩:=acK k hk l hw (by omega);rw[hok] at h1;obtain rfl:=Option.some.inj h1;rcases h3 with⟨h,_⟩|⟨_,B,q1,q2,q3,qc,q4⟩
 ·cases h
 obtain⟨b,g1,g2⟩:=MQ k hk l hw (by omega);rw[hok] at g1;obtain rfl:=Option.some.inj g1;rcases g2 with⟨h,_⟩|⟨_,_,hl1,af,hx,hS,m,hm,_,_⟩
 ·cases h
 obtain⟨B',s1,s2,s3⟩:=acg k hk l hlen hw af 12 k 0 l.length (by omega) hS (Nat.le_refl _);have hpos:1≤B.length:=by
  rcases Nat.eq_zero_or_pos B.length with h|h
  ·exfalso
   obtain rfl:=List.eq_nil_of_length_eq_zero h;have h1:=q4 [] [] (by simp);have h2:=Od k hk [] (by simp) Bn.nil 0;unfold JA at h2;rw[if_neg (by simp)] at h2;simp only[DU,List.length_nil,Nat.add_zero] at h1;have h3:=h2.2.2.symm.trans h1;simp at h3
  ·exact h
 refine⟨B,q1,⟨B',?_,by omega⟩,q2,q3,hpos,q4⟩;have s1:BA k l 0=some (((),(l.length:Int)),B'):=s1;unfold Le;simp only[hok,AQ,Bb,AU,s1]
theorem aac(hk:2000≤k){kind size:Int}{sum:Bool}{r:Nat}{p:AR}{Y:List AR}(h0:0≤kind)(h1:kind≤3)(h2:0≤size)(h3:size≤2147483647)(hr:r<2^32)(hp:5≤p.2.1∧p.2.1≤8)
 (hE:Enc 11 (p::Y)) (hw:∀n,n∈p::Y→DD n) (hlen:Y.length≤1000):
 ∃B,Jp k (Dj kind size sum r (p::Y))=some (((),true),B)∧(∃B',Le k (Dj kind size sum r (p::Y))=some (((),true),B')∧B'.length≤600000)∧B.length≤1000000∧Bn B∧1≤B.length∧
  ∀(pre r':List Int),pre.length+r'.length<4000000000000000000→Gm k (pre++(B++r')) (pre.length:Int)=some (((),((pre.length+B.length:Nat):Int),0),Dj kind size sum r (p::Y)):=
 acL k hk _ _ _ rfl (aab h0 h1 h2 h3 hr hp hE) (aad h0 h1 h2 h3 hr hw) (by unfold Dj;cases sum<;>simp<;>omega) rfl rfl
theorem abn(hk:200000≤k)(kind:Int)(body:List Int)(sum:Bool)(p:AR)(Y:List AR)(hb:body.length<150000)(hby:∀x,x∈body→0≤x∧x<256)(h0:0≤kind)(h1:kind≤3)(hp:5≤p.2.1∧p.2.1≤8)
 (hE:Enc 11 (p::Y)) (hw:∀n,n∈p::Y→DD n) (hlen:Y.length≤1000):
 ∃B,E_ k kind body sum (p::Y)=some ((),B++body)∧(∃B',Ff k kind body sum (p::Y)=some (((),true),B'))∧B.length≤1000000∧Bn B∧1≤B.length∧
  ∀(pre r':List Int),pre.length+r'.length<4000000000000000000→Gm k (pre++(B++r')) (pre.length:Int)=some (((),((pre.length+B.length:Nat):Int),0),Dj kind (body.length:Int) sum (E5 body) (p::Y)):=by
 obtain⟨c0,c1,c2⟩:=Nj k (by omega) body (by omega) (by omega) hby;obtain⟨B,t1,⟨B',t2,t7⟩,t3,t4,t5,t6⟩:=aac k (by omega) (kind:=kind) (size:=(body.length:Int)) (sum:=sum) (r:=E5 body) h0 h1 (by omega) (by omega) c0 hp hE hw hlen;refine⟨B,?_,?_,t3,t4,t5,t6⟩
 ·unfold E_
  simp only[Ms,AQ];have fin:∀o:List (List AR),o.length≤4→o.flatten.length≤4→FC 0 ((o.length+1:Nat):Int)::(o.flatten++(p::Y))=Dj kind (body.length:Int) sum (E5 body) (p::Y)→E_.c7 k body (p::Y) o=some ((),B++body):=by
   intro o ho ho2 he;unfold E_.c7;rw[Bz (by simp;omega),AP,Qy k 0 (o++[p::Y]) (by simp;omega) (by simp;omega) (by simp;omega)];simp only[AQ];have e:((12,0,0,A7,((o++[p::Y]).length:Int),())::(o++[p::Y]).flatten:List AR)=Dj kind (body.length:Int) sum (E5 body) (p::Y):=by
    rw[←he];simp[FC]
   rw[e,t1];simp only[AQ];rw[Bz (by omega),AP]
  cases sum with
  |false=>
   rw[AU];exact fin _ (by simp) (by simp) (by simp[Dj])
  |true=>
   rw[AP,c1];simp only[AQ,aaC];have hge:decide ((-2147483648:Int)≤((E5 body:Nat):Int))=true:=AZ (by omega);rw[hge,Er];by_cases hle:((E5 body:Nat):Int)≤2147483647
   ·rw[AZ hle,Bb,AU]
    unfold E_.c6;simp only[Ms,AQ];rw[Bz (by simp),AP];exact fin _ (by simp) (by simp) (by simp[Dj,EB,hle])
   ·rw[A8 hle,Bv,AP]
    unfold E_.c6;simp only[Ms,AQ];rw[Bz (by simp),AP,AY (by omega) (by omega)];exact fin _ (by simp) (by simp) (by simp[Dj,EB,hle])
 ·unfold Ff
  simp only[ND,AQ];have fin:∀o:List AR,o.length≤5→o++(p::Y)=Dj kind (body.length:Int) sum (E5 body) (p::Y)→Ff.c8 k body (p::Y) o=some (((),true),B'++body):=by
   intro o ho he;unfold Ff.c8;rw[Bz (by simp;omega),AP,he,t2];simp only[AQ,Bb,AU];rw[Bz (by omega),AP]
  cases sum with
  |false=>
   rw[AU];exact⟨_,fin _ (by simp) (by simp[Dj,FC,CL])⟩
  |true=>
   rw[AP,c2];simp only[AQ];have c6:∀x,x=EB (E5 body)→Ff.c6 k body (p::Y) x [(12,0,0,A7,4,()),CL 1 kind,CL 2 (body.length:Int),CL 3 (body.length:Int)]=some (((),true),B'++body):=by
    intro x hx;subst hx;unfold Ff.c6;simp only[show gP [((12,0,0,A7,4,()):AR),CL 1 kind,CL 2 (body.length:Int),CL 3 (body.length:Int)] 0=some (12,0,0,A7,4,()) from rfl,AQ,ND];rw[Bz (by simp),AP];exact fin _ (by simp) (by simp[Dj,FC,CL])
   by_cases hle:((E5 body:Nat):Int)≤2147483647
   ·rw[A8 (show ¬((E5 body:Nat):Int)>2147483647 by omega),AU]
    exact⟨_,c6 _ (by unfold EB;rw[if_pos hle])⟩
   ·rw[AZ (show((E5 body:Nat):Int)>2147483647 by omega),AP,AY (by omega) (by omega)]
    exact⟨_,c6 _ (by unfold EB;rw[if_neg hle])⟩
end Go.Bd
end
section
namespace Go.Bd
open Go.Am Go.Fn
variable(k:Nat)
theorem Mg{p:Nat}(h:p<1152921504606846976):IntKind.wrap .i64 (Int.tdiv (p:Int) 8)=((p/8:Nat):Int):=by
 rw[N_ (by omega),AY (by omega) (by omega)];omega
theorem Mf(p:Nat):Int.tmod (p:Int) 8=((p%8:Nat):Int):=by
 rw[acI (by omega)];omega
theorem Qe{M p b:Nat}(h:M<2^p)(hb:b≤1):bits .or .u8 ((M/256^(p/8)%256:Nat):Int) (qV .u8 (b:Int) ((p%8:Nat):Int))=((M/256^(p/8)+b*2^(p%8):Nat):Int):=by
 have h1:=OU h;have h2:=OV h hb;have h3:=Nat.mod_lt p (show 8>0 by decide);have h4:M/256^(p/8)%256=M/256^(p/8):=Nat.mod_eq_of_lt (by omega);rw[h4];have:=IM .u8 (a:=M/256^(p/8)) (b:=b) (i:=p%8) (show p%8≤8 by omega) h1 (show _<2^8 by omega);rw[w8 (by omega) (by omega)] at this;rw[this,w8 (by omega) (by omega)]
theorem P7{M0 u q j:Nat}(h:M0<2^q):M0+(u%2^j)*2^q<2^(q+j):=by
 have h1:=Nat.mod_lt u (Nat.two_pow_pos j);have h2:(u%2^j+1)*2^q≤2^j*2^q:=Nat.mul_le_mul_right _ h1;rw[Nat.add_mul,Nat.one_mul] at h2;rw[Nat.pow_add,Nat.mul_comm (2^q)];omega
theorem P8(M0 u q j:Nat):M0+(u%2^j)*2^q+(u/2^j%2)*2^(q+j)=M0+(u%2^(j+1))*2^q:=by
 rw[mod_succ,Nat.add_mul,Nat.mul_assoc (u/2^j%2),←Nat.pow_add,Nat.add_comm j q,Nat.add_assoc]
theorem Qr(v:Int){j:Nat}(hj:j<64):bits .and .i64 (qW .i64 v (j:Int)) 1=((u64 v/2^j%2:Nat):Int):=by
 rw[FT .i64 v j (show j≤64 by omega),and1,bit_eq v hj]
theorem abk(L3:Int→(List Int)→Int→Int→(List Int)→Option (Unit×(List Int)))(vs:List Int)(len v:Int)(w i q L M0:Nat)(hw:w≤64)(hq:(i:Int)*(w:Int)=(q:Int))(KQ:q+w≤8*L)(hL:L<1000000)(hi:i<1000000)(hM:M0<2^q):
 ∀(m n j:Nat),j+m=w→m<n→Ep.l6 k L3 n (w:Int) (i:Int) v vs len (i:Int) (w:Int) (j:Int) (leB L (M0+(u64 v%2^j)*2^q))=L3 (w:Int) vs len ((i+1:Nat):Int) (leB L (M0+(u64 v%2^w)*2^q)):=by
 intro m
 induction m with
 |zero=>
  intro n j hj hn;obtain⟨n,rfl⟩:∃x,n=x+1:=⟨n-1,by omega⟩;obtain rfl:j=w:=by omega
  simp only[Ep.l6,A8 (show ¬(j:Int)<(j:Int) by omega),AU];rw[AY (by omega) (by omega)]
  congr 1
 |succ m ih=>
  intro n j hj hn;obtain⟨n,rfl⟩:∃x,n=x+1:=⟨n-1,by omega⟩;have hp:IntKind.wrap .i64 (IntKind.wrap .i64 ((i:Int)*(w:Int))+(j:Int))=((q+j:Nat):Int):=by
   rw[hq,AY (x:=(q:Int)) (by omega) (by omega),AY (by omega) (by omega)];omega
  have hlt:=P7 (u:=u64 v) (j:=j) hM;have hb:u64 v/2^j%2≤1:=by omega
  have hg:gP (leB L (M0+u64 v%2^j*2^q)) (((q+j)/8:Nat):Int)=some _:=K6 (by omega);have hbi:IntKind.wrap .u8 ((u64 v/2^j%2:Nat):Int)=((u64 v/2^j%2:Nat):Int):=w8 (by omega) (by omega);simp only[Ep.l6,AZ (show(j:Int)<(w:Int) by omega),AP,hp,Mg (show q+j<1152921504606846976 by omega),Mf,hg,AQ,AZ (show(0:Int)≤(j:Int) by omega),AZ (show(0:Int)≤(((q+j)%8:Nat):Int) by omega),Qr v (show j<64 by omega),hbi,Qe hlt hb,Int.toNat_natCast,PV (show q+j<8*L by omega) hlt hb,P8];rw[AY (by omega) (by omega)];exact ih n (j+1) (by omega) (by omega)
def Ga(w:Nat)(vs:List Int):Nat:=F_ w (vs.map u64)
theorem abl(w L:Nat)(hw:w≤64)(hL:L<1000000)(hk:w<k)(vs:List Int)(hvs:vs.length<1000000)(hb:vs.length*w≤8*L):∀(post pre:List Int) (n:Nat),vs=pre++post→post.length<n→
 Ep.l3 k n (w:Int) vs (vs.length:Int) (pre.length:Int) (leB L (Ga w pre))=some ((),leB L (Ga w vs)):=by
 intro post
 induction post with
 |nil=>
  intro pre n hv hn;obtain⟨n,rfl⟩:∃x,n=x+1:=⟨n-1,by omega⟩;have:vs=pre:=by simpa using hv
  subst this;simp only[Ep.l3,A8 (show ¬(vs.length:Int)<(vs.length:Int) by omega),AU]
 |cons v post ih=>
  intro pre n hv hn;simp only[Co] at hn;obtain⟨n,rfl⟩:∃x,n=x+1:=⟨n-1,by omega⟩;have hlen:vs.length=pre.length+(post.length+1):=by rw[hv];simp
  have hg:gP vs (pre.length:Int)=some v:=by rw[hv,Cg,List.getElem?_append_right (Nat.le_refl _)];simp
  have hM:=NK w (pre.map u64);rw[List.length_map] at hM;have hmul:pre.length*w+w≤vs.length*w:=by
   have:(pre.length+1)*w≤vs.length*w:=Nat.mul_le_mul_right _ (by omega);rw[Nat.add_mul,Nat.one_mul] at this;exact this
  have hi:=abk k (Ep.l3 k n) vs (vs.length:Int) v w pre.length (pre.length*w) L (Ga w pre) hw (by simp) (by omega) hL (by omega) hM w k 0 (by omega) hk;simp only[Nat.pow_zero,Nat.mod_one,Nat.zero_mul,Nat.add_zero] at hi;simp only[Ep.l3,AZ (show(pre.length:Int)<(vs.length:Int) by omega),AP,hg,AQ];have h0:((0:Nat):Int)=0:=rfl;rw[h0] at hi;rw[hi];have:=ih (pre++[v]) n (by rw[hv];simp) (by omega);rw[BJ,CQ] at this;rw[←this];unfold Ga;rw[List.map_append,List.map_singleton,NL,List.length_map]
theorem len8{n w:Nat}(hn:n≤100000)(hw:w≤64):IntKind.wrap .i64 (Int.tdiv (IntKind.wrap .i64 (IntKind.wrap .i64 ((n:Int)*(w:Int))+7)) 8)=((bytesOf n w:Nat):Int)∧bytesOf n w<1000000∧n*w≤8*bytesOf n w:=by
 have h1:n*w≤100000*64:=Nat.mul_le_mul hn hw;have h2:(n:Int)*(w:Int)=((n*w:Nat):Int):=by simp
 unfold bytesOf;rw[h2];generalize n*w=q at h1⊢;rw[AY (x:=(q:Int)) (by omega) (by omega),AY (x:=(q:Int)+7) (by omega) (by omega),N_ (by omega),AY (by omega) (by omega)];omega
def Fw(w:Nat)(vs:List Int):List Int:=leB (bytesOf vs.length w) (Ga w vs)
theorem abj(vs:List Int)(w:Nat)(hw:w≤64)(hvs:vs.length≤100000)(hk:vs.length<k)(hk2:w<k):Ep k vs (w:Int)=some ((),Fw w vs):=by
 obtain⟨h1,h2,h3⟩:=len8 hvs hw;unfold Ep;rw[h1,Kb (by omega) (by omega),AP,Int.toNat_natCast,←PW];exact abl k w _ hw h2 hk2 vs (by omega) h3 vs [] k rfl hk
theorem Ri(pre post:List Int)(L M p:Nat)(hp:p<8*L)(hl:pre.length+L<100000000000000000):Mh k (pre++(leB L M++post)) ((8*pre.length+p:Nat):Int)=some ((M/2^p%2:Nat):Int):=by
 unfold Mh;have hd:(8*pre.length+p)/8=pre.length+p/8:=by omega
 have hm:(8*pre.length+p)%8=p%8:=by omega
 have hg:gP (pre++(leB L M++post)) ((pre.length+p/8:Nat):Int)=some ((M/256^(p/8)%256:Nat):Int):=by
  rw[Cg,List.getElem?_append_right (by omega),List.getElem?_append_left (by rw[De];omega),Nat.add_sub_cancel_left];exact K6 (by omega)
 simp only[A8 (show ¬(((8*pre.length+p:Nat):Int)<0) by omega),AU,Mg (show 8*pre.length+p<1152921504606846976 by omega),Mf,hd,hm,hg,AQ,
  A8 (show ¬(((pre.length+p/8:Nat):Int)≥((pre++(leB L M++post)).length:Int)) by simp[De];omega),AZ (show(0:Int)≤((p%8:Nat):Int) by omega),AP]
 rw[FT .u8 _ (p%8) (show p%8≤8 by omega)];have h1:((M/256^(p/8)%256:Nat):Int)/2^(p%8)=((M/256^(p/8)%256/2^(p%8):Nat):Int):=by simp
 rw[h1];have hlt:M/256^(p/8)%256/2^(p%8)<256:=Nat.lt_of_le_of_lt (Nat.div_le_self _ _) (Nat.mod_lt _ (by decide));have hb:=PT M p;generalize M/256^(p/8)%256/2^(p%8)=x at hlt hb;have h2:=bits_mask .u8 8 (by decide) wraps_u8 1 (by decide) (x:Int) (by omega) (by omega);have h2:bits .and .u8 (x:Int) 1=(x:Int)%2:=h2;rw[h2,AY (by omega) (by omega),←hb];simp
def DL(w M i:Nat):Int:=IntKind.wrap .i64 ((M/2^(i*w)%2^w:Nat):Int)
theorem acS(L3:(List Int)→Int→Int→Int→Int→(List Int)→Option (Unit×(List Int)))(pre post:List Int)(L M w i q:Nat)(t14:Int)(hw:w≤64)(hq:(i:Int)*(w:Int)=(q:Int))(Jn:i*w=q)(KQ:q+w≤8*L)(hl:pre.length+L<10000000000000000)(hi:i<1000000)(o:List Int)(ho:o.length<1000000):
 ∀(m n j:Nat),j+m=w→m<n→DY.l7 k L3 n (pre++(leB L M++post)) (pre.length:Int) (w:Int) (i:Int) (IntKind.wrap .i64 ((M/2^q%2^j:Nat):Int)) t14 (i:Int) (w:Int) (j:Int) o=L3 (pre++(leB L M++post)) (pre.length:Int) (w:Int) t14 ((i+1:Nat):Int) (o++[DL w M i]):=by
 intro m
 induction m with
 |zero=>
  intro n j hj hn;obtain⟨n,rfl⟩:∃x,n=x+1:=⟨n-1,by omega⟩;obtain rfl:j=w:=by omega
  simp only[DY.l7,A8 (show ¬(j:Int)<(j:Int) by omega),AU];rw[Bz (by simp;omega),AP,AY (x:=(i:Int)+1) (by omega) (by omega)];unfold DL;rw[Jn]
  congr 1
 |succ m ih=>
  intro n j hj hn;obtain⟨n,rfl⟩:∃x,n=x+1:=⟨n-1,by omega⟩;have hp:IntKind.wrap .i64 (IntKind.wrap .i64 (IntKind.wrap .i64 (8*(pre.length:Int))+IntKind.wrap .i64 ((i:Int)*(w:Int)))+(j:Int))=((8*pre.length+(q+j):Nat):Int):=by
   rw[hq,AY (x:=(q:Int)) (by omega) (by omega),AY (x:=8*(pre.length:Int)) (by omega) (by omega),AY (x:=8*(pre.length:Int)+(q:Int)) (by omega) (by omega),AY (by omega) (by omega)];omega
  have hb:=Ri k pre post L M (q+j) (by omega) (by omega);simp only[DY.l7,AZ (show(j:Int)<(w:Int) by omega),AP,hp,hb,AQ,AZ (show(0:Int)≤(j:Int) by omega)];have hlt:M/2^q%2^j<2^j:=Nat.mod_lt _ (Nat.two_pow_pos j);have hjj:2^(j+1)≤2^64:=Nat.pow_le_pow_right (by decide) (by omega);have hb1:M/2^(q+j)%2≤1:=by omega
  have hb2:M/2^(q+j)%2*2^j≤1*2^j:=Nat.mul_le_mul_right _ hb1;have ho:=IM .i64 (a:=M/2^q%2^j) (b:=M/2^(q+j)%2) (i:=j) (show j≤64 by omega) hlt (show _<2^64 by rw[Nat.pow_succ] at hjj;omega);rw[ho];have hs:M/2^q%2^j+M/2^(q+j)%2*2^j=M/2^q%2^(j+1):=by
   rw[mod_succ,Nat.div_div_eq_div_mul,←Nat.pow_add]
  rw[hs,AY (x:=(j:Int)+1) (by omega) (by omega),show((j:Int)+1)=((j+1:Nat):Int) by omega];exact ih n (j+1) (by omega) (by omega)
theorem acU(pre post:List Int)(L M w N:Nat)(hw:w≤64)(hN:N*w≤8*L)(hl:pre.length+L<10000000000000000)(JU:N<1000000)(hk:w<k):
 ∀(m n i:Nat) (o:List Int),i+m=N→m<n→o.length=i→DY.l3 k n (pre++(leB L M++post)) (pre.length:Int) (w:Int) (N:Int) (i:Int) o=some ((),o++(List.range' i m).map (DL w M)):=by
 intro m
 induction m with
 |zero=>
  intro n i o hi hn ho;obtain⟨n,rfl⟩:∃x,n=x+1:=⟨n-1,by omega⟩;simp only[DY.l3,A8 (show ¬(i:Int)<(N:Int) by omega),AU];simp
 |succ m ih=>
  intro n i o hi hn ho;obtain⟨n,rfl⟩:∃x,n=x+1:=⟨n-1,by omega⟩;have hmul:i*w+w≤N*w:=by
   have:(i+1)*w≤N*w:=Nat.mul_le_mul_right _ (by omega);rw[Nat.add_mul,Nat.one_mul] at this;exact this
  have hi':=acS k (DY.l3 k n) pre post L M w i (i*w) (N:Int) hw (by simp) rfl (by omega) hl (by omega) o (by omega) w k 0 (by omega) hk;simp only[Nat.pow_zero,Nat.mod_one] at hi';simp only[DY.l3,AZ (show(i:Int)<(N:Int) by omega),AP];have h0:((0:Nat):Int)=0:=rfl;have hw0:IntKind.wrap .i64 0=0:=rfl;rw[h0,hw0] at hi';rw[hi',ih n (i+1) _ (by omega) (by omega) (by simp;omega)];simp[List.range'_succ]
theorem MU(pre post:List Int)(L M w N:Nat)(hw:w≤64)(hN:N*w≤8*L)(hl:pre.length+L<10000000000000000)(JU:N<1000000)(hk:w<k)(hk2:N<k):
 DY k (pre++(leB L M++post)) (pre.length:Int) (N:Int) (w:Int)=some ((),(List.range N).map (DL w M)):=by
 unfold DY;have:=acU k pre post L M w N hw hN hl JU hk N k 0 [] (by omega) hk2 rfl;rw[List.range_eq_range'];simpa using this
theorem unpack_pack(w:Nat)(vs:List Int)(hv:∀v,v∈vs→Bt v∧u64 v<2^w)(i:Nat)(v:Int)(h:vs[i]?=some v):DL w (Ga w vs) i=v:=by
 obtain⟨h1,h2⟩:=hv v (List.mem_of_getElem? h);unfold DL Ga;rw[Qh w _ i (u64 v) (by simp[h]),Nat.mod_eq_of_lt h2,wrap_u64 h1]
theorem acT(w:Nat)(vs:List Int)(hv:∀v,v∈vs→Bt v∧u64 v<2^w)(N:Nat)(hN:N≤vs.length):(List.range N).map (DL w (Ga w vs))=vs.take N:=by
 apply List.ext_getElem (by simp;omega);intro i h1 h2;simp only[List.length_map,List.length_range] at h1;simp only[List.getElem_map,List.getElem_range,List.getElem_take];exact unpack_pack w vs hv i _ (Jv (by omega))
end Go.Bd
end
section
namespace Go.Bd
open Go.Am Go.Fn
def wv:List Int→Nat
 |[]=>0
 |c::r=>c.toNat+256*wv r
theorem QU:∀(l:List Int),(∀x,x∈l→0≤x∧x<256)→wv l<2^(8*l.length)
 |[],_=>by simp[wv]
 |c::r,h=>by
  have h1:=QU r (fun x hx=>h x (by simp[hx]));obtain⟨h2,h3⟩:=h c (by simp);simp only[wv,Co];have:2^(8*(r.length+1))=256*2^(8*r.length):=by rw[Nat.mul_add,Nat.pow_add];simp[Nat.mul_comm]
  omega
theorem QN(k:Nat)(b:List Int)(p n:Nat)(hn:n≤8)(hl:p+n≤b.length)(hb:b.length<4611686018427387904)(hby:∀x,x∈b→0≤x∧x<256):∀(m f i acc:Nat),i+m=n→m<f→acc<2^(8*i)→
 Fe.l5 k f b (p:Int) (n:Int) (IntKind.wrap .i64 (acc:Int)) (i:Int)=some (IntKind.wrap .i64 ((acc+wv ((b.drop (p+i)).take m)*2^(8*i):Nat):Int),((p+n:Nat):Int),true)∧
 ED.l5 k f b (p:Int) (n:Int) (IntKind.wrap .i64 (acc:Int)) (n:Int) (i:Int)=some (IntKind.wrap .i64 ((acc+wv ((b.drop (p+i)).take m)*2^(8*i):Nat):Int),((p+n:Nat):Int),true):=by
 intro m
 induction m with
 |zero=>
  intro f i acc hi hf ha;obtain⟨f,rfl⟩:∃q,f=q+1:=⟨f-1,by omega⟩;have e:IntKind.wrap .i64 ((p:Int)+(n:Int))=((p+n:Nat):Int):=by rw[AY (by omega) (by omega)];omega
  simp only[Fe.l5,ED.l5,A8 (show ¬((i:Int)<(n:Int)) by omega),AU,e,List.take_zero,wv,Nat.zero_mul,Nat.add_zero];exact⟨trivial,trivial⟩
 |succ m ih=>
  intro f i acc hi hf ha;obtain⟨f,rfl⟩:∃q,f=q+1:=⟨f-1,by omega⟩;obtain⟨c,hc,hc2⟩:=JM (show p+i<b.length by omega);obtain⟨c0,c1⟩:=hby c (List.mem_of_getElem? hc2);have e1:IntKind.wrap .i64 ((p:Int)+(i:Int))=((p+i:Nat):Int):=by rw[AY (by omega) (by omega)];omega
  have e2:IntKind.wrap .i64 (8*(i:Int))=((8*i:Nat):Int):=by rw[AY (by omega) (by omega)];omega
  have e3:IntKind.wrap .i64 ((i:Int)+1)=((i+1:Nat):Int):=by rw[AY (by omega) (by omega)];omega
  have ec:IntKind.wrap .i64 c=((c.toNat:Nat):Int):=by rw[AY (by omega) (by omega)];omega
  have Ma:2^(8*(i+1))=256*2^(8*i):=by rw[Nat.mul_add,Nat.pow_add];simp[Nat.mul_comm]
  have hle:2^(8*(i+1))≤2^64:=Nat.pow_le_pow_right (by omega) (by omega);have hlt:acc+c.toNat*2^(8*i)<2^(8*(i+1)):=by
   rw[Ma];have:c.toNat*2^(8*i)≤255*2^(8*i):=Nat.mul_le_mul_right _ (by omega);omega
  have G9:=IM .i64 (a:=acc) (b:=c.toNat) (i:=8*i) (show 8*i≤64 by omega) ha (by show _<2^64;omega);have hg:gP b ((p+i:Nat):Int)=some c:=by rw[Cg];exact hc2
  simp only[Fe.l5,ED.l5,AZ (show(i:Int)<(n:Int) by omega),AP,e1,hg,AQ,e2,AZ (show(0:Int)≤((8*i:Nat):Int) by omega),ec,G9,e3];obtain⟨i1,i2⟩:=ih f (i+1) _ (by omega) (by omega) hlt;have hw:acc+c.toNat*2^(8*i)+wv ((b.drop (p+(i+1))).take m)*2^(8*(i+1))=acc+wv ((b.drop (p+i)).take (m+1))*2^(8*i):=by
   rw[hc,List.take_succ_cons,wv,Ma,←Nat.add_assoc]
   grind
  rw[hw] at i1 i2;exact⟨i1,i2⟩
end Go.Bd
end
section
namespace Go.Bd
open Go.Am Go.Fn
variable(k:Nat)
abbrev Ci(b:List Int):Prop:=∀x,x∈b→0≤x∧x<256
theorem QS:∀(l:List Int),Ci l→∀(i:Nat) (x:Int),l[i]?=some x→x=((wv l/256^i%256:Nat):Int)
 |[],_,i,x,h=>by simp at h
 |c::r,hb,0,x,h=>by
  obtain⟨h0,h1⟩:=hb c (by simp);simp at h;subst h;simp only[wv,Nat.pow_zero,Nat.div_one];omega
 |c::r,hb,i+1,x,h=>by
  obtain⟨h0,h1⟩:=hb c (by simp);rw[QS r (fun y hy=>hb y (by simp[hy])) i x (by simpa using h)];have:(c.toNat+256*wv r)/256^(i+1)=wv r/256^i:=by
   rw[Nat.pow_succ,Nat.mul_comm (256^i) 256,←Nat.div_div_eq_div_mul]
   congr 1
   omega
  simp only[wv,this]
theorem NI(l:List Int)(hb:Ci l):l=leB l.length (wv l):=by
 apply List.ext_getElem (by rw[De]);intro i h1 h2;rw[QS l hb i l[i] (Jv h1)];have:=K6 (M:=wv l) h1;rw[Jv h2] at this;exact(Option.some.inj this).symm
theorem NF(pre post:List Int)(L M p:Nat)(hp:p<8*L)(hl:pre.length+L<100000000000000000):Lh k (pre++(leB L M++post)) ((8*pre.length+p:Nat):Int)=some ((M/2^p%2:Nat):Int):=by
 unfold Lh;have hd:(8*pre.length+p)/8=pre.length+p/8:=by omega
 have hm:(8*pre.length+p)%8=p%8:=by omega
 have hg:gP (pre++(leB L M++post)) ((pre.length+p/8:Nat):Int)=some ((M/256^(p/8)%256:Nat):Int):=by
  rw[Cg,List.getElem?_append_right (by omega),List.getElem?_append_left (by rw[De];omega),Nat.add_sub_cancel_left];exact K6 (by omega)
 have hlt:M/256^(p/8)%256<256:=Nat.mod_lt _ (by decide);simp only[Mg (show 8*pre.length+p<1152921504606846976 by omega),Mf,hd,hm,hg,AQ,AZ (show(0:Int)≤((p%8:Nat):Int) by omega),AP];rw[AY (x:=((M/256^(p/8)%256:Nat):Int)) (by omega) (by omega),FT .i64 _ (p%8) (show p%8≤64 by omega),and1,←PT M p];simp
theorem ace(L6:(List Int)→Int→Int→Int→Int→Int→(List Int)→Option ((Unit×Int×Bool)×(List Int)))(pre post:List Int)(L M w i q:Nat)(t2 t12:Int)(hw:w≤64)(hq:(i:Int)*(w:Int)=(q:Int))(Jn:i*w=q)(KQ:q+w≤8*L)(hl:pre.length+L<10000000000000000)(hi:i<1000000)(o:List Int)(ho:o.length<1000000):
 ∀(m n j:Nat),j+m=w→m<n→Fb.l10 k L6 n (pre++(leB L M++post)) (pre.length:Int) t2 (w:Int) t12 (i:Int) (IntKind.wrap .i64 ((M/2^q%2^j:Nat):Int)) (j:Int) o=L6 (pre++(leB L M++post)) (pre.length:Int) t2 (w:Int) t12 ((i+1:Nat):Int) (o++[DL w M i]):=by
 intro m
 induction m with
 |zero=>
  intro n j hj hn;obtain⟨n,rfl⟩:∃x,n=x+1:=⟨n-1,by omega⟩;obtain rfl:j=w:=by omega
  simp only[Fb.l10,A8 (show ¬(j:Int)<(j:Int) by omega),AU];rw[Bz (by simp;omega),AP,AY (x:=(i:Int)+1) (by omega) (by omega)];unfold DL;rw[Jn]
  congr 1
 |succ m ih=>
  intro n j hj hn;obtain⟨n,rfl⟩:∃x,n=x+1:=⟨n-1,by omega⟩;have hp:IntKind.wrap .i64 (IntKind.wrap .i64 (IntKind.wrap .i64 (8*(pre.length:Int))+IntKind.wrap .i64 ((i:Int)*(w:Int)))+(j:Int))=((8*pre.length+(q+j):Nat):Int):=by
   rw[hq,AY (x:=(q:Int)) (by omega) (by omega),AY (x:=8*(pre.length:Int)) (by omega) (by omega),AY (x:=8*(pre.length:Int)+(q:Int)) (by omega) (by omega),AY (by omega) (by omega)];omega
  have hb:=NF k pre post L M (q+j) (by omega) (by omega);simp only[Fb.l10,AZ (show(j:Int)<(w:Int) by omega),AP,hp,hb,AQ,AZ (show(0:Int)≤(j:Int) by omega)];have hlt:M/2^q%2^j<2^j:=Nat.mod_lt _ (Nat.two_pow_pos j);have hjj:2^(j+1)≤2^64:=Nat.pow_le_pow_right (by decide) (by omega);have hb1:M/2^(q+j)%2≤1:=by omega
  have hb2:M/2^(q+j)%2*2^j≤1*2^j:=Nat.mul_le_mul_right _ hb1;have ho:=IM .i64 (a:=M/2^q%2^j) (b:=M/2^(q+j)%2) (i:=j) (show j≤64 by omega) hlt (show _<2^64 by rw[Nat.pow_succ] at hjj;omega);rw[ho];have hs:M/2^q%2^j+M/2^(q+j)%2*2^j=M/2^q%2^(j+1):=by
   rw[mod_succ,Nat.div_div_eq_div_mul,←Nat.pow_add]
  rw[hs,AY (x:=(j:Int)+1) (by omega) (by omega),show((j:Int)+1)=((j+1:Nat):Int) by omega];exact ih n (j+1) (by omega) (by omega)
theorem acf(pre post:List Int)(L M w N:Nat)(t12:Int)(hw:w≤64)(hN:N*w≤8*L)(hl:pre.length+L<10000000000000000)(JU:N<1000000)(hk:w<k):
 ∀(m n i:Nat) (o:List Int),i+m=N→m<n→o.length=i→Fb.l6 k n (pre++(leB L M++post)) (pre.length:Int) (N:Int) (w:Int) t12 (i:Int) o=some (((),IntKind.wrap .i64 ((pre.length:Int)+t12),true),o++(List.range' i m).map (DL w M)):=by
 intro m
 induction m with
 |zero=>
  intro n i o hi hn ho;obtain⟨n,rfl⟩:∃x,n=x+1:=⟨n-1,by omega⟩;simp only[Fb.l6,A8 (show ¬(i:Int)<(N:Int) by omega),AU];simp
 |succ m ih=>
  intro n i o hi hn ho;obtain⟨n,rfl⟩:∃x,n=x+1:=⟨n-1,by omega⟩;have hmul:i*w+w≤N*w:=by
   have:(i+1)*w≤N*w:=Nat.mul_le_mul_right _ (by omega);rw[Nat.add_mul,Nat.one_mul] at this;exact this
  have hi':=ace k (Fb.l6 k n) pre post L M w i (i*w) (N:Int) t12 hw (by simp) rfl (by omega) hl (by omega) o (by omega) w k 0 (by omega) hk;simp only[Nat.pow_zero,Nat.mod_one] at hi';simp only[Fb.l6,AZ (show(i:Int)<(N:Int) by omega),AP];have h0:((0:Nat):Int)=0:=rfl;have hw0:IntKind.wrap .i64 0=0:=rfl;rw[h0,hw0] at hi';rw[hi',ih n (i+1) _ (by omega) (by omega) (by simp;omega)];simp[List.range'_succ]
theorem Nf(n w:Int):∃z:Int,KR k n w=some z∧IU k n w=some z∧
 ((z= -1∧¬(0≤n∧n≤2000∧0≤w∧w≤62))∨(0≤n∧n≤2000∧0≤w∧w≤62∧z=((bytesOf n.toNat w.toNat:Nat):Int))):=by
 unfold KR IU;simp only[CB,Dc,AQ,cst];by_cases h:0≤n∧n≤2000∧0≤w∧w≤62
 ·obtain⟨h1,h2,h3,h4⟩:=h
  obtain⟨n,rfl⟩:∃m:Nat,n=m:=⟨n.toNat,by omega⟩;obtain⟨w,rfl⟩:∃m:Nat,w=m:=⟨w.toNat,by omega⟩;have:=(len8 (n:=n) (w:=w) (by omega) (by omega)).1;simp only[AZ h1,AZ h2,AZ h3,AZ h4,Bool.and_self,Bb,Cu,AU,this];exact⟨_,rfl,rfl,.inr ⟨h1,h2,h3,h4,by simp⟩⟩
 ·have:((!(decide (0≤n)&&decide (n≤2000)))|| !(decide (0≤w)&&decide (w≤62)))=true:=by
   by_cases a:0≤n<;>by_cases b:n≤2000<;>by_cases c:0≤w<;>by_cases d:w≤62<;>simp[a,b,c,d]
   exact h ⟨a,b,c,d⟩
  simp only[this,AP];exact⟨_,rfl,rfl,.inl ⟨rfl,h⟩⟩
theorem Rk(hk:3000≤k)(b:List Int)(hb:b.length<1000000000000000)(hby:Ci b)(at_ n w:Int)(ha:Bt at_):
 ∃nx ok l,JZ k b at_ n w=some (((),nx,ok),l)∧Fb k b at_ n w=some (((),nx,ok),l)∧
  (ok=false→nx=0∧l=[])∧(ok=true→0≤n∧n≤2000∧0≤w∧w≤62∧l.length=n.toNat∧0≤at_∧nx=at_+(bytesOf n.toNat w.toNat:Nat)∧nx≤(b.length:Int)∧∀x,x∈l→0≤x∧x<2^w.toNat):=by
 obtain⟨z,h1,h2,hz⟩:=Nf k n w;unfold JZ Fb;simp only[h1,h2,AQ,CB,Dc,cst];rcases hz with⟨rfl,hn⟩|⟨n0,n1,w0,w1,hz⟩
 ·simp only[AZ (show(-1:Int)<0 by decide),BR,AP]
  exact⟨_,_,_,rfl,rfl,fun _=>⟨rfl,rfl⟩,fun h=>by cases h⟩
 obtain⟨n,rfl⟩:∃m:Nat,n=m:=⟨n.toNat,by omega⟩;obtain⟨w,rfl⟩:∃m:Nat,w=m:=⟨w.toNat,by omega⟩;simp only[Int.toNat_natCast] at hz;have PD:=len8 (n:=n) (w:=w) (by omega) (by omega);subst hz;by_cases hat:0≤at_∧at_≤(b.length:Int)
 ·obtain⟨a0,a1⟩:=hat
  obtain⟨p,rfl⟩:∃m:Nat,at_=m:=⟨at_.toNat,by omega⟩;have e:IntKind.wrap .i64 ((b.length:Int)-(p:Int))=(b.length:Int)-p:=AY (by omega) (by omega);simp only[AZ a0,AZ a1,Bool.and_self,Bb,A8 (show ¬((bytesOf n w:Nat):Int)<0 by omega),Cu,Cm,e];by_cases hfit:((bytesOf n w:Nat):Int)≤(b.length:Int)-p
  ·simp only[A8 (show ¬((bytesOf n w:Nat):Int)>(b.length:Int)-p by omega),A8 (show ¬(b.length:Int)-p<((bytesOf n w:Nat):Int) by omega),AU]
   have hlen:((b.drop p).take (bytesOf n w)).length=bytesOf n w:=by rw[List.length_take,List.length_drop];omega
   have hsp:b=b.take p++(leB (bytesOf n w) (wv ((b.drop p).take (bytesOf n w)))++b.drop (p+bytesOf n w)):=by
    have h3:=NI ((b.drop p).take (bytesOf n w)) (fun x hx=>hby x (List.mem_of_mem_drop (List.mem_of_mem_take hx)));rw[hlen] at h3;rw[←h3,←List.drop_drop,List.take_append_drop,List.take_append_drop]
   have hpl:(b.take p).length=p:=by rw[List.length_take];omega
   generalize wv ((b.drop p).take (bytesOf n w))=M at hsp;have u1:=MU k (b.take p) (b.drop (p+bytesOf n w)) (bytesOf n w) M w n (by omega) PD.2.2 (by rw[hpl];omega) (by omega) (by omega) (by omega);have u2:=acf k (b.take p) (b.drop (p+bytesOf n w)) (bytesOf n w) M w n ((bytesOf n w:Nat):Int) (by omega) PD.2.2 (by rw[hpl];omega) (by omega) (by omega) n k 0 [] (by omega) (by omega) rfl;rw[←hsp,hpl] at u1 u2;rw[show((0:Nat):Int)=0 from rfl,List.nil_append,←List.range_eq_range'] at u2;have e2:IntKind.wrap .i64 ((p:Int)+((bytesOf n w:Nat):Int))=(p:Int)+(bytesOf n w:Nat):=AY (by omega) (by omega);rw[e2] at u2;simp only[u1,u2,AQ,e2];refine⟨_,_,_,rfl,rfl,(fun h=>by cases h),fun _=>⟨by omega,by omega,by omega,by omega,by simp,a0,by simp,by omega,?_⟩⟩;intro x hx;obtain⟨i,_,rfl⟩:=List.mem_map.1 hx;have hlt:M/2^(i*w)%2^w<2^w:=Nat.mod_lt _ (Nat.two_pow_pos w);have PE:2^w≤2^62:=Nat.pow_le_pow_right (by decide) (by omega);unfold DL;rw[Int.toNat_natCast,AY (by omega) (by omega)];refine⟨by omega,?_⟩
   exact_mod_cast hlt
  ·simp only[AZ (show((bytesOf n w:Nat):Int)>(b.length:Int)-p by omega),AZ (show(b.length:Int)-p<((bytesOf n w:Nat):Int) by omega),AP]
   exact⟨_,_,_,rfl,rfl,fun _=>⟨rfl,rfl⟩,fun h=>by cases h⟩
 ·have:(decide (0≤at_)&&decide (at_≤(b.length:Int)))=false:=by
   by_cases a:0≤at_<;>by_cases c:at_≤(b.length:Int)<;>simp[a,c]
   exact hat ⟨a,c⟩
  simp only[this,Bv,Bool.or_true,BR,AP];exact⟨_,_,_,rfl,rfl,fun _=>⟨rfl,rfl⟩,fun h=>by cases h⟩
end Go.Bd
end
section
namespace Go.Bd
open Go.Am Go.Fn
variable(k:Nat)
theorem Rp(L6:(List Int)→Int→Int→(List Int)→Option ((Unit×Bool)×(List Int)))(vs:List Int)(v:Int)(w i q L M0:Nat)(hw:w≤64)(hq:(i:Int)*(w:Int)=(q:Int))(KQ:q+w≤8*L)(hL:L<1000000)(hi:i<1000000)(hM:M0<2^q)(hv:gP vs (i:Int)=some v):
 ∀(m n j:Nat),j+m=w→m<n→Dl.DI k L6 n vs (w:Int) (i:Int) (j:Int) (leB L (M0+(u64 v%2^j)*2^q))=L6 vs (w:Int) ((i+1:Nat):Int) (leB L (M0+(u64 v%2^w)*2^q)):=by
 intro m
 induction m with
 |zero=>
  intro n j hj hn;obtain⟨n,rfl⟩:∃x,n=x+1:=⟨n-1,by omega⟩;obtain rfl:j=w:=by omega
  simp only[Dl.DI,A8 (show ¬(j:Int)<(j:Int) by omega),AU];rw[AY (by omega) (by omega)]
  congr 1
 |succ m ih=>
  intro n j hj hn;obtain⟨n,rfl⟩:∃x,n=x+1:=⟨n-1,by omega⟩;have hp:IntKind.wrap .i64 (IntKind.wrap .i64 ((i:Int)*(w:Int))+(j:Int))=((q+j:Nat):Int):=by
   rw[hq,AY (x:=(q:Int)) (by omega) (by omega),AY (by omega) (by omega)];omega
  have hlt:=P7 (u:=u64 v) (j:=j) hM;have hb:u64 v/2^j%2≤1:=by omega
  have hg:gP (leB L (M0+u64 v%2^j*2^q)) (((q+j)/8:Nat):Int)=some _:=K6 (by omega);have hi:=ih n (j+1) (by omega) (by omega);rw[←P8] at hi;simp only[Dl.DI,AZ (show(j:Int)<(w:Int) by omega),AP,hp,Mg (show q+j<1152921504606846976 by omega),Mf,hg,hv,AQ,AZ (show(0:Int)≤(j:Int) by omega),AZ (show(0:Int)≤(((q+j)%8:Nat):Int) by omega),Qr v (show j<64 by omega),Dl.c12];rw[AY (x:=(j:Int)+1) (by omega) (by omega),show((j:Int)+1)=((j+1:Nat):Int) by omega];rcases Nat.eq_zero_or_pos (u64 v/2^j%2) with h0|h0
  ·rw[h0] at hi⊢
   rw[A9 (by decide),AU];simpa using hi
  ·have h1:u64 v/2^j%2=1:=by omega
   have ho:=Qe hlt (show 1≤1 by omega);have hs:=PV (L:=L) (show q+j<8*L by omega) hlt (show 1≤1 by omega);have h11:((1:Nat):Int)=1:=rfl;rw[h11] at ho;rw[h1] at hi⊢;rw[Bl (by rfl),AP,Int.toNat_natCast,ho,hs];exact hi
theorem Rq(w L:Nat)(hw:w≤62)(hL:L<1000000)(hk:w<k)(vs:List Int)(hvs:vs.length<1000000)(hr:∀v,v∈vs→0≤v∧v<2^w)(hb:vs.length*w≤8*L):∀(post pre:List Int) (n:Nat),vs=pre++post→post.length<n→
 Dl.l6 k n vs (w:Int) (pre.length:Int) (leB L (Ga w pre))=some (((),true),leB L (Ga w vs)):=by
 intro post
 induction post with
 |nil=>
  intro pre n hv hn;obtain⟨n,rfl⟩:∃x,n=x+1:=⟨n-1,by omega⟩;have:vs=pre:=by simpa using hv
  subst this;simp only[Dl.l6,A8 (show ¬(vs.length:Int)<(vs.length:Int) by omega),AU]
 |cons v post ih=>
  intro pre n hv hn;simp only[Co] at hn;obtain⟨n,rfl⟩:∃x,n=x+1:=⟨n-1,by omega⟩;have hlen:vs.length=pre.length+(post.length+1):=by rw[hv];simp
  have hg:gP vs (pre.length:Int)=some v:=by rw[hv,Cg,List.getElem?_append_right (Nat.le_refl _)];simp
  obtain⟨v0,v1⟩:=hr v (by rw[hv];simp);have hM:=NK w (pre.map u64);rw[List.length_map] at hM;have hmul:pre.length*w+w≤vs.length*w:=by
   have:(pre.length+1)*w≤vs.length*w:=Nat.mul_le_mul_right _ (by omega);rw[Nat.add_mul,Nat.one_mul] at this;exact this
  have hi:=Rp k (Dl.l6 k n) vs v w pre.length (pre.length*w) L (Ga w pre) (by omega) (by simp) (by omega) hL (by omega) hM hg w k 0 (by omega) hk;simp only[Nat.pow_zero,Nat.mod_one,Nat.zero_mul,Nat.add_zero] at hi;have hsh:qW .i64 v (w:Int)=0:=by
   rw[FT .i64 v w (show w≤64 by omega)];exact Int.ediv_eq_zero_of_lt v0 v1
  simp only[Dl.l6,AZ (show(pre.length:Int)<(vs.length:Int) by omega),AP,hg,AQ,A8 (show ¬v<0 by omega),AU,AZ (show(0:Int)≤(w:Int) by omega),hsh,show((0:Int) !=0)=false from rfl];have h0:((0:Nat):Int)=0:=rfl;rw[h0] at hi;rw[hi];have:=ih (pre++[v]) n (by rw[hv];simp) (by omega);rw[BJ,CQ] at this;rw[←this];unfold Ga;rw[List.map_append,List.map_singleton,NL,List.length_map]
theorem Rj(vs:List Int)(w:Nat)(hw:w≤62)(hvs:vs.length≤2000)(hr:∀v,v∈vs→0≤v∧v<2^w)(hk:vs.length<k)(hk2:w<k):Dl k vs (w:Int)=some (((),true),Fw w vs):=by
 obtain⟨h1,h2,h3⟩:=len8 (n:=vs.length) (w:=w) (by omega) (by omega);unfold Dl IU;simp only[Dc,AQ,cst,AZ (show(0:Int)≤(vs.length:Int) by omega),AZ (show(vs.length:Int)≤2000 by omega),AZ (show(0:Int)≤(w:Int) by omega),AZ (show(w:Int)≤62 by omega),Bool.and_self,Bb,Cu,AU,h1,A8 (show ¬((bytesOf vs.length w:Nat):Int)<0 by omega)];rw[Kb (by omega) (by omega),AP,Int.toNat_natCast,←PW];exact Rq k w _ hw h2 hk2 vs (by omega) hr h3 vs [] k rfl hk
theorem aaG(n M:Nat):leB (n+1) M=leB n M++[((M/256^n%256:Nat):Int)]:=by
 unfold leB;rw[List.range_succ,List.map_append,List.map_singleton]
theorem ab6(v:Int){i:Nat}(hi:i<8):IntKind.wrap .u8 (qW .i64 v ((8*i:Nat):Int))=((u64 v/256^i%256:Nat):Int):=by
 rw[FT .i64 v (8*i) (show 8*i≤64 by omega),Oq];have hp:(256:Nat)^i=2^(8*i):=by rw[Nat.pow_mul]
 have hpi:((2:Int)^(8*i))=((2^(8*i):Nat):Int):=by simp
 rw[Int.natCast_emod,Int.natCast_ediv,JB,hp,←hpi];rcases(show i=0∨i=1∨i=2∨i=3∨i=4∨i=5∨i=6∨i=7 by omega) with rfl|rfl|rfl|rfl|rfl|rfl|rfl|rfl<;>simp<;>omega
theorem ac0(v:Int)(n:Nat)(hn:n≤8)(h1:1≤n):∀(m f i:Nat),i+m=n→m<f→
 FL.l5 k f v (n:Int) (i:Int) (leB i (u64 v))=some ((),leB n (u64 v))∧Fz.l3 k f v (n:Int) (i:Int) (leB i (u64 v))=some ((),leB n (u64 v)):=by
 intro m
 induction m with
 |zero=>
  intro f i hi hf;obtain⟨f,rfl⟩:∃q,f=q+1:=⟨f-1,by omega⟩;obtain rfl:i=n:=by omega
  simp only[FL.l5,Fz.l3,A8 (show ¬(i:Int)<(i:Int) by omega),AU,AQ];exact⟨trivial,trivial⟩
 |succ m ih=>
  intro f i hi hf;obtain⟨f,rfl⟩:∃q,f=q+1:=⟨f-1,by omega⟩;have e2:IntKind.wrap .i64 (8*(i:Int))=((8*i:Nat):Int):=by rw[AY (by omega) (by omega)];omega
  have e3:IntKind.wrap .i64 ((i:Int)+1)=((i+1:Nat):Int):=by rw[AY (by omega) (by omega)];omega
  have hr:(decide ((1:Int)≤(n:Int))&&decide ((n:Int)≤8))=true:=by simp;omega
  simp only[FL.l5,Fz.l3,Dc,hr,AZ (show(i:Int)<(n:Int) by omega),AP,AQ,e2,e3,AZ (show(0:Int)≤((8*i:Nat):Int) by omega),ab6 v (show i<8 by omega),Bz (show(leB i (u64 v)).length+[((u64 v/256^i%256:Nat):Int)].length≤4294967296 by rw[De];simp;omega),←aaG];exact ih f (i+1) (by omega) (by omega)
theorem QM(hk:100≤k)(v:Int)(n:Nat)(hn:n≤8)(h1:1≤n):FL k v (n:Int)=some ((),leB n (u64 v))∧Fz k v (n:Int)=some ((),leB n (u64 v)):=by
 obtain⟨a,b⟩:=ac0 k v n hn h1 n k 0 (by omega) (by omega);have hr:(decide ((1:Int)≤(n:Int))&&decide ((n:Int)≤8))=true:=by simp;omega
 unfold FL Fz;simp only[CB,hr,AQ,Bb,AU];exact⟨a,b⟩
end Go.Bd
end
section
namespace Go.Bd
open Go.Am Go.Fn
variable(k:Nat)
def CK(t:Int)(v:AV):Bool:=
 if t=0 then(decide (0≤v.1)&&decide (v.1≤1))&&ig v.2.1 ⟨#[]⟩
 else if t=1 then(decide (-2147483648≤v.1)&&decide (v.1≤2147483647))&&ig v.2.1 ⟨#[]⟩
 else if t=2∨t=5 then ig v.2.1 ⟨#[]⟩
 else if t=6 then v.1==0&&decide ((v.2.1.size:Int)≤40)
 else false
theorem MX(t:Int)(v:AV):FK k t v=some (CK t v):=by
 unfold FK FK.c8 GR CK;by_cases h0:t=0
 ·subst h0
  simp only[CB,Bl rfl,AP,AQ,BV,if_true]
 by_cases h1:t=1
 ·subst h1
  simp only[CB,A9 h0,Bl rfl,AP,AU,AQ,BV,if_neg h0,if_true]
 by_cases h2:t=2
 ·subst h2
  simp only[A9 h0,A9 h1,Bl rfl,AP,AU,if_neg h0,if_neg h1,true_or,if_true]
 by_cases h5:t=5
 ·subst h5
  simp only[A9 h0,A9 h1,A9 h2,Bl rfl,AP,AU,if_neg h0,if_neg h1,or_true,if_true]
 by_cases h6:t=6
 ·subst h6
  simp only[A9 h0,A9 h1,A9 h2,A9 h5,Bl rfl,AP,AU,if_neg h0,if_neg h1,AQ,BV,if_true];rw[if_neg (by decide)]
 ·simp only[A9 h0,A9 h1,A9 h2,A9 h5,A9 h6,AP,AU,if_neg h0,if_neg h1,AQ,BV,if_neg h6]
  rw[if_neg (by omega)];rfl
theorem Lr(t:Int)(v:AV):FV k t v=some (CK t v):=by
 unfold FV FV.c8 Jy CK;by_cases h0:t=0
 ·subst h0
  simp only[Dc,Bl rfl,AP,AQ,BV,if_true]
 by_cases h1:t=1
 ·subst h1
  simp only[Dc,A9 h0,Bl rfl,AP,AU,AQ,BV,if_neg h0,if_true]
 by_cases h2:t=2
 ·subst h2
  simp only[A9 h0,A9 h1,Bl rfl,AP,AU,if_neg h0,if_neg h1,true_or,if_true]
 by_cases h5:t=5
 ·subst h5
  simp only[A9 h0,A9 h1,A9 h2,Bl rfl,AP,AU,if_neg h0,if_neg h1,or_true,if_true]
 by_cases h6:t=6
 ·subst h6
  simp only[A9 h0,A9 h1,A9 h2,A9 h5,Bl rfl,AP,AU,if_neg h0,if_neg h1,AQ,BV,if_true];rw[if_neg (by decide)]
 ·simp only[A9 h0,A9 h1,A9 h2,A9 h5,A9 h6,AP,AU,if_neg h0,if_neg h1,AQ,BV,if_neg h6]
  rw[if_neg (by omega)]
end Go.Bd
end
section
namespace Go.Bd
open Go.Am Go.Fn
variable(k:Nat)
theorem acY(t:Int)(l:List AV)(hl:l.length<1000000000):∀(post pre:List AV) (n n':Nat),l=pre++post→post.length<n→post.length<n'→
 Gr.l2 k n t l l (l.length:Int) (pre.length:Int)=some (post.all (CK t)&&(decide ((l.length:Int)≤2000)&&Di t))∧Gz.l4 k n' t l (pre.length:Int)=some (post.all (CK t)):=by
 intro post
 induction post with
 |nil=>
  intro pre n n' hl' hn hn';obtain⟨n,rfl⟩:∃m,n=m+1:=⟨n-1,by omega⟩;obtain⟨n',rfl⟩:∃m,n'=m+1:=⟨n'-1,by omega⟩;have:l=pre:=by simpa using hl'
  subst this;simp only[Gr.l2,Gz.l4,A8 (show ¬(l.length:Int)<(l.length:Int) by omega),AU,Lt,AQ,BV,List.all_nil,Er];exact⟨trivial,trivial⟩
 |cons x post ih=>
  intro pre n n' hl' hn hn';simp only[Co] at hn hn';obtain⟨n,rfl⟩:∃m,n=m+1:=⟨n-1,by omega⟩;obtain⟨n',rfl⟩:∃m,n'=m+1:=⟨n'-1,by omega⟩;have hlen:l.length=pre.length+(post.length+1):=by rw[hl'];simp
  have hg:gP l (pre.length:Int)=some x:=by rw[hl'];exact Ej _ _ _
  have hi:=ih (pre++[x]) n n' (by rw[hl'];simp) (by omega) (by omega);rw[BJ,CQ] at hi;simp only[Gr.l2,Gz.l4,AZ (show(pre.length:Int)<(l.length:Int) by omega),AP,hg,AQ,MX,Lr,List.all_cons];rw[AY (by omega) (by omega),show((pre.length:Int)+1)=((pre.length+1:Nat):Int) by omega];cases hv:CK t x with
  |false=>exact⟨rfl,rfl⟩
  |true=>
   simp only[Bb,AU,Er];exact hi
def Eu(t:Int)(l:List AV):Bool:=l.all (CK t)&&(decide ((l.length:Int)≤2000)&&Di t)
theorem Om(t:Int)(l:List AV)(hl:l.length<1000000000)(hk:l.length<k):Gr k t l=some (Eu t l)∧Gz k t l=some (Eu t l):=by
 obtain⟨h1,h2⟩:=acY k t l hl l [] k k rfl hk hk;rw[List.length_nil,show((0:Nat):Int)=0 from rfl] at h1 h2;unfold Gr Gz Eu;refine⟨h1,?_⟩;simp only[K5,AQ,cst];by_cases hl2:(l.length:Int)≤2000
 ·rw[A8 (show ¬(l.length:Int)>2000 by omega),AZ hl2]
  cases Di t with
  |false=>simp
  |true=>simp[h2]
 ·rw[AZ (show(l.length:Int)>2000 by omega),A8 hl2]
  simp
end Go.Bd
end
section
namespace Go.Bd
open Go.Am Go.Fn
variable(k:Nat)
def Cw(t:Int)(v:AV):List Int:=
 if t=6 then leB 4 (u64 (v.2.1.size:Int))++fH v.2.1 else if t=1 then leB 4 (u64 v.1) else leB 8 (u64 v.1)
def BX(t:Int)(l:List AV):List Int:=
 if t=0 then Fw 1 (l.map (·.1)) else(l.map (Cw t)).flatten
theorem I4{t:Int}{v:AV}(h:CK t v=true):(t=0∧0≤v.1∧v.1≤1∧v.2.1=⟨#[]⟩)∨(t=1∧-2147483648≤v.1∧v.1≤2147483647∧v.2.1=⟨#[]⟩)∨((t=2∨t=5)∧v.2.1=⟨#[]⟩)∨(t=6∧v.1=0∧v.2.1.size≤40):=by
 unfold CK at h;by_cases h0:t=0
 ·subst h0
  rw[if_pos rfl,F6] at h;simp at h;exact .inl ⟨rfl,h.1.1,h.1.2,h.2⟩
 by_cases h1:t=1
 ·subst h1
  rw[if_neg (by decide),if_pos rfl,F6] at h;simp at h;exact .inr (.inl ⟨rfl,h.1.1,h.1.2,h.2⟩)
 by_cases h2:t=2∨t=5
 ·rw[if_neg h0,if_neg h1,if_pos h2,F6] at h
  simp at h;exact .inr (.inr (.inl ⟨h2,h⟩))
 by_cases h6:t=6
 ·subst h6
  rw[if_neg h0,if_neg h1,if_neg h2,if_pos rfl] at h;simp at h;exact .inr (.inr (.inr ⟨rfl,h.1,by omega⟩))
 ·rw[if_neg h0,if_neg h1,if_neg h2,if_neg h6] at h
  cases h
theorem I5{t:Int}{l:List AV}:Eu t l=true↔(∀v,v∈l→CK t v=true)∧l.length≤2000∧Di t=true:=by
 unfold Eu;simp only[BZ,List.all_eq_true,Ce];constructor
 ·intro⟨a,b,c⟩;exact⟨a,by omega,c⟩
 ·intro⟨a,b,c⟩;exact⟨a,by omega,c⟩
theorem Mw{t:Int}{v:AV}(h:CK t v=true):(Cw t v).length≤44:=by
 unfold Cw;rcases I4 h with⟨rfl,_⟩|⟨rfl,_⟩|⟨ht|ht,_⟩|⟨rfl,_,h3⟩
 ·rw[if_neg (by decide),if_neg (by decide),De];omega
 ·rw[if_neg (by decide),if_pos rfl,De];omega
 ·subst ht;rw[if_neg (by decide),if_neg (by decide),De];omega
 ·subst ht;rw[if_neg (by decide),if_neg (by decide),De];omega
 ·rw[if_pos rfl,BJ,De,vR];omega
theorem aa8(l:List AV)(hl:l.length<1000000000):∀(post pre:List AV) (n:Nat),l=pre++post→post.length<n→
 Hl.l3 k n l (l.length:Int) (pre.length:Int) (pre.map (·.1))=some ((),l.map (·.1)):=by
 intro post
 induction post with
 |nil=>
  intro pre n hv hn;obtain⟨n,rfl⟩:∃x,n=x+1:=⟨n-1,by omega⟩;have:l=pre:=by simpa using hv
  subst this;simp only[Hl.l3,A8 (show ¬(l.length:Int)<(l.length:Int) by omega),AU]
 |cons v post ih=>
  intro pre n hv hn;simp only[Co] at hn;obtain⟨n,rfl⟩:∃x,n=x+1:=⟨n-1,by omega⟩;have hlen:l.length=pre.length+(post.length+1):=by rw[hv];simp
  have hg:gP l (pre.length:Int)=some v:=by rw[hv];exact Ej pre post v
  have:=ih (pre++[v]) n (by rw[hv];simp) (by omega);rw[BJ,CQ,List.map_append] at this;simp only[Hl.l3,AZ (show(pre.length:Int)<(l.length:Int) by omega),AP,hg,AQ,Bz (show(pre.map (·.1)).length+[v.1].length≤4294967296 by simp;omega),AY (x:=(pre.length:Int)+1) (by omega) (by omega)];exact this
theorem abv(hk:100≤k)(t:Int)(l:List AV)(h:Eu t l=true)(ht:t≠0):∀(post pre:List AV) (n:Nat) (o:List Int),l=pre++post→post.length<n→o.length≤44*pre.length→
 C9.l7 k n t l (l.length:Int) (pre.length:Int) o=some (((),true),o++(post.map (Cw t)).flatten)∧
 Dm.l6 k n t l (pre.length:Int) o []=some (((),true),o++(post.map (Cw t)).flatten):=by
 obtain⟨hv,hl,hty⟩:=I5.1 h;intro post
 induction post with
 |nil=>
  intro pre n o hp hn ho;obtain⟨n,rfl⟩:∃x,n=x+1:=⟨n-1,by omega⟩;have:l=pre:=by simpa using hp
  subst this;simp only[C9.l7,Dm.l6,A8 (show ¬(l.length:Int)<(l.length:Int) by omega),AU,A9 ht];simp
 |cons v post ih=>
  intro pre n o hp hn ho;simp only[Co] at hn;obtain⟨n,rfl⟩:∃x,n=x+1:=⟨n-1,by omega⟩;have hlen:l.length=pre.length+(post.length+1):=by rw[hp];simp
  have hg:gP l (pre.length:Int)=some v:=by rw[hp];exact Ej pre post v
  have hvv:CK t v=true:=hv v (by rw[hp];simp);have hbl:=Mw hvv;obtain⟨i1,i2⟩:=ih (pre++[v]) n (o++Cw t v) (by rw[hp];simp) (by omega) (by simp;omega);rw[BJ,CQ] at i1 i2;have w4:∀x:Int,FL k x 4=some ((),leB 4 (u64 x))∧Fz k x 4=some ((),leB 4 (u64 x)):=fun x=>QM k hk x 4 (by omega) (by omega);have QJ:∀x:Int,FL k x 8=some ((),leB 8 (u64 x))∧Fz k x 8=some ((),leB 8 (u64 x)):=fun x=>QM k hk x 8 (by omega) (by omega);have hs:([]:List Int)=[]:=rfl;simp only[C9.l7,Dm.l6,AZ (show(pre.length:Int)<(l.length:Int) by omega),AP,hg,AQ,A9 ht,AU];rw[List.map_cons,List.flatten_cons,←EI];rcases I4 hvv with⟨h0,_⟩|⟨rfl,_⟩|⟨G_,_⟩|⟨rfl,_,h3⟩
  ·exact absurd h0 ht
  ·have e:Cw 1 v=leB 4 (u64 v.1):=by unfold Cw;rw[if_neg (by decide),if_pos rfl]
   rw[e] at i1 i2⊢;simp only[show((1:Int)==6)=false from rfl,show((1:Int)==1)=true from rfl,AP,AU,C9.d11,Ed,AQ,(w4 _).1,(w4 _).2,Bz (show o.length+(leB 4 (u64 v.1)).length≤4294967296 by rw[De];omega),C9.c12,Dm.c7,AY (x:=(pre.length:Int)+1) (by omega) (by omega)];exact⟨i1,i2⟩
  ·have e:Cw t v=leB 8 (u64 v.1):=by unfold Cw;rw[if_neg (by omega),if_neg (by omega)]
   have ew:Ed k t=some 8:=by rcases G_ with rfl|rfl<;>rfl
   rw[e] at i1 i2⊢;simp only[A9 (show ¬t=6 by omega),A9 (show ¬t=1 by omega),AP,AU,C9.d11,ew,AQ,(QJ _).1,(QJ _).2,Bz (show o.length+(leB 8 (u64 v.1)).length≤4294967296 by rw[De];omega),C9.c12,Dm.c7,AY (x:=(pre.length:Int)+1) (by omega) (by omega)];exact⟨i1,i2⟩
  ·have e:Cw 6 v=leB 4 (u64 (v.2.1.size:Int))++fH v.2.1:=by unfold Cw;rw[if_pos rfl]
   rw[e,←EI] at i1 i2;rw[e,←EI]
   simp only[show((6:Int)==6)=true from rfl,show((6:Int)==1)=false from rfl,AP,AU,C9.d10,AQ,(w4 _).1,(w4 _).2,Bz (show o.length+(leB 4 (u64 (v.2.1.size:Int))).length≤4294967296 by rw[De];omega),
    Bz (show(o++leB 4 (u64 (v.2.1.size:Int))).length+(fH v.2.1).length≤4294967296 by rw[BJ,De,vR];omega),C9.c12,Dm.c7,AY (x:=(pre.length:Int)+1) (by omega) (by omega)]
   exact⟨i1,i2⟩
theorem abu(l:List AV)(h:Eu 0 l=true):∀(post pre:List AV) (n:Nat),l=pre++post→post.length<n→
 Dm.l6 k n 0 l (pre.length:Int) [] (pre.map (·.1))=(Dl k (l.map (·.1)) 1).bind fun r5=>some (((),r5.1.2),r5.2):=by
 obtain⟨hv,hl,hty⟩:=I5.1 h;intro post
 induction post with
 |nil=>
  intro pre n hp hn;obtain⟨n,rfl⟩:∃x,n=x+1:=⟨n-1,by omega⟩;have:l=pre:=by simpa using hp
  subst this;simp only[Dm.l6,A8 (show ¬(l.length:Int)<(l.length:Int) by omega),AU,show((0:Int)==0)=true from rfl,AP]
 |cons v post ih=>
  intro pre n hp hn;simp only[Co] at hn;obtain⟨n,rfl⟩:∃x,n=x+1:=⟨n-1,by omega⟩;have hlen:l.length=pre.length+(post.length+1):=by rw[hp];simp
  have hg:gP l (pre.length:Int)=some v:=by rw[hp];exact Ej pre post v
  have i1:=ih (pre++[v]) n (by rw[hp];simp) (by omega);rw[BJ,CQ,List.map_append] at i1;simp only[Dm.l6,AZ (show(pre.length:Int)<(l.length:Int) by omega),AP,hg,AQ,show((0:Int)==0)=true from rfl,Bz (show(pre.map (·.1)).length+[v.1].length≤4294967296 by simp;omega),Dm.c7,AY (x:=(pre.length:Int)+1) (by omega) (by omega)];exact i1
theorem Qi(hk:3000≤k)(t:Int)(l:List AV)(hl:l.length<1000000000)(hlk:l.length<k):
 C9 k t l=some (((),Eu t l),if Eu t l then BX t l else[])∧Dm k t l=some (((),Eu t l),if Eu t l then BX t l else[]):=by
 obtain⟨o1,o2⟩:=Om k t l hl hlk;unfold C9 Dm;simp only[o1,o2,AQ];cases h:Eu t l with
 |false=>exact⟨rfl,rfl⟩
 |true=>
  obtain⟨hv,hl2,hty⟩:=I5.1 h;simp only[Bb,AU,if_true];unfold BX;by_cases ht:t=0
  ·subst ht
   have hn:=aa8 k l hl l [] k rfl hlk;have hb:=abu k l h l [] k rfl hlk;have hp:=abj k (l.map (·.1)) 1 (by omega) (by rw[List.length_map];omega) (by rw[List.length_map];omega) (by omega)
   have hs:=Rj k (l.map (·.1)) 1 (by omega) (by rw[List.length_map];omega) (by
    intro x hx;obtain⟨v,hv',rfl⟩:=List.mem_map.1 hx;rcases I4 (hv v hv') with⟨_,a,b,_⟩|⟨h0,_⟩|⟨h0,_⟩|⟨h0,_⟩
    ·omega
    ·cases h0
    ·omega
    ·cases h0) (by rw[List.length_map];omega) (by omega)
   rw[List.length_nil,List.map_nil,show((0:Nat):Int)=0 from rfl] at hn hb;rw[show((1:Nat):Int)=1 from rfl] at hp hs;unfold Hl;simp only[show((0:Int)==0)=true from rfl,AP,hn,AQ,hp,hb,hs,if_true];exact⟨trivial,trivial⟩
  ·obtain⟨i1,i2⟩:=abv k (by omega) t l h ht l [] k [] rfl hlk (by simp)
   rw[List.length_nil,show((0:Nat):Int)=0 from rfl,List.nil_append] at i1 i2;simp only[A9 ht,AU,if_neg ht];exact⟨i1,i2⟩
end Go.Bd
end
section
namespace Go.Bd
open Go.Am Go.Fn
variable(k:Nat)
theorem Lv(hk:100≤k)(b:List Int)(hb:b.length<1000000000000000)(hby:Ci b)(at_:Int)(ha:Bt at_)(n:Nat)(hn:n≤8)(h1:1≤n):
 ∃v nx ok,ED k b at_ (n:Int)=some (v,nx,ok)∧Fe k b at_ (n:Int)=some (v,nx,ok)∧Bt v∧(ok=false→v=0∧nx=0)∧
  (ok=true→0≤at_∧nx=at_+(n:Int)∧nx≤(b.length:Int)∧(n≤4→0≤v∧v<4294967296)):=by
 have hr:(decide ((1:Int)≤(n:Int))&&decide ((n:Int)≤8))=true:=by simp;omega
 unfold ED Fe;simp only[CB,Dc,hr,AQ,Bb,AU,cst,Cm];have hi:=ha.1;have hi':=ha.2;have e1:IntKind.wrap .i64 ((b.length:Int)-(n:Int))=(b.length:Int)-n:=AY (by omega) (by omega);rw[e1];by_cases h0:at_<0
 ·simp only[AZ h0,BR,AP]
  exact⟨0,0,false,rfl,rfl,⟨by decide,by decide⟩,fun _=>⟨rfl,rfl⟩,fun h=>by cases h⟩
 obtain⟨p,rfl⟩:∃m:Nat,at_=m:=⟨at_.toNat,by omega⟩;simp only[A8 h0,Cm];by_cases h2:(p:Int)>(b.length:Int)-n
 ·have:(decide ((p:Int)>(b.length:Int))||decide (IntKind.wrap .i64 ((b.length:Int)-(p:Int))<(n:Int)))=true:=by
   by_cases hp:(p:Int)>(b.length:Int)
   ·simp[hp]
   ·rw[AY (by omega) (by omega),AZ (show(b.length:Int)-(p:Int)<(n:Int) by omega),Bool.or_true]
  simp only[AZ h2,this,AP];exact⟨0,0,false,rfl,rfl,⟨by decide,by decide⟩,fun _=>⟨rfl,rfl⟩,fun h=>by cases h⟩
 ·have e2:IntKind.wrap .i64 ((b.length:Int)-(p:Int))=(b.length:Int)-p:=AY (by omega) (by omega)
  simp only[A8 h2,e2,A8 (show ¬(p:Int)>(b.length:Int) by omega),A8 (show ¬(b.length:Int)-(p:Int)<(n:Int) by omega),Cu,AU];obtain⟨l1,l2⟩:=QN k b p n hn (by omega) (by omega) hby n k 0 0 (by omega) (by omega) (by simp);rw[show IntKind.wrap .i64 ((0:Nat):Int)=0 by decide,show((0:Nat):Int)=0 from rfl] at l1 l2;simp only[Nat.zero_add,Nat.add_zero,Nat.mul_zero,Nat.pow_zero,Nat.mul_one] at l1 l2;refine⟨_,_,_,l2,l1,⟨I7 _,I6 _⟩,(fun h=>by cases h),fun _=>⟨by omega,by omega,by omega,?_⟩⟩;intro h4;have hlt:=QU ((b.drop p).take n) (fun x hx=>hby x (List.mem_of_mem_drop (List.mem_of_mem_take hx)));have hlen:((b.drop p).take n).length=n:=by rw[List.length_take,List.length_drop];omega
  rw[hlen] at hlt;have:2^(8*n)≤2^32:=Nat.pow_le_pow_right (by decide) (by omega);rw[AY (by omega) (by omega)];omega
theorem KD{b:List Int}(hby:Ci b)(i j:Int):∀x,x∈kP b i j→0≤x∧x<256:=by
 intro x hx;unfold kP at hx;exact hby x (List.mem_of_mem_take (List.mem_of_mem_drop hx))
theorem abw(hk:100≤k)(t:Int)(ht:t=1∨t=2∨t=5∨t=6)(b:List Int)(hb:b.length<1000000000000000)(hby:Ci b)(at_:Int)(ha:Bt at_):
 ∃v nx ok,J6 k t b at_=some (v,nx,ok)∧Jz k t b at_=some (v,nx,ok)∧
  (ok=true→CK t v=true∧Bt v.1∧0≤at_∧nx=at_+((Cw t v).length:Nat)∧nx≤(b.length:Int)):=by
 obtain⟨v4,n4,o4,a1,a2,a3,a4,a5⟩:=Lv k hk b hb hby at_ ha 4 (by omega) (by omega);obtain⟨v8,n8,o8,b1,b2,b3,b4,b5⟩:=Lv k hk b hb hby at_ ha 8 (by omega) (by omega);rw[show((4:Nat):Int)=4 from rfl] at a1 a2 a5;rw[show((8:Nat):Int)=8 from rfl] at b1 b2 b5;unfold J6 Jz;rcases(show t=1∨(t=2∨t=5)∨t=6 by omega) with rfl|G_|rfl
 ·have hs:∀v:Int,0≤v→v<4294967296→IntKind.wrap .i64 (IntKind.wrap .i32 v)=if v>2147483647 then v-4294967296 else v:=by
   intro v h0 h1;have:IntKind.wrap .i32 v=if v>2147483647 then v-4294967296 else v:=by
    have h2:v%2^32=v:=Int.emod_eq_of_lt h0 h1;simp only[IntKind.wrap,IntKind.bits,IntKind.signed,h2,Er,Ce];by_cases h:v>2147483647
    ·rw[if_pos h,if_pos (show v≥2^(32-1) by omega)];omega
    ·rw[if_neg h,if_neg (show ¬v≥2^(32-1) by omega)]
   rw[this];split<;>exact AY (by omega) (by omega)
  have hv:0≤v4∧v4<4294967296:=by
   cases o4 with
   |false=>obtain⟨rfl,_⟩:=a4 rfl;omega
   |true=>exact(a5 rfl).2.2.2 (by omega)
  simp only[show((1:Int) !=6)=true from rfl,show((1:Int)==1)=true from rfl,AP,Ed,AQ,a1,a2,IE,show((4:Int)==4)=true from rfl,hs v4 hv.1 hv.2,Jz.c6];refine⟨(if v4>2147483647 then v4-4294967296 else v4,A7,()),n4,o4,rfl,?_,?_⟩
  ·by_cases h:v4>2147483647
   ·rw[AZ h,AP,if_pos h,AY (by omega) (by omega)]
   ·rw[A8 h,AU,if_neg h]
  ·intro ho
   obtain⟨c1,c2,c3,c4⟩:=a5 ho;have: -2147483648≤(if v4>2147483647 then v4-4294967296 else v4)∧(if v4>2147483647 then v4-4294967296 else v4)≤2147483647:=by split<;>omega
   refine⟨?_,⟨by omega,by omega⟩,c1,(by unfold Cw;rw[if_neg (by decide),if_pos rfl,De];omega),c3⟩;unfold CK;rw[if_neg (by decide),if_pos rfl];simp[this,F6]
 ·have e6:(t !=6)=true:=by rcases G_ with rfl|rfl<;>rfl
  have ew:Ed k t=some 8:=by rcases G_ with rfl|rfl<;>rfl
  simp only[e6,AP,ew,AQ,b1,b2,IE,show((8:Int)==4)=false from rfl,AU,A9 (show ¬t=1 by omega),A9 (show ¬t=6 by omega)];refine⟨_,_,_,rfl,rfl,?_⟩;intro ho;obtain⟨c1,c2,c3,c4⟩:=b5 ho;refine⟨?_,b3,c1,(by unfold Cw;rw[if_neg (by omega),if_neg (by omega),De];omega),c3⟩;unfold CK;rw[if_neg (by omega),if_neg (by omega),if_pos G_];simp[F6]
 ·simp only[show((6:Int) !=6)=false from rfl,show((6:Int)==1)=false from rfl,show((6:Int)==6)=true from rfl,AP,AU,a1,a2,AQ,cst]
  cases o4 with
  |false=>
   simp only[Bv,BR,AP];exact⟨_,_,_,rfl,rfl,fun h=>by cases h⟩
  |true=>
   obtain⟨c1,c2,c3,c4⟩:=a5 rfl;have c4:=c4 (by omega);have e:IntKind.wrap .i64 ((b.length:Int)-n4)=(b.length:Int)-n4:=AY (by omega) (by omega);simp only[Bb,Cm,e];by_cases hx:v4>40∨v4>(b.length:Int)-n4
   ·have:(decide (v4>40)||decide (v4>(b.length:Int)-n4))=true:=by rcases hx with hx|hx<;>simp[hx]
    simp only[this,AP];exact⟨_,_,_,rfl,rfl,fun h=>by cases h⟩
   ·have h1:¬v4>40:=fun h=>hx (.inl h)
    have h2:¬v4>(b.length:Int)-n4:=fun h=>hx (.inr h);have e3:IntKind.wrap .i64 (n4+v4)=n4+v4:=AY (by omega) (by omega);simp only[A8 h1,A8 h2,Cu,AU,e3,EF (show(0:Int)≤n4 by omega) (show n4≤n4+v4 by omega) (show n4+v4≤(b.length:Int) by omega),AP];refine⟨_,_,_,rfl,rfl,fun _=>⟨?_,⟨(by decide: -9223372036854775808≤(0:Int)),(by decide:(0:Int)<9223372036854775808)⟩,c1,(by unfold Cw kP;rw[if_pos rfl,BJ,De,vR,II,List.length_drop,List.length_take];omega),by omega⟩⟩;unfold CK;rw[if_neg (by decide),if_neg (by decide),if_neg (by decide),if_pos rfl];simp only[show((0:Int)==0)=true from rfl,Er,II,Ce];unfold kP;rw[List.length_drop,List.length_take];omega
structure Q6(t:Int)(b:List Int)(at_ many nx:Int)(ok:Bool)(l:List AV):Prop where
 bad:ok=false→nx=0∨t=0
 ty:ok=true→Di t=true
 a0:ok=true→0≤at_
 m0:ok=true→0≤many∧many≤2000
 n0:ok=true→at_≤nx
 n1:ok=true→nx≤(b.length:Int)
 nl:ok=true→nx=at_+(((BX t l).length:Nat):Int)
 len:ok=true→l.length=many.toNat
 vk:ok=true→∀v,v∈l→CK t v=true∧Bt v.1
 short:ok=false→l.length≤2000
theorem abQ(hk:100≤k)(t:Int)(ht:t=1∨t=2∨t=5∨t=6)(b:List Int)(hb:b.length<1000000000000000)(hby:Ci b)(many:Nat)(hm:many≤2000):∀(m n i:Nat) (at_:Int) (o:List AV),i+m=many→m<n→o.length=i→0≤at_→at_≤(b.length:Int)→
 ∃nx ok l,Em.l8 k n t b at_ (many:Int) (i:Int) o=some (((),nx,ok),l)∧Ef.F9 k n t b at_ (many:Int) (i:Int) o=some (((),nx,ok),l)∧
  (ok=false→nx=0∧l=[])∧(ok=true→at_≤nx∧nx≤(b.length:Int)∧∃l',l=o++l'∧l'.length=m∧nx=at_+(((l'.map (Cw t)).flatten.length:Nat):Int)∧∀v,v∈l'→CK t v=true∧Bt v.1):=by
 intro m
 induction m with
 |zero=>
  intro n i at_ o hi hn ho h0 h1;obtain⟨n,rfl⟩:∃x,n=x+1:=⟨n-1,by omega⟩;obtain rfl:i=many:=by omega
  simp only[Em.l8,Ef.F9,A8 (show ¬(i:Int)<(i:Int) by omega),AU];exact⟨_,_,_,rfl,rfl,(fun h=>by cases h),fun _=>⟨by omega,h1,[],by simp,rfl,by simp,by simp⟩⟩
 |succ m ih=>
  intro n i at_ o hi hn ho h0 h1;obtain⟨n,rfl⟩:∃x,n=x+1:=⟨n-1,by omega⟩;obtain⟨v,nx,ok,e1,e2,e3⟩:=abw k hk t ht b hb hby at_ ⟨by omega,by omega⟩;simp only[Em.l8,Ef.F9,AZ (show(i:Int)<(many:Int) by omega),AP,e1,e2,AQ];cases ok with
  |false=>
   simp only[Bv,AP];exact⟨_,_,_,rfl,rfl,fun _=>⟨rfl,rfl⟩,fun h=>by cases h⟩
  |true=>
   obtain⟨c1,c2,c3,c4,c5⟩:=e3 rfl;obtain⟨nx',ok',l',f1,f2,f3,f4⟩:=ih n (i+1) nx (o++[v]) (by omega) (by omega) (by simp;omega) (by omega) c5;have e:IntKind.wrap .i64 ((i:Int)+1)=((i+1:Nat):Int):=by rw[AY (by omega) (by omega)];omega
   simp only[Bb,AU,Bz (show o.length+[v].length≤4294967296 by simp;omega),AP,e];refine⟨nx',ok',l',f1,f2,f3,?_⟩;intro ho';obtain⟨g1,g2,l2,g3,g4,g6,g5⟩:=f4 ho';refine⟨by omega,g2,v::l2,by rw[g3];simp,by simp[g4],(by rw[List.map_cons,List.flatten_cons,BJ];omega),?_⟩;intro x hx;rcases List.mem_cons.1 hx with rfl|hx
   ·exact⟨c1,c2⟩
   ·exact g5 x hx
theorem Oj(l:List Int)(hl:l.length<1000000000):∀(post pre:List Int) (n:Nat),l=pre++post→post.length<n→
 FO.l3 k n l (l.length:Int) (pre.length:Int) (pre.map fun x=>((x,A7,()):AV))=some ((),l.map fun x=>((x,A7,()):AV))∧
 ∀nx ok,Ef.l7 k n nx ok (pre.length:Int) (pre.map fun x=>((x,A7,()):AV)) l=some (((),nx,ok),l.map fun x=>((x,A7,()):AV)):=by
 intro post
 induction post with
 |nil=>
  intro pre n hv hn;obtain⟨n,rfl⟩:∃x,n=x+1:=⟨n-1,by omega⟩;have:l=pre:=by simpa using hv
  subst this;simp only[FO.l3,Ef.l7,A8 (show ¬(l.length:Int)<(l.length:Int) by omega),AU];exact⟨trivial,fun _ _=>trivial⟩
 |cons v post ih=>
  intro pre n hv hn;simp only[Co] at hn;obtain⟨n,rfl⟩:∃x,n=x+1:=⟨n-1,by omega⟩;have hlen:l.length=pre.length+(post.length+1):=by rw[hv];simp
  have hg:gP l (pre.length:Int)=some v:=by rw[hv];exact Ej pre post v
  have:=ih (pre++[v]) n (by rw[hv];simp) (by omega);rw[BJ,CQ,List.map_append] at this;simp only[FO.l3,Ef.l7,AZ (show(pre.length:Int)<(l.length:Int) by omega),AP,hg,AQ,Bz (show(pre.map fun x=>((x,A7,()):AV)).length+([(v,A7,())]:List AV).length≤4294967296 by simp;omega),AY (x:=(pre.length:Int)+1) (by omega) (by omega)];exact this
theorem QB{t:Int}(h:Di t=true):t=0∨t=1∨t=2∨t=5∨t=6:=by
 unfold Di at h;simp at h;omega
theorem Mx(hk:3000≤k)(t:Int)(b:List Int)(hb:b.length<1000000000000000)(hby:Ci b)(at_ many:Int)(ha:Bt at_):
 ∃nx ok l,Em k t b at_ many=some (((),nx,ok),l)∧Ef k t b at_ many=some (((),nx,ok),l)∧Q6 t b at_ many nx ok l:=by
 unfold Em Ef;simp only[Lt,K5,CB,Dc,AQ,cst];by_cases hc:Di t=true∧(0≤many∧many≤2000)∧(0≤at_∧at_≤(b.length:Int))
 ·obtain⟨hty,⟨m0,m1⟩,a0,a1⟩:=hc
  simp only[hty,AZ m0,AZ m1,AZ a0,AZ a1,Bool.and_self,Bb,Cu,AU];by_cases ht:t=0
  ·subst ht
   obtain⟨nx,ok,l,e1,e2,e3,e4⟩:=Rk k hk b hb hby at_ many 1 ha;have hll:l.length<1000000000∧l.length<k:=by
    cases ok with
    |false=>obtain⟨_,rfl⟩:=e3 rfl;simp;omega
    |true=>obtain⟨_,_,_,_,h,_⟩:=e4 rfl;omega
   obtain⟨v1,v2⟩:=Oj k l hll.1 l [] k rfl hll.2;rw[List.length_nil,List.map_nil,show((0:Nat):Int)=0 from rfl] at v1 v2;simp only[show((0:Int)==0)=true from rfl,AP,e1,e2,AQ,FO,v1,v2 nx ok];refine⟨_,_,_,rfl,rfl,⟨fun _=> .inr rfl,fun _=>hty,fun _=>a0,fun _=>⟨m0,m1⟩,?_,?_,?_,?_,?_,fun h=>by rw[(e3 h).2];simp⟩⟩
   ·intro h;obtain⟨_,_,_,_,_,_,h7,_,_⟩:=e4 h;omega
   ·intro h;obtain⟨_,_,_,_,_,_,_,h8,_⟩:=e4 h;exact h8
   ·intro h;obtain⟨_,_,_,_,h5,_,h7,_⟩:=e4 h;rw[h7];unfold BX Fw;rw[if_pos rfl,De];simp[h5]
   ·intro h;obtain⟨_,_,_,_,h5,_⟩:=e4 h;simpa using h5
   ·intro h v hv
    obtain⟨_,_,_,_,_,_,_,_,h9⟩:=e4 h;obtain⟨x,hx,rfl⟩:=List.mem_map.1 hv;obtain⟨x0,x1⟩:=h9 x hx;have x1:x<2:=x1;refine⟨?_,⟨by show _≤x;omega,by show x<_;omega⟩⟩;unfold CK;rw[if_pos rfl];simp only[AZ x0,AZ (show x≤1 by omega),F6];simp
  ·obtain⟨many,rfl⟩:∃m:Nat,many=m:=⟨many.toNat,by omega⟩
   have ht':t=1∨t=2∨t=5∨t=6:=by have:=QB hty;omega
   obtain⟨nx,ok,l,e1,e2,e3,e4⟩:=abQ k (by omega) t ht' b hb hby many (by omega) many k 0 at_ [] (by omega) (by omega) rfl a0 a1;rw[show((0:Nat):Int)=0 from rfl] at e1 e2;simp only[A9 ht,AU,e1,e2];refine⟨_,_,_,rfl,rfl,⟨fun h=> .inl (e3 h).1,fun _=>hty,fun _=>a0,fun _=>⟨m0,m1⟩,fun h=>(e4 h).1,fun h=>(e4 h).2.1,?_,?_,?_,fun h=>by rw[(e3 h).2];simp⟩⟩
   ·intro h;obtain⟨_,_,l',rfl,_,h6,_⟩:=e4 h;unfold BX;rw[if_neg ht];simpa using h6
   ·intro h;obtain⟨_,_,l',rfl,h5,_⟩:=e4 h;simpa using h5
   ·intro h;obtain⟨_,_,l',rfl,_,_,h6⟩:=e4 h;simpa using h6
 ·have:((!Di t|| !(decide (0≤many)&&decide (many≤2000)))|| !(decide (0≤at_)&&decide (at_≤(b.length:Int))))=true:=by
   by_cases a:Di t=true<;>by_cases b1:0≤many<;>by_cases c:many≤2000<;>by_cases d:0≤at_<;>by_cases e:at_≤(b.length:Int)<;>simp[a,b1,c,d,e]
   exact hc ⟨a,⟨b1,c⟩,d,e⟩
  simp only[this,AP];exact⟨_,_,_,rfl,rfl,⟨fun _=> .inl rfl,nofun,nofun,nofun,nofun,nofun,nofun,nofun,nofun,fun _=>by simp⟩⟩
end Go.Bd
end
section
namespace Go.Bd
open Go.Am Go.Fn
def fV(k:Nat)(l:List AR)(a id:Int):Int:=(DK k l a id).getD (-1)
def nV(k:Nat)(l:List AR)(a id:Int):Int×Bool:=(Kj k l a id).getD (0,false)
section
variable(k:Nat)(hk:2000≤k){l:List AR}{af:List Int}(h:F4 l af)
include hk h
theorem Jl(a:Nat)(ha:a<l.length)(id:Int):DK k l (a:Int) id=some (fV k l a id)∧Ew k (a:Int) id (true,tB l) af=some (fV k l a id,(tB l,af))∧(fV k l a id= -1∨∃q:Nat,fV k l a id=q∧a<q∧q<l.length):=by
 obtain⟨v,h1,h2,h3⟩:=find_eq k hk h a ha id;have:fV k l a id=v:=by unfold fV;rw[h1];rfl
 rw[this];exact⟨h1,h2,h3⟩
theorem J_(a:Nat)(ha:a<l.length)(id:Int):Kj k l (a:Int) id=some (nV k l a id)∧Jr k (a:Int) id (true,tB l) af=some (nV k l a id,(tB l,af))∧Bt (nV k l a id).1∧((nV k l a id).2=true→0≤fV k l a id):=by
 obtain⟨v,b,h1,h2,h3,w,h4,h5⟩:=num_eq k hk h a ha id;have e:nV k l a id=(v,b):=by unfold nV;rw[h1];rfl
 have e2:fV k l a id=w:=by unfold fV;rw[h4];rfl
 rw[e,e2];exact⟨h1,h2,h3,h5⟩
end
section
variable(k:Nat)(hk:2000≤k){l:List AR}{af:List Int}(h:F4 l af)
include hk h
end
theorem OT(b:ByteArray)(n:Nat):oO b (n:Int)=(b.toList[n]?).map fun c=>(c.toNat:Int):=by
 rw[ByteArray.toList_eq];show(match b.data.toList[n]? with|some b=>some (b.toNat:Int)|none=>none)=_;cases b.data.toList[n]?<;>rfl
theorem FY(b:ByteArray):b.toList.length=b.size:=by rw[ByteArray.toList_eq,Array.length_toList];rfl
theorem ab7(k:Nat)(a b:AV)(ha:a.2.1.size≤1000000)(hb:b.2.1.size≤1000000):∀(m f i:Nat),i+m=a.2.1.size→m<f→
 FU.l8 k f (i:Int) a b=some (Op.bytesLess (a.2.1.toList.drop i) (b.2.1.toList.drop i)):=by
 intro m
 induction m with
 |zero=>
  intro f i h hf;obtain⟨f,rfl⟩:∃q,f=q+1:=⟨f-1,by omega⟩;have hd:a.2.1.toList.drop i=[]:=List.drop_of_length_le (by rw[FY];omega);simp only[FU.l8,A8 (show ¬((i:Int)<(a.2.1.size:Int)) by omega),AU,AQ,hd];cases hbd:b.2.1.toList.drop i with
  |nil=>
   have:=List.drop_eq_nil_iff.1 hbd;rw[FY] at this;rw[A8 (by omega)];rfl
  |cons y r=>
   have hl:(b.2.1.toList.drop i).length=(y::r).length:=by rw[hbd]
   simp only[List.length_drop,FY,Co] at hl;rw[AZ (by omega)];rfl
 |succ m ih=>
  intro f i h hf;obtain⟨f,rfl⟩:∃q,f=q+1:=⟨f-1,by omega⟩;have hi1:IntKind.wrap .i64 ((i:Int)+1)=((i+1:Nat):Int):=by rw[AY (by omega) (by omega)];omega
  by_cases h1:i<a.2.1.size
  ·have hda:a.2.1.toList.drop i=a.2.1.toList[i]'(by rw[FY];omega)::a.2.1.toList.drop (i+1):=List.drop_eq_getElem_cons (by rw[FY];omega)
   by_cases h2:i<b.2.1.size
   ·have hdb:b.2.1.toList.drop i=b.2.1.toList[i]'(by rw[FY];omega)::b.2.1.toList.drop (i+1):=List.drop_eq_getElem_cons (by rw[FY];omega)
    have ga:oO a.2.1 (i:Int)=some ((a.2.1.toList[i]'(by rw[FY];omega)).toNat:Int):=by rw[OT,Jv (by rw[FY];omega)];rfl
    have gb:oO b.2.1 (i:Int)=some ((b.2.1.toList[i]'(by rw[FY];omega)).toNat:Int):=by rw[OT,Jv (by rw[FY];omega)];rfl
    simp only[FU.l8,AZ (show(i:Int)<(a.2.1.size:Int) by omega),AZ (show(i:Int)<(b.2.1.size:Int) by omega),AP,AQ,ga,gb,hi1];rw[hda,hdb];generalize a.2.1.toList[i]'(by rw[FY];omega)=x at*;generalize b.2.1.toList[i]'(by rw[FY];omega)=y at*;simp only[Op.bytesLess];by_cases hxy:x=y
    ·subst hxy
     rw[Bw rfl,AU,ih f (i+1) (by omega) (by omega)];have:¬(x<x):=by simp
     simp[this]
    ·have hne:((x.toNat:Int))≠(y.toNat:Int):=fun h=>hxy (UInt8.toNat_inj.1 (by omega))
     rw[BQ hne,AP];have:(x==y)=false:=by simpa using hxy
     rw[this,D9,Bool.or_false]
     congr 1
     by_cases hlt:x<y
     ·have:=UInt8.lt_iff_toNat_lt.1 hlt
      rw[AZ (by omega),AZ hlt]
     ·have:¬x.toNat<y.toNat:=fun h=>hlt (UInt8.lt_iff_toNat_lt.2 h)
      rw[A8 (by omega),A8 hlt]
   ·have hd:b.2.1.toList.drop i=[]:=List.drop_of_length_le (by rw[FY];omega)
    simp only[FU.l8,AZ (show(i:Int)<(a.2.1.size:Int) by omega),A8 (show ¬((i:Int)<(b.2.1.size:Int)) by omega),AP,AU,AQ];rw[hda,hd,A8 (by omega)];rfl
  ·omega
def Ol(t:Int)(a b:AV):Bool:=
 if CK t a=true∧CK t b=true then
  if t=5 then decide ((if a.1<0 then bits .xor .i64 a.1 9223372036854775807 else a.1)<(if b.1<0 then bits .xor .i64 b.1 9223372036854775807 else b.1))
  else if t=6 then Op.bytesLess a.2.1.toList b.2.1.toList
  else decide (a.1<b.1)
 else false
theorem QE{v:AV}(h:CK 6 v=true):v.2.1.size≤40:=by
 unfold CK at h;rw[if_neg (by decide),if_neg (by decide),if_neg (by decide),if_pos rfl] at h;simp only[BZ,Ce] at h;omega
theorem QD(k:Nat)(hk:2000000≤k)(t:Int)(a b:AV):FU k t a b=some (Ol t a b)∧Iz k t a b=some (Ol t a b):=by
 unfold FU Iz Ol;simp only[Lr,MX,AQ];cases ha:CK t a with
 |false=>simp
 |true=>
  cases hb:CK t b with
  |false=>simp
  |true=>
   simp only[Bb,AU,AQ,and_self,if_true];by_cases h5:t=5
   ·rw[Bl h5,AP,AP,if_pos h5]
    unfold FU.d5 Iz.d5 NU Mj;constructor<;>
    ·by_cases h1:a.1<0<;>by_cases h2:b.1<0<;>simp[h1,h2]
   ·rw[A9 h5,AU,AU,if_neg h5]
    by_cases h6:t=6
    ·subst h6
     have s1:=QE ha;have s2:=QE hb;have:=ab7 k a b (by omega) (by omega) a.2.1.size k 0 (by omega) (by omega);have this:FU.l8 k k 0 a b=_:=this;rw[Bl rfl,AP,AP,if_pos rfl,this];exact⟨rfl,rfl⟩
    ·rw[A9 h6,AU,AU,if_neg h6]
     exact⟨rfl,rfl⟩
def EH(lf:Bu):Bool:=Di lf.1&&(decide (0≤lf.2.1)&&decide (lf.2.1≤lf.2.2.1)&&decide (lf.2.2.1≤6))
theorem Jt(k:Nat)(lf:Bu):J3 k lf=some (EH lf)∧MI k lf=some (EH lf):=by
 unfold J3 MI EH;simp only[Lt,K5,CB,Dc,AQ,BV,Dt];cases Di lf.1 with
 |false=>exact⟨rfl,rfl⟩
 |true=>
  simp only[Er];constructor<;>(rw[Bool.eq_iff_iff];simp only[BZ,Ce];omega)
abbrev zS:D5:=(0,false,(0,A7,()),(0,A7,()),())
theorem value_eq(k:Nat)(hk:3000≤k)(t:Int)(s:ByteArray)(hs:s.size<1000000):
 ∃v v' b,Js k t s=some (v,b)∧Gc k t s=some (v',b)∧(b=true→v'=v∧CK t v=true∧Bt v.1):=by
 unfold Js Gc;by_cases h6:t=6
 ·subst h6
  simp only[show((6:Int)==6)=true from rfl,show((6:Int) !=6)=false from rfl,AP,AU,MX,Lr,AQ,Gc.c7,Gc.d7,NW];refine⟨_,(0,s,()),_,rfl,?_,?_⟩
  ·cases CK 6 (0,s,()) with
   |false=>rfl
   |true=>
    simp only[AP,F6,decide_true]
  ·intro h
   exact⟨rfl,h,by show _≤(0:Int);decide,by show(0:Int)<_;decide⟩
 ·obtain⟨nx,ok,l,e1,e2,r⟩:=Mx k hk t (fH s) (by rw[vR];omega) (NZ s) 0 1 ⟨by decide,by decide⟩
  simp only[A9 h6,BQ h6,AP,AU,e1,e2,AQ,cst];cases ok with
  |false=>
   simp only[Bv,AP,BR,AQ];exact⟨_,_,_,rfl,rfl,fun h=>by cases h⟩
  |true=>
   have hlen:=r.len rfl;have hl1:l.length=1:=by rw[hlen];rfl
   obtain⟨v,rfl⟩:∃v,l=[v]:=by
    match l,hl1 with
    |[v],_=>exact⟨v,rfl⟩
   obtain⟨hv,hI⟩:=r.vk rfl v (by simp);have hnl:=r.nl rfl;have hty:=r.ty rfl;have hvs:Eu t [v]=true:=I5.2 ⟨fun x hx=>by rw[List.mem_singleton.1 hx];exact hv,by simp,hty⟩;obtain⟨p1,p2⟩:=Qi k hk t [v] (by simp) (by simp;omega);rw[hvs,if_pos rfl] at p1 p2;have hg:gP [v] 0=some v:=rfl;simp only[Bb,AU,Cm,hg,AQ,NB,Gc.c7,Gc.d7,NW,A9 h6,p1,p2,Lr,hv,AP,F6];by_cases hq:yM (BX t [v])=s
   ·have hz:nx=(s.size:Int):=by rw[←hq,II];omega
    rw[AZ hq,Bw hz];exact⟨_,_,_,rfl,rfl,fun _=>⟨rfl,hv,hI⟩⟩
   ·rw[A8 hq]
    cases(nx !=(s.size:Int)) with
    |false=>exact⟨_,_,_,rfl,rfl,fun h=>by cases h⟩
    |true=>exact⟨_,_,_,rfl,rfl,fun h=>by cases h⟩
section
variable(k:Nat)(hk:2000000≤k)
include hk
theorem acu(lf:Bu)(st:D5):∃b,KX k lf st=some b∧MK k lf st=some b:=by
 unfold KX MK;obtain⟨g1,g2⟩:=Jt k lf;simp only[g1,g2,AQ,CB,Dc,cst,BV,MX,Lr,(QD k hk _ _ _).1,(QD k hk _ _ _).2,RD];exact⟨_,rfl,rfl⟩
variable{l:List AR}{af:List Int}(h:F4 l af)
include h
theorem acv(lf:Bu)(hlf:EH lf=true)(a:Nat)(ha:a<l.length):
 ∃S,Fq k lf (a:Int) (true,tB l) af=some (S,tB l,af)∧Ii k lf l (a:Int)=some S∧(S.2=false→S.1=zS):=by
 have hk2:2000≤k:=by omega
 obtain⟨f5,Yj,_⟩:=Jl k hk2 h a ha 5;obtain⟨f6,Yu,_⟩:=Jl k hk2 h a ha 6;obtain⟨n3,n3',_⟩:=J_ k hk2 h a ha 3;obtain⟨hi,hb,hn,t5,t5',hs5,z5⟩:=text_eq k hk2 h a ha 5;obtain⟨lo,lb,ln,t6,t6',hs6,z6⟩:=text_eq k hk2 h a ha 6;have p5:hb=true→0≤fV k l a 5:=by
  intro hh;subst hh;unfold Kk at t5;simp only[f5,AQ] at t5;by_cases hneg:fV k l a 5<0
  ·rw[AZ hneg] at t5
   simp at t5
  ·omega
 have p6:lb=true→0≤fV k l a 6:=by
  intro hh;subst hh;unfold Kk at t6;simp only[f6,AQ] at t6;by_cases hneg:fV k l a 6<0
  ·rw[AZ hneg] at t6
   simp at t6
  ·omega
 obtain⟨vh,vh',bh,v5,v5',w5⟩:=value_eq k (by omega) lf.1 hi (by omega);obtain⟨vl,vl',bl,v6,v6',w6⟩:=value_eq k (by omega) lf.1 lo (by omega);unfold Fq Ii;simp only[n3,n3',t5,t6,t5',t6',f5,f6,Yj,Yu,AQ,(Jt k lf).1,hlf,cst,BV,Bb,hs5,hs6,v5,v5',v6,v6',Fq.c13,Fq.d12,Ii.c15];cases hnb:(nV k l (a:Int) 3).2 with
 |false=>
  simp only[Bv,BR,AP];exact⟨_,rfl,rfl,fun _=>rfl⟩
 |true=>
  simp only[Bb,Cm,Bool.or_false,AU];have fin:∀st:D5,∃S,((KX k lf st).bind fun r1=>cond (!r1) (some ((zS,false),tB l,af)) (some ((st,true),tB l,af)))=some (S,tB l,af)∧((MK k lf st).bind fun r1=>cond (!r1) (some (zS,false)) (some (st,true)))=some S∧(S.2=false→S.1=zS):=by
   intro st;obtain⟨b,s1,s2⟩:=acu k hk lf st;rw[s1,s2];cases b with
   |false=>exact⟨_,rfl,rfl,fun _=>rfl⟩
   |true=>exact⟨_,rfl,rfl,fun h=>by cases h⟩
  by_cases hany:0≤fV k l a 5∨0≤fV k l a 6
  ·have key:∀X Y:Option ((D5×Bool)×Bc×List Int),(cond (decide (fV k l a 5≥0)) X (cond (decide (fV k l a 6≥0)) X Y))=X:=by
    intro X Y;by_cases q5:0≤fV k l a 5
    ·rw[AZ q5];rfl
    ·have q6:0≤fV k l a 6:=by omega
     rw[A8 q5,AZ q6];rfl
   rw[show ∀X:Option ((D5×Bool)×Bc×List Int),∀Y,cond true X Y=X from fun _ _=>rfl];rw[key];have Z9:(decide (fV k l a 5≥0)||decide (fV k l a 6≥0))=true:=by simpa using hany
   cases hb with
   |false=>
    cases lb with
    |false=>simp only[Z9,Bv,BR,AP,Bool.and_true,beq_self_eq_true,Bb,Bool.or_true];exact⟨_,rfl,rfl,fun _=>rfl⟩
    |true=>simp only[Bv,BR,AP,show(false==true)=false from rfl];exact⟨_,rfl,rfl,fun _=>rfl⟩
   |true=>
    cases lb with
    |false=>simp only[Bv,BR,AP,show(true==false)=false from rfl,Bool.or_true];exact⟨_,rfl,rfl,fun _=>rfl⟩
    |true=>
     cases bh with
     |false=>simp only[Bv,Bb,BR,Bool.or_true,AP,AU,beq_self_eq_true,Cu,D9];exact⟨_,rfl,rfl,fun _=>rfl⟩
     |true=>
      cases bl with
      |false=>simp only[Bv,Bb,BR,Bool.or_true,AP,AU,beq_self_eq_true,Cu,D9];exact⟨_,rfl,rfl,fun _=>rfl⟩
      |true=>
       obtain⟨rfl,_⟩:=w5 rfl;obtain⟨rfl,_⟩:=w6 rfl;simp only[Bb,Cu,AP,AU,beq_self_eq_true,D9];exact fin _
  ·have h5:¬0≤fV k l a 5:=fun h=>hany (.inl h)
   have h6:¬0≤fV k l a 6:=fun h=>hany (.inr h);have b5:hb=false:=by cases hb with|false=>rfl|true=>exact(h5 (p5 rfl)).elim
   have b6:lb=false:=by cases lb with|false=>rfl|true=>exact(h6 (p6 rfl)).elim
   subst b5;subst b6;simp only[A8 (show ¬fV k l a 5≥0 from h5),A8 (show ¬fV k l a 6≥0 from h6),AU,beq_self_eq_true,Bb,Cu,Bool.and_false];exact fin _
end
end Go.Bd
end
