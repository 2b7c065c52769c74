/- plain laws of the claim's functions -/
import Derived.Test.YtohaijhiclmkkaaGreatLawECR0
set_option linter.unnecessarySimpa false
set_option linter.unusedSimpArgs false
set_option linter.unusedVariables false
set_option linter.unusedSectionVars false
section
set_option linter.unusedVariables false
set_option linter.unusedSimpArgs false
namespace Go.Law
open Go.Am Go.Fn
theorem bits_xor_comm (k:IntKind) (a b:Int):bits .xor k a b=bits .xor k b a:=by
 simp only [bits,BitVec.xor_comm]
theorem and_mask63 (x:Int):bits .and .i64 x 9223372036854775807=x%9223372036854775808:=by
 have hc:(9223372036854775807:Int)=((2^63-1:Nat):Int):=by decide
 have hb:(2^63-1)%2^IntKind.i64.bits=2^63-1:=by decide
 rw [hc]
 simp only [bits,BitVec.ofInt_natCast,BitVec.toNat_and,BitVec.toNat_ofNat,hb,Nat.and_two_pow_sub_one_eq_mod,BitVec.toNat_ofInt]
 show IntKind.wrap .i64 (((x%((2^64:Nat):Int)).toNat%2^63:Nat):Int)=_
 rw [w64 (by omega) (by omega)]
 omega
variable (k:Nat)
theorem szag_eq {u:Int} (h:I64 u):spec_Zag k u=some (zagV u):=by
 obtain ⟨h0,h1⟩:=h
 have hm:IntKind.wrap .i64 (shlI .i64 1 (IntKind.wrap .i64 (64-1))-1)=9223372036854775807:=by decide
 have hd:spec_l2Down k u 1=some ((u%18446744073709551616)/2):=by
  unfold spec_l2Down
  rw [beqF (by decide),cond_false,decide_eq_true (show (0:Int)≤1 by decide),cond_true,decide_eq_true (show (0:Int)≤IntKind.wrap .i64 (64-1) by decide),cond_true,hm,and_mask63]
  have:=shrI_eq .i64 u 1 (by decide)
  rw [show ((1:Nat):Int)=1 from rfl] at this
  rw [this]
  congr 1
  omega
 unfold spec_Zag zagV
 rw [hd,and1]
 by_cases h2:u%2=0
 ·rw [if_pos h2,beqF (by omega)]
  rfl
 ·rw [if_neg h2,beqT (by omega)]
  simp only [cond_true,Option.bind_some]
  rw [bits_xor_comm,xor_ones _ (by omega) (by omega)]
theorem sgetLoop (b:List Int) (p:Nat) (hb:b.length<4611686018427387904) (hby:∀x,x∈b→0≤x∧x<256) (hp:p≤b.length):∀(f n i acc:Nat),i+f=10→f<n→acc<2^(7*i)→
 spec_UvarGet.l5 k n b (p:Int) (IntKind.wrap .i64 (acc:Int)) (i:Int)=match gvN f (b.drop (p+i)) with
  |none=>some (0,0,false)
  |some (v,m)=>some (IntKind.wrap .i64 ((acc+v*2^(7*i):Nat):Int),((p+i+m:Nat):Int),true):=by
 have last:∀(n:Nat) (x:Int),0<n→spec_UvarGet.l5 k n b (p:Int) x ((10:Nat):Int)=some (0,0,false):=by
  intro n x hn
  obtain ⟨n,rfl⟩:∃j,n=j+1:=⟨n-1,by omega⟩
  simp only [spec_UvarGet.l5,show decide (((10:Nat):Int)<10)=false by decide,cond_false,Option.bind_some]
 intro f
 induction f with
 |zero=>
  intro n i acc hi hn hacc
  obtain rfl:i=10:=by omega
  exact last n _ (by omega)
 |succ f ih=>
  intro n i acc hi hn hacc
  obtain ⟨n,rfl⟩:∃j,n=j+1:=⟨n-1,by omega⟩
  have hP:0<2^(7*i):=Nat.two_pow_pos _
  have hP7:2^(7*(i+1))=128*2^(7*i):=by rw [Nat.mul_add,Nat.pow_add];simp [Nat.mul_comm]
  have c1:decide ((i:Int)<10)=true:=by simp;omega
  have e2:IntKind.wrap .i64 ((p:Int)+(i:Int))=((p+i:Nat):Int):=by rw [w64 (by omega) (by omega)];omega
  by_cases hlt:p+i<b.length
  ·obtain ⟨c,hc,hc2⟩:=drop_cons_of hlt
   obtain ⟨c0,c255⟩:=hby c (List.mem_of_getElem? hc2)
   have e3:IntKind.wrap .i64 (7*(i:Int))=((7*i:Nat):Int):=by rw [w64 (by omega) (by omega)];omega
   have e5:IntKind.wrap .i64 (((p+i:Nat):Int)+1)=((p+i+1:Nat):Int):=by rw [w64 (by omega) (by omega)];omega
   have e6:IntKind.wrap .i64 ((i:Int)+1)=((i+1:Nat):Int):=by rw [w64 (by omega) (by omega)];omega
   have c2:decide (((p+i:Nat):Int)<(b.length:Int))=true:=by simp;omega
   have c5:decide ((0:Int)≤((7*i:Nat):Int))=true:=decide_eq_true (by omega)
   have hget:rdL b ((p+i:Nat):Int)=some c:=by rw [rdL_nat];exact hc2
   have ec:IntKind.wrap .i64 c=c:=w64 (by omega) (by omega)
   have e127:bits .and .i64 c 127=(((c%128).toNat:Nat):Int):=by
    have:=and_mask_i64 c 7 (by decide)
    rw [show ((2:Int)^7-1)=127 by decide,show ((2:Int)^7)=128 by decide] at this
    rw [this];omega
   rw [hc,gvN]
   simp only [spec_UvarGet.l5,c1,c2,e2,e3,e5,e6,hget,ec,c5,cond_true,Option.bind_some,csf,e127]
   by_cases h9:f=0∧1<c
   ·obtain ⟨rfl,h1c⟩:=h9
    obtain rfl:i=9:=by omega
    rw [if_pos ⟨rfl,h1c⟩]
    by_cases h128:c<128
    ·simp only [decide_eq_true h128,cond_true,show (((9:Nat):Int)==9)=true by decide,show decide (c>1)=true from decide_eq_true h1c,Bool.and_self]
    ·simp only [decide_eq_false h128,cond_false]
     exact last n _ (by omega)
   ·rw [if_neg h9]
    have h9b:(((i:Int)==9)&&decide (c>1))=false:=by
     rw [Bool.eq_false_iff];intro q
     simp only [Bool.and_eq_true,beq_iff_eq,decide_eq_true_eq] at q
     exact h9 ⟨by omega,q.2⟩
    have hsum:acc+(c%128).toNat*2^(7*i)<2^IntKind.bits .i64:=by
     show _<2^64
     by_cases hf:f=0
     ·have:i=9:=by omega
      subst this
      have hc1:c≤1:=by
       rcases Int.lt_or_le 1 c with q|q
       ·exact (h9 ⟨hf,q⟩).elim
       ·exact q
      have h1:(c%128).toNat≤1:=by omega
      have h2:(2:Nat)^(7*9)=9223372036854775808:=by decide
      rw [h2] at hacc⊢
      have:=Nat.mul_le_mul_right 9223372036854775808 h1
      omega
     ·have h1:(c%128).toNat*2^(7*i)≤127*2^(7*i):=Nat.mul_le_mul_right _ (by omega)
      have h2:2^(7*(i+1))≤2^63:=Nat.pow_le_pow_right (by omega) (by omega)
      rw [hP7] at h2
      have h3:(2:Nat)^63=9223372036854775808:=by decide
      omega
    have eor:=or_shl .i64 (a:=acc) (b:=(c%128).toNat) (i:=7*i) (show 7*i≤64 by omega) hacc hsum
    rw [eor]
    by_cases h128:c<128
    ·rw [if_pos h128]
     simp only [decide_eq_true h128,cond_true,h9b,cond_false]
     have:(c%128).toNat=c.toNat:=by omega
     rw [this]
    ·rw [if_neg h128]
     simp only [decide_eq_false h128,cond_false]
     have hlt2:acc+(c%128).toNat*2^(7*i)<2^(7*(i+1)):=by
      rw [hP7]
      have:(c%128).toNat*2^(7*i)≤127*2^(7*i):=Nat.mul_le_mul_right _ (by omega)
      omega
     rw [ih n (i+1) _ (by omega) (by omega) hlt2,←Nat.add_assoc]
     cases gvN f (b.drop (p+i+1)) with
     |none=>rfl
     |some x=>
      obtain ⟨v,m⟩:=x
      simp only [Option.map_some]
      rw [hP7,show acc+(c%128).toNat*2^(7*i)+v*(128*2^(7*i))=acc+((c%128).toNat+128*v)*2^(7*i) by grind,show p+i+1+m=p+i+(m+1) by omega]
  ·have c2:decide (((p+i:Nat):Int)<(b.length:Int))=false:=decide_eq_false (by omega)
   rw [List.drop_eq_nil_of_le (by omega),gvN]
   simp only [spec_UvarGet.l5,c1,e2,c2,cond_true,cond_false,Option.bind_some]
theorem sget_any (hk:2000≤k) {b:List Int} (hl:b.length<4611686018427387904) (hb:Byt b) (p:Nat) (hp:p≤b.length):spec_UvarGet k b (p:Int)=match gv (b.drop p) with
 |none=>some (0,0,false)
 |some (u,n)=>some (u,((p+n:Nat):Int),true):=by
 unfold spec_UvarGet
 rw [decide_eq_false (show ¬((p:Int)<0) by omega)]
 by_cases h:p=b.length
 ·rw [decide_eq_true (show (p:Int)≥(b.length:Int) by omega),List.drop_eq_nil_of_le (by omega)]
  rfl
 ·rw [decide_eq_false (show ¬(p:Int)≥(b.length:Int) by omega)]
  simp only [cond_false,Option.bind_some]
  have h:=sgetLoop k b p hl hb hp 10 k 0 0 rfl (by omega) (by simp)
  rw [show IntKind.wrap .i64 ((0:Nat):Int)=0 by decide,show ((0:Nat):Int)=0 from rfl] at h
  rw [h]
  unfold gv
  rw [Nat.add_zero]
  cases gvN 10 (b.drop p) with
  |none=>rfl
  |some x=>
   simp only [Option.map_some,Nat.mul_zero,Nat.pow_zero,Nat.mul_one,Nat.zero_add]
theorem szig_any (hk:2000≤k) {b:List Int} (hl:b.length<4611686018427387904) (hb:Byt b) (p:Nat) (hp:p≤b.length):spec_ZigGet k b (p:Int)=match gv (b.drop p) with
 |none=>some (0,0,false)
 |some (u,n)=>some (zagV u,((p+n:Nat):Int),true):=by
 unfold spec_ZigGet
 rw [sget_any k hk hl hb p hp]
 cases hg:gv (b.drop p) with
 |none=>rfl
 |some z=>
  obtain ⟨u,n⟩:=z
  obtain ⟨f1,_⟩:=gv_facts _ u n (fun x hx=>hb x (List.mem_of_mem_drop hx)) hg
  simp only [Option.bind_some,Bool.not_true,cond_false,szag_eq k f1]
theorem smany_any (hk:2000≤k) {b:List Int} (hl:b.length<4611686018427387904) (hb:Byt b) (p:Nat) (hp:p≤b.length):∃x y z e,spec_l4Many k b (p:Int)=some (x,y,z,e)∧
 (match prMany b p with
 | .bad c=>e=c∧c≠0
 | .ok q (many,item)=>x=many∧y=item∧z=(q:Int)∧e=0∧q≤b.length):=by
 unfold spec_l4Many prMany
 by_cases hlt:p<b.length
 ·obtain ⟨c,hc,hc2⟩:=drop_cons_of hlt
  obtain ⟨c0,c255⟩:=hb c (List.mem_of_getElem? hc2)
  have ec:IntKind.wrap .i64 c=c:=w64 (by omega) (by omega)
  have e16:IntKind.wrap .i64 (Int.tdiv c 16)=c/16:=by
   rw [Int.tdiv_eq_ediv_of_nonneg c0,w64 (by omega) (by omega)]
  have em:Int.tmod c 16=c%16:=Int.tmod_eq_emod_of_nonneg c0
  have ep:IntKind.wrap .i64 ((p:Int)+1)=((p+1:Nat):Int):=by rw [w64 (by omega) (by omega)];omega
  rw [decide_eq_false (by omega),cond_false,rdL_nat,hc2]
  simp only [Option.bind_some,ec,e16,em,ep]
  have tail:∀(many:Int) (q:Nat),q≤b.length→∃x y z e,spec_l4Many.c11 k (q:Int) many (c%16)=some (x,y,z,e)∧
   (match (if many=0 then (.ok q (0,0):Res (Int×Int)) else if isItem (c%16)=false then .bad 2 else if many<0∨1500<many then .bad 4 else .ok q (many,c%16)) with
   | .bad c=>e=c∧c≠0
   | .ok q (many,item)=>x=many∧y=item∧z=(q:Int)∧e=0∧q≤b.length):=by
   intro many q hq
   unfold spec_l4Many.c11
   by_cases h0:many=0
   ·rw [beqT h0,cond_true,if_pos h0]
    exact ⟨_,_,_,_,rfl,rfl,rfl,rfl,rfl,hq⟩
   ·rw [beqF h0,cond_false,if_neg h0,l4Item_eq]
    simp only [Option.bind_some,cst]
    cases isItem (c%16) with
    |false=>
     rw [if_pos rfl]
     exact ⟨_,_,_,_,rfl,rfl,by decide⟩
    |true=>
     rw [if_neg (by decide)]
     simp only [Bool.not_true,cond_false]
     by_cases hm:many<0∨1500<many
     ·rw [if_pos hm]
      have:(decide (many<0)||decide (many>1500))=true:=by
       rcases hm with h|h
       ·rw [decide_eq_true h,Bool.true_or]
       ·rw [decide_eq_true (show many>1500 from h),Bool.or_true]
      rw [this]
      exact ⟨_,_,_,_,rfl,rfl,by decide⟩
     ·rw [if_neg hm]
      rw [decide_eq_false (show ¬many<0 by omega),decide_eq_false (show ¬many>1500 by omega)]
      exact ⟨_,_,_,_,rfl,rfl,rfl,rfl,rfl,hq⟩
  by_cases h15:c/16=15
  ·simp only [if_pos h15,beqT h15,cond_true,sget_any k hk hl hb (p+1) (by omega)]
   cases hg:gv (b.drop (p+1)) with
   |none=>
    simp only [Option.bind_some,Bool.not_false,cond_true,Option.map_none]
    exact ⟨_,_,_,_,rfl,rfl,by decide⟩
   |some z=>
    obtain ⟨u,n⟩:=z
    obtain ⟨f1,f2,f3,f4,f5⟩:=gv_facts _ u n (fun x hx=>hb x (List.mem_of_mem_drop hx)) hg
    rw [List.length_drop] at f3
    simp only [Option.bind_some,Bool.not_true,cond_false,Option.map_some]
    exact tail u (p+1+n) (by omega)
  ·simp only [if_neg h15,beqF h15,cond_false]
   exact tail (c/16) (p+1) (by omega)
 ·rw [decide_eq_true (by omega),cond_true,List.getElem?_eq_none (by omega)]
  exact ⟨_,_,_,_,rfl,rfl,by decide⟩
theorem shead_any (hk:2000≤k) {b:List Int} (hl:b.length<4611686018427387904) (hb:Byt b) (p:Nat) (hp:p≤b.length) (last:Int) (hla:0≤last∧last≤1000):∃x y z e,spec_l4Head k b (p:Int) last=some (x,y,z,e)∧
 (match prHead b p last with
 | .bad c=>e=c∧c≠0
 | .ok q (t,id)=>x=t∧(t≠0→y=id)∧z=(q:Int)∧e=0∧q≤b.length):=by
 unfold spec_l4Head prHead
 by_cases hlt:p<b.length
 ·obtain ⟨c,hc,hc2⟩:=drop_cons_of hlt
  obtain ⟨c0,c255⟩:=hb c (List.mem_of_getElem? hc2)
  have ec:IntKind.wrap .i64 c=c:=w64 (by omega) (by omega)
  have e16:IntKind.wrap .i64 (Int.tdiv c 16)=c/16:=by
   rw [Int.tdiv_eq_ediv_of_nonneg c0,w64 (by omega) (by omega)]
  have em:Int.tmod c 16=c%16:=Int.tmod_eq_emod_of_nonneg c0
  have ep:IntKind.wrap .i64 ((p:Int)+1)=((p+1:Nat):Int):=by rw [w64 (by omega) (by omega)];omega
  have el:IntKind.wrap .i64 (last+c/16)=last+c/16:=w64 (by omega) (by omega)
  rw [decide_eq_false (by omega),cond_false,rdL_nat,hc2]
  simp only [Option.bind_some,ec,e16,em,ep,el]
  by_cases h0:c=0
  ·rw [beqT h0,cond_true,if_pos h0]
   exact ⟨_,_,_,_,rfl,rfl,fun h=>(h rfl).elim,rfl,rfl,by omega⟩
  ·rw [beqF h0,cond_false,if_neg h0,l4Kind_eq]
   simp only [Option.bind_some]
   cases hkd:isKind (c%16) with
   |false=>
    rw [if_pos rfl]
    exact ⟨_,_,_,_,rfl,rfl,by decide⟩
   |true=>
    rw [if_neg (by decide)]
    simp only [Bool.not_true,cond_false]
    have tail:∀(id:Int) (q:Nat),q≤b.length→∃x y z e,spec_l4Head.c16 k (q:Int) last (c%16) id=some (x,y,z,e)∧
     (match (if id<1∨1000<id then (.bad 3:Res (Int×Int)) else if id≤last then .bad 5 else .ok q (c%16,id)) with
     | .bad c=>e=c∧c≠0
     | .ok q (t,id)=>x=t∧(t≠0→y=id)∧z=(q:Int)∧e=0∧q≤b.length):=by
     intro id q hq
     unfold spec_l4Head.c16
     rw [l1In_eq]
     simp only [Option.bind_some]
     by_cases hi:id<1∨1000<id
     ·rw [if_pos hi]
      have hw:(decide ((1:Int)≤id)&&decide (id≤1000))=false:=by
       rw [Bool.eq_false_iff];intro q
       simp only [Bool.and_eq_true,decide_eq_true_eq] at q
       omega
      rw [hw]
      exact ⟨_,_,_,_,rfl,rfl,by decide⟩
     ·rw [if_neg hi]
      have hw:(decide ((1:Int)≤id)&&decide (id≤1000))=true:=by simp;omega
      rw [hw]
      simp only [Bool.not_true,cond_false]
      by_cases h5:id≤last
      ·rw [if_pos h5,decide_eq_true h5]
       exact ⟨_,_,_,_,rfl,rfl,by decide⟩
      ·rw [if_neg h5,decide_eq_false h5]
       exact ⟨_,_,_,_,rfl,rfl,fun _=>rfl,rfl,rfl,hq⟩
    by_cases h16:c/16=0
    ·simp only [if_pos h16,beqT h16,cond_true,szig_any k hk hl hb (p+1) (by omega)]
     cases hg:gv (b.drop (p+1)) with
     |none=>
      simp only [Option.bind_some,Bool.not_false,cond_true,Option.map_none]
      exact ⟨_,_,_,_,rfl,rfl,by decide⟩
     |some z=>
      obtain ⟨u,n⟩:=z
      obtain ⟨f1,f2,f3,f4,f5⟩:=gv_facts _ u n (fun x hx=>hb x (List.mem_of_mem_drop hx)) hg
      rw [List.length_drop] at f3
      simp only [Option.bind_some,Bool.not_true,cond_false,Option.map_some]
      exact tail (zagV u) (p+1+n) (by omega)
    ·simp only [if_neg h16,beqF h16,cond_false]
     exact tail (last+c/16) (p+1) (by omega)
 ·rw [decide_eq_true (by omega),cond_true,List.getElem?_eq_none (by omega)]
  exact ⟨_,_,_,_,rfl,rfl,by decide⟩
theorem stext_any (hk:2000≤k) {b:List Int} (hl:b.length<4611686018427387904) (hb:Byt b) (p:Nat) (hp:p≤b.length):∃x z e,spec_l4Text k b (p:Int)=some (x,z,e)∧
 (match prText b p with
 | .bad c=>e=c∧c≠0
 | .ok q s=>x=s∧z=(q:Int)∧e=0∧q≤b.length):=by
 unfold spec_l4Text prText
 rw [sget_any k hk hl hb p hp]
 cases hg:gv (b.drop p) with
 |none=>exact ⟨_,_,_,rfl,rfl,by decide⟩
 |some z=>
  obtain ⟨u,n⟩:=z
  obtain ⟨⟨f0,f1⟩,f2,f3,f4,f5⟩:=gv_facts _ u n (fun x hx=>hb x (List.mem_of_mem_drop hx)) hg
  rw [List.length_drop] at f3
  simp only [Option.bind_some,Bool.not_true,cond_false,cst]
  by_cases hu:u<0∨300<u
  ·rw [if_pos hu]
   have:(decide (u<0)||decide (u>300))=true:=by
    rcases hu with h|h
    ·rw [decide_eq_true h,Bool.true_or]
    ·rw [decide_eq_true (show u>300 from h),Bool.or_true]
   rw [this]
   exact ⟨_,_,_,rfl,rfl,by decide⟩
  ·rw [if_neg hu,decide_eq_false (show ¬u<0 by omega),decide_eq_false (show ¬u>300 by omega)]
   have e1:IntKind.wrap .i64 ((b.length:Int)-((p+n:Nat):Int))=(b.length:Int)-((p+n:Nat):Int):=w64 (by omega) (by omega)
   simp only [Bool.or_self,cond_false,e1]
   by_cases hs:(b.length:Int)-((p+n:Nat):Int)<u
   ·rw [if_pos hs,decide_eq_true hs]
    exact ⟨_,_,_,rfl,rfl,by decide⟩
   ·rw [if_neg hs,decide_eq_false hs]
    obtain ⟨U,rfl⟩:=Int.eq_ofNat_of_zero_le (show 0≤u by omega)
    have e2:IntKind.wrap .i64 (((p+n:Nat):Int)+(U:Int))=((p+n+U:Nat):Int):=by rw [w64 (by omega) (by omega)];omega
    have c3:inSl ((p+n:Nat):Int) ((p+n+U:Nat):Int) b.length=true:=inSl_ok (by omega) (by omega) (by omega)
    have hcut:cutL b ((p+n:Nat):Int) ((p+n+U:Nat):Int)=(b.drop (p+n)).take U:=by
     unfold cutL
     rw [Int.toNat_natCast,Int.toNat_natCast,List.drop_take,show p+n+U-(p+n)=U by omega]
    simp only [cond_false,e2,c3,cond_true,hcut,Int.toNat_natCast]
    exact ⟨_,_,_,rfl,rfl,rfl,rfl,by omega⟩
def SNode (S:(List Int)→Int→Int→Int→Int→(List TNode)→Option ((Unit×Int×Int)×(List TNode))) (b:List Int) (kind id deep:Int) (p:Nat) (acc:List TNode) (r:Res (List TNode)):Prop:=
 match r with
 | .bad e=>e≠0∧∃q l,S b (p:Int) kind id deep acc=some (((),q,e),l)
 | .ok q Y=>q≤b.length∧S b (p:Int) kind id deep acc=some (((),(q:Int),0),acc++Y)
theorem sparts (S:(List Int)→Int→Int→Int→Int→(List TNode)→Option ((Unit×Int×Int)×(List TNode))) (b:List Int) (item:Int) (deep:Nat) (hdeep:deep≤100) (P:Nat→Nat→Res (List TNode))
 (ih:∀(p:Nat) (acc:List TNode),p≤b.length→acc.length≤1500→SNode S b item 0 ((deep+1:Nat):Int) p acc (P p acc.length))
 (hP:∀p c q Y,c≤1500→P p c= .ok q Y→c+Y.length≤1500) (many:Int) (hm:many≤1500):
 ∀(m f:Nat) (i:Int) (p:Nat) (acc:List TNode),many-i=m→0≤i→m<f→p≤b.length→acc.length≤1500→
 match prParts P m p acc.length with
 | .bad e=>e≠0∧∃q l,spec_l4Read.l24 k S f b (deep:Int) many item (p:Int) 0 i acc=some (((),q,e),l)
 | .ok q Y=>q≤b.length∧spec_l4Read.l24 k S f b (deep:Int) many item (p:Int) 0 i acc=some (((),(q:Int),0),acc++Y):=by
 have hdw:IntKind.wrap .i64 ((deep:Int)+1)=((deep+1:Nat):Int):=by rw [w64 (by omega) (by omega)];omega
 intro m
 induction m with
 |zero=>
  intro f i p acc hi h0 hf hp hc
  obtain ⟨f,rfl⟩:∃j,f=j+1:=⟨f-1,by omega⟩
  simp only [prParts,spec_l4Read.l24,decide_eq_false (show ¬i<many by omega),cond_false,Option.bind_some,List.append_nil]
  exact ⟨hp,trivial⟩
 |succ m ihm=>
  intro f i p acc hi h0 hf hp hc
  obtain ⟨f,rfl⟩:∃j,f=j+1:=⟨f-1,by omega⟩
  have hi1:IntKind.wrap .i64 (i+1)=i+1:=w64 (by omega) (by omega)
  have h1:=ih p acc hp hc
  simp only [prParts,spec_l4Read.l24,decide_eq_true (show i<many by omega),cond_true,Option.bind_some,beqT rfl,hdw,hi1]
  unfold SNode at h1
  cases hr:P p acc.length with
  |bad e=>
   rw [hr] at h1
   obtain ⟨he,q,l,e1⟩:=h1
   refine ⟨he,q,l,?_⟩
   obtain ⟨f,rfl⟩:∃j,f=j+1:=⟨f-1,by omega⟩
   simp only [e1,Option.bind_some,spec_l4Read.l24,beqF he]
   cases decide (i+1<many)<;>rfl
  |ok q Y=>
   rw [hr] at h1
   obtain ⟨hq,e1⟩:=h1
   have hlen:=hP _ _ _ _ hc hr
   have h2:=ihm f (i+1) q (acc++Y) (by omega) (by omega) (by omega) hq (by rw [List.length_append];exact hlen)
   rw [List.length_append] at h2
   simp only [e1,Option.bind_some]
   cases hr2:prParts P m q (acc.length+Y.length) with
   |bad e=>rw [hr2] at h2;exact h2
   |ok q2 Z=>rw [hr2] at h2;simpa [List.append_assoc] using h2
theorem sfields (hk:2000≤k) (S:(List Int)→Int→Int→Int→Int→(List TNode)→Option ((Unit×Int×Int)×(List TNode))) (b:List Int) (hl:b.length<4611686018427387904) (hb:Byt b) (deep:Nat) (hdeep:deep≤100) (P:Int→Int→Nat→Nat→Res (List TNode))
 (ih:∀(t id:Int) (p:Nat) (acc:List TNode),isKind t=true→p≤b.length→acc.length≤1500→SNode S b t id ((deep+1:Nat):Int) p acc (P t id p acc.length))
 (hP:∀t id p c q Y,isKind t=true→c≤1500→P t id p c= .ok q Y→c+Y.length≤1500) (id0:Int) (pre:List TNode):
 ∀(g f:Nat) (last:Int) (p:Nat) (j:Nat) (mid:List TNode),1002≤(g:Int)+last→0≤last→last≤1000→g<f→p≤b.length→pre.length+1+mid.length≤1500→(j:Int)+g≤4000→
 match prFields P b g last p (pre.length+1+mid.length) with
 | .bad e=>e≠0∧∃q l,spec_l4Read.l30 k S f b (p:Int) (deep:Int) (pre.length:Int) last (j:Int) (pre++sn id0 0::mid)=some (((),q,e),l)
 | .ok q (m,Y)=>q≤b.length∧spec_l4Read.l30 k S f b (p:Int) (deep:Int) (pre.length:Int) last (j:Int) (pre++sn id0 0::mid)=some (((),(q:Int),0),pre++sn id0 ((j+m:Nat):Int)::(mid++Y)):=by
 have hdw:IntKind.wrap .i64 ((deep:Int)+1)=((deep+1:Nat):Int):=by rw [w64 (by omega) (by omega)];omega
 intro g
 induction g with
 |zero=>intro f last p j mid h1 h2 h3;omega
 |succ g ihg=>
  intro f last p j mid h1 h2 h3 hf hp hc hj
  obtain ⟨f,rfl⟩:∃j,f=j+1:=⟨f-1,by omega⟩
  have hjw:IntKind.wrap .i64 ((j:Int)+1)=((j+1:Nat):Int):=by rw [w64 (by omega) (by omega)];omega
  obtain ⟨x,y,z,e,e1,e2⟩:=shead_any k hk hl hb p hp last ⟨h2,h3⟩
  simp only [prFields,spec_l4Read.l30,e1,Option.bind_some]
  cases hr:prHead b p last with
  |bad c=>
   rw [hr] at e2
   obtain ⟨rfl,he⟩:=e2
   simp only [bneT he,cond_true]
   exact ⟨he,_,_,rfl⟩
  |ok q w=>
   obtain ⟨t,id⟩:=w
   rw [hr] at e2
   obtain ⟨rfl,hy,rfl,rfl,hq⟩:=e2
   obtain ⟨a1,a2⟩:=prHead_ok hr
   simp only [bneF rfl,cond_false]
   by_cases ht:x=0
   ·simp only [if_pos ht,beqT ht,cond_true]
    have hget:rdL (pre++sn id0 0::mid) (pre.length:Int)=some (sn id0 0):=by
     rw [rdL_nat,List.getElem?_append_right (Nat.le_refl _)];simp
    have hset:∀x y:TNode,List.set (pre++x::mid) (Int.toNat (pre.length:Int)) y=pre++y::mid:=fun x y=>by
     rw [Int.toNat_natCast,List.set_append_right _ _ (Nat.le_refl _)];simp
    simp only [hget,Option.bind_some,hset]
    exact ⟨hq,by simp [sn]⟩
   ·obtain rfl:=hy ht
    rcases a2 with a2|⟨a2,_,a3,a4,a5⟩
    ·exact (ht a2).elim
    ·simp only [if_neg ht,beqF ht,cond_false,hdw]
     have hn:=ih x y q (pre++sn id0 0::mid) a2 hq (by simp;omega)
     rw [show (pre++sn id0 0::mid).length=pre.length+1+mid.length by simp;omega] at hn
     unfold SNode at hn
     cases hr2:P x y q (pre.length+1+mid.length) with
     |bad e=>
      rw [hr2] at hn
      obtain ⟨he,q',l,e3⟩:=hn
      simp only [e3,Option.bind_some,bneT he,cond_true]
      exact ⟨he,_,_,rfl⟩
     |ok r Y=>
      rw [hr2] at hn
      obtain ⟨hr1,e3⟩:=hn
      have hlen:=hP _ _ _ _ _ _ a2 (by omega) hr2
      have h4:=ihg f y r (j+1) (mid++Y) (by omega) (by omega) (by omega) (by omega) hr1 (by rw [List.length_append];omega) (by omega)
      rw [List.length_append,←Nat.add_assoc] at h4
      simp only [e3,Option.bind_some,bneF rfl,cond_false,hjw,List.append_assoc,List.cons_append]
      cases hr3:prFields P b g y r (pre.length+1+mid.length+Y.length) with
      |bad e=>rw [hr3] at h4;exact h4
      |ok z w=>
       obtain ⟨m,Z⟩:=w
       rw [hr3] at h4
       obtain ⟨h5,h6⟩:=h4
       refine ⟨h5,?_⟩
       rw [h6,show j+1+m=j+(m+1) by omega,List.append_assoc]
theorem srdN (hk:2000≤k) (b:List Int) (hl:b.length<4611686018427387904) (hb:Byt b):∀(d D deep:Nat) (kind id:Int) (p:Nat) (acc:List TNode),d+deep=13→d<D→isKind kind=true→p≤b.length→acc.length≤1500→
 SNode (spec_l4Read.rec k D) b kind id (deep:Int) p acc (prN d b kind id p acc.length):=by
 intro d
 induction d with
 |zero=>
  intro D deep kind id p acc hdd hD hkd hp hc
  obtain ⟨D,rfl⟩:∃m,D=m+1:=⟨D-1,by omega⟩
  refine ⟨by decide,0,acc,?_⟩
  simp only [spec_l4Read.rec,spec_l4Read.b,cst,decide_eq_true (show (deep:Int)>12 by omega),Bool.or_true,Option.bind_some,cond_true]
 |succ d ih=>
  intro D deep kind id p acc hdd hD hkd hp hc
  obtain ⟨D,rfl⟩:∃m,D=m+1:=⟨D-1,by omega⟩
  have hset:∀(acc:List TNode) (x y:TNode),List.set (acc++[x]) (Int.toNat (acc.length:Int)) y=acc++[y]:=fun acc x y=>by
   rw [Int.toNat_natCast,List.set_append_right _ _ (Nat.le_refl _)];simp
  have hget:∀(acc:List TNode) (x:TNode),rdL (acc++[x]) (acc.length:Int)=some x:=fun acc x=>by
   rw [rdL_nat,List.getElem?_append_right (Nat.le_refl _)];simp
  unfold prN
  by_cases hc5:acc.length=1500
  ·rw [if_pos hc5]
   refine ⟨by decide,0,acc,?_⟩
   simp only [spec_l4Read.rec,spec_l4Read.b,cst,beqT (show (acc.length:Int)=1500 by omega),Bool.true_or,Option.bind_some,cond_true]
  ·rw [if_neg hc5]
   unfold SNode
   simp only [spec_l4Read.rec,spec_l4Read.b,cst,beqF (show ¬(acc.length:Int)=1500 by omega),decide_eq_false (show ¬(deep:Int)>12 by omega),Bool.or_self,Option.bind_some,cond_false]
   rw [lim_ok (by simp;omega),cond_true]
   by_cases h56:kind=5∨kind=6
   ·rw [if_pos h56]
    have e0:(cond (kind==5)
         (spec_l4Read.c8 k (spec_l4Read.rec k D) b (p:Int) kind (deep:Int) (acc.length:Int) kind (kind==5) (acc++[(kind,id,0,(⟨#[]⟩:ByteArray),0,())]))
         (spec_l4Read.c8 k (spec_l4Read.rec k D) b (p:Int) kind (deep:Int) (acc.length:Int) kind (kind==6) (acc++[(kind,id,0,(⟨#[]⟩:ByteArray),0,())])))
     =spec_l4Read.c8 k (spec_l4Read.rec k D) b (p:Int) kind (deep:Int) (acc.length:Int) kind true (acc++[(kind,id,0,(⟨#[]⟩:ByteArray),0,())]):=by
     rcases h56 with h|h
     ·rw [beqT h,cond_true]
     ·rw [beqF (show ¬kind=5 by omega),beqT h,cond_false]
    rw [e0]
    simp only [spec_l4Read.c8,cond_true,szig_any k hk hl hb p hp]
    cases hg:gv (b.drop p) with
    |none=>exact ⟨by decide,_,_,rfl⟩
    |some z=>
     obtain ⟨u,n⟩:=z
     obtain ⟨f1,f2,f3,f4,f5⟩:=gv_facts _ u n (fun x hx=>hb x (List.mem_of_mem_drop hx)) hg
     rw [List.length_drop] at f3
     simp only [Option.bind_some,Bool.not_true,cond_false,spec_l4Int,l1In_eq,csf]
     have h32:(decide (-2147483648≤zagV u)&&decide (zagV u≤2147483647))=int32 (zagV u):=rfl
     rw [h32]
     by_cases hbad:kind=5∧int32 (zagV u)=false
     ·rw [if_pos hbad]
      refine ⟨by decide,0,acc++[(kind,id,0,⟨#[]⟩,0,())],?_⟩
      simp only [beqT hbad.1,hbad.2,Bool.not_false,Bool.and_self,cond_true]
     ·rw [if_neg hbad]
      have hb2:((kind==5)&& !int32 (zagV u))=false:=by
       rw [Bool.eq_false_iff];intro q
       simp only [Bool.and_eq_true,beq_iff_eq,Bool.not_eq_true'] at q
       exact hbad q
      refine ⟨by omega,?_⟩
      simp only [hb2,cond_false,hget,hset,Option.bind_some]
   ·rw [if_neg h56]
    have e5:(kind==5)=false:=beqF (by omega)
    have e6:(kind==6)=false:=beqF (by omega)
    simp only [e5,e6,cond_false,spec_l4Read.c8]
    by_cases h8:kind=8
    ·subst h8
     simp only [if_true,show ((8:Int)==8)=true from rfl,cond_true]
     obtain ⟨x,z,e,e1,e2⟩:=stext_any k hk hl hb p hp
     simp only [e1,Option.bind_some,hget,hset]
     cases hr:prText b p with
     |bad c=>
      rw [hr] at e2
      obtain ⟨rfl,he⟩:=e2
      exact ⟨he,_,_,rfl⟩
     |ok q s=>
      rw [hr] at e2
      obtain ⟨rfl,rfl,rfl,hq⟩:=e2
      exact ⟨hq,rfl⟩
    ·rw [if_neg h8]
     simp only [beqF h8,cond_false]
     by_cases h9:kind=9
     ·subst h9
      simp only [if_true,show ((9:Int)==9)=true from rfl,cond_true]
      obtain ⟨x,y,z,e,e1,e2⟩:=smany_any k hk hl hb p hp
      simp only [e1,Option.bind_some,hget,hset]
      cases hr:prMany b p with
      |bad c=>
       rw [hr] at e2
       obtain ⟨rfl,he⟩:=e2
       have:∀f a,f≠0→spec_l4Read.l24 k (spec_l4Read.rec k D) f b (deep:Int) x y z e 0 a=some (((),z,e),a):=by
        intro f a hf
        obtain ⟨f,rfl⟩:∃j,f=j+1:=⟨f-1,by omega⟩
        simp only [spec_l4Read.l24,beqF he]
        cases decide ((0:Int)<x)<;>rfl
       refine ⟨he,_,_,this k _ (by omega)⟩
      |ok q w=>
       obtain ⟨many,item⟩:=w
       rw [hr] at e2
       obtain ⟨rfl,rfl,rfl,rfl,hq⟩:=e2
       obtain ⟨_,m1⟩:=prMany_ok hr
       simp only
       have hx:x≤1500:=by rcases m1 with h|h<;>omega
       have hx0:0≤x:=by rcases m1 with h|h<;>omega
       rcases m1 with ⟨rfl,rfl⟩|⟨m1,m2,m3⟩
       ·obtain ⟨K,hK⟩:∃K,k=K+1:=⟨k-1,by omega⟩
        have:∀f a,f≠0→spec_l4Read.l24 k (spec_l4Read.rec k D) f b (deep:Int) 0 0 (q:Int) 0 0 a=some (((),(q:Int),0),a):=by
         intro f a hf
         obtain ⟨f,rfl⟩:∃j,f=j+1:=⟨f-1,by omega⟩
         simp only [spec_l4Read.l24,decide_eq_false (show ¬((0:Int)<0) by omega),cond_false,Option.bind_some]
        simp only [Int.toNat_zero,prParts]
        exact ⟨hq,this k _ (by omega)⟩
       ·have hp:=sparts k (spec_l4Read.rec k D) b y deep (by omega) (fun p c=>prN d b y 0 p c)
         (fun p acc hp hc=>ih D (deep+1) y 0 p acc (by omega) (by omega) (isKind_of_item m3) hp hc)
         (fun p c q Y hc h=>by
          obtain ⟨_,n,X,rfl,_,_,_,h5⟩:=prN_enc d b y 0 p c q Y (isKind_of_item m3) hc h
          exact h5) x hx x.toNat k 0 q (acc++[(9,id,y,⟨#[]⟩,x,())]) (by omega) (by omega) (by omega) hq (by simp;omega)
        rw [List.length_append,List.length_singleton] at hp
        cases hr2:prParts (fun p c=>prN d b y 0 p c) x.toNat q (acc.length+1) with
        |bad e=>rw [hr2] at hp;exact hp
        |ok q' Y=>
         rw [hr2] at hp
         obtain ⟨h1,h2⟩:=hp
         exact ⟨h1,by rw [h2];simp⟩
     ·rw [if_neg h9]
      simp only [beqF h9,cond_false]
      by_cases h12:kind=12
      ·subst h12
       simp only [if_true,show ((12:Int)==12)=true from rfl,cond_true]
       have hf:=sfields k hk (spec_l4Read.rec k D) b hl hb deep (by omega) (fun t id p c=>prN d b t id p c)
        (fun t id p acc ht hp hc=>ih D (deep+1) t id p acc (by omega) (by omega) ht hp hc)
        (fun t id p c q Y ht hc h=>by
         obtain ⟨_,n,X,rfl,_,_,_,h5⟩:=prN_enc d b t id p c q Y ht hc h
         exact h5) id acc 1002 k 0 p 0 [] (by omega) (by omega) (by omega) (by omega) hp (by simp;omega) (by omega)
       rw [List.length_nil,Nat.add_zero] at hf
       rw [show (acc++[((12:Int),id,(0:Int),(⟨#[]⟩:ByteArray),(0:Int),())]:List TNode)=acc++sn id 0::[] from rfl]
       cases hr:prFields (fun t id p c=>prN d b t id p c) b 1002 0 p (acc.length+1) with
       |bad e=>rw [hr] at hf;exact hf
       |ok q' x=>
        obtain ⟨m,Y⟩:=x
        rw [hr] at hf
        obtain ⟨hq',e1⟩:=hf
        refine ⟨hq',?_⟩
        rw [show ((0:Nat):Int)=0 from rfl] at e1
        rw [e1]
        simp [sn]
      ·rw [if_neg h12]
       simp only [beqF h12,cond_false]
       exact ⟨hp,trivial⟩
end Go.Law
end
section
set_option linter.unusedVariables false
set_option linter.unusedSimpArgs false
namespace Go.Law
open Go.Am Go.Fn
variable (k:Nat)
abbrev RunR:=(Unit×Int×Bool)×List Int
theorem blen_le_iff {u w:Nat} (hw:w≤64) (hu:u<18446744073709551616):blen u≤w↔u<2^w:=by
 constructor
 ·intro h
  exact Nat.lt_of_lt_of_le (blen_lt hu) (Nat.pow_le_pow_right (by decide) h)
 ·intro h
  have e:=blenF_more w (64-w) u h
  rw [show w+(64-w)=64 by omega] at e
  unfold blen
  rw [e]
  exact blenF_le w u
theorem irep (L4:(List Int)→Int→Int→Int→(List Int)→Option RunR) (b:List Int) (many w x nx:Int) (m:Nat) (hm:m≤100000):∀(d n i:Nat) (o:List Int),i+d=m→d<n→o.length+d≤100000→
 impl_RunRead.l15 k L4 n b many w x nx (m:Int) (i:Int) o=L4 b nx many w (o++List.replicate d x):=by
 intro d
 induction d with
 |zero=>
  intro n i o hi hn ho
  obtain ⟨n,rfl⟩:∃x,n=x+1:=⟨n-1,by omega⟩
  simp only [impl_RunRead.l15,decide_eq_false (show ¬(i:Int)<(m:Int) by omega),cond_false]
  simp
 |succ d ih=>
  intro n i o hi hn ho
  obtain ⟨n,rfl⟩:∃x,n=x+1:=⟨n-1,by omega⟩
  have e:IntKind.wrap .i64 ((i:Int)+1)=((i+1:Nat):Int):=by rw [w64 (by omega) (by omega)];omega
  simp only [impl_RunRead.l15,decide_eq_true (show (i:Int)<(m:Int) by omega),cond_true,lim_ok (show o.length+[x].length≤4294967296 by simp;omega),e]
  rw [ih n (i+1) _ (by omega) (by omega) (by simp;omega),List.append_assoc]
  rfl
theorem srep (L4:(List Int)→Int→Int→Int→(List Int)→Option RunR) (b:List Int) (many:Nat) (w x nx:Int) (c:Nat) (hc:c<9223372036854775808) (hm:many≤2000):∀(d n i:Nat) (o:List Int),d=min (c-i) (many-o.length)→i≤c→d<n→i+d≤100000→
 spec_RunRead.l18 k L4 n b (many:Int) w nx (c:Int) x (i:Int) o=L4 b nx (many:Int) w (o++List.replicate d x):=by
 intro d
 induction d with
 |zero=>
  intro n i o hi hic hn ho
  obtain ⟨n,rfl⟩:∃x,n=x+1:=⟨n-1,by omega⟩
  have:(decide ((i:Int)<(c:Int))&&decide ((o.length:Int)<(many:Int)))=false:=by
   rw [Bool.eq_false_iff]
   intro h
   simp only [Bool.and_eq_true,decide_eq_true_eq] at h
   omega
  simp only [spec_RunRead.l18,csf,this,Option.bind_some,cond_false]
  simp
 |succ d ih=>
  intro n i o hi hic hn ho
  obtain ⟨n,rfl⟩:∃x,n=x+1:=⟨n-1,by omega⟩
  have e:IntKind.wrap .i64 ((i:Int)+1)=((i+1:Nat):Int):=by rw [w64 (by omega) (by omega)];omega
  simp only [spec_RunRead.l18,csf,decide_eq_true (show (i:Int)<(c:Int) by omega),decide_eq_true (show (o.length:Int)<(many:Int) by omega),Bool.and_self,Option.bind_some,cond_true,lim_ok (show o.length+[x].length≤4294967296 by simp;omega),e]
  rw [ih n (i+1) _ (by simp;omega) (by omega) (by omega) (by omega),List.append_assoc]
  rfl
theorem sun_inner (L25:(List Int)→Int→Int→Int→Int→Int→(List Int)→Option RunR) (pre post:List Int) (L M w i q:Nat) (t2 t15:Int) (hw:w≤64) (hq:(i:Int)*(w:Int)=(q:Int)) (hqn:i*w=q) (hqL:q+w≤8*L) (hl:pre.length+L<10000000000000000) (hi:i<1000000) (o:List Int) (ho:o.length<1000000):
 ∀(m n j:Nat),j+m=w→m<n→spec_RunRead.l29 k L25 n (pre++(leB L M++post)) t2 (w:Int) (pre.length:Int) t15 (i:Int) (IntKind.wrap .i64 ((M/2^q%2^j:Nat):Int)) (j:Int) o=L25 (pre++(leB L M++post)) t2 (w:Int) (pre.length:Int) t15 ((i+1:Nat):Int) (o++[unpackAt w M i]):=by
 intro m
 induction m with
 |zero=>
  intro n j hj hn
  obtain ⟨n,rfl⟩:∃x,n=x+1:=⟨n-1,by omega⟩
  obtain rfl:j=w:=by omega
  simp only [spec_RunRead.l29,decide_eq_false (show ¬(j:Int)<(j:Int) by omega),cond_false]
  rw [lim_ok (by simp;omega),cond_true,w64 (x:=(i:Int)+1) (by omega) (by omega)]
  unfold unpackAt
  rw [hqn]
  congr 1
 |succ m ih=>
  intro n j hj hn
  obtain ⟨n,rfl⟩:∃x,n=x+1:=⟨n-1,by omega⟩
  have hp:IntKind.wrap .i64 (IntKind.wrap .i64 (IntKind.wrap .i64 (8*(pre.length:Int))+IntKind.wrap .i64 ((i:Int)*(w:Int)))+(j:Int))=((8*pre.length+(q+j):Nat):Int):=by
   rw [hq,w64 (x:=(q:Int)) (by omega) (by omega),w64 (x:=8*(pre.length:Int)) (by omega) (by omega),w64 (x:=8*(pre.length:Int)+(q:Int)) (by omega) (by omega),w64 (by omega) (by omega)];omega
  have hb:=l1Bit_eq k pre post L M (q+j) (by omega) (by omega)
  simp only [spec_RunRead.l29,decide_eq_true (show (j:Int)<(w:Int) by omega),cond_true,hp,hb,Option.bind_some,decide_eq_true (show (0:Int)≤(j:Int) by omega)]
  have hlt:M/2^q%2^j<2^j:=Nat.mod_lt _ (Nat.two_pow_pos j)
  have hjj:2^(j+1)≤2^64:=Nat.pow_le_pow_right (by decide) (by omega)
  have hb1:M/2^(q+j)%2≤1:=by omega
  have hb2:M/2^(q+j)%2*2^j≤1*2^j:=Nat.mul_le_mul_right _ hb1
  have ho:=or_shl .i64 (a:=M/2^q%2^j) (b:=M/2^(q+j)%2) (i:=j) (show j≤64 by omega) hlt (show _<2^64 by rw [Nat.pow_succ] at hjj;omega)
  rw [ho]
  have hs:M/2^q%2^j+M/2^(q+j)%2*2^j=M/2^q%2^(j+1):=by
   rw [mod_succ,Nat.div_div_eq_div_mul,←Nat.pow_add]
  rw [hs,w64 (x:=(j:Int)+1) (by omega) (by omega),show ((j:Int)+1)=((j+1:Nat):Int) by omega]
  exact ih n (j+1) (by omega) (by omega)
theorem sun_loop (hk:3000≤k) (L4:(List Int)→Int→Int→Int→(List Int)→Option RunR) (pre post:List Int) (L M w c many:Nat) (hw:w≤24) (hc:c≤2000) (hm:many≤2000) (hN:min (8*c) many*w≤8*L) (hL:c*w≤L) (hl:pre.length+L<10000000000000000):
 ∀(d n i:Nat) (o:List Int),d=min (8*c-i) (many-o.length)→i≤8*c→d<n→o.length≤many→spec_RunRead.l25 k L4 n (pre++(leB L M++post)) (many:Int) (w:Int) (pre.length:Int) (c:Int) (i:Int) o=L4 (pre++(leB L M++post)) (IntKind.wrap .i64 ((pre.length:Int)+IntKind.wrap .i64 ((c:Int)*(w:Int)))) (many:Int) (w:Int) (o++(List.range' i d).map (unpackAt w M)):=by
 intro d
 have e8:IntKind.wrap .i64 (8*(c:Int))=((8*c:Nat):Int):=by rw [w64 (by omega) (by omega)];omega
 induction d with
 |zero=>
  intro n i o hi hic hn ho
  obtain ⟨n,rfl⟩:∃x,n=x+1:=⟨n-1,by omega⟩
  have:(decide ((i:Int)<((8*c:Nat):Int))&&decide ((o.length:Int)<(many:Int)))=false:=by
   rw [Bool.eq_false_iff]
   intro h
   simp only [Bool.and_eq_true,decide_eq_true_eq] at h
   omega
  simp only [spec_RunRead.l25,csf,e8,this,Option.bind_some,cond_false]
  simp
 |succ d ih=>
  intro n i o hi hic hn ho
  obtain ⟨n,rfl⟩:∃x,n=x+1:=⟨n-1,by omega⟩
  have hmul:i*w+w≤8*L:=by
   have h1:(i+1)*w≤8*c*w:=Nat.mul_le_mul_right _ (by omega)
   have h2:8*c*w≤8*L:=by rw [Nat.mul_assoc];exact Nat.mul_le_mul_left 8 hL
   rw [Nat.add_mul,Nat.one_mul] at h1
   omega
  have hi':=sun_inner k (spec_RunRead.l25 k L4 n) pre post L M w i (i*w) (many:Int) (c:Int) (by omega) (by simp) rfl hmul hl (by omega) o (by omega) w k 0 (by omega) (by omega)
  simp only [Nat.pow_zero,Nat.mod_one] at hi'
  have h0:((0:Nat):Int)=0:=rfl
  have hw0:IntKind.wrap .i64 0=0:=rfl
  rw [h0,hw0] at hi'
  simp only [spec_RunRead.l25,csf,e8,decide_eq_true (show (i:Int)<((8*c:Nat):Int) by omega),decide_eq_true (show (o.length:Int)<(many:Int) by omega),Bool.and_self,Option.bind_some,cond_true]
  rw [hi',ih n (i+1) _ (by simp;omega) (by omega) (by omega) (by simp;omega)]
  simp [List.range'_succ]
theorem runNum (hk:3000≤k) (b:List Int) (hb:b.length<1000000000000000) (hby:Byts b) (p w:Nat) (hp:p≤b.length) (hw:w≤24) (F:Int→Int→Option RunR):
 ∃(x nx:Int) (ok:Bool),impl_runNumber k b (p:Int) (w:Int)=some (x,nx,ok)∧
  (cond (decide ((w:Int)>0))
   ((spec_BitsSize k 1 (w:Int)).bind fun r6=>(spec_WordGet k b (p:Int) r6).bind fun r7=>
    (cond (!r7.2.2) (some (true)) (cond (decide (0≤(w:Int))) (some ((shrI .i64 r7.1 (w:Int)) !=0)) none)).bind fun b8=>cond b8 (some (((),0,false),[])) (F r7.1 r7.2.1))
   (F 0 (p:Int)))=cond ok (F x nx) (some (((),0,false),[]))∧
  (ok=true→(p:Int)≤nx∧nx≤(b.length:Int)∧0≤x∧x<2^w):=by
 unfold impl_runNumber
 by_cases h0:w=0
 ·subst h0
  refine ⟨0,p,true,rfl,rfl,fun _=>⟨by omega,by omega,by decide,by decide⟩⟩
 ·obtain ⟨z,h1,h2,hz⟩:=bitsSize_eq k 1 (w:Int)
  rcases hz with ⟨_,hn⟩|⟨_,_,_,_,hz⟩
  ·exact (hn ⟨by omega,by omega,by omega,by omega⟩).elim
  ·have hsz:z=(((w+7)/8:Nat):Int):=by
    rw [hz];unfold bytesOf;simp
   subst hsz
   obtain ⟨v,nx,ok,a1,a2,a3,a4,a5⟩:=word_any k (by omega) b hb hby (p:Int) ⟨by omega,by omega⟩ ((w+7)/8) (by omega) (by omega)
   simp only [beqF (show ¬(w:Int)=0 by omega),cond_false,h1,h2,Option.bind_some,a1,a2,decide_eq_true (show (w:Int)>0 by omega),cond_true,decide_eq_true (show (0:Int)≤(w:Int) by omega)]
   cases ok with
   |false=>
    simp only [Bool.not_false,cond_true,Option.bind_some]
    exact ⟨_,_,false,rfl,rfl,nofun⟩
   |true=>
    obtain ⟨c1,c2,c3,c4⟩:=a5 rfl
    obtain ⟨c5,c6⟩:=c4 (by omega)
    have hv:IntKind.wrap .u64 v=((v.toNat:Nat):Int):=by rw [wu64_eq];omega
    have hwd:impl_widthOf k v=some (blen v.toNat:Int):=by
     unfold impl_widthOf
     rw [hv,len64_eq k v.toNat (by omega)]
     rfl
    have hcond:decide ((blen v.toNat:Int)>(w:Int))=(shrI .i64 v (w:Int) !=0):=by
     rw [shrI_eq .i64 v w (show w≤64 by omega)]
     have hb:=blen_le_iff (u:=v.toNat) (w:=w) (by omega) (by omega)
     have hd:v/2^w=((v.toNat/2^w:Nat):Int):=by
      rw [Int.natCast_ediv,Int.toNat_of_nonneg c5];simp
     rw [hd]
     by_cases hlt:v.toNat<2^w
     ·rw [Nat.div_eq_of_lt hlt,decide_eq_false (by have:=hb.2 hlt;omega)];rfl
     ·have hq:0<v.toNat/2^w:=Nat.div_pos (by omega) (Nat.two_pow_pos w)
      rw [decide_eq_true (by have:¬blen v.toNat≤w:=fun h=>hlt (hb.1 h);omega),bneT (by omega)]
    simp only [Bool.not_true,cond_false,hwd,Option.bind_some,hcond]
    cases hs:(shrI .i64 v (w:Int) !=0) with
    |true=>
     simp only [cond_true]
     exact ⟨_,_,false,rfl,rfl,nofun⟩
    |false=>
     simp only [cond_false]
     refine ⟨_,_,true,rfl,rfl,fun _=>⟨by omega,c3,c5,?_⟩⟩
     rw [←hcond] at hs
     have hs:=of_decide_eq_false hs
     have:=(blen_le_iff (u:=v.toNat) (w:=w) (by omega) (by omega)).1 (by omega)
     have h2:((v.toNat:Nat):Int)<((2^w:Nat):Int):=by exact_mod_cast this
     rw [Int.toNat_of_nonneg c5] at h2
     simpa using h2
theorem head_odd (u:Int) (hu:I64 u):IntKind.wrap .i64 (shrI .u64 (IntKind.wrap .u64 u) 1)=((u64 u/2:Nat):Int):=by
 have:=u64_lt u
 rw [wu64 u,shr1u,w64 (by omega) (by omega)]
 omega
theorem run_loop (hk:2000000≤k) (b:List Int) (hb:b.length<1900000) (hby:Byts b) (w many:Nat) (hw:w≤24) (hm:many≤2000):∀(f n p:Nat) (o:List Int),p+f=b.length→f<n→o.length≤many→(∀x,x∈o→0≤x∧x<2^w)→
 ∃nx ok l,impl_RunRead.l4 k n b (p:Int) (many:Int) (w:Int) o=some (((),nx,ok),l)∧spec_RunRead.l4 k n b (p:Int) (many:Int) (w:Int) o=some (((),nx,ok),l)∧
  (ok=false→nx=0∧l=[])∧(ok=true→(p:Int)≤nx∧nx≤(b.length:Int)∧l.length=many∧∀x,x∈l→0≤x∧x<2^w):=by
 intro f
 induction f using Nat.strongRecOn with
 |ind f ih=>
 intro n p o hpf hn ho hox
 obtain ⟨n,rfl⟩:∃x,n=x+1:=⟨n-1,by omega⟩
 by_cases hmore:o.length<many
 ·have g1:=iget_any k (by omega) (by omega) hby p (by omega)
  have g2:=sget_any k (by omega) (by omega) hby p (by omega)
  simp only [impl_RunRead.l4,spec_RunRead.l4,decide_eq_true (show (o.length:Int)<(many:Int) by omega),cond_true,g1,g2]
  cases hg:gv (b.drop p) with
  |none=>
   have hd:spec_l2Down k 0 1=some 0:=by
    have:=down1 k 0 ⟨by decide,by decide⟩
    rw [this,u64_zero];rfl
   simp only [Option.bind_some,hd,Bool.not_false,cond_true]
   exact ⟨_,_,_,rfl,rfl,fun _=>⟨rfl,rfl⟩,nofun⟩
  |some un=>
   obtain ⟨u,c⟩:=un
   obtain ⟨hu,c1,c2,_,_⟩:=gv_facts (b.drop p) u c (fun x hx=>hby x (List.mem_of_mem_drop hx)) hg
   rw [List.length_drop] at c2
   have hul:=u64_lt u
   simp only [Option.bind_some,down1 k u hu,Bool.not_true,cond_false,head_odd u hu]
   generalize hcn:u64 u/2=cnt
   have hcnt:cnt<9223372036854775808:=by omega
   cases hodd:(bits .and .i64 u 1==0) with
   |true=>
    simp only [cond_true]
    obtain ⟨x,nx,ok,r1,r2,r3⟩:=runNum k (by omega) b (by omega) hby (p+c) w (by omega) hw (fun y a=>spec_RunRead.c17 k (spec_RunRead.l4 k n) b (many:Int) (w:Int) a ((cnt:Nat):Int) y o)
    rw [r1,r2]
    simp only [Option.bind_some]
    cases ok with
    |false=>
     simp only [Bool.not_false,cond_true,cond_false]
     exact ⟨_,_,_,rfl,rfl,fun _=>⟨rfl,rfl⟩,nofun⟩
    |true=>
     obtain ⟨q1,q2,q3,q4⟩:=r3 rfl
     obtain ⟨q,rfl⟩:∃q:Nat,nx=q:=⟨nx.toNat,by omega⟩
     have eleft:IntKind.wrap .i64 ((many:Int)-(o.length:Int))=((many-o.length:Nat):Int):=by rw [w64 (by omega) (by omega)];omega
     have emin:(if IntKind.wrap .i64 ((many:Int)-(o.length:Int))<((cnt:Nat):Int) then IntKind.wrap .i64 ((many:Int)-(o.length:Int)) else ((cnt:Nat):Int))=((min cnt (many-o.length):Nat):Int):=by
      rw [eleft]
      split<;>omega
     have i1:=irep k (impl_RunRead.l4 k n) b (many:Int) (w:Int) x (q:Int) (min cnt (many-o.length)) (by omega) (min cnt (many-o.length)) k 0 o (by omega) (by omega) (by omega)
     have s1:=srep k (spec_RunRead.l4 k n) b many (w:Int) x (q:Int) cnt hcnt hm (min cnt (many-o.length)) k 0 o (by omega) (by omega) (by omega) (by omega)
     rw [show ((0:Nat):Int)=0 from rfl] at i1 s1
     simp only [Bool.not_true,cond_true,cond_false,emin,i1,spec_RunRead.c17,s1]
     obtain ⟨nx',ok',l',e1,e2,e3,e4⟩:=ih (b.length-q) (by omega) n q (o++List.replicate (min cnt (many-o.length)) x) (by omega) (by omega) (by simp;omega) (by
      intro y hy
      rcases List.mem_append.1 hy with hy|hy
      ·exact hox y hy
      ·obtain ⟨_,rfl⟩:=List.mem_replicate.1 hy
       exact ⟨q3,q4⟩)
     exact ⟨nx',ok',l',e1,e2,e3,fun h=>by obtain ⟨a1,a2⟩:=e4 h;exact ⟨by omega,a2⟩⟩
   |false=>
    simp only [cond_false]
    by_cases hbad:cnt>2000
    ·simp only [decide_eq_true (show ((cnt:Nat):Int)>2000 by omega),cond_true,Option.bind_some]
     exact ⟨_,_,_,rfl,rfl,fun _=>⟨rfl,rfl⟩,nofun⟩
    ·have hcw:cnt*w≤2000*24:=Nat.mul_le_mul (by omega) hw
     have ecw:IntKind.wrap .i64 (((cnt:Nat):Int)*(w:Int))=((cnt*w:Nat):Int):=by
      rw [show ((cnt:Nat):Int)*(w:Int)=((cnt*w:Nat):Int) by simp,w64 (by omega) (by omega)]
     have elen:IntKind.wrap .i64 ((b.length:Int)-((p+c:Nat):Int))=((b.length-(p+c):Nat):Int):=by rw [w64 (by omega) (by omega)];omega
     simp only [decide_eq_false (show ¬((cnt:Nat):Int)>2000 by omega),cond_false,Option.bind_some,ecw,elen]
     by_cases hfit:cnt*w≤b.length-(p+c)
     ·simp only [decide_eq_false (show ¬((cnt*w:Nat):Int)>((b.length-(p+c):Nat):Int) by omega),decide_eq_false (show ¬((b.length-(p+c):Nat):Int)<((cnt*w:Nat):Int) by omega),cond_false]
      have e8:IntKind.wrap .i64 (8*((cnt:Nat):Int))=((8*cnt:Nat):Int):=by rw [w64 (by omega) (by omega)];omega
      have eleft:IntKind.wrap .i64 ((many:Int)-(o.length:Int))=((many-o.length:Nat):Int):=by rw [w64 (by omega) (by omega)];omega
      have emin:(if IntKind.wrap .i64 ((many:Int)-(o.length:Int))<IntKind.wrap .i64 (8*((cnt:Nat):Int)) then IntKind.wrap .i64 ((many:Int)-(o.length:Int)) else IntKind.wrap .i64 (8*((cnt:Nat):Int)))=((min (8*cnt) (many-o.length):Nat):Int):=by
       rw [eleft,e8]
       split<;>omega
      have hlen:((b.drop (p+c)).take (cnt*w)).length=cnt*w:=by rw [List.length_take,List.length_drop];omega
      have hsp:b=b.take (p+c)++(leB (cnt*w) (wv ((b.drop (p+c)).take (cnt*w)))++b.drop (p+c+cnt*w)):=by
       have h3:=leB_wv ((b.drop (p+c)).take (cnt*w)) (fun x hx=>hby x (List.mem_of_mem_drop (List.mem_of_mem_take hx)))
       rw [hlen] at h3
       have hdd:b.drop (p+c+cnt*w)=(b.drop (p+c)).drop (cnt*w):=by rw [List.drop_drop]
       rw [←h3,hdd,List.take_append_drop,List.take_append_drop]
      have hpl:(b.take (p+c)).length=p+c:=by rw [List.length_take];omega
      generalize wv ((b.drop (p+c)).take (cnt*w))=M at hsp
      have hN:min (8*cnt) (many-o.length)*w≤8*(cnt*w):=by
       rw [←Nat.mul_assoc]
       exact Nat.mul_le_mul_right _ (by omega)
      have hN2:min (8*cnt) many*w≤8*(cnt*w):=by
       rw [←Nat.mul_assoc]
       exact Nat.mul_le_mul_right _ (by omega)
      have u1:=unpacked_eq k (b.take (p+c)) (b.drop (p+c+cnt*w)) (cnt*w) M w (min (8*cnt) (many-o.length)) (by omega) hN (by rw [hpl];omega) (by omega) (by omega) (by omega)
      have u2:=sun_loop k (by omega) (spec_RunRead.l4 k n) (b.take (p+c)) (b.drop (p+c+cnt*w)) (cnt*w) M w cnt many hw (by omega) hm hN2 (Nat.le_refl _) (by rw [hpl];omega) (min (8*cnt) (many-o.length)) k 0 o (by omega) (by omega) (by omega) (by omega)
      rw [←hsp,hpl] at u1 u2
      rw [show ((0:Nat):Int)=0 from rfl,←List.range_eq_range'] at u2
      have enx:IntKind.wrap .i64 (((p+c:Nat):Int)+((cnt*w:Nat):Int))=((p+c+cnt*w:Nat):Int):=by rw [w64 (by omega) (by omega)];omega
      rw [ecw,enx] at u2
      simp only [emin,u1,Option.bind_some,lim_ok (show o.length+((List.range (min (8*cnt) (many-o.length))).map (unpackAt w M)).length≤4294967296 by simp;omega),cond_true,enx,u2]
      obtain ⟨nx',ok',l',e1,e2,e3,e4⟩:=ih (b.length-(p+c+cnt*w)) (by omega) n (p+c+cnt*w) (o++(List.range (min (8*cnt) (many-o.length))).map (unpackAt w M)) (by omega) (by omega) (by simp;omega) (by
       intro y hy
       rcases List.mem_append.1 hy with hy|hy
       ·exact hox y hy
       ·obtain ⟨i,_,rfl⟩:=List.mem_map.1 hy
        have hlt:M/2^(i*w)%2^w<2^w:=Nat.mod_lt _ (Nat.two_pow_pos w)
        have hp62:2^w≤2^62:=Nat.pow_le_pow_right (by decide) (by omega)
        unfold unpackAt
        rw [w64 (by omega) (by omega)]
        refine ⟨by omega,?_⟩
        exact_mod_cast hlt)
      exact ⟨nx',ok',l',e1,e2,e3,fun h=>by obtain ⟨a1,a2⟩:=e4 h;exact ⟨by omega,a2⟩⟩
     ·simp only [decide_eq_true (show ((cnt*w:Nat):Int)>((b.length-(p+c):Nat):Int) by omega),decide_eq_true (show ((b.length-(p+c):Nat):Int)<((cnt*w:Nat):Int) by omega),cond_true]
      exact ⟨_,_,_,rfl,rfl,fun _=>⟨rfl,rfl⟩,nofun⟩
 ·simp only [impl_RunRead.l4,spec_RunRead.l4,decide_eq_false (show ¬(o.length:Int)<(many:Int) by omega),cond_false]
  exact ⟨_,_,_,rfl,rfl,nofun,fun _=>⟨by omega,by omega,by omega,hox⟩⟩
theorem runRead_eq (hk:2000000≤k) (b:List Int) (hb:b.length≤1048576) (hby:Byts b) (at_ many w:Int):
 ∃nx ok l,impl_RunRead k b at_ many w=some (((),nx,ok),l)∧spec_RunRead k b at_ many w=some (((),nx,ok),l)∧
  (ok=false→nx=0∧l=[])∧(ok=true→(0≤at_∧at_≤nx∧nx≤(b.length:Int))∧(0≤many∧many≤2000)∧(0≤w∧w≤24)∧l.length=many.toNat∧∀x,x∈l→0≤x∧x<2^w.toNat):=by
 unfold impl_RunRead spec_RunRead spec_l8Width
 simp only [within_eq,l1In_eq,Option.bind_some,cst]
 by_cases hc:(0≤w∧w≤24)∧(0≤many∧many≤2000)∧(0≤at_∧at_≤(b.length:Int))
 ·obtain ⟨⟨w0,w1⟩,⟨m0,m1⟩,a0,a1⟩:=hc
  simp only [decide_eq_true w0,decide_eq_true w1,decide_eq_true m0,decide_eq_true m1,decide_eq_true a0,decide_eq_true a1,Bool.and_self,Bool.not_true,Bool.or_self,cond_false]
  obtain ⟨w,rfl⟩:∃m:Nat,w=m:=⟨w.toNat,by omega⟩
  obtain ⟨many,rfl⟩:∃m:Nat,many=m:=⟨many.toNat,by omega⟩
  obtain ⟨p,rfl⟩:∃m:Nat,at_=m:=⟨at_.toNat,by omega⟩
  obtain ⟨nx,ok,l,e1,e2,e3,e4⟩:=run_loop k hk b (by omega) hby w many (by omega) (by omega) (b.length-p) k p [] (by omega) (by omega) (by simp) (fun x hx=>by cases hx)
  refine ⟨nx,ok,l,e1,e2,e3,fun h=> ?_⟩
  obtain ⟨b1,b2,b3,b4⟩:=e4 h
  exact ⟨⟨a0,b1,b2⟩,⟨m0,m1⟩,⟨w0,w1⟩,by simp [b3],by simpa using b4⟩
 ·have:((!(decide (0≤w)&&decide (w≤24))|| !(decide (0≤many)&&decide (many≤2000)))|| !(decide (0≤at_)&&decide (at_≤(b.length:Int))))=true:=by
   by_cases a:0≤w<;>by_cases b1:w≤24<;>by_cases c:0≤many<;>by_cases d:many≤2000<;>by_cases e:0≤at_<;>by_cases g:at_≤(b.length:Int)<;>simp [a,b1,c,d,e,g]
   exact hc ⟨⟨a,b1⟩,⟨c,d⟩,e,g⟩
  simp only [this,cond_true]
  exact ⟨_,_,_,rfl,rfl,fun _=>⟨rfl,rfl⟩,nofun⟩
end Go.Law
end
section
set_option linter.unusedVariables false
set_option linter.unusedSimpArgs false
set_option linter.unusedSectionVars false
namespace Go.Law
open Go.Am Go.Fn
variable (k:Nat)
theorem swidth_loop:∀(f n u t:Nat),u<2^f→f<n→t+f≤62→spec_BitsWidth.l4 k n (u:Int) (t:Int)=some ((t+blenF f u:Nat):Int):=by
 intro f
 induction f with
 |zero=>
  intro n u t hu hn ht
  obtain ⟨n,rfl⟩:∃q,n=q+1:=⟨n-1,by omega⟩
  have:u=0:=by simpa using hu
  subst this
  simp only [spec_BitsWidth.l4,decide_eq_false (show ¬(((0:Nat):Int)>0) by omega),cond_false,decide_eq_false (show ¬((t:Int)>62) by omega),blenF,Nat.add_zero]
 |succ f ih=>
  intro n u t hu hn ht
  obtain ⟨n,rfl⟩:∃q,n=q+1:=⟨n-1,by omega⟩
  rw [Nat.pow_succ] at hu
  have hle:2^f*2≤2^62:=by rw [←Nat.pow_succ];exact Nat.pow_le_pow_right (by omega) (by omega)
  by_cases h0:u=0
  ·subst h0
   simp only [spec_BitsWidth.l4,decide_eq_false (show ¬(((0:Nat):Int)>0) by omega),cond_false,decide_eq_false (show ¬((t:Int)>62) by omega),blenF,if_pos,Nat.add_zero]
  ·have e1:IntKind.wrap .i64 (Int.tdiv (u:Int) 2)=((u/2:Nat):Int):=by
    rw [Int.tdiv_eq_ediv_of_nonneg (by omega),w64 (by omega) (by omega)];omega
   have e2:IntKind.wrap .i64 ((t:Int)+1)=((t+1:Nat):Int):=by rw [w64 (by omega) (by omega)];omega
   simp only [spec_BitsWidth.l4,decide_eq_true (show (u:Int)>0 by omega),cond_true,e1,e2,blenF,if_neg h0]
   rw [ih n (u/2) (t+1) (by omega) (by omega) (by omega)]
   congr 2
   omega
theorem width_any (hk:100≤k) (m:Int) (h0:0≤m) (h1:m≤255):∃w:Int,impl_BitsWidth k m=some w∧spec_BitsWidth k m=some w∧0≤w∧w≤8:=by
 obtain ⟨u,rfl⟩:∃n:Nat,m=n:=⟨m.toNat,by omega⟩
 have hu:u<2^8:=by show u<256;omega
 have hs:=swidth_loop k 8 k u 0 hu (by omega) (by omega)
 have hus:u64 (u:Int)=u:=by have:=u64_small (v:=(u:Int)) (by omega) (by omega);omega
 have hb:blen u=blenF 8 u:=blenF_more 8 56 u hu
 have hle:=blenF_le 8 u
 refine ⟨(blenF 8 u:Nat),?_,?_,by omega,by omega⟩
 ·unfold impl_BitsWidth
  simp only [widthOf_eq,hus,hb,Option.bind_some,cst,decide_eq_false (show ¬((u:Int)<0) by omega),decide_eq_false (show ¬(((blenF 8 u:Nat):Int)>62) by omega),Bool.or_self,cond_false]
 ·unfold spec_BitsWidth
  rw [decide_eq_false (show ¬((u:Int)<0) by omega),cond_false]
  simpa using hs
theorem upto_loop (l:List Int) (hl:l.length≤1000000) (m a b:Int) (o:List Int):∀(post pre:List Int) (n n':Nat),l=pre++post→post.length<n→post.length<n'→
 impl_LevelsRead.l12 k n m a b (l.length:Int) (pre.length:Int) l=some (cond (post.all (fun x=>decide (x≤m))) (((),IntKind.wrap .i64 (b+a),true),l) (((),0,false),[]))∧
 spec_LevelsRead.l13 k n' m a b (pre.length:Int) [] l=some (cond (post.all (fun x=>decide (x≤m))) (((),IntKind.wrap .i64 (b+a),true),l) (((),0,false),[])):=by
 intro post
 induction post with
 |nil=>
  intro pre n n' h hn hn'
  obtain ⟨n,rfl⟩:∃q,n=q+1:=⟨n-1,by omega⟩
  obtain ⟨n',rfl⟩:∃q,n'=q+1:=⟨n'-1,by omega⟩
  rw [List.append_nil] at h
  subst h
  simp only [impl_LevelsRead.l12,spec_LevelsRead.l13,decide_eq_false (show ¬((l.length:Int)<(l.length:Int)) by omega),cond_false,List.all_nil,cond_true]
  exact ⟨trivial,trivial⟩
 |cons x post ih=>
  intro pre n n' h hn hn'
  simp only [List.length_cons] at hn hn'
  obtain ⟨n,rfl⟩:∃q,n=q+1:=⟨n-1,by omega⟩
  obtain ⟨n',rfl⟩:∃q,n'=q+1:=⟨n'-1,by omega⟩
  have hlen:l.length=pre.length+(post.length+1):=by rw [h];simp
  have hg:rdL l (pre.length:Int)=some x:=by rw [h];exact getMid _ _ _
  have hi1:IntKind.wrap .i64 ((pre.length:Int)+1)=((pre.length+1:Nat):Int):=by rw [w64 (by omega) (by omega)];omega
  have hi:=ih (pre++[x]) n n' (by rw [h];simp) (by omega) (by omega)
  rw [List.length_append,List.length_singleton] at hi
  simp only [impl_LevelsRead.l12,spec_LevelsRead.l13,decide_eq_true (show (pre.length:Int)<(l.length:Int) by omega),cond_true,hg,Option.bind_some,hi1,List.all_cons]
  by_cases hx:x≤m
  ·rw [decide_eq_false (show ¬x>m by omega),decide_eq_true hx,cond_false,cond_false,Bool.true_and]
   exact hi
  ·rw [decide_eq_true (show x>m by omega),decide_eq_false hx,cond_true,cond_true,Bool.false_and,cond_false]
   exact ⟨rfl,rfl⟩
theorem levelsRead_any (hk:2000000≤k) (b:List Int) (hb:b.length≤1048576) (hby:Byts b) (at_ many m:Int):
 ∃nx ok l,impl_LevelsRead k b at_ many m=some (((),nx,ok),l)∧spec_LevelsRead k b at_ many m=some (((),nx,ok),l)∧
  (ok=true→(0≤nx∧nx≤(b.length:Int))∧l.length=many.toNat)∧(ok=false→nx=0):=by
 unfold impl_LevelsRead spec_LevelsRead
 simp only [within_eq,l1In_eq,Option.bind_some,cst]
 by_cases hc:(0≤m∧m≤255)∧(0≤many∧many≤2000)∧(0≤at_∧at_≤(b.length:Int))
 ·obtain ⟨⟨w0,w1⟩,⟨m0,m1⟩,a0,a1⟩:=hc
  simp only [decide_eq_true w0,decide_eq_true w1,decide_eq_true m0,decide_eq_true m1,decide_eq_true a0,decide_eq_true a1,Bool.and_self,Bool.not_true,Bool.or_self,cond_false]
  by_cases hz:m=0
  ·rw [beqT hz,cond_true,cond_true,okLen_ok m0 (by omega),cond_true]
   exact ⟨_,_,_,rfl,rfl,fun _=>⟨⟨a0,a1⟩,by simp⟩,fun h=>(by cases h)⟩
  ·rw [beqF hz]
   simp only [cond_false]
   obtain ⟨v,nx,ok,e1,e2,_,_,e3⟩:=word_any k (by omega) b (by omega) hby at_ ⟨by omega,by omega⟩ 4 (by decide) (by decide)
   have e1:impl_WordGet k b at_ 4=some (v,nx,ok):=e1
   have e2:spec_WordGet k b at_ 4=some (v,nx,ok):=e2
   simp only [e1,e2,Option.bind_some]
   cases ok with
   |false=>
    simp only [Bool.not_false,Bool.true_or,cond_true]
    exact ⟨_,_,_,rfl,rfl,fun h=>(by cases h),fun _=>rfl⟩
   |true=>
    obtain ⟨_,n1,n2,n3⟩:=e3 rfl
    obtain ⟨v0,v1⟩:=n3 (by decide)
    have n1:nx=at_+4:=n1
    rw [w64 (show -9223372036854775808≤(b.length:Int)-nx by omega) (by omega)]
    by_cases hv:v>(b.length:Int)-nx
    ·simp only [Bool.not_true,Bool.false_or,decide_eq_true hv,cond_true]
     exact ⟨_,_,_,rfl,rfl,fun h=>(by cases h),fun _=>rfl⟩
    ·have ew:IntKind.wrap .i64 (nx+v)=nx+v:=w64 (by omega) (by omega)
     obtain ⟨w,b1,b2,b3,b4⟩:=width_any k (by omega) m w0 w1
     obtain ⟨nx',ok',l,r1,r2,r3,r4⟩:=runRead_eq k hk (cutL b nx (nx+v)) (by unfold cutL;rw [List.length_drop,List.length_take];omega) (bytes_cut hby _ _) 0 many w
     simp only [Bool.not_true,Bool.false_or,decide_eq_false hv,cond_false,ew,inSl_ok (show 0≤nx by omega) (show nx≤nx+v by omega) (show nx+v≤(b.length:Int) by omega),cond_true,b1,b2,r1,r2,Option.bind_some]
     cases ok' with
     |false=>
      simp only [Bool.not_false,cond_true]
      exact ⟨_,_,_,rfl,rfl,fun h=>(by cases h),fun _=>rfl⟩
     |true=>
      obtain ⟨_,_,_,q4,_⟩:=r4 rfl
      simp only [Bool.not_true,cond_false]
      obtain ⟨u1,u2⟩:=upto_loop k l (by omega) m v nx [] l [] k k rfl (by omega) (by omega)
      have u1:impl_LevelsRead.l12 k k m v nx (l.length:Int) 0 l=_:=u1
      have u2:spec_LevelsRead.l13 k k m v nx 0 [] l=_:=u2
      rw [u1,u2]
      cases l.all (fun x=>decide (x≤m)) with
      |true=>
       rw [cond_true,ew]
       exact ⟨_,_,_,rfl,rfl,fun _=>⟨⟨by omega,by omega⟩,q4⟩,fun h=>(by cases h)⟩
      |false=>exact ⟨_,_,_,rfl,rfl,fun h=>(by cases h),fun _=>rfl⟩
 ·have:((!(decide (0≤m)&&decide (m≤255))|| !(decide (0≤many)&&decide (many≤2000)))|| !(decide (0≤at_)&&decide (at_≤(b.length:Int))))=true:=by
   by_cases a:0≤m<;>by_cases b1:m≤255<;>by_cases c:0≤many<;>by_cases d:many≤2000<;>by_cases e:0≤at_<;>by_cases g:at_≤(b.length:Int)<;>simp [a,b1,c,d,e,g]
   exact hc ⟨⟨a,b1⟩,⟨c,d⟩,e,g⟩
  simp only [this,cond_true]
  exact ⟨_,_,_,rfl,rfl,fun h=>(by cases h),fun _=>rfl⟩
theorem max_loop (l:List Int) (hl:l.length≤1000000):∀(post pre:List Int) (n:Nat) (x:Int),l=pre++post→post.length<n→
 ∃y,slices_Max_int_int.l5 k n l x (pre.length:Int)=some y∧∀m:Int,decide (y>m)=(decide (x>m)|| !post.all (fun x=>decide (x≤m))):=by
 intro post
 induction post with
 |nil=>
  intro pre n x h hn
  obtain ⟨n,rfl⟩:∃q,n=q+1:=⟨n-1,by omega⟩
  rw [List.append_nil] at h
  subst h
  simp only [slices_Max_int_int.l5,decide_eq_false (show ¬((l.length:Int)<(l.length:Int)) by omega),cond_false]
  exact ⟨x,rfl,fun m=>by simp⟩
 |cons v post ih=>
  intro pre n x h hn
  simp only [List.length_cons] at hn
  obtain ⟨n,rfl⟩:∃q,n=q+1:=⟨n-1,by omega⟩
  have hlen:l.length=pre.length+(post.length+1):=by rw [h];simp
  have hg:rdL l (pre.length:Int)=some v:=by rw [h];exact getMid _ _ _
  have hi1:IntKind.wrap .i64 ((pre.length:Int)+1)=((pre.length+1:Nat):Int):=by rw [w64 (by omega) (by omega)];omega
  obtain ⟨y,y1,y2⟩:=ih (pre++[v]) n (if v>x then v else x) (by rw [h];simp) (by omega)
  rw [List.length_append,List.length_singleton] at y1
  simp only [slices_Max_int_int.l5,decide_eq_true (show (pre.length:Int)<(l.length:Int) by omega),cond_true,hg,Option.bind_some,hi1]
  refine ⟨y,y1,fun m=> ?_⟩
  rw [y2 m,List.all_cons,Bool.not_and,←Bool.or_assoc]
  congr 1
  rw [Bool.eq_iff_iff]
  simp only [decide_eq_true_eq,Bool.or_eq_true,Bool.not_eq_true',decide_eq_false_iff_not]
  split<;>omega
theorem sruns_loop (l:List Int) (hl:l.length≤1000000) (m:Int):∀(post pre:List Int) (n:Nat),l=pre++post→post.length<n→
 spec_l16Runs.l7 k n m (pre.length:Int) l=some (cond (post.all (fun x=>decide (x≤m))) (((),true),l) (((),false),[])):=by
 intro post
 induction post with
 |nil=>
  intro pre n h hn
  obtain ⟨n,rfl⟩:∃q,n=q+1:=⟨n-1,by omega⟩
  rw [List.append_nil] at h
  subst h
  simp only [spec_l16Runs.l7,decide_eq_false (show ¬((l.length:Int)<(l.length:Int)) by omega),cond_false,List.all_nil,cond_true]
 |cons x post ih=>
  intro pre n h hn
  simp only [List.length_cons] at hn
  obtain ⟨n,rfl⟩:∃q,n=q+1:=⟨n-1,by omega⟩
  have hlen:l.length=pre.length+(post.length+1):=by rw [h];simp
  have hg:rdL l (pre.length:Int)=some x:=by rw [h];exact getMid _ _ _
  have hi1:IntKind.wrap .i64 ((pre.length:Int)+1)=((pre.length+1:Nat):Int):=by rw [w64 (by omega) (by omega)];omega
  have hi:=ih (pre++[x]) n (by rw [h];simp) (by omega)
  rw [List.length_append,List.length_singleton] at hi
  simp only [spec_l16Runs.l7,decide_eq_true (show (pre.length:Int)<(l.length:Int) by omega),cond_true,hg,Option.bind_some,hi1,List.all_cons]
  by_cases hx:x≤m
  ·rw [decide_eq_false (show ¬x>m by omega),decide_eq_true hx,cond_false,Bool.true_and]
   exact hi
  ·rw [decide_eq_true (show x>m by omega),decide_eq_false hx,cond_true,Bool.false_and,cond_false]
theorem levelsOf_any (hk:2000000≤k) (b:List Int) (hb:b.length≤1048576) (hby:Byts b) (many m:Int) (hm0:0≤many) (hm1:many≤2000) (h0:0≤m) (h1:m≤255):
 ∃ok l,impl_levelsOf k b many m=some (((),ok),l)∧spec_l16Runs k b many m=some (((),ok),l)∧(ok=true→l.length=many.toNat):=by
 unfold impl_levelsOf spec_l16Runs
 by_cases hz:m=0
 ·rw [beqT hz,cond_true,cond_true,okLen_ok hm0 (by omega),cond_true]
  exact ⟨_,_,rfl,rfl,fun _=>by simp⟩
 ·rw [beqF hz]
  simp only [cond_false]
  obtain ⟨w,b1,b2,b3,b4⟩:=width_any k (by omega) m h0 h1
  obtain ⟨nx,ok,l,r1,r2,r3,r4⟩:=runRead_eq k hk b hb hby 0 many w
  simp only [b1,b2,r1,r2,Option.bind_some,cst]
  cases ok with
  |false=>
   simp only [Bool.not_false,Bool.true_or,cond_true]
   exact ⟨_,_,rfl,rfl,fun h=>(by cases h)⟩
  |true=>
   obtain ⟨_,_,_,q4,_⟩:=r4 rfl
   simp only [Bool.not_true,Bool.false_or]
   by_cases hn:nx=(b.length:Int)
   ·rw [bneF hn]
    simp only [Bool.false_or,cond_false]
    have hs:=sruns_loop k l (by omega) m l [] k rfl (by omega)
    have hs:spec_l16Runs.l7 k k m 0 l=_:=hs
    rw [hs]
    cases l with
    |nil=>
     simp only [List.length_nil]
     rw [show decide (((0:Nat):Int)>0)=false from rfl]
     simp only [cond_false,cond_true,Option.bind_some,Bool.or_false,List.all_nil,csf,Bool.false_and]
     exact ⟨_,_,rfl,rfl,fun _=>q4⟩
    |cons v l'=>
     rw [decide_eq_true (show ((v::l').length:Int)>0 by simp),cond_true]
     obtain ⟨y,y1,y2⟩:=max_loop k (v::l') (by omega) l' [v] k v rfl (by simp at q4;omega)
     have hmax:slices_Max_int_int k (v::l')=some y:=by
      unfold slices_Max_int_int slices_Max_int_int.c3
      rw [decide_eq_false (show ¬((v::l').length:Int)<1 by simp;omega),cond_false,show rdL (v::l') 0=some v from rfl]
      exact y1
     rw [hmax]
     simp only [Option.bind_some,csf,y2 m,List.all_cons]
     by_cases hv:v≤m
     ·rw [decide_eq_true hv,decide_eq_false (show ¬v>m by omega),Bool.false_or,Bool.true_and]
      cases l'.all (fun x=>decide (x≤m)) with
      |true=>exact ⟨_,_,rfl,rfl,fun _=>q4⟩
      |false=>exact ⟨_,_,rfl,rfl,fun h=>(by cases h)⟩
     ·rw [decide_eq_false hv,decide_eq_true (show v>m by omega),Bool.true_or,Bool.false_and]
      exact ⟨_,_,rfl,rfl,fun h=>(by cases h)⟩
   ·rw [bneT hn]
    simp only [Bool.true_or,Bool.or_true,cond_true,Option.bind_some]
    exact ⟨_,_,rfl,rfl,fun h=>(by cases h)⟩
end Go.Law
end
section
set_option linter.unusedVariables false
set_option linter.unusedSimpArgs false
namespace Go.Law
open Go.Am Go.Fn
variable (k:Nat)
theorem xor_nat {a b:Nat} (ha:a<2^62) (hb:b<2^62):bits .xor .i64 (a:Int) (b:Int)=((a^^^b:Nat):Int):=by
 have h:=Nat.xor_lt_two_pow ha hb
 simp only [bits,BitVec.ofInt_natCast,BitVec.toNat_xor,BitVec.toNat_ofNat]
 rw [Nat.mod_eq_of_lt (show a<2^IntKind.i64.bits from Nat.lt_of_lt_of_le ha (by decide)),Nat.mod_eq_of_lt (show b<2^IntKind.i64.bits from Nat.lt_of_lt_of_le hb (by decide))]
 exact w64 (by omega) (by omega)
def crT:Nat→Nat→Nat
 |0,n=>n
 |m+1,n=>crT m (if n%2=1 then (n/2)^^^3988292384 else n/2)
theorem crT_lt:∀m n,n<2^32→crT m n<2^32
 |0,n,h=>h
 |m+1,n,h=>by
  unfold crT
  apply crT_lt
  have:n/2<2^32:=by omega
  split
  ·exact Nat.xor_lt_two_pow this (by decide)
  ·exact this
theorem crc_loop:∀(m f i n:Nat),i+m=8→m<f→n<2^32→impl_crcNumber.l2 k f (n:Int) (i:Int)=some ((crT m n:Nat):Int)∧spec_l3Turn.l2 k f (n:Int) (i:Int)=some ((crT m n:Nat):Int):=by
 intro m
 induction m with
 |zero=>
  intro f i n hi hf hn
  obtain ⟨f,rfl⟩:∃x,f=x+1:=⟨f-1,by omega⟩
  simp only [impl_crcNumber.l2,spec_l3Turn.l2,decide_eq_false (show ¬(i:Int)<8 by omega),cond_false,crT]
  exact ⟨trivial,trivial⟩
 |succ m ih=>
  intro f i n hi hf hn
  obtain ⟨f,rfl⟩:∃x,f=x+1:=⟨f-1,by omega⟩
  have e3:IntKind.wrap .i64 ((i:Int)+1)=((i+1:Nat):Int):=by rw [w64 (by omega) (by omega)];omega
  have hdiv:IntKind.wrap .i64 (Int.tdiv (n:Int) 2)=((n/2:Nat):Int):=by
   rw [Int.tdiv_eq_ediv_of_nonneg (by omega),w64 (by omega) (by omega)];omega
  have hmod:Int.tmod (n:Int) 2=((n%2:Nat):Int):=by rw [Int.tmod_eq_emod_of_nonneg (by omega)];omega
  have hand:bits .and .i64 (n:Int) 1=((n%2:Nat):Int):=by rw [and1];omega
  have hx:bits .xor .i64 ((n/2:Nat):Int) 3988292384=(((n/2)^^^3988292384:Nat):Int):=xor_nat (b:=3988292384) (by omega) (by decide)
  simp only [impl_crcNumber.l2,spec_l3Turn.l2,decide_eq_true (show (i:Int)<8 by omega),cond_true,hdiv,hmod,hand,hx,impl_crcNumber.c7,spec_l3Turn.c3,e3,crT]
  by_cases hodd:n%2=1
  ·rw [hodd,beqT (by rfl),if_pos rfl,cond_true,cond_true]
   exact ih f (i+1) _ (by omega) (by omega) (Nat.xor_lt_two_pow (by omega) (by decide))
  ·have h0:n%2=0:=by omega
   rw [h0,beqF (by decide),if_neg (by decide),cond_false,cond_false]
   exact ih f (i+1) _ (by omega) (by omega) (by omega)
theorem crc_num (hk:100≤k) (n:Nat) (hn:n<2^32):impl_crcNumber k (n:Int)=some ((crT 8 n:Nat):Int)∧spec_l3Turn k (n:Int)=some ((crT 8 n:Nat):Int):=
 crc_loop k 8 k 0 n rfl (by omega) hn
def crTab:List Int:=(List.range 256).map fun n=>((crT 8 n:Nat):Int)
theorem tab_loop (hk:1000≤k):∀(m f i:Nat),i+m=256→m<f→impl_CrcTable.l3 k f (i:Int) ((List.range i).map fun n=>((crT 8 n:Nat):Int))=some ((),crTab):=by
 intro m
 induction m with
 |zero=>
  intro f i hi hf
  obtain ⟨f,rfl⟩:∃x,f=x+1:=⟨f-1,by omega⟩
  obtain rfl:i=256:=by omega
  simp only [impl_CrcTable.l3,decide_eq_false (show ¬((256:Nat):Int)<256 by omega),cond_false]
  rfl
 |succ m ih=>
  intro f i hi hf
  obtain ⟨f,rfl⟩:∃x,f=x+1:=⟨f-1,by omega⟩
  have e3:IntKind.wrap .i64 ((i:Int)+1)=((i+1:Nat):Int):=by rw [w64 (by omega) (by omega)];omega
  simp only [impl_CrcTable.l3,decide_eq_true (show (i:Int)<256 by omega),cond_true,(crc_num k (by omega) i (by omega)).1,Option.bind_some,e3,lim_ok (show ((List.range i).map fun n=>((crT 8 n:Nat):Int)).length+[((crT 8 i:Nat):Int)].length≤4294967296 by simp;omega)]
  have:=ih f (i+1) (by omega) (by omega)
  rw [List.range_succ,List.map_append,List.map_singleton] at this
  exact this
theorem tab_eq (hk:1000≤k):impl_CrcTable k=some ((),crTab):=tab_loop k hk 256 k 0 (by omega) (by omega)
theorem more_loop (hk:1000≤k) (b:List Int) (hb:b.length<1000000000) (hby:∀x,x∈b→0≤x∧x<256):∀(post pre:List Int) (f c:Nat),b=pre++post→post.length<f→c<2^32→
 ∃r:Int,impl_CrcMore.l6 k f (c:Int) b (b.length:Int) (pre.length:Int) crTab=some r∧spec_CrcMore.l5 k f b (c:Int) (pre.length:Int)=some r:=by
 intro post
 induction post with
 |nil=>
  intro pre f c hp hf hc
  obtain ⟨f,rfl⟩:∃x,f=x+1:=⟨f-1,by omega⟩
  have:b=pre:=by simpa using hp
  subst this
  simp only [impl_CrcMore.l6,spec_CrcMore.l5,decide_eq_false (show ¬(b.length:Int)<(b.length:Int) by omega),cond_false]
  exact ⟨_,rfl,rfl⟩
 |cons y post ih=>
  intro pre f c hp hf hc
  simp only [List.length_cons] at hf
  obtain ⟨f,rfl⟩:∃x,f=x+1:=⟨f-1,by omega⟩
  have hlen:b.length=pre.length+(post.length+1):=by rw [hp];simp
  have hg:rdL b (pre.length:Int)=some y:=by rw [hp];exact getMid pre post y
  obtain ⟨y0,y1⟩:=hby y (by rw [hp];simp)
  obtain ⟨y,rfl⟩:∃m:Nat,y=m:=⟨y.toNat,by omega⟩
  have e255:bits .and .i64 (c:Int) 255=((c%256:Nat):Int):=by rw [and255];omega
  have ey:IntKind.wrap .i64 ((y:Nat):Int)=((y:Nat):Int):=w64 (by omega) (by omega)
  have hix:c%256^^^y<256:=Nat.xor_lt_two_pow (n:=8) (by omega) (by omega)
  have ex:bits .xor .i64 ((c%256:Nat):Int) ((y:Nat):Int)=((c%256^^^y:Nat):Int):=xor_nat (by omega) (by omega)
  have htab:rdL crTab ((c%256^^^y:Nat):Int)=some ((crT 8 (c%256^^^y):Nat):Int):=by
   rw [rdL_nat]
   unfold crTab
   rw [List.getElem?_map,List.getElem?_range hix]
   rfl
  have hs8:shrI .i64 (c:Int) 8=((c/256:Nat):Int):=by
   rw [show (8:Int)=((8:Nat):Int) from rfl,shrI_eq .i64 _ 8 (by decide)]
   simp
  have hT:=crT_lt 8 (c%256^^^y) (by omega)
  have x1:bits .xor .i64 ((crT 8 (c%256^^^y):Nat):Int) ((c/256:Nat):Int)=((crT 8 (c%256^^^y)^^^(c/256):Nat):Int):=xor_nat (by omega) (by omega)
  have x2:bits .xor .i64 ((c/256:Nat):Int) ((crT 8 (c%256^^^y):Nat):Int)=((crT 8 (c%256^^^y)^^^(c/256):Nat):Int):=by rw [xor_nat (by omega) (by omega),Nat.xor_comm]
  have e3:IntKind.wrap .i64 ((pre.length:Int)+1)=(pre.length:Int)+1:=w64 (by omega) (by omega)
  simp only [impl_CrcMore.l6,spec_CrcMore.l5,decide_eq_true (show (pre.length:Int)<(b.length:Int) by omega),cond_true,hg,Option.bind_some,e255,ey,ex,htab,hs8,x1,(crc_num k (by omega) (c%256^^^y) (by omega)).2,x2,e3]
  have:=ih (pre++[((y:Nat):Int)]) f (crT 8 (c%256^^^y)^^^(c/256)) (by rw [hp];simp) (by omega) (Nat.xor_lt_two_pow hT (by omega))
  rw [List.length_append,List.length_singleton] at this
  exact this
theorem crcOf_eq (hk:1000≤k) (b:List Int) (hb:b.length<1000000000) (hlk:b.length<k) (hby:∀x,x∈b→0≤x∧x<256):∃r:Int,impl_CrcOf k b=some r∧spec_CrcOf k b=some r:=by
 unfold impl_CrcOf spec_CrcOf impl_CrcMore spec_CrcMore
 have e:bits .xor .i64 0 4294967295=((4294967295:Nat):Int):=xor_nat (a:=0) (b:=4294967295) (by decide) (by decide)
 obtain ⟨r,r1,r2⟩:=more_loop k hk b hb hby b [] k 4294967295 rfl hlk (by decide)
 rw [List.length_nil,show ((0:Nat):Int)=0 from rfl] at r1 r2
 simp only [within_eq,l1In_eq,show (decide ((0:Int)≤0)&&decide ((0:Int)≤4294967295))=true by decide,Option.bind_some,Bool.not_true,cond_false,tab_eq k hk,e,r1,r2]
 exact ⟨_,rfl,rfl⟩
end Go.Law
end
section
set_option linter.unusedVariables false
set_option linter.unusedSimpArgs false
namespace Go.Law
open Go.Am Go.Fn
def azc (c:UInt8):Bool:=decide (97≤c.toNat)&&decide (c.toNat≤122)
def az (s:ByteArray):Bool:=s.data.toList.all azc
def nameOk (s:ByteArray):Bool:=(decide (1≤(s.size:Int))&&decide ((s.size:Int)≤20))&&az s
variable (k:Nat)
def colOk (c:TCol):Bool:=((c.2.1==7&&decide (c.2.2.2.1>0))||(tyOk c.2.1&&c.2.2.2.1==0))&&(decide (0≤c.2.2.1)&&decide (c.2.2.1≤2))
def PartsC (S:Nat→Nat→Prop) (s:List TCol):Nat→Nat→List ByteArray→Nat→Prop
 |0,pos,_,nx=>pos=nx
 |c+1,pos,names,nx=>∃p mid,s[pos]?=some p∧p.1∉names∧S pos mid∧PartsC S s c mid (names++[p.1]) nx
def SubC (s:List TCol):Nat→Nat→Nat→Prop
 |0,_,_=>False
 |d+1,at_,nx=>∃c,s[at_]?=some c∧colOk c=true∧(0<at_→nameOk c.1=true)∧PartsC (SubC s d) s c.2.2.2.1.toNat (at_+1) [] nx
def IsSchema (s:List TCol):Prop:=2≤s.length∧s.length≤20∧SubC s 6 0 s.length∧∃c,s[0]?=some c∧c.1=⟨#[]⟩∧c.2.2.1=0∧c.2.1=7
end Go.Law
end
section
set_option linter.unusedVariables false
set_option linter.unusedSimpArgs false
namespace Go.Law
open Go.Am Go.Fn
variable (k:Nat)
theorem treeOf_eq (hk:2000≤k) (l:List TNode) (hw:∀n,n∈l→WfN n) (hlen:l.length<4294967296):
 ∃b:Bool,spec_TreeOk k l=some b∧((b=false∧∃x,impl_treeOf k l=some (((),false),x))∨
  (b=true∧l.length≤1500∧1≤l.length∧∃af,impl_treeOf k l=some (((),true),((true,(l,(),())),af))∧Sub l af 12 0 l.length∧∃n,l[0]?=some n∧n.1=12∧n.2.1=0)):=by
 unfold spec_TreeOk impl_treeOf
 simp only [within_eq,l1In_eq,Option.bind_some]
 by_cases hin:1≤l.length∧l.length≤1500
 ·have c1:(decide ((1:Int)≤(l.length:Int))&&decide ((l.length:Int)≤1500))=true:=by simp;omega
  obtain ⟨n,hn1,hn2⟩:=rdL_some (xs:=l) (i:=0) (by omega) (by omega)
  have hn2:l[0]?=some n:=hn2
  simp only [c1,Bool.not_true,cond_false,hn1,Option.bind_some,okLen_ok (show (0:Int)≤(l.length:Int) by omega) (by omega),cond_true,cst,Int.toNat_natCast]
  by_cases hr:n.1=12∧n.2.1=0
  ·have c2:(n.1 !=12||n.2.1 !=0)=false:=by simp [hr.1,hr.2]
   simp only [bneF hr.1,bneF hr.2,cond_false,Option.bind_some,Bool.or_self]
   obtain ⟨v,af',s1,s2,s3,s4⟩:=check k hk l hin.2 hw 12 k 1 0 (List.replicate l.length 0) (by omega) (by omega) (by simp)
   have s1:spec_l4Check k l 0 1=some v:=s1
   have s2:impl_tree_measure k 0 1 (true,(l,(),())) (List.replicate l.length 0)=some (v,((l,(),()),af')):=s2
   simp only [s1,s2,Option.bind_some]
   by_cases hv:v=(l.length:Int)
   ·refine ⟨true,by rw [beqT hv],.inr ⟨rfl,hin.2,hin.1,af',by simp only [bneF hv,cond_false],?_,n,hn2,hr⟩⟩
    rcases s4 with h|⟨nx,h1,h2,_⟩
    ·omega
    ·have:nx=l.length:=by omega
     rw [←this];exact h2
   ·exact ⟨false,by rw [beqF hv],.inl ⟨rfl,((false,([],(),())),[]),by simp only [bneT hv,cond_true]⟩⟩
  ·have c2:(n.1 !=12||n.2.1 !=0)=true:=by
    simp only [Bool.or_eq_true,bne_iff_ne]
    exact Classical.byContradiction fun hh=>hr ⟨Classical.byContradiction fun h=>hh (.inl h),Classical.byContradiction fun h=>hh (.inr h)⟩
   refine ⟨false,?_,.inl ⟨rfl,((false,([],(),())),[]),by simp only [c2,cond_true]⟩⟩
   by_cases h12:n.1=12
   ·have h0:¬n.2.1=0:=fun h=>hr ⟨h12,h⟩
    simp only [bneF h12,cond_false,bneT h0,Option.bind_some,cond_true,Bool.false_or]
   ·simp only [bneT h12,Option.bind_some,cond_true,Bool.true_or]
 ·have c1:(decide ((1:Int)≤(l.length:Int))&&decide ((l.length:Int)≤1500))=false:=by
   rw [Bool.eq_false_iff];intro h
   simp only [Bool.and_eq_true,decide_eq_true_eq] at h
   omega
  simp only [c1,Bool.not_false,cond_true,Option.bind_some]
  exact ⟨false,rfl,.inl ⟨rfl,_,rfl⟩⟩
end Go.Law
end
section
set_option linter.unusedVariables false
set_option linter.unusedSimpArgs false
namespace Go.Law
open Go.Am Go.Fn
variable (k:Nat)
theorem PartsR_cnt {S:Nat→Nat→Prop} {l:List TNode} {n:TNode} (hS:∀a b,S a b→a<b):∀(c pos:Nat) (last:Int) (nx:Nat),PartsR S l n c pos last nx→pos+c≤nx
 |0,pos,last,nx,e=>by have e:pos=nx:=e;omega
 |c+1,pos,last,nx,⟨p,mid,_,_,_,h4,h5⟩=>by
  have:=hS _ _ h4
  have:=PartsR_cnt hS c mid p.2.1 nx h5
  omega
theorem Sub_all {l:List TNode} {af:List Int}:∀(d a b:Nat),Sub l af d a b→∀i,a≤i→i<b→∃d' nx,d'≤d∧Sub l af d' i nx∧nx≤b
 |0,_,_,h=>h.elim
 |d+1,a,b,⟨n,h1,h2,h3,h4⟩=>by
  have key:∀(c pos:Nat) (last:Int) (nx:Nat),PartsR (Sub l af d) l n c pos last nx→∀i,pos≤i→i<nx→∃d' x,d'≤d∧Sub l af d' i x∧x≤nx:=by
   intro c
   induction c with
   |zero=>intro pos last nx e i hi1 hi2;have e:pos=nx:=e;omega
   |succ c ih=>
    intro pos last nx ⟨p,mid,_,_,_,hs,hp⟩ i hi1 hi2
    rcases Nat.lt_or_ge i mid with h|h
    ·obtain ⟨d',x,q1,q2,q3⟩:=Sub_all d pos mid hs i hi1 h
     have:=PartsR_cnt (Sub_lt d) _ _ _ _ hp
     exact ⟨d',x,q1,q2,by omega⟩
    ·exact ih mid _ nx hp i h hi2
  intro i hi1 hi2
  rcases Nat.lt_or_ge a i with h|h
  ·obtain ⟨d',x,q1,q2,q3⟩:=key _ _ _ _ h3 i (by omega) hi2
   exact ⟨d',x,by omega,q2,q3⟩
  ·obtain rfl:i=a:=by omega
   exact ⟨d+1,b,Nat.le_refl _,⟨n,h1,h2,h3,h4⟩,Nat.le_refl _⟩
theorem Sub_node {l:List TNode} {af:List Int} {d a b:Nat} (h:Sub l af d a b):∃n,l[a]?=some n∧nok n=true∧af[a]?=some (b:Int):=by
 cases d with
 |zero=>exact h.elim
 |succ d=>obtain ⟨n,h1,h2,h3,h4⟩:=h;exact ⟨n,h1,h2,h4⟩
theorem nok_many {n:TNode} (h:nok n=true):0≤n.2.2.2.2.1:=by
 unfold nok at h
 repeat' split at h
 all_goals simp only [Bool.and_eq_true,beq_iff_eq,decide_eq_true_eq,Bool.or_eq_true] at h
 all_goals omega
theorem after_eq (hk:2000≤k) {l:List TNode} {af:List Int} (hl:l.length≤1500):∀(d D at_ nx:Nat),d≤D→Sub l af d at_ nx→nx≤l.length→spec_l4After.rec k D l (at_:Int)=some (nx:Int):=by
 intro d
 induction d with
 |zero=>intro D at_ nx _ h;exact h.elim
 |succ d ih=>
  intro D at_ nx hD ⟨n,h1,h2,h3,h4⟩ hnx
  obtain ⟨D,rfl⟩:∃j,D=j+1:=⟨D-1,by omega⟩
  have hm0:=nok_many h2
  have hat:at_<l.length:=(List.getElem?_eq_some_iff.1 h1).1
  have loop:∀(c pos:Nat) (last:Int) (f:Nat) (i:Int),PartsR (Sub l af d) l n c pos last nx→c<f→n.2.2.2.2.1-i=c→0≤i→n.2.2.2.2.1≤2000→spec_l4After.l3 k (spec_l4After.rec k D) f l (at_:Int) (pos:Int) i=some (nx:Int):=by
   intro c
   induction c with
   |zero=>
    intro pos last f i hp hf hi hi0 hi2
    obtain ⟨f,rfl⟩:∃j,f=j+1:=⟨f-1,by omega⟩
    obtain rfl:pos=nx:=hp
    simp only [spec_l4After.l3,rdL_nat,h1,Option.bind_some,decide_eq_false (show ¬i<n.2.2.2.2.1 by omega),cond_false]
   |succ c ihc=>
    intro pos last f i ⟨p,mid,_,_,_,hs,hp⟩ hf hi hi0 hi2
    obtain ⟨f,rfl⟩:∃j,f=j+1:=⟨f-1,by omega⟩
    have hc:=PartsR_cnt (Sub_lt d) _ _ _ _ hp
    simp only [spec_l4After.l3,rdL_nat,h1,Option.bind_some,decide_eq_true (show i<n.2.2.2.2.1 by omega),cond_true,ih D pos mid (by omega) hs (by omega)]
    have hlt:=Sub_lt _ _ _ hs
    rw [w64 (by omega) (by omega)]
    exact ihc mid _ f (i+1) hp (by omega) (by omega) (by omega) (by omega)
  have hc:=PartsR_cnt (Sub_lt d) _ _ _ _ h3
  simp only [spec_l4After.rec,spec_l4After.b]
  rw [w64 (by omega) (by omega),show ((at_:Int)+1)=((at_+1:Nat):Int) by omega]
  exact loop _ _ 0 k 0 h3 (by omega) (by omega) (by omega) (by omega)
section
variable {l:List TNode} {af:List Int}
structure TreeFacts (l:List TNode) (af:List Int):Prop where
 len:l.length≤1500
 pos:1≤l.length
 sub:Sub l af 12 0 l.length
 wf:∀n,n∈l→WfN n
theorem TreeFacts.at (h:TreeFacts l af) {i:Nat} (hi:i<l.length):∃d nx,d≤12∧Sub l af d i nx∧nx≤l.length:=
 Sub_all 12 0 l.length h.sub i (Nat.zero_le _) hi
theorem TreeFacts.after (hk:2000≤k) (h:TreeFacts l af) {d i nx:Nat} (hd:d≤12) (hs:Sub l af d i nx) (hn:nx≤l.length):spec_l4After k l (i:Int)=some (nx:Int):=
 after_eq k hk h.len d k i nx (by omega) hs hn
abbrev tB (l:List TNode):TTreeB:=(l,(),())
theorem findLoop (hk:2000≤k) (h:TreeFacts l af) (d:Nat) (hd:d≤12) (n:TNode) (at_:Nat) (hn:l[at_]?=some n) (id:Int) (nx:Nat) (hnx:nx≤l.length):∀(c pos:Nat) (last:Int) (f:Nat) (i:Int),PartsR (Sub l af d) l n c pos last nx→c<f→n.2.2.2.2.1-i=c→0≤i→n.2.2.2.2.1≤2000→
 ∃v,spec_l4Find.l5 k f l (at_:Int) id (pos:Int) i=some v∧impl_tree_find.l5 k f id (pos:Int) n.2.2.2.2.1 i (tB l) af=some (v,(tB l,af))∧(v= -1∨∃q:Nat,v=q∧pos≤q∧q<nx∧∃mid,Sub l af d q mid∧mid≤nx):=by
 intro c
 induction c with
 |zero=>
  intro pos last f i hp hf hi hi0 hi2
  obtain ⟨f,rfl⟩:∃j,f=j+1:=⟨f-1,by omega⟩
  simp only [spec_l4Find.l5,impl_tree_find.l5,rdL_nat,hn,Option.bind_some,decide_eq_false (show ¬i<n.2.2.2.2.1 by omega),cond_false]
  exact ⟨_,rfl,rfl,.inl rfl⟩
 |succ c ihc=>
  intro pos last f i ⟨p,mid,hp1,_,_,hs,hp⟩ hf hi hi0 hi2
  obtain ⟨f,rfl⟩:∃j,f=j+1:=⟨f-1,by omega⟩
  have hc:=PartsR_cnt (Sub_lt d) _ _ _ _ hp
  have hlt:=Sub_lt _ _ _ hs
  obtain ⟨_,_,_,haf⟩:=Sub_node hs
  simp only [spec_l4Find.l5,impl_tree_find.l5,rdL_nat,hn,hp1,haf,Option.bind_some,decide_eq_true (show i<n.2.2.2.2.1 by omega),cond_true]
  by_cases hid:p.2.1=id
  ·simp only [beqT hid,cond_true]
   exact ⟨_,rfl,rfl,.inr ⟨pos,rfl,Nat.le_refl _,by omega,mid,hs,by omega⟩⟩
  ·simp only [beqF hid,cond_false,h.after k hk hd hs (by omega),Option.bind_some]
   rw [w64 (by omega) (by omega)]
   obtain ⟨v,g1,g2,g3⟩:=ihc mid _ f (i+1) hp (by omega) (by omega) (by omega) (by omega)
   refine ⟨v,g1,g2,?_⟩
   rcases g3 with g|⟨q,q1,q2,q3,q4⟩
   ·exact .inl g
   ·exact .inr ⟨q,q1,by omega,q3,q4⟩
theorem find_eq (hk:2000≤k) (h:TreeFacts l af) (at_:Nat) (hat:at_<l.length) (id:Int):
 ∃v,spec_l4Find k l (at_:Int) id=some v∧impl_tree_find k (at_:Int) id (true,tB l) af=some (v,(tB l,af))∧(v= -1∨∃q:Nat,v=q∧at_<q∧q<l.length):=by
 obtain ⟨d,nx,hd,hs,hnx⟩:=h.at hat
 have hlen:=h.len
 cases d with
 |zero=>exact hs.elim
 |succ d=>
  obtain ⟨n,h1,h2,h3,h4⟩:=hs
  have hm0:=nok_many h2
  have hc:=PartsR_cnt (Sub_lt d) _ _ _ _ h3
  unfold spec_l4Find impl_tree_find
  have c1:(decide ((0:Int)≤(at_:Int))&&decide ((at_:Int)≤IntKind.wrap .i64 ((l.length:Int)-1)))=true:=by
   rw [w64 (by omega) (by omega)];simp;omega
  simp only [cond_true,within_eq,c1,Option.bind_some,Bool.not_true,cond_false,rdL_nat,h1]
  by_cases h12:n.1=12
  ·simp only [bneF h12,cond_false]
   have ha1:IntKind.wrap .i64 ((at_:Int)+1)=((at_+1:Nat):Int):=by rw [w64 (by omega) (by omega)];omega
   rw [ha1]
   obtain ⟨v,g1,g2,g3⟩:=findLoop k hk h d (by omega) n at_ h1 id nx hnx _ _ 0 k 0 h3 (by omega) (by omega) (by omega) (by omega)
   refine ⟨v,g1,g2,?_⟩
   rcases g3 with g|⟨q,q1,q2,q3,_⟩
   ·exact .inl g
   ·exact .inr ⟨q,q1,by omega,by omega⟩
  ·simp only [bneT h12,cond_true]
   exact ⟨_,rfl,rfl,.inl rfl⟩
theorem text_eq (hk:2000≤k) (h:TreeFacts l af) (at_:Nat) (hat:at_<l.length) (id:Int):
 ∃s b n,spec_l4TextOf k l (at_:Int) id=some (s,b)∧impl_tree_part k (at_:Int) id 8 (true,tB l) af=some ((n,b),(tB l,af))∧n.2.2.2.1=s∧s.size≤300:=by
 obtain ⟨v,g1,g2,g3⟩:=find_eq k hk h at_ hat id
 unfold spec_l4TextOf impl_tree_part
 simp only [g1,g2,Option.bind_some]
 rcases g3 with rfl|⟨q,rfl,q1,q2⟩
 ·simp only [show decide ((-1:Int)<0)=true from rfl,cond_true,Option.bind_some]
  exact ⟨_,_,_,rfl,rfl,rfl,by decide⟩
 ·obtain ⟨d,nx,hd,hs,hnx⟩:=h.at q2
  obtain ⟨n,n1,n2,n3⟩:=Sub_node hs
  simp only [decide_eq_false (show ¬(q:Int)<0 by omega),cond_false,rdL_nat,n1,Option.bind_some]
  by_cases h8:n.1=8
  ·simp only [bneF h8,cond_false]
   refine ⟨_,_,_,rfl,rfl,rfl,?_⟩
   unfold nok at n2
   rw [h8] at n2
   simp only [reduceIte,if_neg (show ¬((8:Int)=5) by decide),if_neg (show ¬((8:Int)=6) by decide),Bool.and_eq_true,beq_iff_eq,decide_eq_true_eq] at n2
   omega
  ·simp only [bneT h8,cond_true]
   exact ⟨_,_,_,rfl,rfl,rfl,by decide⟩
theorem num_eq (hk:2000≤k) (h:TreeFacts l af) (at_:Nat) (hat:at_<l.length) (id:Int):
 ∃v b,spec_l4NumOf k l (at_:Int) id=some (v,b)∧impl_tree_num k (at_:Int) id (true,tB l) af=some ((v,b),(tB l,af))∧I64 v∧(∃w,spec_l4Find k l (at_:Int) id=some w∧(b=true→0≤w)):=by
 obtain ⟨v,g1,g2,g3⟩:=find_eq k hk h at_ hat id
 unfold spec_l4NumOf impl_tree_num
 simp only [g1,g2,Option.bind_some]
 have z:I64 0:=⟨by omega,by omega⟩
 rcases g3 with rfl|⟨q,rfl,q1,q2⟩
 ·simp only [show decide ((-1:Int)<0)=true from rfl,cond_true,Option.bind_some]
  exact ⟨_,_,rfl,rfl,z,-1,rfl,fun h=>by cases h⟩
 ·obtain ⟨d,nx,hd,hs,hnx⟩:=h.at q2
  obtain ⟨n,n1,n2,n3⟩:=Sub_node hs
  have hw:=h.wf n (List.mem_of_getElem? n1)
  simp only [decide_eq_false (show ¬(q:Int)<0 by omega),cond_false,rdL_nat,n1,Option.bind_some,csf]
  by_cases hb:(n.1 !=5&&n.1 !=6)=true
  ·simp only [hb,cond_true]
   exact ⟨_,_,rfl,rfl,z,q,rfl,fun h=>by cases h⟩
  ·simp only [Bool.eq_false_iff.2 hb,cond_false]
   exact ⟨_,_,rfl,rfl,hw.2.2.1,q,rfl,fun _=>by omega⟩
end
end Go.Law
end
section
set_option linter.unusedVariables false
set_option linter.unusedSimpArgs false
namespace Go.Law
open Go.Am Go.Fn
def fV (k:Nat) (l:List TNode) (a id:Int):Int:=(spec_l4Find k l a id).getD (-1)
def nV (k:Nat) (l:List TNode) (a id:Int):Int×Bool:=(spec_l4NumOf k l a id).getD (0,false)
section
variable (k:Nat) (hk:2000≤k) {l:List TNode} {af:List Int} (h:TreeFacts l af)
include hk h
theorem find_val (a:Nat) (ha:a<l.length) (id:Int):spec_l4Find k l (a:Int) id=some (fV k l a id)∧impl_tree_find k (a:Int) id (true,tB l) af=some (fV k l a id,(tB l,af))∧(fV k l a id= -1∨∃q:Nat,fV k l a id=q∧a<q∧q<l.length):=by
 obtain ⟨v,h1,h2,h3⟩:=find_eq k hk h a ha id
 have:fV k l a id=v:=by unfold fV;rw [h1];rfl
 rw [this]
 exact ⟨h1,h2,h3⟩
theorem num_val (a:Nat) (ha:a<l.length) (id:Int):spec_l4NumOf k l (a:Int) id=some (nV k l a id)∧impl_tree_num k (a:Int) id (true,tB l) af=some (nV k l a id,(tB l,af))∧I64 (nV k l a id).1∧((nV k l a id).2=true→0≤fV k l a id):=by
 obtain ⟨v,b,h1,h2,h3,w,h4,h5⟩:=num_eq k hk h a ha id
 have e:nV k l a id=(v,b):=by unfold nV;rw [h1];rfl
 have e2:fV k l a id=w:=by unfold fV;rw [h4];rfl
 rw [e,e2]
 exact ⟨h1,h2,h3,h5⟩
end
section
variable (k:Nat) (hk:2000≤k) {l:List TNode} {af:List Int} (h:TreeFacts l af)
include hk h
end
end Go.Law
end
section
set_option linter.unusedVariables false
set_option linter.unusedSimpArgs false
namespace Go.Law
open Go.Am Go.Fn
theorem btS_at (b:ByteArray) (n:Nat):btS b (n:Int)=(b.toList[n]?).map fun c=>(c.toNat:Int):=by
 rw [ByteArray.toList_eq]
 show (match b.data.toList[n]? with|some b=>some (b.toNat:Int)|none=>none)=_
 cases b.data.toList[n]?<;>rfl
theorem toList_size (b:ByteArray):b.toList.length=b.size:=by rw [ByteArray.toList_eq,Array.length_toList];rfl
theorem sless_loop (k:Nat) (a b:TVal) (ha:a.2.1.size≤1000000) (hb:b.2.1.size≤1000000):∀(m f i:Nat),i+m=a.2.1.size→m<f→
 spec_ValLess.l8 k f (i:Int) a b=some (Op.bytesLess (a.2.1.toList.drop i) (b.2.1.toList.drop i)):=by
 intro m
 induction m with
 |zero=>
  intro f i h hf
  obtain ⟨f,rfl⟩:∃q,f=q+1:=⟨f-1,by omega⟩
  have hd:a.2.1.toList.drop i=[]:=List.drop_of_length_le (by rw [toList_size];omega)
  simp only [spec_ValLess.l8,decide_eq_false (show ¬((i:Int)<(a.2.1.size:Int)) by omega),cond_false,Option.bind_some,hd]
  cases hbd:b.2.1.toList.drop i with
  |nil=>
   have:=List.drop_eq_nil_iff.1 hbd
   rw [toList_size] at this
   rw [decide_eq_false (by omega)];rfl
  |cons y r=>
   have hl:(b.2.1.toList.drop i).length=(y::r).length:=by rw [hbd]
   simp only [List.length_drop,toList_size,List.length_cons] at hl
   rw [decide_eq_true (by omega)];rfl
 |succ m ih=>
  intro f i h hf
  obtain ⟨f,rfl⟩:∃q,f=q+1:=⟨f-1,by omega⟩
  have hi1:IntKind.wrap .i64 ((i:Int)+1)=((i+1:Nat):Int):=by rw [w64 (by omega) (by omega)];omega
  by_cases h1:i<a.2.1.size
  ·have hda:a.2.1.toList.drop i=a.2.1.toList[i]'(by rw [toList_size];omega)::a.2.1.toList.drop (i+1):=List.drop_eq_getElem_cons (by rw [toList_size];omega)
   by_cases h2:i<b.2.1.size
   ·have hdb:b.2.1.toList.drop i=b.2.1.toList[i]'(by rw [toList_size];omega)::b.2.1.toList.drop (i+1):=List.drop_eq_getElem_cons (by rw [toList_size];omega)
    have ga:btS a.2.1 (i:Int)=some ((a.2.1.toList[i]'(by rw [toList_size];omega)).toNat:Int):=by rw [btS_at,List.getElem?_eq_getElem (by rw [toList_size];omega)];rfl
    have gb:btS b.2.1 (i:Int)=some ((b.2.1.toList[i]'(by rw [toList_size];omega)).toNat:Int):=by rw [btS_at,List.getElem?_eq_getElem (by rw [toList_size];omega)];rfl
    simp only [spec_ValLess.l8,decide_eq_true (show (i:Int)<(a.2.1.size:Int) by omega),decide_eq_true (show (i:Int)<(b.2.1.size:Int) by omega),cond_true,Option.bind_some,ga,gb,hi1]
    rw [hda,hdb]
    generalize a.2.1.toList[i]'(by rw [toList_size];omega)=x at*
    generalize b.2.1.toList[i]'(by rw [toList_size];omega)=y at*
    simp only [Op.bytesLess]
    by_cases hxy:x=y
    ·subst hxy
     rw [bneF rfl,cond_false,ih f (i+1) (by omega) (by omega)]
     have:¬(x<x):=by simp
     simp [this]
    ·have hne:((x.toNat:Int))≠(y.toNat:Int):=fun h=>hxy (UInt8.toNat_inj.1 (by omega))
     rw [bneT hne,cond_true]
     have:(x==y)=false:=by simpa using hxy
     rw [this,Bool.false_and,Bool.or_false]
     congr 1
     by_cases hlt:x<y
     ·have:=UInt8.lt_iff_toNat_lt.1 hlt
      rw [decide_eq_true (by omega),decide_eq_true hlt]
     ·have:¬x.toNat<y.toNat:=fun h=>hlt (UInt8.lt_iff_toNat_lt.2 h)
      rw [decide_eq_false (by omega),decide_eq_false hlt]
   ·have hd:b.2.1.toList.drop i=[]:=List.drop_of_length_le (by rw [toList_size];omega)
    simp only [spec_ValLess.l8,decide_eq_true (show (i:Int)<(a.2.1.size:Int) by omega),decide_eq_false (show ¬((i:Int)<(b.2.1.size:Int)) by omega),cond_true,cond_false,Option.bind_some]
    rw [hda,hd,decide_eq_false (by omega)];rfl
  ·omega
def vless (t:Int) (a b:TVal):Bool:=
 if vok t a=true∧vok t b=true then
  if t=5 then decide ((if a.1<0 then bits .xor .i64 a.1 9223372036854775807 else a.1)<(if b.1<0 then bits .xor .i64 b.1 9223372036854775807 else b.1))
  else if t=6 then Op.bytesLess a.2.1.toList b.2.1.toList
  else decide (a.1<b.1)
 else false
theorem vok6_size {v:TVal} (h:vok 6 v=true):v.2.1.size≤40:=by
 unfold vok at h
 rw [if_neg (by decide),if_neg (by decide),if_neg (by decide),if_pos rfl] at h
 simp only [Bool.and_eq_true,decide_eq_true_eq] at h
 omega
theorem valLess_eq (k:Nat) (hk:2000000≤k) (t:Int) (a b:TVal):spec_ValLess k t a b=some (vless t a b)∧impl_ValLess k t a b=some (vless t a b):=by
 unfold spec_ValLess impl_ValLess vless
 simp only [svalOk_eq,valOk_eq,Option.bind_some]
 cases ha:vok t a with
 |false=>simp
 |true=>
  cases hb:vok t b with
  |false=>simp
  |true=>
   simp only [Bool.not_true,cond_false,Option.bind_some,and_self,if_true]
   by_cases h5:t=5
   ·rw [beqT h5,cond_true,cond_true,if_pos h5]
    unfold spec_ValLess.d5 impl_ValLess.d5 spec_FloatKey impl_FloatKey
    constructor<;>
    ·by_cases h1:a.1<0<;>by_cases h2:b.1<0<;>simp [h1,h2]
   ·rw [beqF h5,cond_false,cond_false,if_neg h5]
    by_cases h6:t=6
    ·subst h6
     have s1:=vok6_size ha
     have s2:=vok6_size hb
     have:=sless_loop k a b (by omega) (by omega) a.2.1.size k 0 (by omega) (by omega)
     have this:spec_ValLess.l8 k k 0 a b=_:=this
     rw [beqT rfl,cond_true,cond_true,if_pos rfl,this]
     exact ⟨rfl,rfl⟩
    ·rw [beqF h6,cond_false,cond_false,if_neg h6]
     exact ⟨rfl,rfl⟩
end Go.Law
end
section
set_option linter.unusedVariables false
set_option linter.unusedSimpArgs false
namespace Go.Law
open Go.Am Go.Fn
def lfOk (lf:TLeaf):Bool:=tyOk lf.1&&(decide (0≤lf.2.1)&&decide (lf.2.1≤lf.2.2.1)&&decide (lf.2.2.1≤6))
theorem lfOk_eq (k:Nat) (lf:TLeaf):impl_LeafOk k lf=some (lfOk lf)∧spec_LeafOk k lf=some (lfOk lf):=by
 unfold impl_LeafOk spec_LeafOk lfOk
 simp only [typeOk_eq,l5Type_eq,within_eq,l1In_eq,Option.bind_some,csf,Option.some.injEq]
 cases tyOk lf.1 with
 |false=>exact ⟨rfl,rfl⟩
 |true=>
  simp only [Bool.true_and]
  constructor<;>(rw [Bool.eq_iff_iff];simp only [Bool.and_eq_true,decide_eq_true_eq];omega)
end Go.Law
end
section
set_option linter.unusedVariables false
set_option linter.unusedSimpArgs false
namespace Go.Law
open Go.Am Go.Fn
abbrev zS:TStats:=(0,false,(0,(⟨#[]⟩:ByteArray),()),(0,(⟨#[]⟩:ByteArray),()),())
theorem value_eq (k:Nat) (hk:3000≤k) (t:Int) (s:ByteArray) (hs:s.size<1000000):
 ∃v v' b,impl_valueOf k t s=some (v,b)∧spec_l15Value k t s=some (v',b)∧(b=true→v'=v∧vok t v=true∧I64 v.1):=by
 unfold impl_valueOf spec_l15Value
 by_cases h6:t=6
 ·subst h6
  simp only [show ((6:Int)==6)=true from rfl,show ((6:Int) !=6)=false from rfl,cond_true,cond_false,valOk_eq,svalOk_eq,Option.bind_some,spec_l15Value.c7,spec_l15Value.d7,spec_l15Text]
  refine ⟨_,(0,s,()),_,rfl,?_,?_⟩
  ·cases vok 6 (0,s,()) with
   |false=>rfl
   |true=>
    simp only [cond_true,eqS_iff,decide_true]
  ·intro h
   exact ⟨rfl,h,by show _≤(0:Int);decide,by show (0:Int)<_;decide⟩
 ·obtain ⟨nx,ok,l,e1,e2,r⟩:=plainRead_eq k hk t (strInts s) (by rw [strInts_length];omega) (strInts_byte s) 0 1 ⟨by decide,by decide⟩
  simp only [beqF h6,bneT h6,cond_true,cond_false,e1,e2,Option.bind_some,cst]
  cases ok with
  |false=>
   simp only [Bool.not_false,cond_true,Bool.true_or,Option.bind_some]
   exact ⟨_,_,_,rfl,rfl,fun h=>by cases h⟩
  |true=>
   have hlen:=r.len rfl
   have hl1:l.length=1:=by rw [hlen];rfl
   obtain ⟨v,rfl⟩:∃v,l=[v]:=by
    match l,hl1 with
    |[v],_=>exact ⟨v,rfl⟩
   obtain ⟨hv,hI⟩:=r.vk rfl v (by simp)
   have hnl:=r.nl rfl
   have hty:=r.ty rfl
   have hvs:vsOk t [v]=true:=vsOk_iff.2 ⟨fun x hx=>by rw [List.mem_singleton.1 hx];exact hv,by simp,hty⟩
   obtain ⟨p1,p2⟩:=plainPack_eq k hk t [v] (by simp) (by simp;omega)
   rw [hvs,if_pos rfl] at p1 p2
   have hg:rdL [v] 0=some v:=rfl
   simp only [Bool.not_true,cond_false,Bool.false_or,hg,Option.bind_some,impl_statText,spec_l15Value.c7,spec_l15Value.d7,spec_l15Text,beqF h6,p1,p2,svalOk_eq,hv,cond_true,eqS_iff]
   by_cases hq:intsStr (plL t [v])=s
   ·have hz:nx=(s.size:Int):=by rw [←hq,intsStr_size];omega
    rw [decide_eq_true hq,bneF hz]
    exact ⟨_,_,_,rfl,rfl,fun _=>⟨rfl,hv,hI⟩⟩
   ·rw [decide_eq_false hq]
    cases (nx !=(s.size:Int)) with
    |false=>exact ⟨_,_,_,rfl,rfl,fun h=>by cases h⟩
    |true=>exact ⟨_,_,_,rfl,rfl,fun h=>by cases h⟩
section
variable (k:Nat) (hk:2000000≤k)
include hk
theorem statsOk_eq (lf:TLeaf) (st:TStats):∃b,impl_statsOk k lf st=some b∧spec_l15Ok k lf st=some b:=by
 unfold impl_statsOk spec_l15Ok
 obtain ⟨g1,g2⟩:=lfOk_eq k lf
 simp only [g1,g2,Option.bind_some,within_eq,l1In_eq,cst,csf,valOk_eq,svalOk_eq,(valLess_eq k hk _ _ _).1,(valLess_eq k hk _ _ _).2,csb]
 exact ⟨_,rfl,rfl⟩
variable {l:List TNode} {af:List Int} (h:TreeFacts l af)
include h
theorem stats_eq (lf:TLeaf) (hlf:lfOk lf=true) (a:Nat) (ha:a<l.length):
 ∃S,impl_tree_stats k lf (a:Int) (true,tB l) af=some (S,tB l,af)∧spec_l15From k lf l (a:Int)=some S∧(S.2=false→S.1=zS):=by
 have hk2:2000≤k:=by omega
 obtain ⟨f5,f5',_⟩:=find_val k hk2 h a ha 5
 obtain ⟨f6,f6',_⟩:=find_val k hk2 h a ha 6
 obtain ⟨n3,n3',_⟩:=num_val k hk2 h a ha 3
 obtain ⟨hi,hb,hn,t5,t5',hs5,z5⟩:=text_eq k hk2 h a ha 5
 obtain ⟨lo,lb,ln,t6,t6',hs6,z6⟩:=text_eq k hk2 h a ha 6
 have p5:hb=true→0≤fV k l a 5:=by
  intro hh;subst hh
  unfold spec_l4TextOf at t5
  simp only [f5,Option.bind_some] at t5
  by_cases hneg:fV k l a 5<0
  ·rw [decide_eq_true hneg] at t5
   simp at t5
  ·omega
 have p6:lb=true→0≤fV k l a 6:=by
  intro hh;subst hh
  unfold spec_l4TextOf at t6
  simp only [f6,Option.bind_some] at t6
  by_cases hneg:fV k l a 6<0
  ·rw [decide_eq_true hneg] at t6
   simp at t6
  ·omega
 obtain ⟨vh,vh',bh,v5,v5',w5⟩:=value_eq k (by omega) lf.1 hi (by omega)
 obtain ⟨vl,vl',bl,v6,v6',w6⟩:=value_eq k (by omega) lf.1 lo (by omega)
 unfold impl_tree_stats spec_l15From
 simp only [n3,n3',t5,t6,t5',t6',f5,f6,f5',f6',Option.bind_some,(lfOk_eq k lf).1,hlf,cst,csf,Bool.not_true,hs5,hs6,v5,v5',v6,v6',impl_tree_stats.c13,impl_tree_stats.d12,spec_l15From.c15]
 cases hnb:(nV k l (a:Int) 3).2 with
 |false=>
  simp only [Bool.not_false,Bool.true_or,cond_true]
  exact ⟨_,rfl,rfl,fun _=>rfl⟩
 |true=>
  simp only [Bool.not_true,Bool.false_or,Bool.or_false,cond_false]
  have fin:∀st:TStats,∃S,((impl_statsOk k lf st).bind fun r1=>cond (!r1) (some ((zS,false),tB l,af)) (some ((st,true),tB l,af)))=some (S,tB l,af)∧((spec_l15Ok k lf st).bind fun r1=>cond (!r1) (some (zS,false)) (some (st,true)))=some S∧(S.2=false→S.1=zS):=by
   intro st
   obtain ⟨b,s1,s2⟩:=statsOk_eq k hk lf st
   rw [s1,s2]
   cases b with
   |false=>exact ⟨_,rfl,rfl,fun _=>rfl⟩
   |true=>exact ⟨_,rfl,rfl,fun h=>by cases h⟩
  by_cases hany:0≤fV k l a 5∨0≤fV k l a 6
  ·have key:∀X Y:Option ((TStats×Bool)×TTreeB×List Int),(cond (decide (fV k l a 5≥0)) X (cond (decide (fV k l a 6≥0)) X Y))=X:=by
    intro X Y
    by_cases q5:0≤fV k l a 5
    ·rw [decide_eq_true q5];rfl
    ·have q6:0≤fV k l a 6:=by omega
     rw [decide_eq_false q5,decide_eq_true q6];rfl
   rw [show ∀X:Option ((TStats×Bool)×TTreeB×List Int),∀Y,cond true X Y=X from fun _ _=>rfl]
   rw [key]
   have hany':(decide (fV k l a 5≥0)||decide (fV k l a 6≥0))=true:=by simpa using hany
   cases hb with
   |false=>
    cases lb with
    |false=>simp only [hany',Bool.not_false,Bool.true_or,cond_true,Bool.and_true,beq_self_eq_true,Bool.not_true,Bool.or_true];exact ⟨_,rfl,rfl,fun _=>rfl⟩
    |true=>simp only [Bool.not_false,Bool.true_or,cond_true,show (false==true)=false from rfl];exact ⟨_,rfl,rfl,fun _=>rfl⟩
   |true=>
    cases lb with
    |false=>simp only [Bool.not_false,Bool.true_or,cond_true,show (true==false)=false from rfl,Bool.or_true];exact ⟨_,rfl,rfl,fun _=>rfl⟩
    |true=>
     cases bh with
     |false=>simp only [Bool.not_false,Bool.not_true,Bool.true_or,Bool.or_true,cond_true,cond_false,beq_self_eq_true,Bool.or_self,Bool.false_and];exact ⟨_,rfl,rfl,fun _=>rfl⟩
     |true=>
      cases bl with
      |false=>simp only [Bool.not_false,Bool.not_true,Bool.true_or,Bool.or_true,cond_true,cond_false,beq_self_eq_true,Bool.or_self,Bool.false_and];exact ⟨_,rfl,rfl,fun _=>rfl⟩
      |true=>
       obtain ⟨rfl,_⟩:=w5 rfl
       obtain ⟨rfl,_⟩:=w6 rfl
       simp only [Bool.not_true,Bool.or_self,cond_true,cond_false,beq_self_eq_true,Bool.false_and]
       exact fin _
  ·have h5:¬0≤fV k l a 5:=fun h=>hany (.inl h)
   have h6:¬0≤fV k l a 6:=fun h=>hany (.inr h)
   have b5:hb=false:=by cases hb with|false=>rfl|true=>exact (h5 (p5 rfl)).elim
   have b6:lb=false:=by cases lb with|false=>rfl|true=>exact (h6 (p6 rfl)).elim
   subst b5;subst b6
   simp only [decide_eq_false (show ¬fV k l a 5≥0 from h5),decide_eq_false (show ¬fV k l a 6≥0 from h6),cond_false,beq_self_eq_true,Bool.not_true,Bool.or_self,Bool.and_false]
   exact fin _
end
end Go.Law
end
section
set_option linter.unusedVariables false
set_option linter.unusedSimpArgs false
namespace Go.Law
open Go.Am Go.Fn
theorem prParts_mono {S:Nat→Nat→Res (List TNode)} (ih:∀p c q Y,S p c= .ok q Y→p≤q):∀(j p c q:Nat) (Y:List TNode),prParts S j p c= .ok q Y→p≤q:=by
 intro j
 induction j with
 |zero=>
  intro p c q Y h
  simp only [prParts,Res.ok.injEq] at h
  omega
 |succ j ihj=>
  intro p c q Y h
  simp only [prParts] at h
  split at h
  ·cases h
  ·rename_i h1
   split at h
   ·cases h
   ·rename_i h2
    simp only [Res.ok.injEq] at h
    have:=ih _ _ _ _ h1
    have:=ihj _ _ _ _ h2
    omega
theorem prFields_mono {S:Int→Int→Nat→Nat→Res (List TNode)} {b:List Int} (ih:∀t id p c q Y,S t id p c= .ok q Y→p≤q):∀(f:Nat) (last:Int) (p c q:Nat) (Y:Nat×List TNode),prFields S b f last p c= .ok q Y→p<q:=by
 intro f
 induction f with
 |zero=>intro last p c q Y h;cases h
 |succ f ihf=>
  intro last p c q Y h
  simp only [prFields] at h
  split at h
  ·cases h
  ·rename_i h1
   have:=(prHead_ok h1).1
   split at h
   ·simp only [Res.ok.injEq] at h
    omega
   ·split at h
    ·cases h
    ·rename_i h2
     split at h
     ·cases h
     ·rename_i h3
      simp only [Res.ok.injEq] at h
      have:=ih _ _ _ _ _ _ h2
      have:=ihf _ _ _ _ _ h3
      omega
theorem prN_mono:∀(d:Nat) (b:List Int) (kind id:Int) (p c q:Nat) (Y:List TNode),prN d b kind id p c= .ok q Y→p≤q:=by
 intro d
 induction d with
 |zero=>intro b kind id p c q Y h;cases h
 |succ d ih=>
  intro b kind id p c q Y h
  simp only [prN] at h
  split at h
  ·cases h
  ·split at h
   ·split at h
    ·cases h
    ·split at h
     ·cases h
     ·simp only [Res.ok.injEq] at h
      omega
   ·split at h
    ·split at h
     ·cases h
     ·rename_i hs
      simp only [Res.ok.injEq] at h
      have:=(prText_ok hs).1
      omega
    ·split at h
     ·split at h
      ·cases h
      ·rename_i hm
       have:=(prMany_ok hm).1
       split at h
       ·cases h
       ·rename_i hp
        simp only [Res.ok.injEq] at h
        have:=prParts_mono (fun p c q Y h=>ih b _ 0 p c q Y h) _ _ _ _ _ hp
        omega
     ·split at h
      ·split at h
       ·cases h
       ·rename_i hf
        simp only [Res.ok.injEq] at h
        have:=prFields_mono (fun t id p c q Y h=>ih b t id p c q Y h) _ _ _ _ _ _ hf
        omega
      ·simp only [Res.ok.injEq] at h
       omega
end Go.Law
end
section
set_option linter.unusedVariables false
set_option linter.unusedSimpArgs false
namespace Go.Law
open Go.Am Go.Fn
def CostLe (d:Nat) (Y:List TNode) (m:Nat):Prop:=∀rest,(cost d (Y++rest)).2=rest∧(cost d (Y++rest)).1≤m
def CostPLe (d:Nat) (st:Bool) (c:Nat) (last:Int) (Y:List TNode) (m:Nat):Prop:=∀rest,(costP (cost d) st c last (Y++rest)).2=rest∧(costP (cost d) st c last (Y++rest)).1≤m
theorem CostPLe_cons {d:Nat} {st:Bool} {c:Nat} {last:Int} {x:TNode} {X Z:List TNode} {m1 m2 m:Nat} (h1:CostLe d (x::X) m1) (h2:CostPLe d st c x.2.1 Z m2) (hm:(if st then (headB x last).length else 0)+m1+m2≤m):CostPLe d st (c+1) last ((x::X)++Z) m:=by
 intro rest
 obtain ⟨a1,a2⟩:=h1 (Z++rest)
 obtain ⟨b1,b2⟩:=h2 rest
 rw [List.append_assoc,List.cons_append]
 rw [List.cons_append] at a1 a2
 simp only [costP,a1]
 exact ⟨b1,by omega⟩
theorem prHead_len {b:List Int} (hb:Byt b) {p:Nat} {last:Int} {q:Nat} {t id:Int} (hl:0≤last) (h:prHead b p last= .ok q (t,id)):q≤b.length∧(t≠0→∀x:TNode,x.2.1=id→p+(headB x last).length≤q):=by
 unfold prHead at h
 split at h
 ·cases h
 ·rename_i y hy
  have hp:p<b.length:=(List.getElem?_eq_some_iff.1 hy).1
  obtain ⟨y0,y1⟩:=hb y (List.mem_of_getElem? hy)
  split at h
  ·simp only [Res.ok.injEq,Prod.mk.injEq] at h
   exact ⟨by omega,fun hh=>by omega⟩
  ·split at h
   ·cases h
   ·split at h
    ·cases h
    ·rename_i id' q' hm
     split at h
     ·cases h
     ·split at h
      ·cases h
      ·simp only [Res.ok.injEq,Prod.mk.injEq] at h
       obtain ⟨rfl,rfl,rfl⟩:=h
       split at hm
       ·cases hg:gv (b.drop (p+1)) with
        |none=>rw [hg] at hm;cases hm
        |some z=>
         rw [hg] at hm
         obtain ⟨u,n⟩:=z
         simp only [Option.map_some,Option.some.injEq,Prod.mk.injEq] at hm
         obtain ⟨rfl,rfl⟩:=hm
         obtain ⟨f1,f2,f3,f4,f5⟩:=gv_facts _ u n (fun x hx=>hb x (List.mem_of_mem_drop hx)) hg
         rw [List.length_drop] at f3
         refine ⟨by omega,fun _ x hx=> ?_⟩
         unfold headB
         split
         ·simp<;>omega
         ·rw [hx,zig_zagV f1,List.length_cons];omega
       ·simp only [Option.some.injEq,Prod.mk.injEq] at hm
        obtain ⟨rfl,rfl⟩:=hm
        refine ⟨by omega,fun _ x hx=> ?_⟩
        unfold headB
        rw [if_pos (by omega)]
        simp
theorem prMany_len {b:List Int} (hb:Byt b) {p q:Nat} {many item:Int} (h:prMany b p= .ok q (many,item)):q≤b.length∧p+(if many≤14 then 1 else 1+(uv many).length)≤q:=by
 unfold prMany at h
 split at h
 ·cases h
 ·rename_i y hy
  have hp:p<b.length:=(List.getElem?_eq_some_iff.1 hy).1
  obtain ⟨y0,y1⟩:=hb y (List.mem_of_getElem? hy)
  split at h
  ·cases h
  ·rename_i m q' hm
   have hq:q'≤b.length∧p+(if m≤14 then 1 else 1+(uv m).length)≤q':=by
    split at hm
    ·cases hg:gv (b.drop (p+1)) with
     |none=>rw [hg] at hm;cases hm
     |some z=>
      rw [hg] at hm
      obtain ⟨u,n⟩:=z
      simp only [Option.map_some,Option.some.injEq,Prod.mk.injEq] at hm
      obtain ⟨rfl,rfl⟩:=hm
      obtain ⟨f1,f2,f3,f4,f5⟩:=gv_facts _ u n (fun x hx=>hb x (List.mem_of_mem_drop hx)) hg
      rw [List.length_drop] at f3
      refine ⟨by omega,?_⟩
      split<;>omega
    ·simp only [Option.some.injEq,Prod.mk.injEq] at hm
     obtain ⟨rfl,rfl⟩:=hm
     refine ⟨by omega,?_⟩
     rw [if_pos (by omega)]
     omega
   split at h
   ·rename_i h0
    simp only [Res.ok.injEq,Prod.mk.injEq] at h
    obtain ⟨rfl,rfl,rfl⟩:=h
    rw [h0] at hq
    exact hq
   ·split at h
    ·cases h
    ·split at h
     ·cases h
     ·simp only [Res.ok.injEq,Prod.mk.injEq] at h
      obtain ⟨rfl,rfl,rfl⟩:=h
      exact hq
theorem prText_len {b:List Int} (hb:Byt b) {p q:Nat} {s:ByteArray} (h:prText b p= .ok q s):q≤b.length∧p+((uv (s.size:Int)).length+s.size)≤q:=by
 unfold prText at h
 split at h
 ·cases h
 ·rename_i u n hg
  obtain ⟨f1,f2,f3,f4,f5⟩:=gv_facts _ u n (fun x hx=>hb x (List.mem_of_mem_drop hx)) hg
  rw [List.length_drop] at f3
  split at h
  ·cases h
  ·split at h
   ·cases h
   ·simp only [Res.ok.injEq] at h
    obtain ⟨rfl,rfl⟩:=h
    have hs:(intsStr (List.take u.toNat (List.drop (p+n) b))).size=u.toNat:=by
     rw [intsStr_size,List.length_take,List.length_drop];omega
    rw [hs,show ((u.toNat:Nat):Int)=u by omega]
    omega
theorem prParts_cost {d:Nat} {b:List Int} {S:Nat→Nat→Res (List TNode)} (ih:∀p c q Y,p≤b.length→c≤1500→S p c= .ok q Y→p≤q∧q≤b.length∧Y≠[]∧c+Y.length≤1500∧CostLe d Y (q-p)):∀(m p c:Nat) (last:Int) (q:Nat) (Y:List TNode),p≤b.length→c≤1500→prParts S m p c= .ok q Y→p≤q∧q≤b.length∧CostPLe d false m last Y (q-p):=by
 intro m
 induction m with
 |zero=>
  intro p c last q Y hp hc h
  simp only [prParts,Res.ok.injEq] at h
  obtain ⟨rfl,rfl⟩:=h
  exact ⟨Nat.le_refl _,hp,fun rest=>⟨rfl,Nat.zero_le _⟩⟩
 |succ m ihm=>
  intro p c last q Y hp hc h
  simp only [prParts] at h
  split at h
  ·cases h
  ·rename_i q1 Y1 h1
   split at h
   ·cases h
   ·rename_i q2 Z h2
    simp only [Res.ok.injEq] at h
    obtain ⟨rfl,rfl⟩:=h
    obtain ⟨a1,a2,a3,a4,a5⟩:=ih _ _ _ _ hp hc h1
    cases Y1 with
    |nil=>exact (a3 rfl).elim
    |cons x X=>
     obtain ⟨b1,b2,b3⟩:=ihm _ _ x.2.1 _ _ a2 (by omega) h2
     exact ⟨by omega,b2,CostPLe_cons a5 b3 (by simp;omega)⟩
theorem prFields_cost {d:Nat} {b:List Int} (hb:Byt b) {S:Int→Int→Nat→Nat→Res (List TNode)} (ih:∀t id p c q Y,isKind t=true→p≤b.length→c≤1500→S t id p c= .ok q Y→p≤q∧q≤b.length∧(∃x X,Y=x::X∧x.2.1=id)∧c+Y.length≤1500∧CostLe d Y (q-p)):∀(f:Nat) (last:Int) (p c q m:Nat) (Y:List TNode),0≤last→p≤b.length→c≤1500→prFields S b f last p c= .ok q (m,Y)→p<q∧q≤b.length∧CostPLe d true m last Y (q-p-1):=by
 intro f
 induction f with
 |zero=>intro last p c q m Y hl hp hc h;cases h
 |succ f ihf=>
  intro last p c q m Y hl hp hc h
  simp only [prFields] at h
  split at h
  ·cases h
  ·rename_i q1 t id h1
   obtain ⟨a1,a2⟩:=prHead_ok h1
   obtain ⟨l1,l2⟩:=prHead_len hb hl h1
   split at h
   ·simp only [Res.ok.injEq,Prod.mk.injEq] at h
    obtain ⟨rfl,rfl,rfl⟩:=h
    exact ⟨a1,l1,fun rest=>⟨rfl,Nat.zero_le _⟩⟩
   ·rename_i ht
    rcases a2 with a2|⟨a2,_,a3,a4,a5⟩
    ·exact (ht a2).elim
    ·split at h
     ·cases h
     ·rename_i q2 Y1 h2
      split at h
      ·cases h
      ·rename_i q3 m' Z h3
       simp only [Res.ok.injEq,Prod.mk.injEq] at h
       obtain ⟨rfl,rfl,rfl⟩:=h
       obtain ⟨c1,c2,⟨x,X,rfl,hx⟩,c4,c5⟩:=ih _ _ _ _ _ _ a2 l1 hc h2
       obtain ⟨b1,b2,b3⟩:=ihf _ _ _ _ _ _ (by omega) c2 (by omega) h3
       rw [←hx] at b3
       have:=l2 ht x hx
       exact ⟨by omega,b2,CostPLe_cons c5 b3 (by simp;omega)⟩
theorem prN_cost:∀(d:Nat) (b:List Int) (hb:Byt b) (kind id:Int) (p c q:Nat) (Y:List TNode),isKind kind=true→p≤b.length→c≤1500→prN d b kind id p c= .ok q Y→q≤b.length∧CostLe d Y (q-p):=by
 intro d
 induction d with
 |zero=>intro b hb kind id p c q Y hk hp hc h;cases h
 |succ d ih=>
  intro b hb kind id p c q Y hk hp hc h
  have ihS:∀t id p c q Y,isKind t=true→p≤b.length→c≤1500→prN d b t id p c= .ok q Y→p≤q∧q≤b.length∧(∃x X,Y=x::X∧x.2.1=id)∧c+Y.length≤1500∧CostLe d Y (q-p):=by
   intro t id p c q Y hk hp hc h
   obtain ⟨a1,x,X,rfl,x1,x2,x3,x4⟩:=prN_enc d b t id p c q Y hk hc h
   obtain ⟨b1,b2⟩:=ih b hb t id p c q _ hk hp hc h
   exact ⟨a1,b1,⟨x,X,rfl,x2⟩,x4,b2⟩
  simp only [prN] at h
  split at h
  ·cases h
  ·rename_i hc5
   split at h
   ·rename_i h56
    split at h
    ·cases h
    ·rename_i u n hg
     obtain ⟨f1,f2,f3,f4,f5⟩:=gv_facts _ u n (fun x hx=>hb x (List.mem_of_mem_drop hx)) hg
     rw [List.length_drop] at f3
     split at h
     ·cases h
     ·simp only [Res.ok.injEq] at h
      obtain ⟨rfl,rfl⟩:=h
      refine ⟨by omega,fun rest=> ?_⟩
      simp only [List.cons_append,List.nil_append,cost,if_pos h56,zig_zagV f1]
      exact ⟨trivial,by omega⟩
   ·rename_i h56
    split at h
    ·rename_i h8
     split at h
     ·cases h
     ·rename_i q' s hs
      simp only [Res.ok.injEq] at h
      obtain ⟨rfl,rfl⟩:=h
      obtain ⟨s1,s2⟩:=prText_len hb hs
      refine ⟨s1,fun rest=> ?_⟩
      simp only [List.cons_append,List.nil_append,cost,if_neg (show ¬((8:Int)=5∨(8:Int)=6) by omega),if_true]
      exact ⟨trivial,by omega⟩
    ·rename_i h8
     split at h
     ·rename_i h9
      split at h
      ·cases h
      ·rename_i q1 many item hm
       obtain ⟨m0,m1⟩:=prMany_ok hm
       obtain ⟨l0,l1⟩:=prMany_len hb hm
       split at h
       ·cases h
       ·rename_i q2 Y' hq
        simp only [Res.ok.injEq] at h
        obtain ⟨rfl,rfl⟩:=h
        have key:q1≤q2∧q2≤b.length∧CostPLe d false many.toNat 0 Y' (q2-q1):=by
         rcases m1 with ⟨rfl,rfl⟩|⟨m1,m2,m3⟩
         ·simp only [Int.toNat_zero,prParts,Res.ok.injEq] at hq
          obtain ⟨rfl,rfl⟩:=hq
          exact ⟨Nat.le_refl _,l0,fun rest=>⟨rfl,Nat.zero_le _⟩⟩
         ·refine prParts_cost (d:=d) (b:=b) (fun p c q Y hp hc h=> ?_) _ _ _ 0 _ _ l0 (by omega) hq
          obtain ⟨c1,c2,⟨x,X,c3,_⟩,c4,c5⟩:=ihS _ _ _ _ _ _ (isKind_of_item m3) hp hc h
          exact ⟨c1,c2,by rw [c3];simp,c4,c5⟩
        obtain ⟨k0,k1,k2⟩:=key
        refine ⟨k1,fun rest=> ?_⟩
        obtain ⟨e1,e2⟩:=k2 rest
        simp only [List.cons_append,cost,if_neg (show ¬((9:Int)=5∨(9:Int)=6) by omega),if_neg (show ¬((9:Int)=8) by omega),if_true]
        exact ⟨e1,by omega⟩
     ·rename_i h9
      split at h
      ·rename_i h12
       split at h
       ·cases h
       ·rename_i q1 m Y' hf
        simp only [Res.ok.injEq] at h
        obtain ⟨rfl,rfl⟩:=h
        obtain ⟨k0,k1,k2⟩:=prFields_cost (d:=d) hb ihS _ _ _ _ _ _ _ (Int.le_refl 0) hp (by omega) hf
        refine ⟨k1,fun rest=> ?_⟩
        obtain ⟨e1,e2⟩:=k2 rest
        simp only [List.cons_append,cost,if_neg (show ¬((12:Int)=5∨(12:Int)=6) by omega),if_neg (show ¬((12:Int)=8) by omega),if_neg (show ¬((12:Int)=9) by omega),if_true,Int.toNat_natCast]
        exact ⟨e1,by omega⟩
      ·rename_i h12
       simp only [Res.ok.injEq] at h
       obtain ⟨rfl,rfl⟩:=h
       refine ⟨hp,fun rest=> ?_⟩
       simp only [List.cons_append,List.nil_append,cost,if_neg h56,if_neg h8,if_neg h9,if_neg h12]
       exact ⟨trivial,by omega⟩
end Go.Law
end
section
set_option linter.unusedVariables false
set_option linter.unusedSimpArgs false
namespace Go.Law
open Go.Am Go.Fn
theorem isz {x:Int} (h0: -1000000000000≤x) (h1:x≤1000000000000):I64 x:=⟨by omega,by omega⟩
theorem wfn_mk {k id num m:Int} {t:ByteArray} (h1:I64 k) (h2:I64 id) (h3:I64 num) (h4:I64 m) (h5:t.size≤1073741824):WfN (k,id,num,t,m,()):=⟨h1,h2,h3,h4,h5⟩
theorem i8:I64 8:=⟨by decide,by decide⟩
theorem i9:I64 9:=⟨by decide,by decide⟩
theorem i12:I64 12:=⟨by decide,by decide⟩
theorem prParts_wf {S:Nat→Nat→Res (List TNode)} (ih:∀p c q Y,S p c= .ok q Y→∀n,n∈Y→WfN n):∀(m p c q:Nat) (Y:List TNode),prParts S m p c= .ok q Y→∀n,n∈Y→WfN n:=by
 intro m
 induction m with
 |zero=>
  intro p c q Y h n hn
  simp only [prParts,Res.ok.injEq] at h
  obtain ⟨_,rfl⟩:=h
  cases hn
 |succ m ihm=>
  intro p c q Y h n hn
  simp only [prParts] at h
  split at h
  ·cases h
  ·rename_i h1
   split at h
   ·cases h
   ·rename_i h2
    simp only [Res.ok.injEq] at h
    obtain ⟨_,rfl⟩:=h
    rcases List.mem_append.1 hn with hn|hn
    ·exact ih _ _ _ _ h1 n hn
    ·exact ihm _ _ _ _ h2 n hn
theorem prFields_wf {S:Int→Int→Nat→Nat→Res (List TNode)} {b:List Int} (ih:∀t id p c q Y,isKind t=true→0≤id→id≤1000→S t id p c= .ok q Y→∀n,n∈Y→WfN n):∀(f:Nat) (last:Int) (p c q m:Nat) (Y:List TNode),prFields S b f last p c= .ok q (m,Y)→m≤f∧∀n,n∈Y→WfN n:=by
 intro f
 induction f with
 |zero=>intro last p c q m Y h;cases h
 |succ f ihf=>
  intro last p c q m Y h
  simp only [prFields] at h
  split at h
  ·cases h
  ·rename_i q1 t id h1
   obtain ⟨a1,a2⟩:=prHead_ok h1
   split at h
   ·simp only [Res.ok.injEq,Prod.mk.injEq] at h
    obtain ⟨_,rfl,rfl⟩:=h
    exact ⟨by omega,fun n hn=>by cases hn⟩
   ·rename_i ht
    rcases a2 with a2|⟨a2,_,a3,a4,a5⟩
    ·exact (ht a2).elim
    ·split at h
     ·cases h
     ·rename_i h2
      split at h
      ·cases h
      ·rename_i h3
       simp only [Res.ok.injEq,Prod.mk.injEq] at h
       obtain ⟨_,rfl,rfl⟩:=h
       obtain ⟨g1,g2⟩:=ihf _ _ _ _ _ _ h3
       refine ⟨by omega,fun n hn=> ?_⟩
       rcases List.mem_append.1 hn with hn|hn
       ·exact ih _ _ _ _ _ _ a2 (by omega) a5 h2 n hn
       ·exact g2 n hn
theorem prN_wf:∀(d:Nat) (b:List Int) (kind id:Int) (p c q:Nat) (Y:List TNode),isKind kind=true→0≤id→id≤1000→prN d b kind id p c= .ok q Y→∀n,n∈Y→WfN n:=by
 intro d
 induction d with
 |zero=>intro b kind id p c q Y _ _ _ h;cases h
 |succ d ih=>
  intro b kind id p c q Y hk h0 h1 h
  have hkb:I64 kind:=by rcases kind_cases hk with e|e|e|e|e|e|e<;>subst e<;>exact ⟨by decide,by decide⟩
  have hid:I64 id:=isz (by omega) (by omega)
  have hz:I64 0:=⟨by decide,by decide⟩
  have he:(⟨#[]⟩:ByteArray).size≤1073741824:=by decide
  have mk:∀(x:TNode) (Y:List TNode),WfN x→(∀n,n∈Y→WfN n)→∀n,n∈x::Y→WfN n:=fun x Y hx hY n hn=>by
   rcases List.mem_cons.1 hn with rfl|hn
   ·exact hx
   ·exact hY n hn
  have nil:∀n:TNode,n∈([]:List TNode)→WfN n:=fun n hn=>by cases hn
  simp only [prN] at h
  split at h
  ·cases h
  ·split at h
   ·split at h
    ·cases h
    ·split at h
     ·cases h
     ·simp only [Res.ok.injEq] at h
      obtain ⟨_,rfl⟩:=h
      exact mk _ _ (wfn_mk hkb hid (zagV_i64 _) hz he) nil
   ·split at h
    ·split at h
     ·cases h
     ·rename_i s hs
      obtain ⟨_,s2⟩:=prText_ok hs
      simp only [Res.ok.injEq] at h
      obtain ⟨_,rfl⟩:=h
      exact mk _ _ (wfn_mk i8 hid hz hz (by omega)) nil
    ·split at h
     ·split at h
      ·cases h
      ·rename_i many item hm
       obtain ⟨_,m1⟩:=prMany_ok hm
       split at h
       ·cases h
       ·rename_i hp
        simp only [Res.ok.injEq] at h
        obtain ⟨_,rfl⟩:=h
        rcases m1 with ⟨rfl,rfl⟩|⟨m1,m2,m3⟩
        ·simp only [Int.toNat_zero,prParts,Res.ok.injEq] at hp
         obtain ⟨_,rfl⟩:=hp
         exact mk _ _ (wfn_mk i9 hid hz hz he) nil
        ·refine mk _ _ (wfn_mk i9 hid ?_ (isz (by omega) (by omega)) he) (prParts_wf (fun p c q Y h=>ih b item 0 p c q Y (isKind_of_item m3) (by omega) (by omega) h) _ _ _ _ _ hp)
         rcases kind_cases (isKind_of_item m3) with e|e|e|e|e|e|e<;>subst e<;>exact ⟨by decide,by decide⟩
     ·split at h
      ·split at h
       ·cases h
       ·rename_i hf
        simp only [Res.ok.injEq] at h
        obtain ⟨_,rfl⟩:=h
        obtain ⟨g1,g2⟩:=prFields_wf (fun t id p c q Y hk h0 h1 h=>ih b t id p c q Y hk h0 h1 h) _ _ _ _ _ _ _ hf
        exact mk _ _ (wfn_mk i12 hid hz (isz (by omega) (by omega)) he) g2
      ·simp only [Res.ok.injEq] at h
       obtain ⟨_,rfl⟩:=h
       exact mk _ _ (wfn_mk hkb hid hz hz he) nil
def trd (b:List Int) (at_:Int):Res (List TNode):=if 0≤at_∧at_<b.length then prN 12 b 12 0 at_.toNat 0 else .bad 1
structure ReadOk (b:List Int) (at_:Int) (q:Nat) (Y:List TNode):Prop where
 rng:0≤at_∧at_<q∧q≤b.length
 enc:Enc 12 Y
 root:∃X,∃n:TNode,Y=n::X∧n.1=12∧n.2.1=0
 len:Y.length≤1500
 wf:∀n,n∈Y→WfN n
theorem trd_ok {b:List Int} (hl:b.length<4611686018427387904) (hb:Byt b) {at_:Int} {q:Nat} {Y:List TNode} (h:trd b at_= .ok q Y):ReadOk b at_ q Y:=by
 unfold trd at h
 split at h
 ·rename_i hr
  obtain ⟨a1,n,X,e1,e2,e3,e4,e5⟩:=prN_enc 12 b 12 0 _ 0 q Y (by decide) (by omega) h
  have hlt:at_.toNat<q:=by
   simp only [prN] at h
   simp only [if_neg (show ¬(0:Nat)=1500 by omega),if_neg (show ¬((12:Int)=5∨(12:Int)=6) by omega),if_neg (show ¬((12:Int)=8) by omega),if_neg (show ¬((12:Int)=9) by omega),if_true] at h
   split at h
   ·cases h
   ·rename_i hf
    simp only [Res.ok.injEq] at h
    obtain ⟨rfl,rfl⟩:=h
    exact prFields_mono (fun t id p c q Y h=>prN_mono 11 b t id p c q Y h) _ _ _ _ _ _ hf
  have hq:=(prN_cost 12 b hb 12 0 _ 0 q Y (by decide) (by omega) (by omega) h).1
  exact ⟨⟨hr.1,by omega,hq⟩,e4,⟨X,n,e1,e2,e3⟩,by omega,prN_wf 12 b 12 0 _ 0 q Y (by decide) (by omega) (by omega) h⟩
 ·cases h
variable (k:Nat)
theorem treeRead_eq (hk:2000≤k) (b:List Int) (hl:b.length<4611686018427387904) (hb:Byt b) (at_:Int):
 match trd b at_ with
 | .bad e=>e≠0∧spec_TreeRead k b at_=some (((),0,e),[])∧impl_TreeRead k b at_=some (((),0,e),[])
 | .ok q Y=>spec_TreeRead k b at_=some (((),(q:Int),0),Y)∧impl_TreeRead k b at_=some (((),(q:Int),0),Y):=by
 unfold trd spec_TreeRead impl_TreeRead
 simp only [cst,within_eq]
 by_cases hr:0≤at_∧at_<b.length
 ·rw [if_pos hr]
  have c1:(decide ((0:Int)≤at_)&&decide (at_≤IntKind.wrap .i64 ((b.length:Int)-1)))=true:=by
   rw [w64 (by omega) (by omega)]
   simp
   omega
  rw [decide_eq_false (show ¬at_<0 by omega),decide_eq_false (show ¬at_≥(b.length:Int) by omega),c1]
  simp only [Bool.or_self,Option.bind_some,cond_false,Bool.not_true]
  obtain ⟨p,rfl⟩:=Int.eq_ofNat_of_zero_le hr.1
  rw [Int.toNat_natCast]
  have hs:=srdN k hk b hl hb 12 k 1 12 0 p [] (by omega) (by omega) (by decide) (by omega) (by simp)
  have hi:=irdN k hk b hl hb 12 k 1 12 0 p [] (by omega) (by omega) (by decide) (by omega) (by simp)
  have es:∀x,spec_l4Read k b (p:Int) 12 0 1 []=x↔spec_l4Read.rec k k b (p:Int) 12 0 ((1:Nat):Int) []=x:=fun x=>Iff.rfl
  have ei:∀x,impl_treeReader_node k 12 0 1 (b,(p:Int),(),0,()) []=x↔(impl_treeReader_node.rec k k).1 12 0 ((1:Nat):Int) (rdE b p 0) []=x:=fun x=>Iff.rfl
  rw [List.length_nil] at hs hi
  unfold SNode at hs
  unfold INode at hi
  cases h:prN 12 b 12 0 p 0 with
  |bad e=>
   rw [h] at hs hi
   obtain ⟨he,q,l,e1⟩:=hs
   obtain ⟨_,q',l',_,e2⟩:=hi
   rw [(es _).2 e1,(ei _).2 e2]
   simp only [Option.bind_some,bneT he,cond_true]
   exact ⟨he,trivial,trivial⟩
  |ok q Y=>
   rw [h] at hs hi
   obtain ⟨_,e1⟩:=hs
   obtain ⟨_,e2⟩:=hi
   rw [(es _).2 e1,(ei _).2 e2]
   simp only [Option.bind_some,bneF rfl,cond_false,List.nil_append]
   exact ⟨trivial,trivial⟩
 ·rw [if_neg hr]
  have c1:(decide ((0:Int)≤at_)&&decide (at_≤IntKind.wrap .i64 ((b.length:Int)-1)))=false:=by
   rw [w64 (by omega) (by omega),Bool.eq_false_iff]
   intro q
   simp only [Bool.and_eq_true,decide_eq_true_eq] at q
   omega
  have c2:(decide (at_<0)||decide (at_≥(b.length:Int)))=true:=by
   simp only [Bool.or_eq_true,decide_eq_true_eq]
   omega
  rw [c1,c2]
  simp only [Option.bind_some,cond_true,Bool.not_false]
  exact ⟨by decide,trivial,trivial⟩
theorem read_tree (hk:2000≤k) {b:List Int} {at_:Int} {q:Nat} {Y:List TNode} (h:ReadOk b at_ q Y):spec_TreeOk k Y=some true:=by
 obtain ⟨X,n,rfl,h1,h2⟩:=h.root
 exact treeOkEnc k hk n X h.enc h.len h1 h2
end Go.Law
end
section
set_option linter.unusedVariables false
set_option linter.unusedSimpArgs false
set_option linter.unusedSectionVars false
namespace Go.Law
open Go.Am Go.Fn
abbrev hdr (a:Int) (bad:Bool):THeadReader:=((),a,bad,())
abbrev zN:TNode:=(0,0,0,(⟨#[]⟩:ByteArray),0,())
abbrev zH:THead:=(0,0,0,0,0,0,0,0,false,0,false,zS,0,())
section
variable (k:Nat) (hk:2000000≤k) {l:List TNode} {af:List Int} (h:TreeFacts l af)
include hk h
theorem hany (a:Nat) (ha:a<l.length) (id:Int) (b:Bool):impl_headReader_any k id (hdr a b) (true,tB l) af=some ((nV k l a id).1,(hdr a (b|| !(nV k l a id).2),tB l,af)):=by
 obtain ⟨_,g,_⟩:=num_val k (by omega) h a ha id
 unfold impl_headReader_any impl_headReader_any.c4
 simp only [g,Option.bind_some]
 cases (nV k l a id).2<;>cases b<;>rfl
theorem hnum (a:Nat) (ha:a<l.length) (id:Int) (b:Bool):impl_headReader_num k id 0 (hdr a b) (tB l) af=some ((nV k l a id).1,(hdr a (b||(!(nV k l a id).2||decide ((nV k l a id).1<0))),tB l,af)):=by
 obtain ⟨_,g,_⟩:=num_val k (by omega) h a ha id
 unfold impl_headReader_num impl_headReader_num.c4
 simp only [g,Option.bind_some,cst]
 cases (nV k l a id).2<;>cases decide ((nV k l a id).1<0)<;>cases b<;>rfl
def kdV (l:List TNode) (q:Int):Int:=((rdL l q).map (·.1)).getD 0
theorem kd_val (q:Int) (h0:0≤q) (h1:q<l.length):∃n,rdL l q=some n∧kdV l q=n.1∧nok n=true:=by
 obtain ⟨p,rfl⟩:=Int.eq_ofNat_of_zero_le h0
 obtain ⟨d,nx,hd,hs,hnx⟩:=h.at (i:=p) (by omega)
 obtain ⟨n,n1,n2,n3⟩:=Sub_node hs
 refine ⟨n,n1,?_,n2⟩
 unfold kdV
 rw [show rdL l ((p:Nat):Int)=some n from n1]
 rfl
theorem find_ns (q:Nat) (hq:q<l.length) (hn:kdV l q≠12) (id:Int):fV k l q id= -1:=by
 obtain ⟨n,n1,n2,n3⟩:=kd_val k hk h (q:Int) (by omega) (by omega)
 have c1:(decide ((0:Int)≤(q:Int))&&decide ((q:Int)≤IntKind.wrap .i64 ((l.length:Int)-1)))=true:=by
  have:=h.len
  rw [w64 (by omega) (by omega)];simp;omega
 have:spec_l4Find k l (q:Int) id=some (-1):=by
  unfold spec_l4Find
  simp only [l1In_eq,c1,Option.bind_some,Bool.not_true,cond_false,n1,cst,csf,bneT (show ¬n.1=12 by omega),cond_true,Bool.true_or,Bool.or_true]
 unfold fV
 rw [this]
 rfl
def ptV (k:Nat) (l:List TNode) (id:Int):Bool:=decide (0≤fV k l 0 id)&&(kdV l (fV k l 0 id)==12)
theorem enter_eq (id:Int) (b:Bool):∃q:Nat,q<l.length∧impl_headReader_enter k id (hdr 0 b) (tB l) af=some ((),(hdr q (b|| !ptV k l id),tB l,af))∧spec_l16Part k l id=some (if ptV k l id then (q:Int) else -1):=by
 have hpos:=h.pos
 obtain ⟨f1,f2,f3⟩:=find_val k (by omega) h 0 (by omega) id
 rw [show ((0:Nat):Int)=0 from rfl] at f1 f2 f3
 unfold impl_headReader_enter spec_l16Part ptV
 simp only [f1,f2,Option.bind_some]
 rcases f3 with f3|⟨q,f3,q1,q2⟩
 ·rw [f3]
  refine ⟨0,hpos,?_,rfl⟩
  cases b<;>rfl
 ·rw [f3]
  obtain ⟨n,n1,n2,n3⟩:=kd_val k hk h (q:Int) (by omega) (by omega)
  simp only [decide_eq_false (show ¬(q:Int)<0 by omega),cond_false,n1,Option.bind_some,n2,decide_eq_true (show (0:Int)≤(q:Int) by omega),Bool.true_and]
  by_cases h12:n.1=12
  ·refine ⟨q,q2,?_,?_⟩
   ·rw [bneF h12,beqT h12,cond_false];cases b<;>rfl
   ·rw [bneF h12,beqT h12];rfl
  ·refine ⟨0,hpos,?_,?_⟩
   ·rw [bneT h12,beqF h12,cond_true];cases b<;>rfl
   ·rw [bneT h12,beqF h12];rfl
theorem ids_loop (a:Nat) (ha:a<l.length) (ids:List Int) (hi:ids.length<1000):∀(post pre:List Int) (n:Nat) (o:List Int),ids=pre++post→post.length<n→o.length=pre.length→
 ∃out,spec_l16Ids.l3 k n l (a:Int) ids (pre.length:Int) o=some (((),post.all fun id=>(nV k l a id).2),out)∧((post.all fun id=>(nV k l a id).2)=true→out=o++post.map fun id=>(nV k l a id).1):=by
 intro post
 induction post with
 |nil=>
  intro pre n o hp hn ho
  obtain ⟨n,rfl⟩:∃x,n=x+1:=⟨n-1,by omega⟩
  have:ids=pre:=by simpa using hp
  subst this
  simp only [spec_l16Ids.l3,decide_eq_false (show ¬(ids.length:Int)<(ids.length:Int) by omega),cond_false]
  exact ⟨o,rfl,fun _=>by simp⟩
 |cons id post ih=>
  intro pre n o hp hn ho
  simp only [List.length_cons] at hn
  obtain ⟨n,rfl⟩:∃x,n=x+1:=⟨n-1,by omega⟩
  have hlen:ids.length=pre.length+(post.length+1):=by rw [hp];simp
  have hg:rdL ids (pre.length:Int)=some id:=by rw [hp];exact getMid pre post id
  obtain ⟨g,_⟩:=num_val k (by omega) h a ha id
  simp only [spec_l16Ids.l3,decide_eq_true (show (pre.length:Int)<(ids.length:Int) by omega),cond_true,hg,Option.bind_some,g,List.all_cons]
  cases hb:(nV k l a id).2 with
  |false=>exact ⟨o,rfl,fun h=>by cases h⟩
  |true=>
   obtain ⟨out,i1,i2⟩:=ih (pre++[id]) n (o++[(nV k l a id).1]) (by rw [hp];simp) (by omega) (by simp [ho])
   rw [List.length_append,List.length_singleton] at i1
   simp only [Bool.not_true,cond_false,lim_ok (show o.length+[(nV k l a id).1].length≤4294967296 by simp;omega),cond_true,w64 (x:=(pre.length:Int)+1) (by omega) (by omega),Bool.true_and]
   exact ⟨out,i1,fun hh=>by rw [i2 hh];simp⟩
theorem ids_eq (a:Nat) (ha:a<l.length) (ids:List Int) (hi:ids.length<1000):
 ∃out,spec_l16Ids k l (a:Int) ids=some (((),ids.all fun id=>(nV k l a id).2),out)∧((ids.all fun id=>(nV k l a id).2)=true→out=ids.map fun id=>(nV k l a id).1):=by
 obtain ⟨out,i1,i2⟩:=ids_loop k hk h a ha ids hi ids [] k [] rfl (by omega) rfl
 exact ⟨out,i1,fun hh=>by rw [i2 hh];simp⟩
abbrev setSt (x:THead) (S:TStats×Bool):THead:=(x.1,x.2.1,x.2.2.1,x.2.2.2.1,x.2.2.2.2.1,x.2.2.2.2.2.1,x.2.2.2.2.2.2.1,x.2.2.2.2.2.2.2.1,x.2.2.2.2.2.2.2.2.1,x.2.2.2.2.2.2.2.2.2.1,S.2,S.1,x.2.2.2.2.2.2.2.2.2.2.2.2.1,())
def stV (k:Nat) (lf:TLeaf) (l:List TNode) (a id:Int):TStats×Bool:=
 if 0≤fV k l a id then (spec_l15From k lf l (fV k l a id)).getD (zS,false) else (zS,false)
def NoSt (x:THead):Prop:=x.2.2.2.2.2.2.2.2.2.2.1=false∧x.2.2.2.2.2.2.2.2.2.2.2.1=zS
theorem statistics_eq (lf:TLeaf) (hlf:lfOk lf=true) (a:Nat) (ha:a<l.length) (id:Int) (hid:id>0) (b:Bool) (x:THead) (hx:NoSt x) (o102:THead):
 impl_headReader_statistics k lf id (hdr a b) x (tB l) af=some ((),(hdr a b,setSt x (stV k lf l a id),tB l,af))∧spec_l16Kind.c27 k l id (a:Int) lf x o102=some (setSt x (stV k lf l a id),true):=by
 obtain ⟨f1,f2,f3⟩:=find_val k (by omega) h a ha id
 have hxx:setSt x (zS,false)=x:=by
  obtain ⟨h1,h2⟩:=hx
  obtain ⟨x1,x2,x3,x4,x5,x6,x7,x8,x9,x10,x11,x12,x13,x14⟩:=x
  simp only at h1 h2
  subst h1;subst h2
  rfl
 unfold impl_headReader_statistics spec_l16Kind.c27 spec_l16Kind.c33 stV
 simp only [f1,f2,Option.bind_some,decide_eq_true hid,cond_true]
 rcases f3 with f3|⟨q,f3,q1,q2⟩
 ·rw [f3]
  exact ⟨by rw [if_neg (by decide),hxx];rfl,by rw [if_neg (by decide),hxx];rfl⟩
 ·rw [f3]
  obtain ⟨n,n1,n2,n3⟩:=kd_val k hk h (q:Int) (by omega) (by omega)
  obtain ⟨S,s1,s2,s3⟩:=stats_eq k hk h lf hlf q q2
  rw [if_pos (by omega),s2]
  simp only [decide_eq_true (show (q:Int)≥0 by omega),cond_true,n1,Option.bind_some,s1,csf,Option.getD_some]
  by_cases h12:n.1=12
  ·rw [beqT h12]
   simp only [Bool.true_and,cond_true,s2,Option.bind_some]
   exact ⟨trivial,trivial⟩
  ·rw [beqF h12]
   have:S=(zS,false):=by
    have hm:(nV k l q 3).2=false:=by
     obtain ⟨_,_,_,g4⟩:=num_val k (by omega) h q q2 3
     have:=find_ns k hk h q q2 (by omega) 3
     cases hb:(nV k l q 3).2 with
     |false=>rfl
     |true=>have:=g4 hb;omega
    unfold spec_l15From at s2
    obtain ⟨g1,_⟩:=num_val k (by omega) h q q2 3
    obtain ⟨t5,b5,_,g5,_⟩:=text_eq k (by omega) h q q2 5
    obtain ⟨t6,b6,_,g6,_⟩:=text_eq k (by omega) h q q2 6
    simp only [g1,g5,g6,Option.bind_some,hm,Bool.not_false,cond_true,Option.some.injEq] at s2
    exact s2.symm
   subst this
   simp only [Bool.and_false,cond_false]
   exact ⟨trivial,by rw [hxx]⟩
def tl (k:Nat) (l:List TNode) (a:Int):Bool:=(!(nV k l a 1).2||decide ((nV k l a 1).1<0))||decide ((nV k l a 1).1>2000)
abbrev setM (x:THead) (m:Int):THead:=(x.1,x.2.1,m,x.2.2.2.1,x.2.2.2.2.1,x.2.2.2.2.2.1,x.2.2.2.2.2.2.1,x.2.2.2.2.2.2.2.1,x.2.2.2.2.2.2.2.2.1,x.2.2.2.2.2.2.2.2.2.1,x.2.2.2.2.2.2.2.2.2.2.1,x.2.2.2.2.2.2.2.2.2.2.2.1,x.2.2.2.2.2.2.2.2.2.2.2.2.1,())
theorem c23_eq (a:Nat) (ha:a<l.length) (b:Bool) (x:THead):impl_headReader_own.c23 k (hdr a b) x (tB l) af=some ((),(hdr a (b||tl k l a),setM x (nV k l a 1).1,tB l,af)):=by
 unfold impl_headReader_own.c23 tl
 simp only [hnum k hk h a ha 1 b,Option.bind_some,cst,Bool.or_assoc]
theorem tl_false {a:Int} (hh:tl k l a=false):(nV k l a 1).2=true∧0≤(nV k l a 1).1∧(nV k l a 1).1≤2000:=by
 unfold tl at hh
 simp only [Bool.or_eq_false_iff,Bool.not_eq_false',decide_eq_false_iff_not] at hh
 exact ⟨hh.1.1,by omega,by omega⟩
theorem tl_true {a:Int} (hh:tl k l a=true):(nV k l a 1).2=false∨(decide (0≤(nV k l a 1).1)&&decide ((nV k l a 1).1≤2000))=false:=by
 cases hb:(nV k l a 1).2 with
 |false=>exact .inl rfl
 |true=>
  right
  unfold tl at hh
  rw [hb] at hh
  simp only [Bool.not_true,Bool.false_or,Bool.or_eq_true,decide_eq_true_eq] at hh
  rw [Bool.eq_false_iff]
  simp only [ne_eq,Bool.and_eq_true,decide_eq_true_eq]
  omega
def OwnRes (k:Nat) (l:List TNode) (af:List Int) (lf:TLeaf) (b:Bool) (x:THead):Prop:=
 ∃(a':Int) (c:Bool) (y y':THead),impl_headReader_own k lf (hdr 0 b) x (tB l) af=some ((),(hdr a' (b||c),y,tB l,af))∧spec_l16Kind k lf l x=some (y',!c)∧(y.2.1=x.2.1∧y.2.2.2.2.2.2.2.2.2.2.2.2.1=x.2.2.2.2.2.2.2.2.2.2.2.2.1)∧(c=false→y'=y∧0≤y.2.2.1∧y.2.2.1≤2000)
theorem own2 (lf:TLeaf) (b:Bool) (x:THead) (hkd:x.1=2):OwnRes k l af lf b x:=by
 obtain ⟨q,hq,e1,e2⟩:=enter_eq k hk h 7 b
 obtain ⟨out,g1,g2⟩:=ids_eq k hk h q hq [1,2] (by decide)
 unfold OwnRes impl_headReader_own spec_l16Kind spec_l16Kind.c7 spec_l16Kind.c27 spec_l16Kind.c33
 simp only [hkd,show ((2:Int)==0)=false from rfl,show ((2:Int)==3)=false from rfl,show ((2:Int)==2)=true from rfl,cond_true,cond_false,e1,e2,Option.bind_some,hany k hk h q hq,c23_eq k hk h q hq,l1In_eq,cst,show decide ((0:Int)>0)=false from rfl]
 have gx:∀c:Bool,(((b|| !ptV k l 7)|| !(nV k l q 2).2)||tl k l q)=(b||(!ptV k l 7||(!(nV k l q 2).2||tl k l q))):=fun _=>by simp only [Bool.or_assoc]
 rw [gx true]
 cases hE:ptV k l 7 with
 |false=>
  simp only [Bool.false_eq_true,if_false,show decide ((-1:Int)<0)=true from rfl,cond_true]
  exact ⟨_,_,_,_,rfl,rfl,⟨rfl,rfl⟩,fun hh=>by simp at hh⟩
 |true=>
  simp only [if_true,decide_eq_false (show ¬(q:Int)<0 by omega),cond_false,g1,Option.bind_some,List.all_cons,List.all_nil,Bool.and_true]
  cases h2:(nV k l q 2).2 with
  |false=>
   simp only [Bool.and_false,Bool.not_false,cond_true,Option.bind_some]
   exact ⟨_,_,_,_,rfl,rfl,⟨rfl,rfl⟩,fun hh=>by simp at hh⟩
  |true=>
   cases ht:tl k l q with
   |true=>
    rcases tl_true k hk h ht with h1|h1
    ·simp only [h1,Bool.false_and,Bool.not_false,cond_true,Option.bind_some]
     exact ⟨_,_,_,_,rfl,rfl,⟨rfl,rfl⟩,fun hh=>by simp at hh⟩
    ·cases h1':(nV k l q 1).2 with
     |false=>
      simp only [Bool.false_and,Bool.not_false,cond_true,Option.bind_some]
      exact ⟨_,_,_,_,rfl,rfl,⟨rfl,rfl⟩,fun hh=>by simp at hh⟩
     |true=>
      have g2:=g2 (by simp [h1',h2])
      subst g2
      simp only [List.map_cons,List.map_nil,Bool.and_self,Bool.not_true,cond_false,rdL_zero,List.getElem?_cons_zero,Option.bind_some,h1,Bool.not_false,cond_true]
      exact ⟨_,_,_,_,rfl,rfl,⟨rfl,rfl⟩,fun hh=>by simp at hh⟩
   |false=>
    obtain ⟨h1,t0,t1⟩:=tl_false k hk h ht
    have g2:=g2 (by simp [h1,h2])
    subst g2
    have r1:rdL [(nV k l q 1).1,(nV k l q 2).1] 1=some (nV k l q 2).1:=rfl
    simp only [h1,List.map_cons,List.map_nil,Bool.and_self,Bool.not_true,cond_false,rdL_zero,List.getElem?_cons_zero,Option.bind_some,r1,decide_eq_true t0,decide_eq_true t1]
    exact ⟨_,_,_,_,rfl,rfl,⟨rfl,rfl⟩,fun _=>⟨rfl,t0,t1⟩⟩
theorem own0 (lf:TLeaf) (hlf:lfOk lf=true) (b:Bool) (x:THead) (hkd:x.1=0) (hx:NoSt x):OwnRes k l af lf b x:=by
 obtain ⟨q,hq,e1,e2⟩:=enter_eq k hk h 5 b
 obtain ⟨out,g1,g2⟩:=ids_eq k hk h q hq [1,2,3,4] (by decide)
 have st:=fun (bb:Bool) (m e:Int)=>statistics_eq k hk h lf hlf q hq 5 (by decide) bb ((0,x.2.1,m,e,x.2.2.2.2.1,x.2.2.2.2.2.1,x.2.2.2.2.2.2.1,x.2.2.2.2.2.2.2.1,x.2.2.2.2.2.2.2.2.1,x.2.2.2.2.2.2.2.2.2.1,x.2.2.2.2.2.2.2.2.2.2.1,x.2.2.2.2.2.2.2.2.2.2.2.1,x.2.2.2.2.2.2.2.2.2.2.2.2.1,()):THead) hx zH
 by_cases hc3:(nV k l q 3).1=3∧(nV k l q 4).1=3
 ·obtain ⟨h3,h4⟩:=hc3
  unfold OwnRes impl_headReader_own spec_l16Kind spec_l16Kind.c7 impl_headReader_own.c8
  simp only [hkd,show ((0:Int)==0)=true from rfl,show ((0:Int)==3)=false from rfl,show ((0:Int)==2)=false from rfl,cond_true,cond_false,e1,e2,Option.bind_some,hany k hk h q hq,(st _ _ _).1,c23_eq k hk h q hq,l1In_eq,cst]
  simp only [bneF h3,bneF h4,cond_false]
  rw [show ((((((b|| !ptV k l 5)|| !(nV k l q 2).2)|| !(nV k l q 3).2)|| !(nV k l q 4).2)||tl k l q))=(b||(!ptV k l 5||(!(nV k l q 2).2||(!(nV k l q 3).2||(!(nV k l q 4).2||tl k l q))))) by simp only [Bool.or_assoc]]
  cases hE:ptV k l 5 with
  |false=>
   simp only [Bool.false_eq_true,if_false,show decide ((-1:Int)<0)=true from rfl,cond_true]
   exact ⟨_,_,_,_,rfl,rfl,⟨rfl,rfl⟩,fun hh=>by simp at hh⟩
  |true=>
   simp only [if_true,decide_eq_false (show ¬(q:Int)<0 by omega),cond_false,g1,Option.bind_some,List.all_cons,List.all_nil,Bool.and_true]
   cases n2:(nV k l q 2).2 with
   |false=>
    simp only [Bool.and_false,Bool.false_and,Bool.not_false,cond_true,Option.bind_some]
    exact ⟨_,_,_,_,rfl,rfl,⟨rfl,rfl⟩,fun hh=>by simp at hh⟩
   |true=>
    cases n3:(nV k l q 3).2 with
    |false=>
     simp only [Bool.and_false,Bool.false_and,Bool.not_false,cond_true,Option.bind_some]
     exact ⟨_,_,_,_,rfl,rfl,⟨rfl,rfl⟩,fun hh=>by simp at hh⟩
    |true=>
     cases n4:(nV k l q 4).2 with
     |false=>
      simp only [Bool.and_false,Bool.false_and,Bool.not_false,cond_true,Option.bind_some]
      exact ⟨_,_,_,_,rfl,rfl,⟨rfl,rfl⟩,fun hh=>by simp at hh⟩
     |true=>
      cases n1:(nV k l q 1).2 with
      |false=>
       have ht:tl k l q=true:=by unfold tl;rw [n1];rfl
       rw [ht]
       simp only [Bool.and_false,Bool.false_and,Bool.not_false,cond_true,Option.bind_some]
       exact ⟨_,_,_,_,rfl,rfl,⟨rfl,rfl⟩,fun hh=>by simp at hh⟩
      |true=>
       have g2:=g2 (by simp [n1,n2,n3,n4])
       subst g2
       have r1:∀a b c d:Int,rdL [a,b,c,d] 1=some b:=fun _ _ _ _=>rfl
       have r2:∀a b c d:Int,rdL [a,b,c,d] 2=some c:=fun _ _ _ _=>rfl
       have r3:∀a b c d:Int,rdL [a,b,c,d] 3=some d:=fun _ _ _ _=>rfl
       simp only [List.map_cons,List.map_nil,Bool.and_self,Bool.not_true,cond_false,rdL_zero,List.getElem?_cons_zero,Option.bind_some,r1,r2,r3,bneF h3,bneF h4]
       cases ht:tl k l q with
       |true=>
        rcases tl_true k hk h ht with t|t
        ·rw [n1] at t;cases t
        ·simp only [t,Bool.not_false,cond_true]
         exact ⟨_,_,_,_,rfl,rfl,⟨rfl,rfl⟩,fun hh=>by simp at hh⟩
       |false=>
        obtain ⟨_,t0,t1⟩:=tl_false k hk h ht
        simp only [decide_eq_true t0,decide_eq_true t1,Bool.and_self,Bool.not_true,cond_false]
        exact ⟨_,_,_,_,rfl,(st b _ _).2,⟨rfl,rfl⟩,fun _=>⟨rfl,t0,t1⟩⟩
 ·
   have hI:∃(a':Int) (y:THead),impl_headReader_own k lf (hdr 0 b) x (tB l) af=some ((),(hdr a' true,y,tB l,af))∧(y.2.1=x.2.1∧y.2.2.2.2.2.2.2.2.2.2.2.2.1=x.2.2.2.2.2.2.2.2.2.2.2.2.1):=by
    unfold impl_headReader_own impl_headReader_own.c8
    simp only [hkd,show ((0:Int)==0)=true from rfl,cond_true,e1,Option.bind_some,hany k hk h q hq,(st _ _ _).1,c23_eq k hk h q hq]
    by_cases h3:(nV k l q 3).1=3
    ·have h4:¬(nV k l q 4).1=3:=fun h4=>hc3 ⟨h3,h4⟩
     simp only [bneF h3,bneT h4,cond_false,cond_true,Bool.true_or]
     exact ⟨_,_,rfl,rfl,rfl⟩
    ·simp only [bneT h3,cond_true,Bool.true_or]
     exact ⟨_,_,rfl,rfl,rfl⟩
   have hS:∃y',spec_l16Kind k lf l x=some (y',false):=by
    unfold spec_l16Kind spec_l16Kind.c7
    simp only [hkd,show ((0:Int)==0)=true from rfl,show ((0:Int)==3)=false from rfl,show ((0:Int)==2)=false from rfl,cond_true,cond_false,e2,Option.bind_some,l1In_eq,cst]
    cases ptV k l 5 with
    |false=>
     simp only [Bool.false_eq_true,if_false,show decide ((-1:Int)<0)=true from rfl,cond_true]
     exact ⟨_,rfl⟩
    |true=>
     simp only [if_true,decide_eq_false (show ¬(q:Int)<0 by omega),cond_false,g1,Option.bind_some]
     cases hal:([1,2,3,4].all fun id=>(nV k l (q:Int) id).2) with
     |false=>
      simp only [Bool.not_false,cond_true,Option.bind_some]
      exact ⟨_,rfl⟩
     |true=>
      have g2:=g2 hal
      subst g2
      have r1:∀a b c d:Int,rdL [a,b,c,d] 1=some b:=fun _ _ _ _=>rfl
      have r2:∀a b c d:Int,rdL [a,b,c,d] 2=some c:=fun _ _ _ _=>rfl
      have r3:∀a b c d:Int,rdL [a,b,c,d] 3=some d:=fun _ _ _ _=>rfl
      simp only [List.map_cons,List.map_nil,Bool.not_true,cond_false,rdL_zero,List.getElem?_cons_zero,Option.bind_some,r1,r2,r3]
      cases (decide (0≤(nV k l (q:Int) 1).1)&&decide ((nV k l (q:Int) 1).1≤2000)) with
      |false=>exact ⟨_,rfl⟩
      |true=>
       by_cases h3:(nV k l q 3).1=3
       ·have h4:¬(nV k l q 4).1=3:=fun h4=>hc3 ⟨h3,h4⟩
        simp only [bneF h3,bneT h4,cond_false,Option.bind_some,cond_true,Bool.not_true,Bool.or_true,Bool.false_or]
        exact ⟨_,rfl⟩
       ·simp only [bneT h3,Option.bind_some,cond_true,Bool.not_true,cond_false,Bool.true_or]
        exact ⟨_,rfl⟩
   obtain ⟨a',y,i1,i2⟩:=hI
   obtain ⟨y',s1⟩:=hS
   exact ⟨a',true,y,y',by rw [i1,Bool.or_true],s1,i2,nofun⟩
theorem own3 (lf:TLeaf) (hlf:lfOk lf=true) (b:Bool) (x:THead) (hkd:x.1=3) (hx:NoSt x):OwnRes k l af lf b x:=by
 obtain ⟨q,hq,e1,e2⟩:=enter_eq k hk h 8 b
 obtain ⟨out,g1,g2⟩:=ids_eq k hk h q hq [1,4,2,3,5,6] (by decide)
 have st:=fun (bb:Bool) (m e r n d p:Int)=>statistics_eq k hk h lf hlf q hq 8 (by decide) bb ((3,x.2.1,m,e,r,n,d,p,x.2.2.2.2.2.2.2.2.1,x.2.2.2.2.2.2.2.2.2.1,x.2.2.2.2.2.2.2.2.2.2.1,x.2.2.2.2.2.2.2.2.2.2.2.1,x.2.2.2.2.2.2.2.2.2.2.2.2.1,()):THead) hx zH
 obtain ⟨f1,f2,f3⟩:=find_val k (by omega) h q hq 7
 have hmk:∃c7:Bool,(bif decide (fV k l q 7<0) then some true else (rdL l (fV k l q 7)).bind fun y=>some (y.1==1))=some c7:=by
  rcases f3 with f3|⟨p,f3,p1,p2⟩
  ·rw [f3];exact ⟨_,rfl⟩
  ·rw [f3,decide_eq_false (show ¬(p:Int)<0 by omega),cond_false]
   obtain ⟨n,n1,_⟩:=kd_val k hk h (p:Int) (by omega) (by omega)
   rw [n1];exact ⟨_,rfl⟩
 obtain ⟨c7,hc7⟩:=hmk
 have hI:∃(a':Int),impl_headReader_own k lf (hdr 0 b) x (tB l) af=some ((),(hdr a' (b||(!ptV k l 8||((!(nV k l q 2).2||decide ((nV k l q 2).1<0))||((!(nV k l q 3).2||decide ((nV k l q 3).1<0))||(!(nV k l q 4).2||((!(nV k l q 5).2||decide ((nV k l q 5).1<0))||((!(nV k l q 6).2||decide ((nV k l q 6).1<0))||(c7||tl k l q)))))))),
  setM (setSt (3,x.2.1,0,(nV k l q 4).1,(nV k l q 3).1,(nV k l q 2).1,(nV k l q 5).1,(nV k l q 6).1,x.2.2.2.2.2.2.2.2.1,x.2.2.2.2.2.2.2.2.2.1,false,zS,x.2.2.2.2.2.2.2.2.2.2.2.2.1,()) (stV k lf l q 8)) (nV k l q 1).1,tB l,af)):=by
  unfold impl_headReader_own impl_headReader_own.c19
  simp only [hkd,show ((3:Int)==0)=false from rfl,show ((3:Int)==3)=true from rfl,cond_true,cond_false,e1,Option.bind_some,hany k hk h q hq,hnum k hk h q hq,f2,hc7,(st _ _ _ _ _ _ _).1,c23_eq k hk h q hq]
  refine ⟨q,?_⟩
  cases c7 with
  |true=>simp only [cond_true,Bool.true_or,Bool.or_true]
  |false=>simp only [cond_false,Bool.false_or,Bool.or_assoc]
 obtain ⟨a',hI⟩:=hI
 generalize hYd:setM (setSt (3,x.2.1,0,(nV k l q 4).1,(nV k l q 3).1,(nV k l q 2).1,(nV k l q 5).1,(nV k l q 6).1,x.2.2.2.2.2.2.2.2.1,x.2.2.2.2.2.2.2.2.2.1,false,zS,x.2.2.2.2.2.2.2.2.2.2.2.2.1,()) (stV k lf l q 8)) (nV k l q 1).1=Y at hI
 have hy2:Y.2.1=x.2.1∧Y.2.2.2.2.2.2.2.2.2.2.2.2.1=x.2.2.2.2.2.2.2.2.2.2.2.2.1:=by rw [←hYd];exact ⟨rfl,rfl⟩
 unfold OwnRes
 rw [hI]
 unfold spec_l16Kind spec_l16Kind.c7
 simp only [hkd,show ((3:Int)==0)=false from rfl,show ((3:Int)==3)=true from rfl,show ((3:Int)==2)=false from rfl,cond_true,cond_false,e2,Option.bind_some,l1In_eq,cst,f1]
 cases hE:ptV k l 8 with
 |false=>
  simp only [Bool.false_eq_true,if_false,show decide ((-1:Int)<0)=true from rfl,cond_true]
  exact ⟨a',_,Y,_,rfl,rfl,hy2,fun hh=>by simp at hh⟩
 |true=>
  simp only [if_true,decide_eq_false (show ¬(q:Int)<0 by omega),cond_false,g1,Option.bind_some]
  cases hal:([1,4,2,3,5,6].all fun id=>(nV k l (q:Int) id).2) with
  |false=>
   simp only [Bool.not_false,cond_true,Option.bind_some]
   refine ⟨a',true,Y,_,?_,rfl,hy2,nofun⟩
   have:(!true||((!(nV k l q 2).2||decide ((nV k l q 2).1<0))||((!(nV k l q 3).2||decide ((nV k l q 3).1<0))||(!(nV k l q 4).2||((!(nV k l q 5).2||decide ((nV k l q 5).1<0))||((!(nV k l q 6).2||decide ((nV k l q 6).1<0))||(c7||tl k l q)))))))=true:=by
    unfold tl
    simp only [List.all_cons,List.all_nil,Bool.and_true] at hal
    revert hal
    cases (nV k l q 1).2<;>cases (nV k l q 2).2<;>cases (nV k l q 3).2<;>cases (nV k l q 4).2<;>cases (nV k l q 5).2<;>cases (nV k l q 6).2<;>simp
   rw [this]
  |true=>
   have g2:=g2 hal
   subst g2
   simp only [List.all_cons,List.all_nil,Bool.and_true,Bool.and_eq_true] at hal
   obtain ⟨n1,n4,n2,n3,n5,n6⟩:=hal
   have r1:∀a b c d e f:Int,rdL [a,b,c,d,e,f] 1=some b:=fun _ _ _ _ _ _=>rfl
   have r2:∀a b c d e f:Int,rdL [a,b,c,d,e,f] 2=some c:=fun _ _ _ _ _ _=>rfl
   have r3:∀a b c d e f:Int,rdL [a,b,c,d,e,f] 3=some d:=fun _ _ _ _ _ _=>rfl
   have r4:∀a b c d e f:Int,rdL [a,b,c,d,e,f] 4=some e:=fun _ _ _ _ _ _=>rfl
   have r5:∀a b c d e f:Int,rdL [a,b,c,d,e,f] 5=some f:=fun _ _ _ _ _ _=>rfl
   have hsum:∀y:Bool,(bif y then some true else (bif decide (fV k l q 7<0) then some true else (rdL l (fV k l q 7)).bind fun y=>some (y.1==1)))=some (y||c7):=by
    intro y
    rw [hc7]
    cases y<;>rfl
   have hsum2:∀y:Bool,(bif y||decide (fV k l q 7<0) then some true else (rdL l (fV k l q 7)).bind fun y=>some (y.1==1))=some (y||c7):=by
    intro y
    cases y with
    |true=>rfl
    |false=>rw [Bool.false_or,hc7,Bool.false_or]
   simp only [List.map_cons,List.map_nil,Bool.not_true,cond_false,rdL_zero,List.getElem?_cons_zero,Option.bind_some,r1,r2,r3,r4,r5,n1,n2,n3,n4,n5,n6,Bool.false_or,f1,hsum2]
   cases ht:tl k l q with
   |true=>
    rcases tl_true k hk h ht with t|t
    ·rw [n1] at t;cases t
    ·simp only [t,Bool.not_false,cond_true]
     refine ⟨a',true,Y,_,by simp only [Bool.or_true],rfl,hy2,nofun⟩
   |false=>
    obtain ⟨_,t0,t1⟩:=tl_false k hk h ht
    simp only [decide_eq_true t0,decide_eq_true t1,Bool.and_self,Bool.not_true,cond_false]
    cases hbad:(((((decide ((nV k l q 2).1<0)||decide ((nV k l q 3).1<0))||decide ((nV k l q 5).1<0))||decide ((nV k l q 6).1<0)))||c7) with
    |true=>
     simp only [cond_true]
     refine ⟨a',true,Y,_,?_,rfl,hy2,nofun⟩
     have:(decide ((nV k l q 2).1<0)||(decide ((nV k l q 3).1<0)||(decide ((nV k l q 5).1<0)||(decide ((nV k l q 6).1<0)||(c7||false)))))=true:=by
      simpa only [Bool.or_assoc,Bool.or_false] using hbad
     rw [this]
    |false=>
     simp only [cond_false]
     have:(decide ((nV k l q 2).1<0)||(decide ((nV k l q 3).1<0)||(decide ((nV k l q 5).1<0)||(decide ((nV k l q 6).1<0)||(c7||false)))))=false:=by
      simpa only [Bool.or_assoc,Bool.or_false] using hbad
     refine ⟨a',false,Y,_,by rw [this],(st b _ _ _ _ _ _).2,hy2,fun _=>⟨?_,?_⟩⟩
     ·rw [←hYd,hx.1,hx.2]
     ·rw [←hYd];exact ⟨t0,t1⟩
theorem part_val (id kind:Int):(fV k l 0 id= -1∧impl_tree_part k 0 id kind (true,tB l) af=some ((zN,false),(tB l,af)))∨
 ∃n:TNode,0≤fV k l 0 id∧rdL l (fV k l 0 id)=some n∧nok n=true∧impl_tree_part k 0 id kind (true,tB l) af=some ((if n.1=kind then n else zN,n.1==kind),(tB l,af)):=by
 obtain ⟨f1,f2,f3⟩:=find_val k (by omega) h 0 h.pos id
 rw [show ((0:Nat):Int)=0 from rfl] at f1 f2 f3
 unfold impl_tree_part
 simp only [f2,Option.bind_some]
 rcases f3 with f3|⟨q,f3,q1,q2⟩
 ·left
  rw [f3]
  exact ⟨rfl,rfl⟩
 ·right
  obtain ⟨n,n1,_,n2⟩:=kd_val k hk h (q:Int) (by omega) (by omega)
  rw [f3]
  refine ⟨n,by omega,n1,n2,?_⟩
  simp only [decide_eq_false (show ¬(q:Int)<0 by omega),cond_false,n1,Option.bind_some]
  by_cases hkd:n.1=kind
  ·rw [bneF hkd,beqT hkd,if_pos hkd];rfl
  ·rw [bneT hkd,beqF hkd,if_neg hkd];rfl
theorem own_res (lf:TLeaf) (hlf:lfOk lf=true) (b:Bool) (x:THead) (hkd:x.1=0∨x.1=2∨x.1=3) (hx:NoSt x):OwnRes k l af lf b x:=by
 rcases hkd with hkd|hkd|hkd
 ·exact own0 k hk h lf hlf b x hkd hx
 ·exact own2 k hk h lf b x hkd
 ·exact own3 k hk h lf hlf b x hkd hx
theorem own_bad (lf:TLeaf) (b:Bool) (x:THead) (hkd:¬(x.1=0∨x.1=2∨x.1=3)):∃a' y,impl_headReader_own k lf (hdr 0 b) x (tB l) af=some ((),(hdr a' true,y,tB l,af)):=by
 unfold impl_headReader_own
 simp only [beqF (show ¬x.1=0 from fun h=>hkd (.inl h)),beqF (show ¬x.1=3 from fun h=>hkd (.inr (.inr h))),beqF (show ¬x.1=2 from fun h=>hkd (.inr (.inl h))),cond_false]
 have:=c23_eq k hk h 0 h.pos true x
 rw [show ((0:Nat):Int)=0 from rfl,Bool.true_or] at this
 exact ⟨_,_,this⟩
abbrev hd0 (v1 v2:Int) (c:Bool) (w q:Int):THead:=(v1,v2,0,0,0,0,0,0,c,w,false,zS,q,())
def finI (k:Nat) (l:List TNode) (af:List Int) (lf:TLeaf) (b:List Int) (q:Int) (bad:Bool) (x:THead):Option (THead×Int):=
 (impl_headReader_own k lf (hdr 0 bad) x (tB l) af).bind fun r1=>cond r1.2.1.2.2.1 (some (zH,1)) (cond (decide (r1.2.2.1.2.1>(IntKind.wrap .i64 ((List.length b:Int)-q)))) (some (zH,2)) (some (r1.2.2.1,0)))
theorem finI_true (lf:TLeaf) (hlf:lfOk lf=true) (b:List Int) (q v1 v2 w p:Int) (c:Bool):finI k l af lf b q true (hd0 v1 v2 c w p)=some (zH,1):=by
 unfold finI
 by_cases hkd:v1=0∨v1=2∨v1=3
 ·obtain ⟨a',cc,y,y',e1,_⟩:=own_res k hk h lf hlf true (hd0 v1 v2 c w p) hkd ⟨rfl,rfl⟩
  rw [e1]
  rfl
 ·obtain ⟨a',y,e1⟩:=own_bad k hk h lf true (hd0 v1 v2 c w p) hkd
  rw [e1]
  rfl
theorem finI_kind (lf:TLeaf) (b:List Int) (q v1 v2 w p:Int) (c bad:Bool) (hkd:¬(v1=0∨v1=2∨v1=3)):finI k l af lf b q bad (hd0 v1 v2 c w p)=some (zH,1):=by
 unfold finI
 obtain ⟨a',y,e1⟩:=own_bad k hk h lf bad (hd0 v1 v2 c w p) hkd
 rw [e1]
 rfl
theorem finI_good (lf:TLeaf) (hlf:lfOk lf=true) (b:List Int) (q v1 v2 w p:Int) (c:Bool) (hkd:v1=0∨v1=2∨v1=3):
 ∃r,finI k l af lf b q false (hd0 v1 v2 c w p)=some r∧spec_HeadRead.c17 k b q lf zH zH l (hd0 v1 v2 c w p)=some r∧(r.2=0→(r.1.2.1=v2∧r.1.2.2.2.2.2.2.2.2.2.2.2.2.1=p)∧(0≤r.1.2.2.1∧r.1.2.2.1≤2000)∧r.1.2.1≤IntKind.wrap .i64 ((b.length:Int)-q))∧(r.2=0∨r.2=1∨r.2=2):=by
 unfold finI spec_HeadRead.c17
 obtain ⟨a',cc,y,y',e1,e2,e3,e4⟩:=own_res k hk h lf hlf false (hd0 v1 v2 c w p) hkd ⟨rfl,rfl⟩
 rw [e1,e2]
 cases cc with
 |true=>exact ⟨_,rfl,rfl,(fun hh=>by cases hh),.inr (.inl rfl)⟩
 |false=>
  obtain ⟨e4,e5⟩:=e4 rfl
  subst e4
  simp only [Option.bind_some,Bool.or_self,cond_false,Bool.not_false,Bool.not_true]
  by_cases hs:y'.2.1>IntKind.wrap .i64 ((b.length:Int)-q)
  ·rw [decide_eq_true hs]
   exact ⟨_,rfl,rfl,(fun hh=>by cases hh),.inr (.inr rfl)⟩
  ·rw [decide_eq_false hs]
   exact ⟨_,rfl,rfl,fun _=>⟨e3,e5,Int.not_lt.1 hs⟩,.inl rfl⟩
theorem crc_and {x:Int} (h0: -2147483648≤x) (h1:x≤2147483647):bits .and .i64 x 4294967295=if x<0 then IntKind.wrap .i64 (x+4294967296) else x:=by
 have:=and_mask_i64 x 32 (by decide)
 have e:(2:Int)^32-1=4294967295:=by decide
 rw [e] at this
 rw [this]
 have e2:(2:Int)^32=4294967296:=by decide
 rw [e2]
 split
 ·rw [w64 (by omega) (by omega)];omega
 ·omega
theorem head_eq (lf:TLeaf) (hlf:lfOk lf=true) (b:List Int) (q:Int):
 ∃r,((impl_headReader_any k 1 (hdr 0 false) (true,tB l) af).bind fun r15=>(impl_headReader_num k 2 0 r15.2.1 r15.2.2.1 r15.2.2.2).bind fun r16=>
  impl_HeadRead.d9 k b q lf zH r16.2.2.1 r16.2.1 (r15.1,r16.1,0,0,0,0,0,0,false,0,false,zS,q,()) r16.2.2.2)=some r∧
 ((spec_l16Ids k l 0 [1,2,3]).bind fun r5=>
  (cond (!r5.1.2) (some (true)) ((rdL r5.2 0).bind fun y6=>
   (cond (y6 !=0) ((rdL r5.2 0).bind fun y7=>some (y7 !=2)) (some (false))).bind fun b8=>
   (cond b8 ((rdL r5.2 0).bind fun y9=>some (y9 !=3)) (some (false))).bind fun b10=>some (b10))).bind fun b11=>
  (cond b11 (some (true)) ((rdL r5.2 1).bind fun y12=>some (decide (y12<0)))).bind fun b13=>
  (cond b13 (some (true)) ((rdL r5.2 1).bind fun y14=>(rdL r5.2 2).bind fun y15=>some (y14 !=y15))).bind fun b16=>
  cond b16
   (some (zH,1))
   ((rdL r5.2 0).bind fun y17=>
    (rdL r5.2 1).bind fun y18=>
    (spec_l4Find k l 0 4).bind fun r19=>
    cond (decide (r19≥0))
     ((rdL l r19).bind fun y20=>
      cond (y20.1 !=5)
       (some (zH,1))
       ((rdL l r19).bind fun y21=>
        cond (decide (y21.2.2.1<0))
         (spec_HeadRead.c17 k b q lf zH zH l (y17,y18,0,0,0,0,0,0,true,IntKind.wrap .i64 (y21.2.2.1+4294967296),false,zS,q,()))
         (spec_HeadRead.c17 k b q lf zH zH l (y17,y18,0,0,0,0,0,0,true,y21.2.2.1,false,zS,q,()))))
     (spec_HeadRead.c17 k b q lf zH zH l (y17,y18,0,0,0,0,0,0,false,0,false,zS,q,()))))=some r∧
 (r.2=0→(0≤r.1.2.1∧r.1.2.2.2.2.2.2.2.2.2.2.2.2.1=q)∧(0≤r.1.2.2.1∧r.1.2.2.1≤2000)∧r.1.2.1≤IntKind.wrap .i64 ((b.length:Int)-q))∧(r.2=0∨r.2=1∨r.2=2):=by
 have hpos:=h.pos
 have z:((0:Nat):Int)=0:=rfl
 have a1:=hany k hk h 0 hpos 1 false
 have a2:=fun bb=>hnum k hk h 0 hpos 2 bb
 have a3:=fun bb=>hany k hk h 0 hpos 3 bb
 obtain ⟨f1,f2,f3⟩:=find_val k (by omega) h 0 hpos 4
 obtain ⟨out,g1,g2⟩:=ids_eq k hk h 0 hpos [1,2,3] (by decide)
 rw [z] at a1 f1 f2 f3 g1 g2
 simp only [z] at a2 a3
 have hcrc:∃(cb ch:Bool) (cw:Int),(∀bb v1 v2,impl_HeadRead.c11 k b q lf zH (tB l) (hdr 0 bb) (v1,v2,0,0,0,0,0,0,false,0,false,zS,q,()) af=finI k l af lf b q (bb||cb) (hd0 v1 v2 ch cw q))∧
  ∀v1 v2,((spec_l4Find k l 0 4).bind fun r19=>cond (decide (r19≥0)) ((rdL l r19).bind fun y20=>cond (y20.1 !=5) (some (zH,1)) ((rdL l r19).bind fun y21=>
   cond (decide (y21.2.2.1<0))
    (spec_HeadRead.c17 k b q lf zH zH l (v1,v2,0,0,0,0,0,0,true,IntKind.wrap .i64 (y21.2.2.1+4294967296),false,zS,q,()))
    (spec_HeadRead.c17 k b q lf zH zH l (v1,v2,0,0,0,0,0,0,true,y21.2.2.1,false,zS,q,()))))
   (spec_HeadRead.c17 k b q lf zH zH l (v1,v2,0,0,0,0,0,0,false,0,false,zS,q,())))=cond cb (some (zH,1)) (spec_HeadRead.c17 k b q lf zH zH l (hd0 v1 v2 ch cw q)):=by
  unfold impl_HeadRead.c11 impl_HeadRead.c14 impl_HeadRead.d14 finI
  simp only [f1,f2,Option.bind_some]
  rcases part_val k hk h 4 5 with ⟨p1,p2⟩|⟨n,p1,p2,p3,p4⟩
  ·simp only [p1,p2,f2,Option.bind_some,show decide ((-1:Int)≥0)=false from rfl,cond_false]
   refine ⟨false,false,0,fun bb v1 v2=> ?_,fun v1 v2=>rfl⟩
   rw [Bool.or_false]
   rfl
  ·simp only [p2,p4,f2,Option.bind_some,decide_eq_true (show fV k l 0 4≥0 from p1),cond_true]
   by_cases h5:n.1=5
   ·have hnum: -2147483648≤n.2.2.1∧n.2.2.1≤2147483647:=by
     unfold nok at p3
     rw [if_pos h5] at p3
     simp only [Bool.and_eq_true,decide_eq_true_eq] at p3
     exact p3.1.1
    rw [beqT h5,bneF h5,if_pos h5]
    refine ⟨false,true,bits .and .i64 n.2.2.1 4294967295,fun bb v1 v2=> ?_,fun v1 v2=> ?_⟩
    ·simp only [Bool.not_true,Option.bind_some,cond_false,Bool.or_false]
    ·simp only [cond_false]
     rw [crc_and k hk h hnum.1 hnum.2]
     by_cases hneg:n.2.2.1<0
     ·rw [decide_eq_true hneg,if_pos hneg,cond_true]
     ·rw [decide_eq_false hneg,if_neg hneg,cond_false]
   ·rw [beqF h5,bneT h5,if_neg h5]
    refine ⟨true,false,bits .and .i64 0 4294967295,fun bb v1 v2=> ?_,fun v1 v2=>rfl⟩
    simp only [Bool.not_false,Option.bind_some,cond_true,Bool.or_true]
 obtain ⟨cb,ch,cw,c1,c2⟩:=hcrc
 simp only [a1,a2,Option.bind_some,impl_HeadRead.d9,a3,c1,g1,c2]
 have hfl:∀(B C:Bool),(cond B (finI k l af lf b q (true||cb) (hd0 (nV k l 0 1).1 (nV k l 0 2).1 ch cw q)) (finI k l af lf b q (C||cb) (hd0 (nV k l 0 1).1 (nV k l 0 2).1 ch cw q)))=finI k l af lf b q ((C||B)||cb) (hd0 (nV k l 0 1).1 (nV k l 0 2).1 ch cw q):=by
  intro B C
  cases B<;>cases C<;>rfl
 rw [hfl]
 by_cases good:((nV k l 0 1).2=true∧(nV k l 0 2).2=true∧(nV k l 0 3).2=true)∧((nV k l 0 1).1=0∨(nV k l 0 1).1=2∨(nV k l 0 1).1=3)∧0≤(nV k l 0 2).1∧(nV k l 0 2).1=(nV k l 0 3).1
 ·obtain ⟨⟨n1,n2,n3⟩,hkd,hs0,hs1⟩:=good
  have hal:([1,2,3].all fun id=>(nV k l 0 id).2)=true:=by simp [n1,n2,n3]
  have g2:=g2 hal
  subst g2
  rw [hal]
  have r1:∀a b c:Int,rdL [a,b,c] 1=some b:=fun _ _ _=>rfl
  have r2:∀a b c:Int,rdL [a,b,c] 2=some c:=fun _ _ _=>rfl
  have hk3:((bif (nV k l 0 1).1 !=0 then (some ((nV k l 0 1).1 !=2):Option Bool) else some false).bind fun b8=>(bif b8 then (some ((nV k l 0 1).1 !=3):Option Bool) else some false).bind fun b10=>some b10)=some false:=by
   rcases hkd with e|e|e<;>rw [e]<;>rfl
  simp only [List.map_cons,List.map_nil,Bool.not_true,cond_false,rdL_zero,List.getElem?_cons_zero,Option.bind_some,r1,r2,hk3,n1,n2,n3,decide_eq_false (show ¬(nV k l 0 2).1<0 by omega),bneF hs1,bneF hs1.symm,Bool.or_self,Bool.false_or]
  cases cb with
  |true=>exact ⟨_,finI_true k hk h lf hlf b q _ _ _ _ _,rfl,(fun hh=>by cases hh),.inr (.inl rfl)⟩
  |false=>
   obtain ⟨r,e1,e2,e3,e9⟩:=finI_good k hk h lf hlf b q (nV k l 0 1).1 (nV k l 0 2).1 cw q ch hkd
   exact ⟨r,e1,e2,(fun hh=>by obtain ⟨⟨x1,x2⟩,x3,x4⟩:=e3 hh;exact ⟨⟨by omega,x2⟩,x3,x4⟩),e9⟩
 ·refine ⟨(zH,1),?_,?_,(fun hh=>by cases hh),.inr (.inl rfl)⟩
  ·by_cases hkd:(nV k l 0 1).1=0∨(nV k l 0 1).1=2∨(nV k l 0 1).1=3
   ·have:((((((false|| !(nV k l 0 1).2)||(!(nV k l 0 2).2||decide ((nV k l 0 2).1<0)))|| !(nV k l 0 3).2)||((nV k l 0 3).1 !=(nV k l 0 2).1))||cb))=true:=by
     cases n1:(nV k l 0 1).2 with
     |false=>simp
     |true=>
      cases n2:(nV k l 0 2).2 with
      |false=>simp
      |true=>
       cases n3:(nV k l 0 3).2 with
       |false=>simp
       |true=>
        by_cases hs:(nV k l 0 2).1<0
        ·rw [decide_eq_true hs];simp
        ·have:¬(nV k l 0 3).1=(nV k l 0 2).1:=fun e=>good ⟨⟨n1,n2,n3⟩,hkd,by omega,e.symm⟩
         rw [bneT this];simp
    rw [this]
    exact finI_true k hk h lf hlf b q _ _ _ _ _
   ·exact finI_kind k hk h lf b q _ _ _ _ _ _ hkd
  ·cases hal:([1,2,3].all fun id=>(nV k l 0 id).2) with
   |false=>rfl
   |true=>
    have g2:=g2 hal
    subst g2
    simp only [List.all_cons,List.all_nil,Bool.and_true,Bool.and_eq_true] at hal
    obtain ⟨n1,n2,n3⟩:=hal
    have r1:∀a b c:Int,rdL [a,b,c] 1=some b:=fun _ _ _=>rfl
    have r2:∀a b c:Int,rdL [a,b,c] 2=some c:=fun _ _ _=>rfl
    simp only [List.map_cons,List.map_nil,Bool.not_true,cond_false,rdL_zero,List.getElem?_cons_zero,Option.bind_some,r1,r2]
    by_cases hkd:(nV k l 0 1).1=0∨(nV k l 0 1).1=2∨(nV k l 0 1).1=3
    ·have hk3:((bif (nV k l 0 1).1 !=0 then (some ((nV k l 0 1).1 !=2):Option Bool) else some false).bind fun b8=>(bif b8 then (some ((nV k l 0 1).1 !=3):Option Bool) else some false).bind fun b10=>some b10)=some false:=by
      rcases hkd with e|e|e<;>rw [e]<;>rfl
     rw [hk3]
     simp only [Option.bind_some,cond_false]
     by_cases hs:(nV k l 0 2).1<0
     ·rw [decide_eq_true hs];rfl
     ·have:¬(nV k l 0 2).1=(nV k l 0 3).1:=fun e=>good ⟨⟨n1,n2,n3⟩,hkd,by omega,e⟩
      rw [decide_eq_false hs,bneT this];rfl
    ·have hk3:((bif (nV k l 0 1).1 !=0 then (some ((nV k l 0 1).1 !=2):Option Bool) else some false).bind fun b8=>(bif b8 then (some ((nV k l 0 1).1 !=3):Option Bool) else some false).bind fun b10=>some b10)=some true:=by
      rw [bneT (fun e=>hkd (.inl e)),bneT (fun e=>hkd (.inr (.inl e))),bneT (fun e=>hkd (.inr (.inr e)))]
      rfl
     rw [hk3]
     rfl
end
theorem headRead_eq (k:Nat) (hk:2000000≤k) (lf:TLeaf) (b:List Int) (hl:b.length<4611686018427387904) (hb:Byt b) (at_:Int):
 ∃r,impl_HeadRead k lf b at_=some r∧spec_HeadRead k lf b at_=some r∧
  (r.2=0→lfOk lf=true∧0≤r.1.2.1∧0≤r.1.2.2.2.2.2.2.2.2.2.2.2.2.1∧r.1.2.2.2.2.2.2.2.2.2.2.2.2.1+r.1.2.1≤(b.length:Int)∧0≤r.1.2.2.1∧r.1.2.2.1≤2000∧0≤at_∧at_<r.1.2.2.2.2.2.2.2.2.2.2.2.2.1)∧(r.2=0∨r.2=1∨r.2=2):=by
 have hr:=treeRead_eq k (by omega) b hl hb at_
 unfold impl_HeadRead spec_HeadRead
 cases ht:trd b at_ with
 |bad c=>
  rw [ht] at hr
  obtain ⟨hc,e1,e2⟩:=hr
  have hto:∃x,impl_treeOf k []=some x:=by
   obtain ⟨_,_,h2⟩:=treeOf_eq k (by omega) [] (fun n hn=>by cases hn) (by simp)
   rcases h2 with ⟨_,x,hx⟩|⟨_,_,h1,_⟩
   ·exact ⟨_,hx⟩
   ·simp at h1
  obtain ⟨x,hx⟩:=hto
  simp only [e1,e2,hx,Option.bind_some,(lfOk_eq k lf).1,(lfOk_eq k lf).2,cst,bneT hc,Bool.or_true,Bool.true_or,cond_true]
  exact ⟨(zH,1),rfl,rfl,(fun hh=>by cases hh),.inr (.inl rfl)⟩
 |ok q Y=>
  rw [ht] at hr
  obtain ⟨e1,e2⟩:=hr
  have g:=trd_ok hl hb ht
  have hok:=read_tree k (by omega) g
  obtain ⟨bb,h1,h2⟩:=treeOf_eq k (by omega) Y g.wf (by have:=g.len;omega)
  rw [hok] at h1
  rcases h2 with ⟨rfl,_⟩|⟨_,hl1,hl2,af,hx,hSb,_⟩
  ·cases h1
  have h:TreeFacts Y af:=⟨hl1,hl2,hSb,g.wf⟩
  simp only [e1,e2,hx,Option.bind_some,(lfOk_eq k lf).1,(lfOk_eq k lf).2,cst,bneF rfl,Bool.or_false,Bool.not_true]
  cases hlf:lfOk lf with
  |false=>
   simp only [Bool.not_false,cond_true]
   exact ⟨(zH,1),rfl,rfl,(fun hh=>by cases hh),.inr (.inl rfl)⟩
  |true=>
   simp only [Bool.not_true,cond_false]
   obtain ⟨r,r1,r2,r3,r4⟩:=head_eq k hk h lf hlf b (q:Int)
   refine ⟨r,r1,r2,fun hh=> ?_,r4⟩
   obtain ⟨⟨x1,x2⟩,x3,x4⟩:=r3 hh
   have:=g.rng
   rw [w64 (by omega) (by omega)] at x4
   exact ⟨trivial,x1,by omega,by omega,x3.1,x3.2,by omega,by omega⟩
end Go.Law
end
section
set_option linter.unusedVariables false
set_option linter.unusedSimpArgs false
namespace Go.Law
open Go.Am Go.Fn
abbrev bodyOf' (h:THead):Int:=h.2.2.2.2.2.2.2.2.2.2.2.2.1
theorem checked_eq (k:Nat) (hk:2000000≤k) (lf:TLeaf) (b:List Int) (hl:b.length≤1048576) (hb:Byt b) (at_:Int):
 ∃(h:THead) (c:Int),impl_HeadRead k lf b at_=some (h,c)∧spec_HeadRead k lf b at_=some (h,c)∧
  ((c≠0∧c≠3∧impl_checked k lf b at_=some (h,[],c))∨
   (c=0∧lfOk lf=true∧0≤bodyOf' h∧0≤h.2.1∧bodyOf' h+h.2.1≤(b.length:Int)∧0≤h.2.2.1∧h.2.2.1≤2000∧
    ∃r:Int,spec_CrcOf k (cutL b (bodyOf' h) (bodyOf' h+h.2.1))=some r∧
     impl_checked k lf b at_=some (if h.2.2.2.2.2.2.2.2.1=true∧r≠h.2.2.2.2.2.2.2.2.2.1 then (h,[],3) else (h,cutL b (bodyOf' h) (bodyOf' h+h.2.1),0)))):=by
 obtain ⟨⟨h,c⟩,e1,e2,e3,e4⟩:=headRead_eq k hk lf b (by omega) hb at_
 refine ⟨h,c,e1,e2,?_⟩
 by_cases hc:c=0
 ·subst hc
  obtain ⟨f1,f2,f3,f4,f5,f6,_⟩:=e3 rfl
  right
  have f2:0≤h.2.1:=f2
  have f3:0≤bodyOf' h:=f3
  have f4:bodyOf' h+h.2.1≤(b.length:Int):=f4
  have ew:IntKind.wrap .i64 (bodyOf' h+h.2.1)=bodyOf' h+h.2.1:=w64 (by omega) (by omega)
  have hcb:Byt (cutL b (bodyOf' h) (bodyOf' h+h.2.1)):=fun x hx=>by
   unfold cutL at hx
   exact hb x (List.mem_of_mem_take (List.mem_of_mem_drop hx))
  have hcl:(cutL b (bodyOf' h) (bodyOf' h+h.2.1)).length≤1048576:=by
   unfold cutL
   rw [List.length_drop,List.length_take]
   omega
  obtain ⟨r,r1,r2⟩:=crcOf_eq k (by omega) _ (show (cutL b (bodyOf' h) (bodyOf' h+h.2.1)).length<1000000000 by omega) (by omega) hcb
  refine ⟨rfl,f1,f3,f2,f4,f5,f6,r,r2,?_⟩
  unfold impl_checked impl_checked.d5
  simp only [e1,Option.bind_some,bneF rfl,cond_false]
  have ew:IntKind.wrap .i64 (h.2.2.2.2.2.2.2.2.2.2.2.2.1+h.2.1)=h.2.2.2.2.2.2.2.2.2.2.2.2.1+h.2.1:=ew
  have r1:impl_CrcOf k (cutL b h.2.2.2.2.2.2.2.2.2.2.2.2.1 (h.2.2.2.2.2.2.2.2.2.2.2.2.1+h.2.1))=some r:=r1
  rw [ew,inSl_ok f3 (show bodyOf' h≤bodyOf' h+h.2.1 by omega) f4,cond_true,r1]
  cases hs:h.2.2.2.2.2.2.2.2.1 with
  |false=>rw [if_neg (fun hh=>by cases hh.1)];rfl
  |true=>
   simp only [Option.bind_some,cond_true]
   by_cases hr:h.2.2.2.2.2.2.2.2.2.1=r
   ·rw [bneF hr,if_neg (fun hh=>hh.2 hr.symm)];rfl
   ·rw [bneT hr,if_pos ⟨trivial,fun e=>hr e.symm⟩];rfl
 ·left
  have e4:c=0∨c=1∨c=2:=e4
  have h3:c≠3:=by omega
  refine ⟨hc,h3,?_⟩
  unfold impl_checked
  simp only [e1,Option.bind_some,bneT hc,cond_true]
theorem dictRead_eq (k:Nat) (hk:2000000≤k) (t:Int) (b:List Int) (hl:b.length≤1048576) (hb:Byt b) (at_:Int):
 ∃r,impl_DictRead k t b at_=some r∧spec_DictRead k t b at_=some r∧r.2.length≤2000∧(r.1.2.2=0→tyOk t=true∧∀v,v∈r.2→vok t v=true∧I64 v.1):=by
 obtain ⟨h,c,e1,e2,e3⟩:=checked_eq k hk (t,0,0,()) b hl hb at_
 unfold impl_DictRead spec_DictRead
 rcases e3 with ⟨c0,c3,e3⟩|⟨rfl,f1,f2,f3,f4,f5,f6,r,r1,e3⟩
 ·simp only [e2,e3,Option.bind_some,bneT c0,beqF c0,beqF c3,cond_true,cond_false]
  exact ⟨(((),0,c),[]),rfl,rfl,by simp,fun hh=>(c0 hh).elim⟩
 ·have ew:IntKind.wrap .i64 (h.2.2.2.2.2.2.2.2.2.2.2.2.1+h.2.1)=h.2.2.2.2.2.2.2.2.2.2.2.2.1+h.2.1:=w64 (show _≤bodyOf' h+h.2.1 by omega) (show bodyOf' h+h.2.1<_ by omega)
  have hsl:inSl h.2.2.2.2.2.2.2.2.2.2.2.2.1 (h.2.2.2.2.2.2.2.2.2.2.2.2.1+h.2.1) b.length=true:=inSl_ok f2 (show bodyOf' h≤bodyOf' h+h.2.1 by omega) f4
  simp only [e2,e3,Option.bind_some,bneF rfl,cond_false,csf]
  by_cases hkd:(h.1 !=2||(h.2.2.2.1 !=0&&h.2.2.2.1 !=2))=true
  ·refine ⟨(((),0,1),[]),?_,?_,by simp,fun hh=>by cases hh⟩
   ·by_cases hs:h.2.2.2.2.2.2.2.2.1=true∧r≠h.2.2.2.2.2.2.2.2.2.1
    ·rw [if_pos hs]
     simp only [show ((3:Int)==0)=false from rfl,show ((3:Int)==3)=true from rfl,cond_false,Option.bind_some,cond_true,cst,hkd,Bool.or_self,Bool.or_false,Bool.false_or,Bool.or_true,Bool.true_or,csf,Bool.true_and,Bool.false_and]
    ·rw [if_neg hs]
     simp only [show ((0:Int)==0)=true from rfl,Option.bind_some,cond_true,cst,hkd,Bool.or_self,Bool.or_false,Bool.false_or,Bool.or_true,Bool.true_or,csf,Bool.true_and]
   ·simp only [Option.bind_some,cst,hkd,cond_true]
  ·have hkd:=Bool.eq_false_iff.2 hkd
   obtain ⟨nx,ok,l,p1,p2,pr⟩:=plainRead_eq k (by omega) t (cutL b (bodyOf' h) (bodyOf' h+h.2.1)) (by unfold cutL;rw [List.length_drop,List.length_take];omega) (fun x hx=>by
    unfold cutL at hx
    exact hb x (List.mem_of_mem_take (List.mem_of_mem_drop hx))) 0 h.2.2.1 ⟨by decide,by decide⟩
   have r1:spec_CrcOf k (cutL b h.2.2.2.2.2.2.2.2.2.2.2.2.1 (h.2.2.2.2.2.2.2.2.2.2.2.2.1+h.2.1))=some r:=r1
   have p2:spec_PlainRead k t (cutL b h.2.2.2.2.2.2.2.2.2.2.2.2.1 (h.2.2.2.2.2.2.2.2.2.2.2.2.1+h.2.1)) 0 h.2.2.1=some (((),nx,ok),l):=p2
   unfold spec_DictRead.d8
   simp only [Option.bind_some,cst,hkd,cond_false,ew,hsl,cond_true,r1,p2]
   by_cases hs:h.2.2.2.2.2.2.2.2.1=true∧r≠h.2.2.2.2.2.2.2.2.2.1
   ·obtain ⟨hs1,hs2⟩:=hs
    rw [if_pos ⟨hs1,hs2⟩,hs1,bneT hs2]
    simp only [show ((3:Int)==0)=false from rfl,show ((3:Int)==3)=true from rfl,show ((3:Int) !=0)=true from rfl,cond_false,Option.bind_some,cond_true,hkd,cst,Bool.or_self,Bool.or_false,Bool.false_or,Bool.or_true,Bool.true_or,csf,Bool.true_and,Bool.false_and]
    exact ⟨(((),0,3),[]),rfl,rfl,by simp,fun hh=>by cases hh⟩
   ·rw [if_neg hs]
    have hin:(bif h.2.2.2.2.2.2.2.2.1 then
     (bif r !=h.2.2.2.2.2.2.2.2.2.1 then some ((((),0,3),[]):(Unit×Int×Int)×List TVal) else (bif !ok||nx !=((cutL b h.2.2.2.2.2.2.2.2.2.2.2.2.1 (h.2.2.2.2.2.2.2.2.2.2.2.2.1+h.2.1)).length:Int) then some (((),0,5),[]) else some (((),h.2.2.2.2.2.2.2.2.2.2.2.2.1+h.2.1,0),l)))
     else (bif !ok||nx !=((cutL b h.2.2.2.2.2.2.2.2.2.2.2.2.1 (h.2.2.2.2.2.2.2.2.2.2.2.2.1+h.2.1)).length:Int) then some (((),0,5),[]) else some (((),h.2.2.2.2.2.2.2.2.2.2.2.2.1+h.2.1,0),l)))=
     (bif !ok||nx !=((cutL b h.2.2.2.2.2.2.2.2.2.2.2.2.1 (h.2.2.2.2.2.2.2.2.2.2.2.2.1+h.2.1)).length:Int) then some (((),0,5),[]) else some (((),h.2.2.2.2.2.2.2.2.2.2.2.2.1+h.2.1,0),l)):=by
     cases hs1:h.2.2.2.2.2.2.2.2.1 with
     |false=>rfl
     |true=>
      have:r=h.2.2.2.2.2.2.2.2.2.1:=Classical.byContradiction fun hh=>hs ⟨hs1,hh⟩
      rw [bneF this];rfl
    have p1:impl_PlainRead k t (cutL b h.2.2.2.2.2.2.2.2.2.2.2.2.1 (h.2.2.2.2.2.2.2.2.2.2.2.2.1+h.2.1)) 0 h.2.2.1=some (((),nx,ok),l):=p1
    rw [hin]
    simp only [show ((0:Int)==0)=true from rfl,show ((0:Int) !=0)=false from rfl,cond_false,Option.bind_some,cond_true,cst,hkd,p1,ew,Bool.or_self,Bool.or_false,Bool.true_or,csf,Bool.true_and]
    cases ok with
    |false=>
     simp only [Bool.not_false,Bool.true_or,cond_true]
     exact ⟨(((),0,5),[]),rfl,rfl,by simp,fun hh=>by cases hh⟩
    |true=>
     have hlen:=pr.len rfl
     have hm:=pr.m0 rfl
     cases (!true||nx !=((cutL b h.2.2.2.2.2.2.2.2.2.2.2.2.1 (h.2.2.2.2.2.2.2.2.2.2.2.2.1+h.2.1)).length:Int)) with
     |true=>exact ⟨(((),0,5),[]),rfl,rfl,by simp,fun hh=>by cases hh⟩
     |false=>exact ⟨_,rfl,rfl,(by show l.length≤2000;omega),fun _=>⟨pr.ty rfl,pr.vk rfl⟩⟩
end Go.Law
end
section
set_option linter.unusedVariables false
set_option linter.unusedSimpArgs false
namespace Go.Law
open Go.Am Go.Fn
theorem cnd {α:Type} {b:Bool} {x y:Option α} {z:α} (h:cond b x y=some z):(b=true∧x=some z)∨(b=false∧y=some z):=by
 cases b with
 |true=>exact .inl ⟨rfl,h⟩
 |false=>exact .inr ⟨rfl,h⟩
theorem bnd {α β:Type} {x:Option α} {f:α→Option β} {z:β} (h:x.bind f=some z):∃a,x=some a∧f a=some z:=Option.bind_eq_some_iff.1 h
theorem cor {b:Bool} {x:Option Bool} (h:cond b (some true) x=some false):b=false∧x=some false:=by
 rcases cnd h with ⟨_,h⟩|h
 ·cases h
 ·exact h
def SameH (y x:THead):Prop:=y.1=x.1∧y.2.2.2.2.1=x.2.2.2.2.1∧y.2.2.2.2.2.1=x.2.2.2.2.2.1∧y.2.2.2.2.2.2.1=x.2.2.2.2.2.2.1∧y.2.2.2.2.2.2.2.1=x.2.2.2.2.2.2.2.1
theorem c27_same {k:Nat} {t1:List TNode} {t10 t11:Int} {o:TLeaf} {x o2 y:THead} {z:Bool} (h:spec_l16Kind.c27 k t1 t10 t11 o x o2=some (y,z)):SameH y x:=by
 unfold spec_l16Kind.c27 spec_l16Kind.c33 at h
 replace h:=cnd h;rcases h with ⟨_,h⟩|⟨_,h⟩
 ·replace h:=bnd h;obtain ⟨r1,_,h⟩:=h
  replace h:=bnd h;obtain ⟨b3,_,h⟩:=h
  replace h:=cnd h;rcases h with ⟨_,h⟩|⟨_,h⟩
  ·replace h:=bnd h;obtain ⟨r4,_,h⟩:=h
   cases h
   exact ⟨rfl,rfl,rfl,rfl,rfl⟩
  ·cases h
   exact ⟨rfl,rfl,rfl,rfl,rfl⟩
 ·cases h
  exact ⟨rfl,rfl,rfl,rfl,rfl⟩
theorem c7_sizes {k:Nat} {t1:List TNode} {t8 t10:Int} {o:TLeaf} {x o2 y:THead} {L:List Int} (h:spec_l16Kind.c7 k t1 t8 t10 o x o2 L=some (y,true)):
 y.1=x.1∧(x.1=3→0≤y.2.2.2.2.1∧0≤y.2.2.2.2.2.1∧0≤y.2.2.2.2.2.2.1∧0≤y.2.2.2.2.2.2.2.1):=by
 unfold spec_l16Kind.c7 at h
 replace h:=bnd h;obtain ⟨r5,_,h⟩:=h
 replace h:=cnd h;rcases h with ⟨_,h⟩|⟨_,h⟩
 ·cases h
 replace h:=bnd h;obtain ⟨r6,_,h⟩:=h
 replace h:=bnd h;obtain ⟨b9,_,h⟩:=h
 replace h:=cnd h;rcases h with ⟨_,h⟩|⟨_,h⟩
 ·cases h
 replace h:=bnd h;obtain ⟨y10,_,h⟩:=h
 replace h:=bnd h;obtain ⟨y11,_,h⟩:=h
 replace h:=cnd h;rcases h with ⟨h0,h⟩|⟨h0,h⟩
 ·have h0:x.1=0:=eq_of_beq h0
  replace h:=bnd h;obtain ⟨y12,_,h⟩:=h
  replace h:=bnd h;obtain ⟨b14,_,h⟩:=h
  replace h:=cnd h;rcases h with ⟨_,h⟩|⟨_,h⟩
  ·cases h
  exact ⟨(c27_same h).1,fun h3=>by omega⟩
 ·replace h:=cnd h;rcases h with ⟨h3,h⟩|⟨h3,h⟩
  ·replace h:=bnd h;obtain ⟨y15,_,h⟩:=h
   replace h:=bnd h;obtain ⟨y16,_,h⟩:=h
   replace h:=bnd h;obtain ⟨y17,_,h⟩:=h
   replace h:=bnd h;obtain ⟨y18,_,h⟩:=h
   replace h:=bnd h;obtain ⟨r19,_,h⟩:=h
   replace h:=bnd h;obtain ⟨b20,f20,h⟩:=h
   replace h:=bnd h;obtain ⟨b21,f21,h⟩:=h
   replace h:=bnd h;obtain ⟨b22,f22,h⟩:=h
   replace h:=bnd h;obtain ⟨b23,f23,h⟩:=h
   replace h:=bnd h;obtain ⟨b25,f25,h⟩:=h
   replace h:=cnd h;rcases h with ⟨_,h⟩|⟨hb,h⟩
   ·cases h
   subst hb
   obtain ⟨hb,_⟩:=cor f25
   subst hb
   obtain ⟨hb,_⟩:=cor f23
   subst hb
   obtain ⟨hb,g22⟩:=cor f22
   subst hb
   obtain ⟨hb,g21⟩:=cor f21
   subst hb
   obtain ⟨g15,g20⟩:=cor f20
   have g15:=of_decide_eq_false g15
   have g20:=of_decide_eq_false (Option.some.inj g20)
   have g21:=of_decide_eq_false (Option.some.inj g21)
   have g22:=of_decide_eq_false (Option.some.inj g22)
   obtain ⟨s1,s2,s3,s4,s5⟩:=c27_same h
   refine ⟨s1,fun _=>⟨?_,?_,?_,?_⟩⟩
   ·rw [s2];show 0≤y16;omega
   ·rw [s3];show 0≤y15;omega
   ·rw [s4];show 0≤y17;omega
   ·rw [s5];show 0≤y18;omega
  ·exact ⟨(c27_same h).1,fun e=>by rw [beqT e] at h3;cases h3⟩
theorem c17_sizes {k:Nat} {t1:List Int} {t10:Int} {o:TLeaf} {o1 o2 x h:THead} {l:List TNode} (e:spec_HeadRead.c17 k t1 t10 o o1 o2 l x=some (h,0)):
 h.1=x.1∧(x.1=3→0≤h.2.2.2.2.1∧0≤h.2.2.2.2.2.1∧0≤h.2.2.2.2.2.2.1∧0≤h.2.2.2.2.2.2.2.1):=by
 unfold spec_HeadRead.c17 at e
 replace e:=bnd e;obtain ⟨r1,f,e⟩:=e
 obtain ⟨y,z⟩:=r1
 replace e:=cnd e;rcases e with ⟨_,e⟩|⟨hz,e⟩
 ·cases e
 have hz:z=true:=by simpa using hz
 subst hz
 replace e:=cnd e;rcases e with ⟨_,e⟩|⟨_,e⟩
 ·cases e
 cases e
 unfold spec_l16Kind at f
 replace f:=cnd f;rcases f with ⟨_,f⟩|⟨_,f⟩
 ·exact c7_sizes f
 ·replace f:=cnd f;rcases f with ⟨_,f⟩|⟨_,f⟩<;>exact c7_sizes f
theorem head_sizes {k:Nat} {o:TLeaf} {b:List Int} {at_:Int} {h:THead} (e:spec_HeadRead k o b at_=some (h,0)):
 (h.1=0∨h.1=2∨h.1=3)∧(h.1=3→0≤h.2.2.2.2.1∧0≤h.2.2.2.2.2.1∧0≤h.2.2.2.2.2.2.1∧0≤h.2.2.2.2.2.2.2.1):=by
 unfold spec_HeadRead at e
 replace e:=bnd e;obtain ⟨r2,_,e⟩:=e
 replace e:=bnd e;obtain ⟨r3,_,e⟩:=e
 replace e:=bnd e;obtain ⟨b4,_,e⟩:=e
 replace e:=cnd e;rcases e with ⟨_,e⟩|⟨_,e⟩
 ·cases e
 replace e:=bnd e;obtain ⟨r5,_,e⟩:=e
 replace e:=bnd e;obtain ⟨b11,f11,e⟩:=e
 replace e:=bnd e;obtain ⟨b13,f13,e⟩:=e
 replace e:=bnd e;obtain ⟨b16,f16,e⟩:=e
 replace e:=cnd e;rcases e with ⟨_,e⟩|⟨hb,e⟩
 ·cases e
 subst hb
 obtain ⟨hb,_⟩:=cor f16
 subst hb
 obtain ⟨hb,_⟩:=cor f13
 subst hb
 obtain ⟨_,f11⟩:=cor f11
 replace e:=bnd e;obtain ⟨y17,f17,e⟩:=e
 replace e:=bnd e;obtain ⟨y18,_,e⟩:=e
 replace e:=bnd e;obtain ⟨r19,_,e⟩:=e
 have hk:y17=0∨y17=2∨y17=3:=by
  rw [f17] at f11
  simp only [Option.bind_some,csf,Option.some.injEq,Bool.and_eq_false_iff] at f11
  rcases f11 with (f|f)|f
  ·left;simpa using f
  ·right;left;simpa using f
  ·right;right;simpa using f
 have fin:∀{c:Bool} {w:Int},spec_HeadRead.c17 k b r2.1.2.1 o (0,0,0,0,0,0,0,0,false,0,false,(0,false,(0,(⟨#[]⟩:ByteArray),()),(0,(⟨#[]⟩:ByteArray),()),()),0,()) (0,0,0,0,0,0,0,0,false,0,false,(0,false,(0,(⟨#[]⟩:ByteArray),()),(0,(⟨#[]⟩:ByteArray),()),()),0,()) r2.2 (y17,y18,0,0,0,0,0,0,c,w,false,(0,false,(0,(⟨#[]⟩:ByteArray),()),(0,(⟨#[]⟩:ByteArray),()),()),r2.1.2.1,())=some (h,0)→
  (h.1=0∨h.1=2∨h.1=3)∧(h.1=3→0≤h.2.2.2.2.1∧0≤h.2.2.2.2.2.1∧0≤h.2.2.2.2.2.2.1∧0≤h.2.2.2.2.2.2.2.1):=by
  intro c w e
  obtain ⟨s1,s2⟩:=c17_sizes e
  have s1:h.1=y17:=s1
  have s2:y17=3→_:=s2
  rw [s1]
  exact ⟨hk,s2⟩
 replace e:=cnd e;rcases e with ⟨_,e⟩|⟨_,e⟩
 ·replace e:=bnd e;obtain ⟨y20,_,e⟩:=e
  replace e:=cnd e;rcases e with ⟨_,e⟩|⟨_,e⟩
  ·cases e
  replace e:=bnd e;obtain ⟨y21,_,e⟩:=e
  replace e:=cnd e;rcases e with ⟨_,e⟩|⟨_,e⟩<;>exact fin e
 ·exact fin e
end Go.Law
end
section
set_option linter.unusedVariables false
set_option linter.unusedSimpArgs false
namespace Go.Law
open Go.Am Go.Fn
variable (k:Nat)
def accL (m:Int):Int→List Int→List Int
 |_,[]=>[]
 |l,x::xs=>IntKind.wrap .i64 (IntKind.wrap .i64 (l+x)+m)::accL m (IntKind.wrap .i64 (IntKind.wrap .i64 (l+x)+m)) xs
theorem accL_len (m:Int):∀(xs:List Int) (l:Int),(accL m l xs).length=xs.length
 |[],_=>rfl
 |x::xs,l=>by simp [accL,accL_len m xs]
theorem accL_I64 (m:Int):∀(xs:List Int) (l:Int),∀y,y∈accL m l xs→I64 y
 |[],_,y,h=>by cases h
 |x::xs,l,y,h=>by
  rcases List.mem_cons.1 h with rfl|h
  ·exact ⟨w64_lo _,w64_hi _⟩
  ·exact accL_I64 m xs _ y h
theorem rd_last {A:List Int} {l:Int} (hA:A.length<1000000000):rdL (A++[l]) (IntKind.wrap .i64 (((A++[l]).length:Int)-1))=some l:=by
 rw [List.length_append,List.length_singleton,w64 (by omega) (by omega),show ((A.length+1:Nat):Int)-1=((A.length:Nat):Int) by omega,rdL_nat,List.getElem?_append_right (Nat.le_refl _)]
 simp
abbrev dR (b:List Int) (p:Nat) (bad:Bool):TDeltaReaderB:=(b,(p:Int),bad,(),())
theorem iacc (b:List Int) (p:Nat) (m:Int) (xs:List Int) (hx:xs.length≤100000):∀(post pre A:List Int) (l:Int) (n:Nat),xs=pre++post→post.length<n→A.length+post.length≤100000→
 impl_deltaReader_mini.l5 k n m (xs.length:Int) (pre.length:Int) (dR b p false) xs (A++[l])=some ((),(dR b p false,(A++[l])++accL m l post)):=by
 intro post
 induction post with
 |nil=>
  intro pre A l n hv hn ha
  obtain ⟨n,rfl⟩:∃x,n=x+1:=⟨n-1,by omega⟩
  have:xs=pre:=by simpa using hv
  subst this
  simp only [impl_deltaReader_mini.l5,decide_eq_false (show ¬(xs.length:Int)<(xs.length:Int) by omega),cond_false,accL,List.append_nil]
 |cons x post ih=>
  intro pre A l n hv hn ha
  simp only [List.length_cons] at hn ha
  obtain ⟨n,rfl⟩:∃x,n=x+1:=⟨n-1,by omega⟩
  have hlen:xs.length=pre.length+(post.length+1):=by rw [hv];simp
  have hg:rdL xs (pre.length:Int)=some x:=by rw [hv];exact getMid pre post x
  simp only [impl_deltaReader_mini.l5,decide_eq_true (show (pre.length:Int)<(xs.length:Int) by omega),cond_true,hg,Option.bind_some,impl_deltaReader_mini.d7,rd_last (A:=A) (l:=l) (by omega),lim_ok (show (A++[l]).length+[IntKind.wrap .i64 (IntKind.wrap .i64 (l+x)+m)].length≤4294967296 by simp;omega),w64 (x:=(pre.length:Int)+1) (by omega) (by omega)]
  have:=ih (pre++[x]) (A++[l]) (IntKind.wrap .i64 (IntKind.wrap .i64 (l+x)+m)) n (by rw [hv];simp) (by omega) (by simp;omega)
  rw [List.length_append,List.length_singleton] at this
  rw [show ((pre.length:Int)+1)=((pre.length+1:Nat):Int) by omega,this,accL]
  simp
theorem sacc (L19:(List Int)→Int→Int→Int→Int→Int→Int→Int→(List Int)→(List Int)→Option RunR) (b:List Int) (p1 t8 t10 t18 t20:Int) (many:Nat) (hm:many≤2000) (m:Int) (e20:IntKind.wrap .i64 (t20+1)=t20+1) (xs:List Int) (hx:xs.length≤100000):∀(post pre A:List Int) (l:Int) (n:Nat),xs=pre++post→post.length<n→A.length+1≤many→
 spec_DeltaRead.l26 k L19 n b p1 t8 t10 (many:Int) m t18 t20 (pre.length:Int) [] (A++[l]) xs=L19 b p1 t8 t10 (many:Int) m t18 (t20+1) [] ((A++[l])++accL m l (post.take (many-(A.length+1)))):=by
 intro post
 induction post with
 |nil=>
  intro pre A l n hv hn ha
  obtain ⟨n,rfl⟩:∃x,n=x+1:=⟨n-1,by omega⟩
  have:xs=pre:=by simpa using hv
  subst this
  simp only [spec_DeltaRead.l26,decide_eq_false (show ¬(xs.length:Int)<(xs.length:Int) by omega),cond_false,Option.bind_some,e20,List.take_nil,accL,List.append_nil]
 |cons x post ih=>
  intro pre A l n hv hn ha
  simp only [List.length_cons] at hn
  obtain ⟨n,rfl⟩:∃x,n=x+1:=⟨n-1,by omega⟩
  have hlen:xs.length=pre.length+(post.length+1):=by rw [hv];simp
  have hg:rdL xs (pre.length:Int)=some x:=by rw [hv];exact getMid pre post x
  by_cases hfull:A.length+1=many
  ·have:(decide (((A++[l]).length:Int)<(many:Int)))=false:=decide_eq_false (by simp;omega)
   simp only [spec_DeltaRead.l26,decide_eq_true (show (pre.length:Int)<(xs.length:Int) by omega),cond_true,this,Option.bind_some,cond_false,e20]
   rw [show many-(A.length+1)=0 by omega,List.take_zero]
   simp [accL]
  ·have:(decide (((A++[l]).length:Int)<(many:Int)))=true:=decide_eq_true (by simp;omega)
   simp only [spec_DeltaRead.l26,decide_eq_true (show (pre.length:Int)<(xs.length:Int) by omega),cond_true,this,Option.bind_some,spec_DeltaRead.d28,hg,rd_last (A:=A) (l:=l) (by omega),lim_ok (show (A++[l]).length+[IntKind.wrap .i64 (IntKind.wrap .i64 (l+x)+m)].length≤4294967296 by simp;omega),w64 (x:=(pre.length:Int)+1) (by omega) (by omega)]
   have:=ih (pre++[x]) (A++[l]) (IntKind.wrap .i64 (IntKind.wrap .i64 (l+x)+m)) n (by rw [hv];simp) (by omega) (by simp;omega)
   rw [List.length_append,List.length_singleton] at this
   rw [show ((pre.length:Int)+1)=((pre.length+1:Nat):Int) by omega,this,show many-(A.length+1)=(many-((A++[l]).length+1))+1 by simp;omega,List.take_succ_cons,accL]
   simp
theorem smini_inner (L5:(List Int)→Int→Int→Int→Int→(List Int)→Option RunR) (pre post:List Int) (L M w i q:Nat) (t2:Int) (hw:w≤64) (hq:(i:Int)*(w:Int)=(q:Int)) (hqn:i*w=q) (hqL:q+w≤8*L) (hl:pre.length+L<10000000000000000) (hi:i<1000000) (o:List Int) (ho:o.length<1000000):
 ∀(m n j:Nat),j+m=w→m<n→spec_l9Mini.l9 k L5 n (pre++(leB L M++post)) (pre.length:Int) t2 (w:Int) (i:Int) (IntKind.wrap .i64 ((M/2^q%2^j:Nat):Int)) (j:Int) o=L5 (pre++(leB L M++post)) (pre.length:Int) t2 (w:Int) ((i+1:Nat):Int) (o++[unpackAt w M i]):=by
 intro m
 induction m with
 |zero=>
  intro n j hj hn
  obtain ⟨n,rfl⟩:∃x,n=x+1:=⟨n-1,by omega⟩
  obtain rfl:j=w:=by omega
  simp only [spec_l9Mini.l9,decide_eq_false (show ¬(j:Int)<(j:Int) by omega),cond_false]
  rw [lim_ok (by simp;omega),cond_true,w64 (x:=(i:Int)+1) (by omega) (by omega)]
  unfold unpackAt
  rw [hqn]
  congr 1
 |succ m ih=>
  intro n j hj hn
  obtain ⟨n,rfl⟩:∃x,n=x+1:=⟨n-1,by omega⟩
  have hp:IntKind.wrap .i64 (IntKind.wrap .i64 (IntKind.wrap .i64 (8*(pre.length:Int))+IntKind.wrap .i64 ((i:Int)*(w:Int)))+(j:Int))=((8*pre.length+(q+j):Nat):Int):=by
   rw [hq,w64 (x:=(q:Int)) (by omega) (by omega),w64 (x:=8*(pre.length:Int)) (by omega) (by omega),w64 (x:=8*(pre.length:Int)+(q:Int)) (by omega) (by omega),w64 (by omega) (by omega)];omega
  have hb:=l1Bit_eq k pre post L M (q+j) (by omega) (by omega)
  simp only [spec_l9Mini.l9,decide_eq_true (show (j:Int)<(w:Int) by omega),cond_true,hp,hb,Option.bind_some,decide_eq_true (show (0:Int)≤(j:Int) by omega)]
  have hlt:M/2^q%2^j<2^j:=Nat.mod_lt _ (Nat.two_pow_pos j)
  have hjj:2^(j+1)≤2^64:=Nat.pow_le_pow_right (by decide) (by omega)
  have hb1:M/2^(q+j)%2≤1:=by omega
  have hb2:M/2^(q+j)%2*2^j≤1*2^j:=Nat.mul_le_mul_right _ hb1
  have ho:=or_shl .i64 (a:=M/2^q%2^j) (b:=M/2^(q+j)%2) (i:=j) (show j≤64 by omega) hlt (show _<2^64 by rw [Nat.pow_succ] at hjj;omega)
  rw [ho]
  have hs:M/2^q%2^j+M/2^(q+j)%2*2^j=M/2^q%2^(j+1):=by
   rw [mod_succ,Nat.div_div_eq_div_mul,←Nat.pow_add]
  rw [hs,w64 (x:=(j:Int)+1) (by omega) (by omega),show ((j:Int)+1)=((j+1:Nat):Int) by omega]
  exact ih n (j+1) (by omega) (by omega)
theorem smini_loopA (hk:3000≤k) (pre post:List Int) (L M w N:Nat) (hw:w≤64) (hN:N*w≤8*L) (hl:pre.length+L<10000000000000000) (hN2:N≤2000) (q:Nat) (hq:IntKind.wrap .i64 ((pre.length:Int)+IntKind.wrap .i64 (Int.tdiv (IntKind.wrap .i64 ((N:Int)*(w:Int))) 8))=(q:Int)):
 ∀(m n i:Nat) (o:List Int),i+m=N→m<n→o.length=i→spec_l9Mini.l5 k n (pre++(leB L M++post)) (pre.length:Int) (N:Int) (w:Int) (i:Int) o=some (((),(q:Int),true),o++(List.range' i m).map (unpackAt w M)):=by
 intro m
 induction m with
 |zero=>
  intro n i o hi hn ho
  obtain ⟨n,rfl⟩:∃x,n=x+1:=⟨n-1,by omega⟩
  simp only [spec_l9Mini.l5,decide_eq_false (show ¬(i:Int)<(N:Int) by omega),cond_false,hq]
  simp
 |succ m ih=>
  intro n i o hi hn ho
  obtain ⟨n,rfl⟩:∃x,n=x+1:=⟨n-1,by omega⟩
  have hmul:i*w+w≤N*w:=by
   have:(i+1)*w≤N*w:=Nat.mul_le_mul_right _ (by omega)
   rw [Nat.add_mul,Nat.one_mul] at this
   exact this
  have hi':=smini_inner k (spec_l9Mini.l5 k n) pre post L M w i (i*w) (N:Int) hw (by simp) rfl (by omega) hl (by omega) o (by omega) w k 0 (by omega) (by omega)
  simp only [Nat.pow_zero,Nat.mod_one] at hi'
  simp only [spec_l9Mini.l5,decide_eq_true (show (i:Int)<(N:Int) by omega),cond_true]
  have h0:((0:Nat):Int)=0:=rfl
  have hw0:IntKind.wrap .i64 0=0:=rfl
  rw [h0,hw0] at hi'
  rw [hi',ih n (i+1) _ (by omega) (by omega) (by simp;omega)]
  simp [List.range'_succ]
theorem mini_any (hk:3000≤k) (b:List Int) (hb:b.length≤1048576) (hby:Byts b) (p s w:Nat) (hp:p≤b.length) (hs:s%8=0) (hs2:s≤1024) (hw:w<256) (left:Nat) (hleft:left≤2000) (m l:Int) (A:List Int) (hA:A.length≤2000):
 (spec_l9Mini k b (p:Int) (s:Int) (w:Int)=some (((),0,false),[])∧∃p',impl_deltaReader_mini k (s:Int) (w:Int) m (left:Int) (dR b p false) (A++[l])=some ((),(dR b p' true,A++[l])))∨
 ∃(q:Nat) (xs:List Int),p≤q∧q≤b.length∧xs.length=s∧spec_l9Mini k b (p:Int) (s:Int) (w:Int)=some (((),(q:Int),true),xs)∧
  impl_deltaReader_mini k (s:Int) (w:Int) m (left:Int) (dR b p false) (A++[l])=some ((),(dR b q false,(A++[l])++accL m l (xs.take left))):=by
 obtain ⟨c,rfl⟩:∃c,s=8*c:=⟨s/8,by omega⟩
 have hcw:c*w≤128*255:=Nat.mul_le_mul (by omega) (by omega)
 have hsw:((8*c:Nat):Int)*(w:Int)=((8*(c*w):Nat):Int):=by rw [←Nat.mul_assoc];simp
 have eQ:IntKind.wrap .i64 (Int.tdiv (IntKind.wrap .i64 (((8*c:Nat):Int)*(w:Int))) 8)=((c*w:Nat):Int):=by
  rw [hsw,w64 (x:=((8*(c*w):Nat):Int)) (by omega) (by omega),tdiv8 (show (0:Int)≤((8*(c*w):Nat):Int) by omega),w64 (by omega) (by omega)]
  omega
 have elen:IntKind.wrap .i64 ((b.length:Int)-(p:Int))=((b.length-p:Nat):Int):=by rw [w64 (by omega) (by omega)];omega
 unfold spec_l9Mini impl_deltaReader_mini impl_deltaReader_mini.c2 impl_deltaReader_take
 simp only [eQ,elen,cst,Option.bind_some]
 by_cases hw64:w>64
 ·left
  simp only [decide_eq_true (show (w:Int)>64 by omega),Bool.true_or,cond_true,Option.bind_some]
  exact ⟨trivial,p,rfl⟩
 ·simp only [decide_eq_false (show ¬(w:Int)>64 by omega),Bool.false_or,cond_false]
  by_cases hfit:c*w≤b.length-p
  ·right
   have hlen:((b.drop p).take (c*w)).length=c*w:=by rw [List.length_take,List.length_drop];omega
   have hsp:b=b.take p++(leB (c*w) (wv ((b.drop p).take (c*w)))++b.drop (p+c*w)):=by
    have h3:=leB_wv ((b.drop p).take (c*w)) (fun x hx=>hby x (List.mem_of_mem_drop (List.mem_of_mem_take hx)))
    rw [hlen] at h3
    have hdd:b.drop (p+c*w)=(b.drop p).drop (c*w):=by rw [List.drop_drop]
    rw [←h3,hdd,List.take_append_drop,List.take_append_drop]
   have hpl:(b.take p).length=p:=by rw [List.length_take];omega
   generalize wv ((b.drop p).take (c*w))=M at hsp
   have hmin:min (8*c) left*w≤8*(c*w):=by
    rw [←Nat.mul_assoc]
    exact Nat.mul_le_mul_right _ (by omega)
   have u1:=unpacked_eq k (b.take p) (b.drop (p+c*w)) (c*w) M w (min (8*c) left) (by omega) hmin (by rw [hpl];omega) (by omega) (by omega) (by omega)
   have enx:IntKind.wrap .i64 (((b.take p).length:Int)+IntKind.wrap .i64 (Int.tdiv (IntKind.wrap .i64 (((8*c:Nat):Int)*(w:Int))) 8))=((p+c*w:Nat):Int):=by
    rw [eQ,hpl,w64 (by omega) (by omega)];omega
   have u2:=smini_loopA k hk (b.take p) (b.drop (p+c*w)) (c*w) M w (8*c) (by omega) (by rw [←Nat.mul_assoc];exact Nat.le_refl _) (by rw [hpl];omega) (by omega) (p+c*w) enx (8*c) k 0 [] (by omega) (by omega) rfl
   rw [←hsp,hpl] at u1 u2
   rw [show ((0:Nat):Int)=0 from rfl,←List.range_eq_range',List.nil_append] at u2
   have e1:IntKind.wrap .i64 ((p:Int)+((c*w:Nat):Int))=((p+c*w:Nat):Int):=by rw [w64 (by omega) (by omega)];omega
   have e2:IntKind.wrap .i64 (((p+c*w:Nat):Int)-((c*w:Nat):Int))=(p:Int):=by rw [w64 (by omega) (by omega)];omega
   have emin:(if (left:Int)<((8*c:Nat):Int) then (left:Int) else ((8*c:Nat):Int))=((min (8*c) left:Nat):Int):=by split<;>omega
   refine ⟨p+c*w,(List.range (8*c)).map (unpackAt w M),by omega,by omega,by simp,?_,?_⟩
   ·simp only [decide_eq_false (show ¬((b.length-p:Nat):Int)<((c*w:Nat):Int) by omega),cond_false]
    exact u2
   ·simp only [decide_eq_false (show ¬((c*w:Nat):Int)>((b.length-p:Nat):Int) by omega),cond_false,Option.bind_some,e1,e2,emin,u1]
    have hx:((List.range (8*c)).map (unpackAt w M)).take left=(List.range (min (8*c) left)).map (unpackAt w M):=by
     rw [←List.map_take,List.take_range,Nat.min_comm]
    rw [hx]
    have:=iacc k b (p+c*w) m ((List.range (min (8*c) left)).map (unpackAt w M)) (by simp;omega) ((List.range (min (8*c) left)).map (unpackAt w M)) [] A l k rfl (by simp;omega) (by simp;omega)
    exact this
  ·left
   simp only [decide_eq_true (show ((b.length-p:Nat):Int)<((c*w:Nat):Int) by omega),cond_true,decide_eq_true (show ((c*w:Nat):Int)>((b.length-p:Nat):Int) by omega),Option.bind_some]
   exact ⟨trivial,p,rfl⟩
theorem minis_any (hk:3000≤k) (b:List Int) (hb:b.length≤1048576) (hby:Byts b) (s minis W many:Nat) (m block:Int) (hs:s%8=0) (hs0:0<s) (hs2:s≤1024) (hm0:0<minis) (hmi:minis≤1024) (hW:W+minis≤b.length) (hmany:many≤2000) (hblk:IntKind.wrap .i64 (Int.tdiv block (minis:Int))=(s:Int))
 (L16:(List Int)→Int→Int→Int→TDeltaReaderB→(List Int)→Option RunR) (L13:(List Int)→Int→Int→Int→Int→(List Int)→(List Int)→Option RunR)
 (hL:∀p o,L16 b (minis:Int) (many:Int) (s:Int) (dR b p true) o=some (((),0,false),[])):∀(d n n' i p:Nat) (A:List Int) (l:Int),i+d=minis→d<n→d<n'→p≤b.length→A.length+1≤many→(∀y,y∈A++[l]→I64 y)→
 (impl_DeltaRead.l20 k L16 n b (minis:Int) (many:Int) (s:Int) m (W:Int) (i:Int) (dR b p false) (A++[l])=some (((),0,false),[])∧
  spec_DeltaRead.l19 k L13 n' b (p:Int) block (minis:Int) (many:Int) m (W:Int) (i:Int) [] (A++[l])=some (((),0,false),[]))∨
 ∃(q:Nat) (A':List Int) (l':Int),p≤q∧q≤b.length∧A.length≤A'.length∧A'.length+1≤many∧(A.length+1<many→i<minis→A.length<A'.length)∧(∀y,y∈A'++[l']→I64 y)∧
  impl_DeltaRead.l20 k L16 n b (minis:Int) (many:Int) (s:Int) m (W:Int) (i:Int) (dR b p false) (A++[l])=L16 b (minis:Int) (many:Int) (s:Int) (dR b q false) (A'++[l'])∧
  spec_DeltaRead.l19 k L13 n' b (p:Int) block (minis:Int) (many:Int) m (W:Int) (i:Int) [] (A++[l])=L13 b (q:Int) block (minis:Int) (many:Int) [] (A'++[l']):=by
 intro d
 induction d with
 |zero=>
  intro n n' i p A l hi hn hn' hp hA hI
  obtain ⟨n,rfl⟩:∃x,n=x+1:=⟨n-1,by omega⟩
  obtain ⟨n',rfl⟩:∃x,n'=x+1:=⟨n'-1,by omega⟩
  right
  refine ⟨p,A,l,by omega,hp,by omega,hA,fun _ h=>by omega,hI,?_,?_⟩
  ·simp only [impl_DeltaRead.l20,decide_eq_false (show ¬(i:Int)<(minis:Int) by omega),cond_false,Option.bind_some]
  ·simp only [spec_DeltaRead.l19,decide_eq_false (show ¬(i:Int)<(minis:Int) by omega),cond_false,Option.bind_some]
 |succ d ih=>
  intro n n' i p A l hi hn hn' hp hA hI
  obtain ⟨n,rfl⟩:∃x,n=x+1:=⟨n-1,by omega⟩
  obtain ⟨n',rfl⟩:∃x,n'=x+1:=⟨n'-1,by omega⟩
  by_cases hfull:A.length+1=many
  ·right
   have hd:decide (((A++[l]).length:Int)<(many:Int))=false:=decide_eq_false (by simp;omega)
   refine ⟨p,A,l,by omega,hp,by omega,hA,fun h=>by omega,hI,?_,?_⟩
   ·simp only [impl_DeltaRead.l20,decide_eq_true (show (i:Int)<(minis:Int) by omega),cond_true,hd,cond_false,Option.bind_some]
   ·simp only [spec_DeltaRead.l19,decide_eq_true (show (i:Int)<(minis:Int) by omega),cond_true,hd,cond_false,Option.bind_some]
  ·have hd:decide (((A++[l]).length:Int)<(many:Int))=true:=decide_eq_true (by simp;omega)
   obtain ⟨y,hy,hy2⟩:=rdL_some (xs:=b) (i:=((W+i:Nat):Int)) (by omega) (by omega)
   obtain ⟨y0,y1⟩:=hby y (List.mem_of_getElem? hy2)
   obtain ⟨w,rfl⟩:∃w:Nat,y=w:=⟨y.toNat,by omega⟩
   have eWi:IntKind.wrap .i64 ((W:Int)+(i:Int))=((W+i:Nat):Int):=by rw [w64 (by omega) (by omega)];omega
   have ew:IntKind.wrap .i64 ((w:Nat):Int)=((w:Nat):Int):=w64 (by omega) (by omega)
   have eleft:IntKind.wrap .i64 ((many:Int)-((A++[l]).length:Int))=((many-(A.length+1):Nat):Int):=by
    rw [List.length_append,List.length_singleton,w64 (by omega) (by omega)];omega
   have ei:IntKind.wrap .i64 ((i:Int)+1)=(i:Int)+1:=w64 (by omega) (by omega)
   simp only [impl_DeltaRead.l20,spec_DeltaRead.l19,impl_DeltaRead.d22,decide_eq_true (show (i:Int)<(minis:Int) by omega),cond_true,hd,Option.bind_some,Bool.not_false,eWi,hy,ew,eleft,decide_eq_true (show (minis:Int)≠0 by omega),hblk]
   rcases mini_any k hk b hb hby p s w hp hs hs2 (by omega) (many-(A.length+1)) (by omega) m l A (by omega) with ⟨s1,p',i1⟩|⟨q,xs,q1,q2,q3,s1,i1⟩
   ·left
    simp only [s1,i1,Option.bind_some,Bool.not_false,cond_true,ei]
    refine ⟨?_,trivial⟩
    obtain ⟨n,rfl⟩:∃x,n=x+1:=⟨n-1,by omega⟩
    simp only [impl_DeltaRead.l20,csf,Option.bind_some,Bool.not_true,Bool.and_false,cond_false,hL]
   ·simp only [s1,i1,Option.bind_some,Bool.not_true,cond_false]
    have sa:=sacc k (spec_DeltaRead.l19 k L13 n') b (q:Int) block (minis:Int) (W:Int) (i:Int) many hmany m ei xs (by omega) xs [] A l k rfl (by omega) hA
    rw [List.length_nil,show ((0:Nat):Int)=0 from rfl] at sa
    rw [sa,ei]
    have hne:xs.take (many-(A.length+1))≠[]:=by
     intro h0
     have:=congrArg List.length h0
     rw [List.length_take,List.length_nil] at this
     omega
    obtain ⟨B,l',hB⟩:∃B l',accL m l (xs.take (many-(A.length+1)))=B++[l']:=by
     have:accL m l (xs.take (many-(A.length+1)))≠[]:=by
      intro h0
      have h1:=accL_len m (xs.take (many-(A.length+1))) l
      rw [h0] at h1
      exact hne (List.eq_nil_of_length_eq_zero h1.symm)
     exact ⟨_,_,(List.dropLast_concat_getLast this).symm⟩
    have hBl:B.length+1=min (many-(A.length+1)) xs.length:=by
     have h1:=accL_len m (xs.take (many-(A.length+1))) l
     rw [hB,List.length_append,List.length_singleton,List.length_take] at h1
     exact h1
    rw [hB,show (A++[l])++(B++[l'])=(A++[l]++B)++[l'] by simp]
    have hI':∀y,y∈(A++[l]++B)++[l']→I64 y:=by
     intro y hy
     rw [show (A++[l]++B)++[l']=(A++[l])++(B++[l']) by simp,←hB] at hy
     rcases List.mem_append.1 hy with hy|hy
     ·exact hI y hy
     ·exact accL_I64 _ _ _ y hy
    have hl1:(A++[l]++B).length=A.length+1+B.length:=by simp;omega
    rcases ih n n' (i+1) q (A++[l]++B) l' (by omega) (by omega) (by omega) q2 (by omega) hI' with ⟨a1,a2⟩|⟨q',A',l'',r1,r2,r3,r4,r5,r6,r7,r8⟩
    ·left
     exact ⟨a1,a2⟩
    ·right
     exact ⟨q',A',l'',by omega,r2,by omega,r4,fun _ _=>by omega,r6,r7,r8⟩
theorem blocks_any (hk:3000≤k) (b:List Int) (hb:b.length≤1048576) (hby:Byts b) (s minis many:Nat) (block:Int) (hs:s%8=0) (hs0:0<s) (hs2:s≤1024) (hm0:0<minis) (hmi:minis≤1024) (hmany:many≤2000) (hblk:IntKind.wrap .i64 (Int.tdiv block (minis:Int))=(s:Int)):∀(f n p:Nat) (A:List Int) (l:Int),many-(A.length+1)≤f→f+1<n→p≤b.length→A.length+1≤many→(∀y,y∈A++[l]→I64 y)→
 ∃nx ok r,impl_DeltaRead.l16 k n b (minis:Int) (many:Int) (s:Int) (dR b p false) (A++[l])=some (((),nx,ok),r)∧spec_DeltaRead.l13 k n b (p:Int) block (minis:Int) (many:Int) [] (A++[l])=some (((),nx,ok),r)∧
  (ok=false→nx=0∧r=[])∧(ok=true→(p:Int)≤nx∧nx≤(b.length:Int)∧r.length=many∧∀y,y∈r→I64 y):=by
 intro f
 induction f with
 |zero=>
  intro n p A l hf hn hp hA hI
  obtain ⟨n,rfl⟩:∃x,n=x+1:=⟨n-1,by omega⟩
  have hd:decide (((A++[l]).length:Int)<(many:Int))=false:=decide_eq_false (by simp;omega)
  simp only [impl_DeltaRead.l16,spec_DeltaRead.l13,hd,cond_false,Option.bind_some]
  exact ⟨_,_,_,rfl,rfl,nofun,fun _=>⟨by omega,by omega,by simp;omega,hI⟩⟩
 |succ f ih=>
  intro n p A l hf hn hp hA hI
  obtain ⟨n,rfl⟩:∃x,n=x+1:=⟨n-1,by omega⟩
  by_cases hfull:A.length+1=many
  ·have hd:decide (((A++[l]).length:Int)<(many:Int))=false:=decide_eq_false (by simp;omega)
   simp only [impl_DeltaRead.l16,spec_DeltaRead.l13,hd,cond_false,Option.bind_some]
   exact ⟨_,_,_,rfl,rfl,nofun,fun _=>⟨by omega,by omega,by simp;omega,hI⟩⟩
  ·have hd:decide (((A++[l]).length:Int)<(many:Int))=true:=decide_eq_true (by simp;omega)
   have hL:∀p o,impl_DeltaRead.l16 k n b (minis:Int) (many:Int) (s:Int) (dR b p true) o=some (((),0,false),[]):=by
    intro p o
    obtain ⟨n,rfl⟩:∃x,n=x+1:=⟨n-1,by omega⟩
    simp only [impl_DeltaRead.l16,csf,Bool.not_true,Bool.and_false,Option.bind_some,cond_false,cond_true]
   have g1:=iget_any k (by omega) (by omega) hby p hp
   have g2:=szig_any k (by omega) (by omega) hby p hp
   simp only [impl_DeltaRead.l16,spec_DeltaRead.l13,hd,cond_true,Option.bind_some,Bool.not_false,impl_deltaReader_uvar,g1,g2,cond_false]
   cases hg:gv (b.drop p) with
   |none=>
    have z0:impl_Zag k 0=some (zagV 0):=zag_eq k ⟨by decide,by decide⟩
    simp only [Bool.not_false,cond_true,Option.bind_some,z0,impl_deltaReader_take]
    refine ⟨0,false,[],?_,rfl,fun _=>⟨rfl,rfl⟩,nofun⟩
    obtain ⟨kk,hkk⟩:∃x,k=x+1:=⟨k-1,by omega⟩
    have:∀N:Nat,0<N→impl_DeltaRead.l20 k (impl_DeltaRead.l16 k n) N b (minis:Int) (many:Int) (s:Int) (zagV 0) 0 0 (dR b p true) (A++[l])=some (((),0,false),[]):=by
     intro N hN
     obtain ⟨N,rfl⟩:∃x,N=x+1:=⟨N-1,by omega⟩
     simp only [impl_DeltaRead.l20,csf,Option.bind_some,Bool.not_true,Bool.and_false,cond_false,hL]
    exact this k (by omega)
   |some un=>
    obtain ⟨u,c⟩:=un
    obtain ⟨hu,c1,c2,_,_⟩:=gv_facts (b.drop p) u c (fun x hx=>hby x (List.mem_of_mem_drop hx)) hg
    rw [List.length_drop] at c2
    have elen:IntKind.wrap .i64 ((b.length:Int)-((p+c:Nat):Int))=((b.length-(p+c):Nat):Int):=by rw [w64 (by omega) (by omega)];omega
    simp only [Bool.not_true,cond_false,Option.bind_some,zag_eq k hu,impl_deltaReader_take,elen]
    by_cases hfit:minis≤b.length-(p+c)
    ·have e1:IntKind.wrap .i64 (((p+c:Nat):Int)+(minis:Int))=((p+c+minis:Nat):Int):=by rw [w64 (by omega) (by omega)];omega
     have e2:IntKind.wrap .i64 (((p+c+minis:Nat):Int)-(minis:Int))=((p+c:Nat):Int):=by rw [w64 (by omega) (by omega)];omega
     simp only [decide_eq_false (show ¬((b.length-(p+c):Nat):Int)<(minis:Int) by omega),decide_eq_false (show ¬(minis:Int)>((b.length-(p+c):Nat):Int) by omega),cond_false,Option.bind_some,e1,e2]
     rcases minis_any k hk b hb hby s minis (p+c) many (zagV u) block hs hs0 hs2 hm0 hmi (by omega) hmany hblk (impl_DeltaRead.l16 k n) (spec_DeltaRead.l13 k n) hL minis k k 0 (p+c+minis) A l (by omega) (by omega) (by omega) (by omega) hA hI with ⟨a1,a2⟩|⟨q,A',l',r1,r2,r3,r4,r5,r6,r7,r8⟩
     ·exact ⟨0,false,[],a1,a2,fun _=>⟨rfl,rfl⟩,nofun⟩
     ·have hgrow:=r5 (by omega) (by omega)
      obtain ⟨nx,ok,r,b1,b2,b3,b4⟩:=ih n q A' l' (by omega) (by omega) r2 r4 r6
      refine ⟨nx,ok,r,r7.trans b1,r8.trans b2,b3,fun hh=> ?_⟩
      obtain ⟨x1,x2⟩:=b4 hh
      exact ⟨by omega,x2⟩
    ·simp only [decide_eq_true (show ((b.length-(p+c):Nat):Int)<(minis:Int) by omega),decide_eq_true (show (minis:Int)>((b.length-(p+c):Nat):Int) by omega),cond_true,Option.bind_some]
     refine ⟨0,false,[],?_,rfl,fun _=>⟨rfl,rfl⟩,nofun⟩
     have:∀N:Nat,0<N→impl_DeltaRead.l20 k (impl_DeltaRead.l16 k n) N b (minis:Int) (many:Int) (s:Int) (zagV u) 0 0 (dR b (p+c) true) (A++[l])=some (((),0,false),[]):=by
      intro N hN
      obtain ⟨N,rfl⟩:∃x,N=x+1:=⟨N-1,by omega⟩
      simp only [impl_DeltaRead.l20,csf,Option.bind_some,Bool.not_true,Bool.and_false,cond_false,hL]
     exact this k (by omega)
theorem uvar_dr (hk:2000≤k) (b:List Int) (hb:b.length≤1048576) (hby:Byts b) (p:Nat) (hp:p≤b.length):
 (gv (b.drop p)=none∧impl_deltaReader_uvar k (dR b p false) []=some (0,(dR b p true,[]))∧spec_UvarGet k b (p:Int)=some (0,0,false)∧spec_ZigGet k b (p:Int)=some (0,0,false))∨
 ∃(u:Int) (q:Nat),I64 u∧q≤b.length∧p≤q∧impl_deltaReader_uvar k (dR b p false) []=some (u,(dR b q false,[]))∧spec_UvarGet k b (p:Int)=some (u,(q:Int),true)∧spec_ZigGet k b (p:Int)=some (zagV u,(q:Int),true):=by
 have g1:=iget_any k hk (by omega) hby p hp
 have g2:=sget_any k hk (by omega) hby p hp
 have g3:=szig_any k hk (by omega) hby p hp
 unfold impl_deltaReader_uvar
 simp only [g1,g2,g3]
 cases hg:gv (b.drop p) with
 |none=>
  left
  exact ⟨rfl,rfl,rfl,rfl⟩
 |some un=>
  right
  obtain ⟨u,c⟩:=un
  obtain ⟨hu,c1,c2,_,_⟩:=gv_facts (b.drop p) u c (fun x hx=>hby x (List.mem_of_mem_drop hx)) hg
  rw [List.length_drop] at c2
  exact ⟨u,p+c,hu,by omega,by omega,rfl,rfl,rfl⟩
theorem uvar_bad (hk:2000≤k) (b:List Int) (hb:b.length≤1048576) (hby:Byts b) (p:Nat) (hp:p≤b.length):impl_deltaReader_uvar k (dR b p true) []=some (0,(dR b p true,[])):=by
 have g1:=iget_any k hk (by omega) hby p hp
 unfold impl_deltaReader_uvar
 simp only [g1]
 cases gv (b.drop p)<;>rfl
theorem sget_tot (hk:2000≤k) (b:List Int) (hb:b.length≤1048576) (hby:Byts b) (p:Nat) (hp:p≤b.length):∃(u:Int) (q:Nat) (ok:Bool),q≤b.length∧spec_UvarGet k b (p:Int)=some (u,(q:Int),ok):=by
 rcases uvar_dr k hk b hb hby p hp with ⟨_,_,a,_⟩|⟨u,q,_,h1,_,_,a,_⟩
 ·exact ⟨0,0,false,by omega,a⟩
 ·exact ⟨u,q,true,h1,a⟩
theorem szig_tot (hk:2000≤k) (b:List Int) (hb:b.length≤1048576) (hby:Byts b) (p:Nat) (hp:p≤b.length):∃(u:Int) (q:Nat) (ok:Bool),spec_ZigGet k b (p:Int)=some (u,(q:Int),ok):=by
 rcases uvar_dr k hk b hb hby p hp with ⟨_,_,_,a⟩|⟨u,q,_,h1,_,_,_,a⟩
 ·exact ⟨0,0,false,a⟩
 ·exact ⟨_,q,true,a⟩
theorem deltaRead_any (hk:3000≤k) (b:List Int) (hb:b.length≤1048576) (hby:Byts b) (at_:Int):
 ∃nx ok r,impl_DeltaRead k b at_=some (((),nx,ok),r)∧spec_DeltaRead k b at_=some (((),nx,ok),r)∧
  (ok=false→nx=0∧r=[])∧(ok=true→(0≤at_∧at_≤nx∧nx≤(b.length:Int))∧r.length≤2000∧∀y,y∈r→I64 y):=by
 have fail:∃nx ok r,(some (((),0,false),[]):Option RunR)=some (((),nx,ok),r)∧(some (((),0,false),[]):Option RunR)=some (((),nx,ok),r)∧
  (ok=false→nx=0∧r=[])∧(ok=true→(0≤at_∧at_≤nx∧nx≤(b.length:Int))∧r.length≤2000∧∀y,y∈r→I64 y):=⟨_,_,_,rfl,rfl,fun _=>⟨rfl,rfl⟩,nofun⟩
 unfold impl_DeltaRead spec_DeltaRead
 simp only [within_eq,l1In_eq,Option.bind_some]
 by_cases hat:0≤at_∧at_≤(b.length:Int)
 ·obtain ⟨a0,a1⟩:=hat
  obtain ⟨p,rfl⟩:∃m:Nat,at_=m:=⟨at_.toNat,by omega⟩
  simp only [decide_eq_true a0,decide_eq_true a1,Bool.and_self,Bool.not_true,cond_false]
  have z0:impl_Zag k 0=some (zagV 0):=zag_eq k ⟨by decide,by decide⟩
  rcases uvar_dr k (by omega) b hb hby p (by omega) with ⟨_,i1,s1,_⟩|⟨u1,q1,hu1,h1,p1,i1,s1,_⟩
  ·obtain ⟨u2,q2,ok2,b2,s2⟩:=sget_tot k (by omega) b hb hby 0 (by omega)
   obtain ⟨u3,q3,ok3,b3,s3⟩:=sget_tot k (by omega) b hb hby q2 b2
   obtain ⟨u4,q4,ok4,s4⟩:=szig_tot k (by omega) b hb hby q3 b3
   rw [show ((0:Nat):Int)=0 from rfl] at s2
   have ub:=uvar_bad k (by omega) b hb hby p (by omega)
   have ib:impl_deltaReader_uvar k (b,(p:Int),false,(),()) []=some (0,(dR b p true,[])):=i1
   simp only [ib,ub,s1,s2,s3,s4,Option.bind_some,z0,cst,Bool.not_false,Bool.true_or,cond_true]
   exact fail
  have ib:impl_deltaReader_uvar k (b,(p:Int),false,(),()) []=some (u1,(dR b q1 false,[])):=i1
  rcases uvar_dr k (by omega) b hb hby q1 h1 with ⟨_,i2,s2,_⟩|⟨u2,q2,hu2,h2,p2,i2,s2,_⟩
  ·obtain ⟨u3,q3,ok3,b3,s3⟩:=sget_tot k (by omega) b hb hby 0 (by omega)
   obtain ⟨u4,q4,ok4,s4⟩:=szig_tot k (by omega) b hb hby q3 b3
   rw [show ((0:Nat):Int)=0 from rfl] at s3
   have ub:=uvar_bad k (by omega) b hb hby q1 h1
   simp only [ib,i2,ub,s1,s2,s3,s4,Option.bind_some,z0,cst,Bool.not_false,Bool.not_true,Bool.true_or,Bool.false_or,cond_true]
   exact fail
  rcases uvar_dr k (by omega) b hb hby q2 h2 with ⟨_,i3,s3,_⟩|⟨u3,q3,hu3,h3,p3,i3,s3,_⟩
  ·obtain ⟨u4,q4,ok4,s4⟩:=szig_tot k (by omega) b hb hby 0 (by omega)
   rw [show ((0:Nat):Int)=0 from rfl] at s4
   have ub:=uvar_bad k (by omega) b hb hby q2 h2
   simp only [ib,i2,i3,ub,s1,s2,s3,s4,Option.bind_some,z0,cst,Bool.not_false,Bool.not_true,Bool.true_or,Bool.false_or,cond_true]
   exact fail
  rcases uvar_dr k (by omega) b hb hby q3 h3 with ⟨_,i4,s4',s4⟩|⟨u4,q4,hu4,h4,p4,i4,s4',s4⟩
  ·simp only [ib,i2,i3,i4,s1,s2,s3,s4,Option.bind_some,z0,cst,Bool.not_false,Bool.not_true,Bool.true_or,Bool.false_or,cond_true]
   exact fail
  simp only [ib,i2,i3,i4,s1,s2,s3,s4,Option.bind_some,zag_eq k hu4,cst,Bool.not_true,Bool.false_or]
  by_cases hbk:128≤u1∧u1≤1024
  ·obtain ⟨k1,k2⟩:=hbk
   simp only [decide_eq_true k1,decide_eq_true k2,Bool.and_self,Bool.not_true,Bool.false_or]
   by_cases h128:Int.tmod u1 128=0
   ·simp only [bneF h128,Bool.false_or]
    by_cases hmi:1≤u2∧u2≤u1
    ·obtain ⟨m1,m2⟩:=hmi
     simp only [decide_eq_true m1,decide_eq_true m2,Bool.and_self,Bool.not_true,Bool.false_or,decide_eq_true (show u2≠0 by omega),cond_true,cond_false,Option.bind_some,cst]
     by_cases hcnt:0≤u3∧u3≤2000
     ·obtain ⟨n1,n2⟩:=hcnt
      simp only [decide_eq_true n1,decide_eq_true n2,Bool.and_self,Bool.not_true,Bool.or_false,cond_false]
      cases hdv:(Int.tmod u1 u2 !=0||Int.tmod (IntKind.wrap .i64 (Int.tdiv u1 u2)) 32 !=0) with
      |true=>
       simp only [cond_true]
       exact fail
      |false=>
       simp only [Bool.or_eq_false_iff,bne_eq_false_iff_eq] at hdv
       simp only [cond_false]
       obtain ⟨mi,rfl⟩:∃m:Nat,u2=m:=⟨u2.toNat,by omega⟩
       obtain ⟨bk,rfl⟩:∃m:Nat,u1=m:=⟨u1.toNat,by omega⟩
       obtain ⟨cn,rfl⟩:∃m:Nat,u3=m:=⟨u3.toNat,by omega⟩
       have ediv:IntKind.wrap .i64 (Int.tdiv (bk:Int) (mi:Int))=((bk/mi:Nat):Int):=by
        have e:Int.tdiv (bk:Int) (mi:Int)=((bk/mi:Nat):Int):=by rw [Int.tdiv_eq_ediv_of_nonneg (by omega),Int.natCast_ediv]
        have:bk/mi≤bk:=Nat.div_le_self _ _
        rw [e]
        generalize bk/mi=z at this⊢
        exact w64 (by omega) (by omega)
       have hdl:bk/mi≤bk:=Nat.div_le_self _ _
       have hdp:0<bk/mi:=Nat.div_pos (by omega) (by omega)
       have hs8:(bk/mi)%8=0:=by
        have h32:=hdv.2
        rw [ediv,Int.tmod_eq_emod_of_nonneg (by omega)] at h32
        omega
       by_cases hz:cn=0
       ·subst hz
        simp only [show (((0:Nat):Int)==0)=true from rfl,cond_true,show decide (((0:Nat):Int)>0)=false from rfl,cond_false]
        have l13:spec_DeltaRead.l13 k k b (q4:Int) (bk:Int) (mi:Int) ((0:Nat):Int) [] []=some (((),(q4:Int),true),[]):=by
         obtain ⟨kk,hkk⟩:∃x,k=x+1:=⟨k-1,by omega⟩
         rw [hkk]
         rfl
        rw [l13]
        exact ⟨_,_,_,rfl,rfl,nofun,fun _=>⟨⟨by omega,by omega,by omega⟩,by simp,fun y hy=>by cases hy⟩⟩
       ·have hgt:decide (((cn:Nat):Int)>0)=true:=decide_eq_true (by omega)
        simp only [beqF (show ¬((cn:Nat):Int)=0 by omega),cond_false,hgt,cond_true,ediv,lim_ok (show (0:Nat)+[zagV u4].length≤4294967296 by simp),List.nil_append]
        have hzI:I64 (zagV u4):=zagV_i64 u4
        obtain ⟨nx,ok,r,b1,b2,b3,b4⟩:=blocks_any k hk b hb hby (bk/mi) mi cn (bk:Int) hs8 hdp (by omega) (by omega) (by omega) (by omega) ediv 2000 k q4 [] (zagV u4) (by simp;omega) (by omega) h4 (by simp;omega) (by
         intro y hy
         rw [List.nil_append,List.mem_singleton] at hy
         subst hy
         exact hzI)
        rw [List.nil_append] at b1 b2
        refine ⟨nx,ok,r,b1,b2,b3,fun hh=> ?_⟩
        obtain ⟨x1,x2,x3,x4⟩:=b4 hh
        exact ⟨⟨by omega,by omega,x2⟩,by omega,x4⟩
     ·have:(decide ((0:Int)≤u3)&&decide (u3≤2000))=false:=by
       rw [Bool.eq_false_iff];intro h;simp only [Bool.and_eq_true,decide_eq_true_eq] at h;exact hcnt h
      simp only [this,Bool.not_false,Bool.or_true,cond_true]
      exact fail
    ·have:(decide ((1:Int)≤u2)&&decide (u2≤u1))=false:=by
      rw [Bool.eq_false_iff];intro h;simp only [Bool.and_eq_true,decide_eq_true_eq] at h;exact hmi h
     simp only [this,Bool.not_false,Bool.true_or,cond_true,Option.bind_some]
     exact fail
   ·simp only [bneT h128,Bool.true_or,cond_true,Option.bind_some]
    exact fail
  ·have:(decide ((128:Int)≤u1)&&decide (u1≤1024))=false:=by
    rw [Bool.eq_false_iff];intro h;simp only [Bool.and_eq_true,decide_eq_true_eq] at h;exact hbk h
   simp only [this,Bool.not_false,Bool.true_or,cond_true,Option.bind_some]
   exact fail
 ·have:(decide (0≤at_)&&decide (at_≤(b.length:Int)))=false:=by
   rw [Bool.eq_false_iff];intro h;simp only [Bool.and_eq_true,decide_eq_true_eq] at h;exact hat h
  simp only [this,Bool.not_false,cond_true]
  exact fail
end Go.Law
end
