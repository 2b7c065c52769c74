/- plain laws of the claim's functions -/
import Derived.Test.YtohaijhiclmkkaaGreatLawEPO0
set_option linter.unnecessarySimpa false
set_option linter.unusedSimpArgs false
set_option linter.unusedVariables false
set_option linter.unusedSectionVars false
section
set_option linter.unusedVariables false
set_option linter.unusedSimpArgs false
namespace Go.Law
open Go.Am Go.Fn
abbrev rdE (b:List Int) (p:Nat) (e:Int):TTreeReaderB:=(b,(p:Int),(),e,())
variable (k:Nat)
theorem fail_ok (b:List Int) (p:Nat) (e:Int) (acc:List TNode):impl_treeReader_fail k e (rdE b p 0) acc=some ((),(rdE b p e,acc)):=by
 unfold impl_treeReader_fail
 rw [beqT rfl,cond_true]
theorem fail_no (b:List Int) (p:Nat) {e:Int} (he:e≠0) (x:Int) (acc:List TNode):impl_treeReader_fail k x (rdE b p e) acc=some ((),(rdE b p e,acc)):=by
 unfold impl_treeReader_fail
 rw [beqF he,cond_false]
theorem iget_any (hk:2000≤k) {b:List Int} (hl:b.length<4611686018427387904) (hb:Byt b) (p:Nat) (hp:p≤b.length):impl_UvarGet k b (p:Int)=match gv (b.drop p) with
 |none=>some (0,0,false)
 |some (u,n)=>some (u,((p+n:Nat):Int),true):=by
 unfold impl_UvarGet
 rw [decide_eq_false (by omega),cond_false]
 have h:=igetLoop k b p hl hb (by omega) 10 k 0 0 rfl (by omega) (by simp)
 rw [show ((0:Nat):Int)=0 from rfl] at h
 rw [h]
 unfold gv
 rw [Nat.add_zero]
 cases gvN 10 (b.drop p) with
 |none=>rfl
 |some x=>
  simp only [Option.map_some,Nat.mul_zero,Nat.pow_zero,Nat.mul_one,Nat.zero_add]
theorem uvar_any (hk:2000≤k) {b:List Int} (hl:b.length<4611686018427387904) (hb:Byt b) (p:Nat) (hp:p≤b.length) (acc:List TNode):impl_treeReader_uvar k (rdE b p 0) acc=match gv (b.drop p) with
 |none=>some (0,(rdE b p 1,acc))
 |some (u,n)=>some (u,(rdE b (p+n) 0,acc)):=by
 unfold impl_treeReader_uvar
 rw [show (rdE b p 0).1=b from rfl,show (rdE b p 0).2.1=(p:Int) from rfl,iget_any k hk hl hb p hp]
 cases gv (b.drop p) with
 |none=>simp only [Option.bind_some,bneF rfl,cst,Bool.not_false,Bool.or_true,cond_true,fail_ok]
 |some x=>simp only [Option.bind_some,bneF rfl,cst,Bool.not_true,Bool.or_self,cond_false]
theorem uvar_no (hk:2000≤k) {b:List Int} (hl:b.length<4611686018427387904) (hb:Byt b) (p:Nat) (hp:p≤b.length) {e:Int} (he:e≠0) (acc:List TNode):impl_treeReader_uvar k (rdE b p e) acc=some (0,(rdE b p e,acc)):=by
 unfold impl_treeReader_uvar
 rw [show (rdE b p e).1=b from rfl,show (rdE b p e).2.1=(p:Int) from rfl,iget_any k hk hl hb p hp]
 cases gv (b.drop p) with
 |none=>simp only [Option.bind_some,bneT he,cst,Bool.true_or,cond_true,fail_no k b p he]
 |some x=>simp only [Option.bind_some,bneT he,cst,Bool.true_or,cond_true,fail_no k b p he]
theorem one_any {b:List Int} (hl:b.length<4611686018427387904) (hb:Byt b) (p:Nat) (hp:p≤b.length) (acc:List TNode):impl_treeReader_one k (rdE b p 0) acc=match b[p]? with
 |none=>some (0,(rdE b p 1,acc))
 |some h=>some (h,(rdE b (p+1) 0,acc)):=by
 unfold impl_treeReader_one
 by_cases hlt:p<b.length
 ·obtain ⟨c,hc,hc2⟩:=drop_cons_of hlt
  obtain ⟨c0,c1⟩:=hb c (List.mem_of_getElem? hc2)
  rw [hc2]
  have e:IntKind.wrap .i64 ((p:Int)+1)=((p+1:Nat):Int):=by rw [w64 (by omega) (by omega)];omega
  have e2:IntKind.wrap .i64 (((p+1:Nat):Int)-1)=(p:Int):=by rw [w64 (by omega) (by omega)];omega
  have cc:decide ((p:Int)≥(b.length:Int))=false:=decide_eq_false (by omega)
  have ec:IntKind.wrap .i64 c=c:=w64 (by omega) (by omega)
  simp only [bneF rfl,cst,Option.bind_some,cc,Bool.or_self,cond_false,e,e2,rdL_nat,hc2,ec]
 ·rw [List.getElem?_eq_none (by omega)]
  have c:decide ((p:Int)≥(b.length:Int))=true:=decide_eq_true (by omega)
  simp only [bneF rfl,cst,Option.bind_some,c,Bool.or_true,cond_true,fail_ok]
theorem one_no {b:List Int} (p:Nat) {e:Int} (he:e≠0) (acc:List TNode):impl_treeReader_one k (rdE b p e) acc=some (0,(rdE b p e,acc)):=by
 unfold impl_treeReader_one
 simp only [bneT he,cst,Option.bind_some,Bool.true_or,cond_true,fail_no k b p he]
theorem text_any (hk:2000≤k) {b:List Int} (hl:b.length<4611686018427387904) (hb:Byt b) (p:Nat) (hp:p≤b.length) (acc:List TNode):
 match prText b p with
 | .bad e=>e≠0∧∃q,q≤b.length∧impl_treeReader_text k (rdE b p 0) acc=some (⟨#[]⟩,(rdE b q e,acc))
 | .ok q s=>impl_treeReader_text k (rdE b p 0) acc=some (s,(rdE b q 0,acc)):=by
 unfold impl_treeReader_text prText
 rw [uvar_any k hk hl hb p hp]
 cases hg:gv (b.drop p) with
 |none=>
  refine ⟨by decide,p,hp,?_⟩
  simp only [Option.bind_some,beqF (show ¬(1:Int)=0 by decide),cond_false,impl_treeReader_text.c4,impl_treeReader_text.c6,bneT (show ¬(1:Int)=0 by decide),cond_true]
 |some z=>
  obtain ⟨u,n⟩:=z
  obtain ⟨⟨f0,f1⟩,f2,f3,f4,f5⟩:=gv_facts _ u n (fun x hx=>hb x (List.mem_of_mem_drop hx)) hg
  rw [List.length_drop] at f3
  simp only [Option.bind_some,beqT rfl,cond_true,within_eq]
  by_cases hu:u<0∨300<u
  ·rw [if_pos hu]
   have c1:(decide ((0:Int)≤u)&&decide (u≤300))=false:=by
    rw [Bool.eq_false_iff];intro q
    simp only [Bool.and_eq_true,decide_eq_true_eq] at q
    omega
   refine ⟨by decide,p+n,by omega,?_⟩
   simp only [c1,Bool.not_false,cond_true,fail_ok,Option.bind_some,impl_treeReader_text.c4,impl_treeReader_text.c6,beqF (show ¬(4:Int)=0 by decide),cond_false,bneT (show ¬(4:Int)=0 by decide)]
  ·rw [if_neg hu]
   have c1:(decide ((0:Int)≤u)&&decide (u≤300))=true:=by simp;omega
   have e1:IntKind.wrap .i64 ((b.length:Int)-((p+n:Nat):Int))=(b.length:Int)-((p+n:Nat):Int):=w64 (by omega) (by omega)
   simp only [c1,Bool.not_true,cond_false,impl_treeReader_text.c4,beqT rfl,cond_true,Option.bind_some,e1]
   by_cases hs:(b.length:Int)-((p+n:Nat):Int)<u
   ·rw [if_pos hs]
    refine ⟨by decide,p+n,by omega,?_⟩
    simp only [decide_eq_true (show u>(b.length:Int)-((p+n:Nat):Int) from hs),cond_true,fail_ok,Option.bind_some,impl_treeReader_text.c6,bneT (show ¬(1:Int)=0 by decide)]
   ·rw [if_neg hs]
    obtain ⟨U,rfl⟩:=Int.eq_ofNat_of_zero_le (show 0≤u by omega)
    have e2:IntKind.wrap .i64 (((p+n:Nat):Int)+(U:Int))=((p+n+U:Nat):Int):=by rw [w64 (by omega) (by omega)];omega
    have e3:IntKind.wrap .i64 (((p+n+U:Nat):Int)-(U:Int))=((p+n:Nat):Int):=by rw [w64 (by omega) (by omega)];omega
    have c3:inSl ((p+n:Nat):Int) ((p+n+U:Nat):Int) b.length=true:=inSl_ok (by omega) (by omega) (by omega)
    have hcut:cutL b ((p+n:Nat):Int) ((p+n+U:Nat):Int)=(b.drop (p+n)).take U:=by
     unfold cutL
     rw [Int.toNat_natCast,Int.toNat_natCast,List.drop_take,show p+n+U-(p+n)=U by omega]
    simp only [decide_eq_false (show ¬((U:Int)>(b.length:Int)-((p+n:Nat):Int)) from hs),cond_false,impl_treeReader_text.c6,bneF rfl,e2,e3,c3,cond_true,hcut,Int.toNat_natCast]
def INode (S:Int→Int→Int→TTreeReaderB→List TNode→Option (Unit×TTreeReaderB×List TNode)) (b:List Int) (kind id deep:Int) (p:Nat) (acc:List TNode) (r:Res (List TNode)):Prop:=
 match r with
 | .bad e=>e≠0∧∃q l,q≤b.length∧S kind id deep (rdE b p 0) acc=some ((),(rdE b q e,l))
 | .ok q Y=>q≤b.length∧S kind id deep (rdE b p 0) acc=some ((),(rdE b q 0,acc++Y))
theorem iparts (S:Int→Int→Int→TTreeReaderB→List TNode→Option (Unit×TTreeReaderB×List TNode)) (b:List Int) (item:Int) (deep:Nat) (hdeep:deep≤100) (P:Nat→Nat→Res (List TNode))
 (ih:∀(p:Nat) (acc:List TNode),p≤b.length→acc.length≤1500→INode S b item 0 ((deep+1:Nat):Int) p acc (P p acc.length))
 (hP:∀p c q Y,c≤1500→P p c= .ok q Y→c+Y.length≤1500) (many:Int) (hm:many≤1500):
 ∀(m f:Nat) (i:Int) (p:Nat) (acc:List TNode),many-i=m→0≤i→m<f→p≤b.length→acc.length≤1500→
 match prParts P m p acc.length with
 | .bad e=>e≠0∧∃q l,q≤b.length∧impl_treeReader_parts.l11 k S f (deep:Int) many item i (rdE b p 0) acc=some ((),(rdE b q e,l))
 | .ok q Y=>q≤b.length∧impl_treeReader_parts.l11 k S f (deep:Int) many item i (rdE b p 0) acc=some ((),(rdE b q 0,acc++Y)):=by
 have hdw:IntKind.wrap .i64 ((deep:Int)+1)=((deep+1:Nat):Int):=by rw [w64 (by omega) (by omega)];omega
 intro m
 induction m with
 |zero=>
  intro f i p acc hi h0 hf hp hc
  obtain ⟨f,rfl⟩:∃j,f=j+1:=⟨f-1,by omega⟩
  simp only [prParts,impl_treeReader_parts.l11,decide_eq_false (show ¬i<many by omega),cond_false,Option.bind_some,List.append_nil]
  exact ⟨hp,trivial⟩
 |succ m ihm=>
  intro f i p acc hi h0 hf hp hc
  obtain ⟨f,rfl⟩:∃j,f=j+1:=⟨f-1,by omega⟩
  have hi1:IntKind.wrap .i64 (i+1)=i+1:=w64 (by omega) (by omega)
  have h1:=ih p acc hp hc
  simp only [prParts,impl_treeReader_parts.l11,decide_eq_true (show i<many by omega),cond_true,Option.bind_some,beqT rfl,hdw,hi1]
  unfold INode at h1
  cases hr:P p acc.length with
  |bad e=>
   rw [hr] at h1
   obtain ⟨he,q,l,hq,e1⟩:=h1
   refine ⟨he,q,l,hq,?_⟩
   obtain ⟨f,rfl⟩:∃j,f=j+1:=⟨f-1,by omega⟩
   simp only [e1,Option.bind_some,impl_treeReader_parts.l11,beqF he]
   cases decide (i+1<many)<;>rfl
  |ok q Y=>
   rw [hr] at h1
   obtain ⟨hq,e1⟩:=h1
   have hlen:=hP _ _ _ _ hc hr
   have h2:=ihm f (i+1) q (acc++Y) (by omega) (by omega) (by omega) hq (by rw [List.length_append];exact hlen)
   rw [List.length_append] at h2
   simp only [e1,Option.bind_some]
   cases hr2:prParts P m q (acc.length+Y.length) with
   |bad e=>rw [hr2] at h2;exact h2
   |ok q2 Z=>rw [hr2] at h2;simpa [List.append_assoc] using h2
def IField (b:List Int) (pre:List TNode) (id0:Int) (j:Nat) (mid:List TNode) (r:Res (Nat×List TNode)) (X:Option (Unit×TTreeReaderB×List TNode)):Prop:=
 match r with
 | .bad e=>e≠0∧∃q l,q≤b.length∧X=some ((),(rdE b q e,l))
 | .ok q (m,Y)=>q≤b.length∧X=some ((),(rdE b q 0,pre++sn id0 ((j+m:Nat):Int)::(mid++Y)))
theorem ifields (hk:2000≤k) (S:Int→Int→Int→TTreeReaderB→List TNode→Option (Unit×TTreeReaderB×List TNode)) (b:List Int) (hl:b.length<4611686018427387904) (hb:Byt b) (deep:Nat) (hdeep:deep≤100) (P:Int→Int→Nat→Nat→Res (List TNode))
 (ih:∀(t id:Int) (p:Nat) (acc:List TNode),isKind t=true→p≤b.length→acc.length≤1500→INode S b t id ((deep+1:Nat):Int) p acc (P t id p acc.length))
 (hP:∀t id p c q Y,isKind t=true→c≤1500→P t id p c= .ok q Y→c+Y.length≤1500) (id0:Int) (pre:List TNode):
 ∀(g f:Nat) (last:Int) (p:Nat) (j:Nat) (mid:List TNode),1002≤(g:Int)+last→0≤last→last≤1000→g<f→p≤b.length→pre.length+1+mid.length≤1500→(j:Int)+g≤4000→
 IField b pre id0 j mid (prFields P b g last p (pre.length+1+mid.length)) (impl_treeReader_fields.l1 k S f (pre.length:Int) (deep:Int) last (rdE b p 0) (pre++sn id0 j::mid)):=by
 have hdw:IntKind.wrap .i64 ((deep:Int)+1)=((deep+1:Nat):Int):=by rw [w64 (by omega) (by omega)];omega
 intro g
 induction g with
 |zero=>intro f last p j mid h1 h2 h3;omega
 |succ g ihg=>
  intro f last p j mid h1 h2 h3 hf hp hc hj
  obtain ⟨f,rfl⟩:∃j,f=j+1:=⟨f-1,by omega⟩
  simp only [prFields,prHead,impl_treeReader_fields.l1,one_any k hl hb p hp]
  cases hy:b[p]? with
  |none=>
   refine ⟨by decide,p,pre++sn id0 j::mid,hp,?_⟩
   simp only [Option.bind_some,bneT (show ¬(1:Int)=0 by decide),cst,Bool.true_or,cond_true]
  |some y=>
   have hp1:p<b.length:=(List.getElem?_eq_some_iff.1 hy).1
   obtain ⟨y0,y1⟩:=hb y (List.mem_of_getElem? hy)
   simp only [Option.bind_some,bneF rfl,cst,Bool.false_or]
   by_cases hy0:y=0
   ·rw [if_pos hy0]
    simp only [beqT hy0,cond_true,if_true]
    exact ⟨by omega,by simp⟩
   ·have hmod:Int.tmod y 16=y%16:=Int.tmod_eq_emod_of_nonneg y0
    have hdiv:IntKind.wrap .i64 (last+IntKind.wrap .i64 (Int.tdiv y 16))=last+y/16:=by
     rw [Int.tdiv_eq_ediv_of_nonneg y0,w64 (show -9223372036854775808≤y/16 by omega) (by omega),w64 (by omega) (by omega)]
    rw [if_neg hy0]
    simp only [beqF hy0,cond_false,hmod,hdiv,isType_eq,Option.bind_some]
    have hty:(isItem (y%16)||((y%16==1||y%16==2)&& !false))=isKind (y%16):=by
     unfold isKind
     cases isItem (y%16)<;>cases (y%16==1)<;>cases (y%16==2)<;>rfl
    rw [hty]
    have stuck8:∀(q:Nat) (e:Int),e≠0→∀x y z:Int,impl_treeReader_fields.c8 k S (impl_treeReader_fields.l1 k S f) (pre.length:Int) (deep:Int) x y z (rdE b q e) (pre++sn id0 j::mid)=some ((),(rdE b q e,pre++sn id0 j::mid)):=by
     intro q e he x y z
     simp only [impl_treeReader_fields.c8,impl_treeReader_fields.c10,impl_treeReader_fields.c12,beqF he,cond_false,Option.bind_some,bneT he,cond_true]
    by_cases hkd:isKind (y%16)=true
    ·rw [if_neg (by rw [hkd];decide),hkd]
     simp only [Bool.not_true,cond_false,impl_treeReader_fields.c6]
     have tail:∀(id:Int) (q:Nat),I64 id→q≤b.length→
      IField b pre id0 j mid (match (if id<1∨1000<id then (.bad 3:Res (Int×Int)) else if id≤last then .bad 5 else .ok q (y%16,id)) with
       | .bad e=> .bad e
       | .ok q (t,id)=>if t=0 then .ok q (0,[]) else match P t id q (pre.length+1+mid.length) with
         | .bad e=> .bad e
         | .ok r Y=>match prFields P b g id r (pre.length+1+mid.length+Y.length) with
           | .bad e=> .bad e
           | .ok z (m,Z)=> .ok z (m+1,Y++Z))
       (impl_treeReader_fields.c8 k S (impl_treeReader_fields.l1 k S f) (pre.length:Int) (deep:Int) last (y%16) id (rdE b q 0) (pre++sn id0 j::mid)):=by
      have ht0:¬y%16=0:=by rcases kind_cases hkd with e|e|e|e|e|e|e<;>omega
      intro id q hid hq
      have hget:∀x:TNode,rdL (pre++x::mid) (pre.length:Int)=some x:=fun x=>by
       rw [rdL_nat,List.getElem?_append_right (Nat.le_refl _)];simp
      have hset:∀x y:TNode,List.set (pre++x::mid) (Int.toNat (pre.length:Int)) y=pre++y::mid:=fun x y=>by
       rw [Int.toNat_natCast,List.set_append_right _ _ (Nat.le_refl _)];simp
      by_cases c1:id<1∨1000<id
      ·rw [if_pos c1]
       have hw:(decide ((1:Int)≤id)&&decide (id≤1000))=false:=by
        rw [Bool.eq_false_iff];intro q
        simp only [Bool.and_eq_true,decide_eq_true_eq] at q
        omega
       refine ⟨by decide,q,pre++sn id0 j::mid,hq,?_⟩
       simp only [impl_treeReader_fields.c8,beqT rfl,cond_true,within_eq,hw,Option.bind_some,Bool.not_false,fail_ok,impl_treeReader_fields.c10,impl_treeReader_fields.c12,beqF (show ¬(3:Int)=0 by decide),cond_false,bneT (show ¬(3:Int)=0 by decide)]
      ·rw [if_neg c1]
       have hw:(decide ((1:Int)≤id)&&decide (id≤1000))=true:=by simp;omega
       simp only [impl_treeReader_fields.c8,beqT rfl,cond_true,within_eq,hw,Option.bind_some,Bool.not_true,cond_false,impl_treeReader_fields.c10]
       by_cases c2:id≤last
       ·rw [if_pos c2]
        refine ⟨by decide,q,pre++sn id0 j::mid,hq,?_⟩
        simp only [decide_eq_true c2,cond_true,fail_ok,Option.bind_some,impl_treeReader_fields.c12,bneT (show ¬(5:Int)=0 by decide)]
       ·rw [if_neg c2]
        have hjw:IntKind.wrap .i64 ((j:Int)+1)=((j+1:Nat):Int):=by rw [w64 (by omega) (by omega)];omega
        have hsn:((sn id0 j).1,(sn id0 j).2.1,(sn id0 j).2.2.1,(sn id0 j).2.2.2.1,IntKind.wrap .i64 ((sn id0 j).2.2.2.2.1+1),())=sn id0 ((j+1:Nat):Int):=by
         show (_,_,_,_,IntKind.wrap .i64 ((j:Int)+1),())=_
         rw [hjw];rfl
        simp only [decide_eq_false c2,cond_false,impl_treeReader_fields.c12,bneF rfl,hget,hset,Option.bind_some,hdw,hsn,if_neg ht0]
        have hn:=ih (y%16) id q (pre++sn id0 ((j+1:Nat):Int)::mid) hkd hq (by simp;omega)
        rw [show (pre++sn id0 ((j+1:Nat):Int)::mid).length=pre.length+1+mid.length by simp;omega] at hn
        unfold INode at hn
        cases hr:P (y%16) id q (pre.length+1+mid.length) with
        |bad e=>
         rw [hr] at hn
         obtain ⟨he,q',l,hq',e1⟩:=hn
         refine ⟨he,q',l,hq',?_⟩
         obtain ⟨f,rfl⟩:∃j,f=j+1:=⟨f-1,by omega⟩
         simp only [e1,Option.bind_some,impl_treeReader_fields.l1,one_no k q' he,bneT he,cst,Bool.true_or,cond_true]
        |ok r Y=>
         rw [hr] at hn
         obtain ⟨hr1,e1⟩:=hn
         have hlen:=hP _ _ _ _ _ _ hkd (by omega) hr
         have h4:=ihg f id r (j+1) (mid++Y) (by omega) (by omega) (by omega) (by omega) hr1 (by rw [List.length_append];omega) (by omega)
         rw [List.length_append,←Nat.add_assoc] at h4
         simp only [e1,Option.bind_some,List.append_assoc,List.cons_append]
         cases hr2:prFields P b g id r (pre.length+1+mid.length+Y.length) with
         |bad e=>rw [hr2] at h4;exact h4
         |ok z x=>
          obtain ⟨m,Z⟩:=x
          rw [hr2] at h4
          obtain ⟨h5,h6⟩:=h4
          refine ⟨h5,?_⟩
          rw [h6,show j+1+m=j+(m+1) by omega,List.append_assoc]
     by_cases h16:y/16=0
     ·simp only [if_pos h16,decide_eq_true (show y<16 by omega),cond_true,uvar_any k hk hl hb (p+1) (by omega)]
      cases hg:gv (b.drop (p+1)) with
      |none=>
       simp only [Option.map_none,Option.bind_some]
       obtain ⟨w,hw⟩:∃w,impl_Zag k 0=some w:=⟨_,zag_eq k ⟨by decide,by decide⟩⟩
       refine ⟨by decide,p+1,pre++sn id0 j::mid,by omega,?_⟩
       rw [hw,Option.bind_some,stuck8 (p+1) 1 (by decide)]
      |some z=>
       obtain ⟨u,n⟩:=z
       obtain ⟨f1,f2,f3,f4,f5⟩:=gv_facts _ u n (fun x hx=>hb x (List.mem_of_mem_drop hx)) hg
       rw [List.length_drop] at f3
       simp only [Option.map_some,Option.bind_some,zag_eq k f1]
       exact tail (zagV u) (p+1+n) (zagV_i64 u) (by omega)
     ·simp only [if_neg h16,decide_eq_false (show ¬y<16 by omega),cond_false]
      exact tail (last+y/16) (p+1) ⟨by omega,by omega⟩ (by omega)
    ·have hkf:isKind (y%16)=false:=by simpa using hkd
     rw [if_pos hkf,hkf]
     simp only [Bool.not_false,cond_true,fail_ok,Option.bind_some,impl_treeReader_fields.c6]
     refine ⟨by decide,p+1,pre++sn id0 j::mid,by omega,?_⟩
     by_cases h16:y<16
     ·obtain ⟨w,hw⟩:∃w,impl_Zag k 0=some w:=⟨_,zag_eq k ⟨by decide,by decide⟩⟩
      simp only [decide_eq_true h16,cond_true,uvar_no k hk hl hb (p+1) (by omega) (show (2:Int)≠0 by decide),Option.bind_some,hw,stuck8 (p+1) 2 (by decide)]
     ·simp only [decide_eq_false h16,cond_false,stuck8 (p+1) 2 (by decide)]
theorem begin_any {n:TNode} {b:List Int} {p:Nat} {deep:Nat} {acc:List TNode} (hd:deep≤100) (ha:acc.length≤1500):
 impl_treeReader_begin k n (deep:Int) (rdE b p 0) acc=if 12<deep∨acc.length=1500 then some (0,(rdE b p 4,acc)) else some ((acc.length:Int),(rdE b p 0,acc++[n])):=by
 by_cases h:12<deep∨acc.length=1500
 ·rw [if_pos h]
  unfold impl_treeReader_begin impl_treeReader_begin.c3
  have:(decide ((deep:Int)>12)||((acc.length:Int)==1500))=true:=by
   rcases h with h|h
   ·rw [decide_eq_true (show (deep:Int)>12 by omega),Bool.true_or]
   ·rw [beqT (show (acc.length:Int)=1500 by omega),Bool.or_true]
  simp only [cst,this,Option.bind_some,cond_true,fail_ok,bneT (show ¬(4:Int)=0 by decide)]
 ·rw [if_neg h]
  exact begin_ok k rfl (by omega) (by omega)
theorem irdN (hk:2000≤k) (b:List Int) (hl:b.length<4611686018427387904) (hb:Byt b):∀(d D deep:Nat) (kind id:Int) (p:Nat) (acc:List TNode),d+deep=13→2*d<D→isKind kind=true→p≤b.length→acc.length≤1500→
 INode (impl_treeReader_node.rec k D).1 b kind id (deep:Int) p acc (prN d b kind id p acc.length):=by
 intro d
 induction d with
 |zero=>
  intro D deep kind id p acc hdd hD hkd hp hc
  obtain ⟨D,rfl⟩:∃m,D=m+1:=⟨D-1,by omega⟩
  refine ⟨by decide,p,acc,hp,?_⟩
  simp only [impl_treeReader_node.rec,impl_treeReader_node.b]
  rw [begin_any k (by omega) hc,if_pos (by omega)]
  simp only [Option.bind_some,bneT (show ¬(4:Int)=0 by decide),cond_true]
 |succ d ih=>
  intro D deep kind id p acc hdd hD hkd hp hc
  obtain ⟨D,rfl⟩:∃m,D=m+2:=⟨D-2,by omega⟩
  have hset:∀(acc:List TNode) (x y:TNode),List.set (acc++[x]) (Int.toNat (acc.length:Int)) y=acc++[y]:=fun acc x y=>by
   rw [Int.toNat_natCast,List.set_append_right _ _ (Nat.le_refl _)];simp
  have hget:∀(acc:List TNode) (x:TNode),rdL (acc++[x]) (acc.length:Int)=some x:=fun acc x=>by
   rw [rdL_nat,List.getElem?_append_right (Nat.le_refl _)];simp
  unfold prN
  by_cases hc5:acc.length=1500
  ·rw [if_pos hc5]
   refine ⟨by decide,p,acc,hp,?_⟩
   simp only [impl_treeReader_node.rec,impl_treeReader_node.b]
   rw [begin_any k (by omega) hc,if_pos (.inr hc5)]
   simp only [Option.bind_some,bneT (show ¬(4:Int)=0 by decide),cond_true]
  ·rw [if_neg hc5]
   unfold INode
   simp only [impl_treeReader_node.rec,impl_treeReader_node.b]
   rw [begin_any k (by omega) hc,if_neg (show ¬(12<deep∨acc.length=1500) by omega)]
   simp only [Option.bind_some,bneF rfl,cond_false]
   by_cases h56:kind=5∨kind=6
   ·rw [if_pos h56]
    have e0:(cond (kind==5)
         (impl_treeReader_node.c5 k (impl_treeReader_node.rec k (D+1)).2.1 (impl_treeReader_node.rec k (D+1)).2.2 kind (deep:Int) (acc.length:Int) kind (kind==5) (rdE b p 0) (acc++[(kind,id,0,(⟨#[]⟩:ByteArray),0,())]))
         (impl_treeReader_node.c5 k (impl_treeReader_node.rec k (D+1)).2.1 (impl_treeReader_node.rec k (D+1)).2.2 kind (deep:Int) (acc.length:Int) kind (kind==6) (rdE b p 0) (acc++[(kind,id,0,(⟨#[]⟩:ByteArray),0,())])))
     =impl_treeReader_node.c5 k (impl_treeReader_node.rec k (D+1)).2.1 (impl_treeReader_node.rec k (D+1)).2.2 kind (deep:Int) (acc.length:Int) kind true (rdE b p 0) (acc++[(kind,id,0,(⟨#[]⟩:ByteArray),0,())]):=by
     rcases h56 with h|h
     ·rw [beqT h,cond_true]
     ·rw [beqF (show ¬kind=5 by omega),beqT h,cond_false]
    simp only [impl_treeReader_node.rec] at e0
    rw [e0]
    simp only [impl_treeReader_node.c5,cond_true,uvar_any k hk hl hb p hp]
    cases hg:gv (b.drop p) with
    |none=>
     obtain ⟨w,hw⟩:∃w,impl_Zag k 0=some w:=⟨_,zag_eq k ⟨by decide,by decide⟩⟩
     refine ⟨by decide,p,acc++[(kind,id,w,⟨#[]⟩,0,())],hp,?_⟩
     simp only [Option.bind_some,hw,beqF (show ¬(1:Int)=0 by decide),csf,Bool.and_false,cond_false,impl_treeReader_node.c8,hget,hset]
    |some z=>
     obtain ⟨u,n⟩:=z
     obtain ⟨f1,f2,f3,f4,f5⟩:=gv_facts _ u n (fun x hx=>hb x (List.mem_of_mem_drop hx)) hg
     rw [List.length_drop] at f3
     simp only [Option.bind_some,zag_eq k f1,beqT rfl,csf,Bool.and_true,impl_isInt32,within_eq]
     have h32:(decide (-2147483648≤zagV u)&&decide (zagV u≤2147483647))=int32 (zagV u):=rfl
     rw [h32]
     by_cases hbad:kind=5∧int32 (zagV u)=false
     ·rw [if_pos hbad]
      refine ⟨by decide,p+n,acc++[(kind,id,zagV u,⟨#[]⟩,0,())],by omega,?_⟩
      simp only [beqT hbad.1,hbad.2,Bool.not_false,Bool.and_self,cond_true,fail_ok,Option.bind_some,impl_treeReader_node.c8,hget,hset]
     ·rw [if_neg hbad]
      have hb2:((kind==5)&& !int32 (zagV u))=false:=by
       rw [Bool.eq_false_iff];intro q
       simp only [Bool.and_eq_true,beq_iff_eq,Bool.not_eq_true'] at q
       exact hbad q
      refine ⟨by omega,?_⟩
      simp only [hb2,cond_false,impl_treeReader_node.c8,hget,hset,Option.bind_some]
   ·rw [if_neg h56]
    have e5:(kind==5)=false:=beqF (by omega)
    have e6:(kind==6)=false:=beqF (by omega)
    simp only [e5,e6,cond_false,impl_treeReader_node.c5]
    by_cases h8:kind=8
    ·subst h8
     simp only [if_true,show ((8:Int)==8)=true from rfl,cond_true,impl_treeReader_node.d10]
     have ht:=text_any k hk hl hb p hp (acc++[(8,id,0,(⟨#[]⟩:ByteArray),0,())])
     cases hr:prText b p with
     |bad e=>
      rw [hr] at ht
      obtain ⟨he,q,hq,e1⟩:=ht
      refine ⟨he,q,acc++[(8,id,0,⟨#[]⟩,0,())],hq,?_⟩
      simp only [e1,Option.bind_some,hget,hset]
     |ok q s=>
      rw [hr] at ht
      have hq:q≤b.length:=by
       unfold prText at hr
       split at hr
       ·cases hr
       ·rename_i u n hg
        obtain ⟨f1,f2,f3,f4,f5⟩:=gv_facts _ u n (fun x hx=>hb x (List.mem_of_mem_drop hx)) hg
        rw [List.length_drop] at f3
        split at hr
        ·cases hr
        ·split at hr
         ·cases hr
         ·simp only [Res.ok.injEq] at hr
          omega
      refine ⟨hq,?_⟩
      simp only [ht,Option.bind_some,hget,hset]
    ·rw [if_neg h8]
     simp only [beqF h8,cond_false]
     by_cases h9:kind=9
     ·subst h9
      simp only [if_true,show ((9:Int)==9)=true from rfl,cond_true,impl_treeReader_parts.b,prMany,one_any k hl hb p hp]
      cases hy:b[p]? with
      |none=>
       refine ⟨by decide,p,acc++[(9,id,0,⟨#[]⟩,0,())],hp,?_⟩
       simp only [Option.bind_some,show (IntKind.wrap .i64 (Int.tdiv 0 16)==15)=false by decide,cond_false,impl_treeReader_parts.c4,bneT (show ¬(1:Int)=0 by decide),cst,Bool.true_or,cond_true]
      |some y=>
       have hp1:p<b.length:=(List.getElem?_eq_some_iff.1 hy).1
       obtain ⟨y0,y1⟩:=hb y (List.mem_of_getElem? hy)
       have e16:IntKind.wrap .i64 (Int.tdiv y 16)=y/16:=by
        rw [Int.tdiv_eq_ediv_of_nonneg y0,w64 (by omega) (by omega)]
       have em:Int.tmod y 16=y%16:=Int.tmod_eq_emod_of_nonneg y0
       simp only [Option.bind_some,e16,em]
       have tail:∀(many:Int) (q:Nat),I64 many→q≤b.length→
        match (match (if many=0 then (.ok q (0,0):Res (Int×Int)) else if isItem (y%16)=false then .bad 2 else if many<0∨1500<many then .bad 4 else .ok q (many,y%16)) with
         | .bad e=>(.bad e:Res (List TNode))
         | .ok q (many,item)=>match prParts (fun p c=>prN d b item 0 p c) many.toNat q (acc.length+1) with
           | .bad e=> .bad e
           | .ok r Y=> .ok r ((9,id,item,⟨#[]⟩,many,())::Y)) with
        | .bad e=>e≠0∧∃q' l,q'≤b.length∧((impl_treeReader_parts.c4 k (impl_treeReader_node.rec k D).1 (acc.length:Int) (deep:Int) many (y%16) (rdE b q 0) (acc++[(9,id,0,(⟨#[]⟩:ByteArray),0,())])).bind fun r12=>some ((),(r12.2.1,r12.2.2)))=some ((),(rdE b q' e,l))
        | .ok q' Y=>q'≤b.length∧((impl_treeReader_parts.c4 k (impl_treeReader_node.rec k D).1 (acc.length:Int) (deep:Int) many (y%16) (rdE b q 0) (acc++[(9,id,0,(⟨#[]⟩:ByteArray),0,())])).bind fun r12=>some ((),(r12.2.1,r12.2.2)))=some ((),(rdE b q' 0,acc++Y)):=by
        intro many q hmany hq
        simp only [impl_treeReader_parts.c4,bneF rfl,cst,Bool.false_or,Option.bind_some]
        by_cases h0:many=0
        ·simp only [if_pos h0,Int.toNat_zero,prParts,beqT h0,cond_true,Option.bind_some]
         exact ⟨hq,trivial⟩
        ·simp only [if_neg h0,beqF h0,cond_false,isType_eq,Bool.not_true,Bool.and_false,Bool.or_false,Option.bind_some]
         by_cases hi:isItem (y%16)=true
         ·rw [if_neg (by rw [hi];decide),hi]
          simp only [Bool.not_true,cond_false,impl_treeReader_parts.c7,within_eq,Option.bind_some]
          by_cases hm:many<0∨1500<many
          ·have hw:(decide ((0:Int)≤many)&&decide (many≤1500))=false:=by
            rw [Bool.eq_false_iff];intro q
            simp only [Bool.and_eq_true,decide_eq_true_eq] at q
            omega
           obtain ⟨K,hK⟩:∃K,k=K+1:=⟨k-1,by omega⟩
           rw [if_pos hm]
           refine ⟨by decide,q,acc++[(9,id,y%16,⟨#[]⟩,many,())],hq,?_⟩
           have hstop:impl_treeReader_parts.l11 k (impl_treeReader_node.rec k D).1 k (deep:Int) many (y%16) 0 (rdE b q 4) (acc++[(9,id,y%16,⟨#[]⟩,many,())])=some ((),(rdE b q 4,acc++[(9,id,y%16,⟨#[]⟩,many,())])):=by
            conv=>lhs;rw [show k=k from rfl]
            have:∀f,f≠0→impl_treeReader_parts.l11 k (impl_treeReader_node.rec k D).1 f (deep:Int) many (y%16) 0 (rdE b q 4) (acc++[(9,id,y%16,⟨#[]⟩,many,())])=some ((),(rdE b q 4,acc++[(9,id,y%16,⟨#[]⟩,many,())])):=by
             intro f hf
             obtain ⟨f,rfl⟩:∃j,f=j+1:=⟨f-1,by omega⟩
             simp only [impl_treeReader_parts.l11,beqF (show ¬(4:Int)=0 by decide)]
             cases decide ((0:Int)<many)<;>rfl
            exact this k (by omega)
           simp only [hw,Bool.not_false,cond_true,fail_ok,Option.bind_some,impl_treeReader_parts.c9,hget,hset,hstop]
          ·rw [if_neg hm]
           have hw:(decide ((0:Int)≤many)&&decide (many≤1500))=true:=by simp;omega
           simp only [hw,Bool.not_true,cond_false,impl_treeReader_parts.c9,hget,hset,Option.bind_some]
           have hp:=iparts k (impl_treeReader_node.rec k D).1 b (y%16) deep (by omega) (fun p c=>prN d b (y%16) 0 p c)
            (fun p acc hp hc=>ih D (deep+1) (y%16) 0 p acc (by omega) (by omega) (isKind_of_item hi) hp hc)
            (fun p c q Y hc h=>by
             obtain ⟨_,n,X,rfl,_,_,_,h5⟩:=prN_enc d b (y%16) 0 p c q Y (isKind_of_item hi) hc h
             exact h5) many (by omega) many.toNat k 0 q (acc++[(9,id,y%16,⟨#[]⟩,many,())]) (by omega) (by omega) (by omega) hq (by simp;omega)
           rw [List.length_append,List.length_singleton] at hp
           cases hr:prParts (fun p c=>prN d b (y%16) 0 p c) many.toNat q (acc.length+1) with
           |bad e=>
            rw [hr] at hp
            obtain ⟨he,q',l,hq',e1⟩:=hp
            exact ⟨he,q',l,hq',by rw [e1];rfl⟩
           |ok q' Y=>
            rw [hr] at hp
            obtain ⟨hq',e1⟩:=hp
            exact ⟨hq',by rw [e1];simp⟩
         ·have hif:isItem (y%16)=false:=by simpa using hi
          rw [if_pos hif,hif]
          simp only [Bool.not_false,cond_true,fail_ok,Option.bind_some,impl_treeReader_parts.c7,within_eq]
          have hstop:impl_treeReader_parts.c9 k (impl_treeReader_node.rec k D).1 (acc.length:Int) (deep:Int) many (y%16) (rdE b q 2) (acc++[(9,id,0,(⟨#[]⟩:ByteArray),0,())])=some ((),(rdE b q 2,acc++[(9,id,y%16,⟨#[]⟩,many,())])):=by
           simp only [impl_treeReader_parts.c9,hget,hset,Option.bind_some]
           have:∀f,f≠0→impl_treeReader_parts.l11 k (impl_treeReader_node.rec k D).1 f (deep:Int) many (y%16) 0 (rdE b q 2) (acc++[(9,id,y%16,⟨#[]⟩,many,())])=some ((),(rdE b q 2,acc++[(9,id,y%16,⟨#[]⟩,many,())])):=by
            intro f hf
            obtain ⟨f,rfl⟩:∃j,f=j+1:=⟨f-1,by omega⟩
            simp only [impl_treeReader_parts.l11,beqF (show ¬(2:Int)=0 by decide)]
            cases decide ((0:Int)<many)<;>rfl
           exact this k (by omega)
          refine ⟨by decide,q,acc++[(9,id,y%16,⟨#[]⟩,many,())],hq,?_⟩
          cases hw:(decide ((0:Int)≤many)&&decide (many≤1500)) with
          |true=>simp only [Bool.not_true,cond_false,hstop,Option.bind_some]
          |false=>simp only [Bool.not_false,cond_true,fail_no k b q (show (2:Int)≠0 by decide),Option.bind_some,hstop]
       by_cases h15:y/16=15
       ·simp only [if_pos h15,beqT h15,cond_true,uvar_any k hk hl hb (p+1) (by omega)]
        cases hg:gv (b.drop (p+1)) with
        |none=>
         refine ⟨by decide,p+1,acc++[(9,id,0,⟨#[]⟩,0,())],by omega,?_⟩
         simp only [Option.map_none,Option.bind_some,impl_treeReader_parts.c4,bneT (show ¬(1:Int)=0 by decide),cst,Bool.true_or,cond_true]
        |some z=>
         obtain ⟨u,n⟩:=z
         obtain ⟨f1,f2,f3,f4,f5⟩:=gv_facts _ u n (fun x hx=>hb x (List.mem_of_mem_drop hx)) hg
         rw [List.length_drop] at f3
         simp only [Option.map_some,Option.bind_some]
         exact tail u (p+1+n) f1 (by omega)
       ·simp only [if_neg h15,beqF h15,cond_false]
        exact tail (y/16) (p+1) ⟨by omega,by omega⟩ (by omega)
     ·rw [if_neg h9]
      simp only [beqF h9,cond_false]
      by_cases h12:kind=12
      ·subst h12
       simp only [if_true,show ((12:Int)==12)=true from rfl,cond_true,impl_treeReader_fields.b]
       have hf:=ifields k hk (impl_treeReader_node.rec k D).1 b hl hb deep (by omega) (fun t id p c=>prN d b t id p c)
        (fun t id p acc ht hp hc=>ih D (deep+1) t id p acc (by omega) (by omega) ht hp hc)
        (fun t id p c q Y ht hc h=>by
         obtain ⟨_,n,X,rfl,_,_,_,h5⟩:=prN_enc d b t id p c q Y ht hc h
         exact h5) id acc 1002 k 0 p 0 [] (by omega) (by omega) (by omega) (by omega) hp (by simp;omega) (by omega)
       rw [List.length_nil,Nat.add_zero] at hf
       rw [show (acc++[((12:Int),id,(0:Int),(⟨#[]⟩:ByteArray),(0:Int),())]:List TNode)=acc++sn id ((0:Nat):Int)::[] from rfl]
       unfold IField at hf
       cases hr:prFields (fun t id p c=>prN d b t id p c) b 1002 0 p (acc.length+1) with
       |bad e=>
        rw [hr] at hf
        obtain ⟨he,q',l,hq',e1⟩:=hf
        exact ⟨he,q',l,hq',by rw [e1];rfl⟩
       |ok q' x=>
        obtain ⟨m,Y⟩:=x
        rw [hr] at hf
        obtain ⟨hq',e1⟩:=hf
        refine ⟨hq',?_⟩
        rw [e1]
        simp [sn]
      ·rw [if_neg h12]
       simp only [beqF h12,cond_false]
       exact ⟨hp,trivial⟩
end Go.Law
end
section
set_option linter.unusedVariables false
set_option linter.unusedSimpArgs false
namespace Go.Law
open Go.Am Go.Fn
theorem bits_xor_comm (k:IntKind) (a b:Int):bits .xor k a b=bits .xor k b a:=by
 simp only [bits,BitVec.xor_comm]
theorem and_mask63 (x:Int):bits .and .i64 x 9223372036854775807=x%9223372036854775808:=by
 have hc:(9223372036854775807:Int)=((2^63-1:Nat):Int):=by decide
 have hb:(2^63-1)%2^IntKind.i64.bits=2^63-1:=by decide
 rw [hc]
 simp only [bits,BitVec.ofInt_natCast,BitVec.toNat_and,BitVec.toNat_ofNat,hb,Nat.and_two_pow_sub_one_eq_mod,BitVec.toNat_ofInt]
 show IntKind.wrap .i64 (((x%((2^64:Nat):Int)).toNat%2^63:Nat):Int)=_
 rw [w64 (by omega) (by omega)]
 omega
variable (k:Nat)
theorem szag_eq {u:Int} (h:I64 u):spec_Zag k u=some (zagV u):=by
 obtain ⟨h0,h1⟩:=h
 have hm:IntKind.wrap .i64 (shlI .i64 1 (IntKind.wrap .i64 (64-1))-1)=9223372036854775807:=by decide
 have hd:spec_l2Down k u 1=some ((u%18446744073709551616)/2):=by
  unfold spec_l2Down
  rw [beqF (by decide),cond_false,decide_eq_true (show (0:Int)≤1 by decide),cond_true,decide_eq_true (show (0:Int)≤IntKind.wrap .i64 (64-1) by decide),cond_true,hm,and_mask63]
  have:=shrI_eq .i64 u 1 (by decide)
  rw [show ((1:Nat):Int)=1 from rfl] at this
  rw [this]
  congr 1
  omega
 unfold spec_Zag zagV
 rw [hd,and1]
 by_cases h2:u%2=0
 ·rw [if_pos h2,beqF (by omega)]
  rfl
 ·rw [if_neg h2,beqT (by omega)]
  simp only [cond_true,Option.bind_some]
  rw [bits_xor_comm,xor_ones _ (by omega) (by omega)]
theorem sgetLoop (b:List Int) (p:Nat) (hb:b.length<4611686018427387904) (hby:∀x,x∈b→0≤x∧x<256) (hp:p≤b.length):∀(f n i acc:Nat),i+f=10→f<n→acc<2^(7*i)→
 spec_UvarGet.l5 k n b (p:Int) (IntKind.wrap .i64 (acc:Int)) (i:Int)=match gvN f (b.drop (p+i)) with
  |none=>some (0,0,false)
  |some (v,m)=>some (IntKind.wrap .i64 ((acc+v*2^(7*i):Nat):Int),((p+i+m:Nat):Int),true):=by
 have last:∀(n:Nat) (x:Int),0<n→spec_UvarGet.l5 k n b (p:Int) x ((10:Nat):Int)=some (0,0,false):=by
  intro n x hn
  obtain ⟨n,rfl⟩:∃j,n=j+1:=⟨n-1,by omega⟩
  simp only [spec_UvarGet.l5,show decide (((10:Nat):Int)<10)=false by decide,cond_false,Option.bind_some]
 intro f
 induction f with
 |zero=>
  intro n i acc hi hn hacc
  obtain rfl:i=10:=by omega
  exact last n _ (by omega)
 |succ f ih=>
  intro n i acc hi hn hacc
  obtain ⟨n,rfl⟩:∃j,n=j+1:=⟨n-1,by omega⟩
  have hP:0<2^(7*i):=Nat.two_pow_pos _
  have hP7:2^(7*(i+1))=128*2^(7*i):=by rw [Nat.mul_add,Nat.pow_add];simp [Nat.mul_comm]
  have c1:decide ((i:Int)<10)=true:=by simp;omega
  have e2:IntKind.wrap .i64 ((p:Int)+(i:Int))=((p+i:Nat):Int):=by rw [w64 (by omega) (by omega)];omega
  by_cases hlt:p+i<b.length
  ·obtain ⟨c,hc,hc2⟩:=drop_cons_of hlt
   obtain ⟨c0,c255⟩:=hby c (List.mem_of_getElem? hc2)
   have e3:IntKind.wrap .i64 (7*(i:Int))=((7*i:Nat):Int):=by rw [w64 (by omega) (by omega)];omega
   have e5:IntKind.wrap .i64 (((p+i:Nat):Int)+1)=((p+i+1:Nat):Int):=by rw [w64 (by omega) (by omega)];omega
   have e6:IntKind.wrap .i64 ((i:Int)+1)=((i+1:Nat):Int):=by rw [w64 (by omega) (by omega)];omega
   have c2:decide (((p+i:Nat):Int)<(b.length:Int))=true:=by simp;omega
   have c5:decide ((0:Int)≤((7*i:Nat):Int))=true:=decide_eq_true (by omega)
   have hget:rdL b ((p+i:Nat):Int)=some c:=by rw [rdL_nat];exact hc2
   have ec:IntKind.wrap .i64 c=c:=w64 (by omega) (by omega)
   have e127:bits .and .i64 c 127=(((c%128).toNat:Nat):Int):=by
    have:=and_mask_i64 c 7 (by decide)
    rw [show ((2:Int)^7-1)=127 by decide,show ((2:Int)^7)=128 by decide] at this
    rw [this];omega
   rw [hc,gvN]
   simp only [spec_UvarGet.l5,c1,c2,e2,e3,e5,e6,hget,ec,c5,cond_true,Option.bind_some,csf,e127]
   by_cases h9:f=0∧1<c
   ·obtain ⟨rfl,h1c⟩:=h9
    obtain rfl:i=9:=by omega
    rw [if_pos ⟨rfl,h1c⟩]
    by_cases h128:c<128
    ·simp only [decide_eq_true h128,cond_true,show (((9:Nat):Int)==9)=true by decide,show decide (c>1)=true from decide_eq_true h1c,Bool.and_self]
    ·simp only [decide_eq_false h128,cond_false]
     exact last n _ (by omega)
   ·rw [if_neg h9]
    have h9b:(((i:Int)==9)&&decide (c>1))=false:=by
     rw [Bool.eq_false_iff];intro q
     simp only [Bool.and_eq_true,beq_iff_eq,decide_eq_true_eq] at q
     exact h9 ⟨by omega,q.2⟩
    have hsum:acc+(c%128).toNat*2^(7*i)<2^IntKind.bits .i64:=by
     show _<2^64
     by_cases hf:f=0
     ·have:i=9:=by omega
      subst this
      have hc1:c≤1:=by
       rcases Int.lt_or_le 1 c with q|q
       ·exact (h9 ⟨hf,q⟩).elim
       ·exact q
      have h1:(c%128).toNat≤1:=by omega
      have h2:(2:Nat)^(7*9)=9223372036854775808:=by decide
      rw [h2] at hacc⊢
      have:=Nat.mul_le_mul_right 9223372036854775808 h1
      omega
     ·have h1:(c%128).toNat*2^(7*i)≤127*2^(7*i):=Nat.mul_le_mul_right _ (by omega)
      have h2:2^(7*(i+1))≤2^63:=Nat.pow_le_pow_right (by omega) (by omega)
      rw [hP7] at h2
      have h3:(2:Nat)^63=9223372036854775808:=by decide
      omega
    have eor:=or_shl .i64 (a:=acc) (b:=(c%128).toNat) (i:=7*i) (show 7*i≤64 by omega) hacc hsum
    rw [eor]
    by_cases h128:c<128
    ·rw [if_pos h128]
     simp only [decide_eq_true h128,cond_true,h9b,cond_false]
     have:(c%128).toNat=c.toNat:=by omega
     rw [this]
    ·rw [if_neg h128]
     simp only [decide_eq_false h128,cond_false]
     have hlt2:acc+(c%128).toNat*2^(7*i)<2^(7*(i+1)):=by
      rw [hP7]
      have:(c%128).toNat*2^(7*i)≤127*2^(7*i):=Nat.mul_le_mul_right _ (by omega)
      omega
     rw [ih n (i+1) _ (by omega) (by omega) hlt2,←Nat.add_assoc]
     cases gvN f (b.drop (p+i+1)) with
     |none=>rfl
     |some x=>
      obtain ⟨v,m⟩:=x
      simp only [Option.map_some]
      rw [hP7,show acc+(c%128).toNat*2^(7*i)+v*(128*2^(7*i))=acc+((c%128).toNat+128*v)*2^(7*i) by grind,show p+i+1+m=p+i+(m+1) by omega]
  ·have c2:decide (((p+i:Nat):Int)<(b.length:Int))=false:=decide_eq_false (by omega)
   rw [List.drop_eq_nil_of_le (by omega),gvN]
   simp only [spec_UvarGet.l5,c1,e2,c2,cond_true,cond_false,Option.bind_some]
theorem sget_any (hk:2000≤k) {b:List Int} (hl:b.length<4611686018427387904) (hb:Byt b) (p:Nat) (hp:p≤b.length):spec_UvarGet k b (p:Int)=match gv (b.drop p) with
 |none=>some (0,0,false)
 |some (u,n)=>some (u,((p+n:Nat):Int),true):=by
 unfold spec_UvarGet
 rw [decide_eq_false (show ¬((p:Int)<0) by omega)]
 by_cases h:p=b.length
 ·rw [decide_eq_true (show (p:Int)≥(b.length:Int) by omega),List.drop_eq_nil_of_le (by omega)]
  rfl
 ·rw [decide_eq_false (show ¬(p:Int)≥(b.length:Int) by omega)]
  simp only [cond_false,Option.bind_some]
  have h:=sgetLoop k b p hl hb hp 10 k 0 0 rfl (by omega) (by simp)
  rw [show IntKind.wrap .i64 ((0:Nat):Int)=0 by decide,show ((0:Nat):Int)=0 from rfl] at h
  rw [h]
  unfold gv
  rw [Nat.add_zero]
  cases gvN 10 (b.drop p) with
  |none=>rfl
  |some x=>
   simp only [Option.map_some,Nat.mul_zero,Nat.pow_zero,Nat.mul_one,Nat.zero_add]
theorem szig_any (hk:2000≤k) {b:List Int} (hl:b.length<4611686018427387904) (hb:Byt b) (p:Nat) (hp:p≤b.length):spec_ZigGet k b (p:Int)=match gv (b.drop p) with
 |none=>some (0,0,false)
 |some (u,n)=>some (zagV u,((p+n:Nat):Int),true):=by
 unfold spec_ZigGet
 rw [sget_any k hk hl hb p hp]
 cases hg:gv (b.drop p) with
 |none=>rfl
 |some z=>
  obtain ⟨u,n⟩:=z
  obtain ⟨f1,_⟩:=gv_facts _ u n (fun x hx=>hb x (List.mem_of_mem_drop hx)) hg
  simp only [Option.bind_some,Bool.not_true,cond_false,szag_eq k f1]
theorem smany_any (hk:2000≤k) {b:List Int} (hl:b.length<4611686018427387904) (hb:Byt b) (p:Nat) (hp:p≤b.length):∃x y z e,spec_l4Many k b (p:Int)=some (x,y,z,e)∧
 (match prMany b p with
 | .bad c=>e=c∧c≠0
 | .ok q (many,item)=>x=many∧y=item∧z=(q:Int)∧e=0∧q≤b.length):=by
 unfold spec_l4Many prMany
 by_cases hlt:p<b.length
 ·obtain ⟨c,hc,hc2⟩:=drop_cons_of hlt
  obtain ⟨c0,c255⟩:=hb c (List.mem_of_getElem? hc2)
  have ec:IntKind.wrap .i64 c=c:=w64 (by omega) (by omega)
  have e16:IntKind.wrap .i64 (Int.tdiv c 16)=c/16:=by
   rw [Int.tdiv_eq_ediv_of_nonneg c0,w64 (by omega) (by omega)]
  have em:Int.tmod c 16=c%16:=Int.tmod_eq_emod_of_nonneg c0
  have ep:IntKind.wrap .i64 ((p:Int)+1)=((p+1:Nat):Int):=by rw [w64 (by omega) (by omega)];omega
  rw [decide_eq_false (by omega),cond_false,rdL_nat,hc2]
  simp only [Option.bind_some,ec,e16,em,ep]
  have tail:∀(many:Int) (q:Nat),q≤b.length→∃x y z e,spec_l4Many.c11 k (q:Int) many (c%16)=some (x,y,z,e)∧
   (match (if many=0 then (.ok q (0,0):Res (Int×Int)) else if isItem (c%16)=false then .bad 2 else if many<0∨1500<many then .bad 4 else .ok q (many,c%16)) with
   | .bad c=>e=c∧c≠0
   | .ok q (many,item)=>x=many∧y=item∧z=(q:Int)∧e=0∧q≤b.length):=by
   intro many q hq
   unfold spec_l4Many.c11
   by_cases h0:many=0
   ·rw [beqT h0,cond_true,if_pos h0]
    exact ⟨_,_,_,_,rfl,rfl,rfl,rfl,rfl,hq⟩
   ·rw [beqF h0,cond_false,if_neg h0,l4Item_eq]
    simp only [Option.bind_some,cst]
    cases isItem (c%16) with
    |false=>
     rw [if_pos rfl]
     exact ⟨_,_,_,_,rfl,rfl,by decide⟩
    |true=>
     rw [if_neg (by decide)]
     simp only [Bool.not_true,cond_false]
     by_cases hm:many<0∨1500<many
     ·rw [if_pos hm]
      have:(decide (many<0)||decide (many>1500))=true:=by
       rcases hm with h|h
       ·rw [decide_eq_true h,Bool.true_or]
       ·rw [decide_eq_true (show many>1500 from h),Bool.or_true]
      rw [this]
      exact ⟨_,_,_,_,rfl,rfl,by decide⟩
     ·rw [if_neg hm]
      rw [decide_eq_false (show ¬many<0 by omega),decide_eq_false (show ¬many>1500 by omega)]
      exact ⟨_,_,_,_,rfl,rfl,rfl,rfl,rfl,hq⟩
  by_cases h15:c/16=15
  ·simp only [if_pos h15,beqT h15,cond_true,sget_any k hk hl hb (p+1) (by omega)]
   cases hg:gv (b.drop (p+1)) with
   |none=>
    simp only [Option.bind_some,Bool.not_false,cond_true,Option.map_none]
    exact ⟨_,_,_,_,rfl,rfl,by decide⟩
   |some z=>
    obtain ⟨u,n⟩:=z
    obtain ⟨f1,f2,f3,f4,f5⟩:=gv_facts _ u n (fun x hx=>hb x (List.mem_of_mem_drop hx)) hg
    rw [List.length_drop] at f3
    simp only [Option.bind_some,Bool.not_true,cond_false,Option.map_some]
    exact tail u (p+1+n) (by omega)
  ·simp only [if_neg h15,beqF h15,cond_false]
   exact tail (c/16) (p+1) (by omega)
 ·rw [decide_eq_true (by omega),cond_true,List.getElem?_eq_none (by omega)]
  exact ⟨_,_,_,_,rfl,rfl,by decide⟩
theorem shead_any (hk:2000≤k) {b:List Int} (hl:b.length<4611686018427387904) (hb:Byt b) (p:Nat) (hp:p≤b.length) (last:Int) (hla:0≤last∧last≤1000):∃x y z e,spec_l4Head k b (p:Int) last=some (x,y,z,e)∧
 (match prHead b p last with
 | .bad c=>e=c∧c≠0
 | .ok q (t,id)=>x=t∧(t≠0→y=id)∧z=(q:Int)∧e=0∧q≤b.length):=by
 unfold spec_l4Head prHead
 by_cases hlt:p<b.length
 ·obtain ⟨c,hc,hc2⟩:=drop_cons_of hlt
  obtain ⟨c0,c255⟩:=hb c (List.mem_of_getElem? hc2)
  have ec:IntKind.wrap .i64 c=c:=w64 (by omega) (by omega)
  have e16:IntKind.wrap .i64 (Int.tdiv c 16)=c/16:=by
   rw [Int.tdiv_eq_ediv_of_nonneg c0,w64 (by omega) (by omega)]
  have em:Int.tmod c 16=c%16:=Int.tmod_eq_emod_of_nonneg c0
  have ep:IntKind.wrap .i64 ((p:Int)+1)=((p+1:Nat):Int):=by rw [w64 (by omega) (by omega)];omega
  have el:IntKind.wrap .i64 (last+c/16)=last+c/16:=w64 (by omega) (by omega)
  rw [decide_eq_false (by omega),cond_false,rdL_nat,hc2]
  simp only [Option.bind_some,ec,e16,em,ep,el]
  by_cases h0:c=0
  ·rw [beqT h0,cond_true,if_pos h0]
   exact ⟨_,_,_,_,rfl,rfl,fun h=>(h rfl).elim,rfl,rfl,by omega⟩
  ·rw [beqF h0,cond_false,if_neg h0,l4Kind_eq]
   simp only [Option.bind_some]
   cases hkd:isKind (c%16) with
   |false=>
    rw [if_pos rfl]
    exact ⟨_,_,_,_,rfl,rfl,by decide⟩
   |true=>
    rw [if_neg (by decide)]
    simp only [Bool.not_true,cond_false]
    have tail:∀(id:Int) (q:Nat),q≤b.length→∃x y z e,spec_l4Head.c16 k (q:Int) last (c%16) id=some (x,y,z,e)∧
     (match (if id<1∨1000<id then (.bad 3:Res (Int×Int)) else if id≤last then .bad 5 else .ok q (c%16,id)) with
     | .bad c=>e=c∧c≠0
     | .ok q (t,id)=>x=t∧(t≠0→y=id)∧z=(q:Int)∧e=0∧q≤b.length):=by
     intro id q hq
     unfold spec_l4Head.c16
     rw [l1In_eq]
     simp only [Option.bind_some]
     by_cases hi:id<1∨1000<id
     ·rw [if_pos hi]
      have hw:(decide ((1:Int)≤id)&&decide (id≤1000))=false:=by
       rw [Bool.eq_false_iff];intro q
       simp only [Bool.and_eq_true,decide_eq_true_eq] at q
       omega
      rw [hw]
      exact ⟨_,_,_,_,rfl,rfl,by decide⟩
     ·rw [if_neg hi]
      have hw:(decide ((1:Int)≤id)&&decide (id≤1000))=true:=by simp;omega
      rw [hw]
      simp only [Bool.not_true,cond_false]
      by_cases h5:id≤last
      ·rw [if_pos h5,decide_eq_true h5]
       exact ⟨_,_,_,_,rfl,rfl,by decide⟩
      ·rw [if_neg h5,decide_eq_false h5]
       exact ⟨_,_,_,_,rfl,rfl,fun _=>rfl,rfl,rfl,hq⟩
    by_cases h16:c/16=0
    ·simp only [if_pos h16,beqT h16,cond_true,szig_any k hk hl hb (p+1) (by omega)]
     cases hg:gv (b.drop (p+1)) with
     |none=>
      simp only [Option.bind_some,Bool.not_false,cond_true,Option.map_none]
      exact ⟨_,_,_,_,rfl,rfl,by decide⟩
     |some z=>
      obtain ⟨u,n⟩:=z
      obtain ⟨f1,f2,f3,f4,f5⟩:=gv_facts _ u n (fun x hx=>hb x (List.mem_of_mem_drop hx)) hg
      rw [List.length_drop] at f3
      simp only [Option.bind_some,Bool.not_true,cond_false,Option.map_some]
      exact tail (zagV u) (p+1+n) (by omega)
    ·simp only [if_neg h16,beqF h16,cond_false]
     exact tail (last+c/16) (p+1) (by omega)
 ·rw [decide_eq_true (by omega),cond_true,List.getElem?_eq_none (by omega)]
  exact ⟨_,_,_,_,rfl,rfl,by decide⟩
theorem stext_any (hk:2000≤k) {b:List Int} (hl:b.length<4611686018427387904) (hb:Byt b) (p:Nat) (hp:p≤b.length):∃x z e,spec_l4Text k b (p:Int)=some (x,z,e)∧
 (match prText b p with
 | .bad c=>e=c∧c≠0
 | .ok q s=>x=s∧z=(q:Int)∧e=0∧q≤b.length):=by
 unfold spec_l4Text prText
 rw [sget_any k hk hl hb p hp]
 cases hg:gv (b.drop p) with
 |none=>exact ⟨_,_,_,rfl,rfl,by decide⟩
 |some z=>
  obtain ⟨u,n⟩:=z
  obtain ⟨⟨f0,f1⟩,f2,f3,f4,f5⟩:=gv_facts _ u n (fun x hx=>hb x (List.mem_of_mem_drop hx)) hg
  rw [List.length_drop] at f3
  simp only [Option.bind_some,Bool.not_true,cond_false,cst]
  by_cases hu:u<0∨300<u
  ·rw [if_pos hu]
   have:(decide (u<0)||decide (u>300))=true:=by
    rcases hu with h|h
    ·rw [decide_eq_true h,Bool.true_or]
    ·rw [decide_eq_true (show u>300 from h),Bool.or_true]
   rw [this]
   exact ⟨_,_,_,rfl,rfl,by decide⟩
  ·rw [if_neg hu,decide_eq_false (show ¬u<0 by omega),decide_eq_false (show ¬u>300 by omega)]
   have e1:IntKind.wrap .i64 ((b.length:Int)-((p+n:Nat):Int))=(b.length:Int)-((p+n:Nat):Int):=w64 (by omega) (by omega)
   simp only [Bool.or_self,cond_false,e1]
   by_cases hs:(b.length:Int)-((p+n:Nat):Int)<u
   ·rw [if_pos hs,decide_eq_true hs]
    exact ⟨_,_,_,rfl,rfl,by decide⟩
   ·rw [if_neg hs,decide_eq_false hs]
    obtain ⟨U,rfl⟩:=Int.eq_ofNat_of_zero_le (show 0≤u by omega)
    have e2:IntKind.wrap .i64 (((p+n:Nat):Int)+(U:Int))=((p+n+U:Nat):Int):=by rw [w64 (by omega) (by omega)];omega
    have c3:inSl ((p+n:Nat):Int) ((p+n+U:Nat):Int) b.length=true:=inSl_ok (by omega) (by omega) (by omega)
    have hcut:cutL b ((p+n:Nat):Int) ((p+n+U:Nat):Int)=(b.drop (p+n)).take U:=by
     unfold cutL
     rw [Int.toNat_natCast,Int.toNat_natCast,List.drop_take,show p+n+U-(p+n)=U by omega]
    simp only [cond_false,e2,c3,cond_true,hcut,Int.toNat_natCast]
    exact ⟨_,_,_,rfl,rfl,rfl,rfl,by omega⟩
def SNode (S:(List Int)→Int→Int→Int→Int→(List TNode)→Option ((Unit×Int×Int)×(List TNode))) (b:List Int) (kind id deep:Int) (p:Nat) (acc:List TNode) (r:Res (List TNode)):Prop:=
 match r with
 | .bad e=>e≠0∧∃q l,S b (p:Int) kind id deep acc=some (((),q,e),l)
 | .ok q Y=>q≤b.length∧S b (p:Int) kind id deep acc=some (((),(q:Int),0),acc++Y)
theorem sparts (S:(List Int)→Int→Int→Int→Int→(List TNode)→Option ((Unit×Int×Int)×(List TNode))) (b:List Int) (item:Int) (deep:Nat) (hdeep:deep≤100) (P:Nat→Nat→Res (List TNode))
 (ih:∀(p:Nat) (acc:List TNode),p≤b.length→acc.length≤1500→SNode S b item 0 ((deep+1:Nat):Int) p acc (P p acc.length))
 (hP:∀p c q Y,c≤1500→P p c= .ok q Y→c+Y.length≤1500) (many:Int) (hm:many≤1500):
 ∀(m f:Nat) (i:Int) (p:Nat) (acc:List TNode),many-i=m→0≤i→m<f→p≤b.length→acc.length≤1500→
 match prParts P m p acc.length with
 | .bad e=>e≠0∧∃q l,spec_l4Read.l24 k S f b (deep:Int) many item (p:Int) 0 i acc=some (((),q,e),l)
 | .ok q Y=>q≤b.length∧spec_l4Read.l24 k S f b (deep:Int) many item (p:Int) 0 i acc=some (((),(q:Int),0),acc++Y):=by
 have hdw:IntKind.wrap .i64 ((deep:Int)+1)=((deep+1:Nat):Int):=by rw [w64 (by omega) (by omega)];omega
 intro m
 induction m with
 |zero=>
  intro f i p acc hi h0 hf hp hc
  obtain ⟨f,rfl⟩:∃j,f=j+1:=⟨f-1,by omega⟩
  simp only [prParts,spec_l4Read.l24,decide_eq_false (show ¬i<many by omega),cond_false,Option.bind_some,List.append_nil]
  exact ⟨hp,trivial⟩
 |succ m ihm=>
  intro f i p acc hi h0 hf hp hc
  obtain ⟨f,rfl⟩:∃j,f=j+1:=⟨f-1,by omega⟩
  have hi1:IntKind.wrap .i64 (i+1)=i+1:=w64 (by omega) (by omega)
  have h1:=ih p acc hp hc
  simp only [prParts,spec_l4Read.l24,decide_eq_true (show i<many by omega),cond_true,Option.bind_some,beqT rfl,hdw,hi1]
  unfold SNode at h1
  cases hr:P p acc.length with
  |bad e=>
   rw [hr] at h1
   obtain ⟨he,q,l,e1⟩:=h1
   refine ⟨he,q,l,?_⟩
   obtain ⟨f,rfl⟩:∃j,f=j+1:=⟨f-1,by omega⟩
   simp only [e1,Option.bind_some,spec_l4Read.l24,beqF he]
   cases decide (i+1<many)<;>rfl
  |ok q Y=>
   rw [hr] at h1
   obtain ⟨hq,e1⟩:=h1
   have hlen:=hP _ _ _ _ hc hr
   have h2:=ihm f (i+1) q (acc++Y) (by omega) (by omega) (by omega) hq (by rw [List.length_append];exact hlen)
   rw [List.length_append] at h2
   simp only [e1,Option.bind_some]
   cases hr2:prParts P m q (acc.length+Y.length) with
   |bad e=>rw [hr2] at h2;exact h2
   |ok q2 Z=>rw [hr2] at h2;simpa [List.append_assoc] using h2
theorem sfields (hk:2000≤k) (S:(List Int)→Int→Int→Int→Int→(List TNode)→Option ((Unit×Int×Int)×(List TNode))) (b:List Int) (hl:b.length<4611686018427387904) (hb:Byt b) (deep:Nat) (hdeep:deep≤100) (P:Int→Int→Nat→Nat→Res (List TNode))
 (ih:∀(t id:Int) (p:Nat) (acc:List TNode),isKind t=true→p≤b.length→acc.length≤1500→SNode S b t id ((deep+1:Nat):Int) p acc (P t id p acc.length))
 (hP:∀t id p c q Y,isKind t=true→c≤1500→P t id p c= .ok q Y→c+Y.length≤1500) (id0:Int) (pre:List TNode):
 ∀(g f:Nat) (last:Int) (p:Nat) (j:Nat) (mid:List TNode),1002≤(g:Int)+last→0≤last→last≤1000→g<f→p≤b.length→pre.length+1+mid.length≤1500→(j:Int)+g≤4000→
 match prFields P b g last p (pre.length+1+mid.length) with
 | .bad e=>e≠0∧∃q l,spec_l4Read.l30 k S f b (p:Int) (deep:Int) (pre.length:Int) last (j:Int) (pre++sn id0 0::mid)=some (((),q,e),l)
 | .ok q (m,Y)=>q≤b.length∧spec_l4Read.l30 k S f b (p:Int) (deep:Int) (pre.length:Int) last (j:Int) (pre++sn id0 0::mid)=some (((),(q:Int),0),pre++sn id0 ((j+m:Nat):Int)::(mid++Y)):=by
 have hdw:IntKind.wrap .i64 ((deep:Int)+1)=((deep+1:Nat):Int):=by rw [w64 (by omega) (by omega)];omega
 intro g
 induction g with
 |zero=>intro f last p j mid h1 h2 h3;omega
 |succ g ihg=>
  intro f last p j mid h1 h2 h3 hf hp hc hj
  obtain ⟨f,rfl⟩:∃j,f=j+1:=⟨f-1,by omega⟩
  have hjw:IntKind.wrap .i64 ((j:Int)+1)=((j+1:Nat):Int):=by rw [w64 (by omega) (by omega)];omega
  obtain ⟨x,y,z,e,e1,e2⟩:=shead_any k hk hl hb p hp last ⟨h2,h3⟩
  simp only [prFields,spec_l4Read.l30,e1,Option.bind_some]
  cases hr:prHead b p last with
  |bad c=>
   rw [hr] at e2
   obtain ⟨rfl,he⟩:=e2
   simp only [bneT he,cond_true]
   exact ⟨he,_,_,rfl⟩
  |ok q w=>
   obtain ⟨t,id⟩:=w
   rw [hr] at e2
   obtain ⟨rfl,hy,rfl,rfl,hq⟩:=e2
   obtain ⟨a1,a2⟩:=prHead_ok hr
   simp only [bneF rfl,cond_false]
   by_cases ht:x=0
   ·simp only [if_pos ht,beqT ht,cond_true]
    have hget:rdL (pre++sn id0 0::mid) (pre.length:Int)=some (sn id0 0):=by
     rw [rdL_nat,List.getElem?_append_right (Nat.le_refl _)];simp
    have hset:∀x y:TNode,List.set (pre++x::mid) (Int.toNat (pre.length:Int)) y=pre++y::mid:=fun x y=>by
     rw [Int.toNat_natCast,List.set_append_right _ _ (Nat.le_refl _)];simp
    simp only [hget,Option.bind_some,hset]
    exact ⟨hq,by simp [sn]⟩
   ·obtain rfl:=hy ht
    rcases a2 with a2|⟨a2,_,a3,a4,a5⟩
    ·exact (ht a2).elim
    ·simp only [if_neg ht,beqF ht,cond_false,hdw]
     have hn:=ih x y q (pre++sn id0 0::mid) a2 hq (by simp;omega)
     rw [show (pre++sn id0 0::mid).length=pre.length+1+mid.length by simp;omega] at hn
     unfold SNode at hn
     cases hr2:P x y q (pre.length+1+mid.length) with
     |bad e=>
      rw [hr2] at hn
      obtain ⟨he,q',l,e3⟩:=hn
      simp only [e3,Option.bind_some,bneT he,cond_true]
      exact ⟨he,_,_,rfl⟩
     |ok r Y=>
      rw [hr2] at hn
      obtain ⟨hr1,e3⟩:=hn
      have hlen:=hP _ _ _ _ _ _ a2 (by omega) hr2
      have h4:=ihg f y r (j+1) (mid++Y) (by omega) (by omega) (by omega) (by omega) hr1 (by rw [List.length_append];omega) (by omega)
      rw [List.length_append,←Nat.add_assoc] at h4
      simp only [e3,Option.bind_some,bneF rfl,cond_false,hjw,List.append_assoc,List.cons_append]
      cases hr3:prFields P b g y r (pre.length+1+mid.length+Y.length) with
      |bad e=>rw [hr3] at h4;exact h4
      |ok z w=>
       obtain ⟨m,Z⟩:=w
       rw [hr3] at h4
       obtain ⟨h5,h6⟩:=h4
       refine ⟨h5,?_⟩
       rw [h6,show j+1+m=j+(m+1) by omega,List.append_assoc]
theorem srdN (hk:2000≤k) (b:List Int) (hl:b.length<4611686018427387904) (hb:Byt b):∀(d D deep:Nat) (kind id:Int) (p:Nat) (acc:List TNode),d+deep=13→d<D→isKind kind=true→p≤b.length→acc.length≤1500→
 SNode (spec_l4Read.rec k D) b kind id (deep:Int) p acc (prN d b kind id p acc.length):=by
 intro d
 induction d with
 |zero=>
  intro D deep kind id p acc hdd hD hkd hp hc
  obtain ⟨D,rfl⟩:∃m,D=m+1:=⟨D-1,by omega⟩
  refine ⟨by decide,0,acc,?_⟩
  simp only [spec_l4Read.rec,spec_l4Read.b,cst,decide_eq_true (show (deep:Int)>12 by omega),Bool.or_true,Option.bind_some,cond_true]
 |succ d ih=>
  intro D deep kind id p acc hdd hD hkd hp hc
  obtain ⟨D,rfl⟩:∃m,D=m+1:=⟨D-1,by omega⟩
  have hset:∀(acc:List TNode) (x y:TNode),List.set (acc++[x]) (Int.toNat (acc.length:Int)) y=acc++[y]:=fun acc x y=>by
   rw [Int.toNat_natCast,List.set_append_right _ _ (Nat.le_refl _)];simp
  have hget:∀(acc:List TNode) (x:TNode),rdL (acc++[x]) (acc.length:Int)=some x:=fun acc x=>by
   rw [rdL_nat,List.getElem?_append_right (Nat.le_refl _)];simp
  unfold prN
  by_cases hc5:acc.length=1500
  ·rw [if_pos hc5]
   refine ⟨by decide,0,acc,?_⟩
   simp only [spec_l4Read.rec,spec_l4Read.b,cst,beqT (show (acc.length:Int)=1500 by omega),Bool.true_or,Option.bind_some,cond_true]
  ·rw [if_neg hc5]
   unfold SNode
   simp only [spec_l4Read.rec,spec_l4Read.b,cst,beqF (show ¬(acc.length:Int)=1500 by omega),decide_eq_false (show ¬(deep:Int)>12 by omega),Bool.or_self,Option.bind_some,cond_false]
   rw [lim_ok (by simp;omega),cond_true]
   by_cases h56:kind=5∨kind=6
   ·rw [if_pos h56]
    have e0:(cond (kind==5)
         (spec_l4Read.c8 k (spec_l4Read.rec k D) b (p:Int) kind (deep:Int) (acc.length:Int) kind (kind==5) (acc++[(kind,id,0,(⟨#[]⟩:ByteArray),0,())]))
         (spec_l4Read.c8 k (spec_l4Read.rec k D) b (p:Int) kind (deep:Int) (acc.length:Int) kind (kind==6) (acc++[(kind,id,0,(⟨#[]⟩:ByteArray),0,())])))
     =spec_l4Read.c8 k (spec_l4Read.rec k D) b (p:Int) kind (deep:Int) (acc.length:Int) kind true (acc++[(kind,id,0,(⟨#[]⟩:ByteArray),0,())]):=by
     rcases h56 with h|h
     ·rw [beqT h,cond_true]
     ·rw [beqF (show ¬kind=5 by omega),beqT h,cond_false]
    rw [e0]
    simp only [spec_l4Read.c8,cond_true,szig_any k hk hl hb p hp]
    cases hg:gv (b.drop p) with
    |none=>exact ⟨by decide,_,_,rfl⟩
    |some z=>
     obtain ⟨u,n⟩:=z
     obtain ⟨f1,f2,f3,f4,f5⟩:=gv_facts _ u n (fun x hx=>hb x (List.mem_of_mem_drop hx)) hg
     rw [List.length_drop] at f3
     simp only [Option.bind_some,Bool.not_true,cond_false,spec_l4Int,l1In_eq,csf]
     have h32:(decide (-2147483648≤zagV u)&&decide (zagV u≤2147483647))=int32 (zagV u):=rfl
     rw [h32]
     by_cases hbad:kind=5∧int32 (zagV u)=false
     ·rw [if_pos hbad]
      refine ⟨by decide,0,acc++[(kind,id,0,⟨#[]⟩,0,())],?_⟩
      simp only [beqT hbad.1,hbad.2,Bool.not_false,Bool.and_self,cond_true]
     ·rw [if_neg hbad]
      have hb2:((kind==5)&& !int32 (zagV u))=false:=by
       rw [Bool.eq_false_iff];intro q
       simp only [Bool.and_eq_true,beq_iff_eq,Bool.not_eq_true'] at q
       exact hbad q
      refine ⟨by omega,?_⟩
      simp only [hb2,cond_false,hget,hset,Option.bind_some]
   ·rw [if_neg h56]
    have e5:(kind==5)=false:=beqF (by omega)
    have e6:(kind==6)=false:=beqF (by omega)
    simp only [e5,e6,cond_false,spec_l4Read.c8]
    by_cases h8:kind=8
    ·subst h8
     simp only [if_true,show ((8:Int)==8)=true from rfl,cond_true]
     obtain ⟨x,z,e,e1,e2⟩:=stext_any k hk hl hb p hp
     simp only [e1,Option.bind_some,hget,hset]
     cases hr:prText b p with
     |bad c=>
      rw [hr] at e2
      obtain ⟨rfl,he⟩:=e2
      exact ⟨he,_,_,rfl⟩
     |ok q s=>
      rw [hr] at e2
      obtain ⟨rfl,rfl,rfl,hq⟩:=e2
      exact ⟨hq,rfl⟩
    ·rw [if_neg h8]
     simp only [beqF h8,cond_false]
     by_cases h9:kind=9
     ·subst h9
      simp only [if_true,show ((9:Int)==9)=true from rfl,cond_true]
      obtain ⟨x,y,z,e,e1,e2⟩:=smany_any k hk hl hb p hp
      simp only [e1,Option.bind_some,hget,hset]
      cases hr:prMany b p with
      |bad c=>
       rw [hr] at e2
       obtain ⟨rfl,he⟩:=e2
       have:∀f a,f≠0→spec_l4Read.l24 k (spec_l4Read.rec k D) f b (deep:Int) x y z e 0 a=some (((),z,e),a):=by
        intro f a hf
        obtain ⟨f,rfl⟩:∃j,f=j+1:=⟨f-1,by omega⟩
        simp only [spec_l4Read.l24,beqF he]
        cases decide ((0:Int)<x)<;>rfl
       refine ⟨he,_,_,this k _ (by omega)⟩
      |ok q w=>
       obtain ⟨many,item⟩:=w
       rw [hr] at e2
       obtain ⟨rfl,rfl,rfl,rfl,hq⟩:=e2
       obtain ⟨_,m1⟩:=prMany_ok hr
       simp only
       have hx:x≤1500:=by rcases m1 with h|h<;>omega
       have hx0:0≤x:=by rcases m1 with h|h<;>omega
       rcases m1 with ⟨rfl,rfl⟩|⟨m1,m2,m3⟩
       ·obtain ⟨K,hK⟩:∃K,k=K+1:=⟨k-1,by omega⟩
        have:∀f a,f≠0→spec_l4Read.l24 k (spec_l4Read.rec k D) f b (deep:Int) 0 0 (q:Int) 0 0 a=some (((),(q:Int),0),a):=by
         intro f a hf
         obtain ⟨f,rfl⟩:∃j,f=j+1:=⟨f-1,by omega⟩
         simp only [spec_l4Read.l24,decide_eq_false (show ¬((0:Int)<0) by omega),cond_false,Option.bind_some]
        simp only [Int.toNat_zero,prParts]
        exact ⟨hq,this k _ (by omega)⟩
       ·have hp:=sparts k (spec_l4Read.rec k D) b y deep (by omega) (fun p c=>prN d b y 0 p c)
         (fun p acc hp hc=>ih D (deep+1) y 0 p acc (by omega) (by omega) (isKind_of_item m3) hp hc)
         (fun p c q Y hc h=>by
          obtain ⟨_,n,X,rfl,_,_,_,h5⟩:=prN_enc d b y 0 p c q Y (isKind_of_item m3) hc h
          exact h5) x hx x.toNat k 0 q (acc++[(9,id,y,⟨#[]⟩,x,())]) (by omega) (by omega) (by omega) hq (by simp;omega)
        rw [List.length_append,List.length_singleton] at hp
        cases hr2:prParts (fun p c=>prN d b y 0 p c) x.toNat q (acc.length+1) with
        |bad e=>rw [hr2] at hp;exact hp
        |ok q' Y=>
         rw [hr2] at hp
         obtain ⟨h1,h2⟩:=hp
         exact ⟨h1,by rw [h2];simp⟩
     ·rw [if_neg h9]
      simp only [beqF h9,cond_false]
      by_cases h12:kind=12
      ·subst h12
       simp only [if_true,show ((12:Int)==12)=true from rfl,cond_true]
       have hf:=sfields k hk (spec_l4Read.rec k D) b hl hb deep (by omega) (fun t id p c=>prN d b t id p c)
        (fun t id p acc ht hp hc=>ih D (deep+1) t id p acc (by omega) (by omega) ht hp hc)
        (fun t id p c q Y ht hc h=>by
         obtain ⟨_,n,X,rfl,_,_,_,h5⟩:=prN_enc d b t id p c q Y ht hc h
         exact h5) id acc 1002 k 0 p 0 [] (by omega) (by omega) (by omega) (by omega) hp (by simp;omega) (by omega)
       rw [List.length_nil,Nat.add_zero] at hf
       rw [show (acc++[((12:Int),id,(0:Int),(⟨#[]⟩:ByteArray),(0:Int),())]:List TNode)=acc++sn id 0::[] from rfl]
       cases hr:prFields (fun t id p c=>prN d b t id p c) b 1002 0 p (acc.length+1) with
       |bad e=>rw [hr] at hf;exact hf
       |ok q' x=>
        obtain ⟨m,Y⟩:=x
        rw [hr] at hf
        obtain ⟨hq',e1⟩:=hf
        refine ⟨hq',?_⟩
        rw [show ((0:Nat):Int)=0 from rfl] at e1
        rw [e1]
        simp [sn]
      ·rw [if_neg h12]
       simp only [beqF h12,cond_false]
       exact ⟨hp,trivial⟩
end Go.Law
end
section
set_option linter.unusedVariables false
set_option linter.unusedSimpArgs false
namespace Go.Law
open Go.Am Go.Fn
theorem prParts_mono {S:Nat→Nat→Res (List TNode)} (ih:∀p c q Y,S p c= .ok q Y→p≤q):∀(j p c q:Nat) (Y:List TNode),prParts S j p c= .ok q Y→p≤q:=by
 intro j
 induction j with
 |zero=>
  intro p c q Y h
  simp only [prParts,Res.ok.injEq] at h
  omega
 |succ j ihj=>
  intro p c q Y h
  simp only [prParts] at h
  split at h
  ·cases h
  ·rename_i h1
   split at h
   ·cases h
   ·rename_i h2
    simp only [Res.ok.injEq] at h
    have:=ih _ _ _ _ h1
    have:=ihj _ _ _ _ h2
    omega
theorem prFields_mono {S:Int→Int→Nat→Nat→Res (List TNode)} {b:List Int} (ih:∀t id p c q Y,S t id p c= .ok q Y→p≤q):∀(f:Nat) (last:Int) (p c q:Nat) (Y:Nat×List TNode),prFields S b f last p c= .ok q Y→p<q:=by
 intro f
 induction f with
 |zero=>intro last p c q Y h;cases h
 |succ f ihf=>
  intro last p c q Y h
  simp only [prFields] at h
  split at h
  ·cases h
  ·rename_i h1
   have:=(prHead_ok h1).1
   split at h
   ·simp only [Res.ok.injEq] at h
    omega
   ·split at h
    ·cases h
    ·rename_i h2
     split at h
     ·cases h
     ·rename_i h3
      simp only [Res.ok.injEq] at h
      have:=ih _ _ _ _ _ _ h2
      have:=ihf _ _ _ _ _ h3
      omega
theorem prN_mono:∀(d:Nat) (b:List Int) (kind id:Int) (p c q:Nat) (Y:List TNode),prN d b kind id p c= .ok q Y→p≤q:=by
 intro d
 induction d with
 |zero=>intro b kind id p c q Y h;cases h
 |succ d ih=>
  intro b kind id p c q Y h
  simp only [prN] at h
  split at h
  ·cases h
  ·split at h
   ·split at h
    ·cases h
    ·split at h
     ·cases h
     ·simp only [Res.ok.injEq] at h
      omega
   ·split at h
    ·split at h
     ·cases h
     ·rename_i hs
      simp only [Res.ok.injEq] at h
      have:=(prText_ok hs).1
      omega
    ·split at h
     ·split at h
      ·cases h
      ·rename_i hm
       have:=(prMany_ok hm).1
       split at h
       ·cases h
       ·rename_i hp
        simp only [Res.ok.injEq] at h
        have:=prParts_mono (fun p c q Y h=>ih b _ 0 p c q Y h) _ _ _ _ _ hp
        omega
     ·split at h
      ·split at h
       ·cases h
       ·rename_i hf
        simp only [Res.ok.injEq] at h
        have:=prFields_mono (fun t id p c q Y h=>ih b t id p c q Y h) _ _ _ _ _ _ hf
        omega
      ·simp only [Res.ok.injEq] at h
       omega
end Go.Law
end
section
set_option linter.unusedVariables false
set_option linter.unusedSimpArgs false
namespace Go.Law
open Go.Am Go.Fn
def CostLe (d:Nat) (Y:List TNode) (m:Nat):Prop:=∀rest,(cost d (Y++rest)).2=rest∧(cost d (Y++rest)).1≤m
def CostPLe (d:Nat) (st:Bool) (c:Nat) (last:Int) (Y:List TNode) (m:Nat):Prop:=∀rest,(costP (cost d) st c last (Y++rest)).2=rest∧(costP (cost d) st c last (Y++rest)).1≤m
theorem CostPLe_cons {d:Nat} {st:Bool} {c:Nat} {last:Int} {x:TNode} {X Z:List TNode} {m1 m2 m:Nat} (h1:CostLe d (x::X) m1) (h2:CostPLe d st c x.2.1 Z m2) (hm:(if st then (headB x last).length else 0)+m1+m2≤m):CostPLe d st (c+1) last ((x::X)++Z) m:=by
 intro rest
 obtain ⟨a1,a2⟩:=h1 (Z++rest)
 obtain ⟨b1,b2⟩:=h2 rest
 rw [List.append_assoc,List.cons_append]
 rw [List.cons_append] at a1 a2
 simp only [costP,a1]
 exact ⟨b1,by omega⟩
theorem prHead_len {b:List Int} (hb:Byt b) {p:Nat} {last:Int} {q:Nat} {t id:Int} (hl:0≤last) (h:prHead b p last= .ok q (t,id)):q≤b.length∧(t≠0→∀x:TNode,x.2.1=id→p+(headB x last).length≤q):=by
 unfold prHead at h
 split at h
 ·cases h
 ·rename_i y hy
  have hp:p<b.length:=(List.getElem?_eq_some_iff.1 hy).1
  obtain ⟨y0,y1⟩:=hb y (List.mem_of_getElem? hy)
  split at h
  ·simp only [Res.ok.injEq,Prod.mk.injEq] at h
   exact ⟨by omega,fun hh=>by omega⟩
  ·split at h
   ·cases h
   ·split at h
    ·cases h
    ·rename_i id' q' hm
     split at h
     ·cases h
     ·split at h
      ·cases h
      ·simp only [Res.ok.injEq,Prod.mk.injEq] at h
       obtain ⟨rfl,rfl,rfl⟩:=h
       split at hm
       ·cases hg:gv (b.drop (p+1)) with
        |none=>rw [hg] at hm;cases hm
        |some z=>
         rw [hg] at hm
         obtain ⟨u,n⟩:=z
         simp only [Option.map_some,Option.some.injEq,Prod.mk.injEq] at hm
         obtain ⟨rfl,rfl⟩:=hm
         obtain ⟨f1,f2,f3,f4,f5⟩:=gv_facts _ u n (fun x hx=>hb x (List.mem_of_mem_drop hx)) hg
         rw [List.length_drop] at f3
         refine ⟨by omega,fun _ x hx=> ?_⟩
         unfold headB
         split
         ·simp<;>omega
         ·rw [hx,zig_zagV f1,List.length_cons];omega
       ·simp only [Option.some.injEq,Prod.mk.injEq] at hm
        obtain ⟨rfl,rfl⟩:=hm
        refine ⟨by omega,fun _ x hx=> ?_⟩
        unfold headB
        rw [if_pos (by omega)]
        simp
theorem prMany_len {b:List Int} (hb:Byt b) {p q:Nat} {many item:Int} (h:prMany b p= .ok q (many,item)):q≤b.length∧p+(if many≤14 then 1 else 1+(uv many).length)≤q:=by
 unfold prMany at h
 split at h
 ·cases h
 ·rename_i y hy
  have hp:p<b.length:=(List.getElem?_eq_some_iff.1 hy).1
  obtain ⟨y0,y1⟩:=hb y (List.mem_of_getElem? hy)
  split at h
  ·cases h
  ·rename_i m q' hm
   have hq:q'≤b.length∧p+(if m≤14 then 1 else 1+(uv m).length)≤q':=by
    split at hm
    ·cases hg:gv (b.drop (p+1)) with
     |none=>rw [hg] at hm;cases hm
     |some z=>
      rw [hg] at hm
      obtain ⟨u,n⟩:=z
      simp only [Option.map_some,Option.some.injEq,Prod.mk.injEq] at hm
      obtain ⟨rfl,rfl⟩:=hm
      obtain ⟨f1,f2,f3,f4,f5⟩:=gv_facts _ u n (fun x hx=>hb x (List.mem_of_mem_drop hx)) hg
      rw [List.length_drop] at f3
      refine ⟨by omega,?_⟩
      split<;>omega
    ·simp only [Option.some.injEq,Prod.mk.injEq] at hm
     obtain ⟨rfl,rfl⟩:=hm
     refine ⟨by omega,?_⟩
     rw [if_pos (by omega)]
     omega
   split at h
   ·rename_i h0
    simp only [Res.ok.injEq,Prod.mk.injEq] at h
    obtain ⟨rfl,rfl,rfl⟩:=h
    rw [h0] at hq
    exact hq
   ·split at h
    ·cases h
    ·split at h
     ·cases h
     ·simp only [Res.ok.injEq,Prod.mk.injEq] at h
      obtain ⟨rfl,rfl,rfl⟩:=h
      exact hq
theorem prText_len {b:List Int} (hb:Byt b) {p q:Nat} {s:ByteArray} (h:prText b p= .ok q s):q≤b.length∧p+((uv (s.size:Int)).length+s.size)≤q:=by
 unfold prText at h
 split at h
 ·cases h
 ·rename_i u n hg
  obtain ⟨f1,f2,f3,f4,f5⟩:=gv_facts _ u n (fun x hx=>hb x (List.mem_of_mem_drop hx)) hg
  rw [List.length_drop] at f3
  split at h
  ·cases h
  ·split at h
   ·cases h
   ·simp only [Res.ok.injEq] at h
    obtain ⟨rfl,rfl⟩:=h
    have hs:(intsStr (List.take u.toNat (List.drop (p+n) b))).size=u.toNat:=by
     rw [intsStr_size,List.length_take,List.length_drop];omega
    rw [hs,show ((u.toNat:Nat):Int)=u by omega]
    omega
theorem prParts_cost {d:Nat} {b:List Int} {S:Nat→Nat→Res (List TNode)} (ih:∀p c q Y,p≤b.length→c≤1500→S p c= .ok q Y→p≤q∧q≤b.length∧Y≠[]∧c+Y.length≤1500∧CostLe d Y (q-p)):∀(m p c:Nat) (last:Int) (q:Nat) (Y:List TNode),p≤b.length→c≤1500→prParts S m p c= .ok q Y→p≤q∧q≤b.length∧CostPLe d false m last Y (q-p):=by
 intro m
 induction m with
 |zero=>
  intro p c last q Y hp hc h
  simp only [prParts,Res.ok.injEq] at h
  obtain ⟨rfl,rfl⟩:=h
  exact ⟨Nat.le_refl _,hp,fun rest=>⟨rfl,Nat.zero_le _⟩⟩
 |succ m ihm=>
  intro p c last q Y hp hc h
  simp only [prParts] at h
  split at h
  ·cases h
  ·rename_i q1 Y1 h1
   split at h
   ·cases h
   ·rename_i q2 Z h2
    simp only [Res.ok.injEq] at h
    obtain ⟨rfl,rfl⟩:=h
    obtain ⟨a1,a2,a3,a4,a5⟩:=ih _ _ _ _ hp hc h1
    cases Y1 with
    |nil=>exact (a3 rfl).elim
    |cons x X=>
     obtain ⟨b1,b2,b3⟩:=ihm _ _ x.2.1 _ _ a2 (by omega) h2
     exact ⟨by omega,b2,CostPLe_cons a5 b3 (by simp;omega)⟩
theorem prFields_cost {d:Nat} {b:List Int} (hb:Byt b) {S:Int→Int→Nat→Nat→Res (List TNode)} (ih:∀t id p c q Y,isKind t=true→p≤b.length→c≤1500→S t id p c= .ok q Y→p≤q∧q≤b.length∧(∃x X,Y=x::X∧x.2.1=id)∧c+Y.length≤1500∧CostLe d Y (q-p)):∀(f:Nat) (last:Int) (p c q m:Nat) (Y:List TNode),0≤last→p≤b.length→c≤1500→prFields S b f last p c= .ok q (m,Y)→p<q∧q≤b.length∧CostPLe d true m last Y (q-p-1):=by
 intro f
 induction f with
 |zero=>intro last p c q m Y hl hp hc h;cases h
 |succ f ihf=>
  intro last p c q m Y hl hp hc h
  simp only [prFields] at h
  split at h
  ·cases h
  ·rename_i q1 t id h1
   obtain ⟨a1,a2⟩:=prHead_ok h1
   obtain ⟨l1,l2⟩:=prHead_len hb hl h1
   split at h
   ·simp only [Res.ok.injEq,Prod.mk.injEq] at h
    obtain ⟨rfl,rfl,rfl⟩:=h
    exact ⟨a1,l1,fun rest=>⟨rfl,Nat.zero_le _⟩⟩
   ·rename_i ht
    rcases a2 with a2|⟨a2,_,a3,a4,a5⟩
    ·exact (ht a2).elim
    ·split at h
     ·cases h
     ·rename_i q2 Y1 h2
      split at h
      ·cases h
      ·rename_i q3 m' Z h3
       simp only [Res.ok.injEq,Prod.mk.injEq] at h
       obtain ⟨rfl,rfl,rfl⟩:=h
       obtain ⟨c1,c2,⟨x,X,rfl,hx⟩,c4,c5⟩:=ih _ _ _ _ _ _ a2 l1 hc h2
       obtain ⟨b1,b2,b3⟩:=ihf _ _ _ _ _ _ (by omega) c2 (by omega) h3
       rw [←hx] at b3
       have:=l2 ht x hx
       exact ⟨by omega,b2,CostPLe_cons c5 b3 (by simp;omega)⟩
theorem prN_cost:∀(d:Nat) (b:List Int) (hb:Byt b) (kind id:Int) (p c q:Nat) (Y:List TNode),isKind kind=true→p≤b.length→c≤1500→prN d b kind id p c= .ok q Y→q≤b.length∧CostLe d Y (q-p):=by
 intro d
 induction d with
 |zero=>intro b hb kind id p c q Y hk hp hc h;cases h
 |succ d ih=>
  intro b hb kind id p c q Y hk hp hc h
  have ihS:∀t id p c q Y,isKind t=true→p≤b.length→c≤1500→prN d b t id p c= .ok q Y→p≤q∧q≤b.length∧(∃x X,Y=x::X∧x.2.1=id)∧c+Y.length≤1500∧CostLe d Y (q-p):=by
   intro t id p c q Y hk hp hc h
   obtain ⟨a1,x,X,rfl,x1,x2,x3,x4⟩:=prN_enc d b t id p c q Y hk hc h
   obtain ⟨b1,b2⟩:=ih b hb t id p c q _ hk hp hc h
   exact ⟨a1,b1,⟨x,X,rfl,x2⟩,x4,b2⟩
  simp only [prN] at h
  split at h
  ·cases h
  ·rename_i hc5
   split at h
   ·rename_i h56
    split at h
    ·cases h
    ·rename_i u n hg
     obtain ⟨f1,f2,f3,f4,f5⟩:=gv_facts _ u n (fun x hx=>hb x (List.mem_of_mem_drop hx)) hg
     rw [List.length_drop] at f3
     split at h
     ·cases h
     ·simp only [Res.ok.injEq] at h
      obtain ⟨rfl,rfl⟩:=h
      refine ⟨by omega,fun rest=> ?_⟩
      simp only [List.cons_append,List.nil_append,cost,if_pos h56,zig_zagV f1]
      exact ⟨trivial,by omega⟩
   ·rename_i h56
    split at h
    ·rename_i h8
     split at h
     ·cases h
     ·rename_i q' s hs
      simp only [Res.ok.injEq] at h
      obtain ⟨rfl,rfl⟩:=h
      obtain ⟨s1,s2⟩:=prText_len hb hs
      refine ⟨s1,fun rest=> ?_⟩
      simp only [List.cons_append,List.nil_append,cost,if_neg (show ¬((8:Int)=5∨(8:Int)=6) by omega),if_true]
      exact ⟨trivial,by omega⟩
    ·rename_i h8
     split at h
     ·rename_i h9
      split at h
      ·cases h
      ·rename_i q1 many item hm
       obtain ⟨m0,m1⟩:=prMany_ok hm
       obtain ⟨l0,l1⟩:=prMany_len hb hm
       split at h
       ·cases h
       ·rename_i q2 Y' hq
        simp only [Res.ok.injEq] at h
        obtain ⟨rfl,rfl⟩:=h
        have key:q1≤q2∧q2≤b.length∧CostPLe d false many.toNat 0 Y' (q2-q1):=by
         rcases m1 with ⟨rfl,rfl⟩|⟨m1,m2,m3⟩
         ·simp only [Int.toNat_zero,prParts,Res.ok.injEq] at hq
          obtain ⟨rfl,rfl⟩:=hq
          exact ⟨Nat.le_refl _,l0,fun rest=>⟨rfl,Nat.zero_le _⟩⟩
         ·refine prParts_cost (d:=d) (b:=b) (fun p c q Y hp hc h=> ?_) _ _ _ 0 _ _ l0 (by omega) hq
          obtain ⟨c1,c2,⟨x,X,c3,_⟩,c4,c5⟩:=ihS _ _ _ _ _ _ (isKind_of_item m3) hp hc h
          exact ⟨c1,c2,by rw [c3];simp,c4,c5⟩
        obtain ⟨k0,k1,k2⟩:=key
        refine ⟨k1,fun rest=> ?_⟩
        obtain ⟨e1,e2⟩:=k2 rest
        simp only [List.cons_append,cost,if_neg (show ¬((9:Int)=5∨(9:Int)=6) by omega),if_neg (show ¬((9:Int)=8) by omega),if_true]
        exact ⟨e1,by omega⟩
     ·rename_i h9
      split at h
      ·rename_i h12
       split at h
       ·cases h
       ·rename_i q1 m Y' hf
        simp only [Res.ok.injEq] at h
        obtain ⟨rfl,rfl⟩:=h
        obtain ⟨k0,k1,k2⟩:=prFields_cost (d:=d) hb ihS _ _ _ _ _ _ _ (Int.le_refl 0) hp (by omega) hf
        refine ⟨k1,fun rest=> ?_⟩
        obtain ⟨e1,e2⟩:=k2 rest
        simp only [List.cons_append,cost,if_neg (show ¬((12:Int)=5∨(12:Int)=6) by omega),if_neg (show ¬((12:Int)=8) by omega),if_neg (show ¬((12:Int)=9) by omega),if_true,Int.toNat_natCast]
        exact ⟨e1,by omega⟩
      ·rename_i h12
       simp only [Res.ok.injEq] at h
       obtain ⟨rfl,rfl⟩:=h
       refine ⟨hp,fun rest=> ?_⟩
       simp only [List.cons_append,List.nil_append,cost,if_neg h56,if_neg h8,if_neg h9,if_neg h12]
       exact ⟨trivial,by omega⟩
end Go.Law
end
section
set_option linter.unusedVariables false
set_option linter.unusedSimpArgs false
namespace Go.Law
open Go.Am Go.Fn
theorem isz {x:Int} (h0: -1000000000000≤x) (h1:x≤1000000000000):I64 x:=⟨by omega,by omega⟩
theorem wfn_mk {k id num m:Int} {t:ByteArray} (h1:I64 k) (h2:I64 id) (h3:I64 num) (h4:I64 m) (h5:t.size≤1073741824):WfN (k,id,num,t,m,()):=⟨h1,h2,h3,h4,h5⟩
theorem i8:I64 8:=⟨by decide,by decide⟩
theorem i9:I64 9:=⟨by decide,by decide⟩
theorem i12:I64 12:=⟨by decide,by decide⟩
theorem prParts_wf {S:Nat→Nat→Res (List TNode)} (ih:∀p c q Y,S p c= .ok q Y→∀n,n∈Y→WfN n):∀(m p c q:Nat) (Y:List TNode),prParts S m p c= .ok q Y→∀n,n∈Y→WfN n:=by
 intro m
 induction m with
 |zero=>
  intro p c q Y h n hn
  simp only [prParts,Res.ok.injEq] at h
  obtain ⟨_,rfl⟩:=h
  cases hn
 |succ m ihm=>
  intro p c q Y h n hn
  simp only [prParts] at h
  split at h
  ·cases h
  ·rename_i h1
   split at h
   ·cases h
   ·rename_i h2
    simp only [Res.ok.injEq] at h
    obtain ⟨_,rfl⟩:=h
    rcases List.mem_append.1 hn with hn|hn
    ·exact ih _ _ _ _ h1 n hn
    ·exact ihm _ _ _ _ h2 n hn
theorem prFields_wf {S:Int→Int→Nat→Nat→Res (List TNode)} {b:List Int} (ih:∀t id p c q Y,isKind t=true→0≤id→id≤1000→S t id p c= .ok q Y→∀n,n∈Y→WfN n):∀(f:Nat) (last:Int) (p c q m:Nat) (Y:List TNode),prFields S b f last p c= .ok q (m,Y)→m≤f∧∀n,n∈Y→WfN n:=by
 intro f
 induction f with
 |zero=>intro last p c q m Y h;cases h
 |succ f ihf=>
  intro last p c q m Y h
  simp only [prFields] at h
  split at h
  ·cases h
  ·rename_i q1 t id h1
   obtain ⟨a1,a2⟩:=prHead_ok h1
   split at h
   ·simp only [Res.ok.injEq,Prod.mk.injEq] at h
    obtain ⟨_,rfl,rfl⟩:=h
    exact ⟨by omega,fun n hn=>by cases hn⟩
   ·rename_i ht
    rcases a2 with a2|⟨a2,_,a3,a4,a5⟩
    ·exact (ht a2).elim
    ·split at h
     ·cases h
     ·rename_i h2
      split at h
      ·cases h
      ·rename_i h3
       simp only [Res.ok.injEq,Prod.mk.injEq] at h
       obtain ⟨_,rfl,rfl⟩:=h
       obtain ⟨g1,g2⟩:=ihf _ _ _ _ _ _ h3
       refine ⟨by omega,fun n hn=> ?_⟩
       rcases List.mem_append.1 hn with hn|hn
       ·exact ih _ _ _ _ _ _ a2 (by omega) a5 h2 n hn
       ·exact g2 n hn
theorem prN_wf:∀(d:Nat) (b:List Int) (kind id:Int) (p c q:Nat) (Y:List TNode),isKind kind=true→0≤id→id≤1000→prN d b kind id p c= .ok q Y→∀n,n∈Y→WfN n:=by
 intro d
 induction d with
 |zero=>intro b kind id p c q Y _ _ _ h;cases h
 |succ d ih=>
  intro b kind id p c q Y hk h0 h1 h
  have hkb:I64 kind:=by rcases kind_cases hk with e|e|e|e|e|e|e<;>subst e<;>exact ⟨by decide,by decide⟩
  have hid:I64 id:=isz (by omega) (by omega)
  have hz:I64 0:=⟨by decide,by decide⟩
  have he:(⟨#[]⟩:ByteArray).size≤1073741824:=by decide
  have mk:∀(x:TNode) (Y:List TNode),WfN x→(∀n,n∈Y→WfN n)→∀n,n∈x::Y→WfN n:=fun x Y hx hY n hn=>by
   rcases List.mem_cons.1 hn with rfl|hn
   ·exact hx
   ·exact hY n hn
  have nil:∀n:TNode,n∈([]:List TNode)→WfN n:=fun n hn=>by cases hn
  simp only [prN] at h
  split at h
  ·cases h
  ·split at h
   ·split at h
    ·cases h
    ·split at h
     ·cases h
     ·simp only [Res.ok.injEq] at h
      obtain ⟨_,rfl⟩:=h
      exact mk _ _ (wfn_mk hkb hid (zagV_i64 _) hz he) nil
   ·split at h
    ·split at h
     ·cases h
     ·rename_i s hs
      obtain ⟨_,s2⟩:=prText_ok hs
      simp only [Res.ok.injEq] at h
      obtain ⟨_,rfl⟩:=h
      exact mk _ _ (wfn_mk i8 hid hz hz (by omega)) nil
    ·split at h
     ·split at h
      ·cases h
      ·rename_i many item hm
       obtain ⟨_,m1⟩:=prMany_ok hm
       split at h
       ·cases h
       ·rename_i hp
        simp only [Res.ok.injEq] at h
        obtain ⟨_,rfl⟩:=h
        rcases m1 with ⟨rfl,rfl⟩|⟨m1,m2,m3⟩
        ·simp only [Int.toNat_zero,prParts,Res.ok.injEq] at hp
         obtain ⟨_,rfl⟩:=hp
         exact mk _ _ (wfn_mk i9 hid hz hz he) nil
        ·refine mk _ _ (wfn_mk i9 hid ?_ (isz (by omega) (by omega)) he) (prParts_wf (fun p c q Y h=>ih b item 0 p c q Y (isKind_of_item m3) (by omega) (by omega) h) _ _ _ _ _ hp)
         rcases kind_cases (isKind_of_item m3) with e|e|e|e|e|e|e<;>subst e<;>exact ⟨by decide,by decide⟩
     ·split at h
      ·split at h
       ·cases h
       ·rename_i hf
        simp only [Res.ok.injEq] at h
        obtain ⟨_,rfl⟩:=h
        obtain ⟨g1,g2⟩:=prFields_wf (fun t id p c q Y hk h0 h1 h=>ih b t id p c q Y hk h0 h1 h) _ _ _ _ _ _ _ hf
        exact mk _ _ (wfn_mk i12 hid hz (isz (by omega) (by omega)) he) g2
      ·simp only [Res.ok.injEq] at h
       obtain ⟨_,rfl⟩:=h
       exact mk _ _ (wfn_mk hkb hid hz hz he) nil
def trd (b:List Int) (at_:Int):Res (List TNode):=if 0≤at_∧at_<b.length then prN 12 b 12 0 at_.toNat 0 else .bad 1
structure ReadOk (b:List Int) (at_:Int) (q:Nat) (Y:List TNode):Prop where
 rng:0≤at_∧at_<q∧q≤b.length
 enc:Enc 12 Y
 root:∃X,∃n:TNode,Y=n::X∧n.1=12∧n.2.1=0
 len:Y.length≤1500
 wf:∀n,n∈Y→WfN n
theorem trd_ok {b:List Int} (hl:b.length<4611686018427387904) (hb:Byt b) {at_:Int} {q:Nat} {Y:List TNode} (h:trd b at_= .ok q Y):ReadOk b at_ q Y:=by
 unfold trd at h
 split at h
 ·rename_i hr
  obtain ⟨a1,n,X,e1,e2,e3,e4,e5⟩:=prN_enc 12 b 12 0 _ 0 q Y (by decide) (by omega) h
  have hlt:at_.toNat<q:=by
   simp only [prN] at h
   simp only [if_neg (show ¬(0:Nat)=1500 by omega),if_neg (show ¬((12:Int)=5∨(12:Int)=6) by omega),if_neg (show ¬((12:Int)=8) by omega),if_neg (show ¬((12:Int)=9) by omega),if_true] at h
   split at h
   ·cases h
   ·rename_i hf
    simp only [Res.ok.injEq] at h
    obtain ⟨rfl,rfl⟩:=h
    exact prFields_mono (fun t id p c q Y h=>prN_mono 11 b t id p c q Y h) _ _ _ _ _ _ hf
  have hq:=(prN_cost 12 b hb 12 0 _ 0 q Y (by decide) (by omega) (by omega) h).1
  exact ⟨⟨hr.1,by omega,hq⟩,e4,⟨X,n,e1,e2,e3⟩,by omega,prN_wf 12 b 12 0 _ 0 q Y (by decide) (by omega) (by omega) h⟩
 ·cases h
variable (k:Nat)
theorem treeRead_eq (hk:2000≤k) (b:List Int) (hl:b.length<4611686018427387904) (hb:Byt b) (at_:Int):
 match trd b at_ with
 | .bad e=>e≠0∧spec_TreeRead k b at_=some (((),0,e),[])∧impl_TreeRead k b at_=some (((),0,e),[])
 | .ok q Y=>spec_TreeRead k b at_=some (((),(q:Int),0),Y)∧impl_TreeRead k b at_=some (((),(q:Int),0),Y):=by
 unfold trd spec_TreeRead impl_TreeRead
 simp only [cst,within_eq]
 by_cases hr:0≤at_∧at_<b.length
 ·rw [if_pos hr]
  have c1:(decide ((0:Int)≤at_)&&decide (at_≤IntKind.wrap .i64 ((b.length:Int)-1)))=true:=by
   rw [w64 (by omega) (by omega)]
   simp
   omega
  rw [decide_eq_false (show ¬at_<0 by omega),decide_eq_false (show ¬at_≥(b.length:Int) by omega),c1]
  simp only [Bool.or_self,Option.bind_some,cond_false,Bool.not_true]
  obtain ⟨p,rfl⟩:=Int.eq_ofNat_of_zero_le hr.1
  rw [Int.toNat_natCast]
  have hs:=srdN k hk b hl hb 12 k 1 12 0 p [] (by omega) (by omega) (by decide) (by omega) (by simp)
  have hi:=irdN k hk b hl hb 12 k 1 12 0 p [] (by omega) (by omega) (by decide) (by omega) (by simp)
  have es:∀x,spec_l4Read k b (p:Int) 12 0 1 []=x↔spec_l4Read.rec k k b (p:Int) 12 0 ((1:Nat):Int) []=x:=fun x=>Iff.rfl
  have ei:∀x,impl_treeReader_node k 12 0 1 (b,(p:Int),(),0,()) []=x↔(impl_treeReader_node.rec k k).1 12 0 ((1:Nat):Int) (rdE b p 0) []=x:=fun x=>Iff.rfl
  rw [List.length_nil] at hs hi
  unfold SNode at hs
  unfold INode at hi
  cases h:prN 12 b 12 0 p 0 with
  |bad e=>
   rw [h] at hs hi
   obtain ⟨he,q,l,e1⟩:=hs
   obtain ⟨_,q',l',_,e2⟩:=hi
   rw [(es _).2 e1,(ei _).2 e2]
   simp only [Option.bind_some,bneT he,cond_true]
   exact ⟨he,trivial,trivial⟩
  |ok q Y=>
   rw [h] at hs hi
   obtain ⟨_,e1⟩:=hs
   obtain ⟨_,e2⟩:=hi
   rw [(es _).2 e1,(ei _).2 e2]
   simp only [Option.bind_some,bneF rfl,cond_false,List.nil_append]
   exact ⟨trivial,trivial⟩
 ·rw [if_neg hr]
  have c1:(decide ((0:Int)≤at_)&&decide (at_≤IntKind.wrap .i64 ((b.length:Int)-1)))=false:=by
   rw [w64 (by omega) (by omega),Bool.eq_false_iff]
   intro q
   simp only [Bool.and_eq_true,decide_eq_true_eq] at q
   omega
  have c2:(decide (at_<0)||decide (at_≥(b.length:Int)))=true:=by
   simp only [Bool.or_eq_true,decide_eq_true_eq]
   omega
  rw [c1,c2]
  simp only [Option.bind_some,cond_true,Bool.not_false]
  exact ⟨by decide,trivial,trivial⟩
theorem read_tree (hk:2000≤k) {b:List Int} {at_:Int} {q:Nat} {Y:List TNode} (h:ReadOk b at_ q Y):spec_TreeOk k Y=some true:=by
 obtain ⟨X,n,rfl,h1,h2⟩:=h.root
 exact treeOkEnc k hk n X h.enc h.len h1 h2
end Go.Law
end
section
set_option linter.unusedVariables false
set_option linter.unusedSimpArgs false
set_option linter.unusedSectionVars false
namespace Go.Law
open Go.Am Go.Fn
abbrev hdr (a:Int) (bad:Bool):THeadReader:=((),a,bad,())
abbrev zN:TNode:=(0,0,0,(⟨#[]⟩:ByteArray),0,())
abbrev zH:THead:=(0,0,0,0,0,0,0,0,false,0,false,zS,0,())
section
variable (k:Nat) (hk:2000000≤k) {l:List TNode} {af:List Int} (h:TreeFacts l af)
include hk h
theorem hany (a:Nat) (ha:a<l.length) (id:Int) (b:Bool):impl_headReader_any k id (hdr a b) (true,tB l) af=some ((nV k l a id).1,(hdr a (b|| !(nV k l a id).2),tB l,af)):=by
 obtain ⟨_,g,_⟩:=num_val k (by omega) h a ha id
 unfold impl_headReader_any impl_headReader_any.c4
 simp only [g,Option.bind_some]
 cases (nV k l a id).2<;>cases b<;>rfl
theorem hnum (a:Nat) (ha:a<l.length) (id:Int) (b:Bool):impl_headReader_num k id 0 (hdr a b) (tB l) af=some ((nV k l a id).1,(hdr a (b||(!(nV k l a id).2||decide ((nV k l a id).1<0))),tB l,af)):=by
 obtain ⟨_,g,_⟩:=num_val k (by omega) h a ha id
 unfold impl_headReader_num impl_headReader_num.c4
 simp only [g,Option.bind_some,cst]
 cases (nV k l a id).2<;>cases decide ((nV k l a id).1<0)<;>cases b<;>rfl
def kdV (l:List TNode) (q:Int):Int:=((rdL l q).map (·.1)).getD 0
theorem kd_val (q:Int) (h0:0≤q) (h1:q<l.length):∃n,rdL l q=some n∧kdV l q=n.1∧nok n=true:=by
 obtain ⟨p,rfl⟩:=Int.eq_ofNat_of_zero_le h0
 obtain ⟨d,nx,hd,hs,hnx⟩:=h.at (i:=p) (by omega)
 obtain ⟨n,n1,n2,n3⟩:=Sub_node hs
 refine ⟨n,n1,?_,n2⟩
 unfold kdV
 rw [show rdL l ((p:Nat):Int)=some n from n1]
 rfl
theorem find_ns (q:Nat) (hq:q<l.length) (hn:kdV l q≠12) (id:Int):fV k l q id= -1:=by
 obtain ⟨n,n1,n2,n3⟩:=kd_val k hk h (q:Int) (by omega) (by omega)
 have c1:(decide ((0:Int)≤(q:Int))&&decide ((q:Int)≤IntKind.wrap .i64 ((l.length:Int)-1)))=true:=by
  have:=h.len
  rw [w64 (by omega) (by omega)];simp;omega
 have:spec_l4Find k l (q:Int) id=some (-1):=by
  unfold spec_l4Find
  simp only [l1In_eq,c1,Option.bind_some,Bool.not_true,cond_false,n1,cst,csf,bneT (show ¬n.1=12 by omega),cond_true,Bool.true_or,Bool.or_true]
 unfold fV
 rw [this]
 rfl
def ptV (k:Nat) (l:List TNode) (id:Int):Bool:=decide (0≤fV k l 0 id)&&(kdV l (fV k l 0 id)==12)
theorem enter_eq (id:Int) (b:Bool):∃q:Nat,q<l.length∧impl_headReader_enter k id (hdr 0 b) (tB l) af=some ((),(hdr q (b|| !ptV k l id),tB l,af))∧spec_l16Part k l id=some (if ptV k l id then (q:Int) else -1):=by
 have hpos:=h.pos
 obtain ⟨f1,f2,f3⟩:=find_val k (by omega) h 0 (by omega) id
 rw [show ((0:Nat):Int)=0 from rfl] at f1 f2 f3
 unfold impl_headReader_enter spec_l16Part ptV
 simp only [f1,f2,Option.bind_some]
 rcases f3 with f3|⟨q,f3,q1,q2⟩
 ·rw [f3]
  refine ⟨0,hpos,?_,rfl⟩
  cases b<;>rfl
 ·rw [f3]
  obtain ⟨n,n1,n2,n3⟩:=kd_val k hk h (q:Int) (by omega) (by omega)
  simp only [decide_eq_false (show ¬(q:Int)<0 by omega),cond_false,n1,Option.bind_some,n2,decide_eq_true (show (0:Int)≤(q:Int) by omega),Bool.true_and]
  by_cases h12:n.1=12
  ·refine ⟨q,q2,?_,?_⟩
   ·rw [bneF h12,beqT h12,cond_false];cases b<;>rfl
   ·rw [bneF h12,beqT h12];rfl
  ·refine ⟨0,hpos,?_,?_⟩
   ·rw [bneT h12,beqF h12,cond_true];cases b<;>rfl
   ·rw [bneT h12,beqF h12];rfl
theorem ids_loop (a:Nat) (ha:a<l.length) (ids:List Int) (hi:ids.length<1000):∀(post pre:List Int) (n:Nat) (o:List Int),ids=pre++post→post.length<n→o.length=pre.length→
 ∃out,spec_l16Ids.l3 k n l (a:Int) ids (pre.length:Int) o=some (((),post.all fun id=>(nV k l a id).2),out)∧((post.all fun id=>(nV k l a id).2)=true→out=o++post.map fun id=>(nV k l a id).1):=by
 intro post
 induction post with
 |nil=>
  intro pre n o hp hn ho
  obtain ⟨n,rfl⟩:∃x,n=x+1:=⟨n-1,by omega⟩
  have:ids=pre:=by simpa using hp
  subst this
  simp only [spec_l16Ids.l3,decide_eq_false (show ¬(ids.length:Int)<(ids.length:Int) by omega),cond_false]
  exact ⟨o,rfl,fun _=>by simp⟩
 |cons id post ih=>
  intro pre n o hp hn ho
  simp only [List.length_cons] at hn
  obtain ⟨n,rfl⟩:∃x,n=x+1:=⟨n-1,by omega⟩
  have hlen:ids.length=pre.length+(post.length+1):=by rw [hp];simp
  have hg:rdL ids (pre.length:Int)=some id:=by rw [hp];exact getMid pre post id
  obtain ⟨g,_⟩:=num_val k (by omega) h a ha id
  simp only [spec_l16Ids.l3,decide_eq_true (show (pre.length:Int)<(ids.length:Int) by omega),cond_true,hg,Option.bind_some,g,List.all_cons]
  cases hb:(nV k l a id).2 with
  |false=>exact ⟨o,rfl,fun h=>by cases h⟩
  |true=>
   obtain ⟨out,i1,i2⟩:=ih (pre++[id]) n (o++[(nV k l a id).1]) (by rw [hp];simp) (by omega) (by simp [ho])
   rw [List.length_append,List.length_singleton] at i1
   simp only [Bool.not_true,cond_false,lim_ok (show o.length+[(nV k l a id).1].length≤4294967296 by simp;omega),cond_true,w64 (x:=(pre.length:Int)+1) (by omega) (by omega),Bool.true_and]
   exact ⟨out,i1,fun hh=>by rw [i2 hh];simp⟩
theorem ids_eq (a:Nat) (ha:a<l.length) (ids:List Int) (hi:ids.length<1000):
 ∃out,spec_l16Ids k l (a:Int) ids=some (((),ids.all fun id=>(nV k l a id).2),out)∧((ids.all fun id=>(nV k l a id).2)=true→out=ids.map fun id=>(nV k l a id).1):=by
 obtain ⟨out,i1,i2⟩:=ids_loop k hk h a ha ids hi ids [] k [] rfl (by omega) rfl
 exact ⟨out,i1,fun hh=>by rw [i2 hh];simp⟩
abbrev setSt (x:THead) (S:TStats×Bool):THead:=(x.1,x.2.1,x.2.2.1,x.2.2.2.1,x.2.2.2.2.1,x.2.2.2.2.2.1,x.2.2.2.2.2.2.1,x.2.2.2.2.2.2.2.1,x.2.2.2.2.2.2.2.2.1,x.2.2.2.2.2.2.2.2.2.1,S.2,S.1,x.2.2.2.2.2.2.2.2.2.2.2.2.1,())
def stV (k:Nat) (lf:TLeaf) (l:List TNode) (a id:Int):TStats×Bool:=
 if 0≤fV k l a id then (spec_l15From k lf l (fV k l a id)).getD (zS,false) else (zS,false)
def NoSt (x:THead):Prop:=x.2.2.2.2.2.2.2.2.2.2.1=false∧x.2.2.2.2.2.2.2.2.2.2.2.1=zS
theorem statistics_eq (lf:TLeaf) (hlf:lfOk lf=true) (a:Nat) (ha:a<l.length) (id:Int) (hid:id>0) (b:Bool) (x:THead) (hx:NoSt x) (o102:THead):
 impl_headReader_statistics k lf id (hdr a b) x (tB l) af=some ((),(hdr a b,setSt x (stV k lf l a id),tB l,af))∧spec_l16Kind.c27 k l id (a:Int) lf x o102=some (setSt x (stV k lf l a id),true):=by
 obtain ⟨f1,f2,f3⟩:=find_val k (by omega) h a ha id
 have hxx:setSt x (zS,false)=x:=by
  obtain ⟨h1,h2⟩:=hx
  obtain ⟨x1,x2,x3,x4,x5,x6,x7,x8,x9,x10,x11,x12,x13,x14⟩:=x
  simp only at h1 h2
  subst h1;subst h2
  rfl
 unfold impl_headReader_statistics spec_l16Kind.c27 spec_l16Kind.c33 stV
 simp only [f1,f2,Option.bind_some,decide_eq_true hid,cond_true]
 rcases f3 with f3|⟨q,f3,q1,q2⟩
 ·rw [f3]
  exact ⟨by rw [if_neg (by decide),hxx];rfl,by rw [if_neg (by decide),hxx];rfl⟩
 ·rw [f3]
  obtain ⟨n,n1,n2,n3⟩:=kd_val k hk h (q:Int) (by omega) (by omega)
  obtain ⟨S,s1,s2,s3⟩:=stats_eq k hk h lf hlf q q2
  rw [if_pos (by omega),s2]
  simp only [decide_eq_true (show (q:Int)≥0 by omega),cond_true,n1,Option.bind_some,s1,csf,Option.getD_some]
  by_cases h12:n.1=12
  ·rw [beqT h12]
   simp only [Bool.true_and,cond_true,s2,Option.bind_some]
   exact ⟨trivial,trivial⟩
  ·rw [beqF h12]
   have:S=(zS,false):=by
    have hm:(nV k l q 3).2=false:=by
     obtain ⟨_,_,_,g4⟩:=num_val k (by omega) h q q2 3
     have:=find_ns k hk h q q2 (by omega) 3
     cases hb:(nV k l q 3).2 with
     |false=>rfl
     |true=>have:=g4 hb;omega
    unfold spec_l15From at s2
    obtain ⟨g1,_⟩:=num_val k (by omega) h q q2 3
    obtain ⟨t5,b5,_,g5,_⟩:=text_eq k (by omega) h q q2 5
    obtain ⟨t6,b6,_,g6,_⟩:=text_eq k (by omega) h q q2 6
    simp only [g1,g5,g6,Option.bind_some,hm,Bool.not_false,cond_true,Option.some.injEq] at s2
    exact s2.symm
   subst this
   simp only [Bool.and_false,cond_false]
   exact ⟨trivial,by rw [hxx]⟩
def tl (k:Nat) (l:List TNode) (a:Int):Bool:=(!(nV k l a 1).2||decide ((nV k l a 1).1<0))||decide ((nV k l a 1).1>2000)
abbrev setM (x:THead) (m:Int):THead:=(x.1,x.2.1,m,x.2.2.2.1,x.2.2.2.2.1,x.2.2.2.2.2.1,x.2.2.2.2.2.2.1,x.2.2.2.2.2.2.2.1,x.2.2.2.2.2.2.2.2.1,x.2.2.2.2.2.2.2.2.2.1,x.2.2.2.2.2.2.2.2.2.2.1,x.2.2.2.2.2.2.2.2.2.2.2.1,x.2.2.2.2.2.2.2.2.2.2.2.2.1,())
theorem c23_eq (a:Nat) (ha:a<l.length) (b:Bool) (x:THead):impl_headReader_own.c23 k (hdr a b) x (tB l) af=some ((),(hdr a (b||tl k l a),setM x (nV k l a 1).1,tB l,af)):=by
 unfold impl_headReader_own.c23 tl
 simp only [hnum k hk h a ha 1 b,Option.bind_some,cst,Bool.or_assoc]
theorem tl_false {a:Int} (hh:tl k l a=false):(nV k l a 1).2=true∧0≤(nV k l a 1).1∧(nV k l a 1).1≤2000:=by
 unfold tl at hh
 simp only [Bool.or_eq_false_iff,Bool.not_eq_false',decide_eq_false_iff_not] at hh
 exact ⟨hh.1.1,by omega,by omega⟩
theorem tl_true {a:Int} (hh:tl k l a=true):(nV k l a 1).2=false∨(decide (0≤(nV k l a 1).1)&&decide ((nV k l a 1).1≤2000))=false:=by
 cases hb:(nV k l a 1).2 with
 |false=>exact .inl rfl
 |true=>
  right
  unfold tl at hh
  rw [hb] at hh
  simp only [Bool.not_true,Bool.false_or,Bool.or_eq_true,decide_eq_true_eq] at hh
  rw [Bool.eq_false_iff]
  simp only [ne_eq,Bool.and_eq_true,decide_eq_true_eq]
  omega
def OwnRes (k:Nat) (l:List TNode) (af:List Int) (lf:TLeaf) (b:Bool) (x:THead):Prop:=
 ∃(a':Int) (c:Bool) (y y':THead),impl_headReader_own k lf (hdr 0 b) x (tB l) af=some ((),(hdr a' (b||c),y,tB l,af))∧spec_l16Kind k lf l x=some (y',!c)∧(y.2.1=x.2.1∧y.2.2.2.2.2.2.2.2.2.2.2.2.1=x.2.2.2.2.2.2.2.2.2.2.2.2.1)∧(c=false→y'=y∧0≤y.2.2.1∧y.2.2.1≤2000)
theorem own2 (lf:TLeaf) (b:Bool) (x:THead) (hkd:x.1=2):OwnRes k l af lf b x:=by
 obtain ⟨q,hq,e1,e2⟩:=enter_eq k hk h 7 b
 obtain ⟨out,g1,g2⟩:=ids_eq k hk h q hq [1,2] (by decide)
 unfold OwnRes impl_headReader_own spec_l16Kind spec_l16Kind.c7 spec_l16Kind.c27 spec_l16Kind.c33
 simp only [hkd,show ((2:Int)==0)=false from rfl,show ((2:Int)==3)=false from rfl,show ((2:Int)==2)=true from rfl,cond_true,cond_false,e1,e2,Option.bind_some,hany k hk h q hq,c23_eq k hk h q hq,l1In_eq,cst,show decide ((0:Int)>0)=false from rfl]
 have gx:∀c:Bool,(((b|| !ptV k l 7)|| !(nV k l q 2).2)||tl k l q)=(b||(!ptV k l 7||(!(nV k l q 2).2||tl k l q))):=fun _=>by simp only [Bool.or_assoc]
 rw [gx true]
 cases hE:ptV k l 7 with
 |false=>
  simp only [Bool.false_eq_true,if_false,show decide ((-1:Int)<0)=true from rfl,cond_true]
  exact ⟨_,_,_,_,rfl,rfl,⟨rfl,rfl⟩,fun hh=>by simp at hh⟩
 |true=>
  simp only [if_true,decide_eq_false (show ¬(q:Int)<0 by omega),cond_false,g1,Option.bind_some,List.all_cons,List.all_nil,Bool.and_true]
  cases h2:(nV k l q 2).2 with
  |false=>
   simp only [Bool.and_false,Bool.not_false,cond_true,Option.bind_some]
   exact ⟨_,_,_,_,rfl,rfl,⟨rfl,rfl⟩,fun hh=>by simp at hh⟩
  |true=>
   cases ht:tl k l q with
   |true=>
    rcases tl_true k hk h ht with h1|h1
    ·simp only [h1,Bool.false_and,Bool.not_false,cond_true,Option.bind_some]
     exact ⟨_,_,_,_,rfl,rfl,⟨rfl,rfl⟩,fun hh=>by simp at hh⟩
    ·cases h1':(nV k l q 1).2 with
     |false=>
      simp only [Bool.false_and,Bool.not_false,cond_true,Option.bind_some]
      exact ⟨_,_,_,_,rfl,rfl,⟨rfl,rfl⟩,fun hh=>by simp at hh⟩
     |true=>
      have g2:=g2 (by simp [h1',h2])
      subst g2
      simp only [List.map_cons,List.map_nil,Bool.and_self,Bool.not_true,cond_false,rdL_zero,List.getElem?_cons_zero,Option.bind_some,h1,Bool.not_false,cond_true]
      exact ⟨_,_,_,_,rfl,rfl,⟨rfl,rfl⟩,fun hh=>by simp at hh⟩
   |false=>
    obtain ⟨h1,t0,t1⟩:=tl_false k hk h ht
    have g2:=g2 (by simp [h1,h2])
    subst g2
    have r1:rdL [(nV k l q 1).1,(nV k l q 2).1] 1=some (nV k l q 2).1:=rfl
    simp only [h1,List.map_cons,List.map_nil,Bool.and_self,Bool.not_true,cond_false,rdL_zero,List.getElem?_cons_zero,Option.bind_some,r1,decide_eq_true t0,decide_eq_true t1]
    exact ⟨_,_,_,_,rfl,rfl,⟨rfl,rfl⟩,fun _=>⟨rfl,t0,t1⟩⟩
theorem own0 (lf:TLeaf) (hlf:lfOk lf=true) (b:Bool) (x:THead) (hkd:x.1=0) (hx:NoSt x):OwnRes k l af lf b x:=by
 obtain ⟨q,hq,e1,e2⟩:=enter_eq k hk h 5 b
 obtain ⟨out,g1,g2⟩:=ids_eq k hk h q hq [1,2,3,4] (by decide)
 have st:=fun (bb:Bool) (m e:Int)=>statistics_eq k hk h lf hlf q hq 5 (by decide) bb ((0,x.2.1,m,e,x.2.2.2.2.1,x.2.2.2.2.2.1,x.2.2.2.2.2.2.1,x.2.2.2.2.2.2.2.1,x.2.2.2.2.2.2.2.2.1,x.2.2.2.2.2.2.2.2.2.1,x.2.2.2.2.2.2.2.2.2.2.1,x.2.2.2.2.2.2.2.2.2.2.2.1,x.2.2.2.2.2.2.2.2.2.2.2.2.1,()):THead) hx zH
 by_cases hc3:(nV k l q 3).1=3∧(nV k l q 4).1=3
 ·obtain ⟨h3,h4⟩:=hc3
  unfold OwnRes impl_headReader_own spec_l16Kind spec_l16Kind.c7 impl_headReader_own.c8
  simp only [hkd,show ((0:Int)==0)=true from rfl,show ((0:Int)==3)=false from rfl,show ((0:Int)==2)=false from rfl,cond_true,cond_false,e1,e2,Option.bind_some,hany k hk h q hq,(st _ _ _).1,c23_eq k hk h q hq,l1In_eq,cst]
  simp only [bneF h3,bneF h4,cond_false]
  rw [show ((((((b|| !ptV k l 5)|| !(nV k l q 2).2)|| !(nV k l q 3).2)|| !(nV k l q 4).2)||tl k l q))=(b||(!ptV k l 5||(!(nV k l q 2).2||(!(nV k l q 3).2||(!(nV k l q 4).2||tl k l q))))) by simp only [Bool.or_assoc]]
  cases hE:ptV k l 5 with
  |false=>
   simp only [Bool.false_eq_true,if_false,show decide ((-1:Int)<0)=true from rfl,cond_true]
   exact ⟨_,_,_,_,rfl,rfl,⟨rfl,rfl⟩,fun hh=>by simp at hh⟩
  |true=>
   simp only [if_true,decide_eq_false (show ¬(q:Int)<0 by omega),cond_false,g1,Option.bind_some,List.all_cons,List.all_nil,Bool.and_true]
   cases n2:(nV k l q 2).2 with
   |false=>
    simp only [Bool.and_false,Bool.false_and,Bool.not_false,cond_true,Option.bind_some]
    exact ⟨_,_,_,_,rfl,rfl,⟨rfl,rfl⟩,fun hh=>by simp at hh⟩
   |true=>
    cases n3:(nV k l q 3).2 with
    |false=>
     simp only [Bool.and_false,Bool.false_and,Bool.not_false,cond_true,Option.bind_some]
     exact ⟨_,_,_,_,rfl,rfl,⟨rfl,rfl⟩,fun hh=>by simp at hh⟩
    |true=>
     cases n4:(nV k l q 4).2 with
     |false=>
      simp only [Bool.and_false,Bool.false_and,Bool.not_false,cond_true,Option.bind_some]
      exact ⟨_,_,_,_,rfl,rfl,⟨rfl,rfl⟩,fun hh=>by simp at hh⟩
     |true=>
      cases n1:(nV k l q 1).2 with
      |false=>
       have ht:tl k l q=true:=by unfold tl;rw [n1];rfl
       rw [ht]
       simp only [Bool.and_false,Bool.false_and,Bool.not_false,cond_true,Option.bind_some]
       exact ⟨_,_,_,_,rfl,rfl,⟨rfl,rfl⟩,fun hh=>by simp at hh⟩
      |true=>
       have g2:=g2 (by simp [n1,n2,n3,n4])
       subst g2
       have r1:∀a b c d:Int,rdL [a,b,c,d] 1=some b:=fun _ _ _ _=>rfl
       have r2:∀a b c d:Int,rdL [a,b,c,d] 2=some c:=fun _ _ _ _=>rfl
       have r3:∀a b c d:Int,rdL [a,b,c,d] 3=some d:=fun _ _ _ _=>rfl
       simp only [List.map_cons,List.map_nil,Bool.and_self,Bool.not_true,cond_false,rdL_zero,List.getElem?_cons_zero,Option.bind_some,r1,r2,r3,bneF h3,bneF h4]
       cases ht:tl k l q with
       |true=>
        rcases tl_true k hk h ht with t|t
        ·rw [n1] at t;cases t
        ·simp only [t,Bool.not_false,cond_true]
         exact ⟨_,_,_,_,rfl,rfl,⟨rfl,rfl⟩,fun hh=>by simp at hh⟩
       |false=>
        obtain ⟨_,t0,t1⟩:=tl_false k hk h ht
        simp only [decide_eq_true t0,decide_eq_true t1,Bool.and_self,Bool.not_true,cond_false]
        exact ⟨_,_,_,_,rfl,(st b _ _).2,⟨rfl,rfl⟩,fun _=>⟨rfl,t0,t1⟩⟩
 ·
   have hI:∃(a':Int) (y:THead),impl_headReader_own k lf (hdr 0 b) x (tB l) af=some ((),(hdr a' true,y,tB l,af))∧(y.2.1=x.2.1∧y.2.2.2.2.2.2.2.2.2.2.2.2.1=x.2.2.2.2.2.2.2.2.2.2.2.2.1):=by
    unfold impl_headReader_own impl_headReader_own.c8
    simp only [hkd,show ((0:Int)==0)=true from rfl,cond_true,e1,Option.bind_some,hany k hk h q hq,(st _ _ _).1,c23_eq k hk h q hq]
    by_cases h3:(nV k l q 3).1=3
    ·have h4:¬(nV k l q 4).1=3:=fun h4=>hc3 ⟨h3,h4⟩
     simp only [bneF h3,bneT h4,cond_false,cond_true,Bool.true_or]
     exact ⟨_,_,rfl,rfl,rfl⟩
    ·simp only [bneT h3,cond_true,Bool.true_or]
     exact ⟨_,_,rfl,rfl,rfl⟩
   have hS:∃y',spec_l16Kind k lf l x=some (y',false):=by
    unfold spec_l16Kind spec_l16Kind.c7
    simp only [hkd,show ((0:Int)==0)=true from rfl,show ((0:Int)==3)=false from rfl,show ((0:Int)==2)=false from rfl,cond_true,cond_false,e2,Option.bind_some,l1In_eq,cst]
    cases ptV k l 5 with
    |false=>
     simp only [Bool.false_eq_true,if_false,show decide ((-1:Int)<0)=true from rfl,cond_true]
     exact ⟨_,rfl⟩
    |true=>
     simp only [if_true,decide_eq_false (show ¬(q:Int)<0 by omega),cond_false,g1,Option.bind_some]
     cases hal:([1,2,3,4].all fun id=>(nV k l (q:Int) id).2) with
     |false=>
      simp only [Bool.not_false,cond_true,Option.bind_some]
      exact ⟨_,rfl⟩
     |true=>
      have g2:=g2 hal
      subst g2
      have r1:∀a b c d:Int,rdL [a,b,c,d] 1=some b:=fun _ _ _ _=>rfl
      have r2:∀a b c d:Int,rdL [a,b,c,d] 2=some c:=fun _ _ _ _=>rfl
      have r3:∀a b c d:Int,rdL [a,b,c,d] 3=some d:=fun _ _ _ _=>rfl
      simp only [List.map_cons,List.map_nil,Bool.not_true,cond_false,rdL_zero,List.getElem?_cons_zero,Option.bind_some,r1,r2,r3]
      cases (decide (0≤(nV k l (q:Int) 1).1)&&decide ((nV k l (q:Int) 1).1≤2000)) with
      |false=>exact ⟨_,rfl⟩
      |true=>
       by_cases h3:(nV k l q 3).1=3
       ·have h4:¬(nV k l q 4).1=3:=fun h4=>hc3 ⟨h3,h4⟩
        simp only [bneF h3,bneT h4,cond_false,Option.bind_some,cond_true,Bool.not_true,Bool.or_true,Bool.false_or]
        exact ⟨_,rfl⟩
       ·simp only [bneT h3,Option.bind_some,cond_true,Bool.not_true,cond_false,Bool.true_or]
        exact ⟨_,rfl⟩
   obtain ⟨a',y,i1,i2⟩:=hI
   obtain ⟨y',s1⟩:=hS
   exact ⟨a',true,y,y',by rw [i1,Bool.or_true],s1,i2,nofun⟩
theorem own3 (lf:TLeaf) (hlf:lfOk lf=true) (b:Bool) (x:THead) (hkd:x.1=3) (hx:NoSt x):OwnRes k l af lf b x:=by
 obtain ⟨q,hq,e1,e2⟩:=enter_eq k hk h 8 b
 obtain ⟨out,g1,g2⟩:=ids_eq k hk h q hq [1,4,2,3,5,6] (by decide)
 have st:=fun (bb:Bool) (m e r n d p:Int)=>statistics_eq k hk h lf hlf q hq 8 (by decide) bb ((3,x.2.1,m,e,r,n,d,p,x.2.2.2.2.2.2.2.2.1,x.2.2.2.2.2.2.2.2.2.1,x.2.2.2.2.2.2.2.2.2.2.1,x.2.2.2.2.2.2.2.2.2.2.2.1,x.2.2.2.2.2.2.2.2.2.2.2.2.1,()):THead) hx zH
 obtain ⟨f1,f2,f3⟩:=find_val k (by omega) h q hq 7
 have hmk:∃c7:Bool,(bif decide (fV k l q 7<0) then some true else (rdL l (fV k l q 7)).bind fun y=>some (y.1==1))=some c7:=by
  rcases f3 with f3|⟨p,f3,p1,p2⟩
  ·rw [f3];exact ⟨_,rfl⟩
  ·rw [f3,decide_eq_false (show ¬(p:Int)<0 by omega),cond_false]
   obtain ⟨n,n1,_⟩:=kd_val k hk h (p:Int) (by omega) (by omega)
   rw [n1];exact ⟨_,rfl⟩
 obtain ⟨c7,hc7⟩:=hmk
 have hI:∃(a':Int),impl_headReader_own k lf (hdr 0 b) x (tB l) af=some ((),(hdr a' (b||(!ptV k l 8||((!(nV k l q 2).2||decide ((nV k l q 2).1<0))||((!(nV k l q 3).2||decide ((nV k l q 3).1<0))||(!(nV k l q 4).2||((!(nV k l q 5).2||decide ((nV k l q 5).1<0))||((!(nV k l q 6).2||decide ((nV k l q 6).1<0))||(c7||tl k l q)))))))),
  setM (setSt (3,x.2.1,0,(nV k l q 4).1,(nV k l q 3).1,(nV k l q 2).1,(nV k l q 5).1,(nV k l q 6).1,x.2.2.2.2.2.2.2.2.1,x.2.2.2.2.2.2.2.2.2.1,false,zS,x.2.2.2.2.2.2.2.2.2.2.2.2.1,()) (stV k lf l q 8)) (nV k l q 1).1,tB l,af)):=by
  unfold impl_headReader_own impl_headReader_own.c19
  simp only [hkd,show ((3:Int)==0)=false from rfl,show ((3:Int)==3)=true from rfl,cond_true,cond_false,e1,Option.bind_some,hany k hk h q hq,hnum k hk h q hq,f2,hc7,(st _ _ _ _ _ _ _).1,c23_eq k hk h q hq]
  refine ⟨q,?_⟩
  cases c7 with
  |true=>simp only [cond_true,Bool.true_or,Bool.or_true]
  |false=>simp only [cond_false,Bool.false_or,Bool.or_assoc]
 obtain ⟨a',hI⟩:=hI
 generalize hYd:setM (setSt (3,x.2.1,0,(nV k l q 4).1,(nV k l q 3).1,(nV k l q 2).1,(nV k l q 5).1,(nV k l q 6).1,x.2.2.2.2.2.2.2.2.1,x.2.2.2.2.2.2.2.2.2.1,false,zS,x.2.2.2.2.2.2.2.2.2.2.2.2.1,()) (stV k lf l q 8)) (nV k l q 1).1=Y at hI
 have hy2:Y.2.1=x.2.1∧Y.2.2.2.2.2.2.2.2.2.2.2.2.1=x.2.2.2.2.2.2.2.2.2.2.2.2.1:=by rw [←hYd];exact ⟨rfl,rfl⟩
 unfold OwnRes
 rw [hI]
 unfold spec_l16Kind spec_l16Kind.c7
 simp only [hkd,show ((3:Int)==0)=false from rfl,show ((3:Int)==3)=true from rfl,show ((3:Int)==2)=false from rfl,cond_true,cond_false,e2,Option.bind_some,l1In_eq,cst,f1]
 cases hE:ptV k l 8 with
 |false=>
  simp only [Bool.false_eq_true,if_false,show decide ((-1:Int)<0)=true from rfl,cond_true]
  exact ⟨a',_,Y,_,rfl,rfl,hy2,fun hh=>by simp at hh⟩
 |true=>
  simp only [if_true,decide_eq_false (show ¬(q:Int)<0 by omega),cond_false,g1,Option.bind_some]
  cases hal:([1,4,2,3,5,6].all fun id=>(nV k l (q:Int) id).2) with
  |false=>
   simp only [Bool.not_false,cond_true,Option.bind_some]
   refine ⟨a',true,Y,_,?_,rfl,hy2,nofun⟩
   have:(!true||((!(nV k l q 2).2||decide ((nV k l q 2).1<0))||((!(nV k l q 3).2||decide ((nV k l q 3).1<0))||(!(nV k l q 4).2||((!(nV k l q 5).2||decide ((nV k l q 5).1<0))||((!(nV k l q 6).2||decide ((nV k l q 6).1<0))||(c7||tl k l q)))))))=true:=by
    unfold tl
    simp only [List.all_cons,List.all_nil,Bool.and_true] at hal
    revert hal
    cases (nV k l q 1).2<;>cases (nV k l q 2).2<;>cases (nV k l q 3).2<;>cases (nV k l q 4).2<;>cases (nV k l q 5).2<;>cases (nV k l q 6).2<;>simp
   rw [this]
  |true=>
   have g2:=g2 hal
   subst g2
   simp only [List.all_cons,List.all_nil,Bool.and_true,Bool.and_eq_true] at hal
   obtain ⟨n1,n4,n2,n3,n5,n6⟩:=hal
   have r1:∀a b c d e f:Int,rdL [a,b,c,d,e,f] 1=some b:=fun _ _ _ _ _ _=>rfl
   have r2:∀a b c d e f:Int,rdL [a,b,c,d,e,f] 2=some c:=fun _ _ _ _ _ _=>rfl
   have r3:∀a b c d e f:Int,rdL [a,b,c,d,e,f] 3=some d:=fun _ _ _ _ _ _=>rfl
   have r4:∀a b c d e f:Int,rdL [a,b,c,d,e,f] 4=some e:=fun _ _ _ _ _ _=>rfl
   have r5:∀a b c d e f:Int,rdL [a,b,c,d,e,f] 5=some f:=fun _ _ _ _ _ _=>rfl
   have hsum:∀y:Bool,(bif y then some true else (bif decide (fV k l q 7<0) then some true else (rdL l (fV k l q 7)).bind fun y=>some (y.1==1)))=some (y||c7):=by
    intro y
    rw [hc7]
    cases y<;>rfl
   have hsum2:∀y:Bool,(bif y||decide (fV k l q 7<0) then some true else (rdL l (fV k l q 7)).bind fun y=>some (y.1==1))=some (y||c7):=by
    intro y
    cases y with
    |true=>rfl
    |false=>rw [Bool.false_or,hc7,Bool.false_or]
   simp only [List.map_cons,List.map_nil,Bool.not_true,cond_false,rdL_zero,List.getElem?_cons_zero,Option.bind_some,r1,r2,r3,r4,r5,n1,n2,n3,n4,n5,n6,Bool.false_or,f1,hsum2]
   cases ht:tl k l q with
   |true=>
    rcases tl_true k hk h ht with t|t
    ·rw [n1] at t;cases t
    ·simp only [t,Bool.not_false,cond_true]
     refine ⟨a',true,Y,_,by simp only [Bool.or_true],rfl,hy2,nofun⟩
   |false=>
    obtain ⟨_,t0,t1⟩:=tl_false k hk h ht
    simp only [decide_eq_true t0,decide_eq_true t1,Bool.and_self,Bool.not_true,cond_false]
    cases hbad:(((((decide ((nV k l q 2).1<0)||decide ((nV k l q 3).1<0))||decide ((nV k l q 5).1<0))||decide ((nV k l q 6).1<0)))||c7) with
    |true=>
     simp only [cond_true]
     refine ⟨a',true,Y,_,?_,rfl,hy2,nofun⟩
     have:(decide ((nV k l q 2).1<0)||(decide ((nV k l q 3).1<0)||(decide ((nV k l q 5).1<0)||(decide ((nV k l q 6).1<0)||(c7||false)))))=true:=by
      simpa only [Bool.or_assoc,Bool.or_false] using hbad
     rw [this]
    |false=>
     simp only [cond_false]
     have:(decide ((nV k l q 2).1<0)||(decide ((nV k l q 3).1<0)||(decide ((nV k l q 5).1<0)||(decide ((nV k l q 6).1<0)||(c7||false)))))=false:=by
      simpa only [Bool.or_assoc,Bool.or_false] using hbad
     refine ⟨a',false,Y,_,by rw [this],(st b _ _ _ _ _ _).2,hy2,fun _=>⟨?_,?_⟩⟩
     ·rw [←hYd,hx.1,hx.2]
     ·rw [←hYd];exact ⟨t0,t1⟩
theorem part_val (id kind:Int):(fV k l 0 id= -1∧impl_tree_part k 0 id kind (true,tB l) af=some ((zN,false),(tB l,af)))∨
 ∃n:TNode,0≤fV k l 0 id∧rdL l (fV k l 0 id)=some n∧nok n=true∧impl_tree_part k 0 id kind (true,tB l) af=some ((if n.1=kind then n else zN,n.1==kind),(tB l,af)):=by
 obtain ⟨f1,f2,f3⟩:=find_val k (by omega) h 0 h.pos id
 rw [show ((0:Nat):Int)=0 from rfl] at f1 f2 f3
 unfold impl_tree_part
 simp only [f2,Option.bind_some]
 rcases f3 with f3|⟨q,f3,q1,q2⟩
 ·left
  rw [f3]
  exact ⟨rfl,rfl⟩
 ·right
  obtain ⟨n,n1,_,n2⟩:=kd_val k hk h (q:Int) (by omega) (by omega)
  rw [f3]
  refine ⟨n,by omega,n1,n2,?_⟩
  simp only [decide_eq_false (show ¬(q:Int)<0 by omega),cond_false,n1,Option.bind_some]
  by_cases hkd:n.1=kind
  ·rw [bneF hkd,beqT hkd,if_pos hkd];rfl
  ·rw [bneT hkd,beqF hkd,if_neg hkd];rfl
theorem own_res (lf:TLeaf) (hlf:lfOk lf=true) (b:Bool) (x:THead) (hkd:x.1=0∨x.1=2∨x.1=3) (hx:NoSt x):OwnRes k l af lf b x:=by
 rcases hkd with hkd|hkd|hkd
 ·exact own0 k hk h lf hlf b x hkd hx
 ·exact own2 k hk h lf b x hkd
 ·exact own3 k hk h lf hlf b x hkd hx
theorem own_bad (lf:TLeaf) (b:Bool) (x:THead) (hkd:¬(x.1=0∨x.1=2∨x.1=3)):∃a' y,impl_headReader_own k lf (hdr 0 b) x (tB l) af=some ((),(hdr a' true,y,tB l,af)):=by
 unfold impl_headReader_own
 simp only [beqF (show ¬x.1=0 from fun h=>hkd (.inl h)),beqF (show ¬x.1=3 from fun h=>hkd (.inr (.inr h))),beqF (show ¬x.1=2 from fun h=>hkd (.inr (.inl h))),cond_false]
 have:=c23_eq k hk h 0 h.pos true x
 rw [show ((0:Nat):Int)=0 from rfl,Bool.true_or] at this
 exact ⟨_,_,this⟩
abbrev hd0 (v1 v2:Int) (c:Bool) (w q:Int):THead:=(v1,v2,0,0,0,0,0,0,c,w,false,zS,q,())
def finI (k:Nat) (l:List TNode) (af:List Int) (lf:TLeaf) (b:List Int) (q:Int) (bad:Bool) (x:THead):Option (THead×Int):=
 (impl_headReader_own k lf (hdr 0 bad) x (tB l) af).bind fun r1=>cond r1.2.1.2.2.1 (some (zH,1)) (cond (decide (r1.2.2.1.2.1>(IntKind.wrap .i64 ((List.length b:Int)-q)))) (some (zH,2)) (some (r1.2.2.1,0)))
theorem finI_true (lf:TLeaf) (hlf:lfOk lf=true) (b:List Int) (q v1 v2 w p:Int) (c:Bool):finI k l af lf b q true (hd0 v1 v2 c w p)=some (zH,1):=by
 unfold finI
 by_cases hkd:v1=0∨v1=2∨v1=3
 ·obtain ⟨a',cc,y,y',e1,_⟩:=own_res k hk h lf hlf true (hd0 v1 v2 c w p) hkd ⟨rfl,rfl⟩
  rw [e1]
  rfl
 ·obtain ⟨a',y,e1⟩:=own_bad k hk h lf true (hd0 v1 v2 c w p) hkd
  rw [e1]
  rfl
theorem finI_kind (lf:TLeaf) (b:List Int) (q v1 v2 w p:Int) (c bad:Bool) (hkd:¬(v1=0∨v1=2∨v1=3)):finI k l af lf b q bad (hd0 v1 v2 c w p)=some (zH,1):=by
 unfold finI
 obtain ⟨a',y,e1⟩:=own_bad k hk h lf bad (hd0 v1 v2 c w p) hkd
 rw [e1]
 rfl
theorem finI_good (lf:TLeaf) (hlf:lfOk lf=true) (b:List Int) (q v1 v2 w p:Int) (c:Bool) (hkd:v1=0∨v1=2∨v1=3):
 ∃r,finI k l af lf b q false (hd0 v1 v2 c w p)=some r∧spec_HeadRead.c17 k b q lf zH zH l (hd0 v1 v2 c w p)=some r∧(r.2=0→(r.1.2.1=v2∧r.1.2.2.2.2.2.2.2.2.2.2.2.2.1=p)∧(0≤r.1.2.2.1∧r.1.2.2.1≤2000)∧r.1.2.1≤IntKind.wrap .i64 ((b.length:Int)-q))∧(r.2=0∨r.2=1∨r.2=2):=by
 unfold finI spec_HeadRead.c17
 obtain ⟨a',cc,y,y',e1,e2,e3,e4⟩:=own_res k hk h lf hlf false (hd0 v1 v2 c w p) hkd ⟨rfl,rfl⟩
 rw [e1,e2]
 cases cc with
 |true=>exact ⟨_,rfl,rfl,(fun hh=>by cases hh),.inr (.inl rfl)⟩
 |false=>
  obtain ⟨e4,e5⟩:=e4 rfl
  subst e4
  simp only [Option.bind_some,Bool.or_self,cond_false,Bool.not_false,Bool.not_true]
  by_cases hs:y'.2.1>IntKind.wrap .i64 ((b.length:Int)-q)
  ·rw [decide_eq_true hs]
   exact ⟨_,rfl,rfl,(fun hh=>by cases hh),.inr (.inr rfl)⟩
  ·rw [decide_eq_false hs]
   exact ⟨_,rfl,rfl,fun _=>⟨e3,e5,Int.not_lt.1 hs⟩,.inl rfl⟩
theorem crc_and {x:Int} (h0: -2147483648≤x) (h1:x≤2147483647):bits .and .i64 x 4294967295=if x<0 then IntKind.wrap .i64 (x+4294967296) else x:=by
 have:=and_mask_i64 x 32 (by decide)
 have e:(2:Int)^32-1=4294967295:=by decide
 rw [e] at this
 rw [this]
 have e2:(2:Int)^32=4294967296:=by decide
 rw [e2]
 split
 ·rw [w64 (by omega) (by omega)];omega
 ·omega
theorem head_eq (lf:TLeaf) (hlf:lfOk lf=true) (b:List Int) (q:Int):
 ∃r,((impl_headReader_any k 1 (hdr 0 false) (true,tB l) af).bind fun r15=>(impl_headReader_num k 2 0 r15.2.1 r15.2.2.1 r15.2.2.2).bind fun r16=>
  impl_HeadRead.d9 k b q lf zH r16.2.2.1 r16.2.1 (r15.1,r16.1,0,0,0,0,0,0,false,0,false,zS,q,()) r16.2.2.2)=some r∧
 ((spec_l16Ids k l 0 [1,2,3]).bind fun r5=>
  (cond (!r5.1.2) (some (true)) ((rdL r5.2 0).bind fun y6=>
   (cond (y6 !=0) ((rdL r5.2 0).bind fun y7=>some (y7 !=2)) (some (false))).bind fun b8=>
   (cond b8 ((rdL r5.2 0).bind fun y9=>some (y9 !=3)) (some (false))).bind fun b10=>some (b10))).bind fun b11=>
  (cond b11 (some (true)) ((rdL r5.2 1).bind fun y12=>some (decide (y12<0)))).bind fun b13=>
  (cond b13 (some (true)) ((rdL r5.2 1).bind fun y14=>(rdL r5.2 2).bind fun y15=>some (y14 !=y15))).bind fun b16=>
  cond b16
   (some (zH,1))
   ((rdL r5.2 0).bind fun y17=>
    (rdL r5.2 1).bind fun y18=>
    (spec_l4Find k l 0 4).bind fun r19=>
    cond (decide (r19≥0))
     ((rdL l r19).bind fun y20=>
      cond (y20.1 !=5)
       (some (zH,1))
       ((rdL l r19).bind fun y21=>
        cond (decide (y21.2.2.1<0))
         (spec_HeadRead.c17 k b q lf zH zH l (y17,y18,0,0,0,0,0,0,true,IntKind.wrap .i64 (y21.2.2.1+4294967296),false,zS,q,()))
         (spec_HeadRead.c17 k b q lf zH zH l (y17,y18,0,0,0,0,0,0,true,y21.2.2.1,false,zS,q,()))))
     (spec_HeadRead.c17 k b q lf zH zH l (y17,y18,0,0,0,0,0,0,false,0,false,zS,q,()))))=some r∧
 (r.2=0→(0≤r.1.2.1∧r.1.2.2.2.2.2.2.2.2.2.2.2.2.1=q)∧(0≤r.1.2.2.1∧r.1.2.2.1≤2000)∧r.1.2.1≤IntKind.wrap .i64 ((b.length:Int)-q))∧(r.2=0∨r.2=1∨r.2=2):=by
 have hpos:=h.pos
 have z:((0:Nat):Int)=0:=rfl
 have a1:=hany k hk h 0 hpos 1 false
 have a2:=fun bb=>hnum k hk h 0 hpos 2 bb
 have a3:=fun bb=>hany k hk h 0 hpos 3 bb
 obtain ⟨f1,f2,f3⟩:=find_val k (by omega) h 0 hpos 4
 obtain ⟨out,g1,g2⟩:=ids_eq k hk h 0 hpos [1,2,3] (by decide)
 rw [z] at a1 f1 f2 f3 g1 g2
 simp only [z] at a2 a3
 have hcrc:∃(cb ch:Bool) (cw:Int),(∀bb v1 v2,impl_HeadRead.c11 k b q lf zH (tB l) (hdr 0 bb) (v1,v2,0,0,0,0,0,0,false,0,false,zS,q,()) af=finI k l af lf b q (bb||cb) (hd0 v1 v2 ch cw q))∧
  ∀v1 v2,((spec_l4Find k l 0 4).bind fun r19=>cond (decide (r19≥0)) ((rdL l r19).bind fun y20=>cond (y20.1 !=5) (some (zH,1)) ((rdL l r19).bind fun y21=>
   cond (decide (y21.2.2.1<0))
    (spec_HeadRead.c17 k b q lf zH zH l (v1,v2,0,0,0,0,0,0,true,IntKind.wrap .i64 (y21.2.2.1+4294967296),false,zS,q,()))
    (spec_HeadRead.c17 k b q lf zH zH l (v1,v2,0,0,0,0,0,0,true,y21.2.2.1,false,zS,q,()))))
   (spec_HeadRead.c17 k b q lf zH zH l (v1,v2,0,0,0,0,0,0,false,0,false,zS,q,())))=cond cb (some (zH,1)) (spec_HeadRead.c17 k b q lf zH zH l (hd0 v1 v2 ch cw q)):=by
  unfold impl_HeadRead.c11 impl_HeadRead.c14 impl_HeadRead.d14 finI
  simp only [f1,f2,Option.bind_some]
  rcases part_val k hk h 4 5 with ⟨p1,p2⟩|⟨n,p1,p2,p3,p4⟩
  ·simp only [p1,p2,f2,Option.bind_some,show decide ((-1:Int)≥0)=false from rfl,cond_false]
   refine ⟨false,false,0,fun bb v1 v2=> ?_,fun v1 v2=>rfl⟩
   rw [Bool.or_false]
   rfl
  ·simp only [p2,p4,f2,Option.bind_some,decide_eq_true (show fV k l 0 4≥0 from p1),cond_true]
   by_cases h5:n.1=5
   ·have hnum: -2147483648≤n.2.2.1∧n.2.2.1≤2147483647:=by
     unfold nok at p3
     rw [if_pos h5] at p3
     simp only [Bool.and_eq_true,decide_eq_true_eq] at p3
     exact p3.1.1
    rw [beqT h5,bneF h5,if_pos h5]
    refine ⟨false,true,bits .and .i64 n.2.2.1 4294967295,fun bb v1 v2=> ?_,fun v1 v2=> ?_⟩
    ·simp only [Bool.not_true,Option.bind_some,cond_false,Bool.or_false]
    ·simp only [cond_false]
     rw [crc_and k hk h hnum.1 hnum.2]
     by_cases hneg:n.2.2.1<0
     ·rw [decide_eq_true hneg,if_pos hneg,cond_true]
     ·rw [decide_eq_false hneg,if_neg hneg,cond_false]
   ·rw [beqF h5,bneT h5,if_neg h5]
    refine ⟨true,false,bits .and .i64 0 4294967295,fun bb v1 v2=> ?_,fun v1 v2=>rfl⟩
    simp only [Bool.not_false,Option.bind_some,cond_true,Bool.or_true]
 obtain ⟨cb,ch,cw,c1,c2⟩:=hcrc
 simp only [a1,a2,Option.bind_some,impl_HeadRead.d9,a3,c1,g1,c2]
 have hfl:∀(B C:Bool),(cond B (finI k l af lf b q (true||cb) (hd0 (nV k l 0 1).1 (nV k l 0 2).1 ch cw q)) (finI k l af lf b q (C||cb) (hd0 (nV k l 0 1).1 (nV k l 0 2).1 ch cw q)))=finI k l af lf b q ((C||B)||cb) (hd0 (nV k l 0 1).1 (nV k l 0 2).1 ch cw q):=by
  intro B C
  cases B<;>cases C<;>rfl
 rw [hfl]
 by_cases good:((nV k l 0 1).2=true∧(nV k l 0 2).2=true∧(nV k l 0 3).2=true)∧((nV k l 0 1).1=0∨(nV k l 0 1).1=2∨(nV k l 0 1).1=3)∧0≤(nV k l 0 2).1∧(nV k l 0 2).1=(nV k l 0 3).1
 ·obtain ⟨⟨n1,n2,n3⟩,hkd,hs0,hs1⟩:=good
  have hal:([1,2,3].all fun id=>(nV k l 0 id).2)=true:=by simp [n1,n2,n3]
  have g2:=g2 hal
  subst g2
  rw [hal]
  have r1:∀a b c:Int,rdL [a,b,c] 1=some b:=fun _ _ _=>rfl
  have r2:∀a b c:Int,rdL [a,b,c] 2=some c:=fun _ _ _=>rfl
  have hk3:((bif (nV k l 0 1).1 !=0 then (some ((nV k l 0 1).1 !=2):Option Bool) else some false).bind fun b8=>(bif b8 then (some ((nV k l 0 1).1 !=3):Option Bool) else some false).bind fun b10=>some b10)=some false:=by
   rcases hkd with e|e|e<;>rw [e]<;>rfl
  simp only [List.map_cons,List.map_nil,Bool.not_true,cond_false,rdL_zero,List.getElem?_cons_zero,Option.bind_some,r1,r2,hk3,n1,n2,n3,decide_eq_false (show ¬(nV k l 0 2).1<0 by omega),bneF hs1,bneF hs1.symm,Bool.or_self,Bool.false_or]
  cases cb with
  |true=>exact ⟨_,finI_true k hk h lf hlf b q _ _ _ _ _,rfl,(fun hh=>by cases hh),.inr (.inl rfl)⟩
  |false=>
   obtain ⟨r,e1,e2,e3,e9⟩:=finI_good k hk h lf hlf b q (nV k l 0 1).1 (nV k l 0 2).1 cw q ch hkd
   exact ⟨r,e1,e2,(fun hh=>by obtain ⟨⟨x1,x2⟩,x3,x4⟩:=e3 hh;exact ⟨⟨by omega,x2⟩,x3,x4⟩),e9⟩
 ·refine ⟨(zH,1),?_,?_,(fun hh=>by cases hh),.inr (.inl rfl)⟩
  ·by_cases hkd:(nV k l 0 1).1=0∨(nV k l 0 1).1=2∨(nV k l 0 1).1=3
   ·have:((((((false|| !(nV k l 0 1).2)||(!(nV k l 0 2).2||decide ((nV k l 0 2).1<0)))|| !(nV k l 0 3).2)||((nV k l 0 3).1 !=(nV k l 0 2).1))||cb))=true:=by
     cases n1:(nV k l 0 1).2 with
     |false=>simp
     |true=>
      cases n2:(nV k l 0 2).2 with
      |false=>simp
      |true=>
       cases n3:(nV k l 0 3).2 with
       |false=>simp
       |true=>
        by_cases hs:(nV k l 0 2).1<0
        ·rw [decide_eq_true hs];simp
        ·have:¬(nV k l 0 3).1=(nV k l 0 2).1:=fun e=>good ⟨⟨n1,n2,n3⟩,hkd,by omega,e.symm⟩
         rw [bneT this];simp
    rw [this]
    exact finI_true k hk h lf hlf b q _ _ _ _ _
   ·exact finI_kind k hk h lf b q _ _ _ _ _ _ hkd
  ·cases hal:([1,2,3].all fun id=>(nV k l 0 id).2) with
   |false=>rfl
   |true=>
    have g2:=g2 hal
    subst g2
    simp only [List.all_cons,List.all_nil,Bool.and_true,Bool.and_eq_true] at hal
    obtain ⟨n1,n2,n3⟩:=hal
    have r1:∀a b c:Int,rdL [a,b,c] 1=some b:=fun _ _ _=>rfl
    have r2:∀a b c:Int,rdL [a,b,c] 2=some c:=fun _ _ _=>rfl
    simp only [List.map_cons,List.map_nil,Bool.not_true,cond_false,rdL_zero,List.getElem?_cons_zero,Option.bind_some,r1,r2]
    by_cases hkd:(nV k l 0 1).1=0∨(nV k l 0 1).1=2∨(nV k l 0 1).1=3
    ·have hk3:((bif (nV k l 0 1).1 !=0 then (some ((nV k l 0 1).1 !=2):Option Bool) else some false).bind fun b8=>(bif b8 then (some ((nV k l 0 1).1 !=3):Option Bool) else some false).bind fun b10=>some b10)=some false:=by
      rcases hkd with e|e|e<;>rw [e]<;>rfl
     rw [hk3]
     simp only [Option.bind_some,cond_false]
     by_cases hs:(nV k l 0 2).1<0
     ·rw [decide_eq_true hs];rfl
     ·have:¬(nV k l 0 2).1=(nV k l 0 3).1:=fun e=>good ⟨⟨n1,n2,n3⟩,hkd,by omega,e⟩
      rw [decide_eq_false hs,bneT this];rfl
    ·have hk3:((bif (nV k l 0 1).1 !=0 then (some ((nV k l 0 1).1 !=2):Option Bool) else some false).bind fun b8=>(bif b8 then (some ((nV k l 0 1).1 !=3):Option Bool) else some false).bind fun b10=>some b10)=some true:=by
      rw [bneT (fun e=>hkd (.inl e)),bneT (fun e=>hkd (.inr (.inl e))),bneT (fun e=>hkd (.inr (.inr e)))]
      rfl
     rw [hk3]
     rfl
end
theorem headRead_eq (k:Nat) (hk:2000000≤k) (lf:TLeaf) (b:List Int) (hl:b.length<4611686018427387904) (hb:Byt b) (at_:Int):
 ∃r,impl_HeadRead k lf b at_=some r∧spec_HeadRead k lf b at_=some r∧
  (r.2=0→lfOk lf=true∧0≤r.1.2.1∧0≤r.1.2.2.2.2.2.2.2.2.2.2.2.2.1∧r.1.2.2.2.2.2.2.2.2.2.2.2.2.1+r.1.2.1≤(b.length:Int)∧0≤r.1.2.2.1∧r.1.2.2.1≤2000∧0≤at_∧at_<r.1.2.2.2.2.2.2.2.2.2.2.2.2.1)∧(r.2=0∨r.2=1∨r.2=2):=by
 have hr:=treeRead_eq k (by omega) b hl hb at_
 unfold impl_HeadRead spec_HeadRead
 cases ht:trd b at_ with
 |bad c=>
  rw [ht] at hr
  obtain ⟨hc,e1,e2⟩:=hr
  have hto:∃x,impl_treeOf k []=some x:=by
   obtain ⟨_,_,h2⟩:=treeOf_eq k (by omega) [] (fun n hn=>by cases hn) (by simp)
   rcases h2 with ⟨_,x,hx⟩|⟨_,_,h1,_⟩
   ·exact ⟨_,hx⟩
   ·simp at h1
  obtain ⟨x,hx⟩:=hto
  simp only [e1,e2,hx,Option.bind_some,(lfOk_eq k lf).1,(lfOk_eq k lf).2,cst,bneT hc,Bool.or_true,Bool.true_or,cond_true]
  exact ⟨(zH,1),rfl,rfl,(fun hh=>by cases hh),.inr (.inl rfl)⟩
 |ok q Y=>
  rw [ht] at hr
  obtain ⟨e1,e2⟩:=hr
  have g:=trd_ok hl hb ht
  have hok:=read_tree k (by omega) g
  obtain ⟨bb,h1,h2⟩:=treeOf_eq k (by omega) Y g.wf (by have:=g.len;omega)
  rw [hok] at h1
  rcases h2 with ⟨rfl,_⟩|⟨_,hl1,hl2,af,hx,hSb,_⟩
  ·cases h1
  have h:TreeFacts Y af:=⟨hl1,hl2,hSb,g.wf⟩
  simp only [e1,e2,hx,Option.bind_some,(lfOk_eq k lf).1,(lfOk_eq k lf).2,cst,bneF rfl,Bool.or_false,Bool.not_true]
  cases hlf:lfOk lf with
  |false=>
   simp only [Bool.not_false,cond_true]
   exact ⟨(zH,1),rfl,rfl,(fun hh=>by cases hh),.inr (.inl rfl)⟩
  |true=>
   simp only [Bool.not_true,cond_false]
   obtain ⟨r,r1,r2,r3,r4⟩:=head_eq k hk h lf hlf b (q:Int)
   refine ⟨r,r1,r2,fun hh=> ?_,r4⟩
   obtain ⟨⟨x1,x2⟩,x3,x4⟩:=r3 hh
   have:=g.rng
   rw [w64 (by omega) (by omega)] at x4
   exact ⟨trivial,x1,by omega,by omega,x3.1,x3.2,by omega,by omega⟩
end Go.Law
end
section
set_option linter.unusedVariables false
set_option linter.unusedSimpArgs false
namespace Go.Law
open Go.Am Go.Fn
abbrev bodyOf' (h:THead):Int:=h.2.2.2.2.2.2.2.2.2.2.2.2.1
theorem checked_eq (k:Nat) (hk:2000000≤k) (lf:TLeaf) (b:List Int) (hl:b.length≤1048576) (hb:Byt b) (at_:Int):
 ∃(h:THead) (c:Int),impl_HeadRead k lf b at_=some (h,c)∧spec_HeadRead k lf b at_=some (h,c)∧
  ((c≠0∧c≠3∧impl_checked k lf b at_=some (h,[],c))∨
   (c=0∧lfOk lf=true∧0≤bodyOf' h∧0≤h.2.1∧bodyOf' h+h.2.1≤(b.length:Int)∧0≤h.2.2.1∧h.2.2.1≤2000∧
    ∃r:Int,spec_CrcOf k (cutL b (bodyOf' h) (bodyOf' h+h.2.1))=some r∧
     impl_checked k lf b at_=some (if h.2.2.2.2.2.2.2.2.1=true∧r≠h.2.2.2.2.2.2.2.2.2.1 then (h,[],3) else (h,cutL b (bodyOf' h) (bodyOf' h+h.2.1),0)))):=by
 obtain ⟨⟨h,c⟩,e1,e2,e3,e4⟩:=headRead_eq k hk lf b (by omega) hb at_
 refine ⟨h,c,e1,e2,?_⟩
 by_cases hc:c=0
 ·subst hc
  obtain ⟨f1,f2,f3,f4,f5,f6,_⟩:=e3 rfl
  right
  have f2:0≤h.2.1:=f2
  have f3:0≤bodyOf' h:=f3
  have f4:bodyOf' h+h.2.1≤(b.length:Int):=f4
  have ew:IntKind.wrap .i64 (bodyOf' h+h.2.1)=bodyOf' h+h.2.1:=w64 (by omega) (by omega)
  have hcb:Byt (cutL b (bodyOf' h) (bodyOf' h+h.2.1)):=fun x hx=>by
   unfold cutL at hx
   exact hb x (List.mem_of_mem_take (List.mem_of_mem_drop hx))
  have hcl:(cutL b (bodyOf' h) (bodyOf' h+h.2.1)).length≤1048576:=by
   unfold cutL
   rw [List.length_drop,List.length_take]
   omega
  obtain ⟨r,r1,r2⟩:=crcOf_eq k (by omega) _ (show (cutL b (bodyOf' h) (bodyOf' h+h.2.1)).length<1000000000 by omega) (by omega) hcb
  refine ⟨rfl,f1,f3,f2,f4,f5,f6,r,r2,?_⟩
  unfold impl_checked impl_checked.d5
  simp only [e1,Option.bind_some,bneF rfl,cond_false]
  have ew:IntKind.wrap .i64 (h.2.2.2.2.2.2.2.2.2.2.2.2.1+h.2.1)=h.2.2.2.2.2.2.2.2.2.2.2.2.1+h.2.1:=ew
  have r1:impl_CrcOf k (cutL b h.2.2.2.2.2.2.2.2.2.2.2.2.1 (h.2.2.2.2.2.2.2.2.2.2.2.2.1+h.2.1))=some r:=r1
  rw [ew,inSl_ok f3 (show bodyOf' h≤bodyOf' h+h.2.1 by omega) f4,cond_true,r1]
  cases hs:h.2.2.2.2.2.2.2.2.1 with
  |false=>rw [if_neg (fun hh=>by cases hh.1)];rfl
  |true=>
   simp only [Option.bind_some,cond_true]
   by_cases hr:h.2.2.2.2.2.2.2.2.2.1=r
   ·rw [bneF hr,if_neg (fun hh=>hh.2 hr.symm)];rfl
   ·rw [bneT hr,if_pos ⟨trivial,fun e=>hr e.symm⟩];rfl
 ·left
  have e4:c=0∨c=1∨c=2:=e4
  have h3:c≠3:=by omega
  refine ⟨hc,h3,?_⟩
  unfold impl_checked
  simp only [e1,Option.bind_some,bneT hc,cond_true]
theorem dictRead_eq (k:Nat) (hk:2000000≤k) (t:Int) (b:List Int) (hl:b.length≤1048576) (hb:Byt b) (at_:Int):
 ∃r,impl_DictRead k t b at_=some r∧spec_DictRead k t b at_=some r∧r.2.length≤2000∧(r.1.2.2=0→tyOk t=true∧∀v,v∈r.2→vok t v=true∧I64 v.1):=by
 obtain ⟨h,c,e1,e2,e3⟩:=checked_eq k hk (t,0,0,()) b hl hb at_
 unfold impl_DictRead spec_DictRead
 rcases e3 with ⟨c0,c3,e3⟩|⟨rfl,f1,f2,f3,f4,f5,f6,r,r1,e3⟩
 ·simp only [e2,e3,Option.bind_some,bneT c0,beqF c0,beqF c3,cond_true,cond_false]
  exact ⟨(((),0,c),[]),rfl,rfl,by simp,fun hh=>(c0 hh).elim⟩
 ·have ew:IntKind.wrap .i64 (h.2.2.2.2.2.2.2.2.2.2.2.2.1+h.2.1)=h.2.2.2.2.2.2.2.2.2.2.2.2.1+h.2.1:=w64 (show _≤bodyOf' h+h.2.1 by omega) (show bodyOf' h+h.2.1<_ by omega)
  have hsl:inSl h.2.2.2.2.2.2.2.2.2.2.2.2.1 (h.2.2.2.2.2.2.2.2.2.2.2.2.1+h.2.1) b.length=true:=inSl_ok f2 (show bodyOf' h≤bodyOf' h+h.2.1 by omega) f4
  simp only [e2,e3,Option.bind_some,bneF rfl,cond_false,csf]
  by_cases hkd:(h.1 !=2||(h.2.2.2.1 !=0&&h.2.2.2.1 !=2))=true
  ·refine ⟨(((),0,1),[]),?_,?_,by simp,fun hh=>by cases hh⟩
   ·by_cases hs:h.2.2.2.2.2.2.2.2.1=true∧r≠h.2.2.2.2.2.2.2.2.2.1
    ·rw [if_pos hs]
     simp only [show ((3:Int)==0)=false from rfl,show ((3:Int)==3)=true from rfl,cond_false,Option.bind_some,cond_true,cst,hkd,Bool.or_self,Bool.or_false,Bool.false_or,Bool.or_true,Bool.true_or,csf,Bool.true_and,Bool.false_and]
    ·rw [if_neg hs]
     simp only [show ((0:Int)==0)=true from rfl,Option.bind_some,cond_true,cst,hkd,Bool.or_self,Bool.or_false,Bool.false_or,Bool.or_true,Bool.true_or,csf,Bool.true_and]
   ·simp only [Option.bind_some,cst,hkd,cond_true]
  ·have hkd:=Bool.eq_false_iff.2 hkd
   obtain ⟨nx,ok,l,p1,p2,pr⟩:=plainRead_eq k (by omega) t (cutL b (bodyOf' h) (bodyOf' h+h.2.1)) (by unfold cutL;rw [List.length_drop,List.length_take];omega) (fun x hx=>by
    unfold cutL at hx
    exact hb x (List.mem_of_mem_take (List.mem_of_mem_drop hx))) 0 h.2.2.1 ⟨by decide,by decide⟩
   have r1:spec_CrcOf k (cutL b h.2.2.2.2.2.2.2.2.2.2.2.2.1 (h.2.2.2.2.2.2.2.2.2.2.2.2.1+h.2.1))=some r:=r1
   have p2:spec_PlainRead k t (cutL b h.2.2.2.2.2.2.2.2.2.2.2.2.1 (h.2.2.2.2.2.2.2.2.2.2.2.2.1+h.2.1)) 0 h.2.2.1=some (((),nx,ok),l):=p2
   unfold spec_DictRead.d8
   simp only [Option.bind_some,cst,hkd,cond_false,ew,hsl,cond_true,r1,p2]
   by_cases hs:h.2.2.2.2.2.2.2.2.1=true∧r≠h.2.2.2.2.2.2.2.2.2.1
   ·obtain ⟨hs1,hs2⟩:=hs
    rw [if_pos ⟨hs1,hs2⟩,hs1,bneT hs2]
    simp only [show ((3:Int)==0)=false from rfl,show ((3:Int)==3)=true from rfl,show ((3:Int) !=0)=true from rfl,cond_false,Option.bind_some,cond_true,hkd,cst,Bool.or_self,Bool.or_false,Bool.false_or,Bool.or_true,Bool.true_or,csf,Bool.true_and,Bool.false_and]
    exact ⟨(((),0,3),[]),rfl,rfl,by simp,fun hh=>by cases hh⟩
   ·rw [if_neg hs]
    have hin:(bif h.2.2.2.2.2.2.2.2.1 then
     (bif r !=h.2.2.2.2.2.2.2.2.2.1 then some ((((),0,3),[]):(Unit×Int×Int)×List TVal) else (bif !ok||nx !=((cutL b h.2.2.2.2.2.2.2.2.2.2.2.2.1 (h.2.2.2.2.2.2.2.2.2.2.2.2.1+h.2.1)).length:Int) then some (((),0,5),[]) else some (((),h.2.2.2.2.2.2.2.2.2.2.2.2.1+h.2.1,0),l)))
     else (bif !ok||nx !=((cutL b h.2.2.2.2.2.2.2.2.2.2.2.2.1 (h.2.2.2.2.2.2.2.2.2.2.2.2.1+h.2.1)).length:Int) then some (((),0,5),[]) else some (((),h.2.2.2.2.2.2.2.2.2.2.2.2.1+h.2.1,0),l)))=
     (bif !ok||nx !=((cutL b h.2.2.2.2.2.2.2.2.2.2.2.2.1 (h.2.2.2.2.2.2.2.2.2.2.2.2.1+h.2.1)).length:Int) then some (((),0,5),[]) else some (((),h.2.2.2.2.2.2.2.2.2.2.2.2.1+h.2.1,0),l)):=by
     cases hs1:h.2.2.2.2.2.2.2.2.1 with
     |false=>rfl
     |true=>
      have:r=h.2.2.2.2.2.2.2.2.2.1:=Classical.byContradiction fun hh=>hs ⟨hs1,hh⟩
      rw [bneF this];rfl
    have p1:impl_PlainRead k t (cutL b h.2.2.2.2.2.2.2.2.2.2.2.2.1 (h.2.2.2.2.2.2.2.2.2.2.2.2.1+h.2.1)) 0 h.2.2.1=some (((),nx,ok),l):=p1
    rw [hin]
    simp only [show ((0:Int)==0)=true from rfl,show ((0:Int) !=0)=false from rfl,cond_false,Option.bind_some,cond_true,cst,hkd,p1,ew,Bool.or_self,Bool.or_false,Bool.true_or,csf,Bool.true_and]
    cases ok with
    |false=>
     simp only [Bool.not_false,Bool.true_or,cond_true]
     exact ⟨(((),0,5),[]),rfl,rfl,by simp,fun hh=>by cases hh⟩
    |true=>
     have hlen:=pr.len rfl
     have hm:=pr.m0 rfl
     cases (!true||nx !=((cutL b h.2.2.2.2.2.2.2.2.2.2.2.2.1 (h.2.2.2.2.2.2.2.2.2.2.2.2.1+h.2.1)).length:Int)) with
     |true=>exact ⟨(((),0,5),[]),rfl,rfl,by simp,fun hh=>by cases hh⟩
     |false=>exact ⟨_,rfl,rfl,(by show l.length≤2000;omega),fun _=>⟨pr.ty rfl,pr.vk rfl⟩⟩
end Go.Law
end
section
set_option linter.unusedVariables false
set_option linter.unusedSimpArgs false
namespace Go.Law
open Go.Am Go.Fn
theorem pages_loop (k:Nat) (hk:2000000≤k) (lf:TLeaf) (ck:TChunk) (b:List Int) (hl:b.length≤1048576) (hb:Byt b) (dict:List TVal):∀(f n:Nat) (at_ many:Int) (o:List Int),((b.length:Int)-at_).toNat≤f→f<n→0≤at_→0≤many→many+2000*f≤1000000000000→o.length+f≤1048576→
 ∃(c:Int) (P:List Int) (V:List TVal),impl_ChunkPages.l11 k n b many at_ lf ck dict o=some (((),(),c),(P,V))∧spec_ChunkPages.l13 k n b at_ many lf ck [] [] dict o=some (((),(),c),(P,V))∧
  P.length≤1048576∧(V=dict∨V=[]):=by
 intro f
 induction f with
 |zero=>
  intro n at_ many o hf hn h0 hm hb2 hol
  obtain ⟨n,rfl⟩:∃x,n=x+1:=⟨n-1,by omega⟩
  obtain ⟨⟨h,c⟩,e1,e2,e3,e4⟩:=headRead_eq k hk lf b (by omega) hb at_
  simp only [impl_ChunkPages.l11,spec_ChunkPages.l13]
  by_cases hmore:many<ck.2.2.2.1
  ·have hc:¬c=0:=by
    intro hc
    obtain ⟨_,_,_,f4,_,_,_,f8⟩:=e3 hc
    have f4:bodyOf' h+h.2.1≤(b.length:Int):=f4
    have f8:at_<bodyOf' h:=f8
    have f2:0≤h.2.1:=by obtain ⟨_,f2,_⟩:=e3 hc;exact f2
    omega
   simp only [decide_eq_true hmore,cond_true,e1,e2,Option.bind_some,bneT hc]
   exact ⟨_,_,_,rfl,rfl,by simp,.inr rfl⟩
  ·simp only [decide_eq_false hmore,cond_false]
   exact ⟨_,_,_,rfl,rfl,by omega,.inl rfl⟩
 |succ f ih=>
  intro n at_ many o hf hn h0 hm hb2 hol
  obtain ⟨n,rfl⟩:∃x,n=x+1:=⟨n-1,by omega⟩
  obtain ⟨⟨h,c⟩,e1,e2,e3,e4⟩:=headRead_eq k hk lf b (by omega) hb at_
  simp only [impl_ChunkPages.l11,spec_ChunkPages.l13]
  by_cases hmore:many<ck.2.2.2.1
  ·simp only [decide_eq_true hmore,cond_true,e1,e2,Option.bind_some]
   by_cases hc:c=0
   ·subst hc
    obtain ⟨_,f2,f3,f4,f5,f6,_,f8⟩:=e3 rfl
    have f2:0≤h.2.1:=f2
    have f4:bodyOf' h+h.2.1≤(b.length:Int):=f4
    have f8:at_<bodyOf' h:=f8
    have f5:0≤h.2.2.1:=f5
    have f6:h.2.2.1≤2000:=f6
    simp only [bneF rfl,cond_false,cst,Option.bind_some]
    cases ((h.1==2||h.2.2.1==0)||decide (IntKind.wrap .i64 (many+h.2.2.1)>ck.2.2.2.1)) with
    |true=>
     simp only [cond_true]
     exact ⟨_,_,_,rfl,rfl,by simp,.inr rfl⟩
    |false=>
     have em:IntKind.wrap .i64 (many+h.2.2.1)=many+h.2.2.1:=w64 (by omega) (by omega)
     have eb:IntKind.wrap .i64 (h.2.2.2.2.2.2.2.2.2.2.2.2.1+h.2.1)=h.2.2.2.2.2.2.2.2.2.2.2.2.1+h.2.1:=w64 (show _≤bodyOf' h+h.2.1 by omega) (show bodyOf' h+h.2.1<_ by omega)
     simp only [cond_false,em,eb]
     rw [lim_ok (show o.length+[at_].length≤4294967296 by simp;omega),cond_true,cond_true]
     exact ih n (bodyOf' h+h.2.1) (many+h.2.2.1) (o++[at_]) (by omega) (by omega) (by omega) (by omega) (by omega) (by simp;omega)
   ·simp only [bneT hc,cond_true]
    exact ⟨_,_,_,rfl,rfl,by simp,.inr rfl⟩
  ·simp only [decide_eq_false hmore,cond_false]
   exact ⟨_,_,_,rfl,rfl,by omega,.inl rfl⟩
theorem chunkPages_eq (k:Nat) (hk:2000000≤k) (lf:TLeaf) (ck:TChunk) (b:List Int) (hl:b.length≤1048576) (hb:Byt b):
 ∃(c:Int) (P:List Int) (V:List TVal),impl_ChunkPages k lf b ck=some (((),(),c),(P,V))∧spec_ChunkPages k lf b ck=some (((),(),c),(P,V))∧P.length≤1048576∧V.length≤2000:=by
 unfold impl_ChunkPages spec_ChunkPages impl_ChunkPages.c9 spec_ChunkPages.c10
 simp only [cst,Option.bind_some]
 by_cases hat:ck.2.1<0
 ·simp only [decide_eq_true hat,Bool.true_or,cond_true]
  exact ⟨_,_,_,rfl,rfl,by simp,by simp⟩
 by_cases hdi:ck.2.2.1< -1
 ·simp only [decide_eq_true hdi,Bool.or_true,cond_true]
  exact ⟨_,_,_,rfl,rfl,by simp,by simp⟩
 simp only [decide_eq_false hat,decide_eq_false hdi,Bool.or_self,cond_false]
 by_cases hd:ck.2.2.1≥0
 ·obtain ⟨r,e1,e2,e3,_⟩:=dictRead_eq k hk lf.1 b hl hb ck.2.2.1
  simp only [decide_eq_true hd,cond_true,e1,e2,Option.bind_some]
  by_cases hc:r.1.2.2=0
  ·simp only [bneF hc,cond_false]
   obtain ⟨c,P,V,i1,i2,i3,i4⟩:=pages_loop k hk lf ck b hl hb r.2 b.length k ck.2.1 0 [] (by omega) (by omega) (by omega) (by omega) (by omega) (by simp;omega)
   refine ⟨c,P,V,i1,i2,i3,?_⟩
   rcases i4 with rfl|rfl
   ·exact e3
   ·simp
  ·simp only [bneT hc,cond_true]
   exact ⟨_,_,_,rfl,rfl,by simp,by simp⟩
 ·simp only [decide_eq_false hd,cond_false]
  obtain ⟨c,P,V,i1,i2,i3,i4⟩:=pages_loop k hk lf ck b hl hb [] b.length k ck.2.1 0 [] (by omega) (by omega) (by omega) (by omega) (by omega) (by simp;omega)
  refine ⟨c,P,V,i1,i2,i3,?_⟩
  rcases i4 with rfl|rfl<;>simp
end Go.Law
end
section
set_option linter.unusedVariables false
set_option linter.unusedSimpArgs false
set_option linter.unusedSectionVars false
namespace Go.Law
open Go.Am Go.Fn
variable (k:Nat)
theorem PartsC_nx {S:Nat→Nat→Prop} {s:List TCol} (hS:∀a b,S a b→a<b):∀(c pos:Nat) (names:List ByteArray) (nx:Nat),PartsC S s c pos names nx→pos≤nx
 |c,pos,names,nx,h=>by have:=PartsC_le hS c pos names nx h;omega
section
variable (s:List TCol) (hs:s.length≤20) (hn:∀c,c∈s→c.1.size<k∧c.1.size<1000000000∧I64 c.2.2.2.1)
include hs hn
theorem colAfter_loop (hk:100≤k) (d D deep:Nat) (hdeep:deep≤6) (M:Int) (hM:M<9223372036854775808)
 (ih:∀at_ nx:Nat,SubC s d at_ nx→nx≤s.length→impl_colAfter.rec k D s (at_:Int) ((deep+1:Nat):Int)=some (nx:Int)):
 ∀(c f pos:Nat) (i:Int) (names:List ByteArray) (nx:Nat),PartsC (SubC s d) s c pos names nx→c<f→M-i=c→0≤i→nx≤s.length→names.length≤pos→
  impl_colAfter.l6 k (impl_colAfter.rec k D) f s (deep:Int) (pos:Int) M i names=some (nx:Int):=by
 intro c
 induction c with
 |zero=>
  intro f pos i names nx hp hf hi h0 hnx hnm
  obtain ⟨f,rfl⟩:∃m,f=m+1:=⟨f-1,by omega⟩
  have hp:pos=nx:=hp
  subst hp
  simp only [impl_colAfter.l6,decide_eq_false (show ¬i<M by omega),cond_false]
 |succ c ihc=>
  intro f pos i names nx hp hf hi h0 hnx hnm
  obtain ⟨f,rfl⟩:∃m,f=m+1:=⟨f-1,by omega⟩
  obtain ⟨p,mid,p1,p2,p3,p4⟩:=hp
  have hlt:=SubC_lt _ _ _ p3
  have hmn:=PartsC_nx (SubC_lt d) _ _ _ _ p4
  have hd1:IntKind.wrap .i64 ((deep:Int)+1)=((deep+1:Nat):Int):=by rw [w64 (by omega) (by omega)];omega
  have hi1:IntKind.wrap .i64 (i+1)=i+1:=w64 (by omega) (by omega)
  simp only [impl_colAfter.l6,decide_eq_true (show i<M by omega),cond_true,decide_eq_false (show ¬(pos:Int)≥(s.length:Int) by omega),cond_false]
  rw [show (0:Int)=((0:Nat):Int) from rfl,implNames k _ _ s _ pos M i _ p1 names (by omega) names.length k 0 (by omega) (by omega),List.drop_zero,if_neg p2,hd1,ih pos mid p3 (by omega)]
  simp only [Option.bind_some,decide_eq_false (show ¬((mid:Int)<0) by omega),cond_false,hi1]
  exact ihc f mid (i+1) (names++[p.1]) nx p4 (by omega) (by omega) (by omega) hnx (by simp;omega)
theorem colAfter_rec (hk:100≤k):∀(d D deep at_ nx:Nat),SubC s d at_ nx→d+deep≤7→d<D→nx≤s.length→impl_colAfter.rec k D s (at_:Int) (deep:Int)=some (nx:Int):=by
 intro d
 induction d with
 |zero=>intro D deep at_ nx h;exact h.elim
 |succ d ih=>
  intro D deep at_ nx h hd hD hnx
  obtain ⟨D,rfl⟩:∃m,D=m+1:=⟨D-1,by omega⟩
  have hlt:=SubC_lt _ _ _ h
  obtain ⟨c,h1,h2,h3,h4⟩:=h
  have hcm:c∈s:=List.mem_of_getElem? h1
  obtain ⟨n1,n2,n3⟩:=hn c hcm
  have hle:=PartsC_le (SubC_lt d) _ _ _ _ h4
  have ha1:IntKind.wrap .i64 ((at_:Int)+1)=((at_+1:Nat):Int):=by rw [w64 (by omega) (by omega)];omega
  have hm0:0≤c.2.2.2.1:=by
   unfold colOk at h2
   simp only [Bool.and_eq_true,Bool.or_eq_true,beq_iff_eq,decide_eq_true_eq] at h2
   omega
  have hname:(decide ((at_:Int)>0)&& !nameOk c.1)=false:=by
   by_cases h0:0<at_
   ·rw [h3 h0];simp
   ·rw [decide_eq_false (show ¬(at_:Int)>0 by omega)];rfl
  simp only [impl_colAfter.rec,impl_colAfter.b,cst,csf,decide_eq_false (show ¬(at_:Int)≥(s.length:Int) by omega),decide_eq_false (show ¬(deep:Int)>6 by omega),Bool.false_or,Option.bind_some,cond_false,rdL_nat,h1,colOk_eq,h2,Bool.not_true,isColName_eq k c.1 n1 n2,hname,ha1]
  have:=colAfter_loop k s hs hn hk d D deep (by omega) c.2.2.2.1 n3.2 (fun a b hab hb=>ih D (deep+1) a b hab (by omega) (by omega) hb) c.2.2.2.1.toNat k (at_+1) 0 [] nx h4 (by omega) (by omega) (by omega) hnx (by simp)
  exact this
theorem colAfter_sub (hk:100≤k) {d at_ nx:Nat} (h:SubC s d at_ nx) (hd:d≤6) (hnx:nx≤s.length):impl_colAfter k s (at_:Int) 1=some (nx:Int):=
 colAfter_rec k s hs hn hk d k 1 at_ nx h (by omega) (by omega) hnx
theorem l5After_rec (hk:100≤k):∀(d D at_ nx:Nat),SubC s d at_ nx→d<D→nx≤s.length→spec_l5After.rec k D s (at_:Int)=some (nx:Int):=by
 intro d
 induction d with
 |zero=>intro D at_ nx h;exact h.elim
 |succ d ih=>
  intro D at_ nx h hD hnx
  obtain ⟨D,rfl⟩:∃m,D=m+1:=⟨D-1,by omega⟩
  have hlt:=SubC_lt _ _ _ h
  obtain ⟨c,h1,h2,h3,h4⟩:=h
  obtain ⟨n1,n2,n3⟩:=hn c (List.mem_of_getElem? h1)
  have hle:=PartsC_le (SubC_lt d) _ _ _ _ h4
  have ha1:IntKind.wrap .i64 ((at_:Int)+1)=((at_+1:Nat):Int):=by rw [w64 (by omega) (by omega)];omega
  have hm0:0≤c.2.2.2.1:=by
   unfold colOk at h2
   simp only [Bool.and_eq_true,Bool.or_eq_true,beq_iff_eq,decide_eq_true_eq] at h2
   omega
  have key:∀(m f pos:Nat) (i:Int) (names:List ByteArray),PartsC (SubC s d) s m pos names nx→m<f→c.2.2.2.1-i=m→0≤i→spec_l5After.l3 k (spec_l5After.rec k D) f s (at_:Int) (pos:Int) i=some (nx:Int):=by
   intro m
   induction m with
   |zero=>
    intro f pos i names hp hf hi h0
    obtain ⟨f,rfl⟩:∃m,f=m+1:=⟨f-1,by omega⟩
    have hp:pos=nx:=hp
    subst hp
    simp only [spec_l5After.l3,rdL_nat,h1,Option.bind_some,decide_eq_false (show ¬i<c.2.2.2.1 by omega),cond_false]
   |succ m ihm=>
    intro f pos i names hp hf hi h0
    obtain ⟨f,rfl⟩:∃m,f=m+1:=⟨f-1,by omega⟩
    obtain ⟨p,mid,p1,p2,p3,p4⟩:=hp
    have hmn:=PartsC_nx (SubC_lt d) _ _ _ _ p4
    have hi1:IntKind.wrap .i64 (i+1)=i+1:=w64 (by omega) (by obtain ⟨_,q⟩:=n3;omega)
    simp only [spec_l5After.l3,rdL_nat,h1,Option.bind_some,decide_eq_true (show i<c.2.2.2.1 by omega),cond_true,ih D pos mid p3 (by omega) (by omega),hi1]
    exact ihm f mid (i+1) _ p4 (by omega) (by omega) (by omega)
  simp only [spec_l5After.rec,spec_l5After.b,ha1]
  exact key c.2.2.2.1.toNat k (at_+1) 0 [] h4 (by omega) (by omega) (by omega)
theorem l5After_sub (hk:100≤k) {d at_ nx:Nat} (h:SubC s d at_ nx) (hd:d≤6) (hnx:nx≤s.length):spec_l5After k s (at_:Int)=some (nx:Int):=
 l5After_rec k s hs hn hk d k at_ nx h (by omega) hnx
end
def leavesFrom:Nat→List TCol→List Int
 |_,[]=>[]
 |i,c::r=>if c.2.1=7 then leavesFrom (i+1) r else (i:Int)::leavesFrom (i+1) r
theorem leavesFrom_len:∀(i:Nat) (s:List TCol),(leavesFrom i s).length≤s.length
 |_,[]=>Nat.le_refl _
 |i,c::r=>by
  have:=leavesFrom_len (i+1) r
  simp only [leavesFrom]
  split<;>simp<;>omega
theorem leaves_loop (s:List TCol) (hs:s.length≤1000):∀(post pre:List TCol) (n:Nat) (o:List Int),s=pre++post→post.length<n→o.length≤pre.length→
 impl_leavesOf.l3 k n s (s.length:Int) (pre.length:Int) o=some ((),o++leavesFrom pre.length post)∧spec_l5Leaves.l3 k n s (pre.length:Int) o=some ((),o++leavesFrom pre.length post):=by
 intro post
 induction post with
 |nil=>
  intro pre n o hsp hn ho
  obtain ⟨n,rfl⟩:∃j,n=j+1:=⟨n-1,by omega⟩
  have:s=pre:=by simpa using hsp
  subst this
  simp only [impl_leavesOf.l3,spec_l5Leaves.l3,decide_eq_false (show ¬(s.length:Int)<(s.length:Int) by omega),cond_false]
  simp [leavesFrom]
 |cons x post ih=>
  intro pre n o hsp hn ho
  simp only [List.length_cons] at hn
  obtain ⟨n,rfl⟩:∃j,n=j+1:=⟨n-1,by omega⟩
  have hlen:s.length=pre.length+(post.length+1):=by rw [hsp];simp
  have hg:rdL s (pre.length:Int)=some x:=by rw [hsp];exact getMid _ _ _
  have hi1:IntKind.wrap .i64 ((pre.length:Int)+1)=((pre.length+1:Nat):Int):=by rw [w64 (by omega) (by omega)];omega
  simp only [impl_leavesOf.l3,spec_l5Leaves.l3,decide_eq_true (show (pre.length:Int)<(s.length:Int) by omega),cond_true,hg,Option.bind_some,impl_leavesOf.c7,spec_l5Leaves.c4,hi1,leavesFrom]
  by_cases h7:x.2.1=7
  ·have hi:=ih (pre++[x]) n o (by rw [hsp];simp) (by omega) (by simp;omega)
   rw [List.length_append,List.length_singleton] at hi
   rw [bneF h7,cond_false,cond_false,if_pos h7]
   exact hi
  ·have hi:=ih (pre++[x]) n (o++[(pre.length:Int)]) (by rw [hsp];simp) (by omega) (by simp;omega)
   rw [List.length_append,List.length_singleton,List.append_assoc,List.singleton_append] at hi
   rw [bneT h7,cond_true,cond_true,if_neg h7,lim_ok (by simp;omega),cond_true,cond_true]
   exact hi
theorem leaves_eq (hk:2000≤k) (s:List TCol) (hs:s.length≤1000):impl_leavesOf k s=some ((),leavesFrom 0 s)∧spec_l5Leaves k s=some ((),leavesFrom 0 s):=by
 have:=leaves_loop k s hs s [] k [] rfl (by omega) (by simp)
 exact this
end Go.Law
end
section
set_option linter.unusedVariables false
set_option linter.unusedSimpArgs false
set_option linter.unusedSectionVars false
namespace Go.Law
open Go.Am Go.Fn
structure Ev where
 at_:Nat
 leaf:Bool
 rep:Int
 def_:Int
 v:TVal
def zv:TVal:=(0,⟨#[]⟩,())
def cbad (v:TVal) (most:Int):Bool:= !eqS v.2.1 ⟨#[]⟩|| !(decide (0≤v.1)&&decide (v.1≤most))
theorem cbad_false {v:TVal} {most:Int} (h:cbad v most=false):0≤v.1∧v.1≤most:=by
 unfold cbad at h
 simp only [Bool.or_eq_false_iff,Bool.not_eq_false',Bool.and_eq_true,decide_eq_true_eq] at h
 exact h.2
abbrev EvR:=Option (List Ev×List TVal)
def evPair (a:EvR) (f:List TVal→EvR):EvR:=
 match a with
 |none=>none
 |some (x,V)=>match f V with
  |none=>none
  |some (y,W)=>some (x++y,W)
def evParts (F:Nat→List TVal→EvR) (e:Nat→Nat):Nat→Nat→List TVal→EvR
 |0,_,V=>some ([],V)
 |m+1,a,V=>evPair (F a V) (evParts F e m (e a))
def evItems (F:List TVal→EvR):Nat→List TVal→EvR
 |0,V=>some ([],V)
 |m+1,V=>evPair (F V) (evItems F m)
def iter (f:Nat→Nat):Nat→Nat→Nat
 |0,a=>a
 |n+1,a=>iter f n (f a)
def endC (s:List TCol):Nat→Nat→Nat
 |0,a=>a
 |d+1,a=>match s[a]? with
  |none=>a+1
  |some c=>iter (endC s d) c.2.2.2.1.toNat (a+1)
theorem endC_parts {s:List TCol} {S:Nat→Nat→Prop} {e:Nat→Nat} (h:∀a b,S a b→e a=b):∀(m a:Nat) (names:List ByteArray) (nx:Nat),PartsC S s m a names nx→iter e m a=nx
 |0,a,_,nx,hp=>hp
 |m+1,a,names,nx,⟨p,mid,_,_,h3,h4⟩=>by
  show iter e m (e a)=nx
  rw [h a mid h3]
  exact endC_parts h m mid _ nx h4
theorem endC_eq {s:List TCol}:∀(d:Nat) {a b:Nat},SubC s d a b→∀d',d≤d'→endC s d' a=b
 |0,_,_,h,_,_=>h.elim
 |d+1,a,b,⟨c,h1,_,_,h2⟩,d',hd=>by
  obtain ⟨d',rfl⟩:∃q,d'=q+1:=⟨d'-1,by omega⟩
  simp only [endC,h1]
  exact endC_parts (S:=SubC s d) (fun x y hxy=>endC_eq d hxy d' (by omega)) _ _ _ _ h2
def miss (s:List TCol) (rep def_:Int):Nat→Nat→List Ev
 |0,_=>[]
 |n+1,i=>(match s[i]? with
  |none=>[]
  |some c=>if c.2.1=7 then [] else [⟨i,false,rep,def_,zv⟩])++miss s rep def_ n (i+1)
def evPart (s:List TCol) (C:Int→Int→Int→List TVal→EvR) (e a:Nat) (rep def_ deep:Int) (V:List TVal):EvR:=
 match s[a]? with
 |none=>none
 |some c=>
  if c.2.2.1=0 then C rep def_ deep V
  else match V with
   |[]=>none
   |v::V=>
    if c.2.2.1=2 then
     if cbad v 20=true then none
     else if v.1=0 then some (miss s rep def_ (e-a) a,V)
     else evPair (C rep (def_+1) (deep+1) V) (evItems (C (deep+1) (def_+1) (deep+1)) (v.1.toNat-1))
    else
     if cbad v 1=true then none
     else if v.1=0 then some (miss s rep def_ (e-a) a,V)
     else C rep (def_+1) deep V
def evC (s:List TCol):Nat→Nat→Int→Int→Int→List TVal→EvR
 |0,_,_,_,_,_=>none
 |d+1,a,rep,def_,deep,V=>match s[a]? with
  |none=>none
  |some c=>
   if c.2.1=7 then evParts (fun a V=>evPart s (evC s d a) (endC s d a) a rep def_ deep V) (endC s d) c.2.2.2.1.toNat (a+1) V
   else match V with
    |[]=>none
    |v::V=>if vok c.2.1 v=true then some ([⟨a,true,rep,def_,v⟩],V) else none
def EvG (V:List TVal) (r:EvR):Prop:=∀X W,r=some (X,W)→W.length≤V.length∧X.length+20*W.length≤20*V.length∧W=V.drop (V.length-W.length)
theorem evPair_some {a:EvR} {f:List TVal→EvR} {X:List Ev} {W:List TVal} (h:evPair a f=some (X,W)):∃x y V,a=some (x,V)∧f V=some (y,W)∧X=x++y:=by
 unfold evPair at h
 split at h
 ·cases h
 ·rename_i x V
  split at h
  ·cases h
  ·rename_i y W' hf
   simp only [Option.some.injEq,Prod.mk.injEq] at h
   obtain ⟨rfl,rfl⟩:=h
   exact ⟨x,y,V,rfl,hf,rfl⟩
theorem EvG.pair {V:List TVal} {a:EvR} {f:List TVal→EvR} (h:EvG V a) (k:∀W,EvG W (f W)):EvG V (evPair a f):=by
 intro X W hr
 obtain ⟨x,y,U,h1,h2,rfl⟩:=evPair_some hr
 obtain ⟨a1,a2,a3⟩:=h _ _ h1
 obtain ⟨b1,b2,b3⟩:=k U _ _ h2
 refine ⟨by omega,by simp;omega,?_⟩
 rw [b3,a3,List.drop_drop]
 congr 1
 simp only [List.length_drop]
 omega
theorem EvG.nil (V:List TVal):EvG V (some ([],V)):=by
 intro X W h
 simp only [Option.some.injEq,Prod.mk.injEq] at h
 obtain ⟨rfl,rfl⟩:=h
 exact ⟨Nat.le_refl _,by simp,by simp⟩
theorem EvG.parts {F:Nat→List TVal→EvR} {e:Nat→Nat} (h:∀a V,EvG V (F a V)):∀(m a:Nat) (V:List TVal),EvG V (evParts F e m a V)
 |0,_,V=>EvG.nil V
 |m+1,a,V=>(h a V).pair (EvG.parts h m (e a))
theorem EvG.items {F:List TVal→EvR} (h:∀V,EvG V (F V)):∀(m:Nat) (V:List TVal),EvG V (evItems F m V)
 |0,V=>EvG.nil V
 |m+1,V=>(h V).pair (EvG.items h m)
theorem miss_len (s:List TCol) (rep def_:Int):∀(n i:Nat),i+(miss s rep def_ n i).length≤max i s.length
 |0,i=>by simp only [miss,List.length_nil];omega
 |n+1,i=>by
  have:=miss_len s rep def_ n (i+1)
  simp only [miss,List.length_append]
  cases h:s[i]? with
  |none=>
   have hl:s.length≤i:=List.getElem?_eq_none_iff.1 h
   simp only [List.length_nil]
   omega
  |some c=>
   have hl:i<s.length:=(List.getElem?_eq_some_iff.1 h).1
   simp only
   split<;>simp<;>omega
theorem EvG.part {s:List TCol} (hs:s.length≤20) {C:Int→Int→Int→List TVal→EvR} (h:∀r d p V,EvG V (C r d p V)) (e a:Nat) (rep def_ deep:Int) (V:List TVal):EvG V (evPart s C e a rep def_ deep V):=by
 intro X W hr
 unfold evPart at hr
 have hm:∀n,(miss s rep def_ n a).length≤20:=fun n=>by
  have:=miss_len s rep def_ n a
  rcases Nat.lt_or_ge a s.length with h1|h1
  ·omega
  ·have:(miss s rep def_ n a).length=0:=by omega
   omega
 split at hr
 ·cases hr
 ·rename_i c hc
  split at hr
  ·exact h _ _ _ _ _ _ hr
  ·split at hr
   ·cases hr
   ·rename_i v V
    have lift:∀r:EvR,EvG V r→r=some (X,W)→W.length≤(v::V).length∧X.length+20*W.length≤20*(v::V).length∧W=(v::V).drop ((v::V).length-W.length):=by
     intro r hg hr
     obtain ⟨g1,g2,g3⟩:=hg _ _ hr
     refine ⟨by simp;omega,by simp;omega,?_⟩
     rw [List.length_cons,show V.length+1-W.length=(V.length-W.length)+1 by omega,List.drop_succ_cons]
     exact g3
    have ms:some (miss s rep def_ (e-a) a,V)=some (X,W)→W.length≤(v::V).length∧X.length+20*W.length≤20*(v::V).length∧W=(v::V).drop ((v::V).length-W.length):=by
     intro hr
     simp only [Option.some.injEq,Prod.mk.injEq] at hr
     obtain ⟨rfl,rfl⟩:=hr
     have:=hm (e-a)
     refine ⟨by simp,by simp;omega,by simp⟩
    split at hr
    ·split at hr
     ·cases hr
     ·split at hr
      ·exact ms hr
      ·exact lift _ ((h _ _ _ _).pair (EvG.items (h _ _ _) _)) hr
    ·split at hr
     ·cases hr
     ·split at hr
      ·exact ms hr
      ·exact lift _ (h _ _ _ _) hr
theorem evC_G {s:List TCol} (hs:s.length≤20):∀(d a:Nat) (rep def_ deep:Int) (V:List TVal),EvG V (evC s d a rep def_ deep V)
 |0,_,_,_,_,_=>fun X W h=>by cases h
 |d+1,a,rep,def_,deep,V=>by
  intro X W h
  simp only [evC] at h
  split at h
  ·cases h
  ·split at h
   ·exact EvG.parts (fun a V=>EvG.part hs (fun r d p V=>evC_G hs _ a r d p V) _ a rep def_ deep V) _ _ _ _ _ h
   ·split at h
    ·cases h
    ·split at h
     ·simp only [Option.some.injEq,Prod.mk.injEq] at h
      obtain ⟨rfl,rfl⟩:=h
      refine ⟨by simp,by simp;omega,by simp⟩
     ·cases h
end Go.Law
end
section
set_option linter.unusedVariables false
set_option linter.unusedSimpArgs false
set_option linter.unusedSectionVars false
namespace Go.Law
open Go.Am Go.Fn
def rst (r:EvR):Option (List TVal):=match r with
 |none=>none
 |some (_,W)=>some W
theorem rst_pair (a:EvR) (f:List TVal→EvR):rst (evPair a f)=(rst a).bind fun V=>rst (f V):=by
 unfold evPair rst
 cases a with
 |none=>rfl
 |some q=>
  obtain ⟨x,V⟩:=q
  simp only [Option.bind_some]
  cases f V with
  |none=>rfl
  |some q2=>rfl
def rIt (C:List TVal→Option (List TVal)):Nat→List TVal→Option (List TVal)
 |0,V=>some V
 |m+1,V=>(C V).bind (rIt C m)
theorem rst_items (F:List TVal→EvR) (C:List TVal→Option (List TVal)) (h:∀V,rst (F V)=C V):∀(m:Nat) (V:List TVal),rst (evItems F m V)=rIt C m V
 |0,V=>rfl
 |m+1,V=>by
  show rst (evPair (F V) (evItems F m))=_
  rw [rst_pair,h V]
  show _=(C V).bind (rIt C m)
  congr 1
  funext W
  exact rst_items F C h m W
def rPart (s:List TCol) (C:List TVal→Option (List TVal)) (a:Nat) (V:List TVal):Option (List TVal):=
 match s[a]? with
 |none=>none
 |some c=>
  if c.2.2.1=0 then C V
  else match V with
   |[]=>none
   |v::V=>if cbad v (if c.2.2.1=2 then 20 else 1)=true then none else rIt C v.1.toNat V
theorem rst_part (s:List TCol) (F:Int→Int→Int→List TVal→EvR) (C:List TVal→Option (List TVal)) (h:∀r q p V,rst (F r q p V)=C V) (e a:Nat) (rep def_ deep:Int) (V:List TVal):rst (evPart s F e a rep def_ deep V)=rPart s C a V:=by
 unfold evPart rPart
 cases s[a]? with
 |none=>rfl
 |some c=>
  simp only
  split
  ·exact h _ _ _ _
  ·cases V with
   |nil=>rfl
   |cons v V=>
    simp only
    split
    ·rename_i h2
     split
     ·rename_i hb;rfl
     ·rename_i hb
      have hb:=cbad_false (by simpa using hb)
      split
      ·rename_i h0;rw [h0];rfl
      ·rename_i h0
       obtain ⟨n,hn⟩:∃n:Nat,v.1=((n+1:Nat):Int):=⟨v.1.toNat-1,by omega⟩
       rw [hn,rst_pair,h]
       show _=rIt C (n+1) V
       simp only [rIt]
       congr 1
       funext W
       exact rst_items _ C (h _ _ _) _ W
    ·rename_i h2
     split
     ·rename_i hb;rfl
     ·rename_i hb
      have hb:=cbad_false (by simpa using hb)
      split
      ·rename_i h0;rw [h0];rfl
      ·rename_i h0
       have h1:v.1=1:=by omega
       rw [h1,h]
       show C V=rIt C 1 V
       simp only [rIt]
       cases C V<;>rfl
def rParts (F:Nat→List TVal→Option (List TVal)) (e:Nat→Nat):Nat→Nat→List TVal→Option (List TVal)
 |0,_,V=>some V
 |m+1,a,V=>(F a V).bind (rParts F e m (e a))
theorem rst_parts (F:Nat→List TVal→EvR) (C:Nat→List TVal→Option (List TVal)) (h:∀a V,rst (F a V)=C a V) (e:Nat→Nat):∀(m a:Nat) (V:List TVal),rst (evParts F e m a V)=rParts C e m a V
 |0,_,V=>rfl
 |m+1,a,V=>by
  show rst (evPair (F a V) (evParts F e m (e a)))=_
  rw [rst_pair,h a V]
  show _=(C a V).bind (rParts C e m (e a))
  congr 1
  funext W
  exact rst_parts F C h e m (e a) W
def rC (s:List TCol):Nat→Nat→List TVal→Option (List TVal)
 |0,_,_=>none
 |d+1,a,V=>match s[a]? with
  |none=>none
  |some c=>
   if c.2.1=7 then rParts (fun a V=>rPart s (rC s d a) a V) (endC s d) c.2.2.2.1.toNat (a+1) V
   else match V with
    |[]=>none
    |v::V=>if vok c.2.1 v=true then some V else none
theorem rst_C (s:List TCol):∀(d a:Nat) (rep def_ deep:Int) (V:List TVal),rst (evC s d a rep def_ deep V)=rC s d a V
 |0,_,_,_,_,_=>rfl
 |d+1,a,rep,def_,deep,V=>by
  simp only [evC,rC]
  cases s[a]? with
  |none=>rfl
  |some c=>
   simp only
   split
   ·exact rst_parts _ _ (fun a V=>rst_part s _ (rC s d a) (fun r q p V=>rst_C s d a r q p V) _ a rep def_ deep V) _ _ _ _
   ·cases V with
    |nil=>rfl
    |cons v V=>
     simp only
     split<;>rfl
def RG (C:List TVal→Option (List TVal)):Prop:=∀V W,C V=some W→W.length≤V.length∧W=V.drop (V.length-W.length)
theorem RG.of {F:List TVal→EvR} {C:List TVal→Option (List TVal)} (h:∀V,rst (F V)=C V) (g:∀V,EvG V (F V)):RG C:=by
 intro V W hc
 rw [←h V] at hc
 unfold rst at hc
 split at hc
 ·cases hc
 ·rename_i X U hf
  simp only [Option.some.injEq] at hc
  subst hc
  obtain ⟨g1,_,g3⟩:=g V X U hf
  exact ⟨g1,g3⟩
theorem RG.c {s:List TCol} (hs:s.length≤20) (d a:Nat):RG (rC s d a):=RG.of (F:=evC s d a 0 0 0) (rst_C s d a 0 0 0) (evC_G hs d a 0 0 0)
theorem RG.pos {C:List TVal→Option (List TVal)} (g:RG C) {V W:List TVal} {pos:Nat} (hp:pos≤V.length) (h:C (V.drop pos)=some W):V.length-W.length≤V.length∧V.drop (V.length-W.length)=W∧pos≤V.length-W.length:=by
 obtain ⟨g1,g2⟩:=g _ _ h
 simp only [List.length_drop] at g1 g2
 refine ⟨by omega,?_,by omega⟩
 rw [List.drop_drop] at g2
 rw [show V.length-W.length=pos+(V.length-pos-W.length) by omega]
 exact g2.symm
section
variable (k:Nat) (s:List TCol) (hs:s.length≤20) (hn:∀c,c∈s→c.1.size<k∧c.1.size<1000000000∧I64 c.2.2.2.1) (hk:2000000≤k)
variable (V:List TVal) (hV:V.length≤1048576)
include hs hn hk hV
end
end Go.Law
end
section
set_option linter.unusedVariables false
set_option linter.unusedSimpArgs false
set_option linter.unusedSectionVars false
namespace Go.Law
open Go.Am Go.Fn
def WO.P (_:Nat) (_:Nat):Prop:=True
section
variable (k:Nat) (s:List TCol)
theorem WO.none_ok (a:Nat) (rep def_:Int) (acc:Nat) (m:Nat) (hP:WO.P (m+1) acc) (ha:a<s.length) (hc:∀c,s[a]?=some c→c.2.1≠7):impl_RecOk_2 k (a:Int) rep def_=some ():=rfl
end
section
variable (k:Nat) (s:List TCol) (hs:s.length≤20) (hn:∀c,c∈s→c.1.size<k∧c.1.size<1000000000∧I64 c.2.2.2.1) (hk:2000000≤k)
include hs hn hk
end
end Go.Law
end
section
set_option linter.unusedVariables false
set_option linter.unusedSimpArgs false
set_option linter.unusedSectionVars false
namespace Go.Law
open Go.Am Go.Fn
theorem schema_top {s:List TCol} (hS:IsSchema s):∃c0,s[0]?=some c0∧c0.2.1=7∧0<c0.2.2.2.1:=by
 obtain ⟨_,_,⟨c,e1,e2,_,_⟩,c0,hc0,_,_,h7⟩:=hS
 rw [hc0] at e1
 obtain rfl:=Option.some.inj e1
 refine ⟨c0,hc0,h7,?_⟩
 unfold colOk at e2
 rw [h7,tyOk_7] at e2
 simp at e2
 exact e2.1
def evLeaf (s:List TCol) (X:List Ev):Prop:=∀e,e∈X→∃c,s[e.at_]?=some c∧c.2.1≠7
theorem evLeaf_append {s:List TCol} {X Y:List Ev} (h1:evLeaf s X) (h2:evLeaf s Y):evLeaf s (X++Y):=fun e he=>(List.mem_append.1 he).elim (h1 e) (h2 e)
def EvL (s:List TCol) (r:EvR):Prop:=∀X W,r=some (X,W)→evLeaf s X
theorem EvL.pair {s:List TCol} {a:EvR} {f:List TVal→EvR} (h:EvL s a) (g:∀V,EvL s (f V)):EvL s (evPair a f):=by
 intro X W he
 obtain ⟨x,y,V,h1,h2,rfl⟩:=evPair_some he
 exact evLeaf_append (h _ _ h1) (g _ _ _ h2)
theorem EvL.nil (s:List TCol) (V:List TVal):EvL s (some ([],V)):=by
 intro X W h
 simp only [Option.some.injEq,Prod.mk.injEq] at h
 obtain ⟨rfl,rfl⟩:=h
 exact fun e he=>by cases he
theorem EvL.parts {s:List TCol} {F:Nat→List TVal→EvR} {e:Nat→Nat} (h:∀a V,EvL s (F a V)):∀(m a:Nat) (V:List TVal),EvL s (evParts F e m a V)
 |0,_,V=>EvL.nil s V
 |m+1,a,V=>(h a V).pair (EvL.parts h m (e a))
theorem EvL.items {s:List TCol} {F:List TVal→EvR} (h:∀V,EvL s (F V)):∀(m:Nat) (V:List TVal),EvL s (evItems F m V)
 |0,V=>EvL.nil s V
 |m+1,V=>(h V).pair (EvL.items h m)
theorem miss_leaf (s:List TCol) (rep def_:Int):∀(n i:Nat),evLeaf s (miss s rep def_ n i)
 |0,i=>fun e he=>by cases he
 |n+1,i=>by
  simp only [miss]
  refine evLeaf_append ?_ (miss_leaf s rep def_ n (i+1))
  cases h:s[i]? with
  |none=>exact fun e he=>by cases he
  |some c=>
   simp only
   split
   ·exact fun e he=>by cases he
   ·rename_i h7
    intro e he
    rw [List.mem_singleton] at he
    subst he
    exact ⟨c,h,h7⟩
theorem EvL.part {s:List TCol} {C:Int→Int→Int→List TVal→EvR} (h:∀r d p V,EvL s (C r d p V)) (e a:Nat) (rep def_ deep:Int) (V:List TVal):EvL s (evPart s C e a rep def_ deep V):=by
 intro X W hr
 unfold evPart at hr
 have ms:∀U,some (miss s rep def_ (e-a) a,U)=some (X,W)→evLeaf s X:=by
  intro U hr
  simp only [Option.some.injEq,Prod.mk.injEq] at hr
  obtain ⟨rfl,rfl⟩:=hr
  exact miss_leaf _ _ _ _ _
 split at hr
 ·cases hr
 ·split at hr
  ·exact h _ _ _ _ _ _ hr
  ·split at hr
   ·cases hr
   ·split at hr
    ·split at hr
     ·cases hr
     ·split at hr
      ·exact ms _ hr
      ·exact (EvL.pair (h _ _ _ _) (fun V=>EvL.items (h _ _ _) _ V)) _ _ hr
    ·split at hr
     ·cases hr
     ·split at hr
      ·exact ms _ hr
      ·exact h _ _ _ _ _ _ hr
end Go.Law
end
section
set_option linter.unusedVariables false
set_option linter.unusedSimpArgs false
set_option linter.unusedSectionVars false
namespace Go.Law
open Go.Am Go.Fn
theorem sub_at {s:List TCol}:∀(d:Nat) (a nx:Nat),SubC s d a nx→∀t,a≤t→t<nx→∃nx',SubC s d t nx'∧nx'≤nx
 |0,_,_,h,_,_,_=>h.elim
 |d+1,a,nx,h,t,h1,h2=>by
  rcases Nat.eq_or_lt_of_le h1 with rfl|h1
  ·exact ⟨nx,h,Nat.le_refl _⟩
  ·obtain ⟨c,_,_,_,hp⟩:=h
   have key:∀(m pl:Nat) (names:List ByteArray),PartsC (SubC s d) s m pl names nx→pl≤t→∃nx',SubC s d t nx'∧nx'≤nx:=by
    intro m
    induction m with
    |zero=>
     intro pl names hp ht
     have hp:pl=nx:=hp
     omega
    |succ m ih=>
     intro pl names hp ht
     obtain ⟨q,mid,q1,q2,q3,q4⟩:=hp
     have hmn:=PartsC_nx (SubC_lt d) _ _ _ _ q4
     rcases Nat.lt_or_ge t mid with h|h
     ·obtain ⟨nx',e1,e2⟩:=sub_at d pl mid q3 t ht h
      exact ⟨nx',e1,by omega⟩
     ·exact ih mid _ q4 h
   obtain ⟨nx',e1,e2⟩:=key _ _ _ hp (by omega)
   exact ⟨nx',SubC_up d e1,e2⟩
where
 SubC_up:∀{s:List TCol} (d:Nat) {a b:Nat},SubC s d a b→SubC s (d+1) a b
 |_,0,_,_,h=>h.elim
 |s,d+1,a,b,⟨c,h1,h2,h3,h4⟩=>⟨c,h1,h2,h3,PartsC_mono (fun x y h=>SubC_up d h) _ _ _ _ h4⟩
 PartsC_mono {S T:Nat→Nat→Prop} {s:List TCol} (h:∀a b,S a b→T a b):∀(m pos:Nat) (names:List ByteArray) (nx:Nat),PartsC S s m pos names nx→PartsC T s m pos names nx
 |0,_,_,_,hp=>hp
 |m+1,_,_,_,⟨q,mid,q1,q2,q3,q4⟩=>⟨q,mid,q1,q2,h _ _ q3,PartsC_mono h m _ _ _ q4⟩
def colEnd (s:List TCol) (t:Nat):Nat:=endC s 6 t
theorem colEnd_eq {s:List TCol} {d a b:Nat} (hd:d≤6) (h:SubC s d a b):colEnd s a=b:=endC_eq d h 6 hd
theorem colEnd_in {s:List TCol} {d a nx:Nat} (hd:d≤6) (h:SubC s d a nx) {t:Nat} (h1:a≤t) (h2:t<nx):t<colEnd s t∧colEnd s t≤nx:=by
 obtain ⟨nx',e1,e2⟩:=sub_at d a nx h t h1 h2
 rw [colEnd_eq hd e1]
 exact ⟨SubC_lt _ _ _ e1,e2⟩
def dlv (s:List TCol) (f:TCol→Bool) (L:Nat):Nat→Nat→Nat
 |0,_=>0
 |n+1,t=>(match s[t]? with
  |none=>0
  |some c=>if L<colEnd s t∧f c=true then 1 else 0)+dlv s f L n (t+1)
def lvD (s:List TCol) (f:TCol→Bool) (a L:Nat):Nat:=dlv s f L (L+1-a) a
def isOpt (c:TCol):Bool:=c.2.2.1 !=0
def isRep (c:TCol):Bool:=c.2.2.1==2
end Go.Law
end
section
set_option linter.unusedVariables false
set_option linter.unusedSimpArgs false
namespace Go.Law
open Go.Am Go.Fn
def lnum (s:List TCol):Nat→Nat
 |0=>0
 |a+1=>lnum s a+(match s[a]? with
  |none=>0
  |some c=>if c.2.1=7 then 0 else 1)
theorem lnum_leaf {s:List TCol} {a:Nat} {c:TCol} (hc:s[a]?=some c) (h7:c.2.1≠7):lnum s (a+1)=lnum s a+1:=by
 simp only [lnum,hc];rw [if_neg h7]
theorem lnum_group {s:List TCol} {a:Nat} {c:TCol} (hc:s[a]?=some c) (h7:c.2.1=7):lnum s (a+1)=lnum s a:=by
 simp only [lnum,hc];rw [if_pos h7];rfl
theorem leavesFrom_get:∀(post pre:List TCol) (s:List TCol),s=pre++post→∀(j:Nat) (x:Int),(leavesFrom pre.length post)[j]?=some x→∃a:Nat,x=(a:Int)∧pre.length≤a∧lnum s a=lnum s pre.length+j∧∃c,s[a]?=some c∧c.2.1≠7
 |[],pre,s,h,j,x,hx=>by simp [leavesFrom] at hx
 |c::post,pre,s,h,j,x,hx=>by
  have hc:s[pre.length]?=some c:=by rw [h];simp
  have ih:=leavesFrom_get post (pre++[c]) s (by rw [h];simp)
  rw [List.length_append,List.length_singleton] at ih
  simp only [leavesFrom] at hx
  by_cases h7:c.2.1=7
  ·rw [if_pos h7] at hx
   obtain ⟨a,h1,h2,h3,h4⟩:=ih j x hx
   rw [lnum_group hc h7] at h3
   exact ⟨a,h1,by omega,h3,h4⟩
  ·rw [if_neg h7] at hx
   cases j with
   |zero=>
    simp only [List.getElem?_cons_zero,Option.some.injEq] at hx
    exact ⟨pre.length,hx.symm,Nat.le_refl _,rfl,c,hc,h7⟩
   |succ j=>
    simp only [List.getElem?_cons_succ] at hx
    obtain ⟨a,h1,h2,h3,h4⟩:=ih j x hx
    rw [lnum_leaf hc h7] at h3
    exact ⟨a,h1,by omega,by omega,h4⟩
end Go.Law
end
section
set_option linter.unusedVariables false
set_option linter.unusedSimpArgs false
set_option linter.unusedSectionVars false
namespace Go.Law
open Go.Am Go.Fn
def wayL (s:List TCol) (L:Nat):Nat→Nat→List Int
 |0,_=>[]
 |n+1,t=>(if L<colEnd s t then [(t:Int)] else [])++wayL s L n (t+1)
theorem wayL_len (s:List TCol) (L:Nat):∀n t,(wayL s L n t).length≤n
 |0,_=>Nat.le_refl _
 |n+1,t=>by
  have:=wayL_len s L n (t+1)
  simp only [wayL,List.length_append]
  split<;>simp<;>omega
theorem wayL_skip (s:List TCol) (L:Nat):∀(m n t:Nat),(∀u,t≤u→u<t+m→colEnd s u≤L)→wayL s L (m+n) t=wayL s L n (t+m)
 |0,n,t,_=>by simp
 |m+1,n,t,h=>by
  have h1:=h t (Nat.le_refl _) (by omega)
  have:=wayL_skip s L m n (t+1) (fun u h2 h3=>h u (by omega) (by omega))
  rw [show m+1+n=(m+n)+1 by omega]
  simp only [wayL]
  rw [this,show t+1+m=t+(m+1) by omega,if_neg (by omega),List.nil_append]
section
variable (k:Nat) (s:List TCol) (hS:IsSchema s) (hn:∀c,c∈s→c.1.size<k∧c.1.size<1000000000∧I64 c.2.2.2.1) (hk:2000000≤k)
include hS hn hk
theorem colEnd_after (t:Nat) (ht:t<s.length):t<colEnd s t∧colEnd s t≤s.length∧spec_l5After k s (t:Int)=some (colEnd s t:Int)∧impl_colAfter k s (t:Int) 1=some (colEnd s t:Int):=by
 obtain ⟨nx',e1,e2⟩:=sub_at 6 0 s.length hS.2.2.1 t (Nat.zero_le _) ht
 have e3:=colEnd_eq (Nat.le_refl _) e1
 rw [e3]
 exact ⟨SubC_lt _ _ _ e1,e2,l5After_sub k s hS.2.1 hn (by omega) e1 (Nat.le_refl _) e2,colAfter_sub k s hS.2.1 hn (by omega) e1 (Nat.le_refl _) e2⟩
theorem sway_eq (L:Nat) (hL:L<s.length):spec_l5Way k s (L:Int)=some ((),wayL s L (L+1) 0):=by
 have hs20:=hS.2.1
 have key:∀(n t f:Nat) (o:List Int),t+n=L+1→n<f→o.length≤t→spec_l5Way.l3 k f s (L:Int) (t:Int) o=some ((),o++wayL s L n t):=by
  intro n
  induction n with
  |zero=>
   intro t f o h hf ho
   obtain ⟨f,rfl⟩:∃q,f=q+1:=⟨f-1,by omega⟩
   simp only [spec_l5Way.l3,decide_eq_false (show ¬((t:Int)≤(L:Int)) by omega),cond_false,wayL,List.append_nil]
  |succ n ih=>
   intro t f o h hf ho
   obtain ⟨f,rfl⟩:∃q,f=q+1:=⟨f-1,by omega⟩
   obtain ⟨a1,a2,a3,_⟩:=colEnd_after k s hS hn hk t (by omega)
   have ht1:IntKind.wrap .i64 ((t:Int)+1)=((t+1:Nat):Int):=by rw [w64 (by omega) (by omega)];omega
   simp only [spec_l5Way.l3,decide_eq_true (show (t:Int)≤(L:Int) by omega),cond_true,a3,Option.bind_some,spec_l5Way.c4,ht1,wayL]
   by_cases h1:L<colEnd s t
   ·rw [decide_eq_true (show (colEnd s t:Int)>(L:Int) by omega),cond_true,lim_ok (by simp;omega),cond_true,if_pos h1,ih (t+1) f _ (by omega) (by omega) (by simp;omega)]
    simp
   ·rw [decide_eq_false (show ¬(colEnd s t:Int)>(L:Int) by omega),cond_false,if_neg h1,ih (t+1) f _ (by omega) (by omega) (by omega)]
    simp
 have:=key (L+1) 0 k [] (by omega) (by omega) (by simp)
 exact this
theorem smax_eq (f1 f2:Int) (L:Nat) (hL:L<s.length):∀(n t f:Nat) (pre:List Int) (x y:Nat),t+n=L+1→n<f→x≤t→y≤t→pre.length≤t→
 spec_l5Max.l4 k f s (x:Int) (y:Int) (pre.length:Int) (pre++wayL s L n t)=some (((x+dlv s isOpt L n t:Nat):Int),((y+dlv s isRep L n t:Nat):Int))∧
 impl_LeafMax.l6 k f s (x:Int) (y:Int) ((pre++wayL s L n t).length:Int) (pre.length:Int) (pre++wayL s L n t)=some (((x+dlv s isOpt L n t:Nat):Int),((y+dlv s isRep L n t:Nat):Int)):=by
 have hs20:=hS.2.1
 intro n
 induction n with
 |zero=>
  intro t f pre x y h hf hx hy hp
  obtain ⟨f,rfl⟩:∃q,f=q+1:=⟨f-1,by omega⟩
  simp only [spec_l5Max.l4,impl_LeafMax.l6,wayL,List.append_nil,decide_eq_false (show ¬((pre.length:Int)<(pre.length:Int)) by omega),cond_false,dlv,Nat.add_zero]
  exact ⟨trivial,trivial⟩
 |succ n ih=>
  intro t f pre x y h hf hx hy hp
  have hc:=List.getElem?_eq_getElem (show t<s.length by omega)
  generalize s[t]=c at hc
  by_cases h1:L<colEnd s t
  ·obtain ⟨f,rfl⟩:∃q,f=q+1:=⟨f-1,by omega⟩
   have hi1:IntKind.wrap .i64 ((pre.length:Int)+1)=((pre.length+1:Nat):Int):=by rw [w64 (by omega) (by omega)];omega
   have hx1:IntKind.wrap .i64 ((x:Int)+1)=((x+1:Nat):Int):=by rw [w64 (by omega) (by omega)];omega
   have hy1:IntKind.wrap .i64 ((y:Int)+1)=((y+1:Nat):Int):=by rw [w64 (by omega) (by omega)];omega
   simp only [wayL]
   rw [if_pos h1,List.singleton_append]
   have dT:∀g:TCol→Bool,g c=true→dlv s g L (n+1) t=1+dlv s g L n (t+1):=fun g hg=>by simp only [dlv,hc];rw [if_pos ⟨h1,hg⟩]
   have dF:∀g:TCol→Bool,g c=false→dlv s g L (n+1) t=dlv s g L n (t+1):=fun g hg=>by simp only [dlv,hc];rw [if_neg (fun q=>by rw [hg] at q;cases q.2),Nat.zero_add]
   have hg:=getMid pre (wayL s L n (t+1)) (t:Int)
   have hlt:(pre.length:Int)<((pre++(t:Int)::wayL s L n (t+1)).length:Int):=by simp;omega
   simp only [spec_l5Max.l4,impl_LeafMax.l6,decide_eq_true hlt,cond_true,hg,Option.bind_some,rdL_nat,hc,spec_l5Max.c8,impl_LeafMax.c10,spec_l5Max.c5,impl_LeafMax.c12,hi1,hx1,hy1]
   have ih':=fun x y hx hy=>ih (t+1) f (pre++[(t:Int)]) x y (by omega) (by omega) hx hy (by simp;omega)
   simp only [List.append_assoc,List.singleton_append,List.length_append,List.length_singleton] at ih'
   simp only [List.length_append]
   by_cases ho:c.2.2.1=0
   ·have hr:¬c.2.2.1=2:=by omega
    have i1:isOpt c=false:=by simp [isOpt,ho]
    have i2:isRep c=false:=by simp [isRep,ho]
    rw [bneF ho,cond_false,cond_false,beqF hr,cond_false,cond_false,dF _ i1,dF _ i2]
    exact ih' x y (by omega) (by omega)
   ·have i1:isOpt c=true:=by simp [isOpt,ho]
    by_cases hr:c.2.2.1=2
    ·have i2:isRep c=true:=by simp [isRep,hr]
     rw [bneT ho,cond_true,cond_true,beqT hr,cond_true,cond_true,dT _ i1,dT _ i2]
     have:=ih' (x+1) (y+1) (by omega) (by omega)
     rw [show x+(1+dlv s isOpt L n (t+1))=x+1+dlv s isOpt L n (t+1) by omega,show y+(1+dlv s isRep L n (t+1))=y+1+dlv s isRep L n (t+1) by omega]
     exact this
    ·have i2:isRep c=false:=by simp [isRep,hr]
     rw [bneT ho,cond_true,cond_true,beqF hr,cond_false,cond_false,dT _ i1,dF _ i2]
     have:=ih' (x+1) y (by omega) (by omega)
     rw [show x+(1+dlv s isOpt L n (t+1))=x+1+dlv s isOpt L n (t+1) by omega]
     exact this
  ·have e1:wayL s L (n+1) t=wayL s L n (t+1):=by simp only [wayL];rw [if_neg h1,List.nil_append]
   have e2:∀g,dlv s g L (n+1) t=dlv s g L n (t+1):=fun g=>by simp only [dlv,hc];rw [if_neg (fun q=>h1 q.1),Nat.zero_add]
   rw [e1,e2,e2]
   exact ih (t+1) f pre x y (by omega) (by omega) (by omega) (by omega) (by omega)
theorem iway_loop (lv:List Int) (j:Int) (L:Nat) (hj:rdL lv j=some (L:Int)) (hL:L<s.length):∀(N n t f:Nat) (o:List Int),n≤N→t+n=L+1→n<f→o.length≤t→
 impl_wayTo.l6 k f s j (t:Int) lv o=some ((),o++wayL s L n t):=by
 have hs20:=hS.2.1
 intro N
 induction N with
 |zero=>
  intro n t f o hN h hf ho
  obtain ⟨f,rfl⟩:∃q,f=q+1:=⟨f-1,by omega⟩
  have hn0:n=0:=by omega
  subst hn0
  simp only [impl_wayTo.l6,hj,Option.bind_some,decide_eq_false (show ¬((t:Int)≤(L:Int)) by omega),cond_false,wayL,List.append_nil]
 |succ N ih=>
  intro n t f o hN h hf ho
  obtain ⟨f,rfl⟩:∃q,f=q+1:=⟨f-1,by omega⟩
  cases n with
  |zero=>simp only [impl_wayTo.l6,hj,Option.bind_some,decide_eq_false (show ¬((t:Int)≤(L:Int)) by omega),cond_false,wayL,List.append_nil]
  |succ n=>
   obtain ⟨a1,a2,_,a4⟩:=colEnd_after k s hS hn hk t (by omega)
   have ht1:IntKind.wrap .i64 ((t:Int)+1)=((t+1:Nat):Int):=by rw [w64 (by omega) (by omega)];omega
   simp only [impl_wayTo.l6,hj,Option.bind_some,decide_eq_true (show (t:Int)≤(L:Int) by omega),cond_true,a4,ht1]
   by_cases h1:L<colEnd s t
   ·rw [decide_eq_true (show (colEnd s t:Int)>(L:Int) by omega),cond_true,lim_ok (by simp;omega),cond_true,ih n (t+1) f _ (by omega) (by omega) (by omega) (by simp;omega)]
    simp only [wayL]
    rw [if_pos h1]
    simp
   ·rw [decide_eq_false (show ¬(colEnd s t:Int)>(L:Int) by omega),cond_false]
    obtain ⟨nx',e1,e2⟩:=sub_at 6 0 s.length hS.2.2.1 t (Nat.zero_le _) (by omega)
    have e3:=colEnd_eq (Nat.le_refl _) e1
    have hsk:=wayL_skip s L (colEnd s t-t) (n+1-(colEnd s t-t)) t (fun u u1 u2=>by
     have:=(colEnd_in (Nat.le_refl _) e1 u1 (by omega)).2;omega)
    rw [show colEnd s t-t+(n+1-(colEnd s t-t))=n+1 by omega,show t+(colEnd s t-t)=colEnd s t by omega] at hsk
    rw [hsk]
    exact ih _ _ f o (by omega) (by omega) (by omega) (by omega)
theorem leafMax_eq (hok:spec_SchemaOk k s=some true) (hok2:impl_SchemaOk k s=some true) (j:Int):
 (∃L c,rdL (leavesFrom 0 s) j=some ((L:Nat):Int)∧0≤j∧j<((leavesFrom 0 s).length:Int)∧1≤L∧s[L]?=some c∧c.2.1≠7∧j=(lnum s L:Int)∧
  impl_LeafMax k s j=some ((lvD s isOpt 1 L:Int),(lvD s isRep 1 L:Int))∧spec_l5Max k s (L:Int)=some ((lvD s isOpt 1 L:Int),(lvD s isRep 1 L:Int)))∨
 (¬(0≤j∧j<((leavesFrom 0 s).length:Int))∧impl_LeafMax k s j=some (-1,-1)):=by
 obtain ⟨v1,v2⟩:=leaves_eq k (by omega) s (by have:=hS.2.1;omega)
 have hs20:=hS.2.1
 have hll:=leavesFrom_len 0 s
 obtain ⟨c0,hc0,h70,_⟩:=schema_top hS
 have hrep0:c0.2.2.1=0:=by
  obtain ⟨_,_,_,c,e1,_,e2,_⟩:=hS
  rw [hc0] at e1
  cases e1
  exact e2
 unfold impl_LeafMax impl_wayTo impl_SchemaLeaves
 rw [hok2]
 simp only [Option.bind_some,cond_true,cond_false,Bool.not_true,v1,v2,l1In_eq,within_eq]
 generalize hlv:leavesFrom 0 s=lv at hll
 rw [w64 (show -9223372036854775808≤(lv.length:Int)-1 by omega) (by omega)]
 by_cases hin:0≤j∧j<(lv.length:Int)
 ·left
  have hw:(decide (0≤j)&&decide (j≤(lv.length:Int)-1))=true:=by simp;omega
  obtain ⟨n,rfl⟩:=Int.eq_ofNat_of_zero_le hin.1
  have hnl:n<lv.length:=by omega
  obtain ⟨L,e1,e2,e3,c,e4,e5⟩:=leavesFrom_get s [] s rfl n _ (by rw [show ([]:List TCol).length=0 from rfl,hlv];exact List.getElem?_eq_getElem hnl)
  have hg:rdL lv (n:Int)=some (L:Int):=by rw [rdL_nat,List.getElem?_eq_getElem hnl,e1]
  have e3:lnum s L=0+n:=e3
  have hL:L<s.length:=(List.getElem?_eq_some_iff.1 e4).1
  have hL1:1≤L:=by
   rcases Nat.eq_zero_or_pos L with h|h
   ·subst h
    rw [hc0] at e4
    cases e4
    exact absurd h70 e5
   ·exact h
  have hend0:L<colEnd s 0:=by rw [colEnd_eq (Nat.le_refl _) hS.2.2.1];exact hL
  have hz:∀g:TCol→Bool,g c0=false→dlv s g L (L+1) 0=lvD s g 1 L:=fun g hg=>by
   simp only [dlv,hc0]
   rw [if_neg (fun q=>by rw [hg] at q;cases q.2),Nat.zero_add]
   unfold lvD
   rw [show L+1-1=L by omega]
  have z1:=hz isOpt (by simp [isOpt,hrep0])
  have z2:=hz isRep (by simp [isRep,hrep0])
  have hmx:spec_l5Max k s (L:Int)=some ((lvD s isOpt 1 L:Int),(lvD s isRep 1 L:Int)):=by
   have h1:=(smax_eq k s hS hn hk 0 0 L hL (L+1) 0 k [] 0 0 (by omega) (by omega) (by omega) (by omega) (by simp)).1
   rw [z1,z2,Nat.zero_add,Nat.zero_add] at h1
   unfold spec_l5Max
   rw [sway_eq k s hS hn hk L hL]
   exact h1
  refine ⟨L,c,hg,hin.1,hin.2,hL1,e4,e5,by omega,?_,hmx⟩
  ·rw [hw]
   simp only [Bool.not_true,cond_false]
   have h1:=iway_loop k s hS hn hk lv (n:Int) L hg hL L L 1 k [] (Nat.le_refl _) (by omega) (by omega) (by simp)
   have h1:impl_wayTo.l6 k k s (n:Int) 1 lv []=some ((),wayL s L L 1):=h1
   rw [h1]
   simp only [Option.bind_some]
   have h2:=(smax_eq k s hS hn hk 0 0 L hL L 1 k [] 0 0 (by omega) (by omega) (by omega) (by omega) (by simp)).2
   have hne:((wayL s L L 1).length:Int)≠0:=by
    have:∀n t,t+n=L+1→0<n→0<(wayL s L n t).length:=by
     intro n
     induction n with
     |zero=>intro t _ h;omega
     |succ n ih=>
      intro t h _
      simp only [wayL,List.length_append]
      rcases Nat.eq_zero_or_pos n with h0|h0
      ·subst h0
       have:t=L:=by omega
       subst this
       rw [if_pos (colEnd_after k s hS hn hk t hL).1,List.length_singleton]
       omega
      ·have:=ih (t+1) (by omega) h0;omega
    have:=this L 1 (by omega) (by omega)
    omega
   rw [beqF hne,cond_false]
   have h2:impl_LeafMax.l6 k k s 0 0 ((wayL s L L 1).length:Int) 0 (wayL s L L 1)=some (((0+dlv s isOpt L L 1:Nat):Int),((0+dlv s isRep L L 1:Nat):Int)):=h2
   rw [h2,Nat.zero_add,Nat.zero_add]
   unfold lvD
   rw [show L+1-1=L by omega]
 ·right
  have hw:(decide (0≤j)&&decide (j≤(lv.length:Int)-1))=false:=by
   rw [Bool.eq_false_iff]
   intro h
   simp only [Bool.and_eq_true,decide_eq_true_eq] at h
   omega
  rw [hw]
  exact ⟨hin,rfl⟩
end
end Go.Law
end
section
set_option linter.unusedVariables false
set_option linter.unusedSimpArgs false
set_option linter.unusedSectionVars false
namespace Go.Law
open Go.Am Go.Fn
section
variable (k:Nat) (s:List TCol) (hn:∀c,c∈s→c.1.size<k∧c.1.size<1000000000∧I64 c.2.2.2.1) (hk:2000000≤k)
variable (hS:IsSchema s) (hok:spec_SchemaOk k s=some true) (hok2:impl_SchemaOk k s=some true)
include hn hk hS hok hok2
theorem leafOf_eq (j:Int):∃l b,spec_LeafOf k s j=some (l,b)∧impl_LeafOf k s j=some (l,b)∧
 (b=true→∃L c,rdL (leavesFrom 0 s) j=some ((L:Nat):Int)∧s[L]?=some c∧c.2.1≠7∧j=(lnum s L:Int)∧l=(c.2.1,(lvD s isRep 1 L:Int),(lvD s isOpt 1 L:Int),())):=by
 obtain ⟨v1,v2⟩:=leaves_eq k (by omega) s (by have:=hS.2.1;omega)
 have hll:=leavesFrom_len 0 s
 have hs20:=hS.2.1
 have hlm:=leafMax_eq k s hS hn hk hok hok2 j
 unfold spec_LeafOf impl_LeafOf spec_SchemaLeaves impl_SchemaLeaves
 rw [hok,hok2]
 simp only [Option.bind_some,Bool.not_true,cond_false,v1,v2,l1In_eq,within_eq]
 generalize hlv:leavesFrom 0 s=lv at hll hlm
 rw [w64 (show -9223372036854775808≤(lv.length:Int)-1 by omega) (by omega)]
 rcases hlm with ⟨L,c,hg,h0,h1,_,hc,h7,hj,m2,m3⟩|⟨hin,_⟩
 ·have hw:(decide (0≤j)&&decide (j≤(lv.length:Int)-1))=true:=by simp;omega
  rw [hw]
  simp only [Bool.not_true,cond_false,hg,Option.bind_some,m2,m3,rdL_nat,hc]
  exact ⟨_,_,rfl,rfl,fun _=>⟨L,c,rfl,hc,h7,hj,rfl⟩⟩
 ·have hw:(decide (0≤j)&&decide (j≤(lv.length:Int)-1))=false:=by
   rw [Bool.eq_false_iff]
   intro h
   simp only [Bool.and_eq_true,decide_eq_true_eq] at h
   omega
  rw [hw]
  exact ⟨_,_,rfl,rfl,fun h=>by cases h⟩
end
end Go.Law
end
section
set_option linter.unusedVariables false
set_option linter.unusedSimpArgs false
set_option linter.unusedSectionVars false
namespace Go.Law
open Go.Am Go.Fn
theorem wayL_mem (s:List TCol) (L:Nat):∀(n t:Nat) (x:Int),x∈wayL s L n t→∃a:Nat,x=a∧t≤a∧a<t+n:=by
 intro n
 induction n with
 |zero=>intro t x hx;cases hx
 |succ n ih=>
  intro t x hx
  simp only [wayL] at hx
  rcases List.mem_append.1 hx with hx|hx
  ·split at hx
   ·rw [List.mem_singleton] at hx
    exact ⟨t,hx,by omega,by omega⟩
   ·cases hx
  ·obtain ⟨a,e,h1,h2⟩:=ih (t+1) x hx
   exact ⟨a,e,by omega,by omega⟩
def nmAt (s:List TCol) (x:Int):ByteArray:=((rdL s x).map (·.1)).getD ⟨#[]⟩
section
variable (k:Nat) (s:List TCol)
theorem spath_loop (w:List Int) (hw:w.length≤100) (hm:∀x,x∈w→∃c,rdL s x=some c):∀(post pre:List Int) (f:Nat) (o:List ByteArray),w=pre++post→post.length<f→o.length≤pre.length→
 spec_LeafPath.l7 k f s (pre.length:Int) o w=some ((),o++post.map (nmAt s)):=by
 intro post
 induction post with
 |nil=>
  intro pre f o h hf ho
  obtain ⟨f,rfl⟩:∃q,f=q+1:=⟨f-1,by omega⟩
  have hlen:w.length=pre.length:=by rw [h];simp
  simp only [spec_LeafPath.l7,decide_eq_false (show ¬((pre.length:Int)<(w.length:Int)) by omega),cond_false,List.map_nil,List.append_nil]
 |cons x post ih=>
  intro pre f o h hf ho
  simp only [List.length_cons] at hf
  obtain ⟨f,rfl⟩:∃q,f=q+1:=⟨f-1,by omega⟩
  have hlen:w.length=pre.length+(post.length+1):=by rw [h];simp
  have hg:rdL w (pre.length:Int)=some x:=by rw [h];exact getMid _ _ _
  have hi1:IntKind.wrap .i64 ((pre.length:Int)+1)=((pre.length+1:Nat):Int):=by rw [w64 (by omega) (by omega)];omega
  obtain ⟨c,hc⟩:=hm x (by rw [h];simp)
  have hi:=ih (pre++[x]) f (o++[c.1]) (by rw [h];simp) (by omega) (by simp;omega)
  rw [List.length_append,List.length_singleton] at hi
  simp only [spec_LeafPath.l7,decide_eq_true (show (pre.length:Int)<(w.length:Int) by omega),cond_true,hg,hc,Option.bind_some,hi1]
  rw [lim_ok (by simp;omega),cond_true,hi]
  simp [nmAt,hc]
theorem ipath_loop (w:List Int) (hw:w.length≤100) (hm:∀x,x∈w→∃c,rdL s x=some c):∀(post pre:List Int) (f:Nat) (o:List ByteArray),w=pre++post→post.length<f→o.length≤pre.length→
 impl_LeafPath.l3 k f s (w.length:Int) (pre.length:Int) o w=some ((),o++post.map (nmAt s)):=by
 intro post
 induction post with
 |nil=>
  intro pre f o h hf ho
  obtain ⟨f,rfl⟩:∃q,f=q+1:=⟨f-1,by omega⟩
  have hlen:w.length=pre.length:=by rw [h];simp
  simp only [impl_LeafPath.l3,decide_eq_false (show ¬((pre.length:Int)<(w.length:Int)) by omega),cond_false,List.map_nil,List.append_nil]
 |cons x post ih=>
  intro pre f o h hf ho
  simp only [List.length_cons] at hf
  obtain ⟨f,rfl⟩:∃q,f=q+1:=⟨f-1,by omega⟩
  have hlen:w.length=pre.length+(post.length+1):=by rw [h];simp
  have hg:rdL w (pre.length:Int)=some x:=by rw [h];exact getMid _ _ _
  have hi1:IntKind.wrap .i64 ((pre.length:Int)+1)=((pre.length+1:Nat):Int):=by rw [w64 (by omega) (by omega)];omega
  obtain ⟨c,hc⟩:=hm x (by rw [h];simp)
  have hi:=ih (pre++[x]) f (o++[c.1]) (by rw [h];simp) (by omega) (by simp;omega)
  rw [List.length_append,List.length_singleton] at hi
  simp only [impl_LeafPath.l3,decide_eq_true (show (pre.length:Int)<(w.length:Int) by omega),cond_true,hg,hc,Option.bind_some,hi1]
  rw [lim_ok (by simp;omega),cond_true,hi]
  simp [nmAt,hc]
theorem sEq_loop (a b:List ByteArray) (hab:a.length=b.length) (hl:a.length<4611686018427387904):∀(m f i:Nat),i+m=a.length→m<f→slices_Equal_string_string.l4 k f a b (a.length:Int) (i:Int)=some (decide (a.drop i=b.drop i)):=by
 intro m
 induction m with
 |zero=>
  intro f i hi hf
  obtain ⟨f,rfl⟩:∃q,f=q+1:=⟨f-1,by omega⟩
  simp only [slices_Equal_string_string.l4,decide_eq_false (show ¬((i:Int)<(a.length:Int)) by omega),cond_false]
  rw [List.drop_eq_nil_of_le (by omega),List.drop_eq_nil_of_le (by omega)]
  rfl
 |succ m ih=>
  intro f i hi hf
  obtain ⟨f,rfl⟩:∃q,f=q+1:=⟨f-1,by omega⟩
  have ha:=List.getElem?_eq_getElem (show i<a.length by omega)
  have hb:=List.getElem?_eq_getElem (show i<b.length by omega)
  have hi1:IntKind.wrap .i64 ((i:Int)+1)=((i+1:Nat):Int):=by rw [w64 (by omega) (by omega)];omega
  have da:=List.drop_eq_getElem_cons (show i<a.length by omega)
  have db:=List.drop_eq_getElem_cons (show i<b.length by omega)
  rw [da,db]
  generalize a[i]'_=x at ha
  generalize b[i]'_=y at hb
  simp only [slices_Equal_string_string.l4,decide_eq_true (show (i:Int)<(a.length:Int) by omega),cond_true,rdL_nat,ha,hb,Option.bind_some,eqS_iff,hi1]
  by_cases hxy:x=y
  ·subst hxy
   simp only [decide_true,Bool.not_true,cond_false,bne]
   rw [ih f (i+1) (by omega) (by omega)]
   simp
  ·simp only [decide_eq_false hxy,Bool.not_false,cond_true,bne]
   simp [hxy]
theorem sEq_val (a b:List ByteArray) (hl:a.length<k) (hl2:a.length<4611686018427387904) (hl3:b.length<4611686018427387904):slices_Equal_string_string k a b=some (decide (a=b)):=by
 unfold slices_Equal_string_string
 by_cases h:a.length=b.length
 ·rw [bneF (by omega),cond_false]
  have:=sEq_loop k a b h hl2 a.length k 0 (by omega) hl
  simpa using this
 ·rw [bneT (by omega),cond_true]
  rw [decide_eq_false (fun e=>h (by rw [e]))]
end
section
variable (k:Nat) (s:List TCol) (hn:∀c,c∈s→c.1.size<k∧c.1.size<1000000000∧I64 c.2.2.2.1) (hk:2000000≤k)
variable (hS:IsSchema s) (hok:spec_SchemaOk k s=some true) (hok2:impl_SchemaOk k s=some true)
include hn hk hS hok hok2
theorem path_eq (j:Int):∃N,spec_LeafPath k s j=some ((),N)∧impl_LeafPath k s j=some ((),N)∧N.length≤20:=by
 obtain ⟨v1,v2⟩:=leaves_eq k (by omega) s (by have:=hS.2.1;omega)
 have hs20:=hS.2.1
 have hll:=leavesFrom_len 0 s
 unfold spec_LeafPath impl_LeafPath impl_wayTo spec_SchemaLeaves impl_SchemaLeaves
 rw [hok,hok2]
 simp only [Option.bind_some,Bool.not_true,cond_false,v1,v2,l1In_eq,within_eq]
 generalize hlv:leavesFrom 0 s=lv at hll
 rw [w64 (show -9223372036854775808≤(lv.length:Int)-1 by omega) (by omega)]
 by_cases hin:0≤j∧j<(lv.length:Int)
 ·have hw:(decide (0≤j)&&decide (j≤(lv.length:Int)-1))=true:=by simp;omega
  obtain ⟨n,rfl⟩:=Int.eq_ofNat_of_zero_le hin.1
  have hnl:n<lv.length:=by omega
  obtain ⟨L,e1,e2,e3,c,e4,e5⟩:=leavesFrom_get s [] s rfl n _ (by rw [show ([]:List TCol).length=0 from rfl,hlv];exact List.getElem?_eq_getElem hnl)
  have hg:rdL lv (n:Int)=some (L:Int):=by rw [rdL_nat,List.getElem?_eq_getElem hnl,e1]
  have hL:L<s.length:=(List.getElem?_eq_some_iff.1 e4).1
  have hend0:L<colEnd s 0:=by rw [colEnd_eq (Nat.le_refl _) hS.2.2.1];exact hL
  have hway:wayL s L (L+1) 0=0::wayL s L L 1:=by
   simp only [wayL]
   rw [if_pos hend0]
   rfl
  have hmem:∀x,x∈wayL s L L 1→∃c,rdL s x=some c:=fun x hx=>by
   obtain ⟨a,rfl,h1,h2⟩:=wayL_mem s L L 1 x hx
   exact ⟨_,List.getElem?_eq_getElem (show a<s.length by omega)⟩
  have hlen:=wayL_len s L L 1
  have h1:=iway_loop k s hS hn hk lv (n:Int) L hg hL L L 1 k [] (Nat.le_refl _) (by omega) (by omega) (by simp)
  have h1:impl_wayTo.l6 k k s (n:Int) 1 lv []=some ((),wayL s L L 1):=h1
  have hI:=ipath_loop k s (wayL s L L 1) (by omega) hmem (wayL s L L 1) [] k [] rfl (by omega) (by simp)
  have hI:impl_LeafPath.l3 k k s ((wayL s L L 1).length:Int) 0 [] (wayL s L L 1)=_:=hI
  have hmem0:∀x,x∈(0:Int)::wayL s L L 1→∃c,rdL s x=some c:=fun x hx=>by
   rcases List.mem_cons.1 hx with rfl|hx
   ·exact ⟨_,List.getElem?_eq_getElem (show 0<s.length by omega)⟩
   ·exact hmem x hx
  have hP:=spath_loop k s (0::wayL s L L 1) (by simp;omega) hmem0 (wayL s L L 1) [0] k [] rfl (by omega) (by simp)
  have hP:spec_LeafPath.l7 k k s 1 [] (0::wayL s L L 1)=_:=hP
  rw [hw]
  simp only [Bool.not_true,cond_false,hg,Option.bind_some,sway_eq k s hS hn hk L hL,hway,h1,hI,hP]
  exact ⟨_,rfl,rfl,by simp;omega⟩
 ·have hw:(decide (0≤j)&&decide (j≤(lv.length:Int)-1))=false:=by
   rw [Bool.eq_false_iff]
   intro h
   simp only [Bool.and_eq_true,decide_eq_true_eq] at h
   omega
  obtain ⟨K,rfl⟩:∃K,k=K+1:=⟨k-1,by omega⟩
  rw [hw]
  exact ⟨[],rfl,rfl,by simp⟩
end
end Go.Law
end
section
set_option linter.unusedVariables false
set_option linter.unusedSimpArgs false
set_option linter.unusedSectionVars false
namespace Go.Law
open Go.Am Go.Fn
def numAt (l:List TNode) (p:Int):Int:=((rdL l p).map (·.2.2.1)).getD 0
def txtAt (l:List TNode) (p:Int):ByteArray:=((rdL l p).map (·.2.2.2.1)).getD ⟨#[]⟩
def nmsV (k:Nat) (s:List TCol) (j:Int):List ByteArray:=((spec_LeafPath k s j).map (·.2)).getD []
def lfT (k:Nat) (s:List TCol) (j:Int):Int:=((spec_LeafOf k s j).map (·.1.1)).getD 0
def ownV (k:Nat) (l:List TNode) (a:Int):Int:=if fV k l a 3<0 then -1 else if ((rdL l (fV k l a 3)).map (·.1)).getD 0=12 then fV k l a 3 else -1
def chI (k:Nat) (l:List TNode) (s:List TCol) (strict:Bool) (a j:Int):Bool:=
 if ownV k l a<0 then false else
  (pV k l (ownV k l a) 2 5).1&&(pV k l (ownV k l a) 3 8).1&&((nV k l (ownV k l a) 1).2&&((nV k l (ownV k l a) 1).1==lfT k s j))&&((nV k l (ownV k l a) 4).2&&((nV k l (ownV k l a) 4).1==0))&&
   decide ((pV k l (ownV k l a) 3 8).2.map (txtAt l)=nmsV k s j)&&(nV k l (ownV k l a) 5).2&&(nV k l (ownV k l a) 6).2&&((nV k l (ownV k l a) 7).2&&((nV k l (ownV k l a) 7).1==(nV k l (ownV k l a) 6).1))&&(nV k l (ownV k l a) 9).2&&
   (if fV k l (ownV k l a) 11<0 then true else (nV k l (ownV k l a) 11).2&&(if strict then decide (0≤(nV k l (ownV k l a) 11).1) else (nV k l (ownV k l a) 11).1 != -1))
def chV (k:Nat) (l:List TNode) (a j:Int):TChunk:=
 if ownV k l a<0 then (j,0,-1,0,0,[],()) else
  (j,(nV k l (ownV k l a) 9).1,(if fV k l (ownV k l a) 11<0 then -1 else (nV k l (ownV k l a) 11).1),(nV k l (ownV k l a) 5).1,(nV k l (ownV k l a) 6).1,(pV k l (ownV k l a) 2 5).2.map (numAt l),())
section
variable (k:Nat) (hk:2000000≤k) {l:List TNode} {af:List Int} (h:TreeFacts l af)
include hk h
theorem iencs_loop (t3 t10:Int) (b:Bool) (s:List TCol) (o100 o101:Int×Int×Int×Int×Int×Unit×Unit) (lf:TLeaf) (E:List Int) (hE:E.length≤1500) (hm:∀p,p∈E→0≤p∧p<(l.length:Int)) (o104:List Int):∀(post pre:List Int) (f:Nat) (o:List Int),E=pre++post→post.length<f→o.length≤pre.length→
 impl_metaReader_chunk.l8 k f t3 t10 (E.length:Int) (pre.length:Int) (mR b) (tB l) af s o100 o101 lf E o104 o=(impl_metaReader_list k t10 3 8 (mR b) (tB l) af).bind fun r33=>impl_metaReader_chunk.l14 k k t3 t10 (List.length r33.2.2.2.2:Int) 0 r33.2.1 r33.2.2.1 r33.2.2.2.1 s o100 o101 lf [] r33.2.2.2.2 o104 (o++post.map (numAt l)):=by
 intro post
 induction post with
 |nil=>
  intro pre f o h hf ho
  obtain ⟨f,rfl⟩:∃q,f=q+1:=⟨f-1,by omega⟩
  have hlen:E.length=pre.length:=by rw [h];simp
  simp only [impl_metaReader_chunk.l8,decide_eq_false (show ¬((pre.length:Int)<(E.length:Int)) by omega),cond_false,List.map_nil,List.append_nil]
 |cons x post ih=>
  intro pre f o h hf ho
  simp only [List.length_cons] at hf
  obtain ⟨f,rfl⟩:∃q,f=q+1:=⟨f-1,by omega⟩
  have hlen:E.length=pre.length+(post.length+1):=by rw [h];simp
  have hg:rdL E (pre.length:Int)=some x:=by rw [h];exact getMid _ _ _
  have hi1:IntKind.wrap .i64 ((pre.length:Int)+1)=((pre.length+1:Nat):Int):=by rw [w64 (by omega) (by omega)];omega
  obtain ⟨x0,x1⟩:=hm x (by rw [h];simp)
  obtain ⟨c,hc,_⟩:=rdL_some x0 x1
  have hi:=ih (pre++[x]) f (o++[c.2.2.1]) (by rw [h];simp) (by omega) (by simp;omega)
  rw [List.length_append,List.length_singleton] at hi
  have hc':rdL (tB l).1 x=some c:=hc
  simp only [impl_metaReader_chunk.l8,decide_eq_true (show (pre.length:Int)<(E.length:Int) by omega),cond_true,hg,Option.bind_some,impl_metaReader_chunk.d10,hc',hi1]
  rw [lim_ok (by simp;omega),cond_true,hi]
  simp [numAt,hc]
theorem ipaths_loop (t3 t10:Int) (b:Bool) (s:List TCol) (o100 o101:Int×Int×Int×Int×Int×Unit×Unit) (lf:TLeaf) (E:List Int) (hE:E.length≤1500) (hm:∀p,p∈E→0≤p∧p<(l.length:Int)) (o105 o106:List Int):∀(post pre:List Int) (f:Nat) (o:List ByteArray),E=pre++post→post.length<f→o.length≤pre.length→
 impl_metaReader_chunk.l14 k f t3 t10 (E.length:Int) (pre.length:Int) (mR b) (tB l) af s o100 o101 lf o E o105 o106=impl_metaReader_chunk.d18 k t3 t10 (mR b) (tB l) af s o100 o101 lf (o++post.map (txtAt l)) o105 o106:=by
 intro post
 induction post with
 |nil=>
  intro pre f o h hf ho
  obtain ⟨f,rfl⟩:∃q,f=q+1:=⟨f-1,by omega⟩
  have hlen:E.length=pre.length:=by rw [h];simp
  simp only [impl_metaReader_chunk.l14,decide_eq_false (show ¬((pre.length:Int)<(E.length:Int)) by omega),cond_false,List.map_nil,List.append_nil]
 |cons x post ih=>
  intro pre f o h hf ho
  simp only [List.length_cons] at hf
  obtain ⟨f,rfl⟩:∃q,f=q+1:=⟨f-1,by omega⟩
  have hlen:E.length=pre.length+(post.length+1):=by rw [h];simp
  have hg:rdL E (pre.length:Int)=some x:=by rw [h];exact getMid _ _ _
  have hi1:IntKind.wrap .i64 ((pre.length:Int)+1)=((pre.length+1:Nat):Int):=by rw [w64 (by omega) (by omega)];omega
  obtain ⟨x0,x1⟩:=hm x (by rw [h];simp)
  obtain ⟨c,hc,_⟩:=rdL_some x0 x1
  have hi:=ih (pre++[x]) f (o++[c.2.2.2.1]) (by rw [h];simp) (by omega) (by simp;omega)
  rw [List.length_append,List.length_singleton] at hi
  have hc':rdL (tB l).1 x=some c:=hc
  simp only [impl_metaReader_chunk.l14,decide_eq_true (show (pre.length:Int)<(E.length:Int) by omega),cond_true,hg,Option.bind_some,hc',hi1]
  rw [lim_ok (by simp;omega),cond_true,hi]
  simp [txtAt,hc]
theorem own_eq (a:Nat) (ha:a<l.length):(ownV k l a= -1∧∀(D:Option Unit),True)∨(∃q:Nat,ownV k l a=q∧a<q∧q<l.length∧fV k l a 3=q∧∃n,l[q]?=some n∧n.1=12):=by
 obtain ⟨_,_,g3⟩:=find_val k (by omega) h a ha 3
 unfold ownV
 rcases g3 with g3|⟨q,g3,q1,q2⟩
 ·left;rw [g3,if_pos (by omega)];exact ⟨rfl,fun _=>trivial⟩
 ·rw [g3,if_neg (by omega),rdL_nat,List.getElem?_eq_getElem q2]
  simp only [Option.map_some,Option.getD_some]
  split
  ·rename_i h12
   exact .inr ⟨q,rfl,q1,q2,rfl,_,List.getElem?_eq_getElem q2,h12⟩
  ·exact .inl ⟨rfl,fun _=>trivial⟩
variable (s:List TCol) (hn:∀c,c∈s→c.1.size<k∧c.1.size<1000000000∧I64 c.2.2.2.1) (hS:IsSchema s) (hok:spec_SchemaOk k s=some true) (hok2:impl_SchemaOk k s=some true)
include hn hS hok hok2
theorem names_val (j:Int):spec_LeafPath k s j=some ((),nmsV k s j)∧impl_LeafPath k s j=some ((),nmsV k s j)∧(nmsV k s j).length≤20:=by
 obtain ⟨N,e1,e2,e3⟩:=path_eq k s hn hk hS hok hok2 j
 have:nmsV k s j=N:=by unfold nmsV;rw [e1];rfl
 rw [this]
 exact ⟨e1,e2,e3⟩
theorem ichunk (a:Nat) (ha:a<l.length) (j:Int) (b:Bool):
 impl_metaReader_chunk k (a:Int) j (mR b) (tB l) af s=some (((chV k l a j).1,(chV k l a j).2.1,(chV k l a j).2.2.1,(chV k l a j).2.2.2.1,(chV k l a j).2.2.2.2.1,(),()),(mR (b|| !chI k l s false a j),tB l,af,s,(chV k l a j).2.2.2.2.2.1)):=by
 have hk2:2000≤k:=by omega
 obtain ⟨_,g2,g3⟩:=find_val k hk2 h a ha 3
 unfold impl_metaReader_chunk
 simp only [g2,Option.bind_some]
 rcases own_eq k hk h a ha with ⟨ho,_⟩|⟨q,ho,q1,q2,q3,n,hnq,h12⟩
 ·have hbad:(cond (decide (fV k l a 3<0)) (some true) ((rdL (tB l).1 (fV k l a 3)).bind fun y35=>some (y35.1 !=12)))=some true:=by
   rcases g3 with g3|⟨q,g3,q1,q2⟩
   ·rw [g3];rfl
   ·rw [g3,decide_eq_false (by omega),cond_false,rdL_nat,show (tB l).1=l from rfl,List.getElem?_eq_getElem q2]
    unfold ownV at ho
    rw [g3,if_neg (by omega),rdL_nat,List.getElem?_eq_getElem q2] at ho
    simp only [Option.map_some,Option.getD_some] at ho
    split at ho
    ·omega
    ·rename_i h12
     simp only [Option.bind_some,bneT h12]
  rw [hbad]
  unfold chV chI
  simp only [ho,show ((-1:Int)<0) from by omega,if_true,Option.bind_some,cond_true,Bool.not_false,Bool.or_true]
 ·have hgood:(cond (decide (fV k l a 3<0)) (some true) ((rdL (tB l).1 (fV k l a 3)).bind fun y35=>some (y35.1 !=12)))=some false:=by
   rw [q3,decide_eq_false (by omega),cond_false,rdL_nat,show (tB l).1=l from rfl,hnq]
   simp only [Option.bind_some,bneF h12]
  obtain ⟨lf,lb,e1,e2,_⟩:=leafOf_eq k s hn hk hS hok hok2 j
  have hlf:lfT k s j=lf.1:=by unfold lfT;rw [e1];rfl
  obtain ⟨_,p2,p3⟩:=names_val k hk h s hn hS hok hok2 j
  obtain ⟨_,_,m1,m2⟩:=parts_val k hk2 h q q2 2 5
  obtain ⟨_,_,m3,m4⟩:=parts_val k hk2 h q q2 3 8
  obtain ⟨_,f2,f3⟩:=find_val k hk2 h q q2 11
  rw [hgood]
  simp only [Option.bind_some,cond_false,e2,q3,mlist k hk2 h q q2]
  have le:=iencs_loop k hk h j (q:Int) (b|| !(pV k l q 2 5).1) s (0,0,0,0,0,(),()) (j,0,(-1),0,0,(),()) lf (pV k l q 2 5).2 m1 m2 [] (pV k l q 2 5).2 [] k [] rfl (by omega) (by simp)
  rw [List.length_nil,show ((0:Nat):Int)=0 from rfl] at le
  rw [le]
  simp only [mlist k hk2 h q q2,Option.bind_some,List.nil_append]
  have lp:=ipaths_loop k hk h j (q:Int) (b|| !(pV k l q 2 5).1|| !(pV k l q 3 8).1) s (0,0,0,0,0,(),()) (j,0,(-1),0,0,(),()) lf (pV k l q 3 8).2 m3 m4 [] ((pV k l q 2 5).2.map (numAt l)) (pV k l q 3 8).2 [] k [] rfl (by omega) (by simp)
  rw [List.length_nil,show ((0:Nat):Int)=0 from rfl] at lp
  rw [lp,List.nil_append]
  have hsE:=sEq_val k ((pV k l q 3 8).2.map (txtAt l)) (nmsV k s j) (by rw [List.length_map];omega) (by rw [List.length_map];omega) (by omega)
  have tail:∀b':Bool,impl_metaReader_chunk.c20 k (q:Int) (mR b') (tB l) af s (0,0,0,0,0,(),()) (j,0,(-1),0,0,(),()) [] ((pV k l q 2 5).2.map (numAt l))=
   some (((chV k l a j).1,(chV k l a j).2.1,(chV k l a j).2.2.1,(chV k l a j).2.2.2.1,(chV k l a j).2.2.2.2.1,(),()),(mR (b'|| !((nV k l q 5).2&&(nV k l q 6).2&&((nV k l q 7).2&&((nV k l q 7).1==(nV k l q 6).1))&&(nV k l q 9).2&&(if fV k l q 11<0 then true else (nV k l q 11).2&&((nV k l q 11).1 != -1)))),tB l,af,s,(chV k l a j).2.2.2.2.2.1)):=by
   intro b'
   unfold impl_metaReader_chunk.c20 impl_metaReader_chunk.d22 impl_metaReader_chunk.c24 impl_metaReader_chunk.c28 chV
   rw [ho,if_neg (by omega)]
   have hm7:(((nV k l q 7).1 !=(nV k l q 6).1))= !((nV k l q 7).1==(nV k l q 6).1):=rfl
   simp only [mnum k hk2 h q q2,Option.bind_some,hm7]
   have hbne:((nV k l q 11).1 != -1)= !((nV k l q 11).1== -1):=rfl
   cases h7:((nV k l q 7).1==(nV k l q 6).1)
   all_goals
    simp only [Bool.not_true,Bool.not_false,cond_true,cond_false,mnum k hk2 h q q2,Option.bind_some,f2]
    by_cases hf:fV k l q 11<0
    ·rw [decide_eq_false (show ¬fV k l q 11≥0 by omega),if_pos hf,if_pos hf]
     cases b'<;>cases (nV k l q 5).2<;>cases (nV k l q 6).2<;>cases (nV k l q 7).2<;>cases (nV k l q 9).2<;>rfl
    ·rw [decide_eq_true (show fV k l q 11≥0 by omega),if_neg hf,if_neg hf,hbne]
     simp only [cond_true,mnum k hk2 h q q2,Option.bind_some,cst]
     cases b'<;>cases (nV k l q 5).2<;>cases (nV k l q 6).2<;>cases (nV k l q 7).2<;>cases (nV k l q 9).2<;>cases (nV k l q 11).2<;>cases ((nV k l q 11).1== -1)<;>rfl
  unfold impl_metaReader_chunk.d18
  have hm1:(((nV k l q 1).1 !=lf.1))= !((nV k l q 1).1==lf.1):=rfl
  have hm4:(((nV k l q 4).1 !=0))= !((nV k l q 4).1==0):=rfl
  simp only [mnum k hk2 h q q2,Option.bind_some,hm1,hm4,cond_true,p2,hsE]
  have hfin:chI k l s false a j=((pV k l q 2 5).1&&(pV k l q 3 8).1&&((nV k l q 1).2&&((nV k l q 1).1==lf.1))&&((nV k l q 4).2&&((nV k l q 4).1==0))&&decide ((pV k l q 3 8).2.map (txtAt l)=nmsV k s j)&&
   ((nV k l q 5).2&&(nV k l q 6).2&&((nV k l q 7).2&&((nV k l q 7).1==(nV k l q 6).1))&&(nV k l q 9).2&&(if fV k l q 11<0 then true else (nV k l q 11).2&&((nV k l q 11).1 != -1)))):=by
   unfold chI
   rw [ho,if_neg (by omega),hlf]
   simp only [Bool.and_assoc,Bool.false_eq_true,if_false]
  generalize hC:((nV k l q 5).2&&(nV k l q 6).2&&((nV k l q 7).2&&((nV k l q 7).1==(nV k l q 6).1))&&(nV k l q 9).2&&(if fV k l q 11<0 then true else (nV k l q 11).2&&((nV k l q 11).1 != -1)))=C at tail hfin
  rw [hfin]
  generalize (pV k l q 2 5).1=x1
  generalize (pV k l q 3 8).1=x2
  generalize (nV k l q 1).2=x3
  generalize (nV k l q 4).2=x4
  generalize decide ((pV k l q 3 8).2.map (txtAt l)=nmsV k s j)=x5
  generalize ((nV k l q 4).1==0)=x7
  cases ((nV k l q 1).1==lf.1) with
  |false=>
   simp only [Bool.not_false,cond_true]
   refine (tail true).trans ?_
   cases b<;>cases x1<;>cases x2<;>cases x3<;>cases x4<;>cases x5<;>cases x7<;>cases C<;>rfl
  |true=>
   simp only [Bool.not_true,cond_false]
   cases x7 with
   |false=>
    simp only [Bool.not_false,cond_true]
    refine (tail true).trans ?_
    cases b<;>cases x1<;>cases x2<;>cases x3<;>cases x4<;>cases x5<;>cases C<;>rfl
   |true=>
    simp only [Bool.not_true,cond_false]
    cases x5 with
    |false=>
     simp only [Bool.not_false,cond_true]
     refine (tail true).trans ?_
     cases b<;>cases x1<;>cases x2<;>cases x3<;>cases x4<;>cases C<;>rfl
    |true=>
     simp only [Bool.not_true,cond_false]
     refine (tail _).trans ?_
     cases b<;>cases x1<;>cases x2<;>cases x3<;>cases x4<;>cases C<;>rfl
end
end Go.Law
end
