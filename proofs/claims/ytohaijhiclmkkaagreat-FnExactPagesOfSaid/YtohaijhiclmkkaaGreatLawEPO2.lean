/- plain laws of the claim's functions -/
import Derived.Test.YtohaijhiclmkkaaGreatLawEPO1
import Derived.Test.YtohaijhiclmkkaaGreatLawEPO0
import Derived.Test.YtohaijhiclmkkaaGreatEPOF0
import Derived.Test.YtohaijhiclmkkaaGreatAmRow
set_option linter.unnecessarySimpa false
set_option linter.unusedSimpArgs false
set_option linter.unusedVariables false
set_option linter.unusedSectionVars false
section
set_option linter.unusedVariables false
set_option linter.unusedSimpArgs false
set_option linter.unusedSectionVars false
namespace Go.Law
open Go.Am Go.Fn
section
variable (k:Nat) (hk:2000000≤k) {l:List TNode} {af:List Int} (h:TreeFacts l af)
include hk h
theorem ids6 (q:Nat) (hq:q<l.length):∃O,spec_l16Ids k l (q:Int) [1,4,5,6,7,9]=some (((),(nV k l q 1).2&&((nV k l q 4).2&&((nV k l q 5).2&&((nV k l q 6).2&&((nV k l q 7).2&&(nV k l q 9).2))))),O)∧
 (((nV k l q 1).2&&((nV k l q 4).2&&((nV k l q 5).2&&((nV k l q 6).2&&((nV k l q 7).2&&(nV k l q 9).2)))))=true→O=[(nV k l q 1).1,(nV k l q 4).1,(nV k l q 5).1,(nV k l q 6).1,(nV k l q 7).1,(nV k l q 9).1]):=by
 have n1:=fun id=>(num_val k (by omega) h q hq id).1
 have key:∀f,7≤f→∃O,spec_l16Ids.l3 k f l (q:Int) [1,4,5,6,7,9] 0 []=some (((),(nV k l q 1).2&&((nV k l q 4).2&&((nV k l q 5).2&&((nV k l q 6).2&&((nV k l q 7).2&&(nV k l q 9).2))))),O)∧
  (((nV k l q 1).2&&((nV k l q 4).2&&((nV k l q 5).2&&((nV k l q 6).2&&((nV k l q 7).2&&(nV k l q 9).2)))))=true→O=[(nV k l q 1).1,(nV k l q 4).1,(nV k l q 5).1,(nV k l q 6).1,(nV k l q 7).1,(nV k l q 9).1]):=by
  intro f hf
  obtain ⟨f,rfl⟩:∃g,f=g+7:=⟨f-7,by omega⟩
  have r0:rdL [(1:Int),4,5,6,7,9] 0=some 1:=rfl
  have r1:rdL [(1:Int),4,5,6,7,9] 1=some 4:=rfl
  have r2:rdL [(1:Int),4,5,6,7,9] 2=some 5:=rfl
  have r3:rdL [(1:Int),4,5,6,7,9] 3=some 6:=rfl
  have r4:rdL [(1:Int),4,5,6,7,9] 4=some 7:=rfl
  have r5:rdL [(1:Int),4,5,6,7,9] 5=some 9:=rfl
  have w0:IntKind.wrap .i64 (0+1)=1:=by decide
  have w1:IntKind.wrap .i64 (1+1)=2:=by decide
  have w2:IntKind.wrap .i64 (2+1)=3:=by decide
  have w3:IntKind.wrap .i64 (3+1)=4:=by decide
  have w4:IntKind.wrap .i64 (4+1)=5:=by decide
  have w5:IntKind.wrap .i64 (5+1)=6:=by decide
  have L6:(([(1:Int),4,5,6,7,9].length:Nat):Int)=6:=rfl
  simp only [spec_l16Ids.l3,L6,show decide ((0:Int)<6)=true by decide,show decide ((1:Int)<6)=true by decide,show decide ((2:Int)<6)=true by decide,show decide ((3:Int)<6)=true by decide,show decide ((4:Int)<6)=true by decide,show decide ((5:Int)<6)=true by decide,show decide ((6:Int)<6)=false by decide,cond_true,cond_false,r0,r1,r2,r3,r4,r5,w0,w1,w2,w3,w4,w5,Option.bind_some,n1]
  cases (nV k l q 1).2 with
  |false=>exact ⟨_,rfl,fun h=>by cases h⟩
  |true=>
   simp only [Bool.not_true,cond_false,Bool.true_and]
   rw [lim_ok (by simp),cond_true]
   cases (nV k l q 4).2 with
   |false=>exact ⟨_,rfl,fun h=>by cases h⟩
   |true=>
    simp only [Bool.not_true,cond_false,Bool.true_and]
    rw [lim_ok (by simp),cond_true]
    cases (nV k l q 5).2 with
    |false=>exact ⟨_,rfl,fun h=>by cases h⟩
    |true=>
     simp only [Bool.not_true,cond_false,Bool.true_and]
     rw [lim_ok (by simp),cond_true]
     cases (nV k l q 6).2 with
     |false=>exact ⟨_,rfl,fun h=>by cases h⟩
     |true=>
      simp only [Bool.not_true,cond_false,Bool.true_and]
      rw [lim_ok (by simp),cond_true]
      cases (nV k l q 7).2 with
      |false=>exact ⟨_,rfl,fun h=>by cases h⟩
      |true=>
       simp only [Bool.not_true,cond_false,Bool.true_and]
       rw [lim_ok (by simp),cond_true]
       cases (nV k l q 9).2 with
       |false=>exact ⟨_,rfl,fun h=>by cases h⟩
       |true=>
        simp only [Bool.not_true,cond_false]
        rw [lim_ok (by simp),cond_true]
        exact ⟨_,rfl,fun _=>rfl⟩
 exact key k (by omega)
theorem sencs_loop (q:Nat) (hq:q<l.length) (o100 o101 c:Int×Int×Int×Int×Int×Unit×Unit) (E:List Int) (hE:E.length≤1500) (hm:∀p,p∈E→0≤p∧p<(l.length:Int)) (o104 o105:List Int):∀(post pre:List Int) (f:Nat) (o:List Int),E=pre++post→post.length<f→o.length≤pre.length→
 spec_l18From.l18 k f l (q:Int) (pre.length:Int) o100 o101 E c o104 o105 o=if fV k l q 11<0 then some ((c,true),o++post.map (numAt l)) else if ((nV k l q 11).2&&decide (0≤(nV k l q 11).1))=true then some (((c.1,c.2.1,(nV k l q 11).1,c.2.2.2.1,c.2.2.2.2.1,(),()),true),o++post.map (numAt l)) else some ((o101,false),o105):=by
 intro post
 induction post with
 |nil=>
  intro pre f o h' hf ho
  obtain ⟨f,rfl⟩:∃q,f=q+1:=⟨f-1,by omega⟩
  have hlen:E.length=pre.length:=by rw [h'];simp
  obtain ⟨f1,_,_⟩:=find_val k (by omega) h q hq 11
  obtain ⟨n1,_,_⟩:=num_val k (by omega) h q hq 11
  simp only [spec_l18From.l18,decide_eq_false (show ¬((pre.length:Int)<(E.length:Int)) by omega),cond_false,List.map_nil,List.append_nil,f1,n1,Option.bind_some,spec_l18From.c26,cst]
  by_cases hf:fV k l q 11<0
  ·rw [decide_eq_false (show ¬fV k l q 11≥0 by omega),if_pos hf];rfl
  ·rw [decide_eq_true (show fV k l q 11≥0 by omega),if_neg hf]
   simp only [cond_true]
   by_cases hx:0≤(nV k l q 11).1
   ·rw [decide_eq_true hx,decide_eq_false (show ¬(nV k l q 11).1<0 by omega)]
    cases (nV k l q 11).2<;>rfl
   ·rw [decide_eq_false hx,decide_eq_true (show (nV k l q 11).1<0 by omega)]
    cases (nV k l q 11).2<;>rfl
 |cons x post ih=>
  intro pre f o h' hf ho
  simp only [List.length_cons] at hf
  obtain ⟨f,rfl⟩:∃q,f=q+1:=⟨f-1,by omega⟩
  have hlen:E.length=pre.length+(post.length+1):=by rw [h'];simp
  have hg:rdL E (pre.length:Int)=some x:=by rw [h'];exact getMid _ _ _
  have hi1:IntKind.wrap .i64 ((pre.length:Int)+1)=((pre.length+1:Nat):Int):=by rw [w64 (by omega) (by omega)];omega
  obtain ⟨x0,x1⟩:=hm x (by rw [h'];simp)
  obtain ⟨d,hd,_⟩:=rdL_some x0 x1
  have hi:=ih (pre++[x]) f (o++[d.2.2.1]) (by rw [h'];simp) (by omega) (by simp;omega)
  rw [List.length_append,List.length_singleton] at hi
  simp only [spec_l18From.l18,decide_eq_true (show (pre.length:Int)<(E.length:Int) by omega),cond_true,hg,hd,Option.bind_some,hi1]
  rw [lim_ok (by simp;omega),cond_true,hi]
  simp [numAt,hd]
theorem spaths_loop (q:Nat) (j:Int) (o100 o101:Int×Int×Int×Int×Int×Unit×Unit) (O EP E:List Int) (hE:E.length≤1500) (hm:∀p,p∈E→0≤p∧p<(l.length:Int)) (N:List ByteArray) (hN:N.length=E.length) (o106 o107:List Int):∀(m f i:Nat),i+m=E.length→m<f→
 spec_l18From.l12 k f l j (q:Int) (i:Int) o100 o101 O EP E N o106 o107=if (E.drop i).map (txtAt l)=N.drop i then ((rdL O 5).bind fun y9=>(rdL O 2).bind fun y10=>(rdL O 3).bind fun y11=>spec_l18From.l18 k k l (q:Int) 0 o100 o101 EP (j,y9,(-1),y10,y11,(),()) o106 o107 []) else some ((o101,false),o107):=by
 intro m
 induction m with
 |zero=>
  intro f i hi hf
  obtain ⟨f,rfl⟩:∃q,f=q+1:=⟨f-1,by omega⟩
  simp only [spec_l18From.l12,decide_eq_false (show ¬((i:Int)<(E.length:Int)) by omega),cond_false]
  rw [List.drop_eq_nil_of_le (by omega),List.drop_eq_nil_of_le (by omega),List.map_nil,if_pos rfl]
 |succ m ih=>
  intro f i hi hf
  obtain ⟨f,rfl⟩:∃q,f=q+1:=⟨f-1,by omega⟩
  have ha:=List.getElem?_eq_getElem (show i<E.length by omega)
  have hb:=List.getElem?_eq_getElem (show i<N.length by omega)
  have hi1:IntKind.wrap .i64 ((i:Int)+1)=((i+1:Nat):Int):=by rw [w64 (by omega) (by omega)];omega
  have da:=List.drop_eq_getElem_cons (show i<E.length by omega)
  have db:=List.drop_eq_getElem_cons (show i<N.length by omega)
  rw [da,db]
  obtain ⟨x0,x1⟩:=hm _ (List.mem_of_getElem? ha)
  generalize E[i]'_=x at ha x0 x1
  generalize N[i]'_=y at hb
  obtain ⟨d,hd,_⟩:=rdL_some x0 x1
  simp only [spec_l18From.l12,decide_eq_true (show (i:Int)<(E.length:Int) by omega),cond_true,rdL_nat,ha,hb,hd,Option.bind_some,eqS_iff,hi1,List.map_cons]
  have ht:txtAt l x=d.2.2.2.1:=by unfold txtAt;rw [hd];rfl
  rw [ht]
  by_cases hxy:d.2.2.2.1=y
  ·rw [hxy,decide_eq_true rfl]
   simp only [Bool.not_true,cond_false,List.cons.injEq,true_and]
   rw [ih f (i+1) (by omega) (by omega)]
  ·rw [decide_eq_false hxy,if_neg (fun e=>hxy (List.cons.inj e).1)]
   rfl
variable (s:List TCol) (hn:∀c,c∈s→c.1.size<k∧c.1.size<1000000000∧I64 c.2.2.2.1) (hS:IsSchema s) (hok:spec_SchemaOk k s=some true) (hok2:impl_SchemaOk k s=some true)
include hn hS hok hok2
theorem schunk (a:Nat) (ha:a<l.length) (j:Nat) (hj:j<(leavesFrom 0 s).length):
 ∃hd E,spec_l18From k l (a:Int) s (j:Int)=some ((hd,chI k l s true a j),E)∧
  (chI k l s true a j=true→hd=((chV k l a j).1,(chV k l a j).2.1,(chV k l a j).2.2.1,(chV k l a j).2.2.2.1,(chV k l a j).2.2.2.2.1,(),())∧E=(chV k l a j).2.2.2.2.2.1):=by
 have hk2:2000≤k:=by omega
 obtain ⟨g1,_,g3⟩:=find_val k hk2 h a ha 3
 unfold spec_l18From
 simp only [g1,Option.bind_some]
 rcases own_eq k hk h a ha with ⟨ho,_⟩|⟨q,ho,q1,q2,q3,n,hnq,h12⟩
 ·have hbad:(cond (decide (fV k l a 3<0)) (some true) ((rdL l (fV k l a 3)).bind fun y349=>some (y349.1 !=12)))=some true:=by
   rcases g3 with g3|⟨q,g3,q1,q2⟩
   ·rw [g3];rfl
   ·rw [g3,decide_eq_false (by omega),cond_false,rdL_nat,List.getElem?_eq_getElem q2]
    unfold ownV at ho
    rw [g3,if_neg (by omega),rdL_nat,List.getElem?_eq_getElem q2] at ho
    simp only [Option.map_some,Option.getD_some] at ho
    split at ho
    ·omega
    ·rename_i h12
     simp only [Option.bind_some,bneT h12]
  rw [hbad]
  have hI:chI k l s true a j=false:=by
   unfold chI
   rw [ho,if_pos (by omega)]
  rw [hI]
  simp only [Option.bind_some,cond_true]
  exact ⟨_,_,rfl,fun h=>by cases h⟩
 ·have hgood:(cond (decide (fV k l a 3<0)) (some true) ((rdL l (fV k l a 3)).bind fun y349=>some (y349.1 !=12)))=some false:=by
   rw [q3,decide_eq_false (by omega),cond_false,rdL_nat,hnq]
   simp only [Option.bind_some,bneF h12]
  obtain ⟨O,i1,i2⟩:=ids6 k hk h q q2
  obtain ⟨p1,_,p3⟩:=names_val k hk h s hn hS hok hok2 j
  obtain ⟨b1,_,m1,m2⟩:=parts_val k hk2 h q q2 2 5
  obtain ⟨b2,_,m3,m4⟩:=parts_val k hk2 h q q2 3 8
  obtain ⟨_,v2⟩:=leaves_eq k (by omega) s (by have:=hS.2.1;omega)
  obtain ⟨lf,lb,e1,_,e3⟩:=leafOf_eq k s hn hk hS hok hok2 (j:Int)
  have hlb:lb=true:=by
   unfold spec_LeafOf spec_SchemaLeaves at e1
   rw [hok] at e1
   have hll:=leavesFrom_len 0 s
   have hs20:=hS.2.1
   simp only [Option.bind_some,Bool.not_true,cond_false,v2,l1In_eq] at e1
   rw [w64 (by omega) (by omega),show (decide ((0:Int)≤(j:Int))&&decide ((j:Int)≤((leavesFrom 0 s).length:Int)-1))=true by simp;omega] at e1
   simp only [Bool.not_true,cond_false] at e1
   cases h1:rdL (leavesFrom 0 s) (j:Int) with
   |none=>rw [h1] at e1;cases e1
   |some x=>
    rw [h1] at e1
    simp only [Option.bind_some] at e1
    cases h2:spec_l5Max k s x with
    |none=>rw [h2] at e1;cases e1
    |some y=>
     rw [h2] at e1
     simp only [Option.bind_some] at e1
     cases h3:rdL s x with
     |none=>rw [h3] at e1;cases e1
     |some z=>
      rw [h3] at e1
      simp only [Option.bind_some,Option.some.injEq,Prod.mk.injEq] at e1
      exact e1.2.symm
  obtain ⟨L,c,hL,hc,_,_,hlf⟩:=e3 hlb
  have hlfT:lfT k s j=c.2.1:=by unfold lfT;rw [e1,hlf];rfl
  have hcr:rdL s ((L:Nat):Int)=some c:=hc
  rw [hgood,q3]
  simp only [Option.bind_some,cond_false,i1,b1,b2,p1,spec_l18From.d9,cond_true,v2,hL,hcr]
  have hI:chI k l s true a j=((((nV k l q 1).2&&((nV k l q 4).2&&((nV k l q 5).2&&((nV k l q 6).2&&((nV k l q 7).2&&(nV k l q 9).2)))))&&(pV k l q 2 5).1&&(pV k l q 3 8).1&&((nV k l q 1).1==c.2.1)&&((nV k l q 4).1==0)&&((nV k l q 6).1==(nV k l q 7).1))&&
   decide ((pV k l q 3 8).2.map (txtAt l)=nmsV k s j)&&(if fV k l q 11<0 then true else (nV k l q 11).2&&decide (0≤(nV k l q 11).1))):=by
   unfold chI
   rw [ho,if_neg (by omega),hlfT,show ((nV k l q 7).1==(nV k l q 6).1)=((nV k l q 6).1==(nV k l q 7).1) from by rw [Bool.eq_iff_iff];simp;omega]
   simp only [if_true]
   generalize (nV k l q 1).2=x1
   generalize (nV k l q 4).2=x2
   generalize (nV k l q 5).2=x3
   generalize (nV k l q 6).2=x4
   generalize (nV k l q 7).2=x5
   generalize (nV k l q 9).2=x6
   generalize (pV k l q 2 5).1=x7
   generalize (pV k l q 3 8).1=x8
   cases x1<;>cases x2<;>cases x3<;>cases x4<;>cases x5<;>cases x6<;>cases x7<;>cases x8<;>simp [Bool.and_assoc,Bool.and_comm,Bool.and_left_comm]
  rw [hI]
  clear hI
  generalize hA:((nV k l q 1).2&&((nV k l q 4).2&&((nV k l q 5).2&&((nV k l q 6).2&&((nV k l q 7).2&&(nV k l q 9).2)))))=A at i2
  cases A with
  |false=>
   simp only [Bool.not_false,cond_true,Bool.false_and]
   exact ⟨_,_,rfl,fun h=>by cases h⟩
  |true=>
   obtain rfl:=i2 rfl
   simp only [Bool.not_true,cond_false,Bool.true_and]
   cases (pV k l q 2 5).1 with
   |false=>
    simp only [Bool.not_false,cond_true,Bool.false_and]
    exact ⟨_,_,rfl,fun h=>by cases h⟩
   |true=>
    simp only [Bool.not_true,cond_false,Bool.true_and]
    cases (pV k l q 3 8).1 with
    |false=>
     simp only [Bool.not_false,cond_true,Bool.false_and]
     exact ⟨_,_,rfl,fun h=>by cases h⟩
    |true=>
     simp only [Bool.not_true,cond_false,Bool.true_and]
     by_cases hlen:(pV k l q 3 8).2.length=(nmsV k s j).length
     ·have r0:rdL [(nV k l q 1).1,(nV k l q 4).1,(nV k l q 5).1,(nV k l q 6).1,(nV k l q 7).1,(nV k l q 9).1] 0=some (nV k l q 1).1:=rfl
      have r1:rdL [(nV k l q 1).1,(nV k l q 4).1,(nV k l q 5).1,(nV k l q 6).1,(nV k l q 7).1,(nV k l q 9).1] 1=some (nV k l q 4).1:=rfl
      have r2:rdL [(nV k l q 1).1,(nV k l q 4).1,(nV k l q 5).1,(nV k l q 6).1,(nV k l q 7).1,(nV k l q 9).1] 2=some (nV k l q 5).1:=rfl
      have r3:rdL [(nV k l q 1).1,(nV k l q 4).1,(nV k l q 5).1,(nV k l q 6).1,(nV k l q 7).1,(nV k l q 9).1] 3=some (nV k l q 6).1:=rfl
      have r4:rdL [(nV k l q 1).1,(nV k l q 4).1,(nV k l q 5).1,(nV k l q 6).1,(nV k l q 7).1,(nV k l q 9).1] 4=some (nV k l q 7).1:=rfl
      have r5:rdL [(nV k l q 1).1,(nV k l q 4).1,(nV k l q 5).1,(nV k l q 6).1,(nV k l q 7).1,(nV k l q 9).1] 5=some (nV k l q 9).1:=rfl
      rw [bneF (show ((pV k l q 3 8).2.length:Int)=((nmsV k s j).length:Int) by omega)]
      simp only [cond_false,r0,r1,r3,r4,Option.bind_some,bne]
      cases ((nV k l q 1).1==c.2.1) with
      |false=>
       simp only [Bool.not_false,cond_true,Bool.false_and]
       exact ⟨_,_,rfl,fun h=>by cases h⟩
      |true=>
       simp only [Bool.not_true,cond_false,Bool.true_and]
       cases ((nV k l q 4).1==0) with
       |false=>
        simp only [Bool.not_false,cond_true,Bool.false_and]
        exact ⟨_,_,rfl,fun h=>by cases h⟩
       |true=>
        simp only [Bool.not_true,cond_false,Bool.true_and]
        cases ((nV k l q 6).1==(nV k l q 7).1) with
        |false=>
         simp only [Bool.not_false,cond_true,Bool.false_and]
         exact ⟨_,_,rfl,fun h=>by cases h⟩
        |true=>
         simp only [Bool.not_true,cond_false,Bool.true_and]
         have lp:=spaths_loop k hk h q (j:Int) (0,0,0,0,0,(),()) (0,0,0,0,0,(),()) [(nV k l q 1).1,(nV k l q 4).1,(nV k l q 5).1,(nV k l q 6).1,(nV k l q 7).1,(nV k l q 9).1] (pV k l q 2 5).2 (pV k l q 3 8).2 m3 m4 (nmsV k s j) hlen.symm [] [] (pV k l q 3 8).2.length k 0 (by omega) (by omega)
         rw [show ((0:Nat):Int)=0 from rfl] at lp
         rw [lp,List.drop_zero,List.drop_zero]
         by_cases hp:(pV k l q 3 8).2.map (txtAt l)=nmsV k s j
         ·rw [if_pos hp,decide_eq_true hp]
          simp only [r5,r2,r3,Option.bind_some,Bool.true_and]
          have le:=sencs_loop k hk h q q2 (0,0,0,0,0,(),()) (0,0,0,0,0,(),()) ((j:Int),(nV k l q 9).1,(-1),(nV k l q 5).1,(nV k l q 6).1,(),()) (pV k l q 2 5).2 m1 m2 [] [] (pV k l q 2 5).2 [] k [] rfl (by omega) (by simp)
          rw [List.length_nil,show ((0:Nat):Int)=0 from rfl] at le
          rw [le]
          have hch:chV k l a j=((j:Int),(nV k l q 9).1,(if fV k l q 11<0 then -1 else (nV k l q 11).1),(nV k l q 5).1,(nV k l q 6).1,(pV k l q 2 5).2.map (numAt l),()):=by
           unfold chV
           rw [ho,if_neg (by omega)]
          rw [hch]
          by_cases hf:fV k l q 11<0
          ·simp only [if_pos hf,List.nil_append]
           exact ⟨_,_,rfl,fun _=>⟨rfl,rfl⟩⟩
          ·simp only [if_neg hf,List.nil_append]
           cases hd:((nV k l q 11).2&&decide (0≤(nV k l q 11).1)) with
           |false=>
            rw [if_neg (by decide)]
            exact ⟨_,_,rfl,fun h=>by cases h⟩
           |true=>
            rw [if_pos rfl]
            exact ⟨_,_,rfl,fun _=>⟨rfl,rfl⟩⟩
         ·rw [if_neg hp,decide_eq_false hp]
          simp only [Bool.false_and]
          exact ⟨_,_,rfl,fun h=>by cases h⟩
     ·rw [bneT (show ¬((pV k l q 3 8).2.length:Int)=((nmsV k s j).length:Int) by omega)]
      have hp:¬(pV k l q 3 8).2.map (txtAt l)=nmsV k s j:=fun e=>hlen (by rw [←e,List.length_map])
      rw [decide_eq_false hp]
      simp only [cond_true,Bool.and_false,Bool.false_and]
      exact ⟨_,_,rfl,fun h=>by cases h⟩
end
end Go.Law
end
section
set_option linter.unusedVariables false
set_option linter.unusedSimpArgs false
set_option linter.unusedSectionVars false
namespace Go.Law
open Go.Am Go.Fn
section
variable (k:Nat)
theorem encs_loop (c:TChunk) (hc:c.2.2.2.2.2.1.length<k) (hl:c.2.2.2.2.2.1.length<4294967296):∀(m f f' i:Nat),i+m=c.2.2.2.2.2.1.length→m<f→m<f'→
 ∃b,spec_l18Chunk.l4 k f (i:Int) c=some b∧impl_encsRight.l2 k f' c.2.2.2.2.2.1 c.2.2.2.2.2.1 (c.2.2.2.2.2.1.length:Int) (i:Int)=some (b&&(decide ((1:Int)≤(c.2.2.2.2.2.1.length:Int))&&decide ((c.2.2.2.2.2.1.length:Int)≤5))):=by
 intro m
 induction m with
 |zero=>
  intro f f' i hi hf hf'
  obtain ⟨f,rfl⟩:∃q,f=q+1:=⟨f-1,by omega⟩
  obtain ⟨f',rfl⟩:∃q,f'=q+1:=⟨f'-1,by omega⟩
  simp only [spec_l18Chunk.l4,impl_encsRight.l2,decide_eq_false (show ¬((i:Int)<(c.2.2.2.2.2.1.length:Int)) by omega),cond_false,within_eq,Option.bind_some]
  exact ⟨true,rfl,by rw [Bool.true_and]⟩
 |succ m ih=>
  intro f f' i hi hf hf'
  obtain ⟨f,rfl⟩:∃q,f=q+1:=⟨f-1,by omega⟩
  obtain ⟨f',rfl⟩:∃q,f'=q+1:=⟨f'-1,by omega⟩
  obtain ⟨x,hx,_⟩:=rdL_some (xs:=c.2.2.2.2.2.1) (i:=(i:Int)) (by omega) (by omega)
  have hi1:IntKind.wrap .i64 ((i:Int)+1)=((i+1:Nat):Int):=by rw [w64 (by omega) (by omega)];omega
  obtain ⟨b,g1,g2⟩:=ih f f' (i+1) (by omega) (by omega) (by omega)
  simp only [spec_l18Chunk.l4,impl_encsRight.l2,decide_eq_true (show (i:Int)<(c.2.2.2.2.2.1.length:Int) by omega),cond_true,spec_l18Chunk.d6,hx,Option.bind_some,within_eq,l1In_eq,hi1,g1,g2]
  cases (decide ((0:Int)≤x)&&decide (x≤9)) with
  |false=>
   simp only [Bool.not_false,cond_true,Option.bind_some]
   exact ⟨false,rfl,by rw [Bool.false_and]⟩
  |true=>
   simp only [Bool.not_true,cond_false]
   by_cases h0:(i:Int)>0
   ·obtain ⟨y,hy,_⟩:=rdL_some (xs:=c.2.2.2.2.2.1) (i:=(i:Int)-1) (by omega) (by omega)
    have hm1:IntKind.wrap .i64 ((i:Int)-1)=(i:Int)-1:=w64 (by omega) (by omega)
    simp only [decide_eq_true h0,cond_true,hm1,hy,Option.bind_some]
    cases decide (y≥x) with
    |true=>
     simp only [cond_true]
     exact ⟨false,rfl,by rw [Bool.false_and]⟩
    |false=>
     simp only [cond_false]
     exact ⟨b,rfl,rfl⟩
   ·simp only [decide_eq_false h0,cond_false,Option.bind_some]
    exact ⟨b,rfl,rfl⟩
theorem chunk_eq (c:TChunk) (hc:c.2.2.2.2.2.1.length<k) (hl:c.2.2.2.2.2.1.length<4294967296) (leaf:Int):∃b,spec_l18Chunk k c leaf=some b∧impl_chunkOk k c leaf=some b∧(b=true→-1≤c.2.2.1):=by
 obtain ⟨b,g1,g2⟩:=encs_loop k c hc hl c.2.2.2.2.2.1.length k k 0 (by omega) hc hc
 rw [show ((0:Nat):Int)=0 from rfl] at g1 g2
 unfold spec_l18Chunk impl_chunkOk impl_encsRight
 simp only [l1In_eq,within_eq,Option.bind_some,cst,csf,g1,g2]
 generalize h2:(decide ((0:Int)≤c.2.1)&&decide (c.2.1≤60000))=x2
 generalize h3:(decide ((-1:Int)≤c.2.2.1)&&decide (c.2.2.1≤60000))=x3
 generalize (decide ((1:Int)≤c.2.2.2.1)&&decide (c.2.2.2.1≤2000))=x4
 generalize (decide ((0:Int)≤c.2.2.2.2.1)&&decide (c.2.2.2.2.1≤60000))=x5
 generalize (decide ((1:Int)≤(c.2.2.2.2.2.1.length:Int))&&decide ((c.2.2.2.2.2.1.length:Int)≤5))=x6
 simp only [bne]
 generalize (c.1==leaf)=x1
 have hd:x3=true→-1≤c.2.2.1:=fun h=>by
  rw [h] at h3
  simp only [Bool.and_eq_true,decide_eq_true_eq] at h3
  exact h3.1
 clear g1 g2 h2 h3
 cases x1<;>cases x2<;>cases x3<;>cases x4<;>cases x5<;>cases x6<;>cases b<;>first|exact ⟨_,rfl,rfl,fun _=>hd rfl⟩|exact ⟨_,rfl,rfl,fun h=>Bool.noConfusion h⟩
end
def GoodGroups (n:Nat) (G:List TGroupMeta):Prop:=∀g,g∈G→g.2.1.length=n∧∀c,c∈g.2.1→-1≤c.2.2.1
def Fit (k:Nat) (G:List TGroupMeta):Prop:=∀g,g∈G→g.2.1.length<k∧g.2.1.length<4294967296∧∀c,c∈g.2.1→c.2.2.2.2.2.1.length<k∧c.2.2.2.2.2.1.length<4294967296
section
variable (k:Nat) (hk:2000≤k) (s:List TCol) (hok:spec_SchemaOk k s=some true) (hok2:impl_SchemaOk k s=some true) (hs:s.length≤1000)
include hk hok hok2 hs
theorem chunks_loop (m:TMeta) (g:TGroupMeta) (L6:Int→Int→TMeta→List Int→Option Bool) (L5:Int→List TGroupMeta→Int→Int→TMeta→Option Bool) (hfit:g.2.1.length<4294967296∧∀c,c∈g.2.1→c.2.2.2.2.2.1.length<k∧c.2.2.2.2.2.1.length<4294967296)
 (t4 t5:Int) (o101:List Int) (t3:Int) (t19:List TGroupMeta) (t20 t21:Int) (x y:Bool) (h6:L6 t4 (IntKind.wrap .i64 (t5+1)) m o101=some x) (h5:L5 (IntKind.wrap .i64 (t3+g.1)) t19 t20 (IntKind.wrap .i64 (t21+1)) m=some y):
 ∀(post pre:List TChunk) (f f':Nat),g.2.1=pre++post→post.length<f→post.length<f'→
 ∃b,spec_MetaOk.l13 k L6 f t4 t5 (pre.length:Int) m o101 g=some (b&&x)∧impl_MetaOk.l10 k L5 f' t3 t19 t20 t21 g.2.1 (g.2.1.length:Int) (pre.length:Int) m g=some (b&&y)∧(b=true→∀c,c∈post→-1≤c.2.2.1):=by
 intro post
 induction post with
 |nil=>
  intro pre f f' h hf hf'
  obtain ⟨f,rfl⟩:∃q,f=q+1:=⟨f-1,by omega⟩
  obtain ⟨f',rfl⟩:∃q,f'=q+1:=⟨f'-1,by omega⟩
  have hlen:g.2.1.length=pre.length:=by rw [h];simp
  simp only [spec_MetaOk.l13,impl_MetaOk.l10,decide_eq_false (show ¬((pre.length:Int)<(g.2.1.length:Int)) by omega),cond_false,h6,h5]
  exact ⟨true,by simp,by simp,fun _ c hc=>by cases hc⟩
 |cons c post ih=>
  intro pre f f' h hf hf'
  simp only [List.length_cons] at hf hf'
  obtain ⟨f,rfl⟩:∃q,f=q+1:=⟨f-1,by omega⟩
  obtain ⟨f',rfl⟩:∃q,f'=q+1:=⟨f'-1,by omega⟩
  have hlen:g.2.1.length=pre.length+(post.length+1):=by rw [h];simp
  have hg:rdL g.2.1 (pre.length:Int)=some c:=by rw [h];exact getMid _ _ _
  have hi1:IntKind.wrap .i64 ((pre.length:Int)+1)=((pre.length+1:Nat):Int):=by rw [w64 (by omega) (by omega)];omega
  have hcm:c∈g.2.1:=by rw [h];simp
  obtain ⟨b,e1,e2,e3⟩:=chunk_eq k c (hfit.2 c hcm).1 (hfit.2 c hcm).2 (pre.length:Int)
  obtain ⟨b',i1,i2,i3⟩:=ih (pre++[c]) f f' (by rw [h];simp) (by omega) (by omega)
  rw [List.length_append,List.length_singleton] at i1 i2
  simp only [spec_MetaOk.l13,impl_MetaOk.l10,decide_eq_true (show (pre.length:Int)<(g.2.1.length:Int) by omega),cond_true,hg,Option.bind_some,e1,e2,hi1,i1,i2]
  cases b with
  |false=>exact ⟨false,rfl,rfl,fun h=>by cases h⟩
  |true=>
   refine ⟨b',rfl,rfl,fun hb c' hc'=> ?_⟩
   rcases List.mem_cons.1 hc' with rfl|hc'
   ·exact e3 rfl
   ·exact i3 hb c' hc'
theorem groups_loop (m:TMeta) (hm:m.1=s) (hfit:Fit k m.2.2.1) (hG:m.2.2.1.length≤40):∀(post pre:List TGroupMeta) (f f':Nat) (R:Int),m.2.2.1=pre++post→post.length<f→post.length<f'→0≤R→R≤200*pre.length→
 ∃b,spec_MetaOk.l6 k f R (pre.length:Int) m (leavesFrom 0 s)=some b∧impl_MetaOk.l5 k f' R m.2.2.1 (m.2.2.1.length:Int) (pre.length:Int) m=some (b&&decide (m.2.1≤200))∧(b=true→0≤m.2.1∧GoodGroups (leavesFrom 0 s).length post):=by
 obtain ⟨v1,v2⟩:=leaves_eq k hk s hs
 intro post
 induction post with
 |nil=>
  intro pre f f' R h hf hf' h0 hR
  obtain ⟨f,rfl⟩:∃q,f=q+1:=⟨f-1,by omega⟩
  obtain ⟨f',rfl⟩:∃q,f'=q+1:=⟨f'-1,by omega⟩
  have hlen:m.2.2.1.length=pre.length:=by rw [h];simp
  simp only [spec_MetaOk.l6,impl_MetaOk.l5,decide_eq_false (show ¬((pre.length:Int)<(m.2.2.1.length:Int)) by omega),cond_false,csf,Option.bind_some]
  refine ⟨_,rfl,?_,fun hb=>⟨?_,fun g hg=>by cases hg⟩⟩
  ·by_cases he:R=m.2.1
   ·rw [beqT he,he]
   ·rw [beqF he];rfl
  ·simp only [beq_iff_eq] at hb
   omega
 |cons g post ih=>
  intro pre f f' R h hf hf' h0 hR
  simp only [List.length_cons] at hf hf'
  obtain ⟨f,rfl⟩:∃q,f=q+1:=⟨f-1,by omega⟩
  obtain ⟨f',rfl⟩:∃q,f'=q+1:=⟨f'-1,by omega⟩
  have hlen:m.2.2.1.length=pre.length+(post.length+1):=by rw [h];simp
  have hg:rdL m.2.2.1 (pre.length:Int)=some g:=by rw [h];exact getMid _ _ _
  have hgm:g∈m.2.2.1:=by rw [h];simp
  have hi1:IntKind.wrap .i64 ((pre.length:Int)+1)=((pre.length+1:Nat):Int):=by rw [w64 (by omega) (by omega)];omega
  simp only [spec_MetaOk.l6,impl_MetaOk.l5,decide_eq_true (show (pre.length:Int)<(m.2.2.1.length:Int) by omega),cond_true,hg,Option.bind_some,l1In_eq,cst,impl_MetaOk.d7,within_eq,hm,v1]
  by_cases hr:1≤g.1∧g.1≤200
  ·have hw:(decide ((1:Int)≤g.1)&&decide (g.1≤200))=true:=by simp;omega
   have hR1:IntKind.wrap .i64 (R+g.1)=R+g.1:=w64 (by omega) (by omega)
   simp only [hw,Bool.not_true,Bool.false_or,cond_false,Option.bind_some]
   by_cases hn:g.2.1.length=(leavesFrom 0 s).length
   ·rw [bneF (show ((g.2.1.length:Int))=((leavesFrom 0 s).length:Int) by omega),cond_false,cond_false]
    obtain ⟨b',i1,i2,i3⟩:=ih (pre++[g]) f f' (R+g.1) (by rw [h];simp) (by omega) (by omega) (by omega) (by simp;omega)
    rw [List.length_append,List.length_singleton] at i1 i2
    obtain ⟨b,c1,c2,c3⟩:=chunks_loop k hk s hok hok2 hs m g (spec_MetaOk.l6 k f) (impl_MetaOk.l5 k f') (hfit g hgm).2 (IntKind.wrap .i64 (R+g.1)) (pre.length:Int) (leavesFrom 0 s) R m.2.2.1 (m.2.2.1.length:Int) (pre.length:Int) b' (b'&&decide (m.2.1≤200)) (by rw [hR1,hi1];exact i1) (by rw [hR1,hi1];exact i2) g.2.1 [] k k rfl (hfit g hgm).1 (hfit g hgm).1
    rw [List.length_nil,show ((0:Nat):Int)=0 from rfl] at c1 c2
    rw [c1,c2]
    refine ⟨_,rfl,by rw [Bool.and_assoc],fun hb=> ?_⟩
    simp only [Bool.and_eq_true] at hb
    obtain ⟨q1,q2⟩:=i3 hb.2
    refine ⟨q1,fun g' hg'=> ?_⟩
    rcases List.mem_cons.1 hg' with rfl|hg'
    ·exact ⟨hn,c3 hb.1⟩
    ·exact q2 g' hg'
   ·rw [bneT (show ¬((g.2.1.length:Int))=((leavesFrom 0 s).length:Int) by omega),cond_true,cond_true]
    exact ⟨false,rfl,rfl,fun h=>by cases h⟩
  ·have hw:(decide ((1:Int)≤g.1)&&decide (g.1≤200))=false:=by
    rw [Bool.eq_false_iff];intro q
    simp only [Bool.and_eq_true,decide_eq_true_eq] at q
    exact hr q
   simp only [hw,Bool.not_false,Bool.true_or,cond_true]
   exact ⟨false,rfl,rfl,fun h=>by cases h⟩
theorem metaOk_eq (rows:Int) (G:List TGroupMeta) (hfit:Fit k G):∃b,spec_MetaOk k (s,rows,G,())=some b∧impl_MetaOk k (s,rows,G,())=some b∧(b=true→G.length≤40∧0≤rows∧rows≤200∧GoodGroups (leavesFrom 0 s).length G):=by
 obtain ⟨v1,v2⟩:=leaves_eq k hk s hs
 unfold spec_MetaOk impl_MetaOk spec_SchemaLeaves
 simp only [hok,hok2,v2,Option.bind_some,Bool.not_true,cond_false,cst,Bool.false_or,l1In_eq]
 by_cases hG:G.length≤40
 ·rw [decide_eq_false (show ¬((G.length:Int)>40) by omega)]
  obtain ⟨b,e1,e2,e3⟩:=groups_loop k hk s hok hok2 hs (s,rows,G,()) rfl hfit hG G [] k k 0 rfl (by omega) (by omega) (by omega) (by simp)
  have e1:spec_MetaOk.l6 k k 0 0 (s,rows,G,()) (leavesFrom 0 s)=some b:=e1
  have e2:impl_MetaOk.l5 k k 0 G (G.length:Int) 0 (s,rows,G,())=some (b&&decide (rows≤200)):=e2
  simp only [Bool.false_or,cond_false,e2]
  by_cases hr:0≤rows∧rows≤200
  ·rw [show (decide ((0:Int)≤rows)&&decide (rows≤200))=true by simp;omega,decide_eq_true hr.2]
   simp only [Bool.not_true,cond_false,Bool.and_true,e1]
   exact ⟨b,rfl,rfl,fun h=>⟨hG,hr.1,hr.2,(e3 h).2⟩⟩
  ·rw [show (decide ((0:Int)≤rows)&&decide (rows≤200))=false by rw [Bool.eq_false_iff];intro q;simp only [Bool.and_eq_true,decide_eq_true_eq] at q;exact hr q]
   simp only [Bool.not_false,cond_true]
   refine ⟨false,rfl,?_,fun h=>by cases h⟩
   cases b with
   |false=>rfl
   |true=>
    have:=(e3 rfl).1
    have this:0≤rows:=this
    rw [decide_eq_false (show ¬rows≤200 by omega)];rfl
 ·rw [decide_eq_true (show ((G.length:Int)>40) by omega)]
  exact ⟨false,rfl,rfl,fun h=>by cases h⟩
end
end Go.Law
end
section
set_option linter.unusedVariables false
set_option linter.unusedSimpArgs false
set_option linter.unusedSectionVars false
namespace Go.Law
open Go.Am Go.Fn
def chsI (k:Nat) (l:List TNode) (s:List TCol) (strict:Bool):Nat→List Int→Bool
 |_,[]=>true
 |j,p::r=>chI k l s strict p j&&chsI k l s strict (j+1) r
def chsV (k:Nat) (l:List TNode):Nat→List Int→List TChunk
 |_,[]=>[]
 |j,p::r=>chV k l p j::chsV k l (j+1) r
theorem chsV_len (k:Nat) (l:List TNode):∀(r:List Int) (j:Nat),(chsV k l j r).length=r.length
 |[],_=>rfl
 |p::r,j=>by simp [chsV,chsV_len k l r (j+1)]
def grI (k:Nat) (l:List TNode) (s:List TCol) (a:Int):Bool:=(nV k l a 3).2&&(pV k l a 1 12).1&&(chsI k l s false 0 (pV k l a 1 12).2&&decide ((pV k l a 1 12).2.length≤20))
def grS (k:Nat) (l:List TNode) (s:List TCol) (a:Int):Bool:=(nV k l a 3).2&&(pV k l a 1 12).1&&(decide ((pV k l a 1 12).2.length=(leavesFrom 0 s).length)&&chsI k l s true 0 (pV k l a 1 12).2)
def grV (k:Nat) (l:List TNode) (a:Int):TGroupMeta:=((nV k l a 3).1,chsV k l 0 (pV k l a 1 12).2,())
abbrev noMeta:((Unit×Int×Unit×Unit)×Bool)×(List TCol)×(List TGroupMeta):=((((),0,(),()),false),([],[]))
section
variable (k:Nat) (hk:2000000≤k) {l:List TNode} {af:List Int} (h:TreeFacts l af)
variable (s:List TCol) (hn:∀c,c∈s→c.1.size<k∧c.1.size<1000000000∧I64 c.2.2.2.1) (hS:IsSchema s) (hok:spec_SchemaOk k s=some true) (hok2:impl_SchemaOk k s=some true)
include hk h hn hS hok hok2
theorem igroup_loop (o100 o101:Int×Unit×Unit) (ps:List Int) (hps:ps.length≤1500) (hm:∀p,p∈ps→0≤p∧p<(l.length:Int)) (o103:List TChunk):∀(post pre:List Int) (f:Nat) (b:Bool) (acc:List TChunk),ps=pre++post→post.length<f→acc.length≤pre.length→(b=false→pre.length≤20)→
 ∃acc',impl_metaReader_group.l4 k f (ps.length:Int) (pre.length:Int) (mR b) (tB l) af s o100 o101 ps o103 acc=some (o101,(mR (b|| !(chsI k l s false pre.length post&&decide (ps.length≤20))),tB l,af,s,acc'))∧((b|| !(chsI k l s false pre.length post&&decide (ps.length≤20)))=false→acc'=acc++chsV k l pre.length post):=by
 intro post
 induction post with
 |nil=>
  intro pre f b acc h' hf ha hb
  obtain ⟨f,rfl⟩:∃q,f=q+1:=⟨f-1,by omega⟩
  have hlen:ps.length=pre.length:=by rw [h'];simp
  simp only [impl_metaReader_group.l4,decide_eq_false (show ¬((pre.length:Int)<(ps.length:Int)) by omega),cond_false,impl_metaReader_group.c11,chsI,chsV,List.append_nil,Bool.true_and]
  cases b with
  |true=>exact ⟨_,rfl,fun h=>by cases h⟩
  |false=>
   have:=hb rfl
   rw [decide_eq_true (show ps.length≤20 by omega)]
   exact ⟨_,rfl,fun _=>rfl⟩
 |cons x post ih=>
  intro pre f b acc h' hf ha hb
  simp only [List.length_cons] at hf
  obtain ⟨f,rfl⟩:∃q,f=q+1:=⟨f-1,by omega⟩
  have hlen:ps.length=pre.length+(post.length+1):=by rw [h'];simp
  have hg:rdL ps (pre.length:Int)=some x:=by rw [h'];exact getMid _ _ _
  have hi1:IntKind.wrap .i64 ((pre.length:Int)+1)=((pre.length+1:Nat):Int):=by rw [w64 (by omega) (by omega)];omega
  obtain ⟨x0,x1⟩:=hm x (by rw [h'];simp)
  obtain ⟨a,rfl⟩:=Int.eq_ofNat_of_zero_le x0
  simp only [impl_metaReader_group.l4,decide_eq_true (show (pre.length:Int)<(ps.length:Int) by omega),cond_true,hg,Option.bind_some,cst,impl_metaReader_group.c11]
  cases b with
  |true=>
   simp only [Bool.true_or,cond_true]
   exact ⟨_,rfl,fun h=>by cases h⟩
  |false=>
   simp only [Bool.false_or]
   by_cases h20:20≤pre.length
   ·rw [decide_eq_true (show (pre.length:Int)≥20 by omega),cond_true,decide_eq_false (show ¬ps.length≤20 by omega),Bool.and_false]
    exact ⟨_,rfl,fun h=>by cases h⟩
   ·rw [decide_eq_false (show ¬(pre.length:Int)≥20 by omega),cond_false,ichunk k hk h s hn hS hok hok2 a (by omega) (pre.length:Int) false]
    simp only [Option.bind_some,hi1,Bool.false_or]
    rw [lim_ok (by simp;omega),cond_true]
    obtain ⟨acc',e1,e2⟩:=ih (pre++[(a:Int)]) f (!chI k l s false a pre.length) (acc++[chV k l a pre.length]) (by rw [h'];simp) (by omega) (by simp;omega) (fun _=>by simp;omega)
    rw [List.length_append,List.length_singleton] at e1 e2
    have hb':((!chI k l s false (a:Int) (pre.length:Int))|| !(chsI k l s false (pre.length+1) post&&decide (ps.length≤20)))= !(chsI k l s false pre.length ((a:Int)::post)&&decide (ps.length≤20)):=by
     simp only [chsI]
     cases chI k l s false (a:Int) (pre.length:Int)<;>rfl
    rw [hb'] at e1 e2
    refine ⟨acc',e1,fun hh=> ?_⟩
    rw [e2 hh]
    simp [chsV]
theorem igroup (a:Nat) (ha:a<l.length) (b:Bool):∃C,impl_metaReader_group k (a:Int) (mR b) (tB l) af s=some (((nV k l a 3).1,(),()),(mR (b|| !grI k l s a),tB l,af,s,C))∧((b|| !grI k l s a)=false→C=chsV k l 0 (pV k l a 1 12).2):=by
 have hk2:2000≤k:=by omega
 obtain ⟨_,_,m1,m2⟩:=parts_val k hk2 h a ha 1 12
 unfold impl_metaReader_group
 simp only [mnum k hk2 h a ha,mlist k hk2 h a ha,Option.bind_some]
 obtain ⟨C,e1,e2⟩:=igroup_loop k hk h s hn hS hok hok2 (0,(),()) ((nV k l a 3).1,(),()) (pV k l a 1 12).2 m1 m2 [] (pV k l a 1 12).2 [] k (b|| !(nV k l a 3).2|| !(pV k l a 1 12).1) [] rfl (by omega) (by simp) (fun _=>by simp)
 rw [List.length_nil,show ((0:Nat):Int)=0 from rfl] at e1
 rw [List.length_nil] at e2
 have hb:(b|| !(nV k l a 3).2|| !(pV k l a 1 12).1|| !(chsI k l s false 0 (pV k l a 1 12).2&&decide ((pV k l a 1 12).2.length≤20)))=(b|| !grI k l s a):=by
  unfold grI
  cases b<;>cases (nV k l a 3).2<;>cases (pV k l a 1 12).1<;>rfl
 rw [hb] at e1 e2
 exact ⟨C,e1,fun hh=>by rw [e2 hh];rfl⟩
theorem igroups_loop (o100 o101:Unit×Int×Unit×Unit) (gs:List Int) (hgs:gs.length≤1500) (hm:∀p,p∈gs→0≤p∧p<(l.length:Int)) (o104:List TCol) (o105:List TGroupMeta):∀(post pre:List Int) (f:Nat) (b:Bool) (G:List TGroupMeta),gs=pre++post→post.length<f→G.length≤pre.length→
 impl_MetaFrom.l11 k f (gs.length:Int) (pre.length:Int) o100 o101 (mR b) gs o104 o105 s G (tB l) af=if (b|| !post.all (grI k l s))=true then some noMeta else (impl_MetaOk k (s,o101.2.1,G++post.map (grV k l),())).bind fun r=>cond (!r) (some noMeta) (some ((o101,true),(s,G++post.map (grV k l)))):=by
 have bad:∀(post pre:List Int) (f:Nat) (G:List TGroupMeta),gs=pre++post→post.length<f→G.length≤pre.length→impl_MetaFrom.l11 k f (gs.length:Int) (pre.length:Int) o100 o101 (mR true) gs o104 o105 s G (tB l) af=some noMeta:=by
  intro post
  induction post with
  |nil=>
   intro pre f G h' hf hG
   obtain ⟨f,rfl⟩:∃q,f=q+1:=⟨f-1,by omega⟩
   have hlen:gs.length=pre.length:=by rw [h'];simp
   simp only [impl_MetaFrom.l11,decide_eq_false (show ¬((pre.length:Int)<(gs.length:Int)) by omega),cond_false,cond_true,Option.bind_some]
  |cons x post ih=>
   intro pre f G h' hf hG
   simp only [List.length_cons] at hf
   obtain ⟨f,rfl⟩:∃q,f=q+1:=⟨f-1,by omega⟩
   have hlen:gs.length=pre.length+(post.length+1):=by rw [h'];simp
   have hg:rdL gs (pre.length:Int)=some x:=by rw [h'];exact getMid _ _ _
   have hi1:IntKind.wrap .i64 ((pre.length:Int)+1)=((pre.length+1:Nat):Int):=by rw [w64 (by omega) (by omega)];omega
   obtain ⟨x0,x1⟩:=hm x (by rw [h'];simp)
   obtain ⟨a,rfl⟩:=Int.eq_ofNat_of_zero_le x0
   obtain ⟨C,e1,_⟩:=igroup k hk h s hn hS hok hok2 a (by omega) true
   simp only [impl_MetaFrom.l11,decide_eq_true (show (pre.length:Int)<(gs.length:Int) by omega),cond_true,hg,Option.bind_some,e1,hi1,Bool.true_or]
   rw [lim_ok (by simp;omega),cond_true]
   have:=ih (pre++[(a:Int)]) f (G++[((nV k l a 3).1,C,())]) (by rw [h'];simp) (by omega) (by simp;omega)
   rw [List.length_append,List.length_singleton] at this
   exact this
 intro post
 induction post with
 |nil=>
  intro pre f b G h' hf hG
  cases b with
  |true=>rw [bad [] pre f G h' hf hG];rfl
  |false=>
   obtain ⟨f,rfl⟩:∃q,f=q+1:=⟨f-1,by omega⟩
   have hlen:gs.length=pre.length:=by rw [h'];simp
   simp only [impl_MetaFrom.l11,decide_eq_false (show ¬((pre.length:Int)<(gs.length:Int)) by omega),cond_false,List.all_nil,Bool.not_true,Bool.or_self,Bool.false_eq_true,if_false,List.map_nil,List.append_nil]
   cases impl_MetaOk k (s,o101.2.1,G,()) with
   |none=>rfl
   |some r=>rfl
 |cons x post ih=>
  intro pre f b G h' hf hG
  cases b with
  |true=>rw [bad (x::post) pre f G h' hf hG];rfl
  |false=>
   simp only [List.length_cons] at hf
   obtain ⟨f,rfl⟩:∃q,f=q+1:=⟨f-1,by omega⟩
   have hlen:gs.length=pre.length+(post.length+1):=by rw [h'];simp
   have hg:rdL gs (pre.length:Int)=some x:=by rw [h'];exact getMid _ _ _
   have hi1:IntKind.wrap .i64 ((pre.length:Int)+1)=((pre.length+1:Nat):Int):=by rw [w64 (by omega) (by omega)];omega
   obtain ⟨x0,x1⟩:=hm x (by rw [h'];simp)
   obtain ⟨a,rfl⟩:=Int.eq_ofNat_of_zero_le x0
   obtain ⟨C,e1,e2⟩:=igroup k hk h s hn hS hok hok2 a (by omega) false
   simp only [impl_MetaFrom.l11,decide_eq_true (show (pre.length:Int)<(gs.length:Int) by omega),cond_true,hg,Option.bind_some,e1,hi1,Bool.false_or]
   rw [lim_ok (by simp;omega),cond_true]
   have:=ih (pre++[(a:Int)]) f (!grI k l s a) (G++[((nV k l a 3).1,C,())]) (by rw [h'];simp) (by omega) (by simp;omega)
   rw [List.length_append,List.length_singleton] at this
   rw [this]
   simp only [List.all_cons,List.map_cons]
   cases hgr:grI k l s (a:Int) with
   |false=>rfl
   |true=>
    have hC:=e2 (by rw [hgr];rfl)
    subst hC
    simp only [Bool.not_true,Bool.false_or,Bool.true_and,List.append_assoc,List.singleton_append]
    rfl
theorem sgroup_loop (L11:(List TNode)→Int→(Unit×Int×Unit×Unit)→(Unit×Int×Unit×Unit)→(List TCol)→(List Int)→(Unit×Int×Unit×Unit)→(List TCol)→(List TGroupMeta)→(List TCol)→(List TGroupMeta)→(List TGroupMeta)→Option (((Unit×Int×Unit×Unit)×Bool)×(List TCol)×(List TGroupMeta)))
 (t12:Int) (o100:Unit×Int×Unit×Unit) (gs:List Int) (o104:Unit×Int×Unit×Unit) (ps:List Int) (hps:ps.length=(leavesFrom 0 s).length) (hps2:ps.length≤1500) (hm:∀p,p∈ps→0≤p∧p<(l.length:Int)) (rows:Int) (o107:List TCol) (o108:List TGroupMeta) (G:List TGroupMeta) (hG:G.length≤10000):
 ∀(post pre:List Int) (f:Nat) (acc:List TChunk),ps=pre++post→post.length<f→acc.length≤pre.length→
 spec_MetaFrom.l19 k L11 f l t12 (pre.length:Int) o100 ((),0,(),()) s gs o104 ps (rows,(),()) o107 o108 [] [] G acc=if chsI k l s true pre.length post=true then L11 l (IntKind.wrap .i64 (t12+1)) o100 ((),0,(),()) s gs o104 o107 o108 [] [] (G++[(rows,acc++chsV k l pre.length post,())]) else some noMeta:=by
 intro post
 induction post with
 |nil=>
  intro pre f acc h' hf ha
  obtain ⟨f,rfl⟩:∃q,f=q+1:=⟨f-1,by omega⟩
  have hlen:ps.length=pre.length:=by rw [h'];simp
  simp only [spec_MetaFrom.l19,decide_eq_false (show ¬((pre.length:Int)<(ps.length:Int)) by omega),cond_false,chsI,chsV,List.append_nil,if_true]
  rw [lim_ok (by simp;omega),cond_true]
 |cons x post ih=>
  intro pre f acc h' hf ha
  simp only [List.length_cons] at hf
  obtain ⟨f,rfl⟩:∃q,f=q+1:=⟨f-1,by omega⟩
  have hlen:ps.length=pre.length+(post.length+1):=by rw [h'];simp
  have hg:rdL ps (pre.length:Int)=some x:=by rw [h'];exact getMid _ _ _
  have hi1:IntKind.wrap .i64 ((pre.length:Int)+1)=((pre.length+1:Nat):Int):=by rw [w64 (by omega) (by omega)];omega
  obtain ⟨x0,x1⟩:=hm x (by rw [h'];simp)
  obtain ⟨a,rfl⟩:=Int.eq_ofNat_of_zero_le x0
  obtain ⟨hd,E,e1,e2⟩:=schunk k hk h s hn hS hok hok2 a (by omega) pre.length (by omega)
  simp only [spec_MetaFrom.l19,decide_eq_true (show (pre.length:Int)<(ps.length:Int) by omega),cond_true,hg,Option.bind_some,e1,hi1,chsI]
  by_cases hc:chI k l s true (a:Int) (pre.length:Int)=true
  ·obtain ⟨rfl,rfl⟩:=e2 hc
   simp only [hc,Bool.not_true,cond_false,Bool.true_and]
   rw [lim_ok (by simp;omega),cond_true]
   have:=ih (pre++[(a:Int)]) f (acc++[chV k l a pre.length]) (by rw [h'];simp) (by omega) (by simp;omega)
   rw [List.length_append,List.length_singleton] at this
   refine this.trans ?_
   simp only [chsV,List.append_assoc,List.singleton_append]
  ·have hc:=Bool.eq_false_iff.2 hc
   simp only [hc,Bool.not_false,cond_true,Bool.false_and,Bool.false_eq_true,if_false]
theorem sgroups_loop (o100:Unit×Int×Unit×Unit) (gs:List Int) (hgs:gs.length≤1500) (hm:∀p,p∈gs→0≤p∧p<(l.length:Int)) (o104:Unit×Int×Unit×Unit) (o105:List TCol) (o106:List TGroupMeta):∀(post pre:List Int) (f:Nat) (G:List TGroupMeta),gs=pre++post→post.length<f→G.length≤pre.length→
 spec_MetaFrom.l11 k f l (pre.length:Int) o100 ((),0,(),()) s gs o104 o105 o106 [] [] G=if post.all (grS k l s)=true then (spec_MetaOk k (s,o104.2.1,G++post.map (grV k l),())).bind fun r=>cond (!r) (some noMeta) (some ((o104,true),(s,G++post.map (grV k l)))) else some noMeta:=by
 have hk2:2000≤k:=by omega
 obtain ⟨_,v2⟩:=leaves_eq k hk2 s (by have:=hS.2.1;omega)
 intro post
 induction post with
 |nil=>
  intro pre f G h' hf hG
  obtain ⟨f,rfl⟩:∃q,f=q+1:=⟨f-1,by omega⟩
  have hlen:gs.length=pre.length:=by rw [h'];simp
  simp only [spec_MetaFrom.l11,decide_eq_false (show ¬((pre.length:Int)<(gs.length:Int)) by omega),cond_false,List.all_nil,if_true,List.map_nil,List.append_nil]
 |cons x post ih=>
  intro pre f G h' hf hG
  simp only [List.length_cons] at hf
  obtain ⟨f,rfl⟩:∃q,f=q+1:=⟨f-1,by omega⟩
  have hlen:gs.length=pre.length+(post.length+1):=by rw [h'];simp
  have hg:rdL gs (pre.length:Int)=some x:=by rw [h'];exact getMid _ _ _
  have hi1:IntKind.wrap .i64 ((pre.length:Int)+1)=((pre.length+1:Nat):Int):=by rw [w64 (by omega) (by omega)];omega
  obtain ⟨x0,x1⟩:=hm x (by rw [h'];simp)
  obtain ⟨a,rfl⟩:=Int.eq_ofNat_of_zero_le x0
  obtain ⟨n1,_⟩:=num_val k hk2 h a (by omega) 3
  obtain ⟨b1,_,m1,m2⟩:=parts_val k hk2 h a (by omega) 1 12
  simp only [spec_MetaFrom.l11,decide_eq_true (show (pre.length:Int)<(gs.length:Int) by omega),cond_true,hg,Option.bind_some,n1,b1,v2,cst]
  have hgr:grS k l s (a:Int)=((nV k l a 3).2&&(pV k l a 1 12).1&&(decide ((pV k l a 1 12).2.length=(leavesFrom 0 s).length)&&chsI k l s true 0 (pV k l a 1 12).2)):=rfl
  simp only [List.all_cons,hgr]
  cases (nV k l a 3).2 with
  |false=>rfl
  |true=>
   cases (pV k l a 1 12).1 with
   |false=>rfl
   |true=>
    simp only [Bool.not_true,Bool.or_self,cond_false,Bool.true_and]
    by_cases hl:(pV k l a 1 12).2.length=(leavesFrom 0 s).length
    ·rw [bneF (show ((pV k l a 1 12).2.length:Int)=((leavesFrom 0 s).length:Int) by omega),decide_eq_true hl]
     simp only [Option.bind_some,cond_false,Bool.true_and,Bool.false_or]
     have:=sgroup_loop k hk h s hn hS hok hok2 (spec_MetaFrom.l11 k f) (pre.length:Int) o100 gs o104 (pV k l a 1 12).2 hl m1 m2 (nV k l a 3).1 o105 o106 G (by omega) (pV k l a 1 12).2 [] k [] rfl (by omega) (by simp)
     rw [List.length_nil,show ((0:Nat):Int)=0 from rfl] at this
     rw [this]
     cases chsI k l s true 0 (pV k l a 1 12).2 with
     |false=>rfl
     |true=>
      rw [if_pos rfl,hi1]
      have:=ih (pre++[(a:Int)]) f (G++[grV k l a]) (by rw [h'];simp) (by omega) (by simp;omega)
      rw [List.length_append,List.length_singleton] at this
      refine this.trans ?_
      simp only [Bool.true_and,List.map_cons,List.append_assoc,List.singleton_append]
    ·rw [bneT (show ¬((pV k l a 1 12).2.length:Int)=((leavesFrom 0 s).length:Int) by omega),decide_eq_false hl]
     rfl
theorem chs_weak:∀(r:List Int) (j:Nat),chsI k l s true j r=true→chsI k l s false j r=true:=by
 intro r
 induction r with
 |nil=>intro j _;rfl
 |cons p r ih=>
  intro j hh
  simp only [chsI,Bool.and_eq_true] at hh⊢
  refine ⟨?_,ih _ hh.2⟩
  have h1:=hh.1
  unfold chI at h1⊢
  split at h1
  ·cases h1
  ·rename_i ho
   rw [if_neg ho]
   simp only [Bool.and_eq_true] at h1⊢
   refine ⟨h1.1,?_⟩
   have h2:=h1.2
   split at h2
   ·rename_i hf
    rw [if_pos hf]
   ·rename_i hf
    rw [if_neg hf]
    simp only [if_true,Bool.and_eq_true,decide_eq_true_eq] at h2
    simp only [Bool.false_eq_true,if_false,Bool.and_eq_true,bne_iff_ne,ne_eq]
    exact ⟨h2.1,by omega⟩
theorem chs_strong:∀(r:List Int) (j:Nat),chsI k l s false j r=true→(∀c,c∈chsV k l j r→-1≤c.2.2.1)→chsI k l s true j r=true:=by
 intro r
 induction r with
 |nil=>intro j _ _;rfl
 |cons p r ih=>
  intro j hh hc
  simp only [chsI,Bool.and_eq_true] at hh⊢
  refine ⟨?_,ih _ hh.2 (fun c hcm=>hc c (by simp [chsV,hcm]))⟩
  have h1:=hh.1
  have hd:=hc (chV k l p j) (by simp [chsV])
  unfold chI at h1⊢
  unfold chV at hd
  split at h1
  ·cases h1
  ·rename_i ho
   rw [if_neg ho] at hd⊢
   simp only [Bool.and_eq_true] at h1⊢
   refine ⟨h1.1,?_⟩
   have h2:=h1.2
   split at h2
   ·rename_i hf
    rw [if_pos hf]
   ·rename_i hf
    rw [if_neg hf]
    simp only [if_neg hf] at hd
    simp only [Bool.false_eq_true,if_false,Bool.and_eq_true,bne_iff_ne,ne_eq] at h2
    simp only [if_true,Bool.and_eq_true,decide_eq_true_eq]
    exact ⟨h2.1,by omega⟩
end
structure MetaGood (k:Nat) (s:List TCol) (rows:Int) (G:List TGroupMeta):Prop where
 sch:IsSchema s
 ok:spec_SchemaOk k s=some true
 ok2:impl_SchemaOk k s=some true
 hn:∀c,c∈s→c.1.size<k∧c.1.size<1000000000∧I64 c.2.2.2.1
 mok:spec_MetaOk k (s,rows,G,())=some true
theorem metaFrom_eq (k:Nat) (hk:2000000≤k) (l:List TNode) (hw:∀n,n∈l→WfN n) (hlen:l.length<4294967296):∃r,spec_MetaFrom k l=some r∧impl_MetaFrom k l=some r∧(r.1.2=false→r=noMeta)∧r.2.1.length≤20∧r.2.2.length≤40∧(∀g,g∈r.2.2→g.2.1.length≤1500∧∀c,c∈g.2.1→c.2.2.2.2.2.1.length≤1500)∧(r.1.2=true→MetaGood k r.2.1 r.1.1.2.1 r.2.2):=by
 have hk2:2000≤k:=by omega
 obtain ⟨b,h1,h2⟩:=treeOf_eq k hk2 l hw hlen
 unfold spec_MetaFrom impl_MetaFrom
 simp only [h1,Option.bind_some]
 rcases h2 with ⟨rfl,x,hx⟩|⟨rfl,hl,hl1,af,hx,hSb,_⟩
 ·simp only [hx,Option.bind_some,Bool.not_false,cond_true]
  exact ⟨_,rfl,rfl,fun _=>rfl,by simp,by simp,fun g hg=>(by cases hg),fun h=>(by cases h)⟩
 ·have h:TreeFacts l af:=⟨hl,hl1,hSb,hw⟩
  obtain ⟨c,s,g1,g2,g3,_⟩:=of_eq k hk2 h 0 hl1
  obtain ⟨n1,_⟩:=num_val k hk2 h 0 hl1 3
  obtain ⟨b1,_,m1,m2⟩:=parts_val k hk2 h 0 hl1 4 12
  have z:((0:Nat):Int)=0:=rfl
  rw [z] at g1 g2 n1 b1 m1 m2
  simp only [hx,Option.bind_some,Bool.not_true,cond_false,g1,g2,n1,b1,cst]
  cases c with
  |false=>
   simp only [Bool.not_false,cond_true,Bool.true_or]
   exact ⟨_,rfl,rfl,fun _=>rfl,by simp,by simp,fun g hg=>(by cases hg),fun h=>(by cases h)⟩
  |true=>
   obtain ⟨hS,ok1,ok2,hn⟩:=g3 rfl
   have hs20:=hS.2.1
   have mn:=mnum k hk2 h 0 hl1 3 false
   have ml:=mlist k hk2 h 0 hl1 4 12 (!(nV k l 0 3).2)
   rw [z] at mn ml
   rw [Bool.false_or] at mn
   have mn:impl_metaReader_number k 0 3 ((),false,()) (tB l) af=_:=mn
   simp only [Bool.not_true,cond_false,mn,ml,Option.bind_some,Bool.false_or]
   have hI:=igroups_loop k hk h s hn hS ok1 ok2 ((),0,(),()) ((),(nV k l 0 3).1,(),()) (pV k l 0 4 12).2 m1 m2 [] [] (pV k l 0 4 12).2 [] k (!(nV k l 0 3).2|| !(pV k l 0 4 12).1) [] rfl (by omega) (by simp)
   have hSp:=sgroups_loop k hk h s hn hS ok1 ok2 ((),0,(),()) (pV k l 0 4 12).2 m1 m2 ((),(nV k l 0 3).1,(),()) [] [] (pV k l 0 4 12).2 [] k [] rfl (by omega) (by simp)
   rw [List.length_nil,z] at hI hSp
   rw [hI,List.nil_append]
   have hfit1:∀g,g∈(pV k l 0 4 12).2.map (grV k l)→g.2.1.length≤1500∧∀c,c∈g.2.1→c.2.2.2.2.2.1.length≤1500:=by
    intro g hg
    obtain ⟨p,hp,rfl⟩:=List.mem_map.1 hg
    obtain ⟨p0,p1⟩:=m2 p hp
    obtain ⟨a,rfl⟩:=Int.eq_ofNat_of_zero_le p0
    obtain ⟨_,_,q1,q2⟩:=parts_val k hk2 h a (by omega) 1 12
    have hlen:(grV k l (a:Int)).2.1.length=(pV k l a 1 12).2.length:=chsV_len k l _ _
    refine ⟨by omega,?_⟩
    have key:∀(r:List Int) (j:Nat),(∀p,p∈r→0≤p∧p<(l.length:Int))→∀c,c∈chsV k l j r→c.2.2.2.2.2.1.length≤1500:=by
     intro r
     induction r with
     |nil=>intro j _ c hc;cases hc
     |cons p r ih=>
      intro j hr c hc
      simp only [chsV,List.mem_cons] at hc
      rcases hc with rfl|hc
      ·obtain ⟨p0,p1⟩:=hr p (by simp)
       obtain ⟨a,rfl⟩:=Int.eq_ofNat_of_zero_le p0
       unfold chV
       rcases own_eq k hk h a (by omega) with ⟨ho,_⟩|⟨q,ho,_,q2,_⟩
       ·rw [ho,if_pos (by omega)]
        simp
       ·rw [ho,if_neg (by omega)]
        obtain ⟨_,_,w1,_⟩:=parts_val k hk2 h q q2 2 5
        simp only [List.length_map]
        omega
      ·exact ih (j+1) (fun p hp=>hr p (by simp [hp])) c hc
    exact key _ 0 q2
   have hfit:Fit k ((pV k l 0 4 12).2.map (grV k l)):=fun g hg=>by
    obtain ⟨f1,f2⟩:=hfit1 g hg
    exact ⟨by omega,by omega,fun c hc=>by have:=f2 c hc;omega⟩
   obtain ⟨mb,o1,o2,o3⟩:=metaOk_eq k hk2 s ok1 ok2 (by omega) (nV k l 0 3).1 ((pV k l 0 4 12).2.map (grV k l)) hfit
   have hmI:impl_MetaOk k (s,(((),(nV k l 0 3).1,(),()):Unit×Int×Unit×Unit).2.1,(pV k l 0 4 12).2.map (grV k l),())=some mb:=o2
   rw [hmI]
   have same:(((pV k l 0 4 12).2.all (grI k l s))&&mb)=(((pV k l 0 4 12).2.all (grS k l s))&&mb):=by
    cases hmb:mb with
    |false=>simp
    |true=>
     obtain ⟨_,_,_,hGG⟩:=o3 hmb
     rw [Bool.and_true,Bool.and_true,Bool.eq_iff_iff,List.all_eq_true,List.all_eq_true]
     constructor
     ·intro hh p hp
      have hI:=hh p hp
      obtain ⟨q1,q2⟩:=hGG (grV k l p) (List.mem_map_of_mem hp)
      have q1:(chsV k l 0 (pV k l p 1 12).2).length=(leavesFrom 0 s).length:=q1
      rw [chsV_len] at q1
      unfold grI at hI
      unfold grS
      simp only [Bool.and_eq_true,decide_eq_true_eq] at hI⊢
      exact ⟨hI.1,q1,chs_strong k hk h s hn hS ok1 ok2 _ 0 hI.2.1 q2⟩
     ·intro hh p hp
      have hI:=hh p hp
      have hll:=leavesFrom_len 0 s
      unfold grS at hI
      unfold grI
      simp only [Bool.and_eq_true,decide_eq_true_eq] at hI⊢
      exact ⟨hI.1,chs_weak k hk h s hn hS ok1 ok2 _ 0 hI.2.2,by omega⟩
   cases hn3:(nV k l 0 3).2 with
   |false=>
    simp only [Bool.not_false,Bool.true_or,cond_true,if_true]
    exact ⟨_,rfl,rfl,fun _=>rfl,by simp,by simp,fun g hg=>(by cases hg),fun h=>(by cases h)⟩
   |true=>
    cases hp4:(pV k l 0 4 12).1 with
    |false=>
     simp only [Bool.not_true,Bool.not_false,Bool.or_true,Bool.true_or,cond_true,if_true]
     exact ⟨_,rfl,rfl,fun _=>rfl,by simp,by simp,fun g hg=>(by cases hg),fun h=>(by cases h)⟩
    |true=>
     have hmS:spec_MetaOk k (s,(((),(nV k l 0 3).1,(),()):Unit×Int×Unit×Unit).2.1,[]++(pV k l 0 4 12).2.map (grV k l),())=some mb:=o1
     simp only [Bool.not_true,Bool.or_self,cond_false,Bool.false_or]
     rw [hSp,hmS]
     simp only [Option.bind_some,List.nil_append]
     cases mb with
     |false=>
      simp only [Bool.not_false,cond_true,ite_self]
      exact ⟨_,rfl,rfl,fun _=>rfl,by simp,by simp,fun g hg=>(by cases hg),fun h=>(by cases h)⟩
     |true=>
      rw [Bool.and_true,Bool.and_true] at same
      rw [same]
      simp only [Bool.not_true,cond_false]
      cases (pV k l 0 4 12).2.all (grS k l s) with
      |false=>
       simp only [Bool.not_false,if_true,Bool.false_eq_true,if_false]
       exact ⟨_,rfl,rfl,fun _=>rfl,by simp,by simp,fun g hg=>(by cases hg),fun h=>(by cases h)⟩
      |true=>
       simp only [Bool.not_true,if_true,Bool.false_eq_true,if_false]
       exact ⟨_,rfl,rfl,(fun h=>by cases h),hs20,(o3 rfl).1,hfit1,fun _=>⟨hS,ok1,ok2,hn,o1⟩⟩
end Go.Law
end
section
set_option linter.unusedVariables false
set_option linter.unusedSimpArgs false
namespace Go.Law
open Go.Am Go.Fn
abbrev TFoot:=((Unit×Int×Unit×Unit)×Int×Bool)×(List TCol)×(List TGroupMeta)
abbrev noFoot:TFoot:=((((),0,(),()),0,false),([],[]))
def FootFit (cols:List TCol) (G:List TGroupMeta):Prop:=cols.length≤20∧G.length≤40∧∀g,g∈G→g.2.1.length≤1500∧∀c,c∈g.2.1→c.2.2.2.2.2.1.length≤1500
theorem noFit:FootFit [] []:=⟨by simp,by simp,fun g hg=>by cases hg⟩
theorem metaRead_eq (k:Nat) (hk:2000000≤k) (b:List Int) (hl:b.length<4611686018427387904) (hb:Byt b) (at_:Int):∃r:TFoot,spec_MetaRead k b at_=some r∧impl_MetaRead k b at_=some r∧FootFit r.2.1 r.2.2∧0≤r.1.2.1∧r.1.2.1≤b.length∧(r.1.2.2=true→MetaGood k r.2.1 r.1.1.2.1 r.2.2):=by
 have hr:=treeRead_eq k (by omega) b hl hb at_
 unfold spec_MetaRead impl_MetaRead
 cases h:trd b at_ with
 |bad c=>
  rw [h] at hr
  obtain ⟨hc,e1,e2⟩:=hr
  simp only [e1,e2,Option.bind_some,bneT hc,cond_true]
  exact ⟨noFoot,rfl,rfl,noFit,by decide,by simp,fun h=>(by cases h)⟩
 |ok q Y=>
  rw [h] at hr
  obtain ⟨e1,e2⟩:=hr
  have g:=trd_ok hl hb h
  obtain ⟨r,m1,m2,m3,m4,m5,m6,m7⟩:=metaFrom_eq k hk Y g.wf (by have:=g.len;omega)
  simp only [e1,e2,Option.bind_some,bneF rfl,cond_false,m1,m2]
  have:=g.rng
  cases hr1:r.1.2 with
  |false=>
   simp only [Bool.not_false,cond_true]
   exact ⟨noFoot,rfl,rfl,noFit,by decide,by simp,fun h=>(by cases h)⟩
  |true=>
   simp only [Bool.not_true,cond_false]
   exact ⟨_,rfl,rfl,⟨m4,m5,m6⟩,by simp,by simp;omega,fun _=>m7 hr1⟩
end Go.Law
end
section
set_option linter.unusedVariables false
set_option linter.unusedSimpArgs false
namespace Go.Law
open Go.Am Go.Fn
theorem fileMeta_eq (k:Nat) (hk:2000000≤k) (b:List Int) (hb:Byt b) (hl:b.length<4611686018427387904):∃r,spec_FileMeta k b=some r∧impl_FileMeta k b=some r∧FootFit r.2.1 r.2.2∧(r.1.2=0→MetaGood k r.2.1 r.1.1.2.1 r.2.2∧b.length≤60000):=by
 unfold spec_FileMeta impl_FileMeta
 simp only [l1In_eq,within_eq,Option.bind_some]
 by_cases hin:12≤b.length∧b.length≤60000
 ·rw [show (decide ((12:Int)≤(b.length:Int))&&decide ((b.length:Int)≤60000))=true by simp;omega]
  have e4:IntKind.wrap .i64 ((b.length:Int)-4)=((b.length-4:Nat):Int):=by rw [w64 (by omega) (by omega)];omega
  have e8:IntKind.wrap .i64 ((b.length:Int)-8)=((b.length-8:Nat):Int):=by rw [w64 (by omega) (by omega)];omega
  have e8':IntKind.wrap .i64 (((b.length-4:Nat):Int)-4)=((b.length-8:Nat):Int):=by rw [w64 (by omega) (by omega)];omega
  have e12:IntKind.wrap .i64 ((b.length:Int)-12)=((b.length-12:Nat):Int):=by rw [w64 (by omega) (by omega)];omega
  simp only [Bool.not_true,cond_false,e4,e8,e8',e12]
  rw [inSl_ok (by omega) (by omega) (by omega),cond_true,inSl_ok (by omega) (by omega) (by omega),cond_true]
  simp only [cst,Option.bind_some]
  cases (!eqS (intsStr (cutL b 0 4)) (⟨#[80,65,82,49]⟩:ByteArray)|| !eqS (intsStr (cutL b ((b.length-4:Nat):Int) (b.length:Int))) (⟨#[80,65,82,49]⟩:ByteArray)) with
  |true=>
   simp only [cond_true]
   exact ⟨_,rfl,rfl,noFit,fun h=>(by cases h)⟩
  |false=>
   obtain ⟨v,hv,w1,w2⟩:=word4 k (by omega) b (b.length-8) (by omega) hl hb
   simp only [cond_false,w1,w2,Option.bind_some]
   by_cases hs:(v:Int)>((b.length-12:Nat):Int)
   ·rw [decide_eq_true hs,cond_true,cond_true]
    exact ⟨_,rfl,rfl,noFit,fun h=>(by cases h)⟩
   ·have es:IntKind.wrap .i64 (((b.length-8:Nat):Int)-(v:Int))=((b.length-8-v:Nat):Int):=by rw [w64 (by omega) (by omega)];omega
    rw [decide_eq_false hs,cond_false,cond_false,es,inSl_ok (by omega) (by omega) (by omega),cond_true,cond_true]
    have hcb:Byt (cutL b ((b.length-8-v:Nat):Int) ((b.length-8:Nat):Int)):=fun x hx=>by
     unfold cutL at hx
     exact hb x (List.mem_of_mem_take (List.mem_of_mem_drop hx))
    have hcl:(cutL b ((b.length-8-v:Nat):Int) ((b.length-8:Nat):Int)).length<4611686018427387904:=by
     unfold cutL
     rw [List.length_drop,List.length_take]
     omega
    obtain ⟨r,m1,m2,m3,_,_,m4⟩:=metaRead_eq k hk _ hcl hcb 0
    simp only [m1,m2,Option.bind_some]
    cases hb2:(!r.1.2.2||(r.1.2.1 !=(v:Int))) with
    |true=>
     simp only [cond_true]
     exact ⟨_,rfl,rfl,noFit,fun h=>(by cases h)⟩
    |false=>
     simp only [cond_false]
     exact ⟨_,rfl,rfl,m3,fun _=>⟨m4 (by rw [Bool.or_eq_false_iff] at hb2;simpa using hb2.1),hin.2⟩⟩
 ·rw [show (decide ((12:Int)≤(b.length:Int))&&decide ((b.length:Int)≤60000))=false by rw [Bool.eq_false_iff];intro q;simp only [Bool.and_eq_true,decide_eq_true_eq] at q;omega]
  simp only [Bool.not_false,cond_true]
  exact ⟨_,rfl,rfl,noFit,fun h=>(by cases h)⟩
end Go.Law
end
section
set_option linter.unusedVariables false
set_option linter.unusedSimpArgs false
namespace Go.Law
open Go.Am Go.Fn
variable (k:Nat)
theorem w1 {x:Int} {c:Int} (h:I64 x) (hc:0≤c) (hb:x+c<9223372036854775808):IntKind.wrap .i64 (x+c)=x+c:=w64 (by have:=h.1;omega) hb
end Go.Law
end
section
set_option linter.unusedVariables false
set_option linter.unusedSimpArgs false
namespace Go.Law
open Go.Am Go.Fn
def okL {α:Type} (P:α→Prop) (l:List α):Prop:=l.length≤1048576∧∀x,x∈l→P x
theorem nat1 {α:Type} (pre:List α) (h:pre.length≤1048576):IntKind.wrap .i64 ((pre.length:Int)+1)=((pre.length+1:Nat):Int):=by rw [w64 (by omega) (by omega)];omega
theorem ltMid {α:Type} (pre post:List α) (x:α):decide ((pre.length:Int)<((pre++x::post).length:Int))=true:=decide_eq_true (by simp;omega)
theorem ltEnd {α:Type} (l:List α):decide ((l.length:Int)<(l.length:Int))=false:=decide_eq_false (by omega)
theorem xto_gen {α:Type} (F:Nat→List α→Int→List α→Option (Unit×List α)) (z:α) (P:α→Prop)
 (h0:∀n l o,F (n+1) l (l.length:Int) o=some ((),o))
 (h1:∀n pre x post o,P x→pre.length≤1048576→F (n+1) (pre++x::post) (pre.length:Int) (pre++z::o)=F n (pre++x::post) ((pre.length+1:Nat):Int) (pre++x::o)):
 ∀(post pre:List α) (n:Nat),post.length<n→pre.length+post.length≤1048576→(∀x,x∈post→P x)→F n (pre++post) (pre.length:Int) (pre++List.replicate post.length z)=some ((),pre++post):=by
 intro post
 induction post with
 |nil=>
  intro pre n hn hl hP
  obtain ⟨n,rfl⟩:∃j,n=j+1:=⟨n-1,by omega⟩
  simp only [List.append_nil,List.length_nil,List.replicate_zero]
  exact h0 n pre pre
 |cons x post ih=>
  intro pre n hn hl hP
  obtain ⟨n,rfl⟩:∃j,n=j+1:=⟨n-1,by omega⟩
  simp only [List.length_cons] at hn hl
  have:=ih (pre++[x]) n (by omega) (by simp;omega) (fun y hy=>hP y (List.mem_cons_of_mem _ hy))
  rw [List.length_cons,List.replicate_succ,h1 n pre x post _ (hP x (List.mem_cons_self ..)) (by omega)]
  rw [List.length_append,List.length_singleton,List.append_assoc,List.singleton_append,List.append_assoc,List.singleton_append] at this
  exact this
theorem xeq_gen {α:Type} (F:Nat→List α→List α→Int→Option Bool) (P:α→Prop)
 (h0:∀n l,F (n+1) l l (l.length:Int)=some true)
 (h1:∀n pre x post,P x→pre.length≤1048576→F (n+1) (pre++x::post) (pre++x::post) (pre.length:Int)=F n (pre++x::post) (pre++x::post) ((pre.length+1:Nat):Int)):
 ∀(post pre:List α) (n:Nat),post.length<n→pre.length+post.length≤1048576→(∀x,x∈post→P x)→F n (pre++post) (pre++post) (pre.length:Int)=some true:=by
 intro post
 induction post with
 |nil=>
  intro pre n hn hl hP
  obtain ⟨n,rfl⟩:∃j,n=j+1:=⟨n-1,by omega⟩
  simp only [List.append_nil]
  exact h0 n pre
 |cons x post ih=>
  intro pre n hn hl hP
  obtain ⟨n,rfl⟩:∃j,n=j+1:=⟨n-1,by omega⟩
  simp only [List.length_cons] at hn hl
  have:=ih (pre++[x]) n (by omega) (by simp;omega) (fun y hy=>hP y (List.mem_cons_of_mem _ hy))
  rw [h1 n pre x post (hP x (List.mem_cons_self ..)) (by omega)]
  rw [List.length_append,List.length_singleton,List.append_assoc,List.singleton_append] at this
  exact this
end Go.Law
end
section
set_option linter.unusedVariables false
set_option linter.unusedSimpArgs false
set_option maxRecDepth 4000
namespace Go.Law
open Go.Am Go.Fn
variable (k:Nat)
def okByte (x:Int):Prop:=0≤x∧x<256
theorem xtoByteS (hk:2000000≤k) (l:List Int) (hl:okL okByte l):laws_toByteS k l=some ((),l):=by
 unfold laws_toByteS
 have h:=hl.1
 rw [okLen_ok (by omega) (by omega),cond_true]
 refine xto_gen (laws_toByteS.l3 k) (0:Int) okByte ?_ ?_ l [] k (by omega) (by simpa using h) hl.2
 ·intro n l o
  simp only [laws_toByteS.l3,ltEnd,cond_false]
 ·intro n pre x post o hx hp
  simp only [laws_toByteS.l3,ltMid,cond_true,getMid,Option.bind_some,setMid,nat1 pre hp]
theorem xeqByteS (hk:2000000≤k) (l:List Int) (hl:okL okByte l):laws_eqByteS k l l=some true:=by
 unfold laws_eqByteS
 have h:=hl.1
 simp only [bneF rfl,cond_false]
 refine xeq_gen (laws_eqByteS.l4 k) okByte ?_ ?_ l [] k (by omega) (by simpa using h) hl.2
 ·intro n l
  simp only [laws_eqByteS.l4,ltEnd,cond_false]
 ·intro n pre x post hx hp
  simp only [laws_eqByteS.l4,ltMid,cond_true,getMid,Option.bind_some,bneF rfl,eqS_iff,decide_true,Bool.not_true,cond_false,nat1 pre hp]
end Go.Law
end
section
set_option linter.unusedVariables false
set_option linter.unusedSimpArgs false
namespace Go.Law
open Go.Am Go.Fn
theorem goodL {t:Ty} {e:TypeId} {P:t.Den→Prop} (hP:∀x,GoodP t x→P x) {l:List t.Den} (h:GoodP (.list e t) l):l.length≤9223372036854775807∧∀x,x∈l→P x:=
 ⟨Nat.le_trans h.1 (by decide),fun x hx=>hP x (h.2 x hx)⟩
end Go.Law
end
section
set_option linter.unusedVariables false
set_option linter.unusedSimpArgs false
namespace Go.Law
open Go.Am Go.Fn
theorem u8_lit {x:Int} (h:(Lit.int .u8 x).wf=true):0≤x∧x<256:=by
 simp only [Lit.wf,Bool.and_eq_true,decide_eq_true_eq] at h
 have h1:IntKind.min .u8=0:=by decide
 have h2:IntKind.max .u8=255:=by decide
 rw [h1,h2] at h
 exact ⟨by omega,by omega⟩
theorem goodB {b:List Int} (h:GoodP (.list 0 (.int .u8)) b):∀x,x∈b→0≤x∧x<256:=
 (goodL (t:= .int .u8) (P:=fun x=>0≤x∧x<256) (fun x hx=>u8_lit hx) h).2
end Go.Law
end
section
set_option linter.unusedVariables false
set_option linter.unusedSimpArgs false
set_option linter.unusedSectionVars false
namespace Go.Law
open Go.Am Go.Fn
section
variable (k:Nat) (hk:2000000≤k) (b:List Int) (hl:b.length≤1048576) (hb:Byt b)
variable (s:List TCol) (rows:Int) (G:List TGroupMeta) (hg:MetaGood k s rows G) (hf:FootFit s G)
include hk hl hb hg hf
theorem pagesOf_chunks (Li:(List Int)→Int→(List TGroupMeta)→Int→Int→(Unit×Int×(List TGroupMeta)×Unit)→(List TCol)→Option (Int×Int)) (Ls:(List Int)→Int→Int→(Unit×Int×Unit×Unit)→(List TCol)→(List TGroupMeta)→Option (Int×Int))
 (gi:Nat) (g:TGroupMeta) (hgi:G[gi]?=some g) (x:Unit×Int×(List TGroupMeta)×Unit) (y:Unit×Int×Unit×Unit) (gl:Int):∀(post pre:List TChunk) (n n':Nat) (t:Int),g.2.1=pre++post→post.length<n→post.length<n'→
 (impl_PagesOf.l9 k Li n b t G gl (gi:Int) g.2.1 (g.2.1.length:Int) (pre.length:Int) x s=some (0,4)∧spec_PagesOf.l9 k Ls n' b t (gi:Int) (pre.length:Int) y s G=some (0,4))∨
 ∃t',impl_PagesOf.l9 k Li n b t G gl (gi:Int) g.2.1 (g.2.1.length:Int) (pre.length:Int) x s=Li b t' G gl (IntKind.wrap .i64 ((gi:Int)+1)) x s∧spec_PagesOf.l9 k Ls n' b t (gi:Int) (pre.length:Int) y s G=Ls b t' (IntKind.wrap .i64 ((gi:Int)+1)) y s G:=by
 have hgl:=(hf.2.2 g (List.mem_of_getElem? hgi)).1
 intro post
 induction post with
 |nil=>
  intro pre n n' t h hn hn'
  obtain ⟨n,rfl⟩:∃q,n=q+1:=⟨n-1,by omega⟩
  obtain ⟨n',rfl⟩:∃q,n'=q+1:=⟨n'-1,by omega⟩
  rw [List.append_nil] at h
  right
  simp only [impl_PagesOf.l9,spec_PagesOf.l9,rdL_nat,hgi,Option.bind_some,h,decide_eq_false (show ¬((pre.length:Int)<(pre.length:Int)) by omega),cond_false]
  exact ⟨t,rfl,rfl⟩
 |cons ck post ih=>
  intro pre n n' t h hn hn'
  simp only [List.length_cons] at hn hn'
  obtain ⟨n,rfl⟩:∃q,n=q+1:=⟨n-1,by omega⟩
  obtain ⟨n',rfl⟩:∃q,n'=q+1:=⟨n'-1,by omega⟩
  have hlen:g.2.1.length=pre.length+(post.length+1):=by rw [h];simp
  have hgk:rdL g.2.1 (pre.length:Int)=some ck:=by rw [h];exact getMid _ _ _
  have hgg:rdL G (gi:Int)=some g:=by rw [rdL_nat];exact hgi
  have hi1:IntKind.wrap .i64 ((pre.length:Int)+1)=((pre.length+1:Nat):Int):=by rw [w64 (by omega) (by omega)];omega
  obtain ⟨l,bb,l1,l2,_⟩:=leafOf_eq k s hg.hn hk hg.sch hg.ok hg.ok2 (pre.length:Int)
  obtain ⟨c,P,V,p1,p2,_⟩:=chunkPages_eq k hk l ck b hl hb
  simp only [impl_PagesOf.l9,spec_PagesOf.l9,spec_PagesOf.d12,hgg,decide_eq_true (show (pre.length:Int)<(g.2.1.length:Int) by omega),cond_true,hgk,l1,l2,p1,p2,Option.bind_some,hi1]
  by_cases hc:c=0
  ·rw [bneF hc,cond_false,cond_false]
   have:=ih (pre++[ck]) n n' (IntKind.wrap .i64 (t+(P.length:Int))) (by rw [h];simp) (by omega) (by omega)
   rw [List.length_append,List.length_singleton] at this
   exact this
  ·rw [bneT hc,cond_true,cond_true]
   exact .inl ⟨rfl,rfl⟩
theorem pagesOf_groups (x:Unit×Int×(List TGroupMeta)×Unit) (y:Unit×Int×Unit×Unit):∀(m i n n':Nat) (t:Int),i+m=G.length→m<n→m<n'→
 ∃r,impl_PagesOf.l6 k n b t G (G.length:Int) (i:Int) x s=some r∧spec_PagesOf.l6 k n' b t (i:Int) y s G=some r:=by
 have hG:=hf.2.1
 intro m
 induction m with
 |zero=>
  intro i n n' t hi hn hn'
  obtain ⟨n,rfl⟩:∃q,n=q+1:=⟨n-1,by omega⟩
  obtain ⟨n',rfl⟩:∃q,n'=q+1:=⟨n'-1,by omega⟩
  simp only [impl_PagesOf.l6,spec_PagesOf.l6,decide_eq_false (show ¬((i:Int)<(G.length:Int)) by omega),cond_false]
  exact ⟨_,rfl,rfl⟩
 |succ m ih=>
  intro i n n' t hi hn hn'
  obtain ⟨n,rfl⟩:∃q,n=q+1:=⟨n-1,by omega⟩
  obtain ⟨n',rfl⟩:∃q,n'=q+1:=⟨n'-1,by omega⟩
  have hx:=List.getElem?_eq_getElem (show i<G.length by omega)
  generalize G[i]=g at hx
  have hgl:=(hf.2.2 g (List.mem_of_getElem? hx)).1
  have hi1:IntKind.wrap .i64 ((i:Int)+1)=((i+1:Nat):Int):=by rw [w64 (by omega) (by omega)];omega
  simp only [impl_PagesOf.l6,spec_PagesOf.l6,decide_eq_true (show (i:Int)<(G.length:Int) by omega),cond_true,rdL_nat,hx,Option.bind_some]
  rcases pagesOf_chunks k hk b hl hb s rows G hg hf (impl_PagesOf.l6 k n) (spec_PagesOf.l6 k n') i g hx x y (G.length:Int) g.2.1 [] k k t rfl (by omega) (by omega) with ⟨a1,a2⟩|⟨t',a1,a2⟩
  ·exact ⟨_,a1,a2⟩
  ·rw [hi1] at a1 a2
   obtain ⟨r,r1,r2⟩:=ih (i+1) n n' t' (by omega) (by omega) (by omega)
   exact ⟨r,a1.trans r1,a2.trans r2⟩
end
theorem pagesOf_eq (k:Nat) (hk:2000000≤k) (b:List Int) (hl:b.length≤1048576) (hb:Byt b):∃r,impl_PagesOf k b=some r∧spec_PagesOf k b=some r:=by
 obtain ⟨⟨⟨⟨⟨⟩,rows,⟨⟩,⟨⟩⟩,code⟩,s,G⟩,e1,e2,e3,e4⟩:=fileMeta_eq k hk b hb (by omega)
 unfold impl_PagesOf spec_PagesOf
 simp only [e1,e2,Option.bind_some]
 by_cases hc:code=0
 ·obtain ⟨m1,m2⟩:=e4 hc
  rw [bneF hc,cond_false,cond_false]
  have e3:FootFit s G:=e3
  have hG:=e3.2.1
  exact pagesOf_groups k hk b hl hb s rows G m1 e3 _ _ G.length 0 k k 0 (by omega) (by omega) (by omega)
 ·rw [bneT hc,cond_true,cond_true]
  exact ⟨_,rfl,rfl⟩
theorem fnExactPagesOf (b:List Int) (h:GoodP (.list 0 (.int .u8)) b):∃k,laws_FnExactPagesOf k b=some true:=by
 have g:=goodB h
 clear h
 refine ⟨3000000,?_⟩
 generalize hk:3000000=k
 have hk':2000000≤k:=by omega
 clear hk
 unfold laws_FnExactPagesOf
 by_cases c1:(b.length:Int)>1048576
 ·rw [decide_eq_true c1];rfl
 ·have ob:okL okByte b:=⟨by omega,g⟩
  obtain ⟨r,e1,e2⟩:=pagesOf_eq k hk' b (by omega) g
  rw [decide_eq_false c1]
  simp only [cond_false,xtoByteS k hk' b ob,Option.bind_some,e1,e2,xeqByteS k hk' b ob,Bool.not_true,cst,Bool.or_self,bneF rfl]
end Go.Law
end
