/- plain laws of the claim's functions -/
import Derived.Test.YtohaijhiclmkkaaGreatLawECR1
import Derived.Test.YtohaijhiclmkkaaGreatLawECR0
import Derived.Test.YtohaijhiclmkkaaGreatECRF0
import Derived.Test.YtohaijhiclmkkaaGreatAmRow
set_option linter.unnecessarySimpa false
set_option linter.unusedSimpArgs false
set_option linter.unusedVariables false
set_option linter.unusedSectionVars false
section
set_option linter.unusedVariables false
set_option linter.unusedSimpArgs false
namespace Go.Law
open Go.Am Go.Fn
variable (k:Nat)
abbrev VR:=(Unit×Int×Bool)×List TVal
theorem len_loop (b:List Int) (hb:b.length≤1048576) (ns:List Int) (hns:ns.length≤2000) (hI:∀y,y∈ns→I64 y):∀(post pre:List Int) (n n' p:Nat) (o:List TVal),ns=pre++post→post.length<n→post.length<n'→p≤b.length→o.length=pre.length→(∀v,v∈o→v.1=0∧v.2.1.size≤40)→
 ∃nx ok l,impl_LengthRead.l6 k n b (p:Int) (ns.length:Int) (pre.length:Int) o ns=some (((),nx,ok),l)∧spec_LengthRead.l7 k n' b (p:Int) (pre.length:Int) [] ns o=some (((),nx,ok),l)∧
  (ok=false→nx=0∧l=[])∧(ok=true→(p:Int)≤nx∧nx≤(b.length:Int)∧l.length=ns.length∧∀v,v∈l→v.1=0∧v.2.1.size≤40):=by
 intro post
 induction post with
 |nil=>
  intro pre n n' p o hv hn hn' hp ho hO
  obtain ⟨n,rfl⟩:∃x,n=x+1:=⟨n-1,by omega⟩
  obtain ⟨n',rfl⟩:∃x,n'=x+1:=⟨n'-1,by omega⟩
  have:ns=pre:=by simpa using hv
  subst this
  simp only [impl_LengthRead.l6,spec_LengthRead.l7,decide_eq_false (show ¬(ns.length:Int)<(ns.length:Int) by omega),cond_false]
  exact ⟨_,_,_,rfl,rfl,nofun,fun _=>⟨by omega,by omega,ho,hO⟩⟩
 |cons y post ih=>
  intro pre n n' p o hv hn hn' hp ho hO
  simp only [List.length_cons] at hn hn'
  obtain ⟨n,rfl⟩:∃x,n=x+1:=⟨n-1,by omega⟩
  obtain ⟨n',rfl⟩:∃x,n'=x+1:=⟨n'-1,by omega⟩
  have hlen:ns.length=pre.length+(post.length+1):=by rw [hv];simp
  have hg:rdL ns (pre.length:Int)=some y:=by rw [hv];exact getMid pre post y
  have elen:IntKind.wrap .i64 ((b.length:Int)-(p:Int))=(b.length:Int)-(p:Int):=w64 (by omega) (by omega)
  simp only [impl_LengthRead.l6,spec_LengthRead.l7,decide_eq_true (show (pre.length:Int)<(ns.length:Int) by omega),cond_true,hg,Option.bind_some,within_eq,l1In_eq,cst,elen]
  by_cases hbad:(0≤y∧y≤40)∧y≤(b.length:Int)-(p:Int)
  ·obtain ⟨⟨y0,y1⟩,y2⟩:=hbad
   have e1:IntKind.wrap .i64 ((p:Int)+y)=(((p+y.toNat:Nat)):Int):=by rw [w64 (by omega) (by omega)];omega
   have hsl:inSl (p:Int) (((p+y.toNat:Nat)):Int) b.length=true:=inSl_ok (by omega) (by omega) (by omega)
   have hlim:∀x:Nat×ByteArray×Unit,lim (o.length+[x].length)=true:=fun x=>lim_ok (by simp;omega)
   simp only [decide_eq_true y0,decide_eq_true y1,Bool.and_self,Bool.not_true,decide_eq_false (show ¬y>(b.length:Int)-(p:Int) by omega),Bool.or_self,cond_false,e1,hsl,cond_true,hlim,w64 (x:=(pre.length:Int)+1) (by omega) (by omega)]
   have hsz:(intsStr (cutL b (p:Int) (((p+y.toNat:Nat)):Int))).size≤40:=by
    rw [intsStr_size];unfold cutL;rw [List.length_drop,List.length_take];omega
   obtain ⟨nx,ok,l,i1,i2,i3,i4⟩:=ih (pre++[y]) n n' (p+y.toNat) (o++[(0,intsStr (cutL b (p:Int) (((p+y.toNat:Nat)):Int)),())]) (by rw [hv];simp) (by omega) (by omega) (by omega) (by simp [ho]) (by
    intro v hv'
    rcases List.mem_append.1 hv' with hv'|hv'
    ·exact hO v hv'
    ·rw [List.mem_singleton.1 hv'];exact ⟨rfl,hsz⟩)
   rw [List.length_append,List.length_singleton] at i1 i2
   exact ⟨nx,ok,l,i1,i2,i3,fun hh=>by obtain ⟨x1,x2⟩:=i4 hh;exact ⟨by omega,x2⟩⟩
  ·have:(!(decide (0≤y)&&decide (y≤40))||decide (y>(b.length:Int)-(p:Int)))=true:=by
    by_cases a:0≤y<;>by_cases c:y≤40<;>by_cases d:y≤(b.length:Int)-(p:Int)<;>simp [a,c,d]
    ·exact (hbad ⟨⟨a,c⟩,d⟩).elim
    ·omega
   simp only [this,cond_true]
   exact ⟨_,_,_,rfl,rfl,fun _=>⟨rfl,rfl⟩,nofun⟩
theorem lengthRead_any (hk:3000≤k) (b:List Int) (hb:b.length≤1048576) (hby:Byts b) (at_:Int):
 ∃nx ok l,impl_LengthRead k b at_=some (((),nx,ok),l)∧spec_LengthRead k b at_=some (((),nx,ok),l)∧
  (ok=false→nx=0∧l=[])∧(ok=true→(0≤at_∧at_≤nx∧nx≤(b.length:Int))∧l.length≤2000∧∀v,v∈l→v.1=0∧v.2.1.size≤40):=by
 obtain ⟨nx,ok,r,e1,e2,e3,e4⟩:=deltaRead_any k hk b hb hby at_
 unfold impl_LengthRead spec_LengthRead
 simp only [e1,e2,Option.bind_some]
 cases ok with
 |false=>
  simp only [Bool.not_false,cond_true]
  exact ⟨_,_,_,rfl,rfl,fun _=>⟨rfl,rfl⟩,nofun⟩
 |true=>
  obtain ⟨⟨x1,x2,x3⟩,x4,x5⟩:=e4 rfl
  obtain ⟨p,rfl⟩:∃m:Nat,nx=m:=⟨nx.toNat,by omega⟩
  obtain ⟨nx',ok',l,i1,i2,i3,i4⟩:=len_loop k b hb r x4 x5 r [] k k p [] rfl (by omega) (by omega) (by omega) rfl (by simp)
  rw [List.length_nil,show ((0:Nat):Int)=0 from rfl] at i1 i2
  simp only [Bool.not_true,cond_false,i1,i2]
  refine ⟨_,_,_,rfl,rfl,i3,fun hh=> ?_⟩
  obtain ⟨y1,y2,y3,y4⟩:=i4 hh
  exact ⟨⟨x1,by omega,y2⟩,by omega,y4⟩
theorem front_loop (end_:Int) (ns:List Int) (hns:ns.length≤2000) (vs:List TVal) (hvs:vs.length=ns.length) (hI:∀y,y∈ns→I64 y) (hV:∀v,v∈vs→v.1=0∧v.2.1.size≤40):∀(post pre:List Int) (n n':Nat) (t:ByteArray) (o:List TVal),ns=pre++post→post.length<n→post.length<n'→t.size≤40→o.length=pre.length→
 ∃nx ok l,impl_FrontRead.l10 k n end_ t (ns.length:Int) (pre.length:Int) vs o ns=some (((),nx,ok),l)∧spec_FrontRead.l9 k n' end_ t (pre.length:Int) [] ns vs o=some (((),nx,ok),l)∧
  (ok=false→nx=0∧l=[])∧(ok=true→nx=end_∧l.length=ns.length):=by
 intro post
 induction post with
 |nil=>
  intro pre n n' t o hv hn hn' ht ho
  obtain ⟨n,rfl⟩:∃x,n=x+1:=⟨n-1,by omega⟩
  obtain ⟨n',rfl⟩:∃x,n'=x+1:=⟨n'-1,by omega⟩
  have:ns=pre:=by simpa using hv
  subst this
  simp only [impl_FrontRead.l10,spec_FrontRead.l9,decide_eq_false (show ¬(ns.length:Int)<(ns.length:Int) by omega),cond_false]
  exact ⟨_,_,_,rfl,rfl,nofun,fun _=>⟨rfl,ho⟩⟩
 |cons y post ih=>
  intro pre n n' t o hv hn hn' ht ho
  simp only [List.length_cons] at hn hn'
  obtain ⟨n,rfl⟩:∃x,n=x+1:=⟨n-1,by omega⟩
  obtain ⟨n',rfl⟩:∃x,n'=x+1:=⟨n'-1,by omega⟩
  have hlen:ns.length=pre.length+(post.length+1):=by rw [hv];simp
  have hg:rdL ns (pre.length:Int)=some y:=by rw [hv];exact getMid pre post y
  obtain ⟨v,hgv,hgv2⟩:=rdL_some (xs:=vs) (i:=(pre.length:Int)) (by omega) (by omega)
  obtain ⟨_,hvs40⟩:=hV v (List.mem_of_getElem? hgv2)
  have e3:IntKind.wrap .i64 ((pre.length:Int)+1)=(pre.length:Int)+1:=w64 (by omega) (by omega)
  simp only [impl_FrontRead.l10,spec_FrontRead.l9,decide_eq_true (show (pre.length:Int)<(ns.length:Int) by omega),cond_true,hg,hgv,Option.bind_some,within_eq,l1In_eq,cst,e3]
  by_cases hin:0≤y∧y≤(t.size:Int)
  ·obtain ⟨y0,y1⟩:=hin
   have hex:(ByteArray.extract t (Int.toNat 0) (Int.toNat y)).size=y.toNat:=by
    rw [ByteArray.size_extract];omega
   have hcat:((ByteArray.extract t (Int.toNat 0) (Int.toNat y))++v.2.1).size=y.toNat+v.2.1.size:=by rw [ByteArray.size_append,hex]
   have ew:IntKind.wrap .i64 (y+(v.2.1.size:Int))=((y.toNat+v.2.1.size:Nat):Int):=by rw [w64 (by omega) (by omega)];omega
   simp only [decide_eq_true y0,decide_eq_true y1,Bool.and_self,Bool.not_true,Bool.false_or,ew,cond_false,inSl_ok (show (0:Int)≤0 by decide) y0 y1,cond_true,hex,hcat,lim_ok (show y.toNat+v.2.1.size≤4294967296 by omega)]
   by_cases hbig:((y.toNat+v.2.1.size:Nat):Int)>40
   ·simp only [decide_eq_true hbig,cond_true]
    exact ⟨_,_,_,rfl,rfl,fun _=>⟨rfl,rfl⟩,nofun⟩
   ·have hlim:∀x:Nat×ByteArray×Unit,lim (o.length+[x].length)=true:=fun x=>lim_ok (by simp;omega)
    simp only [decide_eq_false hbig,cond_false,hlim,cond_true]
    have:=ih (pre++[y]) n n' ((ByteArray.extract t (Int.toNat 0) (Int.toNat y))++v.2.1) (o++[(0,(ByteArray.extract t (Int.toNat 0) (Int.toNat y))++v.2.1,())]) (by rw [hv];simp) (by omega) (by omega) (by rw [hcat];omega) (by simp [ho])
    rw [List.length_append,List.length_singleton] at this
    exact this
  ·have:(decide (0≤y)&&decide (y≤(t.size:Int)))=false:=by
    rw [Bool.eq_false_iff];intro h;simp only [Bool.and_eq_true,decide_eq_true_eq] at h;exact hin h
   simp only [this,Bool.not_false,Bool.true_or,cond_true]
   exact ⟨_,_,_,rfl,rfl,fun _=>⟨rfl,rfl⟩,nofun⟩
theorem frontRead_any (hk:3000≤k) (b:List Int) (hb:b.length≤1048576) (hby:Byts b) (at_:Int):
 ∃nx ok l,impl_FrontRead k b at_=some (((),nx,ok),l)∧spec_FrontRead k b at_=some (((),nx,ok),l)∧l.length≤2000:=by
 obtain ⟨nx,ok,r,e1,e2,e3,e4⟩:=deltaRead_any k hk b hb hby at_
 obtain ⟨nx2,ok2,l2,f1,f2,f3,f4⟩:=lengthRead_any k hk b hb hby nx
 unfold impl_FrontRead spec_FrontRead
 simp only [e1,e2,f1,f2,Option.bind_some,cst]
 cases ok with
 |false=>
  simp only [Bool.not_false,Bool.true_or,cond_true]
  exact ⟨_,_,_,rfl,rfl,by simp⟩
 |true=>
  obtain ⟨⟨x1,x2,x3⟩,x4,x5⟩:=e4 rfl
  simp only [Bool.not_true,cond_false,Bool.false_or]
  cases ok2 with
  |false=>
   simp only [Bool.not_false,Bool.true_or,cond_true]
   exact ⟨_,_,_,rfl,rfl,by simp⟩
  |true=>
   obtain ⟨_,y4,y5⟩:=f4 rfl
   simp only [Bool.not_true,Bool.false_or]
   by_cases hl:l2.length=r.length
   ·rw [bneF (show (l2.length:Int)=(r.length:Int) by omega),bneF (show (r.length:Int)=(l2.length:Int) by omega),cond_false,cond_false]
    obtain ⟨nx',ok',l,i1,i2,i3,i4⟩:=front_loop k nx2 r x4 l2 hl x5 y5 r [] k k ⟨#[]⟩ [] rfl (by omega) (by omega) (by decide) rfl
    rw [List.length_nil,show ((0:Nat):Int)=0 from rfl] at i1 i2
    refine ⟨_,_,_,i1,i2,?_⟩
    cases ok' with
    |false=>rw [(i3 rfl).2];simp
    |true=>rw [(i4 rfl).2];exact x4
   ·rw [bneT (show ¬(l2.length:Int)=(r.length:Int) by omega),bneT (show ¬(r.length:Int)=(l2.length:Int) by omega),cond_true,cond_true]
    exact ⟨_,_,_,rfl,rfl,by simp⟩
end Go.Law
end
section
set_option linter.unusedVariables false
set_option linter.unusedSimpArgs false
namespace Go.Law
open Go.Am Go.Fn
variable (k:Nat)
theorem split_inner (Li:(List Int)→Int→Int→Int→Int→Int→(List TVal)→Option VR) (Ls:(List Int)→Int→Int→Int→Int→(List TVal)→Option VR) (b:List Int) (hb:b.length≤1048576) (hby:Byts b) (p many wd i:Nat) (t43:Int) (hp:p+many*wd≤b.length) (hi:i<many) (hm:many≤2000) (hw:wd=4∨wd=8) (o:List TVal) (ho:o.length≤2000):
 ∀(m n n' j acc:Nat),j+m=wd→m<n→m<n'→acc<2^(8*j)→
 ∃x:Int,I64 x∧
  impl_SplitRead.l10 k Li n b (p:Int) (many:Int) (wd:Int) (i:Int) (IntKind.wrap .i64 (acc:Int)) t43 (i:Int) (wd:Int) (j:Int) o=Li b (p:Int) (many:Int) (wd:Int) t43 ((i:Int)+1) (o++[(x,⟨#[]⟩,())])∧
  spec_SplitRead.l10 k Ls n' b (p:Int) (many:Int) (wd:Int) (i:Int) (IntKind.wrap .i64 (acc:Int)) (j:Int) o=Ls b (p:Int) (many:Int) (wd:Int) ((i:Int)+1) (o++[(x,⟨#[]⟩,())]):=by
 intro m
 induction m with
 |zero=>
  intro n n' j acc hj hn hn' ha
  obtain ⟨n,rfl⟩:∃q,n=q+1:=⟨n-1,by omega⟩
  obtain ⟨n',rfl⟩:∃q,n'=q+1:=⟨n'-1,by omega⟩
  obtain rfl:j=wd:=by omega
  have hlim:∀x:TVal,lim (o.length+[x].length)=true:=fun x=>lim_ok (by simp;omega)
  have e3:IntKind.wrap .i64 ((i:Int)+1)=(i:Int)+1:=w64 (by omega) (by omega)
  simp only [impl_SplitRead.l10,spec_SplitRead.l10,decide_eq_false (show ¬(j:Int)<(j:Int) by omega),cond_false,impl_signed,spec_SplitRead.c15,e3]
  rcases hw with rfl|rfl
  ·have h32:acc<4294967296:=ha
   have ew:IntKind.wrap .i64 (acc:Int)=(acc:Int):=w64 (by omega) (by omega)
   have hp32:(2:Int)^32=4294967296:=by decide
   have h2:(acc:Int)%2^32=(acc:Int):=Int.emod_eq_of_lt (by omega) (by rw [hp32];omega)
   have hi32:IntKind.wrap .i32 (acc:Int)=if (acc:Int)>2147483647 then (acc:Int)-4294967296 else (acc:Int):=by
    simp only [IntKind.wrap,IntKind.bits,IntKind.signed,h2,Bool.true_and,decide_eq_true_eq]
    by_cases h:(acc:Int)>2147483647
    ·rw [if_pos h,if_pos (show (acc:Int)≥2^(32-1) by omega)];omega
    ·rw [if_neg h,if_neg (show ¬(acc:Int)≥2^(32-1) by omega)]
   rw [ew]
   simp only [show (((4:Nat):Int)==4)=true from rfl,cond_true,Option.bind_some,hi32]
   by_cases h:(acc:Int)>2147483647
   ·simp only [if_pos h,decide_eq_true h,cond_true,w64 (x:=(acc:Int)-4294967296) (by omega) (by omega),hlim]
    exact ⟨_,⟨by omega,by omega⟩,rfl,rfl⟩
   ·simp only [if_neg h,decide_eq_false h,cond_false,w64 (x:=(acc:Int)) (by omega) (by omega),hlim,cond_true]
    exact ⟨_,⟨by omega,by omega⟩,rfl,rfl⟩
  ·simp only [show (((8:Nat):Int)==4)=false from rfl,cond_false,Option.bind_some,hlim,cond_true]
   exact ⟨_,⟨w64_lo _,w64_hi _⟩,rfl,rfl⟩
 |succ m ih=>
  intro n n' j acc hj hn hn' ha
  obtain ⟨n,rfl⟩:∃q,n=q+1:=⟨n-1,by omega⟩
  obtain ⟨n',rfl⟩:∃q,n'=q+1:=⟨n'-1,by omega⟩
  have hjm:j*many+many≤many*wd:=by
   have:(j+1)*many≤wd*many:=Nat.mul_le_mul_right _ (by omega)
   rw [Nat.add_mul,Nat.one_mul,Nat.mul_comm wd] at this
   exact this
  have hjm2:j*many≤8*2000:=Nat.mul_le_mul (by omega) hm
  have hix:IntKind.wrap .i64 (IntKind.wrap .i64 ((p:Int)+IntKind.wrap .i64 ((j:Int)*(many:Int)))+(i:Int))=((p+j*many+i:Nat):Int):=by
   rw [show (j:Int)*(many:Int)=((j*many:Nat):Int) by simp,w64 (x:=((j*many:Nat):Int)) (by omega) (by omega),w64 (x:=(p:Int)+((j*many:Nat):Int)) (by omega) (by omega),w64 (by omega) (by omega)]
   omega
  obtain ⟨y,hy,hy2⟩:=rdL_some (xs:=b) (i:=((p+j*many+i:Nat):Int)) (by omega) (by omega)
  obtain ⟨y0,y1⟩:=hby y (List.mem_of_getElem? hy2)
  have e2:IntKind.wrap .i64 (8*(j:Int))=((8*j:Nat):Int):=by rw [w64 (by omega) (by omega)];omega
  have e3:IntKind.wrap .i64 ((j:Int)+1)=((j+1:Nat):Int):=by rw [w64 (by omega) (by omega)];omega
  have ec:IntKind.wrap .i64 y=((y.toNat:Nat):Int):=by rw [w64 (by omega) (by omega)];omega
  have hP8:2^(8*(j+1))=256*2^(8*j):=by rw [Nat.mul_add,Nat.pow_add];simp [Nat.mul_comm]
  have hle:2^(8*(j+1))≤2^64:=Nat.pow_le_pow_right (by omega) (by omega)
  have hlt:acc+y.toNat*2^(8*j)<2^(8*(j+1)):=by
   rw [hP8]
   have:y.toNat*2^(8*j)≤255*2^(8*j):=Nat.mul_le_mul_right _ (by omega)
   omega
  have eor:=or_shl .i64 (a:=acc) (b:=y.toNat) (i:=8*j) (show 8*j≤64 by omega) ha (by show _<2^64;omega)
  simp only [impl_SplitRead.l10,spec_SplitRead.l10,decide_eq_true (show (j:Int)<(wd:Int) by omega),cond_true,hix,hy,Option.bind_some,e2,decide_eq_true (show (0:Int)≤((8*j:Nat):Int) by omega),ec,eor,e3]
  exact ih n n' (j+1) _ (by omega) (by omega) (by omega) hlt
theorem split_loop (hk:3000≤k) (b:List Int) (hb:b.length≤1048576) (hby:Byts b) (p many wd:Nat) (hp:p+many*wd≤b.length) (hm:many≤2000) (hw:wd=4∨wd=8):∀(d n i:Nat) (o:List TVal),i+d=many→d<n→o.length=i→
 ∃l,impl_SplitRead.l6 k n b (p:Int) (many:Int) (wd:Int) (many:Int) (i:Int) o=some (((),((p+many*wd:Nat):Int),true),l)∧spec_SplitRead.l6 k n b (p:Int) (many:Int) (wd:Int) (i:Int) o=some (((),((p+many*wd:Nat):Int),true),l)∧l.length=many:=by
 have hmw:many*wd≤2000*8:=Nat.mul_le_mul hm (by omega)
 have e1:IntKind.wrap .i64 ((p:Int)+IntKind.wrap .i64 ((many:Int)*(wd:Int)))=((p+many*wd:Nat):Int):=by
  rw [show (many:Int)*(wd:Int)=((many*wd:Nat):Int) by simp,w64 (x:=((many*wd:Nat):Int)) (by omega) (by omega),w64 (by omega) (by omega)];omega
 have e2:IntKind.wrap .i64 ((p:Int)+IntKind.wrap .i64 ((wd:Int)*(many:Int)))=((p+many*wd:Nat):Int):=by
  rw [Int.mul_comm,e1]
 intro d
 induction d with
 |zero=>
  intro n i o hi hn ho
  obtain ⟨n,rfl⟩:∃x,n=x+1:=⟨n-1,by omega⟩
  obtain rfl:i=many:=by omega
  simp only [impl_SplitRead.l6,spec_SplitRead.l6,decide_eq_false (show ¬(i:Int)<(i:Int) by omega),cond_false,e1,e2]
  exact ⟨o,rfl,rfl,ho⟩
 |succ d ih=>
  intro n i o hi hn ho
  obtain ⟨n,rfl⟩:∃x,n=x+1:=⟨n-1,by omega⟩
  obtain ⟨x,_,i1,s1⟩:=split_inner k (impl_SplitRead.l6 k n) (spec_SplitRead.l6 k n) b hb hby p many wd i (many:Int) hp (by omega) hm hw o (by omega) wd k k 0 0 (by omega) (by omega) (by omega) (by simp)
  rw [show IntKind.wrap .i64 ((0:Nat):Int)=0 by decide,show ((0:Nat):Int)=0 from rfl] at i1 s1
  simp only [impl_SplitRead.l6,spec_SplitRead.l6,decide_eq_true (show (i:Int)<(many:Int) by omega),cond_true,i1,s1]
  have:=ih n (i+1) (o++[(x,⟨#[]⟩,())]) (by omega) (by omega) (by simp [ho])
  rw [show ((i+1:Nat):Int)=(i:Int)+1 by omega] at this
  exact this
theorem splitWide_eq (t:Int):∃wd:Int,impl_SplitWide k t=some wd∧spec_SplitWide k t=some wd∧impl_wideOf k t=some wd∧(wd=0∨wd=4∨wd=8):=by
 unfold impl_SplitWide spec_SplitWide spec_SplitWide.c6 impl_wideOf impl_wideOf.c6
 by_cases h1:t=1
 ·subst h1;exact ⟨4,rfl,rfl,rfl,by decide⟩
 by_cases h2:t=2
 ·subst h2;exact ⟨8,rfl,rfl,rfl,by decide⟩
 by_cases h5:t=5
 ·subst h5;exact ⟨8,rfl,rfl,rfl,by decide⟩
 ·simp only [beqF h1,beqF h2,beqF h5,cond_false,Option.bind_some]
  exact ⟨0,rfl,rfl,rfl,by decide⟩
theorem splitRead_any (hk:3000≤k) (t:Int) (b:List Int) (hb:b.length≤1048576) (hby:Byts b) (at_ many:Int):
 ∃nx ok l,impl_SplitRead k t b at_ many=some (((),nx,ok),l)∧spec_SplitRead k t b at_ many=some (((),nx,ok),l)∧l.length≤2000:=by
 obtain ⟨wd,w1,w2,_,w3⟩:=splitWide_eq k t
 unfold impl_SplitRead spec_SplitRead
 simp only [w1,w2,Option.bind_some,within_eq,l1In_eq,cst]
 by_cases hc:wd≠0∧(0≤many∧many≤2000)∧(0≤at_∧at_≤(b.length:Int))
 ·obtain ⟨c1,⟨m0,m1⟩,a0,a1⟩:=hc
  obtain ⟨wd,rfl⟩:∃m:Nat,wd=m:=⟨wd.toNat,by omega⟩
  obtain ⟨many,rfl⟩:∃m:Nat,many=m:=⟨many.toNat,by omega⟩
  obtain ⟨p,rfl⟩:∃m:Nat,at_=m:=⟨at_.toNat,by omega⟩
  have hmw:many*wd≤2000*8:=Nat.mul_le_mul (by omega) (by omega)
  have e1:IntKind.wrap .i64 ((many:Int)*(wd:Int))=((many*wd:Nat):Int):=by
   rw [show (many:Int)*(wd:Int)=((many*wd:Nat):Int) by simp,w64 (by omega) (by omega)]
  have e2:IntKind.wrap .i64 ((wd:Int)*(many:Int))=((many*wd:Nat):Int):=by rw [Int.mul_comm,e1]
  have elen:IntKind.wrap .i64 ((b.length:Int)-(p:Int))=(b.length:Int)-p:=w64 (by omega) (by omega)
  simp only [beqF (show ¬(wd:Int)=0 from c1),decide_eq_true m0,decide_eq_true m1,decide_eq_true a0,decide_eq_true a1,Bool.and_self,Bool.not_true,Bool.or_self,Bool.false_or,e1,e2,elen]
  by_cases hfit:((many*wd:Nat):Int)≤(b.length:Int)-p
  ·simp only [decide_eq_false (show ¬((many*wd:Nat):Int)>(b.length:Int)-p by omega),decide_eq_false (show ¬(b.length:Int)-p<((many*wd:Nat):Int) by omega),cond_false]
   obtain ⟨l,l1,l2,l3⟩:=split_loop k hk b hb hby p many wd (by omega) (by omega) (by omega) many k 0 [] (by omega) (by omega) rfl
   exact ⟨_,_,_,l1,l2,by omega⟩
  ·simp only [decide_eq_true (show ((many*wd:Nat):Int)>(b.length:Int)-p by omega),decide_eq_true (show (b.length:Int)-p<((many*wd:Nat):Int) by omega),cond_true]
   exact ⟨_,_,_,rfl,rfl,by simp⟩
 ·have:((wd==0|| !(decide (0≤many)&&decide (many≤2000)))|| !(decide (0≤at_)&&decide (at_≤(b.length:Int))))=true:=by
   by_cases a:wd=0<;>by_cases b1:0≤many<;>by_cases c:many≤2000<;>by_cases d:0≤at_<;>by_cases e:at_≤(b.length:Int)<;>simp [a,b1,c,d,e]
   exact hc ⟨a,⟨b1,c⟩,d,e⟩
  simp only [this,Bool.true_or,cond_true]
  exact ⟨_,_,_,rfl,rfl,by simp⟩
theorem places_loop (ns:List Int) (hns:ns.length≤2000) (most nx:Int):∀(post pre:List Int) (n n':Nat),ns=pre++post→post.length<n→post.length<n'→
 ∃nx' ok l,impl_PlacesRead.l7 k n most nx (ns.length:Int) (pre.length:Int) ns=some (((),nx',ok),l)∧spec_PlacesRead.l8 k n' most nx (pre.length:Int) [] ns=some (((),nx',ok),l)∧l.length≤2000:=by
 intro post
 induction post with
 |nil=>
  intro pre n n' hv hn hn'
  obtain ⟨n,rfl⟩:∃x,n=x+1:=⟨n-1,by omega⟩
  obtain ⟨n',rfl⟩:∃x,n'=x+1:=⟨n'-1,by omega⟩
  have:ns=pre:=by simpa using hv
  subst this
  simp only [impl_PlacesRead.l7,spec_PlacesRead.l8,decide_eq_false (show ¬(ns.length:Int)<(ns.length:Int) by omega),cond_false]
  exact ⟨_,_,_,rfl,rfl,hns⟩
 |cons y post ih=>
  intro pre n n' hv hn hn'
  simp only [List.length_cons] at hn hn'
  obtain ⟨n,rfl⟩:∃x,n=x+1:=⟨n-1,by omega⟩
  obtain ⟨n',rfl⟩:∃x,n'=x+1:=⟨n'-1,by omega⟩
  have hlen:ns.length=pre.length+(post.length+1):=by rw [hv];simp
  have hg:rdL ns (pre.length:Int)=some y:=by rw [hv];exact getMid pre post y
  have e3:IntKind.wrap .i64 ((pre.length:Int)+1)=(pre.length:Int)+1:=w64 (by omega) (by omega)
  simp only [impl_PlacesRead.l7,spec_PlacesRead.l8,decide_eq_true (show (pre.length:Int)<(ns.length:Int) by omega),cond_true,hg,Option.bind_some,e3]
  cases decide (y≥most) with
  |true=>
   simp only [cond_true]
   exact ⟨_,_,_,rfl,rfl,by simp⟩
  |false=>
   simp only [cond_false]
   have:=ih (pre++[y]) n n' (by rw [hv];simp) (by omega) (by omega)
   rw [List.length_append,List.length_singleton] at this
   exact this
theorem placesRead_any (hk:2000000≤k) (b:List Int) (hb:b.length≤1048576) (hby:Byts b) (at_ many most:Int):
 ∃nx ok l,impl_PlacesRead k b at_ many most=some (((),nx,ok),l)∧spec_PlacesRead k b at_ many most=some (((),nx,ok),l)∧l.length≤2000:=by
 unfold impl_PlacesRead spec_PlacesRead
 have elen:IntKind.wrap .i64 ((b.length:Int)-1)=(b.length:Int)-1:=w64 (by omega) (by omega)
 simp only [within_eq,Option.bind_some,cst,elen]
 by_cases hin:0≤at_∧at_<(b.length:Int)
 ·obtain ⟨a0,a1⟩:=hin
  obtain ⟨y,hy,hy2⟩:=rdL_some (xs:=b) (i:=at_) a0 a1
  obtain ⟨y0,y1⟩:=hby y (List.mem_of_getElem? hy2)
  have ey:IntKind.wrap .i64 y=y:=w64 (by omega) (by omega)
  have ea:IntKind.wrap .i64 (at_+1)=at_+1:=w64 (by omega) (by omega)
  simp only [decide_eq_true a0,decide_eq_true (show at_≤(b.length:Int)-1 by omega),decide_eq_false (show ¬at_<0 by omega),decide_eq_false (show ¬at_≥(b.length:Int) by omega),Bool.and_self,Bool.not_true,Bool.or_self,cond_false,hy,Option.bind_some,ey,ea]
  obtain ⟨nx,ok,l,e1,e2,e3,e4⟩:=runRead_eq k hk b hb hby (at_+1) many y
  by_cases h24:y>24
  ·have hok:ok=false:=by
    cases ok with
    |false=>rfl
    |true=>obtain ⟨_,_,⟨_,h⟩,_⟩:=e4 rfl;omega
   subst hok
   simp only [decide_eq_true h24,cond_true,e1,Option.bind_some,Bool.not_false]
   exact ⟨_,_,_,rfl,rfl,by simp⟩
  ·simp only [decide_eq_false h24,cond_false,e1,e2,Option.bind_some]
   cases ok with
   |false=>
    simp only [Bool.not_false,cond_true]
    exact ⟨_,_,_,rfl,rfl,by simp⟩
   |true=>
    obtain ⟨_,⟨m0,m1⟩,_,hl,_⟩:=e4 rfl
    obtain ⟨nx',ok',l',p1,p2,p3⟩:=places_loop k l (by omega) most nx l [] k k rfl (by omega) (by omega)
    rw [List.length_nil,show ((0:Nat):Int)=0 from rfl] at p1 p2
    simp only [Bool.not_true,cond_false,p1,p2]
    exact ⟨_,_,_,rfl,rfl,p3⟩
 ·have h1:(decide (0≤at_)&&decide (at_≤(b.length:Int)-1))=false:=by
   rw [Bool.eq_false_iff];intro h;simp only [Bool.and_eq_true,decide_eq_true_eq] at h;omega
  have h2:(decide (at_<0)||decide (at_≥(b.length:Int)))=true:=by
   simp only [Bool.or_eq_true,decide_eq_true_eq];omega
  simp only [h1,h2,Bool.not_false,cond_true,Option.bind_some]
  exact ⟨_,_,_,rfl,rfl,by simp⟩
theorem dict_loop (dict:List TVal) (hd:dict.length<1000000000) (ns:List Int) (hns:ns.length≤2000):∀(post pre:List Int) (n n':Nat) (o:List TVal),ns=pre++post→post.length<n→post.length<n'→o.length=pre.length→
 ∃ok l,impl_DictAt.l5 k n dict ns (ns.length:Int) (pre.length:Int) o=some (((),ok),l)∧spec_DictAt.l5 k n' dict ns (pre.length:Int) o=some (((),ok),l)∧l.length≤2000:=by
 intro post
 induction post with
 |nil=>
  intro pre n n' o hv hn hn' ho
  obtain ⟨n,rfl⟩:∃x,n=x+1:=⟨n-1,by omega⟩
  obtain ⟨n',rfl⟩:∃x,n'=x+1:=⟨n'-1,by omega⟩
  have:ns=pre:=by simpa using hv
  subst this
  simp only [impl_DictAt.l5,spec_DictAt.l5,decide_eq_false (show ¬(ns.length:Int)<(ns.length:Int) by omega),cond_false]
  exact ⟨_,_,rfl,rfl,by omega⟩
 |cons y post ih=>
  intro pre n n' o hv hn hn' ho
  simp only [List.length_cons] at hn hn'
  obtain ⟨n,rfl⟩:∃x,n=x+1:=⟨n-1,by omega⟩
  obtain ⟨n',rfl⟩:∃x,n'=x+1:=⟨n'-1,by omega⟩
  have hlen:ns.length=pre.length+(post.length+1):=by rw [hv];simp
  have hg:rdL ns (pre.length:Int)=some y:=by rw [hv];exact getMid pre post y
  have e3:IntKind.wrap .i64 ((pre.length:Int)+1)=(pre.length:Int)+1:=w64 (by omega) (by omega)
  have elen:IntKind.wrap .i64 ((dict.length:Int)-1)=(dict.length:Int)-1:=w64 (by omega) (by omega)
  simp only [impl_DictAt.l5,spec_DictAt.l5,decide_eq_true (show (pre.length:Int)<(ns.length:Int) by omega),cond_true,hg,Option.bind_some,e3,within_eq,l1In_eq,elen]
  by_cases hin:0≤y∧y≤(dict.length:Int)-1
  ·obtain ⟨y0,y1⟩:=hin
   obtain ⟨v,hv1,_⟩:=rdL_some (xs:=dict) (i:=y) y0 (by omega)
   simp only [decide_eq_true y0,decide_eq_true y1,Bool.and_self,Bool.not_true,cond_false,hv1,Option.bind_some,lim_ok (show o.length+[v].length≤4294967296 by simp;omega),cond_true]
   have:=ih (pre++[y]) n n' (o++[v]) (by rw [hv];simp) (by omega) (by omega) (by simp [ho])
   rw [List.length_append,List.length_singleton] at this
   exact this
  ·have:(decide (0≤y)&&decide (y≤(dict.length:Int)-1))=false:=by
    rw [Bool.eq_false_iff];intro h;simp only [Bool.and_eq_true,decide_eq_true_eq] at h;exact hin h
   simp only [this,Bool.not_false,cond_true]
   exact ⟨_,_,rfl,rfl,by simp⟩
theorem dictAt_any (hk:3000≤k) (dict:List TVal) (hd:dict.length<1000000000) (ns:List Int):∃ok l,impl_DictAt k dict ns=some (((),ok),l)∧spec_DictAt k dict ns=some (((),ok),l)∧l.length≤2000:=by
 unfold impl_DictAt spec_DictAt
 by_cases h:(ns.length:Int)>2000
 ·simp only [decide_eq_true h,cond_true]
  exact ⟨_,_,rfl,rfl,by simp⟩
 ·simp only [decide_eq_false h,cond_false]
  obtain ⟨ok,l,e1,e2,e3⟩:=dict_loop k dict hd ns (by omega) ns [] k k [] rfl (by omega) (by omega) rfl
  rw [List.length_nil,show ((0:Nat):Int)=0 from rfl] at e1 e2
  exact ⟨ok,l,e1,e2,e3⟩
abbrev numV (x:Int):TVal:=(x,(⟨#[]⟩:ByteArray),())
theorem l16Vals_loop (l:List Int) (hl:l.length<1000000000):∀(post pre:List Int) (n:Nat),l=pre++post→post.length<n→spec_l16Vals.l3 k n l (pre.length:Int) (pre.map numV)=some ((),l.map numV):=by
 intro post
 induction post with
 |nil=>
  intro pre n hv hn
  obtain ⟨n,rfl⟩:∃x,n=x+1:=⟨n-1,by omega⟩
  have:l=pre:=by simpa using hv
  subst this
  simp only [spec_l16Vals.l3,decide_eq_false (show ¬(l.length:Int)<(l.length:Int) by omega),cond_false]
 |cons v post ih=>
  intro pre n hv hn
  simp only [List.length_cons] at hn
  obtain ⟨n,rfl⟩:∃x,n=x+1:=⟨n-1,by omega⟩
  have hlen:l.length=pre.length+(post.length+1):=by rw [hv];simp
  have hg:rdL l (pre.length:Int)=some v:=by rw [hv];exact getMid pre post v
  have:=ih (pre++[v]) n (by rw [hv];simp) (by omega)
  rw [List.length_append,List.length_singleton,List.map_append] at this
  simp only [spec_l16Vals.l3,decide_eq_true (show (pre.length:Int)<(l.length:Int) by omega),cond_true,hg,Option.bind_some,lim_ok (show (pre.map numV).length+([(v,(⟨#[]⟩:ByteArray),())]:List TVal).length≤4294967296 by simp;omega),w64 (x:=(pre.length:Int)+1) (by omega) (by omega)]
  exact this
theorem vals_eq (l:List Int) (hl:l.length<1000000000) (hlk:l.length<k):impl_valsOf k l=some ((),l.map numV)∧spec_l16Vals k l=some ((),l.map numV):=by
 have h1:=(vals_loop k l hl l [] k rfl hlk).1
 have h2:=l16Vals_loop k l hl l [] k rfl hlk
 rw [List.length_nil,List.map_nil,show ((0:Nat):Int)=0 from rfl] at h1 h2
 exact ⟨h1,h2⟩
theorem encOk_eq (e t:Int):∃b,impl_EncOk k e t=some b∧spec_EncOk k e t=some b∧(b=true→e=0∨e=3∨e=5∨e=6∨e=7∨e=8∨e=9):=by
 obtain ⟨wd,w1,w2,w3,w4⟩:=splitWide_eq k t
 unfold impl_EncOk spec_EncOk impl_EncOk.c4 spec_EncOk.c6 impl_EncOk.c11 spec_EncOk.c13
 simp only [typeOk_eq,l5Type_eq,Option.bind_some,w2,w3,cst,csf]
 by_cases h0:e=0
 ·subst h0
  refine ⟨tyOk t,rfl,?_,fun _=> .inl rfl⟩
  cases tyOk t<;>rfl
 by_cases h8:e=8
 ·subst h8
  refine ⟨tyOk t,rfl,?_,fun _=>by simp⟩
  cases tyOk t<;>rfl
 have ty:∀b:Bool,(b=true→tyOk t=true)→(cond (!tyOk t) (some false) (some b):Option Bool)=some b:=by
  intro b hb
  cases ht:tyOk t with
  |true=>rfl
  |false=>
   cases b with
   |false=>rfl
   |true=>rw [ht] at hb;cases hb rfl
 by_cases h3:e=3
 ·subst h3
  refine ⟨t==0,rfl,ty _ (fun hb=>by have:=eq_of_beq hb;subst this;rfl),fun _=>by simp⟩
 by_cases h5:e=5
 ·subst h5
  refine ⟨t==1||t==2,rfl,ty _ (fun hb=>by rcases Bool.or_eq_true_iff.1 hb with h|h<;>(have:=eq_of_beq h;subst this;rfl)),fun _=>by simp⟩
 by_cases h6:e=6
 ·subst h6
  refine ⟨t==6,rfl,ty _ (fun hb=>by have:=eq_of_beq hb;subst this;rfl),fun _=>by simp⟩
 by_cases h7:e=7
 ·subst h7
  refine ⟨t==6,rfl,ty _ (fun hb=>by have:=eq_of_beq hb;subst this;rfl),fun _=>by simp⟩
 by_cases h9:e=9
 ·subst h9
  refine ⟨decide (wd>0),rfl,ty _ (fun hb=> ?_),fun _=>by simp⟩
  have hb:=of_decide_eq_true hb
  unfold impl_wideOf impl_wideOf.c6 at w3
  unfold tyOk
  by_cases t1:t=1
  ·subst t1;rfl
  by_cases t2:t=2
  ·subst t2;rfl
  by_cases t5:t=5
  ·subst t5;rfl
  ·simp only [beqF t1,beqF t2,beqF t5,cond_false,Option.some.injEq] at w3
   omega
 ·simp only [beqF h0,beqF h8,beqF h3,beqF h5,beqF h6,beqF h7,beqF h9,cond_false,Bool.false_and]
  refine ⟨false,rfl,?_,fun h=>by cases h⟩
  cases tyOk t<;>rfl
theorem encRead_eq (hk:2000000≤k) (e t:Int) (b:List Int) (hb:b.length≤1048576) (hby:Byts b) (many:Int) (dict:List TVal) (hd:dict.length<1000000000):
 ∃ok l,impl_EncRead k e t b many dict=some (((),ok),l)∧spec_EncRead k e t b many dict=some (((),ok),l)∧l.length≤2000∧(ok=true→l.length=many.toNat∧0≤many∧vsOk t l=true):=by
 obtain ⟨eo,o1,o2,o3⟩:=encOk_eq k e t
 have hby0:I64 0:=⟨by decide,by decide⟩
 unfold impl_EncRead spec_EncRead
 simp only [o1,o2,Option.bind_some,within_eq,l1In_eq,cst,csf]
 by_cases hc:eo=true∧0≤many∧many≤2000
 ·obtain ⟨rfl,m0,m1⟩:=hc
  simp only [decide_eq_true m0,decide_eq_true m1,Bool.and_self,Bool.not_true,Bool.or_self,cond_false]
  have key:(e=8∧many=0∧b.length=0)∨(¬(e=8∧many=0∧b.length=0)∧∃nx ok l,impl_encValues k e t b many dict=some (((),nx,ok),l)∧spec_l16Read k e t b many dict=some (((),nx,ok),l)∧l.length≤2000):=by
   by_cases hz:e=8∧many=0∧b.length=0
   ·exact .inl hz
   ·right
    refine ⟨hz,?_⟩
    unfold impl_encValues spec_l16Read
    rcases o3 rfl with rfl|rfl|rfl|rfl|rfl|rfl|rfl
    ·obtain ⟨nx,ok,l,e1,e2,pr⟩:=plainRead_eq k (by omega) t b (by omega) hby 0 many hby0
     simp only [show ((0:Int)==0)=true from rfl,cond_true,e1,e2,Option.bind_some]
     refine ⟨nx,ok,l,rfl,rfl,?_⟩
     cases ok with
     |true=>have:=pr.len rfl;omega
     |false=>exact pr.short rfl
    ·obtain ⟨v,nx,ok,a1,a2,a3,a4,a5⟩:=word_any k (by omega) b (by omega) hby 0 hby0 4 (by decide) (by decide)
     rw [show ((4:Nat):Int)=4 from rfl] at a1 a2
     simp only [show ((3:Int)==0)=false from rfl,show ((3:Int)==3)=true from rfl,show ((3:Int)==5)=false from rfl,show ((3:Int)==6)=false from rfl,show ((3:Int)==7)=false from rfl,show ((3:Int)==9)=false from rfl,show ((3:Int)==8)=false from rfl,cond_true,cond_false,a1,a2,Option.bind_some,cst]
     cases (!ok||v !=IntKind.wrap .i64 ((b.length:Int)-nx)) with
     |true=>
      simp only [cond_true]
      exact ⟨_,_,_,rfl,rfl,by simp⟩
     |false=>
      obtain ⟨nx',ok',l,r1,r2,r3,r4⟩:=runRead_eq k hk b hb hby nx many 1
      have hl:l.length≤2000:=by
       cases ok' with
       |false=>rw [(r3 rfl).2];simp
       |true=>obtain ⟨_,_,_,h,_⟩:=r4 rfl;omega
      obtain ⟨v1,v2⟩:=vals_eq k l (by omega) (by omega)
      simp only [cond_false,r1,r2,v1,v2,Option.bind_some]
      exact ⟨_,_,_,rfl,rfl,by simpa using hl⟩
    ·obtain ⟨nx,ok,l,e1,e2,e3,e4⟩:=deltaRead_any k (by omega) b hb hby 0
     have hl:l.length≤2000:=by
      cases ok with
      |false=>rw [(e3 rfl).2];simp
      |true=>exact (e4 rfl).2.1
     obtain ⟨v1,v2⟩:=vals_eq k l (by omega) (by omega)
     simp only [show ((5:Int)==0)=false from rfl,show ((5:Int)==3)=false from rfl,show ((5:Int)==5)=true from rfl,cond_true,cond_false,e1,e2,v1,v2,Option.bind_some]
     exact ⟨_,_,_,rfl,rfl,by simpa using hl⟩
    ·obtain ⟨nx,ok,l,e1,e2,e3,e4⟩:=lengthRead_any k (by omega) b hb hby 0
     simp only [show ((6:Int)==0)=false from rfl,show ((6:Int)==3)=false from rfl,show ((6:Int)==5)=false from rfl,show ((6:Int)==6)=true from rfl,cond_true,cond_false,e1,e2,Option.bind_some]
     refine ⟨_,_,_,rfl,rfl,?_⟩
     cases ok with
     |false=>rw [(e3 rfl).2];simp
     |true=>exact (e4 rfl).2.1
    ·obtain ⟨nx,ok,l,e1,e2,e3⟩:=frontRead_any k (by omega) b hb hby 0
     simp only [show ((7:Int)==0)=false from rfl,show ((7:Int)==3)=false from rfl,show ((7:Int)==5)=false from rfl,show ((7:Int)==6)=false from rfl,show ((7:Int)==7)=true from rfl,cond_true,cond_false,e1,e2,Option.bind_some]
     exact ⟨_,_,_,rfl,rfl,e3⟩
    ·obtain ⟨nx,ok,l,e1,e2,e3⟩:=placesRead_any k hk b hb hby 0 many (dict.length:Int)
     obtain ⟨ok2,l2,d1,d2,d3⟩:=dictAt_any k (by omega) dict hd l
     have hz':(many==0&&((b.length:Int)==0))=false:=by
      rw [Bool.eq_false_iff]
      intro h
      simp only [Bool.and_eq_true,beq_iff_eq] at h
      exact hz ⟨rfl,h.1,by omega⟩
     simp only [show ((8:Int)==0)=false from rfl,show ((8:Int)==3)=false from rfl,show ((8:Int)==5)=false from rfl,show ((8:Int)==6)=false from rfl,show ((8:Int)==7)=false from rfl,show ((8:Int)==9)=false from rfl,show ((8:Int)==8)=true from rfl,cond_true,cond_false,csf,hz',e1,e2,d1,d2,Option.bind_some]
     exact ⟨_,_,_,rfl,rfl,d3⟩
    ·obtain ⟨nx,ok,l,e1,e2,e3⟩:=splitRead_any k (by omega) t b hb hby 0 many
     simp only [show ((9:Int)==0)=false from rfl,show ((9:Int)==3)=false from rfl,show ((9:Int)==5)=false from rfl,show ((9:Int)==6)=false from rfl,show ((9:Int)==7)=false from rfl,show ((9:Int)==9)=true from rfl,cond_true,cond_false,e1,e2,Option.bind_some]
     exact ⟨_,_,_,rfl,rfl,e3⟩
  rcases key with ⟨rfl,rfl,hb0⟩|⟨hz,nx,ok,l,i1,s1,hl⟩
  ·have hs:spec_l16Read k 8 t b 0 dict=some (((),0,true),[]):=by
    unfold spec_l16Read
    simp only [show ((8:Int)==0)=false from rfl,show ((8:Int)==3)=false from rfl,show ((8:Int)==5)=false from rfl,show ((8:Int)==6)=false from rfl,show ((8:Int)==7)=false from rfl,show ((8:Int)==9)=false from rfl,show ((0:Int)==0)=true from rfl,cond_true,cond_false,hb0,Option.bind_some]
    rfl
   have hty:tyOk t=true:=by
    have h2:=o2
    unfold spec_EncOk at h2
    simp only [l5Type_eq,Option.bind_some] at h2
    cases ht:tyOk t with
    |true=>rfl
    |false=>rw [ht] at h2;cases h2
   have hvs:vsOk t []=true:=vsOk_iff.2 ⟨by simp,by simp,hty⟩
   obtain ⟨q1,q2⟩:=vsOk_eq k t [] (by simp) (by simp;omega)
   simp only [hs,hb0,show ((8:Int)==8)=true from rfl,show ((0:Int)==0)=true from rfl,Bool.and_self,show (((0:Nat):Int)==0)=true from rfl,cond_true,Option.bind_some,Bool.not_true,show ((0:Int) !=((0:Nat):Int))=false from rfl,cst,Bool.or_self,cond_false,List.length_nil,q2,hvs,show (((0:Nat):Int) !=0)=false from rfl]
   exact ⟨_,_,rfl,rfl,by simp,fun _=>⟨rfl,by decide,hvs⟩⟩
  ·have hz':((e==8&&many==0)&&((b.length:Int)==0))=false:=by
    rw [Bool.eq_false_iff]
    intro h
    simp only [Bool.and_eq_true,beq_iff_eq] at h
    exact hz ⟨h.1.1,h.1.2,by omega⟩
   obtain ⟨q1,q2⟩:=vsOk_eq k t l (by omega) (by omega)
   simp only [hz',cond_false,i1,s1,Option.bind_some,cst,q1,q2]
   cases ok with
   |false=>
    simp only [Bool.not_false,Bool.true_or,cond_true]
    exact ⟨_,_,rfl,rfl,by simp,nofun⟩
   |true=>
    simp only [Bool.not_true,Bool.false_or]
    cases h1:(nx !=(b.length:Int)) with
    |true=>
     simp only [Bool.true_or,cond_true]
     exact ⟨_,_,rfl,rfl,by simp,nofun⟩
    |false=>
     simp only [Bool.false_or]
     by_cases h2:(l.length:Int)=many
     ·rw [bneF h2]
      cases h3:vsOk t l with
      |false=>exact ⟨_,_,rfl,rfl,by simp,nofun⟩
      |true=>exact ⟨_,_,rfl,rfl,hl,fun _=>⟨by omega,m0,h3⟩⟩
     ·rw [bneT h2]
      exact ⟨_,_,rfl,rfl,by simp,nofun⟩
 ·have:(!eo|| !(decide (0≤many)&&decide (many≤2000)))=true:=by
   cases eo with
   |false=>rfl
   |true=>
    have:(decide (0≤many)&&decide (many≤2000))=false:=by
     rw [Bool.eq_false_iff];intro h;simp only [Bool.and_eq_true,decide_eq_true_eq] at h;exact hc ⟨rfl,h⟩
    rw [this];rfl
  simp only [this,cond_true]
  exact ⟨_,_,rfl,rfl,by simp,nofun⟩
end Go.Law
end
section
set_option linter.unusedVariables false
set_option linter.unusedSimpArgs false
set_option linter.unusedSectionVars false
namespace Go.Law
open Go.Am Go.Fn
variable (k:Nat)
section
variable (s:List TCol) (hs:s.length≤20) (hn:∀c,c∈s→c.1.size<k∧c.1.size<1000000000∧I64 c.2.2.2.1)
include hs hn
end
end Go.Law
end
section
set_option linter.unusedVariables false
set_option linter.unusedSimpArgs false
set_option linter.unusedSectionVars false
namespace Go.Law
open Go.Am Go.Fn
structure Ev where
 at_:Nat
 leaf:Bool
 rep:Int
 def_:Int
 v:TVal
def zv:TVal:=(0,⟨#[]⟩,())
def cbad (v:TVal) (most:Int):Bool:= !eqS v.2.1 ⟨#[]⟩|| !(decide (0≤v.1)&&decide (v.1≤most))
theorem cbad_false {v:TVal} {most:Int} (h:cbad v most=false):0≤v.1∧v.1≤most:=by
 unfold cbad at h
 simp only [Bool.or_eq_false_iff,Bool.not_eq_false',Bool.and_eq_true,decide_eq_true_eq] at h
 exact h.2
abbrev EvR:=Option (List Ev×List TVal)
def evPair (a:EvR) (f:List TVal→EvR):EvR:=
 match a with
 |none=>none
 |some (x,V)=>match f V with
  |none=>none
  |some (y,W)=>some (x++y,W)
def evParts (F:Nat→List TVal→EvR) (e:Nat→Nat):Nat→Nat→List TVal→EvR
 |0,_,V=>some ([],V)
 |m+1,a,V=>evPair (F a V) (evParts F e m (e a))
def evItems (F:List TVal→EvR):Nat→List TVal→EvR
 |0,V=>some ([],V)
 |m+1,V=>evPair (F V) (evItems F m)
def iter (f:Nat→Nat):Nat→Nat→Nat
 |0,a=>a
 |n+1,a=>iter f n (f a)
def endC (s:List TCol):Nat→Nat→Nat
 |0,a=>a
 |d+1,a=>match s[a]? with
  |none=>a+1
  |some c=>iter (endC s d) c.2.2.2.1.toNat (a+1)
def miss (s:List TCol) (rep def_:Int):Nat→Nat→List Ev
 |0,_=>[]
 |n+1,i=>(match s[i]? with
  |none=>[]
  |some c=>if c.2.1=7 then [] else [⟨i,false,rep,def_,zv⟩])++miss s rep def_ n (i+1)
def evPart (s:List TCol) (C:Int→Int→Int→List TVal→EvR) (e a:Nat) (rep def_ deep:Int) (V:List TVal):EvR:=
 match s[a]? with
 |none=>none
 |some c=>
  if c.2.2.1=0 then C rep def_ deep V
  else match V with
   |[]=>none
   |v::V=>
    if c.2.2.1=2 then
     if cbad v 20=true then none
     else if v.1=0 then some (miss s rep def_ (e-a) a,V)
     else evPair (C rep (def_+1) (deep+1) V) (evItems (C (deep+1) (def_+1) (deep+1)) (v.1.toNat-1))
    else
     if cbad v 1=true then none
     else if v.1=0 then some (miss s rep def_ (e-a) a,V)
     else C rep (def_+1) deep V
def evC (s:List TCol):Nat→Nat→Int→Int→Int→List TVal→EvR
 |0,_,_,_,_,_=>none
 |d+1,a,rep,def_,deep,V=>match s[a]? with
  |none=>none
  |some c=>
   if c.2.1=7 then evParts (fun a V=>evPart s (evC s d a) (endC s d a) a rep def_ deep V) (endC s d) c.2.2.2.1.toNat (a+1) V
   else match V with
    |[]=>none
    |v::V=>if vok c.2.1 v=true then some ([⟨a,true,rep,def_,v⟩],V) else none
def EvG (V:List TVal) (r:EvR):Prop:=∀X W,r=some (X,W)→W.length≤V.length∧X.length+20*W.length≤20*V.length∧W=V.drop (V.length-W.length)
theorem evPair_some {a:EvR} {f:List TVal→EvR} {X:List Ev} {W:List TVal} (h:evPair a f=some (X,W)):∃x y V,a=some (x,V)∧f V=some (y,W)∧X=x++y:=by
 unfold evPair at h
 split at h
 ·cases h
 ·rename_i x V
  split at h
  ·cases h
  ·rename_i y W' hf
   simp only [Option.some.injEq,Prod.mk.injEq] at h
   obtain ⟨rfl,rfl⟩:=h
   exact ⟨x,y,V,rfl,hf,rfl⟩
theorem EvG.pair {V:List TVal} {a:EvR} {f:List TVal→EvR} (h:EvG V a) (k:∀W,EvG W (f W)):EvG V (evPair a f):=by
 intro X W hr
 obtain ⟨x,y,U,h1,h2,rfl⟩:=evPair_some hr
 obtain ⟨a1,a2,a3⟩:=h _ _ h1
 obtain ⟨b1,b2,b3⟩:=k U _ _ h2
 refine ⟨by omega,by simp;omega,?_⟩
 rw [b3,a3,List.drop_drop]
 congr 1
 simp only [List.length_drop]
 omega
theorem EvG.nil (V:List TVal):EvG V (some ([],V)):=by
 intro X W h
 simp only [Option.some.injEq,Prod.mk.injEq] at h
 obtain ⟨rfl,rfl⟩:=h
 exact ⟨Nat.le_refl _,by simp,by simp⟩
theorem EvG.parts {F:Nat→List TVal→EvR} {e:Nat→Nat} (h:∀a V,EvG V (F a V)):∀(m a:Nat) (V:List TVal),EvG V (evParts F e m a V)
 |0,_,V=>EvG.nil V
 |m+1,a,V=>(h a V).pair (EvG.parts h m (e a))
theorem EvG.items {F:List TVal→EvR} (h:∀V,EvG V (F V)):∀(m:Nat) (V:List TVal),EvG V (evItems F m V)
 |0,V=>EvG.nil V
 |m+1,V=>(h V).pair (EvG.items h m)
theorem miss_len (s:List TCol) (rep def_:Int):∀(n i:Nat),i+(miss s rep def_ n i).length≤max i s.length
 |0,i=>by simp only [miss,List.length_nil];omega
 |n+1,i=>by
  have:=miss_len s rep def_ n (i+1)
  simp only [miss,List.length_append]
  cases h:s[i]? with
  |none=>
   have hl:s.length≤i:=List.getElem?_eq_none_iff.1 h
   simp only [List.length_nil]
   omega
  |some c=>
   have hl:i<s.length:=(List.getElem?_eq_some_iff.1 h).1
   simp only
   split<;>simp<;>omega
theorem EvG.part {s:List TCol} (hs:s.length≤20) {C:Int→Int→Int→List TVal→EvR} (h:∀r d p V,EvG V (C r d p V)) (e a:Nat) (rep def_ deep:Int) (V:List TVal):EvG V (evPart s C e a rep def_ deep V):=by
 intro X W hr
 unfold evPart at hr
 have hm:∀n,(miss s rep def_ n a).length≤20:=fun n=>by
  have:=miss_len s rep def_ n a
  rcases Nat.lt_or_ge a s.length with h1|h1
  ·omega
  ·have:(miss s rep def_ n a).length=0:=by omega
   omega
 split at hr
 ·cases hr
 ·rename_i c hc
  split at hr
  ·exact h _ _ _ _ _ _ hr
  ·split at hr
   ·cases hr
   ·rename_i v V
    have lift:∀r:EvR,EvG V r→r=some (X,W)→W.length≤(v::V).length∧X.length+20*W.length≤20*(v::V).length∧W=(v::V).drop ((v::V).length-W.length):=by
     intro r hg hr
     obtain ⟨g1,g2,g3⟩:=hg _ _ hr
     refine ⟨by simp;omega,by simp;omega,?_⟩
     rw [List.length_cons,show V.length+1-W.length=(V.length-W.length)+1 by omega,List.drop_succ_cons]
     exact g3
    have ms:some (miss s rep def_ (e-a) a,V)=some (X,W)→W.length≤(v::V).length∧X.length+20*W.length≤20*(v::V).length∧W=(v::V).drop ((v::V).length-W.length):=by
     intro hr
     simp only [Option.some.injEq,Prod.mk.injEq] at hr
     obtain ⟨rfl,rfl⟩:=hr
     have:=hm (e-a)
     refine ⟨by simp,by simp;omega,by simp⟩
    split at hr
    ·split at hr
     ·cases hr
     ·split at hr
      ·exact ms hr
      ·exact lift _ ((h _ _ _ _).pair (EvG.items (h _ _ _) _)) hr
    ·split at hr
     ·cases hr
     ·split at hr
      ·exact ms hr
      ·exact lift _ (h _ _ _ _) hr
theorem evC_G {s:List TCol} (hs:s.length≤20):∀(d a:Nat) (rep def_ deep:Int) (V:List TVal),EvG V (evC s d a rep def_ deep V)
 |0,_,_,_,_,_=>fun X W h=>by cases h
 |d+1,a,rep,def_,deep,V=>by
  intro X W h
  simp only [evC] at h
  split at h
  ·cases h
  ·split at h
   ·exact EvG.parts (fun a V=>EvG.part hs (fun r d p V=>evC_G hs _ a r d p V) _ a rep def_ deep V) _ _ _ _ _ h
   ·split at h
    ·cases h
    ·split at h
     ·simp only [Option.some.injEq,Prod.mk.injEq] at h
      obtain ⟨rfl,rfl⟩:=h
      refine ⟨by simp,by simp;omega,by simp⟩
     ·cases h
end Go.Law
end
section
set_option linter.unusedVariables false
set_option linter.unusedSimpArgs false
set_option linter.unusedSectionVars false
namespace Go.Law
open Go.Am Go.Fn
def rst (r:EvR):Option (List TVal):=match r with
 |none=>none
 |some (_,W)=>some W
theorem rst_pair (a:EvR) (f:List TVal→EvR):rst (evPair a f)=(rst a).bind fun V=>rst (f V):=by
 unfold evPair rst
 cases a with
 |none=>rfl
 |some q=>
  obtain ⟨x,V⟩:=q
  simp only [Option.bind_some]
  cases f V with
  |none=>rfl
  |some q2=>rfl
def rIt (C:List TVal→Option (List TVal)):Nat→List TVal→Option (List TVal)
 |0,V=>some V
 |m+1,V=>(C V).bind (rIt C m)
theorem rst_items (F:List TVal→EvR) (C:List TVal→Option (List TVal)) (h:∀V,rst (F V)=C V):∀(m:Nat) (V:List TVal),rst (evItems F m V)=rIt C m V
 |0,V=>rfl
 |m+1,V=>by
  show rst (evPair (F V) (evItems F m))=_
  rw [rst_pair,h V]
  show _=(C V).bind (rIt C m)
  congr 1
  funext W
  exact rst_items F C h m W
def rPart (s:List TCol) (C:List TVal→Option (List TVal)) (a:Nat) (V:List TVal):Option (List TVal):=
 match s[a]? with
 |none=>none
 |some c=>
  if c.2.2.1=0 then C V
  else match V with
   |[]=>none
   |v::V=>if cbad v (if c.2.2.1=2 then 20 else 1)=true then none else rIt C v.1.toNat V
theorem rst_part (s:List TCol) (F:Int→Int→Int→List TVal→EvR) (C:List TVal→Option (List TVal)) (h:∀r q p V,rst (F r q p V)=C V) (e a:Nat) (rep def_ deep:Int) (V:List TVal):rst (evPart s F e a rep def_ deep V)=rPart s C a V:=by
 unfold evPart rPart
 cases s[a]? with
 |none=>rfl
 |some c=>
  simp only
  split
  ·exact h _ _ _ _
  ·cases V with
   |nil=>rfl
   |cons v V=>
    simp only
    split
    ·rename_i h2
     split
     ·rename_i hb;rfl
     ·rename_i hb
      have hb:=cbad_false (by simpa using hb)
      split
      ·rename_i h0;rw [h0];rfl
      ·rename_i h0
       obtain ⟨n,hn⟩:∃n:Nat,v.1=((n+1:Nat):Int):=⟨v.1.toNat-1,by omega⟩
       rw [hn,rst_pair,h]
       show _=rIt C (n+1) V
       simp only [rIt]
       congr 1
       funext W
       exact rst_items _ C (h _ _ _) _ W
    ·rename_i h2
     split
     ·rename_i hb;rfl
     ·rename_i hb
      have hb:=cbad_false (by simpa using hb)
      split
      ·rename_i h0;rw [h0];rfl
      ·rename_i h0
       have h1:v.1=1:=by omega
       rw [h1,h]
       show C V=rIt C 1 V
       simp only [rIt]
       cases C V<;>rfl
def rParts (F:Nat→List TVal→Option (List TVal)) (e:Nat→Nat):Nat→Nat→List TVal→Option (List TVal)
 |0,_,V=>some V
 |m+1,a,V=>(F a V).bind (rParts F e m (e a))
theorem rst_parts (F:Nat→List TVal→EvR) (C:Nat→List TVal→Option (List TVal)) (h:∀a V,rst (F a V)=C a V) (e:Nat→Nat):∀(m a:Nat) (V:List TVal),rst (evParts F e m a V)=rParts C e m a V
 |0,_,V=>rfl
 |m+1,a,V=>by
  show rst (evPair (F a V) (evParts F e m (e a)))=_
  rw [rst_pair,h a V]
  show _=(C a V).bind (rParts C e m (e a))
  congr 1
  funext W
  exact rst_parts F C h e m (e a) W
def rC (s:List TCol):Nat→Nat→List TVal→Option (List TVal)
 |0,_,_=>none
 |d+1,a,V=>match s[a]? with
  |none=>none
  |some c=>
   if c.2.1=7 then rParts (fun a V=>rPart s (rC s d a) a V) (endC s d) c.2.2.2.1.toNat (a+1) V
   else match V with
    |[]=>none
    |v::V=>if vok c.2.1 v=true then some V else none
theorem rst_C (s:List TCol):∀(d a:Nat) (rep def_ deep:Int) (V:List TVal),rst (evC s d a rep def_ deep V)=rC s d a V
 |0,_,_,_,_,_=>rfl
 |d+1,a,rep,def_,deep,V=>by
  simp only [evC,rC]
  cases s[a]? with
  |none=>rfl
  |some c=>
   simp only
   split
   ·exact rst_parts _ _ (fun a V=>rst_part s _ (rC s d a) (fun r q p V=>rst_C s d a r q p V) _ a rep def_ deep V) _ _ _ _
   ·cases V with
    |nil=>rfl
    |cons v V=>
     simp only
     split<;>rfl
def RG (C:List TVal→Option (List TVal)):Prop:=∀V W,C V=some W→W.length≤V.length∧W=V.drop (V.length-W.length)
theorem RG.of {F:List TVal→EvR} {C:List TVal→Option (List TVal)} (h:∀V,rst (F V)=C V) (g:∀V,EvG V (F V)):RG C:=by
 intro V W hc
 rw [←h V] at hc
 unfold rst at hc
 split at hc
 ·cases hc
 ·rename_i X U hf
  simp only [Option.some.injEq] at hc
  subst hc
  obtain ⟨g1,_,g3⟩:=g V X U hf
  exact ⟨g1,g3⟩
theorem RG.c {s:List TCol} (hs:s.length≤20) (d a:Nat):RG (rC s d a):=RG.of (F:=evC s d a 0 0 0) (rst_C s d a 0 0 0) (evC_G hs d a 0 0 0)
theorem RG.pos {C:List TVal→Option (List TVal)} (g:RG C) {V W:List TVal} {pos:Nat} (hp:pos≤V.length) (h:C (V.drop pos)=some W):V.length-W.length≤V.length∧V.drop (V.length-W.length)=W∧pos≤V.length-W.length:=by
 obtain ⟨g1,g2⟩:=g _ _ h
 simp only [List.length_drop] at g1 g2
 refine ⟨by omega,?_,by omega⟩
 rw [List.drop_drop] at g2
 rw [show V.length-W.length=pos+(V.length-pos-W.length) by omega]
 exact g2.symm
section
variable (k:Nat) (s:List TCol) (hs:s.length≤20) (hn:∀c,c∈s→c.1.size<k∧c.1.size<1000000000∧I64 c.2.2.2.1) (hk:2000000≤k)
variable (V:List TVal) (hV:V.length≤1048576)
include hs hn hk hV
end
end Go.Law
end
section
set_option linter.unusedVariables false
set_option linter.unusedSimpArgs false
set_option linter.unusedSectionVars false
namespace Go.Law
open Go.Am Go.Fn
def WO.P (_:Nat) (_:Nat):Prop:=True
section
variable (k:Nat) (s:List TCol)
end
section
variable (k:Nat) (s:List TCol) (hs:s.length≤20) (hn:∀c,c∈s→c.1.size<k∧c.1.size<1000000000∧I64 c.2.2.2.1) (hk:2000000≤k)
include hs hn hk
end
end Go.Law
end
section
set_option linter.unusedVariables false
set_option linter.unusedSimpArgs false
set_option linter.unusedSectionVars false
namespace Go.Law
open Go.Am Go.Fn
def evLeaf (s:List TCol) (X:List Ev):Prop:=∀e,e∈X→∃c,s[e.at_]?=some c∧c.2.1≠7
theorem evLeaf_append {s:List TCol} {X Y:List Ev} (h1:evLeaf s X) (h2:evLeaf s Y):evLeaf s (X++Y):=fun e he=>(List.mem_append.1 he).elim (h1 e) (h2 e)
def EvL (s:List TCol) (r:EvR):Prop:=∀X W,r=some (X,W)→evLeaf s X
theorem EvL.pair {s:List TCol} {a:EvR} {f:List TVal→EvR} (h:EvL s a) (g:∀V,EvL s (f V)):EvL s (evPair a f):=by
 intro X W he
 obtain ⟨x,y,V,h1,h2,rfl⟩:=evPair_some he
 exact evLeaf_append (h _ _ h1) (g _ _ _ h2)
theorem EvL.nil (s:List TCol) (V:List TVal):EvL s (some ([],V)):=by
 intro X W h
 simp only [Option.some.injEq,Prod.mk.injEq] at h
 obtain ⟨rfl,rfl⟩:=h
 exact fun e he=>by cases he
theorem EvL.parts {s:List TCol} {F:Nat→List TVal→EvR} {e:Nat→Nat} (h:∀a V,EvL s (F a V)):∀(m a:Nat) (V:List TVal),EvL s (evParts F e m a V)
 |0,_,V=>EvL.nil s V
 |m+1,a,V=>(h a V).pair (EvL.parts h m (e a))
theorem EvL.items {s:List TCol} {F:List TVal→EvR} (h:∀V,EvL s (F V)):∀(m:Nat) (V:List TVal),EvL s (evItems F m V)
 |0,V=>EvL.nil s V
 |m+1,V=>(h V).pair (EvL.items h m)
theorem miss_leaf (s:List TCol) (rep def_:Int):∀(n i:Nat),evLeaf s (miss s rep def_ n i)
 |0,i=>fun e he=>by cases he
 |n+1,i=>by
  simp only [miss]
  refine evLeaf_append ?_ (miss_leaf s rep def_ n (i+1))
  cases h:s[i]? with
  |none=>exact fun e he=>by cases he
  |some c=>
   simp only
   split
   ·exact fun e he=>by cases he
   ·rename_i h7
    intro e he
    rw [List.mem_singleton] at he
    subst he
    exact ⟨c,h,h7⟩
theorem EvL.part {s:List TCol} {C:Int→Int→Int→List TVal→EvR} (h:∀r d p V,EvL s (C r d p V)) (e a:Nat) (rep def_ deep:Int) (V:List TVal):EvL s (evPart s C e a rep def_ deep V):=by
 intro X W hr
 unfold evPart at hr
 have ms:∀U,some (miss s rep def_ (e-a) a,U)=some (X,W)→evLeaf s X:=by
  intro U hr
  simp only [Option.some.injEq,Prod.mk.injEq] at hr
  obtain ⟨rfl,rfl⟩:=hr
  exact miss_leaf _ _ _ _ _
 split at hr
 ·cases hr
 ·split at hr
  ·exact h _ _ _ _ _ _ hr
  ·split at hr
   ·cases hr
   ·split at hr
    ·split at hr
     ·cases hr
     ·split at hr
      ·exact ms _ hr
      ·exact (EvL.pair (h _ _ _ _) (fun V=>EvL.items (h _ _ _) _ V)) _ _ hr
    ·split at hr
     ·cases hr
     ·split at hr
      ·exact ms _ hr
      ·exact h _ _ _ _ _ _ hr
end Go.Law
end
section
set_option linter.unusedVariables false
set_option linter.unusedSimpArgs false
set_option linter.unusedSectionVars false
namespace Go.Law
open Go.Am Go.Fn
end Go.Law
end
section
set_option linter.unusedVariables false
set_option linter.unusedSimpArgs false
namespace Go.Law
open Go.Am Go.Fn
def lnum (s:List TCol):Nat→Nat
 |0=>0
 |a+1=>lnum s a+(match s[a]? with
  |none=>0
  |some c=>if c.2.1=7 then 0 else 1)
end Go.Law
end
section
set_option linter.unusedVariables false
set_option linter.unusedSimpArgs false
set_option linter.unusedSectionVars false
namespace Go.Law
open Go.Am Go.Fn
abbrev TRows:=List (List TTriple)
def PosOk (T:TRows) (pos:List Nat):Prop:=pos.length=T.length∧∀(j p:Nat) (x:List TTriple),pos[j]?=some p→T[j]?=some x→p≤x.length
structure Adv (T:TRows) (pos q:List Nat):Prop where
 ok:PosOk T q
 le:∀(j p:Nat),pos[j]?=some p→∃p':Nat,q[j]?=some p'∧p≤p'
 sum:pos.sum≤q.sum
theorem Adv.trans {T:TRows} {a b c:List Nat} (h1:Adv T a b) (h2:Adv T b c):Adv T a c:=
 ⟨h2.ok,fun j p hp=>by
  obtain ⟨p',e1,e2⟩:=h1.le j p hp
  obtain ⟨p'',e3,e4⟩:=h2.le j p' e1
  exact ⟨p'',e3,by omega⟩,Nat.le_trans h1.sum h2.sum⟩
end Go.Law
end
section
set_option linter.unusedVariables false
set_option linter.unusedSimpArgs false
set_option linter.unusedSectionVars false
namespace Go.Law
open Go.Am Go.Fn
abbrev TT:=List (List TTriple)
def SP (s:List TCol) (m:Nat) (T:TT):Prop:=T.length=lnum s s.length∧∀(j:Nat) (x:List TTriple),T[j]?=some x→x.length+m≤4294967295
theorem SP.le {s:List TCol} {m n:Nat} {T:TT} (h:SP s m T) (hn:n≤m):SP s n T:=⟨h.1,fun j x hx=>by have:=h.2 j x hx;omega⟩
section
variable (k:Nat) (s:List TCol) (hs:s.length≤20) (hn:∀c,c∈s→c.1.size<k∧c.1.size<1000000000∧I64 c.2.2.2.1) (hk:2000000≤k)
include hs hk
variable (V:List TVal) (hV:V.length≤1048576)
include hV
end
end Go.Law
end
section
set_option linter.unusedVariables false
set_option linter.unusedSimpArgs false
set_option linter.unusedSectionVars false
namespace Go.Law
open Go.Am Go.Fn
def Room (d:Nat) (vals:List TVal) (pos:List Nat):Prop:=vals.length+280000+d≤1000000+7*pos.sum
theorem Room.lim {d n:Nat} {vals:List TVal} {pos:List Nat} (h:Room d vals pos) (hs:pos.sum≤40000) (hn:n≤10):lim (vals.length+n)=true:=by
 unfold Room at h
 exact lim_ok (by omega)
theorem Room.one {d:Nat} {vals:List TVal} {pos:List Nat} (h:Room (d+1) vals pos) (v:TVal):Room d (vals++[v]) pos:=by
 unfold Room at*
 rw [List.length_append,List.length_singleton];omega
theorem Room.le {d e:Nat} {vals:List TVal} {pos:List Nat} (h:Room d vals pos) (he:e≤d):Room e vals pos:=by
 unfold Room at*;omega
section
variable (k:Nat) (s:List TCol) (hs:s.length≤20) (hn:∀c,c∈s→c.1.size<k∧c.1.size<1000000000∧I64 c.2.2.2.1) (hk:2000000≤k)
variable (T:TRows) (hT:T.length=lnum s s.length) (hT2:∀x,x∈T→x.length≤2000)
include hs hn hk hT hT2
end
end Go.Law
end
section
set_option linter.unusedVariables false
set_option linter.unusedSimpArgs false
set_option linter.unusedSectionVars false
namespace Go.Law
open Go.Am Go.Fn
section
variable (k:Nat) (s:List TCol) (hs:s.length≤20) (hn:∀c,c∈s→c.1.size<k∧c.1.size<1000000000∧I64 c.2.2.2.1) (hk:2000000≤k)
variable (T:TRows) (hT:T.length=lnum s s.length) (hT2:∀x,x∈T→x.length≤2000)
variable (nums:List Int) (hN:∀(a:Nat) (c:TCol),s[a]?=some c→c.2.1≠7→rdL nums (a:Int)=some (lnum s a:Int))
include hs hn hk hT hT2 hN
end
end Go.Law
end
section
set_option linter.unusedVariables false
set_option linter.unusedSimpArgs false
set_option linter.unusedSectionVars false
namespace Go.Law
open Go.Am Go.Fn
end Go.Law
end
section
set_option linter.unusedVariables false
set_option linter.unusedSimpArgs false
set_option linter.unusedSectionVars false
namespace Go.Law
open Go.Am Go.Fn
section
variable (k:Nat) (s:List TCol) (hS:IsSchema s) (hn:∀c,c∈s→c.1.size<k∧c.1.size<1000000000∧I64 c.2.2.2.1) (hk:2000000≤k)
include hS hn hk
end
end Go.Law
end
section
set_option linter.unusedVariables false
set_option linter.unusedSimpArgs false
set_option linter.unusedSectionVars false
namespace Go.Law
open Go.Am Go.Fn
section
variable (k:Nat) (s:List TCol) (hn:∀c,c∈s→c.1.size<k∧c.1.size<1000000000∧I64 c.2.2.2.1) (hk:2000000≤k)
variable (hS:IsSchema s) (hok:spec_SchemaOk k s=some true) (hok2:impl_SchemaOk k s=some true)
include hn hk hS hok hok2
end
end Go.Law
end
section
set_option linter.unusedVariables false
set_option linter.unusedSimpArgs false
set_option linter.unusedSectionVars false
namespace Go.Law
open Go.Am Go.Fn
section
variable (k:Nat) (s:List TCol) (hs:s.length≤20) (hk:2000000≤k)
include hs hk
end
end Go.Law
end
section
set_option linter.unusedVariables false
set_option linter.unusedSimpArgs false
set_option linter.unusedSectionVars false
namespace Go.Law
open Go.Am Go.Fn
def rowsN (x:List TTriple):Nat:=(x.filter fun t=>t.1==0).length
theorem rowsN_cons (t:TTriple) (x:List TTriple):rowsN (t::x)=(if t.1=0 then 1 else 0)+rowsN x:=by
 unfold rowsN
 rw [List.filter_cons]
 by_cases h:t.1=0
 ·rw [beqT h,if_pos h];simp;omega
 ·rw [beqF h,if_neg h];simp
theorem rowsOf_eq (k:Nat) (x:List TTriple) (hx:x.length≤1048576) (hk:2000000≤k):spec_RowsOf k x=some (rowsN x:Int)∧impl_RowsOf k x=some (rowsN x:Int):=by
 have key:∀(post pre:List TTriple) (f n:Nat),x=pre++post→post.length<f→n≤pre.length→spec_RowsOf.l3 k f x (n:Int) (pre.length:Int)=some ((n+rowsN post:Nat):Int)∧impl_RowsOf.l3 k f (n:Int) x (x.length:Int) (pre.length:Int)=some ((n+rowsN post:Nat):Int):=by
  intro post
  induction post with
  |nil=>
   intro pre f n h hf hn
   obtain ⟨f,rfl⟩:∃q,f=q+1:=⟨f-1,by omega⟩
   rw [List.append_nil] at h
   subst h
   simp only [spec_RowsOf.l3,impl_RowsOf.l3,decide_eq_false (show ¬((x.length:Int)<(x.length:Int)) by omega),cond_false]
   exact ⟨rfl,rfl⟩
  |cons t post ih=>
   intro pre f n h hf hn
   simp only [List.length_cons] at hf
   obtain ⟨f,rfl⟩:∃q,f=q+1:=⟨f-1,by omega⟩
   have hlen:x.length=pre.length+(post.length+1):=by rw [h];simp
   have hg:rdL x (pre.length:Int)=some t:=by rw [h];exact getMid _ _ _
   have hi1:IntKind.wrap .i64 ((pre.length:Int)+1)=((pre.length+1:Nat):Int):=by rw [w64 (by omega) (by omega)];omega
   have hn1:IntKind.wrap .i64 ((n:Int)+1)=((n+1:Nat):Int):=by rw [w64 (by omega) (by omega)];omega
   have hi:=fun (n:Nat) (hnn:n≤pre.length+1)=>ih (pre++[t]) f n (by rw [h];simp) (by omega) (by rw [List.length_append,List.length_singleton];exact hnn)
   rw [List.length_append,List.length_singleton] at hi
   simp only [spec_RowsOf.l3,impl_RowsOf.l3,decide_eq_true (show (pre.length:Int)<(x.length:Int) by omega),cond_true,hg,Option.bind_some,spec_RowsOf.c4,impl_RowsOf.c7,hi1,hn1]
   rw [rowsN_cons]
   by_cases h0:t.1=0
   ·rw [beqT h0,cond_true,cond_true,if_pos h0,show n+(1+rowsN post)=n+1+rowsN post by omega]
    exact hi (n+1) (by omega)
   ·rw [beqF h0,cond_false,cond_false,if_neg h0,Nat.zero_add]
    exact hi n (by omega)
 have:=key x [] k 0 rfl (by omega) (by simp)
 rw [Nat.zero_add] at this
 exact this
section
variable (k:Nat) (s:List TCol) (hn:∀c,c∈s→c.1.size<k∧c.1.size<1000000000∧I64 c.2.2.2.1) (hk:2000000≤k)
variable (hS:IsSchema s) (hok:spec_SchemaOk k s=some true) (hok2:impl_SchemaOk k s=some true)
include hn hk hS hok hok2
end
end Go.Law
end
section
set_option linter.unusedVariables false
set_option linter.unusedSimpArgs false
set_option linter.unusedSectionVars false
namespace Go.Law
open Go.Am Go.Fn
abbrev zV:TVal:=(0,(⟨#[]⟩:ByteArray),())
def tri:List (Int×Int)→List TTriple
 |[]=>[]
 |p::P=>(p.1,p.2,zV,())::tri P
def fill (d:Int):List (Int×Int)→List TVal→List TTriple
 |[],_=>[]
 |p::P,V=>if p.2=d then (match V with
  |[]=>[]
  |v::V'=>(p.1,p.2,v,())::fill d P V') else (p.1,p.2,zV,())::fill d P V
def full (d:Int):List (Int×Int)→Nat
 |[]=>0
 |p::P=>(if p.2=d then 1 else 0)+full d P
def goesOn:List (Int×Int)→Bool
 |[]=>false
 |p::_=>p.1 !=0
theorem tri_len:∀P,(tri P).length=P.length
 |[]=>rfl
 |p::P=>by simp [tri,tri_len P]
theorem full_le (d:Int):∀P,full d P≤P.length
 |[]=>Nat.le_refl _
 |p::P=>by
  have:=full_le d P
  simp only [full,List.length_cons]
  split<;>omega
theorem fill_len (d:Int):∀P V,V.length=full d P→(fill d P V).length=P.length
 |[],_,_=>rfl
 |p::P,V,h=>by
  simp only [full] at h
  simp only [fill]
  by_cases hp:p.2=d
  ·rw [if_pos hp] at h⊢
   cases V with
   |nil=>simp at h;omega
   |cons v V=>simp only [List.length_cons] at h⊢;rw [fill_len d P V (by omega)]
  ·rw [if_neg hp] at h⊢
   rw [List.length_cons,List.length_cons,fill_len d P V (by omega)]
theorem zip_get {R D:List Int} (h:R.length=D.length):∃P:List (Int×Int),R=P.map (·.1)∧D=P.map (·.2)∧P.length=R.length:=by
 refine ⟨R.zip D,?_,?_,by simp [h]⟩
 ·rw [List.map_fst_zip (by omega)]
 ·rw [List.map_snd_zip (by omega)]
section
variable (k:Nat) (hk:2000000≤k) (lf:TLeaf)
include hk
theorem tripled_eq (P:List (Int×Int)) (hP:P.length≤2000):impl_tripled k lf (P.map (·.1)) (P.map (·.2))=some (((),((P.length-full lf.2.2.1 P:Nat):Int)),tri P):=by
 have key:∀(post pre:List (Int×Int)) (n m:Nat),P=pre++post→post.length<n→m≤pre.length→
  impl_tripled.l4 k n (P.map (·.2)) (m:Int) (P.map (·.1)) (P.length:Int) (pre.length:Int) lf (tri pre)=some (((),((m+(post.length-full lf.2.2.1 post):Nat):Int)),tri P):=by
  intro post
  induction post with
  |nil=>
   intro pre n m h hn hm
   obtain ⟨n,rfl⟩:∃q,n=q+1:=⟨n-1,by omega⟩
   rw [List.append_nil] at h
   subst h
   simp only [impl_tripled.l4,decide_eq_false (show ¬((P.length:Int)<(P.length:Int)) by omega),cond_false,List.length_nil,full,Nat.sub_zero,Nat.add_zero]
  |cons p post ih=>
   intro pre n m h hn hm
   simp only [List.length_cons] at hn
   obtain ⟨n,rfl⟩:∃q,n=q+1:=⟨n-1,by omega⟩
   have hlen:P.length=pre.length+(post.length+1):=by rw [h];simp
   have hg1:rdL (P.map (·.1)) (pre.length:Int)=some p.1:=by rw [rdL_nat,List.getElem?_map,h];simp
   have hg2:rdL (P.map (·.2)) (pre.length:Int)=some p.2:=by rw [rdL_nat,List.getElem?_map,h];simp
   have hi1:IntKind.wrap .i64 ((pre.length:Int)+1)=((pre.length+1:Nat):Int):=by rw [w64 (by omega) (by omega)];omega
   have hm1:IntKind.wrap .i64 ((m:Int)+1)=((m+1:Nat):Int):=by rw [w64 (by omega) (by omega)];omega
   have htri:tri pre++[(p.1,p.2,(0,(⟨#[]⟩:ByteArray),()),())]=tri (pre++[p]):=by
    have:∀(a:List (Int×Int)),tri a++[(p.1,p.2,zV,())]=tri (a++[p]):=by
     intro a
     induction a with
     |nil=>rfl
     |cons q a ih=>simp only [tri,List.cons_append,ih]
    exact this pre
   have hfl:=full_le lf.2.2.1 post
   have hi:=fun m hm=>ih (pre++[p]) n m (by rw [h];simp) (by omega) hm
   rw [List.length_append,List.length_singleton] at hi
   simp only [impl_tripled.l4,decide_eq_true (show (pre.length:Int)<(P.length:Int) by omega),cond_true,hg1,hg2,Option.bind_some,impl_tripled.c9,hi1,hm1,htri]
   rw [lim_ok (by rw [tri_len];simp;omega),cond_true]
   simp only [full,List.length_cons]
   by_cases hp:p.2=lf.2.2.1
   ·rw [bneF hp,cond_false,if_pos hp,hi m (by omega)]
    congr 4
    omega
   ·rw [bneT hp,cond_true,if_neg hp,hi (m+1) (by omega)]
    congr 4
    omega
 have:=key P [] k 0 rfl (by omega) (by simp)
 unfold impl_tripled
 rw [List.length_map]
 rw [Nat.zero_add] at this
 exact this
theorem count_loop (dict:List TVal) (body:List Int) (from_:Int) (h:THead) (P:List (Int×Int)) (hP:P.length≤2000) (hm:h.2.2.1=(P.length:Int)) (none:List TTriple):
 ∀(post pre:List (Int×Int)) (n a b:Nat),P=pre++post→post.length<n→a≤pre.length→b≤pre.length→
  spec_PageRead.l15 k n dict body from_ (a:Int) (b:Int) (pre.length:Int) lf none h (P.map (·.1)) (P.map (·.2))=
   ((cond (h.1==3)
    ((cond (((a+rowsN (tri post):Nat):Int) !=h.2.2.2.2.1) (some (true)) (some ((IntKind.wrap .i64 (h.2.2.1-((b+full lf.2.2.1 post:Nat):Int))) !=h.2.2.2.2.2.1))).bind fun b6=>some (b6))
    (some (false))).bind fun b7=>
   cond b7
    (some (((),0,4),none))
    (cond (inSl from_ ((List.length body):Int) (List.length body)) (
     (spec_EncRead k h.2.2.2.1 lf.1 (cutL body from_ ((List.length body):Int)) ((b+full lf.2.2.1 post:Nat):Int) dict).bind fun r8=>
     cond (!r8.1.2) (some (((),0,5),none)) (spec_PageRead.l29 k k 0 0 lf h (P.map (·.1)) (P.map (·.2)) r8.2 [])) Option.none)):=by
 intro post
 induction post with
 |nil=>
  intro pre n a b he hn ha hb
  obtain ⟨n,rfl⟩:∃q,n=q+1:=⟨n-1,by omega⟩
  rw [List.append_nil] at he
  subst he
  simp only [spec_PageRead.l15,hm,decide_eq_false (show ¬((P.length:Int)<(P.length:Int)) by omega),cond_false,tri,rowsN,List.filter_nil,List.length_nil,Nat.add_zero,full]
 |cons p post ih=>
  intro pre n a b he hn ha hb
  simp only [List.length_cons] at hn
  obtain ⟨n,rfl⟩:∃q,n=q+1:=⟨n-1,by omega⟩
  have hlen:P.length=pre.length+(post.length+1):=by rw [he];simp
  have hg1:rdL (P.map (·.1)) (pre.length:Int)=some p.1:=by rw [rdL_nat,List.getElem?_map,he];simp
  have hg2:rdL (P.map (·.2)) (pre.length:Int)=some p.2:=by rw [rdL_nat,List.getElem?_map,he];simp
  have hi1:IntKind.wrap .i64 ((pre.length:Int)+1)=((pre.length+1:Nat):Int):=by rw [w64 (by omega) (by omega)];omega
  have ha1:IntKind.wrap .i64 ((a:Int)+1)=((a+1:Nat):Int):=by rw [w64 (by omega) (by omega)];omega
  have hb1:IntKind.wrap .i64 ((b:Int)+1)=((b+1:Nat):Int):=by rw [w64 (by omega) (by omega)];omega
  have hi:=fun a b ha hb=>ih (pre++[p]) n a b (by rw [he];simp) (by omega) ha hb
  rw [List.length_append,List.length_singleton] at hi
  have er:∀x:Nat,x+rowsN (tri (p::post))=(x+(if p.1=0 then 1 else 0))+rowsN (tri post):=fun x=>by
   simp only [tri];rw [rowsN_cons]
   show x+((if p.1=0 then 1 else 0)+rowsN (tri post))=_
   omega
  have ef:∀x:Nat,x+full lf.2.2.1 (p::post)=(x+(if p.2=lf.2.2.1 then 1 else 0))+full lf.2.2.1 post:=fun x=>by
   simp only [full];omega
  rw [er a,ef b]
  unfold spec_PageRead.l15
  rw [hm,decide_eq_true (show (pre.length:Int)<(P.length:Int) by omega),cond_true,hg1]
  simp only [Option.bind_some,spec_PageRead.c19,spec_PageRead.c16,hg2,hi1,ha1,hb1]
  rw [←hm]
  by_cases h0:p.1=0
  ·rw [beqT h0,cond_true,if_pos h0]
   by_cases hp:p.2=lf.2.2.1
   ·rw [beqT hp,cond_true,if_pos hp];exact hi (a+1) (b+1) (by omega) (by omega)
   ·rw [beqF hp,cond_false,if_neg hp];exact hi (a+1) b (by omega) (by omega)
  ·rw [beqF h0,cond_false,if_neg h0]
   by_cases hp:p.2=lf.2.2.1
   ·rw [beqT hp,cond_true,if_pos hp];exact hi a (b+1) (by omega) (by omega)
   ·rw [beqF hp,cond_false,if_neg hp];exact hi a b (by omega) (by omega)
theorem ifill_loop (h:THead) (P:List (Int×Int)) (hP:P.length≤2000):∀(post pre:List (Int×Int)) (n:Nat) (done:List TTriple) (V:List TVal),P=pre++post→post.length<n→done.length=pre.length→V.length=full lf.2.2.1 post→
 impl_PageRead.l16 k n V (P.length:Int) (pre.length:Int) lf h (done++tri post)=some (((),IntKind.wrap .i64 (h.2.2.2.2.2.2.2.2.2.2.2.2.1+h.2.1),0),done++fill lf.2.2.1 post V):=by
 intro post
 induction post with
 |nil=>
  intro pre n done V he hn hd hV
  obtain ⟨n,rfl⟩:∃q,n=q+1:=⟨n-1,by omega⟩
  rw [List.append_nil] at he
  subst he
  simp only [impl_PageRead.l16,decide_eq_false (show ¬((P.length:Int)<(P.length:Int)) by omega),cond_false,tri,fill]
 |cons p post ih=>
  intro pre n done V he hn hd hV
  simp only [List.length_cons] at hn
  obtain ⟨n,rfl⟩:∃q,n=q+1:=⟨n-1,by omega⟩
  have hlen:P.length=pre.length+(post.length+1):=by rw [he];simp
  have hi1:IntKind.wrap .i64 ((pre.length:Int)+1)=((pre.length+1:Nat):Int):=by rw [w64 (by omega) (by omega)];omega
  have hg:rdL (done++tri (p::post)) (pre.length:Int)=some (p.1,p.2,zV,()):=by
   rw [←hd];exact getMid _ _ _
  have hi:=fun d V hV=>ih (pre++[p]) n (done++[d]) V (by rw [he];simp) (by omega) (by simp [hd]) hV
  rw [List.length_append,List.length_singleton] at hi
  simp only [full] at hV
  simp only [impl_PageRead.l16,decide_eq_true (show (pre.length:Int)<(P.length:Int) by omega),cond_true,hg,Option.bind_some,impl_PageRead.c21,hi1,fill]
  by_cases hp:p.2=lf.2.2.1
  ·rw [if_pos hp] at hV⊢
   rw [beqT hp,cond_true]
   cases V with
   |nil=>simp at hV;omega
   |cons v V=>
    simp only [List.length_cons] at hV
    rw [show rdL (v::V) 0=some v from rfl]
    simp only [Option.bind_some]
    rw [inSl_ok (by omega) (by simp;omega) (Int.le_refl _),cond_true]
    have hcut:cutL (v::V) 1 ((v::V).length:Int)=V:=by
     unfold cutL
     rw [Int.toNat_natCast,List.take_length];rfl
    have hset:List.set (done++tri (p::post)) (Int.toNat (pre.length:Int)) (p.1,p.2,v,())=(done++[(p.1,p.2,v,())])++tri post:=by
     rw [←hd]
     have:=setMid done (tri post) (p.1,p.2,zV,()) ((p.1,p.2,v,()):TTriple)
     rw [show done++tri (p::post)=done++(p.1,p.2,zV,())::tri post from rfl,this];simp
    rw [hcut,hset,hi (p.1,p.2,v,()) V (by omega)]
    simp
  ·rw [if_neg hp] at hV⊢
   rw [beqF hp,cond_false]
   have hsame:done++tri (p::post)=(done++[(p.1,p.2,zV,())])++tri post:=by simp [tri]
   rw [hsame,hi (p.1,p.2,zV,()) V (by omega)]
   simp
theorem sfill_loop (h:THead) (P:List (Int×Int)) (hP:P.length≤2000) (hm:h.2.2.1=(P.length:Int)) (V:List TVal) (hVl:V.length≤2000):∀(post pre:List (Int×Int)) (n q:Nat) (done:List TTriple),P=pre++post→post.length<n→done.length=pre.length→q+full lf.2.2.1 post=V.length→
 spec_PageRead.l29 k n (q:Int) (pre.length:Int) lf h (P.map (·.1)) (P.map (·.2)) V done=some (((),IntKind.wrap .i64 (h.2.2.2.2.2.2.2.2.2.2.2.2.1+h.2.1),0),done++fill lf.2.2.1 post (V.drop q)):=by
 intro post
 induction post with
 |nil=>
  intro pre n q done he hn hd hV
  obtain ⟨n,rfl⟩:∃q,n=q+1:=⟨n-1,by omega⟩
  rw [List.append_nil] at he
  subst he
  simp only [spec_PageRead.l29,hm,decide_eq_false (show ¬((P.length:Int)<(P.length:Int)) by omega),cond_false,fill,List.append_nil]
 |cons p post ih=>
  intro pre n q done he hn hd hV
  simp only [List.length_cons] at hn
  obtain ⟨n,rfl⟩:∃q,n=q+1:=⟨n-1,by omega⟩
  have hlen:P.length=pre.length+(post.length+1):=by rw [he];simp
  have hg1:rdL (P.map (·.1)) (pre.length:Int)=some p.1:=by rw [rdL_nat,List.getElem?_map,he];simp
  have hg2:rdL (P.map (·.2)) (pre.length:Int)=some p.2:=by rw [rdL_nat,List.getElem?_map,he];simp
  have hi1:IntKind.wrap .i64 ((pre.length:Int)+1)=((pre.length+1:Nat):Int):=by rw [w64 (by omega) (by omega)];omega
  have hi:=fun q d hV=>ih (pre++[p]) n q (done++[d]) (by rw [he];simp) (by omega) (by simp [hd]) hV
  rw [List.length_append,List.length_singleton] at hi
  simp only [full] at hV
  simp only [spec_PageRead.l29,hm,decide_eq_true (show (pre.length:Int)<(P.length:Int) by omega),cond_true,hg1,hg2,Option.bind_some,spec_PageRead.c35,hi1,fill]
  by_cases hp:p.2=lf.2.2.1
  ·rw [if_pos hp] at hV⊢
   rw [beqT hp,cond_true]
   have hql:q<V.length:=by omega
   have hgv:rdL V (q:Int)=some V[q]:=by rw [rdL_nat];exact List.getElem?_eq_getElem hql
   have hq1:IntKind.wrap .i64 ((q:Int)+1)=((q+1:Nat):Int):=by rw [w64 (by omega) (by omega)];omega
   rw [hgv]
   simp only [Option.bind_some,hq1]
   rw [lim_ok (by simp;omega),cond_true,hi (q+1) _ (by omega),List.drop_eq_getElem_cons hql]
   simp
  ·rw [if_neg hp] at hV⊢
   rw [beqF hp,cond_false,lim_ok (by simp;omega),cond_true,hi q _ (by omega)]
   simp
theorem pageLevels_eq (hlf:lfOk lf=true) (h:THead) (hk3:h.1=0∨h.1=2∨h.1=3) (hsz:h.1=3→0≤h.2.2.2.2.2.2.1∧0≤h.2.2.2.2.2.2.2.1) (h2:h.1≠2) (hm0:0≤h.2.2.1) (hm1:h.2.2.1≤2000) (b:List Int) (hb:b.length≤1048576) (hby:Byts b):
 ∃(ok:Bool) (R D rest R' D':List Int) (f:Int),impl_pageLevels k lf h b=some (((),(),rest,ok),(R,D))∧spec_l16Both k lf h b=some (((),(),f,ok),(R',D'))∧
  (ok=true→R=R'∧D=D'∧(0≤f∧f≤(b.length:Int))∧rest=cutL b f (b.length:Int)∧R.length=h.2.2.1.toNat∧D.length=h.2.2.1.toNat):=by
 unfold lfOk at hlf
 simp only [Bool.and_eq_true,decide_eq_true_eq] at hlf
 obtain ⟨_,⟨l1,l2⟩,l3⟩:=hlf
 unfold impl_pageLevels spec_l16Both
 by_cases h0:h.1=0
 ·rw [beqT h0,cond_true,cond_true]
  obtain ⟨nx,ok,R,e1,e2,e3,e4⟩:=levelsRead_any k hk b hb hby 0 h.2.2.1 lf.2.1
  simp only [e1,e2,Option.bind_some]
  obtain ⟨nx',ok',D,f1,f2,f3,f4⟩:=levelsRead_any k hk b hb hby nx h.2.2.1 lf.2.2.1
  simp only [f1,f2,Option.bind_some,csf]
  cases ok with
  |false=>
   simp only [Bool.not_false,cond_true,Bool.false_and]
   exact ⟨false,_,_,_,_,_,_,rfl,rfl,fun h=>(by cases h)⟩
  |true=>
   simp only [Bool.not_true,cond_false,Bool.true_and]
   cases ok' with
   |false=>
    simp only [Bool.not_false,cond_true]
    exact ⟨false,_,_,_,_,_,_,rfl,rfl,fun h=>(by cases h)⟩
   |true=>
    obtain ⟨⟨n0,n1⟩,n2⟩:=f3 rfl
    simp only [Bool.not_true,cond_false]
    rw [inSl_ok n0 n1 (Int.le_refl _),cond_true]
    exact ⟨true,_,_,_,_,_,_,rfl,rfl,fun _=>⟨rfl,rfl,⟨n0,n1⟩,rfl,(e3 rfl).2,n2⟩⟩
 ·have h3:h.1=3:=by omega
  obtain ⟨s1,s2⟩:=hsz h3
  rw [beqF h0]
  simp only [cond_false,cst,Option.bind_some]
  by_cases g1:h.2.2.2.2.2.2.2.1>(b.length:Int)
  ·simp only [decide_eq_true g1,Bool.true_or,cond_true]
   exact ⟨false,_,_,_,_,_,_,rfl,rfl,fun h=>(by cases h)⟩
  ·rw [w64 (show -9223372036854775808≤(b.length:Int)-h.2.2.2.2.2.2.2.1 by omega) (by omega)]
   by_cases g2:h.2.2.2.2.2.2.1>(b.length:Int)-h.2.2.2.2.2.2.2.1
   ·simp only [decide_eq_true g2,Bool.or_true,cond_true]
    exact ⟨false,_,_,_,_,_,_,rfl,rfl,fun h=>(by cases h)⟩
   ·have ew:IntKind.wrap .i64 (h.2.2.2.2.2.2.2.1+h.2.2.2.2.2.2.1)=h.2.2.2.2.2.2.2.1+h.2.2.2.2.2.2.1:=w64 (by omega) (by omega)
    have cl:∀i j:Int,(cutL b i j).length≤1048576:=fun i j=>by unfold cutL;rw [List.length_drop,List.length_take];omega
    obtain ⟨ok,R,e1,e2,e3⟩:=levelsOf_any k hk (cutL b 0 h.2.2.2.2.2.2.2.1) (cl _ _) (bytes_cut hby _ _) h.2.2.1 lf.2.1 hm0 hm1 l1 (by omega)
    obtain ⟨ok',D,f1,f2,f3⟩:=levelsOf_any k hk (cutL b h.2.2.2.2.2.2.2.1 (h.2.2.2.2.2.2.2.1+h.2.2.2.2.2.2.1)) (cl _ _) (bytes_cut hby _ _) h.2.2.1 lf.2.2.1 hm0 hm1 (by omega) (by omega)
    simp only [decide_eq_false g1,decide_eq_false g2,Bool.or_self,cond_false,ew,impl_pageLevels.d12,impl_pageLevels.d13,spec_l16Both.d8,spec_l16Both.d9,csf]
    rw [inSl_ok (Int.le_refl 0) s2 (by omega),inSl_ok (show 0≤h.2.2.2.2.2.2.2.1 from s2) (by omega) (by omega),inSl_ok (show 0≤h.2.2.2.2.2.2.2.1+h.2.2.2.2.2.2.1 by omega) (by omega) (Int.le_refl _)]
    simp only [cond_true,e1,e2,f1,f2,Option.bind_some]
    refine ⟨ok&&ok',_,_,_,_,_,_,rfl,rfl,fun hh=> ?_⟩
    obtain ⟨o1,o2⟩:=(Bool.and_eq_true _ _).mp hh
    exact ⟨rfl,rfl,⟨by omega,by omega⟩,rfl,e3 o1,f3 o2⟩
theorem pageRead_eq (b:List Int) (hl:b.length≤1048576) (hb:Byt b) (at_:Int) (dict:List TVal) (hd:dict.length<1000000000):
 ∃r,impl_PageRead k lf b at_ dict=some r∧spec_PageRead k lf b at_ dict=some r∧r.2.length≤2000∧(r.1.2.2=0→∃h,spec_HeadRead k lf b at_=some (h,0)∧(r.2.length:Int)=h.2.2.1):=by
 obtain ⟨h,c,e1,e2,e3⟩:=checked_eq k hk lf b hl hb at_
 unfold impl_PageRead spec_PageRead
 rcases e3 with ⟨c0,c3,e3⟩|⟨rfl,f1,f2,f3,f4,f5,f6,r,r1,e3⟩
 ·simp only [e2,e3,Option.bind_some,bneT c0,beqF c0,beqF c3,cond_true,cond_false,cst,csf,Bool.or_self,Bool.and_false]
  exact ⟨(((),0,c),[]),rfl,rfl,by simp,fun hh=>(c0 hh).elim⟩
 ·obtain ⟨g1,g2⟩:=head_sizes e2
  have ew:IntKind.wrap .i64 (h.2.2.2.2.2.2.2.2.2.2.2.2.1+h.2.1)=h.2.2.2.2.2.2.2.2.2.2.2.2.1+h.2.1:=w64 (show _≤bodyOf' h+h.2.1 by omega) (show bodyOf' h+h.2.1<_ by omega)
  have hsl:inSl h.2.2.2.2.2.2.2.2.2.2.2.2.1 (h.2.2.2.2.2.2.2.2.2.2.2.2.1+h.2.1) b.length=true:=inSl_ok f2 (show bodyOf' h≤bodyOf' h+h.2.1 by omega) f4
  simp only [e2,e3,Option.bind_some,bneF rfl,cond_false,csf,cst,ew,hsl,cond_true]
  by_cases hk2:h.1=2
  ·refine ⟨(((),0,1),[]),?_,?_,by simp,fun hh=>(by cases hh)⟩
   ·by_cases hs:h.2.2.2.2.2.2.2.2.1=true∧r≠h.2.2.2.2.2.2.2.2.2.1
    ·rw [if_pos hs]
     simp only [beqT hk2,show ((3:Int)==0)=false from rfl,show ((3:Int)==3)=true from rfl,Bool.or_true,Bool.and_self,cond_true]
    ·rw [if_neg hs]
     simp only [beqT hk2,show ((0:Int)==0)=true from rfl,Bool.true_or,Bool.and_self,cond_true]
   ·rw [beqT hk2,cond_true]
  ·rw [beqF hk2]
   simp only [cond_false]
   have r1:spec_CrcOf k (cutL b h.2.2.2.2.2.2.2.2.2.2.2.2.1 (h.2.2.2.2.2.2.2.2.2.2.2.2.1+h.2.1))=some r:=r1
   have hbl:(cutL b h.2.2.2.2.2.2.2.2.2.2.2.2.1 (h.2.2.2.2.2.2.2.2.2.2.2.2.1+h.2.1)).length≤1048576:=by unfold cutL;rw [List.length_drop,List.length_take];omega
   have hbb:Byts (cutL b h.2.2.2.2.2.2.2.2.2.2.2.2.1 (h.2.2.2.2.2.2.2.2.2.2.2.2.1+h.2.1)):=bytes_cut hb _ _
   have e3':(if h.2.2.2.2.2.2.2.2.1=true∧r≠h.2.2.2.2.2.2.2.2.2.1 then (h,([]:List Int),(3:Int)) else (h,cutL b (bodyOf' h) (bodyOf' h+h.2.1),0))=(if h.2.2.2.2.2.2.2.2.1=true∧r≠h.2.2.2.2.2.2.2.2.2.1 then (h,([]:List Int),(3:Int)) else (h,cutL b h.2.2.2.2.2.2.2.2.2.2.2.2.1 (h.2.2.2.2.2.2.2.2.2.2.2.2.1+h.2.1),0)):=rfl
   rw [e3']
   generalize hB:cutL b h.2.2.2.2.2.2.2.2.2.2.2.2.1 (h.2.2.2.2.2.2.2.2.2.2.2.2.1+h.2.1)=B at r1 hbl hbb
   by_cases hs:h.2.2.2.2.2.2.2.2.1=true∧r≠h.2.2.2.2.2.2.2.2.2.1
   ·rw [if_pos hs]
    refine ⟨(((),0,3),[]),?_,?_,by simp,fun hh=>(by cases hh)⟩
    ·simp only [show ((3:Int)==0)=false from rfl,show ((3:Int)==3)=true from rfl,beqF hk2,Bool.false_and,cond_false,show ((3:Int) !=0)=true from rfl,cond_true]
    ·unfold spec_PageRead.d8
     rw [hs.1,r1]
     simp only [cond_true,Option.bind_some,bneT hs.2]
   ·rw [if_neg hs]
    simp only [beqF hk2,Bool.false_and,cond_false,show ((0:Int) !=0)=false from rfl]
    obtain ⟨ok,R,D,rest,R',D',fr,p1,p2,p3⟩:=pageLevels_eq k hk lf f1 h g1 (fun h3=>⟨(g2 h3).2.2.1,(g2 h3).2.2.2⟩) hk2 f5 f6 B hbl hbb
    have hspec:spec_PageRead.d8 k dict B lf [] h=((cond (!ok)
     (some (true))
     ((cond (decide (h.2.2.1>0)) ((rdL R' 0).bind fun y15=>some (y15 !=0)) (some (false))).bind fun b16=>some (b16))).bind fun b17=>
      cond b17 (some (((),0,4),[])) (spec_PageRead.l15 k k dict B fr 0 0 0 lf [] h R' D')):=by
     unfold spec_PageRead.d8
     rw [p2]
     cases hs1:h.2.2.2.2.2.2.2.2.1 with
     |false=>rfl
     |true=>
      have hr:r=h.2.2.2.2.2.2.2.2.2.1:=Classical.byContradiction fun hh=>hs ⟨hs1,hh⟩
      rw [r1]
      simp only [cond_true,Option.bind_some,bneF hr,cond_false]
    rw [hspec,p1]
    simp only [Option.bind_some]
    cases ok with
    |false=>
     simp only [Bool.not_false,cond_true,Option.bind_some]
     exact ⟨(((),0,4),[]),rfl,rfl,by simp,fun hh=>(by cases hh)⟩
    |true=>
     obtain ⟨rfl,rfl,⟨q1,q2⟩,q3,q4,q5⟩:=p3 rfl
     obtain ⟨P,rfl,rfl,hP⟩:=zip_get (show R.length=D.length by omega)
     have hPl:h.2.2.1=(P.length:Int):=by rw [hP,q4];omega
     have hP2:P.length≤2000:=by omega
     simp only [Bool.not_true,cond_false,List.length_map]
     rw [hPl]
     have hgd:∀X:Int,(cond (decide ((P.length:Int)>0)) ((rdL (P.map (·.1)) 0).bind fun y=>some (y !=0)) (some false))=some (goesOn P):=fun _=>by
      cases P with
      |nil=>rfl
      |cons p P=>rw [decide_eq_true (show ((p::P).length:Int)>0 by simp),cond_true];rfl
     rw [hgd 0]
     simp only [Option.bind_some]
     cases goesOn P with
     |true=>
      simp only [cond_true]
      exact ⟨(((),0,4),[]),rfl,rfl,by simp,fun hh=>(by cases hh)⟩
     |false=>
      simp only [cond_false,tripled_eq k hk lf P hP2,Option.bind_some]
      have hcl:=count_loop k hk lf dict B fr h P hP2 hPl [] P [] k 0 0 rfl (by omega) (by simp) (by simp)
      have hcl:spec_PageRead.l15 k k dict B fr 0 0 0 lf [] h (P.map (·.1)) (P.map (·.2))=_:=hcl
      rw [hcl]
      have hfl:=full_le lf.2.2.1 P
      simp only [Nat.zero_add,cst,Option.bind_some,csf,inSl_ok q1 q2 (Int.le_refl _),cond_true]
      have ew2:IntKind.wrap .i64 (h.2.2.1-((full lf.2.2.1 P:Nat):Int))=((P.length-full lf.2.2.1 P:Nat):Int):=by rw [hPl,w64 (by omega) (by omega)];omega
      have ew3:IntKind.wrap .i64 (h.2.2.1-((P.length-full lf.2.2.1 P:Nat):Int))=((full lf.2.2.1 P:Nat):Int):=by rw [hPl,w64 (by omega) (by omega)];omega
      obtain ⟨eo,V,v1,v2,v3,v4⟩:=encRead_eq k hk h.2.2.2.1 lf.1 rest (by rw [q3];unfold cutL;rw [List.length_drop,List.length_take];omega) (by rw [q3];exact bytes_cut hbb _ _) ((full lf.2.2.1 P:Nat):Int) dict hd
      have hro:impl_RowsOf k (tri P)=some (rowsN (tri P):Int):=(rowsOf_eq k (tri P) (by rw [tri_len];omega) hk).2
      rw [q3] at v1 v2
      unfold impl_PageRead.d10
      simp only [hro,Option.bind_some,ew2,ew3,q3,v1,v2,tri_len,cst]
      have fin:∃rr,(cond (!eo) (some (((),0,5),[])) (impl_PageRead.l16 k k V (P.length:Int) 0 lf h (tri P)))=some rr∧(cond (!eo) (some (((),0,5),[])) (spec_PageRead.l29 k k 0 0 lf h (P.map (·.1)) (P.map (·.2)) V []))=some rr∧rr.2.length≤2000∧(rr.1.2.2=0→∃h,spec_HeadRead k lf b at_=some (h,0)∧(rr.2.length:Int)=h.2.2.1):=by
       cases eo with
       |false=>exact ⟨(((),0,5),[]),rfl,rfl,by simp,fun hh=>(by cases hh)⟩
       |true=>
        obtain ⟨w1,_,_⟩:=v4 rfl
        have w1:V.length=full lf.2.2.1 P:=by rw [w1];simp
        have i1:=ifill_loop k hk lf h P hP2 P [] k [] V rfl (by omega) rfl w1
        have i1:impl_PageRead.l16 k k V (P.length:Int) 0 lf h (tri P)=_:=i1
        have s1:=sfill_loop k hk lf h P hP2 hPl V v3 P [] k 0 [] rfl (by omega) rfl (by omega)
        have s1:spec_PageRead.l29 k k 0 0 lf h (P.map (·.1)) (P.map (·.2)) V []=_:=s1
        rw [i1,s1]
        have hfl2:(([]:List TTriple)++fill lf.2.2.1 P V).length=P.length:=by rw [List.nil_append,fill_len _ _ _ w1]
        refine ⟨_,rfl,rfl,?_,fun _=>⟨h,e2,?_⟩⟩
        ·show (([]:List TTriple)++fill lf.2.2.1 P V).length≤2000
         rw [hfl2];exact hP2
        ·show ((([]:List TTriple)++fill lf.2.2.1 P V).length:Int)=_
         rw [hfl2,hPl]
      obtain ⟨rr,i1,s1,hrl,hrh⟩:=fin
      cases h3:(h.1==3) with
      |false=>
       simp only [cond_false,Option.bind_some]
       exact ⟨rr,i1,s1,hrl,fun hh=>by obtain ⟨h',q1,q2⟩:=hrh hh;rw [e2] at q1;exact ⟨h',q1,q2⟩⟩
      |true=>
       simp only [cond_true,Option.bind_some]
       by_cases hr1:(rowsN (tri P):Int)=h.2.2.2.2.1
       ·simp only [bneF hr1,cond_false,Bool.false_or]
        by_cases hr2:((P.length-full lf.2.2.1 P:Nat):Int)=h.2.2.2.2.2.1
        ·simp only [bneF hr2,cond_false]
         exact ⟨rr,i1,s1,hrl,fun hh=>by obtain ⟨h',q1,q2⟩:=hrh hh;rw [e2] at q1;exact ⟨h',q1,q2⟩⟩
        ·simp only [bneT hr2,cond_true]
         exact ⟨(((),0,4),[]),rfl,rfl,by simp,fun hh=>(by cases hh)⟩
       ·simp only [bneT hr1,cond_true,Bool.true_or]
        exact ⟨(((),0,4),[]),rfl,rfl,by simp,fun hh=>(by cases hh)⟩
end
end Go.Law
end
section
set_option linter.unusedVariables false
set_option linter.unusedSimpArgs false
namespace Go.Law
open Go.Am Go.Fn
theorem pages_loop (k:Nat) (hk:2000000≤k) (lf:TLeaf) (ck:TChunk) (b:List Int) (hl:b.length≤1048576) (hb:Byt b) (dict:List TVal):∀(f n:Nat) (at_ many:Int) (o:List Int),((b.length:Int)-at_).toNat≤f→f<n→0≤at_→0≤many→many+2000*f≤1000000000000→o.length+f≤1048576→
 ∃(c:Int) (P:List Int) (V:List TVal),impl_ChunkPages.l11 k n b many at_ lf ck dict o=some (((),(),c),(P,V))∧spec_ChunkPages.l13 k n b at_ many lf ck [] [] dict o=some (((),(),c),(P,V))∧
  P.length≤1048576∧(V=dict∨V=[]):=by
 intro f
 induction f with
 |zero=>
  intro n at_ many o hf hn h0 hm hb2 hol
  obtain ⟨n,rfl⟩:∃x,n=x+1:=⟨n-1,by omega⟩
  obtain ⟨⟨h,c⟩,e1,e2,e3,e4⟩:=headRead_eq k hk lf b (by omega) hb at_
  simp only [impl_ChunkPages.l11,spec_ChunkPages.l13]
  by_cases hmore:many<ck.2.2.2.1
  ·have hc:¬c=0:=by
    intro hc
    obtain ⟨_,_,_,f4,_,_,_,f8⟩:=e3 hc
    have f4:bodyOf' h+h.2.1≤(b.length:Int):=f4
    have f8:at_<bodyOf' h:=f8
    have f2:0≤h.2.1:=by obtain ⟨_,f2,_⟩:=e3 hc;exact f2
    omega
   simp only [decide_eq_true hmore,cond_true,e1,e2,Option.bind_some,bneT hc]
   exact ⟨_,_,_,rfl,rfl,by simp,.inr rfl⟩
  ·simp only [decide_eq_false hmore,cond_false]
   exact ⟨_,_,_,rfl,rfl,by omega,.inl rfl⟩
 |succ f ih=>
  intro n at_ many o hf hn h0 hm hb2 hol
  obtain ⟨n,rfl⟩:∃x,n=x+1:=⟨n-1,by omega⟩
  obtain ⟨⟨h,c⟩,e1,e2,e3,e4⟩:=headRead_eq k hk lf b (by omega) hb at_
  simp only [impl_ChunkPages.l11,spec_ChunkPages.l13]
  by_cases hmore:many<ck.2.2.2.1
  ·simp only [decide_eq_true hmore,cond_true,e1,e2,Option.bind_some]
   by_cases hc:c=0
   ·subst hc
    obtain ⟨_,f2,f3,f4,f5,f6,_,f8⟩:=e3 rfl
    have f2:0≤h.2.1:=f2
    have f4:bodyOf' h+h.2.1≤(b.length:Int):=f4
    have f8:at_<bodyOf' h:=f8
    have f5:0≤h.2.2.1:=f5
    have f6:h.2.2.1≤2000:=f6
    simp only [bneF rfl,cond_false,cst,Option.bind_some]
    cases ((h.1==2||h.2.2.1==0)||decide (IntKind.wrap .i64 (many+h.2.2.1)>ck.2.2.2.1)) with
    |true=>
     simp only [cond_true]
     exact ⟨_,_,_,rfl,rfl,by simp,.inr rfl⟩
    |false=>
     have em:IntKind.wrap .i64 (many+h.2.2.1)=many+h.2.2.1:=w64 (by omega) (by omega)
     have eb:IntKind.wrap .i64 (h.2.2.2.2.2.2.2.2.2.2.2.2.1+h.2.1)=h.2.2.2.2.2.2.2.2.2.2.2.2.1+h.2.1:=w64 (show _≤bodyOf' h+h.2.1 by omega) (show bodyOf' h+h.2.1<_ by omega)
     simp only [cond_false,em,eb]
     rw [lim_ok (show o.length+[at_].length≤4294967296 by simp;omega),cond_true,cond_true]
     exact ih n (bodyOf' h+h.2.1) (many+h.2.2.1) (o++[at_]) (by omega) (by omega) (by omega) (by omega) (by omega) (by simp;omega)
   ·simp only [bneT hc,cond_true]
    exact ⟨_,_,_,rfl,rfl,by simp,.inr rfl⟩
  ·simp only [decide_eq_false hmore,cond_false]
   exact ⟨_,_,_,rfl,rfl,by omega,.inl rfl⟩
theorem chunkPages_eq (k:Nat) (hk:2000000≤k) (lf:TLeaf) (ck:TChunk) (b:List Int) (hl:b.length≤1048576) (hb:Byt b):
 ∃(c:Int) (P:List Int) (V:List TVal),impl_ChunkPages k lf b ck=some (((),(),c),(P,V))∧spec_ChunkPages k lf b ck=some (((),(),c),(P,V))∧P.length≤1048576∧V.length≤2000:=by
 unfold impl_ChunkPages spec_ChunkPages impl_ChunkPages.c9 spec_ChunkPages.c10
 simp only [cst,Option.bind_some]
 by_cases hat:ck.2.1<0
 ·simp only [decide_eq_true hat,Bool.true_or,cond_true]
  exact ⟨_,_,_,rfl,rfl,by simp,by simp⟩
 by_cases hdi:ck.2.2.1< -1
 ·simp only [decide_eq_true hdi,Bool.or_true,cond_true]
  exact ⟨_,_,_,rfl,rfl,by simp,by simp⟩
 simp only [decide_eq_false hat,decide_eq_false hdi,Bool.or_self,cond_false]
 by_cases hd:ck.2.2.1≥0
 ·obtain ⟨r,e1,e2,e3,_⟩:=dictRead_eq k hk lf.1 b hl hb ck.2.2.1
  simp only [decide_eq_true hd,cond_true,e1,e2,Option.bind_some]
  by_cases hc:r.1.2.2=0
  ·simp only [bneF hc,cond_false]
   obtain ⟨c,P,V,i1,i2,i3,i4⟩:=pages_loop k hk lf ck b hl hb r.2 b.length k ck.2.1 0 [] (by omega) (by omega) (by omega) (by omega) (by omega) (by simp;omega)
   refine ⟨c,P,V,i1,i2,i3,?_⟩
   rcases i4 with rfl|rfl
   ·exact e3
   ·simp
  ·simp only [bneT hc,cond_true]
   exact ⟨_,_,_,rfl,rfl,by simp,by simp⟩
 ·simp only [decide_eq_false hd,cond_false]
  obtain ⟨c,P,V,i1,i2,i3,i4⟩:=pages_loop k hk lf ck b hl hb [] b.length k ck.2.1 0 [] (by omega) (by omega) (by omega) (by omega) (by omega) (by simp;omega)
  refine ⟨c,P,V,i1,i2,i3,?_⟩
  rcases i4 with rfl|rfl<;>simp
end Go.Law
end
section
set_option linter.unusedVariables false
set_option linter.unusedSimpArgs false
set_option linter.unusedSectionVars false
namespace Go.Law
open Go.Am Go.Fn
def manys (k:Nat) (lf:TLeaf) (b:List Int):List Int→Option Int
 |[]=>some 0
 |p::r=>match spec_HeadRead k lf b p,manys k lf b r with
  |some (h,0),some m=>some (h.2.2.1+m)
  |_,_=>none
theorem manys_append {k:Nat} {lf:TLeaf} {b:List Int}:∀(P Q:List Int) (x y:Int),manys k lf b P=some x→manys k lf b Q=some y→manys k lf b (P++Q)=some (x+y)
 |[],Q,x,y,h1,h2=>by
  simp only [manys,Option.some.injEq] at h1
  subst h1
  simpa using h2
 |p::P,Q,x,y,h1,h2=>by
  simp only [manys] at h1
  split at h1
  ·rename_i h m e1 e2
   cases h1
   simp only [List.cons_append,manys,e1,manys_append P Q m y e2 h2]
   congr 1
   omega
  ·cases h1
section
variable (k:Nat) (hk:2000000≤k) (lf:TLeaf) (b:List Int) (hl:b.length≤1048576) (hb:Byt b)
include hk hl hb
theorem head_many {p:Int} {h:THead} (e:spec_HeadRead k lf b p=some (h,0)):0≤h.2.2.1∧h.2.2.1≤2000:=by
 obtain ⟨⟨h',c⟩,_,e2,e3,_⟩:=headRead_eq k hk lf b (by omega) hb p
 rw [e] at e2
 simp only [Option.some.injEq,Prod.mk.injEq] at e2
 obtain ⟨rfl,rfl⟩:=e2
 obtain ⟨_,_,_,_,h5,h6,_⟩:=e3 rfl
 exact ⟨h5,h6⟩
theorem pages_sum (ck:TChunk) (hck:ck.2.2.2.1≤2000) (dict:List TVal):∀(n:Nat) (at_ many:Int) (o:List Int) (S:Int) (P:List Int) (V:List TVal),0≤many→many≤4000→manys k lf b o=some S→S≤many→(many≤ck.2.2.2.1∨o=[])→
 spec_ChunkPages.l13 k n b at_ many lf ck [] [] dict o=some (((),(),0),(P,V))→∃S,manys k lf b P=some S∧(S≤ck.2.2.2.1∨P=[]):=by
 intro n
 induction n with
 |zero=>intro at_ many o S P V _ _ _ _ _ h;cases h
 |succ n ih=>
  intro at_ many o S P V h0 h4 hS hSm hm h
  simp only [spec_ChunkPages.l13] at h
  replace h:=cnd h;rcases h with ⟨_,h⟩|⟨_,h⟩
  ·replace h:=bnd h;obtain ⟨⟨hd,c⟩,e,h⟩:=h
   replace h:=cnd h;rcases h with ⟨_,h⟩|⟨hc,h⟩
   ·simp only [Option.some.injEq,Prod.mk.injEq] at h
    obtain ⟨⟨_,_,rfl⟩,_⟩:=h
    rename_i hc
    simp at hc
   ·have hc:c=0:=by simpa using hc
    subst hc
    obtain ⟨m0,m1⟩:=head_many k hk lf b hl hb e
    have ew:IntKind.wrap .i64 (many+hd.2.2.1)=many+hd.2.2.1:=w64 (by omega) (by omega)
    simp only [ew,cst,Option.bind_some] at h
    replace h:=cnd h;rcases h with ⟨_,h⟩|⟨hc,h⟩
    ·cases h
    ·replace h:=cnd h;rcases h with ⟨_,h⟩|⟨_,h⟩
     ·simp only [Bool.or_eq_false_iff,decide_eq_false_iff_not] at hc
      have h1:manys k lf b [at_]=some hd.2.2.1:=by simp [manys,e]
      refine ih _ _ _ (S+hd.2.2.1) _ _ (by omega) (by omega) (manys_append _ _ _ _ hS h1) (by omega) (.inl (by omega)) h
     ·cases h
  ·simp only [Option.some.injEq,Prod.mk.injEq] at h
   obtain ⟨_,rfl,_⟩:=h
   exact ⟨S,hS,hm.imp (fun h=>by omega) id⟩
theorem chunkPages_sum (ck:TChunk) (hck:1≤ck.2.2.2.1∧ck.2.2.2.1≤2000) {P:List Int} {V:List TVal} (h:spec_ChunkPages k lf b ck=some (((),(),0),(P,V))):∃S,manys k lf b P=some S∧S≤2000:=by
 have fin:∀dict,spec_ChunkPages.l13 k k b ck.2.1 0 lf ck [] [] dict []=some (((),(),0),(P,V))→∃S,manys k lf b P=some S∧S≤2000:=by
  intro dict h
  obtain ⟨S,s1,s2⟩:=pages_sum k hk lf b hl hb ck hck.2 dict k ck.2.1 0 [] 0 P V (by omega) (by omega) rfl (by omega) (.inr rfl) h
  refine ⟨S,s1,?_⟩
  rcases s2 with s2|s2
  ·omega
  ·subst s2
   simp only [manys,Option.some.injEq] at s1
   omega
 unfold spec_ChunkPages spec_ChunkPages.c10 at h
 replace h:=bnd h;obtain ⟨b1,_,h⟩:=h
 replace h:=cnd h;rcases h with ⟨_,h⟩|⟨_,h⟩
 ·cases h
 replace h:=cnd h;rcases h with ⟨_,h⟩|⟨_,h⟩
 ·replace h:=bnd h;obtain ⟨r,_,h⟩:=h
  replace h:=cnd h;rcases h with ⟨hc,h⟩|⟨_,h⟩
  ·simp only [Option.some.injEq,Prod.mk.injEq] at h
   obtain ⟨⟨_,_,h⟩,_⟩:=h
   rw [h] at hc
   simp at hc
  ·exact fin _ h
 ·exact fin _ h
theorem chunkRead_loop (dict:List TVal) (hd:dict.length≤2000) (Ps:List Int) (hP:Ps.length≤1048576):∀(post pre:List Int) (n n':Nat) (o:List TTriple),Ps=pre++post→post.length<n→post.length<n'→o.length≤2000*pre.length→
 ∃c l,impl_ChunkRead.l6 k n b (Ps.length:Int) (pre.length:Int) lf dict o Ps=some (((),c),l)∧spec_ChunkRead.l6 k n' b (pre.length:Int) lf Ps dict o=some (((),c),l)∧l.length≤2000*Ps.length∧
  (∀S T,manys k lf b post=some S→(o.length:Int)=T→(l.length:Int)≤T+S):=by
 intro post
 induction post with
 |nil=>
  intro pre n n' o h hn hn' ho
  obtain ⟨n,rfl⟩:∃q,n=q+1:=⟨n-1,by omega⟩
  obtain ⟨n',rfl⟩:∃q,n'=q+1:=⟨n'-1,by omega⟩
  rw [List.append_nil] at h
  subst h
  simp only [impl_ChunkRead.l6,spec_ChunkRead.l6,decide_eq_false (show ¬((Ps.length:Int)<(Ps.length:Int)) by omega),cond_false]
  refine ⟨0,o,rfl,rfl,ho,fun S T hS hT=> ?_⟩
  simp only [manys,Option.some.injEq] at hS
  omega
 |cons p post ih=>
  intro pre n n' o h hn hn' ho
  simp only [List.length_cons] at hn hn'
  obtain ⟨n,rfl⟩:∃q,n=q+1:=⟨n-1,by omega⟩
  obtain ⟨n',rfl⟩:∃q,n'=q+1:=⟨n'-1,by omega⟩
  have hlen:Ps.length=pre.length+(post.length+1):=by rw [h];simp
  have hg:rdL Ps (pre.length:Int)=some p:=by rw [h];exact getMid _ _ _
  have hi1:IntKind.wrap .i64 ((pre.length:Int)+1)=((pre.length+1:Nat):Int):=by rw [w64 (by omega) (by omega)];omega
  obtain ⟨r,e1,e2,e3,e4⟩:=pageRead_eq k hk lf b hl hb p dict (by omega)
  simp only [impl_ChunkRead.l6,spec_ChunkRead.l6,decide_eq_true (show (pre.length:Int)<(Ps.length:Int) by omega),cond_true,hg,Option.bind_some,e1,e2,hi1]
  by_cases hc:r.1.2.2=0
  ·rw [bneF hc,cond_false,cond_false,lim_ok (by omega),cond_true,cond_true]
   obtain ⟨c,l,i1,i2,i3,i4⟩:=ih (pre++[p]) n n' (o++r.2) (by rw [h];simp) (by omega) (by omega) (by simp;omega)
   rw [List.length_append,List.length_singleton] at i1 i2
   refine ⟨c,l,i1,i2,i3,fun S T hS hT=> ?_⟩
   simp only [manys] at hS
   split at hS
   ·rename_i h m q1 q2
    cases hS
    obtain ⟨h',q3,q4⟩:=e4 hc
    rw [q1] at q3
    simp only [Option.some.injEq,Prod.mk.injEq] at q3
    obtain ⟨rfl,_⟩:=q3
    have:=i4 m (T+h.2.2.1) q2 (by rw [List.length_append];omega)
    omega
   ·cases hS
  ·rw [bneT hc,cond_true,cond_true]
   refine ⟨_,[],rfl,rfl,by simp,fun S T hS hT=> ?_⟩
   have pos:∀(Q:List Int) (S:Int),manys k lf b Q=some S→0≤S:=by
    intro Q
    induction Q with
    |nil=>intro S hS;simp only [manys,Option.some.injEq] at hS;omega
    |cons q Q ihQ=>
     intro S hS
     simp only [manys] at hS
     split at hS
     ·rename_i h m q1 q2
      cases hS
      have:=ihQ m q2
      have:=(head_many k hk lf b hl hb q1).1
      omega
     ·cases hS
   have:=pos _ _ hS
   simp only [List.length_nil]
   omega
theorem chunkRead_eq (ck:TChunk):∃c l,impl_ChunkRead k lf b ck=some (((),c),l)∧spec_ChunkRead k lf b ck=some (((),c),l)∧l.length≤2100000000∧(1≤ck.2.2.2.1∧ck.2.2.2.1≤2000→l.length≤2000):=by
 obtain ⟨c,P,V,e1,e2,e3,e4⟩:=chunkPages_eq k hk lf ck b hl hb
 unfold impl_ChunkRead spec_ChunkRead
 simp only [e1,e2,Option.bind_some]
 by_cases hc:c=0
 ·subst hc
  simp only [bneF rfl,cond_false]
  obtain ⟨c,l,i1,i2,i3,i4⟩:=chunkRead_loop k hk lf b hl hb V e4 P e3 P [] k k [] rfl (by omega) (by omega) (by simp)
  refine ⟨c,l,i1,i2,by omega,fun hck=> ?_⟩
  obtain ⟨S,s1,s2⟩:=chunkPages_sum k hk lf b hl hb ck hck e2
  have:=i4 S 0 s1 (by simp)
  omega
 ·simp only [bneT hc,cond_true]
  exact ⟨c,[],rfl,rfl,by simp,fun _=>by simp⟩
end
end Go.Law
end
section
set_option linter.unusedVariables false
set_option linter.unusedSimpArgs false
namespace Go.Law
open Go.Am Go.Fn
variable (k:Nat)
theorem w1 {x:Int} {c:Int} (h:I64 x) (hc:0≤c) (hb:x+c<9223372036854775808):IntKind.wrap .i64 (x+c)=x+c:=w64 (by have:=h.1;omega) hb
theorem markTextLoop:∀(f n:Nat) (t:Int) (acc:ByteArray),t<10^f→f<n→acc.size+f≤1000→t<9223372036854775808→∃s,laws_markText.l4 k n t acc=some s∧s.size≤1001:=by
 intro f
 induction f with
 |zero=>
  intro n t acc ht hn ha h64
  obtain ⟨n,rfl⟩:∃j,n=j+1:=⟨n-1,by omega⟩
  have ht:t<1:=by simpa using ht
  simp only [laws_markText.l4,decide_eq_false (show ¬t>0 by omega),cond_false]
  rw [lim_ok (by show 1+acc.size≤_;omega),cond_true]
  exact ⟨_,rfl,by rw [ByteArray.size_append];show 1+acc.size≤_;omega⟩
 |succ f ih=>
  intro n t acc ht hn ha h64
  obtain ⟨n,rfl⟩:∃j,n=j+1:=⟨n-1,by omega⟩
  by_cases h:t>0
  ·simp only [laws_markText.l4,decide_eq_true h,cond_true]
   rw [lim_ok (by rw [intsStr_size];simp;omega),cond_true,Int.tdiv_eq_ediv_of_nonneg (by omega),w64 (show -9223372036854775808≤t/10 by omega) (by omega)]
   refine ih n (t/10) _ ?_ (by omega) (by rw [ByteArray.size_append,intsStr_size];simp;omega) (by omega)
   have hp:(10:Int)^(f+1)=10^f*10:=Int.pow_succ 10 f
   omega
  ·simp only [laws_markText.l4,decide_eq_false h,cond_false]
   rw [lim_ok (by show 1+acc.size≤_;omega),cond_true]
   exact ⟨_,rfl,by rw [ByteArray.size_append];show 1+acc.size≤_;omega⟩
theorem markText_ok (hk:100≤k) (t:Int) (h:t<9223372036854775808):∃s,laws_markText k t=some s:=by
 unfold laws_markText
 by_cases h0:t≤0
 ·simp only [decide_eq_true h0,cond_true]
  exact ⟨_,rfl⟩
 ·simp only [decide_eq_false h0,cond_false]
  obtain ⟨s,hs,_⟩:=markTextLoop k 19 k t ⟨#[]⟩ (by omega) (by omega) (by decide) h
  exact ⟨s,hs⟩
def mtx (t:Int):ByteArray:=(laws_markText k t).getD ⟨#[]⟩
theorem mtx_eq (hk:100≤k) (t:Int) (h:t<9223372036854775808):laws_markText k t=some (mtx k t):=by
 obtain ⟨s,hs⟩:=markText_ok k hk t h
 unfold mtx
 rw [hs];rfl
end Go.Law
end
section
set_option linter.unusedVariables false
set_option linter.unusedSimpArgs false
namespace Go.Law
open Go.Am Go.Fn
def xtot {α:Type} (f:α→Nat):List α→Nat
 |[]=>0
 |x::r=>f x+xtot f r
theorem xtot_le {α:Type} {f:α→Nat} {C:Nat}:∀(l:List α),(∀x,x∈l→f x≤C)→xtot f l≤C*l.length
 |[],_=>Nat.zero_le _
 |x::r,h=>by
  have h1:=h x (List.mem_cons_self ..)
  have h2:=xtot_le r (fun y hy=>h y (List.mem_cons_of_mem _ hy))
  simp only [xtot,List.length_cons,Nat.mul_add,Nat.mul_one]
  omega
theorem xtot_mem {α:Type} {f:α→Nat}:∀(l:List α) (x:α),x∈l→f x≤xtot f l
 |y::r,x,h=>by
  simp only [xtot]
  rcases List.mem_cons.1 h with rfl|h
  ·omega
  ·have:=xtot_mem (f:=f) r x h;omega
def okL {α:Type} (P:α→Prop) (l:List α):Prop:=l.length≤1048576∧∀x,x∈l→P x
theorem okL.tot {α:Type} {P:α→Prop} {l:List α} (h:okL P l) {f:α→Nat} {C:Nat} (hc:∀x,P x→f x≤C):xtot f l≤C*1048576:=by
 have:=xtot_le l (f:=f) (C:=C) (fun x hx=>hc x (h.2 x hx))
 exact Nat.le_trans this (Nat.mul_le_mul_left _ h.1)
def mkL {α:Type} (mk:α→Int→α) (cnt:α→Nat):List α→Int→List α
 |[],_=>[]
 |x::r,m=>mk x m::mkL mk cnt r (m+cnt x)
theorem nat1 {α:Type} (pre:List α) (h:pre.length≤1048576):IntKind.wrap .i64 ((pre.length:Int)+1)=((pre.length+1:Nat):Int):=by rw [w64 (by omega) (by omega)];omega
theorem ltMid {α:Type} (pre post:List α) (x:α):decide ((pre.length:Int)<((pre++x::post).length:Int))=true:=decide_eq_true (by simp;omega)
theorem ltEnd {α:Type} (l:List α):decide ((l.length:Int)<(l.length:Int))=false:=decide_eq_false (by omega)
theorem xto_gen {α:Type} (F:Nat→List α→Int→List α→Option (Unit×List α)) (z:α) (P:α→Prop)
 (h0:∀n l o,F (n+1) l (l.length:Int) o=some ((),o))
 (h1:∀n pre x post o,P x→pre.length≤1048576→F (n+1) (pre++x::post) (pre.length:Int) (pre++z::o)=F n (pre++x::post) ((pre.length+1:Nat):Int) (pre++x::o)):
 ∀(post pre:List α) (n:Nat),post.length<n→pre.length+post.length≤1048576→(∀x,x∈post→P x)→F n (pre++post) (pre.length:Int) (pre++List.replicate post.length z)=some ((),pre++post):=by
 intro post
 induction post with
 |nil=>
  intro pre n hn hl hP
  obtain ⟨n,rfl⟩:∃j,n=j+1:=⟨n-1,by omega⟩
  simp only [List.append_nil,List.length_nil,List.replicate_zero]
  exact h0 n pre pre
 |cons x post ih=>
  intro pre n hn hl hP
  obtain ⟨n,rfl⟩:∃j,n=j+1:=⟨n-1,by omega⟩
  simp only [List.length_cons] at hn hl
  have:=ih (pre++[x]) n (by omega) (by simp;omega) (fun y hy=>hP y (List.mem_cons_of_mem _ hy))
  rw [List.length_cons,List.replicate_succ,h1 n pre x post _ (hP x (List.mem_cons_self ..)) (by omega)]
  rw [List.length_append,List.length_singleton,List.append_assoc,List.singleton_append,List.append_assoc,List.singleton_append] at this
  exact this
theorem xeq_gen {α:Type} (F:Nat→List α→List α→Int→Option Bool) (P:α→Prop)
 (h0:∀n l,F (n+1) l l (l.length:Int)=some true)
 (h1:∀n pre x post,P x→pre.length≤1048576→F (n+1) (pre++x::post) (pre++x::post) (pre.length:Int)=F n (pre++x::post) (pre++x::post) ((pre.length+1:Nat):Int)):
 ∀(post pre:List α) (n:Nat),post.length<n→pre.length+post.length≤1048576→(∀x,x∈post→P x)→F n (pre++post) (pre++post) (pre.length:Int)=some true:=by
 intro post
 induction post with
 |nil=>
  intro pre n hn hl hP
  obtain ⟨n,rfl⟩:∃j,n=j+1:=⟨n-1,by omega⟩
  simp only [List.append_nil]
  exact h0 n pre
 |cons x post ih=>
  intro pre n hn hl hP
  obtain ⟨n,rfl⟩:∃j,n=j+1:=⟨n-1,by omega⟩
  simp only [List.length_cons] at hn hl
  have:=ih (pre++[x]) n (by omega) (by simp;omega) (fun y hy=>hP y (List.mem_cons_of_mem _ hy))
  rw [h1 n pre x post (hP x (List.mem_cons_self ..)) (by omega)]
  rw [List.length_append,List.length_singleton,List.append_assoc,List.singleton_append] at this
  exact this
theorem xmark_gen {α:Type} (F:Nat→Int→Int→List α→Option (Int×List α)) (mk:α→Int→α) (cnt:α→Nat) (C:Nat) (P:α→Prop) (B:Int) (hC:∀x,P x→cnt x≤C)
 (h0:∀n m l,F (n+1) m (l.length:Int) l=some (m,l))
 (h1:∀n m pre x post,P x→0≤m→m+cnt x≤B→pre.length≤1048576→F (n+1) m (pre.length:Int) (pre++x::post)=F n (m+cnt x) ((pre.length+1:Nat):Int) (pre++mk x m::post)):
 ∀(post pre:List α) (n:Nat) (m:Int),post.length<n→pre.length+post.length≤1048576→(∀x,x∈post→P x)→0≤m→m+xtot cnt post≤B→F n m (pre.length:Int) (pre++post)=some (m+xtot cnt post,pre++mkL mk cnt post m):=by
 intro post
 induction post with
 |nil=>
  intro pre n m hn hl hP hm hB
  obtain ⟨n,rfl⟩:∃j,n=j+1:=⟨n-1,by omega⟩
  simp only [List.append_nil,xtot,mkL]
  rw [h0 n m pre]
  simp
 |cons x post ih=>
  intro pre n m hn hl hP hm hB
  obtain ⟨n,rfl⟩:∃j,n=j+1:=⟨n-1,by omega⟩
  simp only [List.length_cons,xtot] at hn hl hB
  have:=ih (pre++[mk x m]) n (m+cnt x) (by omega) (by simp;omega) (fun y hy=>hP y (List.mem_cons_of_mem _ hy)) (by omega) (by omega)
  rw [h1 n m pre x post (hP x (List.mem_cons_self ..)) hm (by omega) (by omega)]
  rw [List.length_append,List.length_singleton,List.append_assoc,List.singleton_append,List.append_assoc,List.singleton_append] at this
  rw [this]
  simp only [xtot,mkL]
  congr 2
  omega
def szOut (s:Nat) (m:Int):Int:=if (s:Int)≤m then m-(s:Int) else -1
theorem szOut_pos {s:Nat} {m:Int} (h:(s:Int)≤m):szOut s m=m-s:=if_pos h
theorem szOut_neg {s:Nat} {m:Int} (h:¬(s:Int)≤m):szOut s m= -1:=if_neg h
theorem i64_wf' {x:Int} (h:(Lit.int .i64 x).wf=true):I64 x:=by
 simp only [Lit.wf,Bool.and_eq_true,decide_eq_true_eq] at h
 have h1:IntKind.min .i64= -9223372036854775808:=by decide
 have h2:IntKind.max .i64=9223372036854775807:=by decide
 rw [h1,h2] at h
 exact ⟨by omega,by omega⟩
end Go.Law
end
section
set_option linter.unusedVariables false
set_option linter.unusedSimpArgs false
set_option maxRecDepth 4000
namespace Go.Law
open Go.Am Go.Fn
variable (k:Nat)
def okByte (x:Int):Prop:=0≤x∧x<256
def cntByte (x:Int):Nat:=1
def mkByte (k:Nat) (x:Int) (m:Int):Int:=IntKind.wrap .u8 m
theorem cntByte_le (x:Int) (h:okByte x):cntByte x≤1:=Nat.le_refl _
theorem xtoByteS (hk:2000000≤k) (l:List Int) (hl:okL okByte l):laws_toByteS k l=some ((),l):=by
 unfold laws_toByteS
 have h:=hl.1
 rw [okLen_ok (by omega) (by omega),cond_true]
 refine xto_gen (laws_toByteS.l3 k) (0:Int) okByte ?_ ?_ l [] k (by omega) (by simpa using h) hl.2
 ·intro n l o
  simp only [laws_toByteS.l3,ltEnd,cond_false]
 ·intro n pre x post o hx hp
  simp only [laws_toByteS.l3,ltMid,cond_true,getMid,Option.bind_some,laws_toChunk,laws_toLeaf,setMid,nat1 pre hp]
theorem xeqByteS (hk:2000000≤k) (l:List Int) (hl:okL okByte l):laws_eqByteS k l l=some true:=by
 unfold laws_eqByteS
 have h:=hl.1
 simp only [bneF rfl,cond_false]
 refine xeq_gen (laws_eqByteS.l4 k) okByte ?_ ?_ l [] k (by omega) (by simpa using h) hl.2
 ·intro n l
  simp only [laws_eqByteS.l4,ltEnd,cond_false]
 ·intro n pre x post hx hp
  simp only [laws_eqByteS.l4,ltMid,cond_true,getMid,Option.bind_some,bneF rfl,eqS_iff,decide_true,Bool.not_true,cond_false,nat1 pre hp]
theorem xmarkByteS (hk:2000000≤k) (l:List Int) (hl:okL okByte l) (m:Int) (h0:0≤m) (hm:m+(xtot cntByte l:Nat)≤4611686018427387904):laws_markByteS k m l=some (m+(xtot cntByte l:Nat),mkL (mkByte k) cntByte l m):=by
 unfold laws_markByteS
 have h:=hl.1
 refine xmark_gen (laws_markByteS.l2 k) (mkByte k) cntByte 1 okByte 4611686018427387904 cntByte_le ?_ ?_ l [] k m (by omega) (by simpa using h) hl.2 h0 hm
 ·intro n m l
  simp only [laws_markByteS.l2,ltEnd,cond_false]
 ·intro n m pre x post hx h0 hm hp
  simp only [cntByte] at hm
  have e0:IntKind.wrap .i64 (m+1)=m+1:=w64 (by omega) (by omega)
  have eN:m+1=m+(cntByte x:Nat):=by simp only [cntByte]<;>omega
  simp only [laws_markByteS.l2,ltMid,cond_true,getMid,Option.bind_some,setMid,e0,laws_markChunk,nat1 pre hp]
  rw [eN]
  rfl
def okInt (x:Int):Prop:=True
def goodInt (x:Int):Prop:=I64 x
def cntInt (x:Int):Nat:=1
def mkInt (k:Nat) (x:Int) (m:Int):Int:=m
def szInt (x:Int):Nat:=0
theorem cntInt_le (x:Int) (h:okInt x):cntInt x≤1:=Nat.le_refl _
theorem okInt_of (x:Int) (hg:goodInt x) (h:szInt x≤1048576):okInt x:=trivial
theorem xtoIntS (hk:2000000≤k) (l:List Int) (hl:okL okInt l):laws_toIntS k l=some ((),l):=by
 unfold laws_toIntS
 have h:=hl.1
 rw [okLen_ok (by omega) (by omega),cond_true]
 refine xto_gen (laws_toIntS.l3 k) (0:Int) okInt ?_ ?_ l [] k (by omega) (by simpa using h) hl.2
 ·intro n l o
  simp only [laws_toIntS.l3,ltEnd,cond_false]
 ·intro n pre x post o hx hp
  simp only [laws_toIntS.l3,ltMid,cond_true,getMid,Option.bind_some,laws_toChunk,laws_toLeaf,setMid,nat1 pre hp]
theorem xeqIntS (hk:2000000≤k) (l:List Int) (hl:okL okInt l):laws_eqIntS k l l=some true:=by
 unfold laws_eqIntS
 have h:=hl.1
 simp only [bneF rfl,cond_false]
 refine xeq_gen (laws_eqIntS.l4 k) okInt ?_ ?_ l [] k (by omega) (by simpa using h) hl.2
 ·intro n l
  simp only [laws_eqIntS.l4,ltEnd,cond_false]
 ·intro n pre x post hx hp
  simp only [laws_eqIntS.l4,ltMid,cond_true,getMid,Option.bind_some,bneF rfl,eqS_iff,decide_true,Bool.not_true,cond_false,nat1 pre hp]
theorem xmarkIntS (hk:2000000≤k) (l:List Int) (hl:okL okInt l) (m:Int) (h0:0≤m) (hm:m+(xtot cntInt l:Nat)≤4611686018427387904):laws_markIntS k m l=some (m+(xtot cntInt l:Nat),mkL (mkInt k) cntInt l m):=by
 unfold laws_markIntS
 have h:=hl.1
 refine xmark_gen (laws_markIntS.l2 k) (mkInt k) cntInt 1 okInt 4611686018427387904 cntInt_le ?_ ?_ l [] k m (by omega) (by simpa using h) hl.2 h0 hm
 ·intro n m l
  simp only [laws_markIntS.l2,ltEnd,cond_false]
 ·intro n m pre x post hx h0 hm hp
  simp only [cntInt] at hm
  have e0:IntKind.wrap .i64 (m+1)=m+1:=w64 (by omega) (by omega)
  have eN:m+1=m+(cntInt x:Nat):=by simp only [cntInt]<;>omega
  simp only [laws_markIntS.l2,ltMid,cond_true,getMid,Option.bind_some,setMid,e0,laws_markChunk,nat1 pre hp]
  rw [eN]
  rfl
theorem xszIntS (hk:2000000≤k) (l:List Int) (hl:l.length≤9223372036854775807) (hg:∀y,y∈l→goodInt y) (m:Int) (h0:0≤m) (h1:m≤1048576):laws_szIntS k l m=some (szOut (l.length+xtot szInt l) m):=by
 have e:∀l:List Int,xtot szInt l=0:=fun l=>by
  induction l with
  |nil=>rfl
  |cons x r ih=>simp only [xtot,ih,szInt]
 unfold laws_szIntS
 rw [e,w64 (show -9223372036854775808≤m-(l.length:Int) by omega) (by omega),Nat.add_zero]
 by_cases c:(l.length:Int)≤m
 ·rw [decide_eq_false (by omega),cond_false,szOut_pos c]
 ·rw [decide_eq_true (by omega),cond_true,szOut_neg c]
def okVal (x:TVal):Prop:=True
def cntVal (x:TVal):Nat:=1+1
theorem cntVal_le (x:TVal) (h:okVal x):cntVal x≤2:=by
 unfold cntVal
 omega
def okTriple (x:TTriple):Prop:=okVal x.2.2.1
def cntTriple (x:TTriple):Nat:=1+1+cntVal x.2.2.1
def mkTriple (k:Nat) (x:TTriple) (m:Int):TTriple:=(m,m+1,(m+1+1,mtx k (m+1+1+1),()),())
theorem cntTriple_le (x:TTriple) (h:okTriple x):cntTriple x≤4:=by
 have h0:okVal x.2.2.1:=h
 have g2:=cntVal_le x.2.2.1 h0
 unfold cntTriple
 omega
theorem xeqTriple (hk:2000000≤k) (x:TTriple) (hx:okTriple x):laws_eqTriple k x x=some true:=by
 simp only [bneF rfl,eqS_iff,decide_true,Bool.not_true,cond_false,Option.bind_some,bne_self_eq_false,beq_self_eq_true,laws_eqChunk,laws_eqTriple,laws_eqVal]
def okChunk (x:TChunk):Prop:=okL okInt x.2.2.2.2.2.1
def goodChunk (x:TChunk):Prop:=I64 x.1∧I64 x.2.1∧I64 x.2.2.1∧I64 x.2.2.2.1∧I64 x.2.2.2.2.1∧(x.2.2.2.2.2.1.length≤9223372036854775807∧∀y,y∈x.2.2.2.2.2.1→goodInt y)
def szChunk (x:TChunk):Nat:=(x.2.2.2.2.2.1.length+xtot szInt x.2.2.2.2.2.1)+0
theorem okChunk_of (x:TChunk) (hg:goodChunk x) (h:szChunk x≤1048576):okChunk x:=by
 obtain ⟨g0,g1,g2,g3,g4,g5⟩:=hg
 unfold szChunk at h
 exact ⟨by omega,fun y hy=>okInt_of y (g5.2 y hy) (by have:=xtot_mem (f:=szInt) _ _ hy;omega)⟩
theorem goodChunk_of {e1:TypeId} {x:TChunk} (h:GoodP (.st (.cons (.int .i64) (.cons (.int .i64) (.cons (.int .i64) (.cons (.int .i64) (.cons (.int .i64) (.cons (.list e1 (.int .i64)) .nil))))))) x):goodChunk x:=by
 have hm:maxLen≤9223372036854775807:=by decide
 obtain ⟨q0,q1,q2,q3,q4,q5,_⟩:=h
 exact ⟨i64_wf' q0,i64_wf' q1,i64_wf' q2,i64_wf' q3,i64_wf' q4,⟨Nat.le_trans q5.1 hm,fun y hy=>i64_wf' (q5.2 y hy)⟩⟩
theorem xeqChunk (hk:2000000≤k) (x:TChunk) (hx:okChunk x):laws_eqChunk k x x=some true:=by
 have o0:okL okInt x.2.2.2.2.2.1:=hx
 have k_o0:okL okInt x.2.2.2.2.2.1:=o0
 simp only [bneF rfl,eqS_iff,decide_true,Bool.not_true,cond_false,Option.bind_some,bne_self_eq_false,beq_self_eq_true,laws_eqChunk,laws_eqTriple,laws_eqVal,xeqIntS k hk _ k_o0]
theorem xszChunk (hk:2000000≤k) (x:TChunk) (hg:goodChunk x) (m:Int) (h0:0≤m) (h1:m≤1048576):laws_szChunk k x m=some (szOut (szChunk x) m):=by
 obtain ⟨g0,g1,g2,g3,g4,g5⟩:=hg
 unfold laws_szChunk szChunk
 rw [xszIntS k hk x.2.2.2.2.2.1 g5.1 g5.2 (m) (by omega) (by omega)]
 by_cases c0:(((x.2.2.2.2.2.1.length+xtot szInt x.2.2.2.2.2.1):Nat):Int)≤m
 rotate_left
 ·rw [szOut_neg c0];simp only [Option.bind_some,show decide ((-1:Int)<0)=true from rfl,cond_true];rw [szOut_neg (by omega)]
 rw [szOut_pos c0];simp only [Option.bind_some];rw [decide_eq_false (by omega),cond_false]
 rw [szOut_pos (by omega)];congr 1<;>omega
end Go.Law
end
section
set_option linter.unusedVariables false
set_option linter.unusedSimpArgs false
namespace Go.Law
open Go.Am Go.Fn
theorem goodL {t:Ty} {e:TypeId} {P:t.Den→Prop} (hP:∀x,GoodP t x→P x) {l:List t.Den} (h:GoodP (.list e t) l):l.length≤9223372036854775807∧∀x,x∈l→P x:=
 ⟨Nat.le_trans h.1 (by decide),fun x hx=>hP x (h.2 x hx)⟩
end Go.Law
end
section
set_option linter.unusedVariables false
set_option linter.unusedSimpArgs false
namespace Go.Law
open Go.Am Go.Fn
theorem u8_lit {x:Int} (h:(Lit.int .u8 x).wf=true):0≤x∧x<256:=by
 simp only [Lit.wf,Bool.and_eq_true,decide_eq_true_eq] at h
 have h1:IntKind.min .u8=0:=by decide
 have h2:IntKind.max .u8=255:=by decide
 rw [h1,h2] at h
 exact ⟨by omega,by omega⟩
theorem goodB {b:List Int} (h:GoodP (.list 0 (.int .u8)) b):∀x,x∈b→0≤x∧x<256:=
 (goodL (t:= .int .u8) (P:=fun x=>0≤x∧x<256) (fun x hx=>u8_lit hx) h).2
end Go.Law
end
section
set_option linter.unusedVariables false
set_option linter.unusedSimpArgs false
namespace Go.Law
open Go.Am Go.Fn
theorem nat1B {α:Type} (pre:List α) (h:pre.length≤2200000000):IntKind.wrap .i64 ((pre.length:Int)+1)=((pre.length+1:Nat):Int):=by rw [w64 (by omega) (by omega)];omega
theorem xeq_genB {α:Type} (F:Nat→List α→List α→Int→Option Bool) (P:α→Prop)
 (h0:∀n l,F (n+1) l l (l.length:Int)=some true)
 (h1:∀n pre x post,P x→pre.length≤2200000000→F (n+1) (pre++x::post) (pre++x::post) (pre.length:Int)=F n (pre++x::post) (pre++x::post) ((pre.length+1:Nat):Int)):
 ∀(post pre:List α) (n:Nat),post.length<n→pre.length+post.length≤2200000000→(∀x,x∈post→P x)→F n (pre++post) (pre++post) (pre.length:Int)=some true:=by
 intro post
 induction post with
 |nil=>
  intro pre n hn hl hP
  obtain ⟨n,rfl⟩:∃j,n=j+1:=⟨n-1,by omega⟩
  simp only [List.append_nil]
  exact h0 n pre
 |cons x post ih=>
  intro pre n hn hl hP
  obtain ⟨n,rfl⟩:∃j,n=j+1:=⟨n-1,by omega⟩
  simp only [List.length_cons] at hn hl
  have:=ih (pre++[x]) n (by omega) (by simp;omega) (fun y hy=>hP y (List.mem_cons_of_mem _ hy))
  rw [h1 n pre x post (hP x (List.mem_cons_self ..)) (by omega)]
  rw [List.length_append,List.length_singleton,List.append_assoc,List.singleton_append] at this
  exact this
theorem xmark_genB {α:Type} (F:Nat→Int→Int→List α→Option (Int×List α)) (mk:α→Int→α) (cnt:α→Nat) (C:Nat) (P:α→Prop) (B:Int) (hC:∀x,P x→cnt x≤C)
 (h0:∀n m l,F (n+1) m (l.length:Int) l=some (m,l))
 (h1:∀n m pre x post,P x→0≤m→m+cnt x≤B→pre.length≤2200000000→F (n+1) m (pre.length:Int) (pre++x::post)=F n (m+cnt x) ((pre.length+1:Nat):Int) (pre++mk x m::post)):
 ∀(post pre:List α) (n:Nat) (m:Int),post.length<n→pre.length+post.length≤2200000000→(∀x,x∈post→P x)→0≤m→m+xtot cnt post≤B→F n m (pre.length:Int) (pre++post)=some (m+xtot cnt post,pre++mkL mk cnt post m):=by
 intro post
 induction post with
 |nil=>
  intro pre n m hn hl hP hm hB
  obtain ⟨n,rfl⟩:∃j,n=j+1:=⟨n-1,by omega⟩
  simp only [List.append_nil,xtot,mkL]
  rw [h0 n m pre]
  simp
 |cons x post ih=>
  intro pre n m hn hl hP hm hB
  obtain ⟨n,rfl⟩:∃j,n=j+1:=⟨n-1,by omega⟩
  simp only [List.length_cons,xtot] at hn hl hB
  have:=ih (pre++[mk x m]) n (m+cnt x) (by omega) (by simp;omega) (fun y hy=>hP y (List.mem_cons_of_mem _ hy)) (by omega) (by omega)
  rw [h1 n m pre x post (hP x (List.mem_cons_self ..)) hm (by omega) (by omega)]
  rw [List.length_append,List.length_singleton,List.append_assoc,List.singleton_append,List.append_assoc,List.singleton_append] at this
  rw [this]
  simp only [xtot,mkL]
  congr 2
  omega
theorem xheld_genB {α:Type} (F:Nat→List α→Int→Int→Option Int) (mk:α→Int→α) (cnt:α→Nat) (P:α→Prop) (B:Int)
 (h0:∀n m l,F (n+1) l m (l.length:Int)=some m)
 (h1:∀n m pre x post,P x→0≤m→m+cnt x≤B→pre.length≤2200000000→F (n+1) (pre++mk x m::post) m (pre.length:Int)=F n (pre++mk x m::post) (m+cnt x) ((pre.length+1:Nat):Int)):
 ∀(post pre:List α) (n:Nat) (m:Int),post.length<n→pre.length+post.length≤2200000000→(∀x,x∈post→P x)→0≤m→m+xtot cnt post≤B→F n (pre++mkL mk cnt post m) m (pre.length:Int)=some (m+xtot cnt post):=by
 intro post
 induction post with
 |nil=>
  intro pre n m hn hl hP hm hB
  obtain ⟨n,rfl⟩:∃j,n=j+1:=⟨n-1,by omega⟩
  simp only [List.append_nil,xtot,mkL]
  rw [h0 n m pre]
  simp
 |cons x post ih=>
  intro pre n m hn hl hP hm hB
  obtain ⟨n,rfl⟩:∃j,n=j+1:=⟨n-1,by omega⟩
  simp only [List.length_cons,xtot] at hn hl hB
  have:=ih (pre++[mk x m]) n (m+cnt x) (by omega) (by simp;omega) (fun y hy=>hP y (List.mem_cons_of_mem _ hy)) (by omega) (by omega)
  simp only [mkL,xtot]
  rw [h1 n m pre x _ (hP x (List.mem_cons_self ..)) hm (by omega) (by omega)]
  rw [List.length_append,List.length_singleton,List.append_assoc,List.singleton_append] at this
  rw [this]
  congr 1
  omega
variable (k:Nat)
theorem okTriple_any (x:TTriple):okTriple x:=by unfold okTriple okVal;trivial
theorem totTriple (l:List TTriple) (h:l.length≤2200000000):xtot cntTriple l≤8800000000:=by
 have:=xtot_le l (f:=cntTriple) (C:=4) (fun x _=>cntTriple_le x (okTriple_any x))
 omega
theorem xeqTripleSB (hk:2300000000≤k) (l:List TTriple) (hl:l.length≤2200000000):laws_eqTripleS k l l=some true:=by
 unfold laws_eqTripleS
 have h:=hl
 simp only [bneF rfl,cond_false]
 refine xeq_genB (laws_eqTripleS.l4 k) okTriple ?_ ?_ l [] k (by omega) (by simpa using h) (fun x _=>okTriple_any x)
 ·intro n l
  simp only [laws_eqTripleS.l4,ltEnd,cond_false]
 ·intro n pre x post hx hp
  simp only [laws_eqTripleS.l4,ltMid,cond_true,getMid,Option.bind_some,xeqTriple k (by omega) x hx,Bool.not_true,cond_false,nat1B pre hp]
theorem xmarkTripleSB (hk:2300000000≤k) (l:List TTriple) (hl:l.length≤2200000000) (m:Int) (h0:0≤m) (hm:m+(xtot cntTriple l:Nat)≤4611686018427387904):laws_markTripleS k m l=some (m+(xtot cntTriple l:Nat),mkL (mkTriple k) cntTriple l m):=by
 unfold laws_markTripleS
 have h:=hl
 refine xmark_genB (laws_markTripleS.l2 k) (mkTriple k) cntTriple 4 okTriple 4611686018427387904 cntTriple_le ?_ ?_ l [] k m (by omega) (by simpa using h) (fun x _=>okTriple_any x) h0 hm
 ·intro n m l
  simp only [laws_markTripleS.l2,ltEnd,cond_false]
 ·intro n m pre x post hx h0 hm hp
  simp only [cntTriple,cntVal] at hm
  have e0:IntKind.wrap .i64 (m+1)=m+1:=w64 (by omega) (by omega)
  have e1:IntKind.wrap .i64 (m+1+1)=m+1+1:=w64 (by omega) (by omega)
  have e2:IntKind.wrap .i64 (m+1+1+1)=m+1+1+1:=w64 (by omega) (by omega)
  have e3:IntKind.wrap .i64 (m+1+1+1+1)=m+1+1+1+1:=w64 (by omega) (by omega)
  have eN:m+1+1+1+1=m+(cntTriple x:Nat):=by simp only [cntTriple,cntVal]<;>omega
  simp only [laws_markTripleS.l2,ltMid,cond_true,getMid,Option.bind_some,setMid,e0,e1,e2,e3,mtx_eq k (by omega) (m+1+1+1) (by omega),laws_markChunk,laws_markMeta,laws_markRec,nat1B pre hp]
  rw [eN]
  rfl
theorem xheldTripleSB (hk:2300000000≤k) (l:List TTriple) (hl:l.length≤2200000000) (m:Int) (h0:0≤m) (hm:m+(xtot cntTriple l:Nat)≤4611686018427387904):laws_heldTripleS k (mkL (mkTriple k) cntTriple l m) m=some (m+(xtot cntTriple l:Nat)):=by
 unfold laws_heldTripleS
 have h:=hl
 refine xheld_genB (laws_heldTripleS.l2 k) (mkTriple k) cntTriple okTriple 4611686018427387904 ?_ ?_ l [] k m (by omega) (by simpa using h) (fun x _=>okTriple_any x) h0 hm
 ·intro n m l
  simp only [laws_heldTripleS.l2,ltEnd,cond_false]
 ·intro n m pre x post hx h0 hm hp
  simp only [cntTriple,cntVal] at hm
  have e0:IntKind.wrap .i64 (m+1)=m+1:=w64 (by omega) (by omega)
  have e1:IntKind.wrap .i64 (m+1+1)=m+1+1:=w64 (by omega) (by omega)
  have e2:IntKind.wrap .i64 (m+1+1+1)=m+1+1+1:=w64 (by omega) (by omega)
  have e3:IntKind.wrap .i64 (m+1+1+1+1)=m+1+1+1+1:=w64 (by omega) (by omega)
  have eN:m+1+1+1+1=m+(cntTriple x:Nat):=by simp only [cntTriple,cntVal]<;>omega
  simp only [laws_heldTripleS.l2,ltMid,cond_true]
  simp only [mkTriple,laws_heldTripleS.d13,getMid,Option.bind_some,eqS_iff,decide_true,Bool.not_true,cond_false,bneF rfl,bne_self_eq_false,e0,e1,e2,e3,mtx_eq k (by omega) (m+1+1+1) (by omega),laws_heldMeta,nat1B pre hp]
  rw [eN]
end Go.Law
end
section
set_option linter.unusedVariables false
set_option linter.unusedSimpArgs false
namespace Go.Law
open Go.Am Go.Fn
theorem fnExactChunkRead (lf:TLeaf) (_:GoodP (.st (.cons (.int .i64) (.cons (.int .i64) (.cons (.int .i64) .nil)))) lf) (b:List Int) (h:GoodP (.list 0 (.int .u8)) b) (ck:TChunk) (hc:GoodP (.st (.cons (.int .i64) (.cons (.int .i64) (.cons (.int .i64) (.cons (.int .i64) (.cons (.int .i64) (.cons (.list 3 (.int .i64)) .nil))))))) ck):∃k,laws_FnExactChunkRead k lf b ck=some true:=by
 have g:=goodB h
 have gc:=goodChunk_of hc
 clear h hc
 refine ⟨2400000000,?_⟩
 generalize hk:2400000000=k
 have hk':2000000≤k:=by omega
 have hk2:2300000000≤k:=by omega
 clear hk
 unfold laws_FnExactChunkRead
 by_cases c1:(b.length:Int)>1048576
 ·rw [decide_eq_true c1];rfl
 ·have ob:okL okByte b:=⟨by omega,g⟩
  rw [decide_eq_false c1]
  simp only [cond_false,xszChunk k hk' ck gc 1048576 (by decide) (by decide),Option.bind_some]
  by_cases c2:(szChunk ck:Int)≤1048576
  ·rw [szOut_pos c2,decide_eq_false (by omega),cond_false]
   have oc:okChunk ck:=okChunk_of ck gc (by omega)
   have oi:okL okInt ck.2.2.2.2.2.1:=oc
   obtain ⟨c,l,e1,e2,e3,_⟩:=chunkRead_eq k hk' lf b (by omega) g ck
   have n1:=okL.tot ob cntByte_le
   have n2:=okL.tot oi cntInt_le
   have n3:=totTriple l (by omega)
   have e1':impl_ChunkRead k (lf.1,lf.2.1,lf.2.2.1,()) b (ck.1,ck.2.1,ck.2.2.1,ck.2.2.2.1,ck.2.2.2.2.1,ck.2.2.2.2.2.1,())=some (((),c),l):=e1
   have e2':spec_ChunkRead k (lf.1,lf.2.1,lf.2.2.1,()) b (ck.1,ck.2.1,ck.2.2.1,ck.2.2.2.1,ck.2.2.2.2.1,ck.2.2.2.2.2.1,())=some (((),c),l):=e2
   unfold laws_FnExactChunkRead.d7 laws_FnExactChunkRead.d10 laws_FnExactChunkRead.d15 laws_FnExactChunkRead.d30 laws_toChunk laws_markChunk
   have xc:=xeqChunk k hk' (ck.1,ck.2.1,ck.2.2.1,ck.2.2.2.1,ck.2.2.2.2.1,ck.2.2.2.2.2.1,()) oi
   simp only [laws_toLeaf,xtoByteS k hk' b ob,xtoIntS k hk' _ oi,Option.bind_some,e1',e2',xeqTripleSB k hk2 l (by omega),xeqByteS k hk' b ob,xc,xmarkByteS k hk' b ob 1 (by omega) (by omega),beq_self_eq_true,Bool.not_true,cst,Bool.or_self,bneF rfl,cond_false,
    xmarkIntS k hk' _ oi (1+(xtot cntByte b:Nat)) (by omega) (by omega),decide_eq_false (show ¬((1:Int)+(xtot cntByte b:Nat)+(xtot cntInt ck.2.2.2.2.2.1:Nat)<0) by omega),
    xmarkTripleSB k hk2 l (by omega) 1 (by omega) (by omega),xheldTripleSB k hk2 l (by omega) 1 (by omega) (by omega),
    decide_eq_false (show ¬((1:Int)+(xtot cntTriple l:Nat)<0) by omega)]
  ·rw [szOut_neg c2];rfl
end Go.Law
end
