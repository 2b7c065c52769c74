/- plain laws of the claim's functions -/
import Derived.Test.YtohaijhiclmkkaaGreatLawEFR1
import Derived.Test.YtohaijhiclmkkaaGreatLawEFR0
set_option linter.unnecessarySimpa false
set_option linter.unusedSimpArgs false
set_option linter.unusedVariables false
set_option linter.unusedSectionVars false
section
namespace Go.Af
open Go.Am Go.Fn
variable(k:Nat)
def Gj(m:Int):Int→List Int→List Int
 |_,[]=>[]
 |l,x::xs=>IntKind.wrap .i64 (IntKind.wrap .i64 (l+x)+m)::Gj m (IntKind.wrap .i64 (IntKind.wrap .i64 (l+x)+m)) xs
theorem PX(m:Int):∀(xs:List Int) (l:Int),(Gj m l xs).length=xs.length
 |[],_=>rfl
 |x::xs,l=>by simp[Gj,PX m xs]
theorem Ru(m:Int):∀(xs:List Int) (l:Int),∀y,y∈Gj m l xs→Ae y
 |[],_,y,h=>by cases h
 |x::xs,l,y,h=>by
  rcases List.mem_cons.1 h with rfl|h
  ·exact⟨NU _,NT _⟩
  ·exact Ru m xs _ y h
theorem T_{A:List Int}{l:Int}(hA:A.length<1000000000):gU (A++[l]) (IntKind.wrap .i64 (((A++[l]).length:Int)-1))=some l:=by
 rw[zX,Ap,zg (by omega) (by omega),show((A.length+1:Nat):Int)-1=((A.length:Nat):Int) by omega,zQ,List.getElem?_append_right (Nat.le_refl _)];simp
abbrev dR(b:List Int)(p:Nat)(bad:Bool):D6:=(b,(p:Int),bad,(),())
theorem ajy(b:List Int)(p:Nat)(m:Int)(xs:List Int)(hx:xs.length≤100000):∀(post pre A:List Int) (l:Int) (n:Nat),xs=pre++post→post.length<n→A.length+post.length≤100000→
 DU.l5 k n m (xs.length:Int) (pre.length:Int) (dR b p false) xs (A++[l])=some ((),(dR b p false,(A++[l])++Gj m l post)):=by
 intro post
 induction post with
 |nil=>
  intro pre A l n hv hn ha;obtain⟨n,rfl⟩:∃x,n=x+1:=⟨n-1,by omega⟩;have:xs=pre:=by simpa using hv
  subst this;simp only[DU.l5,zk (show ¬(xs.length:Int)<(xs.length:Int) by omega),yZ,Gj,AO]
 |cons x post ih=>
  intro pre A l n hv hn ha;simp only[Ah] at hn ha;obtain⟨n,rfl⟩:∃x,n=x+1:=⟨n-1,by omega⟩;have hlen:xs.length=pre.length+(post.length+1):=by rw[hv];simp
  have hg:gU xs (pre.length:Int)=some x:=by rw[hv];exact AX pre post x
  simp only[DU.l5,zh (show(pre.length:Int)<(xs.length:Int) by omega),yX,hg,yY,DU.d7,T_ (A:=A) (l:=l) (by omega),Ak (show(A++[l]).length+[IntKind.wrap .i64 (IntKind.wrap .i64 (l+x)+m)].length≤4294967296 by simp;omega),zg (x:=(pre.length:Int)+1) (by omega) (by omega)];have:=ih (pre++[x]) (A++[l]) (IntKind.wrap .i64 (IntKind.wrap .i64 (l+x)+m)) n (by rw[hv];simp) (by omega) (by simp;omega);rw[zX,Ap] at this;rw[show((pre.length:Int)+1)=((pre.length+1:Nat):Int) by omega,this,Gj];simp
theorem alm(MK:(List Int)→Int→Int→Int→Int→Int→Int→Int→(List Int)→(List Int)→Option Ih)(b:List Int)(p1 t8 t10 t18 t20:Int)(many:Nat)(hm:many≤2000)(m:Int)(e20:IntKind.wrap .i64 (t20+1)=t20+1)(xs:List Int)(hx:xs.length≤100000):∀(post pre A:List Int) (l:Int) (n:Nat),xs=pre++post→post.length<n→A.length+1≤many→
 Bl.Kg k MK n b p1 t8 t10 (many:Int) m t18 t20 (pre.length:Int) [] (A++[l]) xs=MK b p1 t8 t10 (many:Int) m t18 (t20+1) [] ((A++[l])++Gj m l (post.take (many-(A.length+1)))):=by
 intro post
 induction post with
 |nil=>
  intro pre A l n hv hn ha;obtain⟨n,rfl⟩:∃x,n=x+1:=⟨n-1,by omega⟩;have:xs=pre:=by simpa using hv
  subst this;simp only[Bl.Kg,zk (show ¬(xs.length:Int)<(xs.length:Int) by omega),yZ,yY,e20,List.take_nil,Gj,AO]
 |cons x post ih=>
  intro pre A l n hv hn ha;simp only[Ah] at hn;obtain⟨n,rfl⟩:∃x,n=x+1:=⟨n-1,by omega⟩;have hlen:xs.length=pre.length+(post.length+1):=by rw[hv];simp
  have hg:gU xs (pre.length:Int)=some x:=by rw[hv];exact AX pre post x
  by_cases hfull:A.length+1=many
  ·have:(decide (((A++[l]).length:Int)<(many:Int)))=false:=zk (by simp;omega)
   simp only[Bl.Kg,zh (show(pre.length:Int)<(xs.length:Int) by omega),yX,this,yY,yZ,e20];rw[show many-(A.length+1)=0 by omega,List.take_zero];simp[Gj]
  ·have:(decide (((A++[l]).length:Int)<(many:Int)))=true:=zh (by simp;omega)
   simp only[Bl.Kg,zh (show(pre.length:Int)<(xs.length:Int) by omega),yX,this,yY,Bl.d28,hg,T_ (A:=A) (l:=l) (by omega),Ak (show(A++[l]).length+[IntKind.wrap .i64 (IntKind.wrap .i64 (l+x)+m)].length≤4294967296 by simp;omega),zg (x:=(pre.length:Int)+1) (by omega) (by omega)];have:=ih (pre++[x]) (A++[l]) (IntKind.wrap .i64 (IntKind.wrap .i64 (l+x)+m)) n (by rw[hv];simp) (by omega) (by simp;omega);rw[zX,Ap] at this;rw[show((pre.length:Int)+1)=((pre.length+1:Nat):Int) by omega,this,show many-(A.length+1)=(many-((A++[l]).length+1))+1 by simp;omega,List.take_succ_cons,Gj];simp
theorem alI(L5:(List Int)→Int→Int→Int→Int→(List Int)→Option Ih)(pre post:List Int)(L M w i q:Nat)(t2:Int)(hw:w≤64)(hq:(i:Int)*(w:Int)=(q:Int))(KQ:i*w=q)(M8:q+w≤8*L)(hl:pre.length+L<10000000000000000)(hi:i<1000000)(o:List Int)(ho:o.length<1000000):
 ∀(m n j:Nat),j+m=w→m<n→Ed.l9 k L5 n (pre++(leB L M++post)) (pre.length:Int) t2 (w:Int) (i:Int) (IntKind.wrap .i64 ((M/2^q%2^j:Nat):Int)) (j:Int) o=L5 (pre++(leB L M++post)) (pre.length:Int) t2 (w:Int) ((i+1:Nat):Int) (o++[D5 w M i]):=by
 intro m
 induction m with
 |zero=>
  intro n j hj hn;obtain⟨n,rfl⟩:∃x,n=x+1:=⟨n-1,by omega⟩;obtain rfl:j=w:=by omega
  simp only[Ed.l9,zk (show ¬(j:Int)<(j:Int) by omega),yZ];rw[Ak (by simp;omega),yX,zg (x:=(i:Int)+1) (by omega) (by omega)];unfold D5;rw[KQ]
  congr 1
 |succ m ih=>
  intro n j hj hn;obtain⟨n,rfl⟩:∃x,n=x+1:=⟨n-1,by omega⟩;have hp:IntKind.wrap .i64 (IntKind.wrap .i64 (IntKind.wrap .i64 (8*(pre.length:Int))+IntKind.wrap .i64 ((i:Int)*(w:Int)))+(j:Int))=((8*pre.length+(q+j):Nat):Int):=by
   rw[hq,zg (x:=(q:Int)) (by omega) (by omega),zg (x:=8*(pre.length:Int)) (by omega) (by omega),zg (x:=8*(pre.length:Int)+(q:Int)) (by omega) (by omega),zg (by omega) (by omega)];omega
  have hb:=Qy k pre post L M (q+j) (by omega) (by omega);simp only[Ed.l9,zh (show(j:Int)<(w:Int) by omega),yX,hp,hb,yY,zh (show(0:Int)≤(j:Int) by omega)];have hlt:M/2^q%2^j<2^j:=Nat.mod_lt _ (Nat.two_pow_pos j);have hjj:2^(j+1)≤2^64:=Nat.pow_le_pow_right (by decide) (by omega);have hb1:M/2^(q+j)%2≤1:=by omega
  have hb2:M/2^(q+j)%2*2^j≤1*2^j:=Nat.mul_le_mul_right _ hb1;have ho:=Kj .i64 (a:=M/2^q%2^j) (b:=M/2^(q+j)%2) (i:=j) (show j≤64 by omega) hlt (show _<2^64 by rw[Nat.pow_succ] at hjj;omega);rw[ho];have hs:M/2^q%2^j+M/2^(q+j)%2*2^j=M/2^q%2^(j+1):=by
   rw[mod_succ,Nat.div_div_eq_div_mul,←Nat.pow_add]
  rw[hs,zg (x:=(j:Int)+1) (by omega) (by omega),show((j:Int)+1)=((j+1:Nat):Int) by omega];exact ih n (j+1) (by omega) (by omega)
theorem alJ(hk:3000≤k)(pre post:List Int)(L M w N:Nat)(hw:w≤64)(hN:N*w≤8*L)(hl:pre.length+L<10000000000000000)(LA:N≤2000)(q:Nat)(hq:IntKind.wrap .i64 ((pre.length:Int)+IntKind.wrap .i64 (Int.tdiv (IntKind.wrap .i64 ((N:Int)*(w:Int))) 8))=(q:Int)):
 ∀(m n i:Nat) (o:List Int),i+m=N→m<n→o.length=i→Ed.l5 k n (pre++(leB L M++post)) (pre.length:Int) (N:Int) (w:Int) (i:Int) o=some (((),(q:Int),true),o++(List.range' i m).map (D5 w M)):=by
 intro m
 induction m with
 |zero=>
  intro n i o hi hn ho;obtain⟨n,rfl⟩:∃x,n=x+1:=⟨n-1,by omega⟩;simp only[Ed.l5,zk (show ¬(i:Int)<(N:Int) by omega),yZ,hq];simp
 |succ m ih=>
  intro n i o hi hn ho;obtain⟨n,rfl⟩:∃x,n=x+1:=⟨n-1,by omega⟩;have hmul:i*w+w≤N*w:=by
   have:(i+1)*w≤N*w:=Nat.mul_le_mul_right _ (by omega);rw[Nat.add_mul,Nat.one_mul] at this;exact this
  have hi':=alI k (Ed.l5 k n) pre post L M w i (i*w) (N:Int) hw (by simp) rfl (by omega) hl (by omega) o (by omega) w k 0 (by omega) (by omega);simp only[Nat.pow_zero,Nat.mod_one] at hi';simp only[Ed.l5,zh (show(i:Int)<(N:Int) by omega),yX];have h0:((0:Nat):Int)=0:=rfl;have hw0:IntKind.wrap .i64 0=0:=rfl;rw[h0,hw0] at hi';rw[hi',ih n (i+1) _ (by omega) (by omega) (by simp;omega)];simp[List.range'_succ]
theorem akt(hk:3000≤k)(b:List Int)(hb:b.length≤1048576)(hby:CG b)(p s w:Nat)(hp:p≤b.length)(hs:s%8=0)(hs2:s≤1024)(hw:w<256)(left:Nat)(hleft:left≤2000)(m l:Int)(A:List Int)(hA:A.length≤2000):
 (Ed k b (p:Int) (s:Int) (w:Int)=some (((),0,false),[])∧∃p',DU k (s:Int) (w:Int) m (left:Int) (dR b p false) (A++[l])=some ((),(dR b p' true,A++[l])))∨
 ∃(q:Nat) (xs:List Int),p≤q∧q≤b.length∧xs.length=s∧Ed k b (p:Int) (s:Int) (w:Int)=some (((),(q:Int),true),xs)∧
  DU k (s:Int) (w:Int) m (left:Int) (dR b p false) (A++[l])=some ((),(dR b q false,(A++[l])++Gj m l (xs.take left))):=by
 obtain⟨c,rfl⟩:∃c,s=8*c:=⟨s/8,by omega⟩;have hcw:c*w≤128*255:=Nat.mul_le_mul (by omega) (by omega);have hsw:((8*c:Nat):Int)*(w:Int)=((8*(c*w):Nat):Int):=by rw[←Nat.mul_assoc];simp
 have eQ:IntKind.wrap .i64 (Int.tdiv (IntKind.wrap .i64 (((8*c:Nat):Int)*(w:Int))) 8)=((c*w:Nat):Int):=by
  rw[hsw,zg (x:=((8*(c*w):Nat):Int)) (by omega) (by omega),QW (show(0:Int)≤((8*(c*w):Nat):Int) by omega),zg (by omega) (by omega)];omega
 have GA:IntKind.wrap .i64 ((b.length:Int)-(p:Int))=((b.length-p:Nat):Int):=by rw[zg (by omega) (by omega)];omega
 unfold Ed DU DU.c2 LQ;simp only[eQ,GA,cst,yY];by_cases hw64:w>64
 ·left
  simp only[zh (show(w:Int)>64 by omega),Ag,yX,yY];exact⟨trivial,p,rfl⟩
 ·simp only[zk (show ¬(w:Int)>64 by omega),Aq,yZ]
  by_cases hfit:c*w≤b.length-p
  ·right
   have hlen:((b.drop p).take (c*w)).length=c*w:=by rw[List.length_take,List.length_drop];omega
   have hsp:b=b.take p++(leB (c*w) (wv ((b.drop p).take (c*w)))++b.drop (p+c*w)):=by
    have h3:=QA ((b.drop p).take (c*w)) (fun x hx=>hby x (List.mem_of_mem_drop (List.mem_of_mem_take hx)));rw[hlen] at h3;have hdd:b.drop (p+c*w)=(b.drop p).drop (c*w):=by rw[List.drop_drop]
    rw[←h3,hdd,List.take_append_drop,List.take_append_drop]
   have hpl:(b.take p).length=p:=by rw[List.length_take];omega
   generalize wv ((b.drop p).take (c*w))=M at hsp;have hmin:min (8*c) left*w≤8*(c*w):=by
    rw[←Nat.mul_assoc];exact Nat.mul_le_mul_right _ (by omega)
   have u1:=Q4 k (b.take p) (b.drop (p+c*w)) (c*w) M w (min (8*c) left) (by omega) hmin (by rw[hpl];omega) (by omega) (by omega) (by omega);have Oj:IntKind.wrap .i64 (((b.take p).length:Int)+IntKind.wrap .i64 (Int.tdiv (IntKind.wrap .i64 (((8*c:Nat):Int)*(w:Int))) 8))=((p+c*w:Nat):Int):=by
    rw[eQ,hpl,zg (by omega) (by omega)];omega
   have u2:=alJ k hk (b.take p) (b.drop (p+c*w)) (c*w) M w (8*c) (by omega) (by rw[←Nat.mul_assoc];exact Nat.le_refl _) (by rw[hpl];omega) (by omega) (p+c*w) Oj (8*c) k 0 [] (by omega) (by omega) rfl;rw[←hsp,hpl] at u1 u2;rw[show((0:Nat):Int)=0 from rfl,←List.range_eq_range',List.nil_append] at u2;have e1:IntKind.wrap .i64 ((p:Int)+((c*w:Nat):Int))=((p+c*w:Nat):Int):=by rw[zg (by omega) (by omega)];omega
   have e2:IntKind.wrap .i64 (((p+c*w:Nat):Int)-((c*w:Nat):Int))=(p:Int):=by rw[zg (by omega) (by omega)];omega
   have MW:(if(left:Int)<((8*c:Nat):Int) then(left:Int) else((8*c:Nat):Int))=((min (8*c) left:Nat):Int):=by split<;>omega
   refine⟨p+c*w,(List.range (8*c)).map (D5 w M),by omega,by omega,by simp,?_,?_⟩
   ·simp only[zk (show ¬((b.length-p:Nat):Int)<((c*w:Nat):Int) by omega),yZ]
    exact u2
   ·simp only[zk (show ¬((c*w:Nat):Int)>((b.length-p:Nat):Int) by omega),yZ,yY,e1,e2,MW,u1]
    have hx:((List.range (8*c)).map (D5 w M)).take left=(List.range (min (8*c) left)).map (D5 w M):=by
     rw[←List.map_take,List.take_range,Nat.min_comm]
    rw[hx];have:=ajy k b (p+c*w) m ((List.range (min (8*c) left)).map (D5 w M)) (by simp;omega) ((List.range (min (8*c) left)).map (D5 w M)) [] A l k rfl (by simp;omega) (by simp;omega);exact this
  ·left
   simp only[zh (show((b.length-p:Nat):Int)<((c*w:Nat):Int) by omega),yX,zh (show((c*w:Nat):Int)>((b.length-p:Nat):Int) by omega),yY];exact⟨trivial,p,rfl⟩
theorem aku(hk:3000≤k)(b:List Int)(hb:b.length≤1048576)(hby:CG b)(s BB W many:Nat)(m block:Int)(hs:s%8=0)(hs0:0<s)(hs2:s≤1024)(hm0:0<BB)(lC:BB≤1024)(hW:W+BB≤b.length)(OH:many≤2000)(hblk:IntKind.wrap .i64 (Int.tdiv block (BB:Int))=(s:Int))
 (Ju:(List Int)→Int→Int→Int→D6→(List Int)→Option Ih) (KE:(List Int)→Int→Int→Int→Int→(List Int)→(List Int)→Option Ih)
 (hL:∀p o,Ju b (BB:Int) (many:Int) (s:Int) (dR b p true) o=some (((),0,false),[])):∀(d n n' i p:Nat) (A:List Int) (l:Int),i+d=BB→d<n→d<n'→p≤b.length→A.length+1≤many→(∀y,y∈A++[l]→Ae y)→
 (BH.D_ k Ju n b (BB:Int) (many:Int) (s:Int) m (W:Int) (i:Int) (dR b p false) (A++[l])=some (((),0,false),[])∧
  Bl.EK k KE n' b (p:Int) block (BB:Int) (many:Int) m (W:Int) (i:Int) [] (A++[l])=some (((),0,false),[]))∨
 ∃(q:Nat) (A':List Int) (l':Int),p≤q∧q≤b.length∧A.length≤A'.length∧A'.length+1≤many∧(A.length+1<many→i<BB→A.length<A'.length)∧(∀y,y∈A'++[l']→Ae y)∧
  BH.D_ k Ju n b (BB:Int) (many:Int) (s:Int) m (W:Int) (i:Int) (dR b p false) (A++[l])=Ju b (BB:Int) (many:Int) (s:Int) (dR b q false) (A'++[l'])∧
  Bl.EK k KE n' b (p:Int) block (BB:Int) (many:Int) m (W:Int) (i:Int) [] (A++[l])=KE b (q:Int) block (BB:Int) (many:Int) [] (A'++[l']):=by
 intro d
 induction d with
 |zero=>
  intro n n' i p A l hi hn hn' hp hA hI;obtain⟨n,rfl⟩:∃x,n=x+1:=⟨n-1,by omega⟩;obtain⟨n',rfl⟩:∃x,n'=x+1:=⟨n'-1,by omega⟩;right;refine⟨p,A,l,by omega,hp,by omega,hA,fun _ h=>by omega,hI,?_,?_⟩
  ·simp only[BH.D_,zk (show ¬(i:Int)<(BB:Int) by omega),yZ,yY]
  ·simp only[Bl.EK,zk (show ¬(i:Int)<(BB:Int) by omega),yZ,yY]
 |succ d ih=>
  intro n n' i p A l hi hn hn' hp hA hI;obtain⟨n,rfl⟩:∃x,n=x+1:=⟨n-1,by omega⟩;obtain⟨n',rfl⟩:∃x,n'=x+1:=⟨n'-1,by omega⟩;by_cases hfull:A.length+1=many
  ·right
   have hd:decide (((A++[l]).length:Int)<(many:Int))=false:=zk (by simp;omega);refine⟨p,A,l,by omega,hp,by omega,hA,fun h=>by omega,hI,?_,?_⟩
   ·simp only[BH.D_,zh (show(i:Int)<(BB:Int) by omega),yX,hd,yZ,yY]
   ·simp only[Bl.EK,zh (show(i:Int)<(BB:Int) by omega),yX,hd,yZ,yY]
  ·have hd:decide (((A++[l]).length:Int)<(many:Int))=true:=zh (by simp;omega)
   obtain⟨y,hy,hy2⟩:=FK (xs:=b) (i:=((W+i:Nat):Int)) (by omega) (by omega);obtain⟨y0,y1⟩:=hby y (List.mem_of_getElem? hy2);obtain⟨w,rfl⟩:∃w:Nat,y=w:=⟨y.toNat,by omega⟩;have VO:IntKind.wrap .i64 ((W:Int)+(i:Int))=((W+i:Nat):Int):=by rw[zg (by omega) (by omega)];omega
   have ew:IntKind.wrap .i64 ((w:Nat):Int)=((w:Nat):Int):=zg (by omega) (by omega);have MV:IntKind.wrap .i64 ((many:Int)-((A++[l]).length:Int))=((many-(A.length+1):Nat):Int):=by
    rw[zX,Ap,zg (by omega) (by omega)];omega
   have ei:IntKind.wrap .i64 ((i:Int)+1)=(i:Int)+1:=zg (by omega) (by omega);simp only[BH.D_,Bl.EK,BH.d22,zh (show(i:Int)<(BB:Int) by omega),yX,hd,yY,zD,VO,hy,ew,MV,zh (show(BB:Int)≠0 by omega),hblk];rcases akt k hk b hb hby p s w hp hs hs2 (by omega) (many-(A.length+1)) (by omega) m l A (by omega) with⟨s1,p',i1⟩|⟨q,xs,q1,q2,q3,s1,i1⟩
   ·left
    simp only[s1,i1,yY,zD,yX,ei];refine⟨?_,trivial⟩;obtain⟨n,rfl⟩:∃x,n=x+1:=⟨n-1,by omega⟩;simp only[BH.D_,Au,yY,zq,Bool.and_false,yZ,hL]
   ·simp only[s1,i1,yY,zq,yZ]
    have sa:=alm k (Bl.EK k KE n') b (q:Int) block (BB:Int) (W:Int) (i:Int) many OH m ei xs (by omega) xs [] A l k rfl (by omega) hA;rw[List.length_nil,show((0:Nat):Int)=0 from rfl] at sa;rw[sa,ei];have hne:xs.take (many-(A.length+1))≠[]:=by
     intro h0;have:=congrArg List.length h0;rw[List.length_take,List.length_nil] at this;omega
    obtain⟨B,l',hB⟩:∃B l',Gj m l (xs.take (many-(A.length+1)))=B++[l']:=by
     have:Gj m l (xs.take (many-(A.length+1)))≠[]:=by
      intro h0;have h1:=PX m (xs.take (many-(A.length+1))) l;rw[h0] at h1;exact hne (List.eq_nil_of_length_eq_zero h1.symm)
     exact⟨_,_,(List.dropLast_concat_getLast this).symm⟩
    have hBl:B.length+1=min (many-(A.length+1)) xs.length:=by
     have h1:=PX m (xs.take (many-(A.length+1))) l;rw[hB,zX,Ap,List.length_take] at h1;exact h1
    rw[hB,show(A++[l])++(B++[l'])=(A++[l]++B)++[l'] by simp];have hI':∀y,y∈(A++[l]++B)++[l']→Ae y:=by
     intro y hy;rw[show(A++[l]++B)++[l']=(A++[l])++(B++[l']) by simp,←hB] at hy;rcases List.mem_append.1 hy with hy|hy
     ·exact hI y hy
     ·exact Ru _ _ _ y hy
    have hl1:(A++[l]++B).length=A.length+1+B.length:=by simp;omega
    rcases ih n n' (i+1) q (A++[l]++B) l' (by omega) (by omega) (by omega) q2 (by omega) hI' with⟨a1,a2⟩|⟨q',A',l'',r1,r2,r3,r4,r5,r6,r7,r8⟩
    ·left
     exact⟨a1,a2⟩
    ·right
     exact⟨q',A',l'',by omega,r2,by omega,r4,fun _ _=>by omega,r6,r7,r8⟩
theorem Vk(hk:3000≤k)(b:List Int)(hb:b.length≤1048576)(hby:CG b)(s BB many:Nat)(block:Int)(hs:s%8=0)(hs0:0<s)(hs2:s≤1024)(hm0:0<BB)(lC:BB≤1024)(OH:many≤2000)(hblk:IntKind.wrap .i64 (Int.tdiv block (BB:Int))=(s:Int)):∀(f n p:Nat) (A:List Int) (l:Int),many-(A.length+1)≤f→f+1<n→p≤b.length→A.length+1≤many→(∀y,y∈A++[l]→Ae y)→
 ∃nx ok r,BH.De k n b (BB:Int) (many:Int) (s:Int) (dR b p false) (A++[l])=some (((),nx,ok),r)∧Bl.A_ k n b (p:Int) block (BB:Int) (many:Int) [] (A++[l])=some (((),nx,ok),r)∧
  (ok=false→nx=0∧r=[])∧(ok=true→(p:Int)≤nx∧nx≤(b.length:Int)∧r.length=many∧∀y,y∈r→Ae y):=by
 intro f
 induction f with
 |zero=>
  intro n p A l hf hn hp hA hI;obtain⟨n,rfl⟩:∃x,n=x+1:=⟨n-1,by omega⟩;have hd:decide (((A++[l]).length:Int)<(many:Int))=false:=zk (by simp;omega);simp only[BH.De,Bl.A_,hd,yZ,yY];exact⟨_,_,_,rfl,rfl,nofun,fun _=>⟨by omega,by omega,by simp;omega,hI⟩⟩
 |succ f ih=>
  intro n p A l hf hn hp hA hI;obtain⟨n,rfl⟩:∃x,n=x+1:=⟨n-1,by omega⟩;by_cases hfull:A.length+1=many
  ·have hd:decide (((A++[l]).length:Int)<(many:Int))=false:=zk (by simp;omega)
   simp only[BH.De,Bl.A_,hd,yZ,yY];exact⟨_,_,_,rfl,rfl,nofun,fun _=>⟨by omega,by omega,by simp;omega,hI⟩⟩
  ·have hd:decide (((A++[l]).length:Int)<(many:Int))=true:=zh (by simp;omega)
   have hL:∀p o,BH.De k n b (BB:Int) (many:Int) (s:Int) (dR b p true) o=some (((),0,false),[]):=by
    intro p o;obtain⟨n,rfl⟩:∃x,n=x+1:=⟨n-1,by omega⟩;simp only[BH.De,Au,zq,Bool.and_false,yY,yZ,yX]
   have g1:=LG k (by omega) (by omega) hby p hp;have g2:=PD k (by omega) (by omega) hby p hp;simp only[BH.De,Bl.A_,hd,yX,yY,zD,Gr,g1,g2,yZ];cases hg:gv (b.drop p) with
   |none=>
    have z0:GJ k 0=some (Ce 0):=JU k ⟨by decide,by decide⟩;simp only[zD,yX,yY,z0,LQ];refine⟨0,false,[],?_,rfl,fun _=>⟨rfl,rfl⟩,nofun⟩;obtain⟨kk,hkk⟩:∃x,k=x+1:=⟨k-1,by omega⟩;have:∀N:Nat,0<N→BH.D_ k (BH.De k n) N b (BB:Int) (many:Int) (s:Int) (Ce 0) 0 0 (dR b p true) (A++[l])=some (((),0,false),[]):=by
     intro N hN;obtain⟨N,rfl⟩:∃x,N=x+1:=⟨N-1,by omega⟩;simp only[BH.D_,Au,yY,zq,Bool.and_false,yZ,hL]
    exact this k (by omega)
   |some un=>
    obtain⟨u,c⟩:=un;obtain⟨hu,c1,c2,_,_⟩:=E8 (b.drop p) u c (fun x hx=>hby x (List.mem_of_mem_drop hx)) hg;rw[List.length_drop] at c2;have GA:IntKind.wrap .i64 ((b.length:Int)-((p+c:Nat):Int))=((b.length-(p+c):Nat):Int):=by rw[zg (by omega) (by omega)];omega
    simp only[zq,yZ,yY,JU k hu,LQ,GA];by_cases hfit:BB≤b.length-(p+c)
    ·have e1:IntKind.wrap .i64 (((p+c:Nat):Int)+(BB:Int))=((p+c+BB:Nat):Int):=by rw[zg (by omega) (by omega)];omega
     have e2:IntKind.wrap .i64 (((p+c+BB:Nat):Int)-(BB:Int))=((p+c:Nat):Int):=by rw[zg (by omega) (by omega)];omega
     simp only[zk (show ¬((b.length-(p+c):Nat):Int)<(BB:Int) by omega),zk (show ¬(BB:Int)>((b.length-(p+c):Nat):Int) by omega),yZ,yY,e1,e2];rcases aku k hk b hb hby s BB (p+c) many (Ce u) block hs hs0 hs2 hm0 lC (by omega) OH hblk (BH.De k n) (Bl.A_ k n) hL BB k k 0 (p+c+BB) A l (by omega) (by omega) (by omega) (by omega) hA hI with⟨a1,a2⟩|⟨q,A',l',r1,r2,r3,r4,r5,r6,r7,r8⟩
     ·exact⟨0,false,[],a1,a2,fun _=>⟨rfl,rfl⟩,nofun⟩
     ·have hgrow:=r5 (by omega) (by omega)
      obtain⟨nx,ok,r,b1,b2,b3,b4⟩:=ih n q A' l' (by omega) (by omega) r2 r4 r6;refine⟨nx,ok,r,r7.trans b1,r8.trans b2,b3,fun hh=> ?_⟩;obtain⟨x1,x2⟩:=b4 hh;exact⟨by omega,x2⟩
    ·simp only[zh (show((b.length-(p+c):Nat):Int)<(BB:Int) by omega),zh (show(BB:Int)>((b.length-(p+c):Nat):Int) by omega),yX,yY]
     refine⟨0,false,[],?_,rfl,fun _=>⟨rfl,rfl⟩,nofun⟩;have:∀N:Nat,0<N→BH.D_ k (BH.De k n) N b (BB:Int) (many:Int) (s:Int) (Ce u) 0 0 (dR b (p+c) true) (A++[l])=some (((),0,false),[]):=by
      intro N hN;obtain⟨N,rfl⟩:∃x,N=x+1:=⟨N-1,by omega⟩;simp only[BH.D_,Au,yY,zq,Bool.and_false,yZ,hL]
     exact this k (by omega)
theorem Mr(hk:2000≤k)(b:List Int)(hb:b.length≤1048576)(hby:CG b)(p:Nat)(hp:p≤b.length):
 (gv (b.drop p)=none∧Gr k (dR b p false) []=some (0,(dR b p true,[]))∧DZ k b (p:Int)=some (0,0,false)∧Jp k b (p:Int)=some (0,0,false))∨
 ∃(u:Int) (q:Nat),Ae u∧q≤b.length∧p≤q∧Gr k (dR b p false) []=some (u,(dR b q false,[]))∧DZ k b (p:Int)=some (u,(q:Int),true)∧Jp k b (p:Int)=some (Ce u,(q:Int),true):=by
 have g1:=LG k hk (by omega) hby p hp;have g2:=Nz k hk (by omega) hby p hp;have g3:=PD k hk (by omega) hby p hp;unfold Gr;simp only[g1,g2,g3];cases hg:gv (b.drop p) with
 |none=>
  left;exact⟨rfl,rfl,rfl,rfl⟩
 |some un=>
  right;obtain⟨u,c⟩:=un;obtain⟨hu,c1,c2,_,_⟩:=E8 (b.drop p) u c (fun x hx=>hby x (List.mem_of_mem_drop hx)) hg;rw[List.length_drop] at c2;exact⟨u,p+c,hu,by omega,by omega,rfl,rfl,rfl⟩
theorem Q5(hk:2000≤k)(b:List Int)(hb:b.length≤1048576)(hby:CG b)(p:Nat)(hp:p≤b.length):Gr k (dR b p true) []=some (0,(dR b p true,[])):=by
 have g1:=LG k hk (by omega) hby p hp;unfold Gr;simp only[g1];cases gv (b.drop p)<;>rfl
theorem QO(hk:2000≤k)(b:List Int)(hb:b.length≤1048576)(hby:CG b)(p:Nat)(hp:p≤b.length):∃(u:Int) (q:Nat) (ok:Bool),q≤b.length∧DZ k b (p:Int)=some (u,(q:Int),ok):=by
 rcases Mr k hk b hb hby p hp with⟨_,_,a,_⟩|⟨u,q,_,h1,_,_,a,_⟩
 ·exact⟨0,0,false,by omega,a⟩
 ·exact⟨u,q,true,h1,a⟩
theorem QV(hk:2000≤k)(b:List Int)(hb:b.length≤1048576)(hby:CG b)(p:Nat)(hp:p≤b.length):∃(u:Int) (q:Nat) (ok:Bool),Jp k b (p:Int)=some (u,(q:Int),ok):=by
 rcases Mr k hk b hb hby p hp with⟨_,_,_,a⟩|⟨u,q,_,h1,_,_,_,a⟩
 ·exact⟨0,0,false,a⟩
 ·exact⟨_,q,true,a⟩
theorem P_(hk:3000≤k)(b:List Int)(hb:b.length≤1048576)(hby:CG b)(at_:Int):
 ∃nx ok r,BH k b at_=some (((),nx,ok),r)∧Bl k b at_=some (((),nx,ok),r)∧
  (ok=false→nx=0∧r=[])∧(ok=true→(0≤at_∧at_≤nx∧nx≤(b.length:Int))∧r.length≤2000∧∀y,y∈r→Ae y):=by
 have fail:∃nx ok r,(some (((),0,false),[]):Option Ih)=some (((),nx,ok),r)∧(some (((),0,false),[]):Option Ih)=some (((),nx,ok),r)∧
  (ok=false→nx=0∧r=[])∧(ok=true→(0≤at_∧at_≤nx∧nx≤(b.length:Int))∧r.length≤2000∧∀y,y∈r→Ae y):=⟨_,_,_,rfl,rfl,fun _=>⟨rfl,rfl⟩,nofun⟩
 unfold BH Bl;simp only[Bp,Bh,yY];by_cases hat:0≤at_∧at_≤(b.length:Int)
 ·obtain⟨a0,a1⟩:=hat
  obtain⟨p,rfl⟩:∃m:Nat,at_=m:=⟨at_.toNat,by omega⟩;simp only[zh a0,zh a1,Bool.and_self,zq,yZ];have z0:GJ k 0=some (Ce 0):=JU k ⟨by decide,by decide⟩;rcases Mr k (by omega) b hb hby p (by omega) with⟨_,i1,s1,_⟩|⟨u1,q1,hu1,h1,p1,i1,s1,_⟩
  ·obtain⟨u2,q2,HY,b2,s2⟩:=QO k (by omega) b hb hby 0 (by omega)
   obtain⟨u3,q3,ok3,b3,s3⟩:=QO k (by omega) b hb hby q2 b2;obtain⟨u4,q4,TJ,s4⟩:=QV k (by omega) b hb hby q3 b3;rw[show((0:Nat):Int)=0 from rfl] at s2;have ub:=Q5 k (by omega) b hb hby p (by omega);have ib:Gr k (b,(p:Int),false,(),()) []=some (0,(dR b p true,[])):=i1;simp only[ib,ub,s1,s2,s3,s4,yY,z0,cst,zD,Ag,yX];exact fail
  have ib:Gr k (b,(p:Int),false,(),()) []=some (u1,(dR b q1 false,[])):=i1;rcases Mr k (by omega) b hb hby q1 h1 with⟨_,i2,s2,_⟩|⟨u2,q2,hu2,h2,p2,i2,s2,_⟩
  ·obtain⟨u3,q3,ok3,b3,s3⟩:=QO k (by omega) b hb hby 0 (by omega)
   obtain⟨u4,q4,TJ,s4⟩:=QV k (by omega) b hb hby q3 b3;rw[show((0:Nat):Int)=0 from rfl] at s3;have ub:=Q5 k (by omega) b hb hby q1 h1;simp only[ib,i2,ub,s1,s2,s3,s4,yY,z0,cst,zD,zq,Ag,Aq,yX];exact fail
  rcases Mr k (by omega) b hb hby q2 h2 with⟨_,i3,s3,_⟩|⟨u3,q3,hu3,h3,p3,i3,s3,_⟩
  ·obtain⟨u4,q4,TJ,s4⟩:=QV k (by omega) b hb hby 0 (by omega)
   rw[show((0:Nat):Int)=0 from rfl] at s4;have ub:=Q5 k (by omega) b hb hby q2 h2;simp only[ib,i2,i3,ub,s1,s2,s3,s4,yY,z0,cst,zD,zq,Ag,Aq,yX];exact fail
  rcases Mr k (by omega) b hb hby q3 h3 with⟨_,i4,s4',s4⟩|⟨u4,q4,hu4,h4,p4,i4,s4',s4⟩
  ·simp only[ib,i2,i3,i4,s1,s2,s3,s4,yY,z0,cst,zD,zq,Ag,Aq,yX]
   exact fail
  simp only[ib,i2,i3,i4,s1,s2,s3,s4,yY,JU k hu4,cst,zq,Aq];by_cases hbk:128≤u1∧u1≤1024
  ·obtain⟨k1,k2⟩:=hbk
   simp only[zh k1,zh k2,Bool.and_self,zq,Aq];by_cases h128:Int.tmod u1 128=0
   ·simp only[zK h128,Aq]
    by_cases lC:1≤u2∧u2≤u1
    ·obtain⟨m1,m2⟩:=lC
     simp only[zh m1,zh m2,Bool.and_self,zq,Aq,zh (show u2≠0 by omega),yX,yZ,yY,cst];by_cases hcnt:0≤u3∧u3≤2000
     ·obtain⟨n1,n2⟩:=hcnt
      simp only[zh n1,zh n2,Bool.and_self,zq,Bool.or_false,yZ];cases hdv:(Int.tmod u1 u2 !=0||Int.tmod (IntKind.wrap .i64 (Int.tdiv u1 u2)) 32 !=0) with
      |true=>
       simp only[yX];exact fail
      |false=>
       simp only[Bool.or_eq_false_iff,bne_eq_false_iff_eq] at hdv;simp only[yZ];obtain⟨mi,rfl⟩:∃m:Nat,u2=m:=⟨u2.toNat,by omega⟩;obtain⟨bk,rfl⟩:∃m:Nat,u1=m:=⟨u1.toNat,by omega⟩;obtain⟨cn,rfl⟩:∃m:Nat,u3=m:=⟨u3.toNat,by omega⟩;have ediv:IntKind.wrap .i64 (Int.tdiv (bk:Int) (mi:Int))=((bk/mi:Nat):Int):=by
        have e:Int.tdiv (bk:Int) (mi:Int)=((bk/mi:Nat):Int):=by rw[Int.tdiv_eq_ediv_of_nonneg (by omega),Int.natCast_ediv]
        have:bk/mi≤bk:=Nat.div_le_self _ _;rw[e];generalize bk/mi=z at this⊢;exact zg (by omega) (by omega)
       have hdl:bk/mi≤bk:=Nat.div_le_self _ _;have hdp:0<bk/mi:=Nat.div_pos (by omega) (by omega);have Qs:(bk/mi)%8=0:=by
        have h32:=hdv.2;rw[ediv,Int.tmod_eq_emod_of_nonneg (by omega)] at h32;omega
       by_cases hz:cn=0
       ·subst hz
        simp only[show(((0:Nat):Int)==0)=true from rfl,yX,show decide (((0:Nat):Int)>0)=false from rfl,yZ];have A_:Bl.A_ k k b (q4:Int) (bk:Int) (mi:Int) ((0:Nat):Int) [] []=some (((),(q4:Int),true),[]):=by
         obtain⟨kk,hkk⟩:∃x,k=x+1:=⟨k-1,by omega⟩;rw[hkk];rfl
        rw[A_];exact⟨_,_,_,rfl,rfl,nofun,fun _=>⟨⟨by omega,by omega,by omega⟩,by simp,fun y hy=>by cases hy⟩⟩
       ·have hgt:decide (((cn:Nat):Int)>0)=true:=zh (by omega)
        simp only[zw (show ¬((cn:Nat):Int)=0 by omega),yZ,hgt,yX,ediv,Ak (show(0:Nat)+[Ce u4].length≤4294967296 by simp),List.nil_append];have hzI:Ae (Ce u4):=PU u4
        obtain⟨nx,ok,r,b1,b2,b3,b4⟩:=Vk k hk b hb hby (bk/mi) mi cn (bk:Int) Qs hdp (by omega) (by omega) (by omega) (by omega) ediv 2000 k q4 [] (Ce u4) (by simp;omega) (by omega) h4 (by simp;omega) (by
         intro y hy;rw[List.nil_append,List.mem_singleton] at hy;subst hy;exact hzI)
        rw[List.nil_append] at b1 b2;refine⟨nx,ok,r,b1,b2,b3,fun hh=> ?_⟩;obtain⟨x1,x2,x3,x4⟩:=b4 hh;exact⟨⟨by omega,by omega,x2⟩,by omega,x4⟩
     ·have:(decide ((0:Int)≤u3)&&decide (u3≤2000))=false:=by
       rw[Bool.eq_false_iff];intro h;simp only[Aa,Al] at h;exact hcnt h
      simp only[this,zD,Bool.or_true,yX];exact fail
    ·have:(decide ((1:Int)≤u2)&&decide (u2≤u1))=false:=by
      rw[Bool.eq_false_iff];intro h;simp only[Aa,Al] at h;exact lC h
     simp only[this,zD,Ag,yX,yY];exact fail
   ·simp only[zO h128,Ag,yX,yY]
    exact fail
  ·have:(decide ((128:Int)≤u1)&&decide (u1≤1024))=false:=by
    rw[Bool.eq_false_iff];intro h;simp only[Aa,Al] at h;exact hbk h
   simp only[this,zD,Ag,yX,yY];exact fail
 ·have:(decide (0≤at_)&&decide (at_≤(b.length:Int)))=false:=by
   rw[Bool.eq_false_iff];intro h;simp only[Aa,Al] at h;exact hat h
  simp only[this,zD,yX];exact fail
end Go.Af
end
section
namespace Go.Af
open Go.Am Go.Fn
variable(k:Nat)
abbrev VR:=(Unit×Int×Bool)×List za
theorem aj7(b:List Int)(hb:b.length≤1048576)(ns:List Int)(hns:ns.length≤2000)(hI:∀y,y∈ns→Ae y):∀(post pre:List Int) (n n' p:Nat) (o:List za),ns=pre++post→post.length<n→post.length<n'→p≤b.length→o.length=pre.length→(∀v,v∈o→v.1=0∧v.2.1.size≤40)→
 ∃nx ok l,Hf.l6 k n b (p:Int) (ns.length:Int) (pre.length:Int) o ns=some (((),nx,ok),l)∧H9.l7 k n' b (p:Int) (pre.length:Int) [] ns o=some (((),nx,ok),l)∧
  (ok=false→nx=0∧l=[])∧(ok=true→(p:Int)≤nx∧nx≤(b.length:Int)∧l.length=ns.length∧∀v,v∈l→v.1=0∧v.2.1.size≤40):=by
 intro post
 induction post with
 |nil=>
  intro pre n n' p o hv hn hn' hp ho hO;obtain⟨n,rfl⟩:∃x,n=x+1:=⟨n-1,by omega⟩;obtain⟨n',rfl⟩:∃x,n'=x+1:=⟨n'-1,by omega⟩;have:ns=pre:=by simpa using hv
  subst this;simp only[Hf.l6,H9.l7,zk (show ¬(ns.length:Int)<(ns.length:Int) by omega),yZ];exact⟨_,_,_,rfl,rfl,nofun,fun _=>⟨by omega,by omega,ho,hO⟩⟩
 |cons y post ih=>
  intro pre n n' p o hv hn hn' hp ho hO;simp only[Ah] at hn hn';obtain⟨n,rfl⟩:∃x,n=x+1:=⟨n-1,by omega⟩;obtain⟨n',rfl⟩:∃x,n'=x+1:=⟨n'-1,by omega⟩;have hlen:ns.length=pre.length+(post.length+1):=by rw[hv];simp
  have hg:gU ns (pre.length:Int)=some y:=by rw[hv];exact AX pre post y
  have GA:IntKind.wrap .i64 ((b.length:Int)-(p:Int))=(b.length:Int)-(p:Int):=zg (by omega) (by omega);simp only[Hf.l6,H9.l7,zh (show(pre.length:Int)<(ns.length:Int) by omega),yX,hg,yY,Bp,Bh,cst,GA];by_cases hbad:(0≤y∧y≤40)∧y≤(b.length:Int)-(p:Int)
  ·obtain⟨⟨y0,y1⟩,y2⟩:=hbad
   have e1:IntKind.wrap .i64 ((p:Int)+y)=(((p+y.toNat:Nat)):Int):=by rw[zg (by omega) (by omega)];omega
   have hsl:jg (p:Int) (((p+y.toNat:Nat)):Int) b.length=true:=EI (by omega) (by omega) (by omega);have hlim:∀x:Nat×ByteArray×Unit,lim (o.length+[x].length)=true:=fun x=>Ak (by simp;omega);simp only[zh y0,zh y1,Bool.and_self,zq,zk (show ¬y>(b.length:Int)-(p:Int) by omega),Bt,yZ,e1,hsl,yX,hlim,zg (x:=(pre.length:Int)+1) (by omega) (by omega)];have hsz:(wY (kV b (p:Int) (((p+y.toNat:Nat)):Int))).size≤40:=by
    rw[Kb];unfold kV;rw[List.length_drop,List.length_take];omega
   obtain⟨nx,ok,l,i1,i2,i3,i4⟩:=ih (pre++[y]) n n' (p+y.toNat) (o++[(0,wY (kV b (p:Int) (((p+y.toNat:Nat)):Int)),())]) (by rw[hv];simp) (by omega) (by omega) (by omega) (by simp[ho]) (by
    intro v hv';rcases List.mem_append.1 hv' with hv'|hv'
    ·exact hO v hv'
    ·rw[List.mem_singleton.1 hv'];exact⟨rfl,hsz⟩)
   rw[zX,Ap] at i1 i2;exact⟨nx,ok,l,i1,i2,i3,fun hh=>by obtain⟨x1,x2⟩:=i4 hh;exact⟨by omega,x2⟩⟩
  ·have:(!(decide (0≤y)&&decide (y≤40))||decide (y>(b.length:Int)-(p:Int)))=true:=by
    by_cases a:0≤y<;>by_cases c:y≤40<;>by_cases d:y≤(b.length:Int)-(p:Int)<;>simp[a,c,d]
    ·exact(hbad ⟨⟨a,c⟩,d⟩).elim
    ·omega
   simp only[this,yX];exact⟨_,_,_,rfl,rfl,fun _=>⟨rfl,rfl⟩,nofun⟩
theorem Tt(hk:3000≤k)(b:List Int)(hb:b.length≤1048576)(hby:CG b)(at_:Int):
 ∃nx ok l,Hf k b at_=some (((),nx,ok),l)∧H9 k b at_=some (((),nx,ok),l)∧
  (ok=false→nx=0∧l=[])∧(ok=true→(0≤at_∧at_≤nx∧nx≤(b.length:Int))∧l.length≤2000∧∀v,v∈l→v.1=0∧v.2.1.size≤40):=by
 obtain⟨nx,ok,r,e1,e2,e3,e4⟩:=P_ k hk b hb hby at_;unfold Hf H9;simp only[e1,e2,yY];cases ok with
 |false=>
  simp only[zD,yX];exact⟨_,_,_,rfl,rfl,fun _=>⟨rfl,rfl⟩,nofun⟩
 |true=>
  obtain⟨⟨x1,x2,x3⟩,x4,x5⟩:=e4 rfl;obtain⟨p,rfl⟩:∃m:Nat,nx=m:=⟨nx.toNat,by omega⟩;obtain⟨nx',ok',l,i1,i2,i3,i4⟩:=aj7 k b hb r x4 x5 r [] k k p [] rfl (by omega) (by omega) (by omega) rfl (by simp);rw[List.length_nil,show((0:Nat):Int)=0 from rfl] at i1 i2;simp only[zq,yZ,i1,i2];refine⟨_,_,_,rfl,rfl,i3,fun hh=> ?_⟩;obtain⟨y1,y2,y3,y4⟩:=i4 hh;exact⟨⟨x1,by omega,y2⟩,by omega,y4⟩
theorem ai1(end_:Int)(ns:List Int)(hns:ns.length≤2000)(vs:List za)(hvs:vs.length=ns.length)(hI:∀y,y∈ns→Ae y)(hV:∀v,v∈vs→v.1=0∧v.2.1.size≤40):∀(post pre:List Int) (n n':Nat) (t:ByteArray) (o:List za),ns=pre++post→post.length<n→post.length<n'→t.size≤40→o.length=pre.length→
 ∃nx ok l,Ip.l10 k n end_ t (ns.length:Int) (pre.length:Int) vs o ns=some (((),nx,ok),l)∧I1.l9 k n' end_ t (pre.length:Int) [] ns vs o=some (((),nx,ok),l)∧
  (ok=false→nx=0∧l=[])∧(ok=true→nx=end_∧l.length=ns.length):=by
 intro post
 induction post with
 |nil=>
  intro pre n n' t o hv hn hn' ht ho;obtain⟨n,rfl⟩:∃x,n=x+1:=⟨n-1,by omega⟩;obtain⟨n',rfl⟩:∃x,n'=x+1:=⟨n'-1,by omega⟩;have:ns=pre:=by simpa using hv
  subst this;simp only[Ip.l10,I1.l9,zk (show ¬(ns.length:Int)<(ns.length:Int) by omega),yZ];exact⟨_,_,_,rfl,rfl,nofun,fun _=>⟨rfl,ho⟩⟩
 |cons y post ih=>
  intro pre n n' t o hv hn hn' ht ho;simp only[Ah] at hn hn';obtain⟨n,rfl⟩:∃x,n=x+1:=⟨n-1,by omega⟩;obtain⟨n',rfl⟩:∃x,n'=x+1:=⟨n'-1,by omega⟩;have hlen:ns.length=pre.length+(post.length+1):=by rw[hv];simp
  have hg:gU ns (pre.length:Int)=some y:=by rw[hv];exact AX pre post y
  obtain⟨v,hgv,ajn⟩:=FK (xs:=vs) (i:=(pre.length:Int)) (by omega) (by omega);obtain⟨_,ani⟩:=hV v (List.mem_of_getElem? ajn);have e3:IntKind.wrap .i64 ((pre.length:Int)+1)=(pre.length:Int)+1:=zg (by omega) (by omega);simp only[Ip.l10,I1.l9,zh (show(pre.length:Int)<(ns.length:Int) by omega),yX,hg,hgv,yY,Bp,Bh,cst,e3];by_cases hin:0≤y∧y≤(t.size:Int)
  ·obtain⟨y0,y1⟩:=hin
   have hex:(ByteArray.extract t (Int.toNat 0) (Int.toNat y)).size=y.toNat:=by
    rw[ByteArray.size_extract];omega
   have SC:((ByteArray.extract t (Int.toNat 0) (Int.toNat y))++v.2.1).size=y.toNat+v.2.1.size:=by rw[ByteArray.size_append,hex]
   have ew:IntKind.wrap .i64 (y+(v.2.1.size:Int))=((y.toNat+v.2.1.size:Nat):Int):=by rw[zg (by omega) (by omega)];omega
   simp only[zh y0,zh y1,Bool.and_self,zq,Aq,ew,yZ,EI (show(0:Int)≤0 by decide) y0 y1,yX,hex,SC,Ak (show y.toNat+v.2.1.size≤4294967296 by omega)];by_cases hbig:((y.toNat+v.2.1.size:Nat):Int)>40
   ·simp only[zh hbig,yX]
    exact⟨_,_,_,rfl,rfl,fun _=>⟨rfl,rfl⟩,nofun⟩
   ·have hlim:∀x:Nat×ByteArray×Unit,lim (o.length+[x].length)=true:=fun x=>Ak (by simp;omega)
    simp only[zk hbig,yZ,hlim,yX];have:=ih (pre++[y]) n n' ((ByteArray.extract t (Int.toNat 0) (Int.toNat y))++v.2.1) (o++[(0,(ByteArray.extract t (Int.toNat 0) (Int.toNat y))++v.2.1,())]) (by rw[hv];simp) (by omega) (by omega) (by rw[SC];omega) (by simp[ho]);rw[zX,Ap] at this;exact this
  ·have:(decide (0≤y)&&decide (y≤(t.size:Int)))=false:=by
    rw[Bool.eq_false_iff];intro h;simp only[Aa,Al] at h;exact hin h
   simp only[this,zD,Ag,yX];exact⟨_,_,_,rfl,rfl,fun _=>⟨rfl,rfl⟩,nofun⟩
theorem ai0(hk:3000≤k)(b:List Int)(hb:b.length≤1048576)(hby:CG b)(at_:Int):
 ∃nx ok l,Ip k b at_=some (((),nx,ok),l)∧I1 k b at_=some (((),nx,ok),l)∧l.length≤2000:=by
 obtain⟨nx,ok,r,e1,e2,e3,e4⟩:=P_ k hk b hb hby at_;obtain⟨oJ,HY,l2,f1,f2,f3,f4⟩:=Tt k hk b hb hby nx;unfold Ip I1;simp only[e1,e2,f1,f2,yY,cst];cases ok with
 |false=>
  simp only[zD,Ag,yX];exact⟨_,_,_,rfl,rfl,by simp⟩
 |true=>
  obtain⟨⟨x1,x2,x3⟩,x4,x5⟩:=e4 rfl;simp only[zq,yZ,Aq];cases HY with
  |false=>
   simp only[zD,Ag,yX];exact⟨_,_,_,rfl,rfl,by simp⟩
  |true=>
   obtain⟨_,y4,y5⟩:=f4 rfl;simp only[zq,Aq];by_cases hl:l2.length=r.length
   ·rw[zK (show(l2.length:Int)=(r.length:Int) by omega),zK (show(r.length:Int)=(l2.length:Int) by omega),yZ,yZ]
    obtain⟨nx',ok',l,i1,i2,i3,i4⟩:=ai1 k oJ r x4 l2 hl x5 y5 r [] k k ⟨#[]⟩ [] rfl (by omega) (by omega) (by decide) rfl;rw[List.length_nil,show((0:Nat):Int)=0 from rfl] at i1 i2;refine⟨_,_,_,i1,i2,?_⟩;cases ok' with
    |false=>rw[(i3 rfl).2];simp
    |true=>rw[(i4 rfl).2];exact x4
   ·rw[zO (show ¬(l2.length:Int)=(r.length:Int) by omega),zO (show ¬(r.length:Int)=(l2.length:Int) by omega),yX,yX]
    exact⟨_,_,_,rfl,rfl,by simp⟩
end Go.Af
end
section
namespace Go.Af
open Go.Am Go.Fn
variable(k:Nat)
theorem alX(Li:(List Int)→Int→Int→Int→Int→Int→(List za)→Option VR)(Ls:(List Int)→Int→Int→Int→Int→(List za)→Option VR)(b:List Int)(hb:b.length≤1048576)(hby:CG b)(p many wd i:Nat)(t43:Int)(hp:p+many*wd≤b.length)(hi:i<many)(hm:many≤2000)(hw:wd=4∨wd=8)(o:List za)(ho:o.length≤2000):
 ∀(m n n' j acc:Nat),j+m=wd→m<n→m<n'→acc<2^(8*j)→
 ∃x:Int,Ae x∧
  Ej.l10 k Li n b (p:Int) (many:Int) (wd:Int) (i:Int) (IntKind.wrap .i64 (acc:Int)) t43 (i:Int) (wd:Int) (j:Int) o=Li b (p:Int) (many:Int) (wd:Int) t43 ((i:Int)+1) (o++[(x,⟨#[]⟩,())])∧
  Dq.l10 k Ls n' b (p:Int) (many:Int) (wd:Int) (i:Int) (IntKind.wrap .i64 (acc:Int)) (j:Int) o=Ls b (p:Int) (many:Int) (wd:Int) ((i:Int)+1) (o++[(x,⟨#[]⟩,())]):=by
 intro m
 induction m with
 |zero=>
  intro n n' j acc hj hn hn' ha;obtain⟨n,rfl⟩:∃q,n=q+1:=⟨n-1,by omega⟩;obtain⟨n',rfl⟩:∃q,n'=q+1:=⟨n'-1,by omega⟩;obtain rfl:j=wd:=by omega
  have hlim:∀x:za,lim (o.length+[x].length)=true:=fun x=>Ak (by simp;omega);have e3:IntKind.wrap .i64 ((i:Int)+1)=(i:Int)+1:=zg (by omega) (by omega);simp only[Ej.l10,Dq.l10,zk (show ¬(j:Int)<(j:Int) by omega),yZ,LW,Dq.c15,e3];rcases hw with rfl|rfl
  ·have h32:acc<4294967296:=ha
   have ew:IntKind.wrap .i64 (acc:Int)=(acc:Int):=zg (by omega) (by omega);have aju:(2:Int)^32=4294967296:=by decide
   have h2:(acc:Int)%2^32=(acc:Int):=Int.emod_eq_of_lt (by omega) (by rw[aju];omega);have ajo:IntKind.wrap .i32 (acc:Int)=if(acc:Int)>2147483647 then(acc:Int)-4294967296 else(acc:Int):=by
    simp only[IntKind.wrap,IntKind.bits,IntKind.signed,h2,Bj,Al];by_cases h:(acc:Int)>2147483647
    ·rw[if_pos h,if_pos (show(acc:Int)≥2^(32-1) by omega)];omega
    ·rw[if_neg h,if_neg (show ¬(acc:Int)≥2^(32-1) by omega)]
   rw[ew];simp only[show(((4:Nat):Int)==4)=true from rfl,yX,yY,ajo];by_cases h:(acc:Int)>2147483647
   ·simp only[if_pos h,zh h,yX,zg (x:=(acc:Int)-4294967296) (by omega) (by omega),hlim]
    exact⟨_,⟨by omega,by omega⟩,rfl,rfl⟩
   ·simp only[if_neg h,zk h,yZ,zg (x:=(acc:Int)) (by omega) (by omega),hlim,yX]
    exact⟨_,⟨by omega,by omega⟩,rfl,rfl⟩
  ·simp only[show(((8:Nat):Int)==4)=false from rfl,yZ,yY,hlim,yX]
   exact⟨_,⟨NU _,NT _⟩,rfl,rfl⟩
 |succ m ih=>
  intro n n' j acc hj hn hn' ha;obtain⟨n,rfl⟩:∃q,n=q+1:=⟨n-1,by omega⟩;obtain⟨n',rfl⟩:∃q,n'=q+1:=⟨n'-1,by omega⟩;have hjm:j*many+many≤many*wd:=by
   have:(j+1)*many≤wd*many:=Nat.mul_le_mul_right _ (by omega);rw[Nat.add_mul,Nat.one_mul,Nat.mul_comm wd] at this;exact this
  have ane:j*many≤8*2000:=Nat.mul_le_mul (by omega) hm;have hix:IntKind.wrap .i64 (IntKind.wrap .i64 ((p:Int)+IntKind.wrap .i64 ((j:Int)*(many:Int)))+(i:Int))=((p+j*many+i:Nat):Int):=by
   rw[show(j:Int)*(many:Int)=((j*many:Nat):Int) by simp,zg (x:=((j*many:Nat):Int)) (by omega) (by omega),zg (x:=(p:Int)+((j*many:Nat):Int)) (by omega) (by omega),zg (by omega) (by omega)];omega
  obtain⟨y,hy,hy2⟩:=FK (xs:=b) (i:=((p+j*many+i:Nat):Int)) (by omega) (by omega);obtain⟨y0,y1⟩:=hby y (List.mem_of_getElem? hy2);have e2:IntKind.wrap .i64 (8*(j:Int))=((8*j:Nat):Int):=by rw[zg (by omega) (by omega)];omega
  have e3:IntKind.wrap .i64 ((j:Int)+1)=((j+1:Nat):Int):=by rw[zg (by omega) (by omega)];omega
  have ec:IntKind.wrap .i64 y=((y.toNat:Nat):Int):=by rw[zg (by omega) (by omega)];omega
  have OE:2^(8*(j+1))=256*2^(8*j):=by rw[Nat.mul_add,Nat.pow_add];simp[Nat.mul_comm]
  have hle:2^(8*(j+1))≤2^64:=Nat.pow_le_pow_right (by omega) (by omega);have hlt:acc+y.toNat*2^(8*j)<2^(8*(j+1)):=by
   rw[OE];have:y.toNat*2^(8*j)≤255*2^(8*j):=Nat.mul_le_mul_right _ (by omega);omega
  have KM:=Kj .i64 (a:=acc) (b:=y.toNat) (i:=8*j) (show 8*j≤64 by omega) ha (by show _<2^64;omega);simp only[Ej.l10,Dq.l10,zh (show(j:Int)<(wd:Int) by omega),yX,hix,hy,yY,e2,zh (show(0:Int)≤((8*j:Nat):Int) by omega),ec,KM,e3];exact ih n n' (j+1) _ (by omega) (by omega) (by omega) hlt
theorem alY(hk:3000≤k)(b:List Int)(hb:b.length≤1048576)(hby:CG b)(p many wd:Nat)(hp:p+many*wd≤b.length)(hm:many≤2000)(hw:wd=4∨wd=8):∀(d n i:Nat) (o:List za),i+d=many→d<n→o.length=i→
 ∃l,Ej.l6 k n b (p:Int) (many:Int) (wd:Int) (many:Int) (i:Int) o=some (((),((p+many*wd:Nat):Int),true),l)∧Dq.l6 k n b (p:Int) (many:Int) (wd:Int) (i:Int) o=some (((),((p+many*wd:Nat):Int),true),l)∧l.length=many:=by
 have hmw:many*wd≤2000*8:=Nat.mul_le_mul hm (by omega);have e1:IntKind.wrap .i64 ((p:Int)+IntKind.wrap .i64 ((many:Int)*(wd:Int)))=((p+many*wd:Nat):Int):=by
  rw[show(many:Int)*(wd:Int)=((many*wd:Nat):Int) by simp,zg (x:=((many*wd:Nat):Int)) (by omega) (by omega),zg (by omega) (by omega)];omega
 have e2:IntKind.wrap .i64 ((p:Int)+IntKind.wrap .i64 ((wd:Int)*(many:Int)))=((p+many*wd:Nat):Int):=by
  rw[Int.mul_comm,e1]
 intro d
 induction d with
 |zero=>
  intro n i o hi hn ho;obtain⟨n,rfl⟩:∃x,n=x+1:=⟨n-1,by omega⟩;obtain rfl:i=many:=by omega
  simp only[Ej.l6,Dq.l6,zk (show ¬(i:Int)<(i:Int) by omega),yZ,e1,e2];exact⟨o,rfl,rfl,ho⟩
 |succ d ih=>
  intro n i o hi hn ho;obtain⟨n,rfl⟩:∃x,n=x+1:=⟨n-1,by omega⟩;obtain⟨x,_,i1,s1⟩:=alX k (Ej.l6 k n) (Dq.l6 k n) b hb hby p many wd i (many:Int) hp (by omega) hm hw o (by omega) wd k k 0 0 (by omega) (by omega) (by omega) (by simp);rw[show IntKind.wrap .i64 ((0:Nat):Int)=0 by decide,show((0:Nat):Int)=0 from rfl] at i1 s1;simp only[Ej.l6,Dq.l6,zh (show(i:Int)<(many:Int) by omega),yX,i1,s1];have:=ih n (i+1) (o++[(x,⟨#[]⟩,())]) (by omega) (by omega) (by simp[ho]);rw[show((i+1:Nat):Int)=(i:Int)+1 by omega] at this;exact this
theorem Uk(t:Int):∃wd:Int,OU k t=some wd∧Jo k t=some wd∧Ez k t=some wd∧(wd=0∨wd=4∨wd=8):=by
 unfold OU Jo Jo.c6 Ez Ez.c6;by_cases h1:t=1
 ·subst h1;exact⟨4,rfl,rfl,rfl,by decide⟩
 by_cases h2:t=2
 ·subst h2;exact⟨8,rfl,rfl,rfl,by decide⟩
 by_cases h5:t=5
 ·subst h5;exact⟨8,rfl,rfl,rfl,by decide⟩
 ·simp only[zw h1,zw h2,zw h5,yZ,yY]
  exact⟨0,rfl,rfl,rfl,by decide⟩
theorem alW(hk:3000≤k)(t:Int)(b:List Int)(hb:b.length≤1048576)(hby:CG b)(at_ many:Int):
 ∃nx ok l,Ej k t b at_ many=some (((),nx,ok),l)∧Dq k t b at_ many=some (((),nx,ok),l)∧l.length≤2000:=by
 obtain⟨wd,w1,w2,_,w3⟩:=Uk k t;unfold Ej Dq;simp only[w1,w2,yY,Bp,Bh,cst];by_cases hc:wd≠0∧(0≤many∧many≤2000)∧(0≤at_∧at_≤(b.length:Int))
 ·obtain⟨c1,⟨m0,m1⟩,a0,a1⟩:=hc
  obtain⟨wd,rfl⟩:∃m:Nat,wd=m:=⟨wd.toNat,by omega⟩;obtain⟨many,rfl⟩:∃m:Nat,many=m:=⟨many.toNat,by omega⟩;obtain⟨p,rfl⟩:∃m:Nat,at_=m:=⟨at_.toNat,by omega⟩;have hmw:many*wd≤2000*8:=Nat.mul_le_mul (by omega) (by omega);have e1:IntKind.wrap .i64 ((many:Int)*(wd:Int))=((many*wd:Nat):Int):=by
   rw[show(many:Int)*(wd:Int)=((many*wd:Nat):Int) by simp,zg (by omega) (by omega)]
  have e2:IntKind.wrap .i64 ((wd:Int)*(many:Int))=((many*wd:Nat):Int):=by rw[Int.mul_comm,e1]
  have GA:IntKind.wrap .i64 ((b.length:Int)-(p:Int))=(b.length:Int)-p:=zg (by omega) (by omega);simp only[zw (show ¬(wd:Int)=0 from c1),zh m0,zh m1,zh a0,zh a1,Bool.and_self,zq,Bt,Aq,e1,e2,GA];by_cases hfit:((many*wd:Nat):Int)≤(b.length:Int)-p
  ·simp only[zk (show ¬((many*wd:Nat):Int)>(b.length:Int)-p by omega),zk (show ¬(b.length:Int)-p<((many*wd:Nat):Int) by omega),yZ]
   obtain⟨l,l1,l2,l3⟩:=alY k hk b hb hby p many wd (by omega) (by omega) (by omega) many k 0 [] (by omega) (by omega) rfl;exact⟨_,_,_,l1,l2,by omega⟩
  ·simp only[zh (show((many*wd:Nat):Int)>(b.length:Int)-p by omega),zh (show(b.length:Int)-p<((many*wd:Nat):Int) by omega),yX]
   exact⟨_,_,_,rfl,rfl,by simp⟩
 ·have:((wd==0|| !(decide (0≤many)&&decide (many≤2000)))|| !(decide (0≤at_)&&decide (at_≤(b.length:Int))))=true:=by
   by_cases a:wd=0<;>by_cases b1:0≤many<;>by_cases c:many≤2000<;>by_cases d:0≤at_<;>by_cases e:at_≤(b.length:Int)<;>simp[a,b1,c,d,e]
   exact hc ⟨a,⟨b1,c⟩,d,e⟩
  simp only[this,Ag,yX];exact⟨_,_,_,rfl,rfl,by simp⟩
theorem akU(ns:List Int)(hns:ns.length≤2000)(most nx:Int):∀(post pre:List Int) (n n':Nat),ns=pre++post→post.length<n→post.length<n'→
 ∃nx' ok l,Iq.l7 k n most nx (ns.length:Int) (pre.length:Int) ns=some (((),nx',ok),l)∧I4.l8 k n' most nx (pre.length:Int) [] ns=some (((),nx',ok),l)∧l.length≤2000:=by
 intro post
 induction post with
 |nil=>
  intro pre n n' hv hn hn';obtain⟨n,rfl⟩:∃x,n=x+1:=⟨n-1,by omega⟩;obtain⟨n',rfl⟩:∃x,n'=x+1:=⟨n'-1,by omega⟩;have:ns=pre:=by simpa using hv
  subst this;simp only[Iq.l7,I4.l8,zk (show ¬(ns.length:Int)<(ns.length:Int) by omega),yZ];exact⟨_,_,_,rfl,rfl,hns⟩
 |cons y post ih=>
  intro pre n n' hv hn hn';simp only[Ah] at hn hn';obtain⟨n,rfl⟩:∃x,n=x+1:=⟨n-1,by omega⟩;obtain⟨n',rfl⟩:∃x,n'=x+1:=⟨n'-1,by omega⟩;have hlen:ns.length=pre.length+(post.length+1):=by rw[hv];simp
  have hg:gU ns (pre.length:Int)=some y:=by rw[hv];exact AX pre post y
  have e3:IntKind.wrap .i64 ((pre.length:Int)+1)=(pre.length:Int)+1:=zg (by omega) (by omega);simp only[Iq.l7,I4.l8,zh (show(pre.length:Int)<(ns.length:Int) by omega),yX,hg,yY,e3];cases decide (y≥most) with
  |true=>
   simp only[yX];exact⟨_,_,_,rfl,rfl,by simp⟩
  |false=>
   simp only[yZ];have:=ih (pre++[y]) n n' (by rw[hv];simp) (by omega) (by omega);rw[zX,Ap] at this;exact this
theorem akT(hk:2000000≤k)(b:List Int)(hb:b.length≤1048576)(hby:CG b)(at_ many most:Int):
 ∃nx ok l,Iq k b at_ many most=some (((),nx,ok),l)∧I4 k b at_ many most=some (((),nx,ok),l)∧l.length≤2000:=by
 unfold Iq I4;have GA:IntKind.wrap .i64 ((b.length:Int)-1)=(b.length:Int)-1:=zg (by omega) (by omega);simp only[Bp,yY,cst,GA];by_cases hin:0≤at_∧at_<(b.length:Int)
 ·obtain⟨a0,a1⟩:=hin
  obtain⟨y,hy,hy2⟩:=FK (xs:=b) (i:=at_) a0 a1;obtain⟨y0,y1⟩:=hby y (List.mem_of_getElem? hy2);have ey:IntKind.wrap .i64 y=y:=zg (by omega) (by omega);have ea:IntKind.wrap .i64 (at_+1)=at_+1:=zg (by omega) (by omega);simp only[zh a0,zh (show at_≤(b.length:Int)-1 by omega),zk (show ¬at_<0 by omega),zk (show ¬at_≥(b.length:Int) by omega),Bool.and_self,zq,Bt,yZ,hy,yY,ey,ea];obtain⟨nx,ok,l,e1,e2,e3,e4⟩:=Pn k hk b hb hby (at_+1) many y;by_cases OC:y>24
  ·have hok:ok=false:=by
    cases ok with
    |false=>rfl
    |true=>obtain⟨_,_,⟨_,h⟩,_⟩:=e4 rfl;omega
   subst hok;simp only[zh OC,yX,e1,yY,zD];exact⟨_,_,_,rfl,rfl,by simp⟩
  ·simp only[zk OC,yZ,e1,e2,yY]
   cases ok with
   |false=>
    simp only[zD,yX];exact⟨_,_,_,rfl,rfl,by simp⟩
   |true=>
    obtain⟨_,⟨m0,m1⟩,_,hl,_⟩:=e4 rfl;obtain⟨nx',ok',l',p1,p2,p3⟩:=akU k l (by omega) most nx l [] k k rfl (by omega) (by omega);rw[List.length_nil,show((0:Nat):Int)=0 from rfl] at p1 p2;simp only[zq,yZ,p1,p2];exact⟨_,_,_,rfl,rfl,p3⟩
 ·have h1:(decide (0≤at_)&&decide (at_≤(b.length:Int)-1))=false:=by
   rw[Bool.eq_false_iff];intro h;simp only[Aa,Al] at h;omega
  have h2:(decide (at_<0)||decide (at_≥(b.length:Int)))=true:=by
   simp only[Bool.or_eq_true,Al];omega
  simp only[h1,h2,zD,yX,yY];exact⟨_,_,_,rfl,rfl,by simp⟩
theorem VK(Bd:List za)(hd:Bd.length<1000000000)(ns:List Int)(hns:ns.length≤2000):∀(post pre:List Int) (n n':Nat) (o:List za),ns=pre++post→post.length<n→post.length<n'→o.length=pre.length→
 ∃ok l,Io.l5 k n Bd ns (ns.length:Int) (pre.length:Int) o=some (((),ok),l)∧IY.l5 k n' Bd ns (pre.length:Int) o=some (((),ok),l)∧l.length≤2000:=by
 intro post
 induction post with
 |nil=>
  intro pre n n' o hv hn hn' ho;obtain⟨n,rfl⟩:∃x,n=x+1:=⟨n-1,by omega⟩;obtain⟨n',rfl⟩:∃x,n'=x+1:=⟨n'-1,by omega⟩;have:ns=pre:=by simpa using hv
  subst this;simp only[Io.l5,IY.l5,zk (show ¬(ns.length:Int)<(ns.length:Int) by omega),yZ];exact⟨_,_,rfl,rfl,by omega⟩
 |cons y post ih=>
  intro pre n n' o hv hn hn' ho;simp only[Ah] at hn hn';obtain⟨n,rfl⟩:∃x,n=x+1:=⟨n-1,by omega⟩;obtain⟨n',rfl⟩:∃x,n'=x+1:=⟨n'-1,by omega⟩;have hlen:ns.length=pre.length+(post.length+1):=by rw[hv];simp
  have hg:gU ns (pre.length:Int)=some y:=by rw[hv];exact AX pre post y
  have e3:IntKind.wrap .i64 ((pre.length:Int)+1)=(pre.length:Int)+1:=zg (by omega) (by omega);have GA:IntKind.wrap .i64 ((Bd.length:Int)-1)=(Bd.length:Int)-1:=zg (by omega) (by omega);simp only[Io.l5,IY.l5,zh (show(pre.length:Int)<(ns.length:Int) by omega),yX,hg,yY,e3,Bp,Bh,GA];by_cases hin:0≤y∧y≤(Bd.length:Int)-1
  ·obtain⟨y0,y1⟩:=hin
   obtain⟨v,hv1,_⟩:=FK (xs:=Bd) (i:=y) y0 (by omega);simp only[zh y0,zh y1,Bool.and_self,zq,yZ,hv1,yY,Ak (show o.length+[v].length≤4294967296 by simp;omega),yX];have:=ih (pre++[y]) n n' (o++[v]) (by rw[hv];simp) (by omega) (by omega) (by simp[ho]);rw[zX,Ap] at this;exact this
  ·have:(decide (0≤y)&&decide (y≤(Bd.length:Int)-1))=false:=by
    rw[Bool.eq_false_iff];intro h;simp only[Aa,Al] at h;exact hin h
   simp only[this,zD,yX];exact⟨_,_,rfl,rfl,by simp⟩
theorem VI(hk:3000≤k)(Bd:List za)(hd:Bd.length<1000000000)(ns:List Int):∃ok l,Io k Bd ns=some (((),ok),l)∧IY k Bd ns=some (((),ok),l)∧l.length≤2000:=by
 unfold Io IY;by_cases h:(ns.length:Int)>2000
 ·simp only[zh h,yX]
  exact⟨_,_,rfl,rfl,by simp⟩
 ·simp only[zk h,yZ]
  obtain⟨ok,l,e1,e2,e3⟩:=VK k Bd hd ns (by omega) ns [] k k [] rfl (by omega) (by omega) rfl;rw[List.length_nil,show((0:Nat):Int)=0 from rfl] at e1 e2;exact⟨ok,l,e1,e2,e3⟩
abbrev Nr(x:Int):za:=(x,zn,())
theorem ajW(l:List Int)(hl:l.length<1000000000):∀(post pre:List Int) (n:Nat),l=pre++post→post.length<n→I6.l3 k n l (pre.length:Int) (pre.map Nr)=some ((),l.map Nr):=by
 intro post
 induction post with
 |nil=>
  intro pre n hv hn;obtain⟨n,rfl⟩:∃x,n=x+1:=⟨n-1,by omega⟩;have:l=pre:=by simpa using hv
  subst this;simp only[I6.l3,zk (show ¬(l.length:Int)<(l.length:Int) by omega),yZ]
 |cons v post ih=>
  intro pre n hv hn;simp only[Ah] at hn;obtain⟨n,rfl⟩:∃x,n=x+1:=⟨n-1,by omega⟩;have hlen:l.length=pre.length+(post.length+1):=by rw[hv];simp
  have hg:gU l (pre.length:Int)=some v:=by rw[hv];exact AX pre post v
  have:=ih (pre++[v]) n (by rw[hv];simp) (by omega);rw[zX,Ap,List.map_append] at this;simp only[I6.l3,zh (show(pre.length:Int)<(l.length:Int) by omega),yX,hg,yY,Ak (show(pre.map Nr).length+([(v,zn,())]:List za).length≤4294967296 by simp;omega),zg (x:=(pre.length:Int)+1) (by omega) (by omega)];exact this
theorem vals_eq(l:List Int)(hl:l.length<1000000000)(hlk:l.length<k):GM k l=some ((),l.map Nr)∧I6 k l=some ((),l.map Nr):=by
 have h1:=(Uv k l hl l [] k rfl hlk).1;have h2:=ajW k l hl l [] k rfl hlk;rw[List.length_nil,List.map_nil,show((0:Nat):Int)=0 from rfl] at h1 h2;exact⟨h1,h2⟩
theorem VP(e t:Int):∃b,Gl k e t=some b∧Ga k e t=some b∧(b=true→e=0∨e=3∨e=5∨e=6∨e=7∨e=8∨e=9):=by
 obtain⟨wd,w1,w2,w3,w4⟩:=Uk k t;unfold Gl Ga Gl.c4 Ga.c6 Gl.c11 Ga.c13;simp only[NK,LZ,yY,w2,w3,cst,Au];by_cases h0:e=0
 ·subst h0
  refine⟨Cc t,rfl,?_,fun _=> .inl rfl⟩;cases Cc t<;>rfl
 by_cases h8:e=8
 ·subst h8
  refine⟨Cc t,rfl,?_,fun _=>by simp⟩;cases Cc t<;>rfl
 have ty:∀b:Bool,(b=true→Cc t=true)→(cond (!Cc t) (some false) (some b):Option Bool)=some b:=by
  intro b hb;cases ht:Cc t with
  |true=>rfl
  |false=>
   cases b with
   |false=>rfl
   |true=>rw[ht] at hb;cases hb rfl
 by_cases h3:e=3
 ·subst h3
  refine⟨t==0,rfl,ty _ (fun hb=>by have:=eq_of_beq hb;subst this;rfl),fun _=>by simp⟩
 by_cases h5:e=5
 ·subst h5
  refine⟨t==1||t==2,rfl,ty _ (fun hb=>by rcases Bool.or_eq_true_iff.1 hb with h|h<;>(have:=eq_of_beq h;subst this;rfl)),fun _=>by simp⟩
 by_cases h6:e=6
 ·subst h6
  refine⟨t==6,rfl,ty _ (fun hb=>by have:=eq_of_beq hb;subst this;rfl),fun _=>by simp⟩
 by_cases h7:e=7
 ·subst h7
  refine⟨t==6,rfl,ty _ (fun hb=>by have:=eq_of_beq hb;subst this;rfl),fun _=>by simp⟩
 by_cases h9:e=9
 ·subst h9
  refine⟨decide (wd>0),rfl,ty _ (fun hb=> ?_),fun _=>by simp⟩;have hb:=of_decide_eq_true hb;unfold Ez Ez.c6 at w3;unfold Cc;by_cases t1:t=1
  ·subst t1;rfl
  by_cases t2:t=2
  ·subst t2;rfl
  by_cases t5:t=5
  ·subst t5;rfl
  ·simp only[zw t1,zw t2,zw t5,yZ,Ao] at w3
   omega
 ·simp only[zw h0,zw h8,zw h3,zw h5,zw h6,zw h7,zw h9,yZ,Cg]
  refine⟨false,rfl,?_,fun h=>by cases h⟩;cases Cc t<;>rfl
theorem VQ(hk:2000000≤k)(e t:Int)(b:List Int)(hb:b.length≤1048576)(hby:CG b)(many:Int)(Bd:List za)(hd:Bd.length<1000000000):
 ∃ok l,LH k e t b many Bd=some (((),ok),l)∧NA k e t b many Bd=some (((),ok),l)∧l.length≤2000∧(ok=true→l.length=many.toNat∧0≤many∧FT t l=true):=by
 obtain⟨eo,o1,o2,o3⟩:=VP k e t;have SB:Ae 0:=⟨by decide,by decide⟩;unfold LH NA;simp only[o1,o2,yY,Bp,Bh,cst,Au];by_cases hc:eo=true∧0≤many∧many≤2000
 ·obtain⟨rfl,m0,m1⟩:=hc
  simp only[zh m0,zh m1,Bool.and_self,zq,Bt,yZ];have key:(e=8∧many=0∧b.length=0)∨(¬(e=8∧many=0∧b.length=0)∧∃nx ok l,OY k e t b many Bd=some (((),nx,ok),l)∧Ml k e t b many Bd=some (((),nx,ok),l)∧l.length≤2000):=by
   by_cases hz:e=8∧many=0∧b.length=0
   ·exact .inl hz
   ·right
    refine⟨hz,?_⟩;unfold OY Ml;rcases o3 rfl with rfl|rfl|rfl|rfl|rfl|rfl|rfl
    ·obtain⟨nx,ok,l,e1,e2,pr⟩:=QH k (by omega) t b (by omega) hby 0 many SB
     simp only[show((0:Int)==0)=true from rfl,yX,e1,e2,yY];refine⟨nx,ok,l,rfl,rfl,?_⟩;cases ok with
     |true=>have:=pr.len rfl;omega
     |false=>exact pr.short rfl
    ·obtain⟨v,nx,ok,a1,a2,a3,a4,a5⟩:=NV k (by omega) b (by omega) hby 0 SB 4 (by decide) (by decide)
     rw[show((4:Nat):Int)=4 from rfl] at a1 a2;simp only[show((3:Int)==0)=false from rfl,show((3:Int)==3)=true from rfl,show((3:Int)==5)=false from rfl,show((3:Int)==6)=false from rfl,show((3:Int)==7)=false from rfl,show((3:Int)==9)=false from rfl,show((3:Int)==8)=false from rfl,yX,yZ,a1,a2,yY,cst];cases(!ok||v !=IntKind.wrap .i64 ((b.length:Int)-nx)) with
     |true=>
      simp only[yX];exact⟨_,_,_,rfl,rfl,by simp⟩
     |false=>
      obtain⟨nx',ok',l,r1,r2,r3,r4⟩:=Pn k hk b hb hby nx many 1;have hl:l.length≤2000:=by
       cases ok' with
       |false=>rw[(r3 rfl).2];simp
       |true=>obtain⟨_,_,_,h,_⟩:=r4 rfl;omega
      obtain⟨v1,v2⟩:=vals_eq k l (by omega) (by omega);simp only[yZ,r1,r2,v1,v2,yY];exact⟨_,_,_,rfl,rfl,by simpa using hl⟩
    ·obtain⟨nx,ok,l,e1,e2,e3,e4⟩:=P_ k (by omega) b hb hby 0
     have hl:l.length≤2000:=by
      cases ok with
      |false=>rw[(e3 rfl).2];simp
      |true=>exact(e4 rfl).2.1
     obtain⟨v1,v2⟩:=vals_eq k l (by omega) (by omega);simp only[show((5:Int)==0)=false from rfl,show((5:Int)==3)=false from rfl,show((5:Int)==5)=true from rfl,yX,yZ,e1,e2,v1,v2,yY];exact⟨_,_,_,rfl,rfl,by simpa using hl⟩
    ·obtain⟨nx,ok,l,e1,e2,e3,e4⟩:=Tt k (by omega) b hb hby 0
     simp only[show((6:Int)==0)=false from rfl,show((6:Int)==3)=false from rfl,show((6:Int)==5)=false from rfl,show((6:Int)==6)=true from rfl,yX,yZ,e1,e2,yY];refine⟨_,_,_,rfl,rfl,?_⟩;cases ok with
     |false=>rw[(e3 rfl).2];simp
     |true=>exact(e4 rfl).2.1
    ·obtain⟨nx,ok,l,e1,e2,e3⟩:=ai0 k (by omega) b hb hby 0
     simp only[show((7:Int)==0)=false from rfl,show((7:Int)==3)=false from rfl,show((7:Int)==5)=false from rfl,show((7:Int)==6)=false from rfl,show((7:Int)==7)=true from rfl,yX,yZ,e1,e2,yY];exact⟨_,_,_,rfl,rfl,e3⟩
    ·obtain⟨nx,ok,l,e1,e2,e3⟩:=akT k hk b hb hby 0 many (Bd.length:Int)
     obtain⟨HY,l2,d1,d2,d3⟩:=VI k (by omega) Bd hd l;have hz':(many==0&&((b.length:Int)==0))=false:=by
      rw[Bool.eq_false_iff];intro h;simp only[Aa,beq_iff_eq] at h;exact hz ⟨rfl,h.1,by omega⟩
     simp only[show((8:Int)==0)=false from rfl,show((8:Int)==3)=false from rfl,show((8:Int)==5)=false from rfl,show((8:Int)==6)=false from rfl,show((8:Int)==7)=false from rfl,show((8:Int)==9)=false from rfl,show((8:Int)==8)=true from rfl,yX,yZ,Au,hz',e1,e2,d1,d2,yY];exact⟨_,_,_,rfl,rfl,d3⟩
    ·obtain⟨nx,ok,l,e1,e2,e3⟩:=alW k (by omega) t b hb hby 0 many
     simp only[show((9:Int)==0)=false from rfl,show((9:Int)==3)=false from rfl,show((9:Int)==5)=false from rfl,show((9:Int)==6)=false from rfl,show((9:Int)==7)=false from rfl,show((9:Int)==9)=true from rfl,yX,yZ,e1,e2,yY];exact⟨_,_,_,rfl,rfl,e3⟩
  rcases key with⟨rfl,rfl,hb0⟩|⟨hz,nx,ok,l,i1,s1,hl⟩
  ·have hs:Ml k 8 t b 0 Bd=some (((),0,true),[]):=by
    unfold Ml;simp only[show((8:Int)==0)=false from rfl,show((8:Int)==3)=false from rfl,show((8:Int)==5)=false from rfl,show((8:Int)==6)=false from rfl,show((8:Int)==7)=false from rfl,show((8:Int)==9)=false from rfl,show((0:Int)==0)=true from rfl,yX,yZ,hb0,yY];rfl
   have hty:Cc t=true:=by
    have h2:=o2;unfold Ga at h2;simp only[LZ,yY] at h2;cases ht:Cc t with
    |true=>rfl
    |false=>rw[ht] at h2;cases h2
   have hvs:FT t []=true:=NN.2 ⟨by simp,by simp,hty⟩;obtain⟨q1,q2⟩:=Q8 k t [] (by simp) (by simp;omega);simp only[hs,hb0,show((8:Int)==8)=true from rfl,show((0:Int)==0)=true from rfl,Bool.and_self,show(((0:Nat):Int)==0)=true from rfl,yX,yY,zq,show((0:Int) !=((0:Nat):Int))=false from rfl,cst,Bt,yZ,List.length_nil,q2,hvs,show(((0:Nat):Int) !=0)=false from rfl];exact⟨_,_,rfl,rfl,by simp,fun _=>⟨rfl,by decide,hvs⟩⟩
  ·have hz':((e==8&&many==0)&&((b.length:Int)==0))=false:=by
    rw[Bool.eq_false_iff];intro h;simp only[Aa,beq_iff_eq] at h;exact hz ⟨h.1.1,h.1.2,by omega⟩
   obtain⟨q1,q2⟩:=Q8 k t l (by omega) (by omega);simp only[hz',yZ,i1,s1,yY,cst,q1,q2];cases ok with
   |false=>
    simp only[zD,Ag,yX];exact⟨_,_,rfl,rfl,by simp,nofun⟩
   |true=>
    simp only[zq,Aq];cases h1:(nx !=(b.length:Int)) with
    |true=>
     simp only[Ag,yX];exact⟨_,_,rfl,rfl,by simp,nofun⟩
    |false=>
     simp only[Aq];by_cases h2:(l.length:Int)=many
     ·rw[zK h2]
      cases h3:FT t l with
      |false=>exact⟨_,_,rfl,rfl,by simp,nofun⟩
      |true=>exact⟨_,_,rfl,rfl,hl,fun _=>⟨by omega,m0,h3⟩⟩
     ·rw[zO h2]
      exact⟨_,_,rfl,rfl,by simp,nofun⟩
 ·have:(!eo|| !(decide (0≤many)&&decide (many≤2000)))=true:=by
   cases eo with
   |false=>rfl
   |true=>
    have:(decide (0≤many)&&decide (many≤2000))=false:=by
     rw[Bool.eq_false_iff];intro h;simp only[Aa,Al] at h;exact hc ⟨rfl,h⟩
    rw[this];rfl
  simp only[this,yX];exact⟨_,_,rfl,rfl,by simp,nofun⟩
end Go.Af
end
section
namespace Go.Af
open Go.Am Go.Fn
variable(k:Nat)
theorem Jv{S:Nat→Nat→Prop}{s:List ze}(hS:∀a b,S a b→a<b):∀(c pos:Nat) (names:List ByteArray) (nx:Nat),EU S s c pos names nx→pos≤nx
 |c,pos,names,nx,h=>by have:=JV hS c pos names nx h;omega
section
variable(s:List ze)(hs:s.length≤20)(hn:∀c,c∈s→c.1.size<k∧c.1.size<1000000000∧Ae c.2.2.2.1)
include hs hn
theorem Vz(hk:100≤k)(d D deep:Nat)(LD:deep≤6)(M:Int)(hM:M<9223372036854775808)
 (ih:∀at_ nx:Nat,A9 s d at_ nx→nx≤s.length→Bb.rec k D s (at_:Int) ((deep+1:Nat):Int)=some (nx:Int)):
 ∀(c f pos:Nat) (i:Int) (names:List ByteArray) (nx:Nat),EU (A9 s d) s c pos names nx→c<f→M-i=c→0≤i→nx≤s.length→names.length≤pos→
  Bb.l6 k (Bb.rec k D) f s (deep:Int) (pos:Int) M i names=some (nx:Int):=by
 intro c
 induction c with
 |zero=>
  intro f pos i names nx hp hf hi h0 hnx hnm;obtain⟨f,rfl⟩:∃m,f=m+1:=⟨f-1,by omega⟩;have hp:pos=nx:=hp;subst hp;simp only[Bb.l6,zk (show ¬i<M by omega),yZ]
 |succ c oq=>
  intro f pos i names nx hp hf hi h0 hnx hnm;obtain⟨f,rfl⟩:∃m,f=m+1:=⟨f-1,by omega⟩;obtain⟨p,mid,p1,p2,p3,p4⟩:=hp;have hlt:=Cw _ _ _ p3;have hmn:=Jv (Cw d) _ _ _ _ p4;have hd1:IntKind.wrap .i64 ((deep:Int)+1)=((deep+1:Nat):Int):=by rw[zg (by omega) (by omega)];omega
  have hi1:IntKind.wrap .i64 (i+1)=i+1:=zg (by omega) (by omega);simp only[Bb.l6,zh (show i<M by omega),yX,zk (show ¬(pos:Int)≥(s.length:Int) by omega),yZ];rw[show(0:Int)=((0:Nat):Int) from rfl,Ta k _ _ s _ pos M i _ p1 names (by omega) names.length k 0 (by omega) (by omega),List.drop_zero,if_neg p2,hd1,ih pos mid p3 (by omega)];simp only[yY,zk (show ¬((mid:Int)<0) by omega),yZ,hi1];exact oq f mid (i+1) (names++[p.1]) nx p4 (by omega) (by omega) (by omega) hnx (by simp;omega)
theorem VA(hk:100≤k):∀(d D deep at_ nx:Nat),A9 s d at_ nx→d+deep≤7→d<D→nx≤s.length→Bb.rec k D s (at_:Int) (deep:Int)=some (nx:Int):=by
 intro d
 induction d with
 |zero=>intro D deep at_ nx h;exact h.elim
 |succ d ih=>
  intro D deep at_ nx h hd hD hnx;obtain⟨D,rfl⟩:∃m,D=m+1:=⟨D-1,by omega⟩;have hlt:=Cw _ _ _ h;obtain⟨c,h1,h2,h3,h4⟩:=h;have hcm:c∈s:=List.mem_of_getElem? h1;obtain⟨n1,n2,n3⟩:=hn c hcm;have hle:=JV (Cw d) _ _ _ _ h4;have ha1:IntKind.wrap .i64 ((at_:Int)+1)=((at_+1:Nat):Int):=by rw[zg (by omega) (by omega)];omega
  have hm0:0≤c.2.2.2.1:=by
   unfold Cy at h2;simp only[Aa,Bool.or_eq_true,beq_iff_eq,Al] at h2;omega
  have hname:(decide ((at_:Int)>0)&& !Ji c.1)=false:=by
   by_cases h0:0<at_
   ·rw[h3 h0];simp
   ·rw[zk (show ¬(at_:Int)>0 by omega)];rfl
  simp only[Bb.rec,Bb.b,cst,Au,zk (show ¬(at_:Int)≥(s.length:Int) by omega),zk (show ¬(deep:Int)>6 by omega),Aq,yY,yZ,zQ,h1,RQ,h2,zq,Td k c.1 n1 n2,hname,ha1];have:=Vz k s hs hn hk d D deep (by omega) c.2.2.2.1 n3.2 (fun a b hab hb=>ih D (deep+1) a b hab (by omega) (by omega) hb) c.2.2.2.1.toNat k (at_+1) 0 [] nx h4 (by omega) (by omega) (by omega) hnx (by simp);exact this
theorem P8(hk:100≤k){d at_ nx:Nat}(h:A9 s d at_ nx)(hd:d≤6)(hnx:nx≤s.length):Bb k s (at_:Int) 1=some (nx:Int):=
 VA k s hs hn hk d k 1 at_ nx h (by omega) (by omega) hnx
theorem ajY(hk:100≤k):∀(d D at_ nx:Nat),A9 s d at_ nx→d<D→nx≤s.length→Da.rec k D s (at_:Int)=some (nx:Int):=by
 intro d
 induction d with
 |zero=>intro D at_ nx h;exact h.elim
 |succ d ih=>
  intro D at_ nx h hD hnx;obtain⟨D,rfl⟩:∃m,D=m+1:=⟨D-1,by omega⟩;have hlt:=Cw _ _ _ h;obtain⟨c,h1,h2,h3,h4⟩:=h;obtain⟨n1,n2,n3⟩:=hn c (List.mem_of_getElem? h1);have hle:=JV (Cw d) _ _ _ _ h4;have ha1:IntKind.wrap .i64 ((at_:Int)+1)=((at_+1:Nat):Int):=by rw[zg (by omega) (by omega)];omega
  have hm0:0≤c.2.2.2.1:=by
   unfold Cy at h2;simp only[Aa,Bool.or_eq_true,beq_iff_eq,Al] at h2;omega
  have key:∀(m f pos:Nat) (i:Int) (names:List ByteArray),EU (A9 s d) s m pos names nx→m<f→c.2.2.2.1-i=m→0≤i→Da.l3 k (Da.rec k D) f s (at_:Int) (pos:Int) i=some (nx:Int):=by
   intro m
   induction m with
   |zero=>
    intro f pos i names hp hf hi h0;obtain⟨f,rfl⟩:∃m,f=m+1:=⟨f-1,by omega⟩;have hp:pos=nx:=hp;subst hp;simp only[Da.l3,zQ,h1,yY,zk (show ¬i<c.2.2.2.1 by omega),yZ]
   |succ m FZ=>
    intro f pos i names hp hf hi h0;obtain⟨f,rfl⟩:∃m,f=m+1:=⟨f-1,by omega⟩;obtain⟨p,mid,p1,p2,p3,p4⟩:=hp;have hmn:=Jv (Cw d) _ _ _ _ p4;have hi1:IntKind.wrap .i64 (i+1)=i+1:=zg (by omega) (by obtain⟨_,q⟩:=n3;omega);simp only[Da.l3,zQ,h1,yY,zh (show i<c.2.2.2.1 by omega),yX,ih D pos mid p3 (by omega) (by omega),hi1];exact FZ f mid (i+1) _ p4 (by omega) (by omega) (by omega)
  simp only[Da.rec,Da.b,ha1];exact key c.2.2.2.1.toNat k (at_+1) 0 [] h4 (by omega) (by omega) (by omega)
theorem O5(hk:100≤k){d at_ nx:Nat}(h:A9 s d at_ nx)(hd:d≤6)(hnx:nx≤s.length):Da k s (at_:Int)=some (nx:Int):=
 ajY k s hs hn hk d k at_ nx h (by omega) hnx
end
def Ba:Nat→List ze→List Int
 |_,[]=>[]
 |i,c::r=>if c.2.1=7 then Ba (i+1) r else(i:Int)::Ba (i+1) r
theorem Kh:∀(i:Nat) (s:List ze),(Ba i s).length≤s.length
 |_,[]=>Nat.le_refl _
 |i,c::r=>by
  have:=Kh (i+1) r;simp only[Ba];split<;>simp<;>omega
theorem aj6(s:List ze)(hs:s.length≤1000):∀(post pre:List ze) (n:Nat) (o:List Int),s=pre++post→post.length<n→o.length≤pre.length→
 Em.l3 k n s (s.length:Int) (pre.length:Int) o=some ((),o++Ba pre.length post)∧Dh.l3 k n s (pre.length:Int) o=some ((),o++Ba pre.length post):=by
 intro post
 induction post with
 |nil=>
  intro pre n o hsp hn ho;obtain⟨n,rfl⟩:∃j,n=j+1:=⟨n-1,by omega⟩;have:s=pre:=by simpa using hsp
  subst this;simp only[Em.l3,Dh.l3,zk (show ¬(s.length:Int)<(s.length:Int) by omega),yZ];simp[Ba]
 |cons x post ih=>
  intro pre n o hsp hn ho;simp only[Ah] at hn;obtain⟨n,rfl⟩:∃j,n=j+1:=⟨n-1,by omega⟩;have hlen:s.length=pre.length+(post.length+1):=by rw[hsp];simp
  have hg:gU s (pre.length:Int)=some x:=by rw[hsp];exact AX _ _ _
  have hi1:IntKind.wrap .i64 ((pre.length:Int)+1)=((pre.length+1:Nat):Int):=by rw[zg (by omega) (by omega)];omega
  simp only[Em.l3,Dh.l3,zh (show(pre.length:Int)<(s.length:Int) by omega),yX,hg,yY,Em.c7,Dh.c4,hi1,Ba];by_cases h7:x.2.1=7
  ·have hi:=ih (pre++[x]) n o (by rw[hsp];simp) (by omega) (by simp;omega)
   rw[zX,Ap] at hi;rw[zK h7,yZ,yZ,if_pos h7];exact hi
  ·have hi:=ih (pre++[x]) n (o++[(pre.length:Int)]) (by rw[hsp];simp) (by omega) (by simp;omega)
   rw[zX,Ap,Bu,List.singleton_append] at hi;rw[zO h7,yX,yX,if_neg h7,Ak (by simp;omega),yX,yX];exact hi
theorem Jh(hk:2000≤k)(s:List ze)(hs:s.length≤1000):Em k s=some ((),Ba 0 s)∧Dh k s=some ((),Ba 0 s):=by
 have:=aj6 k s hs s [] k [] rfl (by omega) (by simp);exact this
end Go.Af
end
section
namespace Go.Af
open Go.Am Go.Fn
structure Ev where
 at_:Nat
 leaf:Bool
 rep:Int
 zo:Int
 v:za
def zv:za:=(0,⟨#[]⟩,())
def G9(v:za)(most:Int):Bool:= !iY v.2.1 ⟨#[]⟩|| !(decide (0≤v.1)&&decide (v.1≤most))
theorem P5{v:za}{most:Int}(h:G9 v most=false):0≤v.1∧v.1≤most:=by
 unfold G9 at h;simp only[Bool.or_eq_false_iff,Bool.not_eq_false',Aa,Al] at h;exact h.2
abbrev Ct:=Option (List Ev×List za)
def Ii(a:Ct)(f:List za→Ct):Ct:=
 match a with
 |none=>none
 |some (x,V)=>match f V with
  |none=>none
  |some (y,W)=>some (x++y,W)
def iZ(F:Nat→List za→Ct)(e:Nat→Nat):Nat→Nat→List za→Ct
 |0,_,V=>some ([],V)
 |m+1,a,V=>Ii (F a V) (iZ F e m (e a))
def Lh(F:List za→Ct):Nat→List za→Ct
 |0,V=>some ([],V)
 |m+1,V=>Ii (F V) (Lh F m)
def iter(f:Nat→Nat):Nat→Nat→Nat
 |0,a=>a
 |n+1,a=>iter f n (f a)
def Cz(s:List ze):Nat→Nat→Nat
 |0,a=>a
 |d+1,a=>match s[a]? with
  |none=>a+1
  |some c=>iter (Cz s d) c.2.2.2.1.toNat (a+1)
theorem R4{s:List ze}{S:Nat→Nat→Prop}{e:Nat→Nat}(h:∀a b,S a b→e a=b):∀(m a:Nat) (names:List ByteArray) (nx:Nat),EU S s m a names nx→iter e m a=nx
 |0,a,_,nx,hp=>hp
 |m+1,a,names,nx,⟨p,mid,_,_,h3,h4⟩=>by
  show iter e m (e a)=nx;rw[h a mid h3];exact R4 h m mid _ nx h4
theorem KL{s:List ze}:∀(d:Nat) {a b:Nat},A9 s d a b→∀d',d≤d'→Cz s d' a=b
 |0,_,_,h,_,_=>h.elim
 |d+1,a,b,⟨c,h1,_,_,h2⟩,d',hd=>by
  obtain⟨d',rfl⟩:∃q,d'=q+1:=⟨d'-1,by omega⟩;simp only[Cz,h1];exact R4 (S:=A9 s d) (fun x y hxy=>KL d hxy d' (by omega)) _ _ _ _ h2
def Hz(s:List ze)(rep zo:Int):Nat→Nat→List Ev
 |0,_=>[]
 |n+1,i=>(match s[i]? with
  |none=>[]
  |some c=>if c.2.1=7 then[] else[⟨i,false,rep,zo,zv⟩])++Hz s rep zo n (i+1)
def J7(s:List ze)(C:Int→Int→Int→List za→Ct)(e a:Nat)(rep zo deep:Int)(V:List za):Ct:=
 match s[a]? with
 |none=>none
 |some c=>
  if c.2.2.1=0 then C rep zo deep V
  else match V with
   |[]=>none
   |v::V=>
    if c.2.2.1=2 then
     if G9 v 20=true then none
     else if v.1=0 then some (Hz s rep zo (e-a) a,V)
     else Ii (C rep (zo+1) (deep+1) V) (Lh (C (deep+1) (zo+1) (deep+1)) (v.1.toNat-1))
    else
     if G9 v 1=true then none
     else if v.1=0 then some (Hz s rep zo (e-a) a,V)
     else C rep (zo+1) deep V
def GC(s:List ze):Nat→Nat→Int→Int→Int→List za→Ct
 |0,_,_,_,_,_=>none
 |d+1,a,rep,zo,deep,V=>match s[a]? with
  |none=>none
  |some c=>
   if c.2.1=7 then iZ (fun a V=>J7 s (GC s d a) (Cz s d a) a rep zo deep V) (Cz s d) c.2.2.2.1.toNat (a+1) V
   else match V with
    |[]=>none
    |v::V=>if Co c.2.1 v=true then some ([⟨a,true,rep,zo,v⟩],V) else none
def Dj(V:List za)(r:Ct):Prop:=∀X W,r=some (X,W)→W.length≤V.length∧X.length+20*W.length≤20*V.length∧W=V.drop (V.length-W.length)
theorem R6{a:Ct}{f:List za→Ct}{X:List Ev}{W:List za}(h:Ii a f=some (X,W)):∃x y V,a=some (x,V)∧f V=some (y,W)∧X=x++y:=by
 unfold Ii at h;split at h
 ·cases h
 ·rename_i x V
  split at h
  ·cases h
  ·rename_i y W' hf
   simp only[Ao,Prod.mk.injEq] at h;obtain⟨rfl,rfl⟩:=h;exact⟨x,y,V,rfl,hf,rfl⟩
theorem Dj.pair{V:List za}{a:Ct}{f:List za→Ct}(h:Dj V a)(k:∀W,Dj W (f W)):Dj V (Ii a f):=by
 intro X W hr;obtain⟨x,y,U,h1,h2,rfl⟩:=R6 hr;obtain⟨a1,a2,a3⟩:=h _ _ h1;obtain⟨b1,b2,b3⟩:=k U _ _ h2;refine⟨by omega,by simp;omega,?_⟩;rw[b3,a3,List.drop_drop]
 congr 1
 simp only[List.length_drop];omega
theorem Dj.nil(V:List za):Dj V (some ([],V)):=by
 intro X W h;simp only[Ao,Prod.mk.injEq] at h;obtain⟨rfl,rfl⟩:=h;exact⟨Nat.le_refl _,by simp,by simp⟩
theorem Dj.parts{F:Nat→List za→Ct}{e:Nat→Nat}(h:∀a V,Dj V (F a V)):∀(m a:Nat) (V:List za),Dj V (iZ F e m a V)
 |0,_,V=>Dj.nil V
 |m+1,a,V=>(h a V).pair (Dj.parts h m (e a))
theorem Dj.items{F:List za→Ct}(h:∀V,Dj V (F V)):∀(m:Nat) (V:List za),Dj V (Lh F m V)
 |0,V=>Dj.nil V
 |m+1,V=>(h V).pair (Dj.items h m)
theorem TC(s:List ze)(rep zo:Int):∀(n i:Nat),i+(Hz s rep zo n i).length≤max i s.length
 |0,i=>by simp only[Hz,List.length_nil];omega
 |n+1,i=>by
  have:=TC s rep zo n (i+1);simp only[Hz,zX];cases h:s[i]? with
  |none=>
   have hl:s.length≤i:=List.getElem?_eq_none_iff.1 h;simp only[List.length_nil];omega
  |some c=>
   have hl:i<s.length:=(List.getElem?_eq_some_iff.1 h).1;simp only;split<;>simp<;>omega
theorem Dj.part{s:List ze}(hs:s.length≤20){C:Int→Int→Int→List za→Ct}(h:∀r d p V,Dj V (C r d p V))(e a:Nat)(rep zo deep:Int)(V:List za):Dj V (J7 s C e a rep zo deep V):=by
 intro X W hr;unfold J7 at hr;have hm:∀n,(Hz s rep zo n a).length≤20:=fun n=>by
  have:=TC s rep zo n a;rcases Nat.lt_or_ge a s.length with h1|h1
  ·omega
  ·have:(Hz s rep zo n a).length=0:=by omega
   omega
 split at hr
 ·cases hr
 ·rename_i c hc
  split at hr
  ·exact h _ _ _ _ _ _ hr
  ·split at hr
   ·cases hr
   ·rename_i v V
    have lift:∀r:Ct,Dj V r→r=some (X,W)→W.length≤(v::V).length∧X.length+20*W.length≤20*(v::V).length∧W=(v::V).drop ((v::V).length-W.length):=by
     intro r hg hr;obtain⟨g1,g2,g3⟩:=hg _ _ hr;refine⟨by simp;omega,by simp;omega,?_⟩;rw[Ah,show V.length+1-W.length=(V.length-W.length)+1 by omega,List.drop_succ_cons];exact g3
    have ms:some (Hz s rep zo (e-a) a,V)=some (X,W)→W.length≤(v::V).length∧X.length+20*W.length≤20*(v::V).length∧W=(v::V).drop ((v::V).length-W.length):=by
     intro hr;simp only[Ao,Prod.mk.injEq] at hr;obtain⟨rfl,rfl⟩:=hr;have:=hm (e-a);refine⟨by simp,by simp;omega,by simp⟩
    split at hr
    ·split at hr
     ·cases hr
     ·split at hr
      ·exact ms hr
      ·exact lift _ ((h _ _ _ _).pair (Dj.items (h _ _ _) _)) hr
    ·split at hr
     ·cases hr
     ·split at hr
      ·exact ms hr
      ·exact lift _ (h _ _ _ _) hr
theorem Ol{s:List ze}(hs:s.length≤20):∀(d a:Nat) (rep zo deep:Int) (V:List za),Dj V (GC s d a rep zo deep V)
 |0,_,_,_,_,_=>fun X W h=>by cases h
 |d+1,a,rep,zo,deep,V=>by
  intro X W h;simp only[GC] at h;split at h
  ·cases h
  ·split at h
   ·exact Dj.parts (fun a V=>Dj.part hs (fun r d p V=>Ol hs _ a r d p V) _ a rep zo deep V) _ _ _ _ _ h
   ·split at h
    ·cases h
    ·split at h
     ·simp only[Ao,Prod.mk.injEq] at h
      obtain⟨rfl,rfl⟩:=h;refine⟨by simp,by simp;omega,by simp⟩
     ·cases h
def F9(r:Ct):Option (List za):=match r with
 |none=>none
 |some (_,W)=>some W
theorem QL(a:Ct)(f:List za→Ct):F9 (Ii a f)=(F9 a).bind fun V=>F9 (f V):=by
 unfold Ii F9;cases a with
 |none=>rfl
 |some q=>
  obtain⟨x,V⟩:=q;simp only[yY];cases f V with
  |none=>rfl
  |some q2=>rfl
def Dx(C:List za→Option (List za)):Nat→List za→Option (List za)
 |0,V=>some V
 |m+1,V=>(C V).bind (Dx C m)
theorem Ud(F:List za→Ct)(C:List za→Option (List za))(h:∀V,F9 (F V)=C V):∀(m:Nat) (V:List za),F9 (Lh F m V)=Dx C m V
 |0,V=>rfl
 |m+1,V=>by
  show F9 (Ii (F V) (Lh F m))=_;rw[QL,h V];show _=(C V).bind (Dx C m)
  congr 1
  funext W;exact Ud F C h m W
def DT(s:List ze)(C:List za→Option (List za))(a:Nat)(V:List za):Option (List za):=
 match s[a]? with
 |none=>none
 |some c=>
  if c.2.2.1=0 then C V
  else match V with
   |[]=>none
   |v::V=>if G9 v (if c.2.2.1=2 then 20 else 1)=true then none else Dx C v.1.toNat V
theorem Ue(s:List ze)(F:Int→Int→Int→List za→Ct)(C:List za→Option (List za))(h:∀r q p V,F9 (F r q p V)=C V)(e a:Nat)(rep zo deep:Int)(V:List za):F9 (J7 s F e a rep zo deep V)=DT s C a V:=by
 unfold J7 DT;cases s[a]? with
 |none=>rfl
 |some c=>
  simp only;split
  ·exact h _ _ _ _
  ·cases V with
   |nil=>rfl
   |cons v V=>
    simp only;split
    ·rename_i h2
     split
     ·rename_i hb;rfl
     ·rename_i hb
      have hb:=P5 (by simpa using hb);split
      ·rename_i h0;rw[h0];rfl
      ·rename_i h0
       obtain⟨n,hn⟩:∃n:Nat,v.1=((n+1:Nat):Int):=⟨v.1.toNat-1,by omega⟩;rw[hn,QL,h];show _=Dx C (n+1) V;simp only[Dx]
       congr 1
       funext W;exact Ud _ C (h _ _ _) _ W
    ·rename_i h2
     split
     ·rename_i hb;rfl
     ·rename_i hb
      have hb:=P5 (by simpa using hb);split
      ·rename_i h0;rw[h0];rfl
      ·rename_i h0
       have h1:v.1=1:=by omega
       rw[h1,h];show C V=Dx C 1 V;simp only[Dx];cases C V<;>rfl
def GR(F:Nat→List za→Option (List za))(e:Nat→Nat):Nat→Nat→List za→Option (List za)
 |0,_,V=>some V
 |m+1,a,V=>(F a V).bind (GR F e m (e a))
theorem Uf(F:Nat→List za→Ct)(C:Nat→List za→Option (List za))(h:∀a V,F9 (F a V)=C a V)(e:Nat→Nat):∀(m a:Nat) (V:List za),F9 (iZ F e m a V)=GR C e m a V
 |0,_,V=>rfl
 |m+1,a,V=>by
  show F9 (Ii (F a V) (iZ F e m (e a)))=_;rw[QL,h a V];show _=(C a V).bind (GR C e m (e a))
  congr 1
  funext W;exact Uf F C h e m (e a) W
def rC(s:List ze):Nat→Nat→List za→Option (List za)
 |0,_,_=>none
 |d+1,a,V=>match s[a]? with
  |none=>none
  |some c=>
   if c.2.1=7 then GR (fun a V=>DT s (rC s d a) a V) (Cz s d) c.2.2.2.1.toNat (a+1) V
   else match V with
    |[]=>none
    |v::V=>if Co c.2.1 v=true then some V else none
theorem Ny(s:List ze):∀(d a:Nat) (rep zo deep:Int) (V:List za),F9 (GC s d a rep zo deep V)=rC s d a V
 |0,_,_,_,_,_=>rfl
 |d+1,a,rep,zo,deep,V=>by
  simp only[GC,rC];cases s[a]? with
  |none=>rfl
  |some c=>
   simp only;split
   ·exact Uf _ _ (fun a V=>Ue s _ (rC s d a) (fun r q p V=>Ny s d a r q p V) _ a rep zo deep V) _ _ _ _
   ·cases V with
    |nil=>rfl
    |cons v V=>
     simp only;split<;>rfl
theorem T9{s:List ze}{d a:Nat}{V W:List za}(h:rC s d a V=some W)(rep zo deep:Int):∃X,GC s d a rep zo deep V=some (X,W):=by
 rw[←Ny s d a rep zo deep V] at h;cases he:GC s d a rep zo deep V with
 |none=>rw[he] at h;cases h
 |some q=>
  obtain⟨X,U⟩:=q;rw[he] at h;cases h;exact⟨X,rfl⟩
theorem TZ{s:List ze}{d a:Nat}{V:List za}(h:rC s d a V=none)(rep zo deep:Int):GC s d a rep zo deep V=none:=by
 rw[←Ny s d a rep zo deep V] at h;cases he:GC s d a rep zo deep V with
 |none=>rfl
 |some q=>obtain⟨X,U⟩:=q;rw[he] at h;cases h
def RG(C:List za→Option (List za)):Prop:=∀V W,C V=some W→W.length≤V.length∧W=V.drop (V.length-W.length)
theorem RG.of{F:List za→Ct}{C:List za→Option (List za)}(h:∀V,F9 (F V)=C V)(g:∀V,Dj V (F V)):RG C:=by
 intro V W hc;rw[←h V] at hc;unfold F9 at hc;split at hc
 ·cases hc
 ·rename_i X U hf
  simp only[Ao] at hc;subst hc;obtain⟨g1,_,g3⟩:=g V X U hf;exact⟨g1,g3⟩
theorem RG.c{s:List ze}(hs:s.length≤20)(d a:Nat):RG (rC s d a):=RG.of (F:=GC s d a 0 0 0) (Ny s d a 0 0 0) (Ol hs d a 0 0 0)
def posOf(V:List za)(r:Option (List za)):Int:=match r with
 |none=> -1
 |some W=>((V.length-W.length:Nat):Int)
theorem RG.pos{C:List za→Option (List za)}(g:RG C){V W:List za}{pos:Nat}(hp:pos≤V.length)(h:C (V.drop pos)=some W):V.length-W.length≤V.length∧V.drop (V.length-W.length)=W∧pos≤V.length-W.length:=by
 obtain⟨g1,g2⟩:=g _ _ h;simp only[List.length_drop] at g1 g2;refine⟨by omega,?_,by omega⟩;rw[List.drop_drop] at g2;rw[show V.length-W.length=pos+(V.length-pos-W.length) by omega];exact g2.symm
section
variable(k:Nat)(s:List ze)(hs:s.length≤20)(hn:∀c,c∈s→c.1.size<k∧c.1.size<1000000000∧Ae c.2.2.2.1)(hk:2000000≤k)
variable(V:List za)(hV:V.length≤1048576)
include hs hn hk hV
theorem alv(v:za)(most:Int):NC k v most=some (if G9 v most then -1 else v.1):=by
 unfold NC G9;simp only[Bh,yY,cst];generalize(!iY v.2.1 ⟨#[]⟩|| !(decide (0≤v.1)&&decide (v.1≤most)))=b;cases b<;>rfl
theorem Ui(S:(List ze)→Int→(List za)→Int→Option Int)(a:Nat)(C:List za→Option (List za))(g:RG C)(n:Nat)(hn:n≤100)
 (h:∀pos,pos≤V.length→S s (a:Int) V (pos:Int)=some (posOf V (C (V.drop pos)))):∀(m j f pos:Nat),n=j+m→m<f→pos≤V.length→
  C7.A_ k S f s (a:Int) V (pos:Int) (n:Int) (j:Int)=some (posOf V (Dx C m (V.drop pos))):=by
 intro m
 induction m with
 |zero=>
  intro j f pos hj hf hp;obtain⟨f,rfl⟩:∃q,f=q+1:=⟨f-1,by omega⟩;simp only[C7.A_,zk (show ¬(j:Int)<(n:Int) by omega),yZ,Dx,posOf,List.length_drop]
  congr 1;omega
 |succ m ih=>
  intro j f pos hj hf hp;obtain⟨f,rfl⟩:∃q,f=q+1:=⟨f-1,by omega⟩;have hj1:IntKind.wrap .i64 ((j:Int)+1)=((j+1:Nat):Int):=by rw[zg (by omega) (by omega)];omega
  have e:=h pos hp;cases hr:C (V.drop pos) with
  |none=>
   rw[hr] at e;have e:S s (a:Int) V (pos:Int)=some (-1):=e;simp only[C7.A_,zh (show(j:Int)<(n:Int) by omega),yX,e,yY,Dx,hr,zh (show(-1:Int)<0 by omega)];rfl
  |some W=>
   rw[hr] at e;have e:S s (a:Int) V (pos:Int)=some ((V.length-W.length:Nat):Int):=e;obtain⟨p1,p2,p3⟩:=g.pos hp hr;simp only[C7.A_,zh (show(j:Int)<(n:Int) by omega),yX,e,yY,Dx,hj1,hr,zk (show ¬((V.length-W.length:Nat):Int)<0 by omega),yZ];rw[ih (j+1) f _ (by omega) (by omega) p1,p2]
theorem alO(d D a nx:Nat)(h:A9 s d a nx)(hnx:nx≤s.length)
 (P:∀pos,pos≤V.length→(Bw.rec k D).1 s (a:Int) V (pos:Int)=some (posOf V (rC s d a (V.drop pos)))) (pos:Nat) (hpos:pos≤V.length):
 (Bw.rec k (D+1)).2 s (a:Int) V (pos:Int)=some (posOf V (DT s (rC s d a) a (V.drop pos))):=by
 have g:=RG.c hs d a;have hlt:=Cw _ _ _ h
 obtain⟨d',rfl⟩:∃q,d=q+1:=⟨d-1,by cases d with
  |zero=>exact h.elim
  |succ d=>omega⟩
 obtain⟨c,hc,hco,_,_⟩:=h;have hrep:c.2.2.1=0∨c.2.2.1=1∨c.2.2.1=2:=by
  unfold Cy at hco;simp only[Aa,Al] at hco;omega
 have hp1:IntKind.wrap .i64 ((pos:Int)+1)=((pos+1:Nat):Int):=by rw[zg (by omega) (by omega)];omega
 generalize hgC:rC s (d'+1) a=C at*;simp only[Bw.rec,C7.b,zQ,hc,yY,DT,C7.c12,C7.c6]
 have some_:∀most:Int,most=1∨most=20→
  cond (decide ((pos:Int)≥(V.length:Int))) (some (-1)) ((V[pos]?).bind fun y2=>(NC k y2 most).bind fun r3=>cond (decide (r3<0)) (some (-1)) (C7.A_ k (Bw.rec k D).1 k s (a:Int) V (IntKind.wrap .i64 ((pos:Int)+1)) r3 0))=
   some (posOf V (match V.drop pos with
    |[]=>none
    |v::V=>if G9 v most=true then none else Dx C v.1.toNat V)):=by
  intro most hm;by_cases hlt':pos<V.length
  ·have hd:V.drop pos=V[pos]::V.drop (pos+1):=List.drop_eq_getElem_cons hlt'
   rw[zk (by omega),yZ,AA hlt',hd];simp only[yY,alv k s hs hn hk V hV];cases hb:G9 V[pos] most with
   |true=>rfl
   |false=>
    have hcb:=P5 hb;simp only[Bool.false_eq_true,if_false];obtain⟨n,hn'⟩:∃n:Nat,(V[pos]).1=(n:Int):=⟨(V[pos]).1.toNat,by omega⟩;rw[zk (by omega),yZ,hp1,hn',Int.toNat_natCast];exact Ui k s hs hn hk V hV (Bw.rec k D).1 a C g n (by omega) P n 0 k (pos+1) (by omega) (by omega) (by omega)
  ·have hd:V.drop pos=[]:=List.drop_of_length_le (by omega)
   rw[zh (by omega),yX,hd];rfl
 rcases hrep with hr|hr|hr
 ·rw[zK hr,yZ,if_pos hr]
  have:=Ui k s hs hn hk V hV (Bw.rec k D).1 a C g 1 (by omega) P 1 0 k pos (by omega) (by omega) hpos;have e:Dx C 1 (V.drop pos)=C (V.drop pos):=by simp only[Dx];cases C (V.drop pos)<;>rfl
  rw[e] at this;exact this
 ·rw[zO (by omega),yX,zw (by omega),yZ,if_neg (by omega)]
  rw[some_ 1 (.inl rfl),if_neg (show ¬c.2.2.1=2 by omega)]
 ·rw[zO (by omega),yX,Ac hr,yX,if_neg (by omega)]
  rw[some_ 20 (.inr rfl),if_pos hr]
theorem alR(d D:Nat)(hd:d≤6)(a:Nat)(c:ze)(hc:s[a]?=some c)(hcm:c.2.2.2.1≤1000000)(nx:Nat)(hnx:nx≤s.length)
 (Q:∀pl mid,A9 s d pl mid→mid≤s.length→∀pos,pos≤V.length→(Bw.rec k D).2 s (pl:Int) V (pos:Int)=some (posOf V (DT s (rC s d pl) pl (V.drop pos)))):
 ∀(m pl:Nat) (i:Int) (names:List ByteArray) (f pos:Nat),EU (A9 s d) s m pl names nx→c.2.2.2.1-i=m→0≤i→m<f→pos≤V.length→
  Bw.l7 k (Bw.rec k D).2 f s (a:Int) V (pos:Int) (pl:Int) i=some (posOf V (GR (fun a V=>DT s (rC s d a) a V) (Cz s d) m pl (V.drop pos))):=by
 intro m
 induction m with
 |zero=>
  intro pl i names f pos hp hi h0 hf hpos;obtain⟨f,rfl⟩:∃q,f=q+1:=⟨f-1,by omega⟩;simp only[Bw.l7,zQ,hc,yY,zk (show ¬(i<c.2.2.2.1) by omega),yZ,GR,posOf,List.length_drop]
  congr 1;omega
 |succ m ih=>
  intro pl i names f pos hp hi h0 hf hpos;obtain⟨q,mid,q1,q2,q3,q4⟩:=hp;have hmn:=Jv (Cw d) _ _ _ _ q4;obtain⟨f,rfl⟩:∃q,f=q+1:=⟨f-1,by omega⟩;have hi1:IntKind.wrap .i64 (i+1)=i+1:=zg (by omega) (by omega);have hend:Cz s d pl=mid:=KL d q3 d (Nat.le_refl _);have BG:=O5 k s hs hn (by omega) q3 hd (by omega)
  have g:RG (fun V=>DT s (rC s d pl) pl V):=RG.of (F:=J7 s (GC s d pl) mid pl 0 0 0) (fun V=>Ue s _ (rC s d pl) (fun r q p V=>Ny s d pl r q p V) mid pl 0 0 0 V)
   (fun V=>Dj.part hs (fun r q p V=>Ol hs d pl r q p V) mid pl 0 0 0 V)
  have e:=Q pl mid q3 (by omega) pos hpos;cases hr:DT s (rC s d pl) pl (V.drop pos) with
  |none=>
   rw[hr] at e;have e:(Bw.rec k D).2 s (pl:Int) V (pos:Int)=some (-1):=e;simp only[Bw.l7,zQ,hc,yY,zh (show i<c.2.2.2.1 by omega),yX,e,GR,hr,zh (show(-1:Int)<0 by omega),Option.bind_none];rfl
  |some W=>
   rw[hr] at e;have e:(Bw.rec k D).2 s (pl:Int) V (pos:Int)=some ((V.length-W.length:Nat):Int):=e;obtain⟨p1,p2,p3⟩:=g.pos (C:=fun V=>DT s (rC s d pl) pl V) hpos hr;simp only[Bw.l7,zQ,hc,yY,zh (show i<c.2.2.2.1 by omega),yX,e,GR,hr,hend,BG,hi1,zk (show ¬((V.length-W.length:Nat):Int)<0 by omega),yZ];rw[ih mid (i+1) _ f _ q4 (by omega) (by omega) (by omega) p1,p2]
theorem aln:∀(d D a nx:Nat),A9 s d a nx→nx≤s.length→d≤6→2*d≤D→∀pos,pos≤V.length→
 (Bw.rec k D).1 s (a:Int) V (pos:Int)=some (posOf V (rC s d a (V.drop pos))):=by
 intro d
 induction d with
 |zero=>intro D a nx h;exact h.elim
 |succ d ih=>
  intro D a nx h hnx hd hD pos hpos;obtain⟨D,rfl⟩:∃q,D=q+2:=⟨D-2,by omega⟩;have hlt:=Cw _ _ _ h;obtain⟨c,hc,hco,_,hp⟩:=h;have ha1:IntKind.wrap .i64 ((a:Int)+1)=((a+1:Nat):Int):=by rw[zg (by omega) (by omega)];omega
  have hp1:IntKind.wrap .i64 ((pos:Int)+1)=((pos+1:Nat):Int):=by rw[zg (by omega) (by omega)];omega
  have hmp:=JV (Cw d) _ _ _ _ hp;rw[show D+2=(D+1)+1 from rfl];by_cases h7:c.2.1=7
  ·have hmn:0≤c.2.2.2.1:=by
    unfold Cy at hco;rw[h7,Kt] at hco;simp at hco;omega
   have key:=alR k s hs hn hk V hV d (D+1) (by omega) a c hc (by omega) nx hnx
    (fun pl mid hs1 hm1 pos hpos=>alO k s hs hn hk V hV d D pl mid hs1 hm1 (fun pos hpos=>ih D pl mid hs1 hm1 (by omega) (by omega) pos hpos) pos hpos) c.2.2.2.1.toNat (a+1) 0 [] k pos hp (by omega) (by omega) (by omega) hpos
   simp only[Bw.rec,Bw.b,zQ,hc,yY,zK h7,yZ,ha1,rC];rw[if_pos h7];exact key
  ·simp only[Bw.rec,Bw.b,zQ,hc,yY,zO h7,yX,rC]
   rw[if_neg h7];by_cases hlt':pos<V.length
   ·have hd':V.drop pos=V[pos]::V.drop (pos+1):=List.drop_eq_getElem_cons hlt'
    rw[zk (by omega),yZ,AA hlt',hd'];simp only[yY,K6,hp1];cases hv:Co c.2.1 V[pos] with
    |true=>simp only[zq,yZ,if_true,posOf,List.length_drop];congr 1;omega
    |false=>simp only[zD,yX,Bool.false_eq_true,if_false];rfl
   ·have hd':V.drop pos=[]:=List.drop_of_length_le (by omega)
    rw[zh (by omega),yX,hd'];rfl
end
def WO.P(_:Nat)(_:Nat):Prop:=True
section
variable(k:Nat)(s:List ze)
theorem WO.QB(a:Nat)(rep zo:Int)(acc:Nat)(m:Nat)(hP:WO.P (m+1) acc)(ha:a<s.length)(hc:∀c,s[a]?=some c→c.2.1≠7):ajK k (a:Int) rep zo=some ():=rfl
end
section
variable(k:Nat)(s:List ze)(hs:s.length≤20)(hn:∀c,c∈s→c.1.size<k∧c.1.size<1000000000∧Ae c.2.2.2.1)(hk:2000000≤k)
include hs hn hk
end
def F8(s:List ze)(V:List za):Option (List Ev):=
 if V.length≤300 then match GC s 6 0 0 0 0 V with
  |some (X,[])=>some X
  |_=>none
 else none
theorem ale{s:List ze}{V:List za}{X:List Ev}(h:F8 s V=some X):V.length≤300∧GC s 6 0 0 0 0 V=some (X,[]):=by
 unfold F8 at h;split at h
 ·rename_i h1
  split at h
  ·rename_i Y he
   cases h;exact⟨h1,he⟩
  ·cases h
 ·cases h
theorem alq{s:List ze}(hS:ET s):∃c0,s[0]?=some c0∧c0.2.1=7∧0<c0.2.2.2.1:=by
 obtain⟨_,_,⟨c,e1,e2,_,_⟩,c0,hc0,_,_,h7⟩:=hS;rw[hc0] at e1;obtain rfl:=Option.some.inj e1;refine⟨c0,hc0,h7,?_⟩;unfold Cy at e2;rw[h7,Kt] at e2;simp at e2;exact e2.1
theorem al0(k:Nat)(s:List ze)(hs:s.length≤20)(hn:∀c,c∈s→c.1.size<k∧c.1.size<1000000000∧Ae c.2.2.2.1)(hk:2000000≤k)(hS:A9 s 6 0 s.length)
 (V:List za) (hV:V.length≤300):(Bw k s 0 V 0).bind (fun r3=>some (r3==(V.length:Int)))=some (F8 s V).isSome:=by
 have:=aln k s hs hn hk V (by omega) 6 k 0 s.length hS (Nat.le_refl _) (by omega) (by omega) 0 (Nat.zero_le _);have this:Bw k s 0 V 0=some (posOf V (rC s 6 0 (V.drop 0))):=this;rw[this,List.drop_zero];simp only[yY];unfold F8;rw[if_pos hV];cases hr:rC s 6 0 V with
 |none=>
  rw[TZ hr 0 0 0];simp only[posOf];rw[zw (show ¬((-1:Int)=(V.length:Int)) by omega)];rfl
 |some W=>
  obtain⟨X,hX⟩:=T9 hr 0 0 0;rw[hX];simp only[posOf];have hle:=(Ol hs 6 0 0 0 0 V _ _ hX).1;cases W with
  |nil=>rw[Ac (by simp)];rfl
  |cons w W=>
   rw[zw (by simp only[Ah] at hle⊢;omega)];rfl
theorem alk(k:Nat)(hk:2000000≤k)(s:List ze)(hn:∀c,c∈s→c.1.size<k∧c.1.size<1000000000∧Ae c.2.2.2.1)(hS:ET s)(h1:Eb k s=some true)(V:List za):
 JN k s (V,())=some (F8 s V).isSome:=by
 unfold JN JN.d1;rw[h1];simp only[yY,yX,yZ];by_cases KO:V.length≤300
 ·rw[zh (show(V.length:Int)≤300 by omega),yX]
  exact al0 k s hS.2.1 hn hk hS.2.2.1 V KO
 ·rw[zk (show ¬(V.length:Int)≤300 by omega),yZ]
  unfold F8;rw[if_neg KO];rfl
def Lj(s:List ze)(X:List Ev):Prop:=∀e,e∈X→∃c,s[e.at_]?=some c∧c.2.1≠7
theorem R5{s:List ze}{X Y:List Ev}(h1:Lj s X)(h2:Lj s Y):Lj s (X++Y):=fun e he=>(List.mem_append.1 he).elim (h1 e) (h2 e)
def EvL(s:List ze)(r:Ct):Prop:=∀X W,r=some (X,W)→Lj s X
theorem EvL.pair{s:List ze}{a:Ct}{f:List za→Ct}(h:EvL s a)(g:∀V,EvL s (f V)):EvL s (Ii a f):=by
 intro X W he;obtain⟨x,y,V,h1,h2,rfl⟩:=R6 he;exact R5 (h _ _ h1) (g _ _ _ h2)
theorem EvL.nil(s:List ze)(V:List za):EvL s (some ([],V)):=by
 intro X W h;simp only[Ao,Prod.mk.injEq] at h;obtain⟨rfl,rfl⟩:=h;exact fun e he=>by cases he
theorem EvL.parts{s:List ze}{F:Nat→List za→Ct}{e:Nat→Nat}(h:∀a V,EvL s (F a V)):∀(m a:Nat) (V:List za),EvL s (iZ F e m a V)
 |0,_,V=>EvL.nil s V
 |m+1,a,V=>(h a V).pair (EvL.parts h m (e a))
theorem EvL.items{s:List ze}{F:List za→Ct}(h:∀V,EvL s (F V)):∀(m:Nat) (V:List za),EvL s (Lh F m V)
 |0,V=>EvL.nil s V
 |m+1,V=>(h V).pair (EvL.items h m)
theorem TB(s:List ze)(rep zo:Int):∀(n i:Nat),Lj s (Hz s rep zo n i)
 |0,i=>fun e he=>by cases he
 |n+1,i=>by
  simp only[Hz];refine R5 ?_ (TB s rep zo n (i+1));cases h:s[i]? with
  |none=>exact fun e he=>by cases he
  |some c=>
   simp only;split
   ·exact fun e he=>by cases he
   ·rename_i h7
    intro e he;rw[List.mem_singleton] at he;subst he;exact⟨c,h,h7⟩
theorem EvL.part{s:List ze}{C:Int→Int→Int→List za→Ct}(h:∀r d p V,EvL s (C r d p V))(e a:Nat)(rep zo deep:Int)(V:List za):EvL s (J7 s C e a rep zo deep V):=by
 intro X W hr;unfold J7 at hr;have ms:∀U,some (Hz s rep zo (e-a) a,U)=some (X,W)→Lj s X:=by
  intro U hr;simp only[Ao,Prod.mk.injEq] at hr;obtain⟨rfl,rfl⟩:=hr;exact TB _ _ _ _ _
 split at hr
 ·cases hr
 ·split at hr
  ·exact h _ _ _ _ _ _ hr
  ·split at hr
   ·cases hr
   ·split at hr
    ·split at hr
     ·cases hr
     ·split at hr
      ·exact ms _ hr
      ·exact(EvL.pair (h _ _ _ _) (fun V=>EvL.items (h _ _ _) _ V)) _ _ hr
    ·split at hr
     ·cases hr
     ·split at hr
      ·exact ms _ hr
      ·exact h _ _ _ _ _ _ hr
theorem NI{s:List ze}:∀(d:Nat) (a nx:Nat),A9 s d a nx→∀t,a≤t→t<nx→∃nx',A9 s d t nx'∧nx'≤nx
 |0,_,_,h,_,_,_=>h.elim
 |d+1,a,nx,h,t,h1,h2=>by
  rcases Nat.eq_or_lt_of_le h1 with rfl|h1
  ·exact⟨nx,h,Nat.le_refl _⟩
  ·obtain⟨c,_,_,_,hp⟩:=h
   have key:∀(m pl:Nat) (names:List ByteArray),EU (A9 s d) s m pl names nx→pl≤t→∃nx',A9 s d t nx'∧nx'≤nx:=by
    intro m
    induction m with
    |zero=>
     intro pl names hp ht;have hp:pl=nx:=hp;omega
    |succ m ih=>
     intro pl names hp ht;obtain⟨q,mid,q1,q2,q3,q4⟩:=hp;have hmn:=Jv (Cw d) _ _ _ _ q4;rcases Nat.lt_or_ge t mid with h|h
     ·obtain⟨nx',e1,e2⟩:=NI d pl mid q3 t ht h
      exact⟨nx',e1,by omega⟩
     ·exact ih mid _ q4 h
   obtain⟨nx',e1,e2⟩:=key _ _ _ hp (by omega);exact⟨nx',Rl d e1,e2⟩
where
 Rl:∀{s:List ze} (d:Nat) {a b:Nat},A9 s d a b→A9 s (d+1) a b
 |_,0,_,_,h=>h.elim
 |s,d+1,a,b,⟨c,h1,h2,h3,h4⟩=>⟨c,h1,h2,h3,Ri (fun x y h=>Rl d h) _ _ _ _ h4⟩
 Ri {S T:Nat→Nat→Prop} {s:List ze} (h:∀a b,S a b→T a b):∀(m pos:Nat) (names:List ByteArray) (nx:Nat),EU S s m pos names nx→EU T s m pos names nx
 |0,_,_,_,hp=>hp
 |m+1,_,_,_,⟨q,mid,q1,q2,q3,q4⟩=>⟨q,mid,q1,q2,h _ _ q3,Ri h m _ _ _ q4⟩
def CJ(s:List ze)(t:Nat):Nat:=Cz s 6 t
theorem Le{s:List ze}{d a b:Nat}(hd:d≤6)(h:A9 s d a b):CJ s a=b:=KL d h 6 hd
theorem RP{s:List ze}{d a nx:Nat}(hd:d≤6)(h:A9 s d a nx){t:Nat}(h1:a≤t)(h2:t<nx):t<CJ s t∧CJ s t≤nx:=by
 obtain⟨nx',e1,e2⟩:=NI d a nx h t h1 h2;rw[Le hd e1];exact⟨Cw _ _ _ e1,e2⟩
def CK(s:List ze)(f:ze→Bool)(L:Nat):Nat→Nat→Nat
 |0,_=>0
 |n+1,t=>(match s[t]? with
  |none=>0
  |some c=>if L<CJ s t∧f c=true then 1 else 0)+CK s f L n (t+1)
theorem RX(s:List ze)(f:ze→Bool)(L:Nat):∀(m n t:Nat),(∀u,t≤u→u<t+m→CJ s u≤L)→CK s f L (m+n) t=CK s f L n (t+m)
 |0,n,t,_=>by simp
 |m+1,n,t,h=>by
  have h1:=h t (Nat.le_refl _) (by omega);have:=RX s f L m n (t+1) (fun u h2 h3=>h u (by omega) (by omega));rw[show m+1+n=(m+n)+1 by omega];simp only[CK];rw[this,show t+1+m=t+(m+1) by omega];cases s[t]? with
  |none=>simp
  |some c=>simp only;rw[if_neg (by omega),Nat.zero_add]
def Cu(s:List ze)(f:ze→Bool)(a L:Nat):Nat:=CK s f L (L+1-a) a
def Cf(c:ze):Bool:=c.2.2.1 !=0
def EA(c:ze):Bool:=c.2.2.1==2
theorem akk(s:List ze)(f:ze→Bool)(a:Nat):Cu s f (a+1) a=0:=by
 unfold Cu;rw[show a+1-(a+1)=0 by omega];rfl
theorem akj{s:List ze}{f:ze→Bool}{a L:Nat}{c:ze}(hc:s[a]?=some c)(h1:a≤L)(h2:L<CJ s a):Cu s f a L=(if f c=true then 1 else 0)+Cu s f (a+1) L:=by
 unfold Cu;rw[show L+1-a=(L+1-(a+1))+1 by omega];simp only[CK,hc];by_cases h:f c=true
 ·rw[if_pos ⟨h2,h⟩,if_pos h]
 ·rw[if_neg (fun q=>h q.2),if_neg h]
theorem akl{s:List ze}{f:ze→Bool}{a b L:Nat}(hab:a≤b)(h1:b≤L)(h:∀u,a≤u→u<b→CJ s u≤L):Cu s f a L=Cu s f b L:=by
 unfold Cu;rw[show L+1-a=(b-a)+(L+1-b) by omega,RX s f L (b-a) _ a (fun u h2 h3=>h u h2 (by omega)),show a+(b-a)=b by omega]
def zy(s:List ze):Nat→Nat
 |0=>0
 |a+1=>zy s a+(match s[a]? with
  |none=>0
  |some c=>if c.2.1=7 then 0 else 1)
theorem JD(s:List ze){a b:Nat}(h:a≤b):zy s a≤zy s b:=by
 induction h with
 |refl=>exact Nat.le_refl _
 |step _ ih=>simp only[zy];omega
theorem KX(s:List ze):∀a,zy s a≤a
 |0=>Nat.le_refl _
 |a+1=>by
  have:=KX s a;simp only[zy];split
  ·omega
  ·split<;>omega
theorem JC{s:List ze}{a:Nat}{c:ze}(hc:s[a]?=some c)(h7:c.2.1≠7):zy s (a+1)=zy s a+1:=by
 simp only[zy,hc];rw[if_neg h7]
theorem KW{s:List ze}{a:Nat}{c:ze}(hc:s[a]?=some c)(h7:c.2.1=7):zy s (a+1)=zy s a:=by
 simp only[zy,hc];rw[if_pos h7];rfl
theorem O8{s:List ze}{a:Nat}{c:ze}(hc:s[a]?=some c)(h7:c.2.1≠7):zy s a<zy s s.length:=by
 have h1:=JC hc h7;have h2:a<s.length:=(List.getElem?_eq_some_iff.1 hc).1;have:=JD s (show a+1≤s.length by omega);omega
theorem O7:∀(post pre:List ze) (s:List ze),s=pre++post→(Ba pre.length post).length+zy s pre.length=zy s s.length
 |[],pre,s,h=>by
  rw[AO] at h;subst h;simp[Ba]
 |c::post,pre,s,h=>by
  have hc:s[pre.length]?=some c:=by rw[h];simp
  have hi:=O7 post (pre++[c]) s (by rw[h];simp);rw[zX,Ap] at hi;by_cases h7:c.2.1=7
  ·rw[KW hc h7] at hi
   simp only[Ba];rw[if_pos h7];exact hi
  ·rw[JC hc h7] at hi
   simp only[Ba];rw[if_neg h7,Ah];omega
theorem Mc:∀(post pre:List ze) (s:List ze),s=pre++post→∀(j:Nat) (x:Int),(Ba pre.length post)[j]?=some x→∃a:Nat,x=(a:Int)∧pre.length≤a∧zy s a=zy s pre.length+j∧∃c,s[a]?=some c∧c.2.1≠7
 |[],pre,s,h,j,x,hx=>by simp[Ba] at hx
 |c::post,pre,s,h,j,x,hx=>by
  have hc:s[pre.length]?=some c:=by rw[h];simp
  have ih:=Mc post (pre++[c]) s (by rw[h];simp);rw[zX,Ap] at ih;simp only[Ba] at hx;by_cases h7:c.2.1=7
  ·rw[if_pos h7] at hx
   obtain⟨a,h1,h2,h3,h4⟩:=ih j x hx;rw[KW hc h7] at h3;exact⟨a,h1,by omega,h3,h4⟩
  ·rw[if_neg h7] at hx
   cases j with
   |zero=>
    simp only[List.getElem?_cons_zero,Ao] at hx;exact⟨pre.length,hx.symm,Nat.le_refl _,rfl,c,hc,h7⟩
   |succ j=>
    simp only[List.getElem?_cons_succ] at hx;obtain⟨a,h1,h2,h3,h4⟩:=ih j x hx;rw[JC hc h7] at h3;exact⟨a,h1,by omega,by omega,h4⟩
theorem Tw{s:List ze}{a b:Nat}{c d:ze}(ha:s[a]?=some c)(hb:s[b]?=some d)(h7:c.2.1≠7)(h7':d.2.1≠7)(h:zy s a=zy s b):a=b:=by
 rcases Nat.lt_trichotomy a b with q|q|q
 ·have:=JD s (show a+1≤b by omega)
  rw[JC ha h7] at this;omega
 ·exact q
 ·have:=JD s (show b+1≤a by omega)
  rw[JC hb h7'] at this;omega
theorem aj5{s:List ze}{a:Nat}{c:ze}(hc:s[a]?=some c)(h7:c.2.1≠7):(Ba 0 s)[zy s a]?=some (a:Int):=by
 have hl:=O7 s [] s rfl;have h1:=O8 hc h7;have hl':zy s a<(Ba 0 s).length:=by
  have:(Ba 0 s).length+0=zy s s.length:=hl;omega
 obtain⟨b,e1,_,e3,d,e4,e5⟩:=Mc s [] s rfl _ _ (AA hl');have e3:zy s b=0+zy s a:=e3;rw[AA hl',e1,Tw hc e4 h7 e5 (by omega)]
abbrev BA:=List (List zM)
abbrev AR:=Option (List za×List Nat×Bool)
def Cv(T:BA)(pos:List Nat)(j:Nat):Option zM:=match T[j]?,pos[j]? with
 |some x,some p=>x[p]?
 |_,_=>none
def tk(T:BA)(rep zo:Int)(pos:List Nat)(j:Nat):Option (za×List Nat):=match Cv T pos j with
 |none=>none
 |some t=>if t.1=rep∧t.2.1=zo then some (t.2.2.1,pos.set j (pos.getD j 0+1)) else none
def Gf(T:BA)(rep zo:Int):Nat→Nat→List Nat→Option (List Nat)
 |0,_,pos=>some pos
 |n+1,j,pos=>match tk T rep zo pos j with
  |none=>none
  |some (_,q)=>Gf T rep zo n (j+1) q
def KI(a:AR)(f:List Nat→AR):AR:=match a with
 |none=>none
 |some (x,p,l)=>match f p with
  |none=>none
  |some (y,q,m)=>some (x++y,q,l||m)
def Fy(F:Nat→List Nat→AR)(e:Nat→Nat):Nat→Nat→List Nat→AR
 |0,_,pos=>some ([],pos,false)
 |m+1,a,pos=>KI (F a pos) (Fy F e m (e a))
def EF(T:BA)(j:Nat)(deep:Int)(C:List Nat→AR):Nat→List Nat→Option (Nat×List za×List Nat×Bool)
 |0,_=>none
 |f+1,pos=>match Cv T pos j with
  |none=>some (0,[],pos,false)
  |some t=>if t.1=deep then(match C pos with
   |none=>none
   |some (x,p,l)=>match EF T j deep C f p with
    |none=>none
    |some (n,y,q,m)=>some (n+1,x++y,q,l||m)) else some (0,[],pos,false)
def Eu(T:BA)(s:List ze)(C:Int→Int→Int→List Nat→AR)(e a:Nat)(rep zo deep:Int)(pos:List Nat):AR:=
 match s[a]? with
 |none=>none
 |some c=>if c.2.2.1=0 then C rep zo deep pos
  else match Cv T pos (zy s a) with
   |none=>none
   |some t=>if t.2.1≤zo then(match Gf T rep zo (zy s e-zy s a) (zy s a) pos with
    |none=>none
    |some q=>some ([zv],q,false))
    else if c.2.2.1=2 then(match C rep (zo+1) (deep+1) pos with
     |none=>none
     |some (x,p,l)=>match EF T (zy s a) (deep+1) (C (deep+1) (zo+1) (deep+1)) 3000 p with
      |none=>none
      |some (n,y,q,m)=>some ((((n+1:Nat):Int),⟨#[]⟩,())::(x++y),q,l||m||decide (20<n+1)))
    else(match C rep (zo+1) deep pos with
     |none=>none
     |some (x,p,l)=>some ((1,⟨#[]⟩,())::x,p,l))
def aC(T:BA)(s:List ze):Nat→Nat→Int→Int→Int→List Nat→AR
 |0,_,_,_,_,_=>none
 |d+1,a,rep,zo,deep,pos=>match s[a]? with
  |none=>none
  |some c=>
   if c.2.1=7 then Fy (fun a pos=>Eu T s (aC T s d a) (Cz s d a) a rep zo deep pos) (Cz s d) c.2.2.2.1.toNat (a+1) pos
   else match tk T rep zo pos (zy s a) with
    |none=>none
    |some (v,q)=>some ([v],q,false)
def Br(T:BA)(pos:List Nat):Prop:=pos.length=T.length∧∀(j p:Nat) (x:List zM),pos[j]?=some p→T[j]?=some x→p≤x.length
structure Fq(T:BA)(pos q:List Nat):Prop where
 ok:Br T q
 le:∀(j p:Nat),pos[j]?=some p→∃p':Nat,q[j]?=some p'∧p≤p'
 sum:pos.sum≤q.sum
theorem Fq.refl{T:BA}{pos:List Nat}(h:Br T pos):Fq T pos pos:=⟨h,fun j p hp=>⟨p,hp,Nat.le_refl _⟩,Nat.le_refl _⟩
theorem Fq.trans{T:BA}{a b c:List Nat}(h1:Fq T a b)(h2:Fq T b c):Fq T a c:=
 ⟨h2.ok,fun j p hp=>by
  obtain⟨p',e1,e2⟩:=h1.le j p hp;obtain⟨p'',e3,e4⟩:=h2.le j p' e1;exact⟨p'',e3,by omega⟩,Nat.le_trans h1.sum h2.sum⟩
theorem Uq:∀(l:List Nat) (j x y:Nat),l[j]?=some x→(l.set j y).sum+x=l.sum+y
 |[],j,x,y,h=>by simp at h
 |a::l,0,x,y,h=>by
  simp only[List.getElem?_cons_zero,Ao] at h;subst h;simp only[List.set_cons_zero,List.sum_cons];omega
 |a::l,j+1,x,y,h=>by
  simp only[List.getElem?_cons_succ] at h;have:=Uq l j x y h;simp only[List.set_cons_succ,List.sum_cons];omega
theorem TG{T:BA}{pos:List Nat}{j:Nat}{t:zM}(h:Cv T pos j=some t):∃x p,T[j]?=some x∧pos[j]?=some p∧x[p]?=some t:=by
 unfold Cv at h;split at h
 ·rename_i x p hx hp
  exact⟨x,p,hx,hp,h⟩
 ·cases h
theorem K7{T:BA}{rep zo:Int}{pos:List Nat}{j:Nat}{v:za}{q:List Nat}(h:tk T rep zo pos j=some (v,q))(hp:Br T pos):
 ∃x p,T[j]?=some x∧pos[j]?=some p∧x[p]?=some (rep,zo,v,())∧q=pos.set j (p+1)∧Fq T pos q∧q.sum=pos.sum+1:=by
 unfold tk at h;split at h
 ·cases h
 ·rename_i t ht
  split at h
  ·rename_i hc
   simp only[Ao,Prod.mk.injEq] at h;obtain⟨rfl,rfl⟩:=h;obtain⟨x,p,h1,h2,h3⟩:=TG ht;have hjl:j<pos.length:=(List.getElem?_eq_some_iff.1 h2).1;have hgd:pos.getD j 0=p:=by rw[List.getD_eq_getElem?_getD,h2];rfl
   rw[hgd];have hsum:=Uq pos j p (p+1) h2;refine⟨x,p,h1,h2,?_,rfl,⟨⟨?_,?_⟩,?_,?_⟩,by omega⟩
   ·rw[h3]
    obtain⟨a,b,w,⟨⟩⟩:=t;obtain⟨rfl,rfl⟩:=hc;rfl
   ·rw[List.length_set];exact hp.1
   ·intro i p' y hi hy
    rw[List.getElem?_set] at hi;split at hi
    ·rename_i hij
     subst hij;simp only[hjl,if_true,Ao] at hi;rw[h1] at hy;cases hy;have:=(List.getElem?_eq_some_iff.1 h3).1;omega
    ·exact hp.2 i p' y hi hy
   ·intro i p' hi
    rw[List.getElem?_set];split
    ·rename_i hij
     subst hij;rw[h2] at hi;cases hi;exact⟨p+1,by simp[hjl],by omega⟩
    ·exact⟨p',hi,Nat.le_refl _⟩
   ·omega
  ·cases h
theorem QX{T:BA}{rep zo:Int}:∀(n j:Nat) (pos q:List Nat),Gf T rep zo n j pos=some q→Br T pos→Fq T pos q∧q.sum=pos.sum+n
 |0,j,pos,q,h,hp=>by
  simp only[Gf,Ao] at h;subst h;exact⟨Fq.refl hp,rfl⟩
 |n+1,j,pos,q,h,hp=>by
  simp only[Gf] at h;split at h
  ·cases h
  ·rename_i v q1 h1
   obtain⟨_,_,_,_,_,_,a1,a2⟩:=K7 h1 hp;obtain⟨b1,b2⟩:=QX n (j+1) q1 q h a1.ok;exact⟨a1.trans b1,by omega⟩
def I9(T:BA)(j m:Nat)(pos:List Nat)(r:AR):Prop:=∀Y q l,r=some (Y,q,l)→Br T pos→
 Fq T pos q∧Y.length+m*pos.sum≤m*q.sum∧∃p p':Nat,pos[j]?=some p∧q[j]?=some p'∧p<p'
theorem Rs{T:BA}{j:Nat}{deep:Int}{C:List Nat→AR}{m:Nat}(hC:∀pos,I9 T j m pos (C pos)):∀(f:Nat) (pos:List Nat) (n:Nat) (Y:List za) (q:List Nat) (l:Bool),EF T j deep C f pos=some (n,Y,q,l)→Br T pos→
 Fq T pos q∧Y.length+m*pos.sum≤m*q.sum
 |0,pos,n,Y,q,l,h,hp=>by cases h
 |f+1,pos,n,Y,q,l,h,hp=>by
  simp only[EF] at h;have NJ:some (0,([]:List za),pos,false)=some (n,Y,q,l)→Fq T pos q∧Y.length+m*pos.sum≤m*q.sum:=by
   intro h;simp only[Ao,Prod.mk.injEq] at h;obtain⟨rfl,rfl,rfl,rfl⟩:=h;exact⟨Fq.refl hp,by simp⟩
  split at h
  ·exact NJ h
  ·split at h
   ·split at h
    ·cases h
    ·rename_i x p l1 h1
     split at h
     ·cases h
     ·rename_i n2 y q2 m2 h2
      simp only[Ao,Prod.mk.injEq] at h;obtain⟨rfl,rfl,rfl,rfl⟩:=h;obtain⟨a1,a2,_⟩:=hC pos _ _ _ h1 hp;obtain⟨b1,b2⟩:=Rs hC f p _ _ _ _ h2 a1.ok;exact⟨a1.trans b1,by rw[zX];omega⟩
   ·exact NJ h
theorem Rt{a:AR}{f:List Nat→AR}{Y:List za}{q:List Nat}{l:Bool}(h:KI a f=some (Y,q,l)):∃x p l1 y l2,a=some (x,p,l1)∧f p=some (y,q,l2)∧Y=x++y∧l=(l1||l2):=by
 unfold KI at h;split at h
 ·cases h
 ·rename_i x p l1
  split at h
  ·cases h
  ·rename_i y q2 m hf
   simp only[Ao,Prod.mk.injEq] at h;obtain⟨rfl,rfl,rfl⟩:=h;exact⟨x,p,l1,y,m,rfl,hf,rfl,rfl⟩
theorem Nn{s:List ze}{d a nx:Nat}(h:A9 s d a nx):zy s a<zy s nx:=by
 have key:∀(d a nx:Nat),A9 s d a nx→zy s a<zy s nx:=by
  intro d
  induction d with
  |zero=>intro a nx h;exact h.elim
  |succ d ih=>
   intro a nx h;obtain⟨c,hc,hco,_,hp⟩:=h;by_cases h7:c.2.1=7
   ·have hm0:0<c.2.2.2.1:=by
     unfold Cy at hco;rw[h7,Kt] at hco;simp at hco;exact hco.1
    obtain⟨m,hm⟩:∃m,c.2.2.2.1.toNat=m+1:=⟨c.2.2.2.1.toNat-1,by omega⟩;rw[hm] at hp;obtain⟨q,mid,_,_,q3,q4⟩:=hp;have h1:=ih (a+1) mid q3;have h2:=JD s (Jv (Cw d) _ _ _ _ q4);rw[KW hc h7] at h1;omega
   ·have hm0:c.2.2.2.1.toNat=0:=by
     unfold Cy at hco;rw[zw h7] at hco;simp at hco;omega
    rw[hm0] at hp;have hp:a+1=nx:=hp;subst hp;rw[JC hc h7];omega
 exact key d a nx h
theorem N_{T:BA}{s:List ze}{d a e m:Nat}(hs:A9 s d a e){C:Int→Int→Int→List Nat→AR}(hC:∀r q p pos,I9 T (zy s a) m pos (C r q p pos))(rep zo deep:Int)(pos:List Nat):
 I9 T (zy s a) (m+1) pos (Eu T s C e a rep zo deep pos):=by
 intro Y q l h hp;unfold Eu at h;split at h
 ·cases h
 ·rename_i c hc
  split at h
  ·obtain⟨a1,a2,a3⟩:=hC _ _ _ _ _ _ _ h hp
   refine⟨a1,?_,a3⟩;have:=a1.sum;rw[Nat.add_mul,Nat.add_mul];omega
  ·split at h
   ·cases h
   ·rename_i t ht
    obtain⟨x0,p0,t1,t2,t3⟩:=TG ht;split at h
    ·split at h
     ·cases h
     ·rename_i q1 h1
      simp only[Ao,Prod.mk.injEq] at h;obtain⟨rfl,rfl,rfl⟩:=h;have hlt:=Nn hs;obtain⟨n,hn⟩:∃n,zy s e-zy s a=n+1:=⟨zy s e-zy s a-1,by omega⟩;rw[hn] at h1;obtain⟨b1,b2⟩:=QX _ _ _ _ h1 hp;refine⟨b1,?_,?_⟩
      ·simp only[Ap]
       rw[b2,Nat.mul_add,Nat.mul_add,Nat.mul_one,Nat.add_mul];omega
      ·simp only[Gf] at h1
       split at h1
       ·cases h1
       ·rename_i v q2 h2
        obtain⟨x,p,e1,e2,e3,e4,e5,e6⟩:=K7 h2 hp;obtain⟨g1,g2⟩:=QX _ _ _ _ h1 e5.ok;have hq2:q2[zy s a]?=some (p+1):=by
         rw[e4,List.getElem?_set_self (List.getElem?_eq_some_iff.1 e2).1]
        obtain⟨p',f1,f2⟩:=g1.le _ _ hq2;exact⟨p,p',e2,f1,by omega⟩
    ·split at h
     ·split at h
      ·cases h
      ·rename_i x p l1 h1
       split at h
       ·cases h
       ·rename_i n y q1 m1 h2
        simp only[Ao,Prod.mk.injEq] at h;obtain⟨rfl,rfl,rfl⟩:=h;obtain⟨a1,a2,pa,pb,a3,a4,a5⟩:=hC _ _ _ _ _ _ _ h1 hp;obtain⟨b1,b2⟩:=Rs (fun pos=>hC _ _ _ pos) _ _ _ _ _ _ h2 a1.ok;obtain⟨pc,f1,f2⟩:=b1.le _ _ a4;have anh:=a1.sum;have SX:=b1.sum;have hlt:pos.sum<p.sum:=by
         rcases Nat.lt_or_ge pos.sum p.sum with h|h
         ·exact h
         ·exfalso
          have:=sum_lt a1 a3 a4 a5;omega
        refine⟨a1.trans b1,?_,pa,pc,a3,f1,by omega⟩;simp only[Ah,zX];rw[Nat.add_mul,Nat.add_mul];omega
     ·split at h
      ·cases h
      ·rename_i x p l1 h1
       simp only[Ao,Prod.mk.injEq] at h;obtain⟨rfl,rfl,rfl⟩:=h;obtain⟨a1,a2,pa,pb,a3,a4,a5⟩:=hC _ _ _ _ _ _ _ h1 hp;have hlt:=sum_lt a1 a3 a4 a5;refine⟨a1,?_,pa,pb,a3,a4,a5⟩;simp only[Ah];rw[Nat.add_mul,Nat.add_mul];omega
where
 sum_lt {T:BA} {pos q:List Nat} {j p p':Nat} (h:Fq T pos q) (h1:pos[j]?=some p) (h2:q[j]?=some p') (h3:p<p'):pos.sum<q.sum:=by
  have key:∀(a b:List Nat),a.length≤b.length→(∀(j p:Nat),a[j]?=some p→∃p':Nat,b[j]?=some p'∧p≤p')→a.sum≤b.sum:=by
   intro a
   induction a with
   |nil=>intro b _ _;simp
   |cons x a ih=>
    intro b hl h;cases b with
    |nil=>simp at hl
    |cons y b=>
     obtain⟨p',e1,e2⟩:=h 0 x rfl;simp only[List.getElem?_cons_zero,Ao] at e1;subst e1;have:=ih b (by simpa using hl) (fun j p hp=>h (j+1) p (by simpa using hp));simp only[List.sum_cons];omega
  have ajU:∀(a b:List Nat) (j p p':Nat),(∀(j p:Nat),a[j]?=some p→∃p':Nat,b[j]?=some p'∧p≤p')→a[j]?=some p→b[j]?=some p'→p<p'→a.sum<b.sum:=by
   intro a
   induction a with
   |nil=>intro b j p p' _ h;simp at h
   |cons x a ih=>
    intro b j p p' h h1 h2 h3;cases b with
    |nil=>simp at h2
    |cons y b=>
     have hle:∀(j p:Nat),a[j]?=some p→∃p':Nat,b[j]?=some p'∧p≤p':=fun j p hp=>h (j+1) p (by simpa using hp);have hlen:a.length≤b.length:=by
      rcases Nat.lt_or_ge b.length a.length with c|c
      ·obtain⟨p',e1,_⟩:=hle b.length _ (AA c)
       have:=(List.getElem?_eq_some_iff.1 e1).1;omega
      ·exact c
     cases j with
     |zero=>
      simp only[List.getElem?_cons_zero,Ao] at h1 h2;subst h1;subst h2;have:=key a b hlen hle;simp only[List.sum_cons];omega
     |succ j=>
      simp only[List.getElem?_cons_succ] at h1 h2;have:=ih b j p p' hle h1 h2 h3;obtain⟨p'',e1,e2⟩:=h 0 x rfl;simp only[List.getElem?_cons_zero,Ao] at e1;subst e1;simp only[List.sum_cons];omega
  exact ajU pos q j p p' h.le h1 h2 h3
theorem Jw{T:BA}{s:List ze}:∀(d a nx:Nat),A9 s d a nx→∀(rep zo deep:Int) (pos:List Nat),I9 T (zy s a) d pos (aC T s d a rep zo deep pos)
 |0,_,_,h,_,_,_,_=>h.elim
 |d+1,a,nx,h,rep,zo,deep,pos=>by
  intro Y q l he hp;obtain⟨c,hc,hco,_,CB⟩:=h;simp only[aC,hc] at he;split at he
  ·rename_i h7
   have hm0:0<c.2.2.2.1:=by
    unfold Cy at hco;rw[h7,Kt] at hco;simp at hco;exact hco.1
   have key:∀(m pl:Nat) (names:List ByteArray) (pos:List Nat) (Y:List za) (q:List Nat) (l:Bool),EU (A9 s d) s m pl names nx→Fy (fun a pos=>Eu T s (aC T s d a) (Cz s d a) a rep zo deep pos) (Cz s d) m pl pos=some (Y,q,l)→Br T pos→
    Fq T pos q∧Y.length+(d+1)*pos.sum≤(d+1)*q.sum∧(0<m→∃p p':Nat,pos[zy s pl]?=some p∧q[zy s pl]?=some p'∧p<p'):=by
    intro m
    induction m with
    |zero=>
     intro pl names pos Y q l CB he hp;simp only[Fy,Ao,Prod.mk.injEq] at he;obtain⟨rfl,rfl,rfl⟩:=he;exact⟨Fq.refl hp,by simp,fun h=>by omega⟩
    |succ m ih=>
     intro pl names pos Y q l CB he hp;obtain⟨_,mid,_,_,q3,q4⟩:=CB;have hend:Cz s d pl=mid:=KL d q3 d (Nat.le_refl _);simp only[Fy] at he;obtain⟨x,p,l1,y,l2,g1,g2,rfl,rfl⟩:=Rt he;rw[hend] at g1 g2;obtain⟨a1,a2,pa,pb,a3,a4,a5⟩:=N_ q3 (fun r q p pos=>Jw d pl mid q3 r q p pos) rep zo deep pos _ _ _ g1 hp;obtain⟨b1,b2,_⟩:=ih mid _ p y q l2 q4 g2 a1.ok;obtain⟨pc,f1,f2⟩:=b1.le _ _ a4;exact⟨a1.trans b1,by rw[zX];omega,fun _=>⟨pa,pc,a3,f1,by omega⟩⟩
   obtain⟨k1,k2,k3⟩:=key _ _ _ _ _ _ _ CB he hp;have:=k3 (by omega);rw[KW hc h7] at this;exact⟨k1,k2,this⟩
  ·split at he
   ·cases he
   ·rename_i v q1 h1
    simp only[Ao,Prod.mk.injEq] at he;obtain⟨rfl,rfl,rfl⟩:=he;obtain⟨x,p,e1,e2,e3,e4,e5,e6⟩:=K7 h1 hp;refine⟨e5,?_,p,p+1,e2,?_,by omega⟩
    ·rw[e6,Nat.mul_add,Nat.mul_one,Ap];omega
    ·rw[e4,List.getElem?_set_self (List.getElem?_eq_some_iff.1 e2).1]
abbrev TT:=List (List zM)
def Ul(s:List ze)(T:TT)(e:Ev):TT:=
 match T[zy s e.at_]? with
 |none=>T
 |some x=>T.set (zy s e.at_) (x++[(e.rep,e.zo,e.v,())])
def SP(s:List ze)(m:Nat)(T:TT):Prop:=T.length=zy s s.length∧∀(j:Nat) (x:List zM),T[j]?=some x→x.length+m≤4294967295
theorem SP.step{s:List ze}{m:Nat}{T:TT}(h:SP s (m+1) T)(e:Ev):SP s m (Ul s T e):=by
 obtain⟨h1,h2⟩:=h;unfold Ul;split
 ·exact⟨h1,fun j x hx=>by have:=h2 j x hx;omega⟩
 ·rename_i x hx
  refine⟨by simpa using h1,fun i y hy=> ?_⟩;rw[List.getElem?_set] at hy;split at hy
  ·split at hy
   ·simp only[Ao] at hy
    subst hy;have:=h2 _ _ hx;simp;omega
   ·cases hy
  ·have:=h2 _ _ hy;omega
theorem SP.le{s:List ze}{m n:Nat}{T:TT}(h:SP s m T)(hn:n≤m):SP s n T:=⟨h.1,fun j x hx=>by have:=h.2 j x hx;omega⟩
section
variable(k:Nat)(s:List ze)(hs:s.length≤20)(hn:∀c,c∈s→c.1.size<k∧c.1.size<1000000000∧Ae c.2.2.2.1)(hk:2000000≤k)
include hs hk
theorem Pp(a:Nat)(ha:a≤s.length):EE k s (a:Int)=some (zy s a:Int):=by
 have key:∀(m i f:Nat),a=i+m→m<f→EE.l3 k f s (a:Int) (zy s i:Int) (i:Int)=some (zy s a:Int):=by
  intro m
  induction m with
  |zero=>
   intro i f h hf;obtain⟨f,rfl⟩:∃q,f=q+1:=⟨f-1,by omega⟩;obtain rfl:a=i:=by omega
   simp only[EE.l3,zk (show ¬((a:Int)<(a:Int)) by omega),yZ]
  |succ m ih=>
   intro i f h hf;obtain⟨f,rfl⟩:∃q,f=q+1:=⟨f-1,by omega⟩;have hi:i<s.length:=by omega
   have hc:=AA hi;have hl:=KX s i;have h1:IntKind.wrap .i64 ((i:Int)+1)=((i+1:Nat):Int):=by rw[zg (by omega) (by omega)];omega
   have h2:IntKind.wrap .i64 ((zy s i:Int)+1)=((zy s i+1:Nat):Int):=by rw[zg (by omega) (by omega)];omega
   have hr:=ih (i+1) f (by omega) (by omega);simp only[EE.l3,zh (show(i:Int)<(a:Int) by omega),yX,zQ,hc,yY,EE.c4,h1,h2];by_cases h7:(s[i]).2.1=7
   ·rw[zK h7,yZ,←hr,KW hc h7]
   ·rw[zO h7,yX,←hr,JC hc h7]
 have:=key a 0 k (by omega) (by omega);exact this
variable(V:List za)(hV:V.length≤1048576)
include hV
end
abbrev ip(pos:List Nat):List Int:=pos.map fun n:Nat=>(n:Int)
theorem H7{pos:List Nat}{j p:Nat}(h:pos[j]?=some p):gU (ip pos) (j:Int)=some (p:Int):=by
 rw[zQ,List.getElem?_map,h];rfl
theorem Tc(pos:List Nat)(j p:Nat):(ip pos).set j (p:Int)=ip (pos.set j p):=by
 unfold ip;rw[List.map_set]
abbrev Ai(x:List zM):Bf:=(x,())
theorem Gt{T:BA}{j:Nat}{x:List zM}(h:T[j]?=some x):gU (T.map Ai) (j:Int)=some (x,()):=by
 rw[zQ,List.getElem?_map,h];rfl
def Room(d:Nat)(vals:List za)(pos:List Nat):Prop:=vals.length+280000+d≤1000000+7*pos.sum
theorem Uo:∀(l:List Nat) (m:Nat),(∀x,x∈l→x≤m)→l.sum≤m*l.length
 |[],m,_=>by simp
 |a::l,m,h=>by
  have h1:=h a (List.mem_cons_self ..);have h2:=Uo l m (fun x hx=>h x (List.mem_cons_of_mem _ hx));simp only[List.sum_cons,Ah,Nat.mul_add,Nat.mul_one];omega
theorem Pj{T:BA}{pos:List Nat}(hp:Br T pos)(hT:T.length≤20)(AY:∀x,x∈T→x.length≤2000):pos.sum≤40000:=by
 have h:=Uo pos 2000 (fun x hx=>by
  obtain⟨j,hj,rfl⟩:=List.getElem_of_mem hx;have hl:=hp.1;have SI:j<T.length:=by omega
  have:=hp.2 j _ _ (AA hj) (AA SI);have:=AY _ (List.getElem_mem SI);omega)
 have hl:=hp.1;have:2000*pos.length≤2000*20:=Nat.mul_le_mul_left _ (by omega);omega
theorem Room.lim{d n:Nat}{vals:List za}{pos:List Nat}(h:Room d vals pos)(hs:pos.sum≤40000)(hn:n≤10):lim (vals.length+n)=true:=by
 unfold Room at h;exact Ak (by omega)
theorem Room.more{d m:Nat}{vals Y:List za}{pos q:List Nat}(h:Room d vals pos)(hs:pos.sum≤q.sum)(hY:Y.length+m*pos.sum≤m*q.sum)(hm:m≤7):Room d (vals++Y) q:=by
 unfold Room at*;rw[zX];have h1:Y.length≤7*(q.sum-pos.sum):=by
  have h2:Y.length≤m*(q.sum-pos.sum):=by rw[Nat.mul_sub];omega
  exact Nat.le_trans h2 (Nat.mul_le_mul_right _ hm)
 omega
theorem Room.one{d:Nat}{vals:List za}{pos:List Nat}(h:Room (d+1) vals pos)(v:za):Room d (vals++[v]) pos:=by
 unfold Room at*;rw[zX,Ap];omega
theorem Room.le{d e:Nat}{vals:List za}{pos:List Nat}(h:Room d vals pos)(he:e≤d):Room e vals pos:=by
 unfold Room at*;omega
section
variable(k:Nat)(s:List ze)(hs:s.length≤20)(hn:∀c,c∈s→c.1.size<k∧c.1.size<1000000000∧Ae c.2.2.2.1)(hk:2000000≤k)
variable(T:BA)(hT:T.length=zy s s.length)(AY:∀x,x∈T→x.length≤2000)
include hs hn hk hT AY
theorem N9:T.length≤20:=by
 have:=KX s s.length;omega
theorem Jl{pos:List Nat}(hp:Br T pos){j:Nat}(hj:j<zy s s.length):∃x p,T[j]?=some x∧pos[j]?=some p∧p≤x.length∧x.length≤2000:=by
 have h1:j<T.length:=by omega
 have h2:j<pos.length:=by have:=hp.1;omega
 exact⟨_,_,AA h1,AA h2,hp.2 j _ _ (AA h2) (AA h1),AY _ (List.getElem_mem h1)⟩
theorem Um{pos:List Nat}(hp:Br T pos){j:Nat}(hj:j<zy s s.length)(rep zo:Int):
 ND k (T.map Ai) (j:Int) rep zo (ip pos)=some (match tk T rep zo pos j with
  |none=>(false,ip pos)
  |some (_,q)=>(true,ip q)):=by
 obtain⟨x,p,h1,h2,h3,h4⟩:=Jl k s hs hn hk T hT AY hp hj;have hx:Cv T pos j=x[p]?:=by unfold Cv;rw[h1,h2]
 have hpw:IntKind.wrap .i64 ((p:Int)+1)=((p+1:Nat):Int):=by rw[zg (by omega) (by omega)];omega
 have hgd:pos.getD j 0=p:=by rw[List.getD_eq_getElem?_getD,h2];rfl
 unfold ND tk;rw[hx,H7 h2,Gt h1];simp only[yY,hpw,hgd];by_cases hlt:p<x.length
 ·have hg:x[p]?=some x[p]:=AA hlt
  rw[zk (by omega),yZ,zQ,hg];simp only[yY];by_cases c1:(x[p]).1=rep
  ·rw[zK c1,yZ]
   simp only[yY];by_cases c2:(x[p]).2.1=zo
   ·rw[zK c2,yZ,if_pos ⟨c1,c2⟩]
    simp only[yY,Int.toNat_natCast,Tc]
   ·rw[zO c2,yX,if_neg (fun q=>c2 q.2)]
  ·rw[zO c1,yX,if_neg (fun q=>c1 q.1)]
   simp only[yY,yX]
 ·have hg:x[p]?=none:=List.getElem?_eq_none (by omega)
  rw[zh (by omega),yX,hg];simp only[yY,yX]
def FS(r:Option ((Unit×Bool)×(List Int)×(List za)))(vals:List za)(a:AR):Prop:=match a with
 |none=>∃p v,r=some (((),false),(p,v))
 |some (Y,q,_)=>r=some (((),true),(ip q,vals++Y))
theorem alK{d a e:Nat}(h:A9 s d a e)(hd:d≤6)(he:e≤s.length)(rep zo:Int)(vals:List za):∀(n j f:Nat) (pos:List Nat),j+n=zy s e→n<f→Br T pos→
 FS (Ci.l10 k f s (a:Int) (T.map Ai) rep zo (j:Int) (ip pos) vals) vals (match Gf T rep zo n j pos with
  |none=>none
  |some q=>some ([],q,false)):=by
 have BG:=O5 k s hs hn (by omega) h hd he;have hle:=JD s he;intro n
 induction n with
 |zero=>
  intro j f pos hj hf hp;obtain⟨f,rfl⟩:∃q,f=q+1:=⟨f-1,by omega⟩;simp only[Ci.l10,BG,yY,Pp k s hs hk e he,zk (show ¬((j:Int)<(zy s e:Int)) by omega),yZ,Gf,FS,AO]
 |succ n ih=>
  intro j f pos hj hf hp;obtain⟨f,rfl⟩:∃q,f=q+1:=⟨f-1,by omega⟩;have hl:=KX s e;have hj1:IntKind.wrap .i64 ((j:Int)+1)=((j+1:Nat):Int):=by rw[zg (by omega) (by omega)];omega
  simp only[Ci.l10,BG,yY,Pp k s hs hk e he,zh (show(j:Int)<(zy s e:Int) by omega),yX,Um k s hs hn hk T hT AY hp (show j<zy s s.length by omega),Gf];cases htk:tk T rep zo pos j with
  |none=>exact⟨_,_,rfl⟩
  |some r=>
   obtain⟨v,q⟩:=r;obtain⟨_,_,_,_,_,_,a1,_⟩:=K7 htk hp;simp only[zq,yZ,hj1];exact ih (j+1) f q (by omega) (by omega) a1.ok
theorem al2(S:(List ze)→Int→(List Bf)→Int→Int→Int→(List Int)→(List za)→Option ((Unit×Bool)×(List Int)×(List za)))(a m:Nat)(hm:m≤7)(c:ze)(hc:s[a]?=some c)(h2:c.2.2.1=2)(hj:zy s a<zy s s.length)(C:List Nat→AR)(hC:∀pos,I9 T (zy s a) m pos (C pos))(zo deep:Int)(hd1:IntKind.wrap .i64 (zo+1)=zo+1)
 (hS:∀pos vals,Br T pos→Room m vals pos→FS (S s (a:Int) (T.map Ai) deep (zo+1) deep (ip pos) vals) vals (C pos)) (JS:List za):
 ∀(N f f2 n:Nat) (pos:List Nat) (Y0:List za) (p:Nat),pos[zy s a]?=some p→2000-p≤N→p≤2000→N<f→N<f2→n+N≤100000→Br T pos→(∀cnt:Int,Room m (JS++(cnt,zn,())::Y0) pos)→
  match EF T (zy s a) deep C f2 pos with
  |none=>∃p v,Ci.Dp k S f s (a:Int) (T.map Ai) deep zo deep (zy s a:Int) (JS.length:Int) (match Cv T pos (zy s a) with|none=>false|some t=>t.1==deep) (ip pos) (JS++((n:Int),zn,())::Y0)=some (((),false),(p,v))
  |some (i,Y,q,_)=>Ci.Dp k S f s (a:Int) (T.map Ai) deep zo deep (zy s a:Int) (JS.length:Int) (match Cv T pos (zy s a) with|none=>false|some t=>t.1==deep) (ip pos) (JS++((n:Int),zn,())::Y0)=some (((),true),(ip q,JS++(((n+i:Nat):Int),zn,())::(Y0++Y))):=by
 intro N
 induction N with
 |zero=>
  intro f f2 n pos Y0 p hp hN hp2 hf hf2 Qq hpo hroom;obtain⟨f,rfl⟩:∃q,f=q+1:=⟨f-1,by omega⟩;obtain⟨f2,rfl⟩:∃q,f2=q+1:=⟨f2-1,by omega⟩;have hno:Cv T pos (zy s a)=none:=by
   obtain⟨x,p',g1,g2,g3,g4⟩:=Jl k s hs hn hk T hT AY hpo hj;rw[hp] at g2;cases g2;unfold Cv;rw[g1,hp];exact List.getElem?_eq_none (by omega)
  simp only[EF,hno,Ci.Dp,yZ,AO,Nat.add_zero]
 |succ N ih=>
  intro f f2 n pos Y0 p hp hN hp2 hf hf2 Qq hpo hroom;obtain⟨f,rfl⟩:∃q,f=q+1:=⟨f-1,by omega⟩;obtain⟨f2,rfl⟩:∃q,f2=q+1:=⟨f2-1,by omega⟩;simp only[EF];cases hno:Cv T pos (zy s a) with
  |none=>simp only[Ci.Dp,yZ,AO,Nat.add_zero]
  |some t=>
   simp only;by_cases ht:t.1=deep
   ·rw[if_pos ht,Ac ht]
    have hcnt:IntKind.wrap .i64 ((n:Int)+1)=((n+1:Nat):Int):=by rw[zg (by omega) (by omega)];omega
    have hs':=hS pos (JS++(((n+1:Nat):Int),zn,())::Y0) hpo (hroom _);simp only[Ci.Dp,yX,AX,yY,IV,hcnt,hd1];cases Db:C pos with
    |none=>
     rw[Db] at hs';obtain⟨p1,v1,e⟩:=hs';simp only[e,yY,zD,yX];exact⟨_,_,rfl⟩
    |some r=>
     obtain⟨x,q,l⟩:=r;rw[Db] at hs';have e:S s (a:Int) (T.map Ai) deep (zo+1) deep (ip pos) (JS++(((n+1:Nat):Int),zn,())::Y0)=some (((),true),(ip q,(JS++(((n+1:Nat):Int),zn,())::Y0)++x)):=hs';obtain⟨a1,a2,pa,pb,a3,a4,a5⟩:=hC pos _ _ _ Db hpo;rw[hp] at a3;cases a3;obtain⟨xr,pb',g1,g2,g3,g4⟩:=Jl k s hs hn hk T hT AY a1.ok hj;rw[a4] at g2;cases g2;have hmore:(cond (decide ((pb:Int)<(xr.length:Int))) ((gU (T.map Ai) (zy s a:Int)).bind fun y9=>(gU (ip q) (zy s a:Int)).bind fun CU=>(gU y9.1 CU).bind fun C8=>some (C8.1==deep)) (some false))=some (match Cv T q (zy s a) with|none=>false|some t=>t.1==deep):=by
      have hx:Cv T q (zy s a)=xr[pb]?:=by unfold Cv;rw[g1,a4]
      rw[hx];by_cases hlt:pb<xr.length
      ·rw[zh (by omega),yX,Gt g1,H7 a4]
       simp only[yY,zQ,AA hlt]
      ·rw[zk (by omega),yZ,List.getElem?_eq_none (by omega)]
     simp only[e,yY,zq,yZ,(show gU s (a:Int)=some c from hc),Ac h2,yX,H7 a4,Gt g1,Bu,List.cons_append];rw[Gt g1,H7 a4] at hmore;simp only[yY] at hmore;rw[hmore];simp only[yY]
     have hi:=ih f f2 (n+1) q (Y0++x) pb a4 (by omega) (by omega) (by omega) (by omega) (by omega) a1.ok (fun cnt=>by
      have:=Room.more (hroom cnt) a1.sum a2 hm;rw[Bu,List.cons_append] at this;exact this)
     cases hrep:EF T (zy s a) deep C f2 q with
     |none=>
      rw[hrep] at hi;exact hi
     |some r2=>
      obtain⟨i,Y,q2,l2⟩:=r2;rw[hrep] at hi;simp only at hi⊢;rw[hi,Bu,show n+1+i=n+(i+1) by omega]
   ·rw[if_neg ht,zw ht]
    simp only[Ci.Dp,yZ,AO,Nat.add_zero]
theorem alN(d D a e:Nat)(hd:d≤6)(he:e≤s.length)(hsub:A9 s d a e)(C:Int→Int→Int→List Nat→AR)(c:ze)(hc:s[a]?=some c)(hr:c.2.2.1=0∨c.2.2.1=1∨c.2.2.1=2)(hG:∀r q p pos,I9 T (zy s a) d pos (C r q p pos))
 (hC:∀(rep zo deep:Int) (pos:List Nat) (vals:List za),Br T pos→0≤zo→zo+d≤1001→0≤deep→deep+d≤1001→Room d vals pos→FS ((Bz.rec k D).1 s (a:Int) (T.map Ai) rep zo deep (ip pos) vals) vals (C rep zo deep pos))
 (rep zo deep:Int) (pos:List Nat) (vals:List za) (hp:Br T pos) (b0:0≤zo) (b1:zo+1+d≤1001) (b2:0≤deep) (b3:deep+1+d≤1001) (hroom:Room (d+1) vals pos):
 FS ((Bz.rec k (D+1)).2 s (a:Int) (T.map Ai) rep zo deep (ip pos) vals) vals (Eu T s C e a rep zo deep pos):=by
 have hd1:IntKind.wrap .i64 (zo+1)=zo+1:=zg (by omega) (by omega);have hq1:IntKind.wrap .i64 (deep+1)=deep+1:=zg (by omega) (by omega);have hlt:=Cw _ _ _ hsub;have hlp:=Nn hsub;have hle:=JD s he;have hj:zy s a<zy s s.length:=by omega
 have hsum:=Pj hp (N9 k s hs hn hk T hT AY) AY;simp only[Bz.rec,Ci.b,zQ,hc,yY,Eu];by_cases h0:c.2.2.1=0
 ·rw[Ac h0,yX,if_pos h0]
  have:=hC rep zo deep pos vals hp b0 (by omega) b2 (by omega) (hroom.le (by omega));cases Db:C rep zo deep pos with
  |none=>
   rw[Db] at this;obtain⟨p1,v1,e⟩:=this;rw[e];exact⟨_,_,rfl⟩
  |some r=>
   obtain⟨Y,q,l⟩:=r;rw[Db] at this;have e:(Bz.rec k D).1 s (a:Int) (T.map Ai) rep zo deep (ip pos) vals=some (((),true),(ip q,vals++Y)):=this;rw[e];rfl
 ·rw[zw h0,yZ,if_neg h0]
  obtain⟨x,p,g1,g2,g3,g4⟩:=Jl k s hs hn hk T hT AY hp hj;have hx:Cv T pos (zy s a)=x[p]?:=by unfold Cv;rw[g1,g2]
  simp only[Pp k s hs hk a (by omega),yY,H7 g2,Gt g1];rw[hx];by_cases hpl:p<x.length
  ·rw[zk (by omega),yZ,Ak (by have:=Room.lim hroom hsum (show 1≤10 by omega);unfold lim at this;have:=Nat.le_of_ble_eq_true this;simpa using this),yX,AA hpl]
   simp only[zQ,AA hpl,yY,List.getElem?_map,g1,Option.map_some];by_cases hdf:(x[p]).2.1≤zo
   ·rw[zh hdf,yX,if_pos hdf]
    have:=alK k s hs hn hk T hT AY hsub hd he rep zo (vals++[(0,zn,())]) (zy s e-zy s a) (zy s a) k pos (by omega) (by have:=KX s e;omega) hp;cases wO:Gf T rep zo (zy s e-zy s a) (zy s a) pos with
    |none=>rw[wO] at this;exact this
    |some q=>
     rw[wO] at this;have this:Ci.l10 k k s (a:Int) (T.map Ai) rep zo (zy s a:Int) (ip pos) (vals++[(0,zn,())])=some (((),true),(ip q,(vals++[(0,zn,())])++[])):=this;rw[AO] at this;exact this
   ·rw[zk hdf,yZ,if_neg hdf]
    simp only[zQ,hc,yY,Ci.c17];by_cases h2:c.2.2.1=2
    ·rw[Ac h2,yX,if_pos h2,hq1]
     have hs':=hC rep (zo+1) (deep+1) pos (vals++[((1:Int),zn,())]) hp (by omega) (by omega) (by omega) (by omega) (hroom.one _);have hset:∀v:za,List.set (vals++[v]) (Int.toNat (vals.length:Int)) ((1:Int),zn,())=vals++[((1:Int),zn,())]:=fun v=>IV vals [] v _;have hget:∀v:za,gU (vals++[v]) (vals.length:Int)=some v:=fun v=>AX vals [] v;have h01:IntKind.wrap .i64 ((0:Int)+1)=1:=by decide
     conv=>arg 1;arg 3;rw[show k=(k-1)+1 by omega]
     simp only[Ci.Dp,yX,hget,yY,hset,h01,hd1];cases Db:C rep (zo+1) (deep+1) pos with
     |none=>
      rw[Db] at hs';obtain⟨p1,v1,e⟩:=hs';simp only[e,yY,zD,yX];exact⟨_,_,rfl⟩
     |some r=>
      obtain⟨y,q,l⟩:=r;rw[Db] at hs';have e:(Bz.rec k D).1 s (a:Int) (T.map Ai) rep (zo+1) (deep+1) (ip pos) (vals++[((1:Int),zn,())])=some (((),true),(ip q,(vals++[((1:Int),zn,())])++y)):=hs';obtain⟨a1,a2,pa,pb,a3,a4,a5⟩:=hG _ _ _ pos _ _ _ Db hp;obtain⟨xr,pb',r1,r2,r3,r4⟩:=Jl k s hs hn hk T hT AY a1.ok hj;rw[a4] at r2;cases r2;have hmore:(cond (decide ((pb:Int)<(xr.length:Int))) ((gU (T.map Ai) (zy s a:Int)).bind fun y9=>(gU (ip q) (zy s a:Int)).bind fun CU=>(gU y9.1 CU).bind fun C8=>some (C8.1==deep+1)) (some false))=some (match Cv T q (zy s a) with|none=>false|some t=>t.1==deep+1):=by
       have hx:Cv T q (zy s a)=xr[pb]?:=by unfold Cv;rw[r1,a4]
       rw[hx];by_cases hlt:pb<xr.length
       ·rw[zh (by omega),yX,Gt r1,H7 a4]
        simp only[yY,zQ,AA hlt]
       ·rw[zk (by omega),yZ,List.getElem?_eq_none (by omega)]
      rw[Gt r1,H7 a4] at hmore;simp only[yY] at hmore;simp only[e,yY,zq,yZ,(show gU s (a:Int)=some c from hc),Ac h2,yX,H7 a4,Gt r1];rw[hmore];simp only[yY,Bu,List.singleton_append];have hroom1:∀cnt:Int,Room d (vals++(cnt,zn,())::y) q:=fun cnt=>by
       have h1:Room d (vals++[(cnt,zn,())]) pos:=hroom.one _;have h2:=Room.more h1 a1.sum a2 (by omega);rw[Bu,List.singleton_append] at h2;exact h2
      have hi:=al2 k s hs hn hk T hT AY (Bz.rec k D).1 a d (by omega) c hc h2 hj (C (deep+1) (zo+1) (deep+1)) (fun pos=>hG _ _ _ pos) zo (deep+1) hd1
       (fun pos vals hpo hrm=>hC _ _ _ pos vals hpo (by omega) (by omega) (by omega) (by omega) hrm) vals (2000-pb) (k-1) 3000 1 q y pb a4 (Nat.le_refl _) (by omega) (by omega) (by omega) (by omega) a1.ok hroom1
      cases hrep:EF T (zy s a) (deep+1) (C (deep+1) (zo+1) (deep+1)) 3000 q with
      |none=>
       rw[hrep] at hi;exact hi
      |some r5=>
       obtain⟨i,Y,q2,l2⟩:=r5;rw[hrep] at hi;simp only at hi⊢;show _=_;rw[show((1:Nat):Int)=1 from rfl] at hi;rw[hi,show 1+i=i+1 by omega]
    ·rw[zw h2,yZ,if_neg h2]
     have hs':=hC rep (zo+1) deep pos (vals++[((1:Int),zn,())]) hp (by omega) (by omega) (by omega) (by omega) (hroom.one _);have hset:∀v:za,List.set (vals++[v]) (Int.toNat (vals.length:Int)) ((1:Int),zn,())=vals++[((1:Int),zn,())]:=fun v=>IV vals [] v _;have hget:∀v:za,gU (vals++[v]) (vals.length:Int)=some v:=fun v=>AX vals [] v;have h01:IntKind.wrap .i64 ((0:Int)+1)=1:=by decide
     conv=>arg 1;arg 3;rw[show k=(k-2)+1+1 by omega]
     simp only[Ci.Dp,yX,hget,yY,hset,h01,hd1];cases Db:C rep (zo+1) deep pos with
     |none=>
      rw[Db] at hs';obtain⟨p1,v1,e⟩:=hs';simp only[e,yY,zD,yX];exact⟨_,_,rfl⟩
     |some r=>
      obtain⟨y,q,l⟩:=r;rw[Db] at hs';have e:(Bz.rec k D).1 s (a:Int) (T.map Ai) rep (zo+1) deep (ip pos) (vals++[((1:Int),zn,())])=some (((),true),(ip q,(vals++[((1:Int),zn,())])++y)):=hs';simp only[e,yY,zq,yZ,zQ,hc,zw h2,yZ];show _=_;simp
  ·rw[zh (by omega),yX,List.getElem?_eq_none (by omega)]
   exact⟨_,_,rfl⟩
theorem alA:∀(d D a nx:Nat),A9 s d a nx→nx≤s.length→d≤6→2*d≤D→∀(rep zo deep:Int) (pos:List Nat) (vals:List za),Br T pos→0≤zo→zo+d≤1001→0≤deep→deep+d≤1001→Room d vals pos→
 FS ((Bz.rec k D).1 s (a:Int) (T.map Ai) rep zo deep (ip pos) vals) vals (aC T s d a rep zo deep pos):=by
 intro d
 induction d with
 |zero=>intro D a nx h;exact h.elim
 |succ d ih=>
  intro D a nx h hnx hd hD rep zo deep pos vals hp b0 b1 b2 b3 hroom;obtain⟨D,rfl⟩:∃q,D=q+2:=⟨D-2,by omega⟩;have hsub:=h;have hlt:=Cw _ _ _ h;obtain⟨c,hc,hco,_,CB⟩:=h;have hcm:=(hn c (List.mem_of_getElem? hc)).2.2;have hmp:=JV (Cw d) _ _ _ _ CB;have ha1:IntKind.wrap .i64 ((a:Int)+1)=((a+1:Nat):Int):=by rw[zg (by omega) (by omega)];omega
  have hsum:=Pj hp (N9 k s hs hn hk T hT AY) AY;rw[show D+2=(D+1)+1 from rfl];simp only[Bz.rec,Bz.b,zQ,hc,yY,aC];by_cases h7:c.2.1=7
  ·rw[zK h7,yZ,if_pos h7,ha1]
   have hmn:0≤c.2.2.2.1:=by
    unfold Cy at hco;rw[h7,Kt] at hco;simp at hco;omega
   have key:∀(m pl:Nat) (i:Int) (names:List ByteArray) (f:Nat) (pos:List Nat) (vals:List za),EU (A9 s d) s m pl names nx→c.2.2.2.1-i=m→0≤i→m<f→Br T pos→Room (d+1) vals pos→
    FS (Bz.l8 k (Bz.rec k (D+1)).2 f s (a:Int) (T.map Ai) rep zo deep (pl:Int) i (ip pos) vals) vals (Fy (fun a pos=>Eu T s (aC T s d a) (Cz s d a) a rep zo deep pos) (Cz s d) m pl pos):=by
    intro m
    induction m with
    |zero=>
     intro pl i names f pos vals CB hi h0 hf hp hroom;obtain⟨f,rfl⟩:∃q,f=q+1:=⟨f-1,by omega⟩;simp only[Fy,FS,Bz.l8,zQ,hc,yY,zk (show ¬(i<c.2.2.2.1) by omega),yZ,AO]
    |succ m FZ=>
     intro pl i names f pos vals CB hi h0 hf hp hroom;obtain⟨q,mid,q1,q2,q3,q4⟩:=CB;have ajs:=Jv (Cw d) _ _ _ _ q4;obtain⟨f,rfl⟩:∃q,f=q+1:=⟨f-1,by omega⟩;have hi1:IntKind.wrap .i64 (i+1)=i+1:=zg (by omega) (by omega);have hend:Cz s d pl=mid:=KL d q3 d (Nat.le_refl _);have BG:=O5 k s hs hn (by omega) q3 (show d≤6 by omega) (by omega);have hpart:FS ((Bz.rec k (D+1)).2 s (pl:Int) (T.map Ai) rep zo deep (ip pos) vals) vals (Eu T s (aC T s d pl) mid pl rep zo deep pos):=by
      obtain⟨d',rfl⟩:∃q,d=q+1:=⟨d-1,by cases d with
       |zero=>exact q3.elim
       |succ d=>omega⟩
      have q3':=q3;obtain⟨c',hc',M6,_,_⟩:=q3;have hrep:c'.2.2.1=0∨c'.2.2.1=1∨c'.2.2.1=2:=by
       unfold Cy at M6;simp only[Aa,Al] at M6;omega
      exact alN k s hs hn hk T hT AY (d'+1) D pl mid (by omega) (by omega) q3' (aC T s (d'+1) pl) c' hc' hrep (fun r q p pos=>Jw _ pl mid q3' r q p pos)
       (fun rep zo deep pos vals h1 h2 h3 h4 h5 h6=>ih D pl mid q3' (by omega) (by omega) (by omega) rep zo deep pos vals h1 h2 h3 h4 h5 h6) rep zo deep pos vals hp b0 (by omega) b2 (by omega) hroom
     simp only[Fy,hend];simp only[Bz.l8,zQ,hc,yY,zh (show i<c.2.2.2.1 by omega),yX,hi1];cases hap:Eu T s (aC T s d pl) mid pl rep zo deep pos with
     |none=>
      rw[hap] at hpart;obtain⟨p1,v1,e⟩:=hpart;simp only[e,yY,zD,yX,KI];exact⟨_,_,rfl⟩
     |some r=>
      obtain⟨Y,q5,l⟩:=r;rw[hap] at hpart;have e:(Bz.rec k (D+1)).2 s (pl:Int) (T.map Ai) rep zo deep (ip pos) vals=some (((),true),(ip q5,vals++Y)):=hpart;obtain⟨a1,a2,_⟩:=N_ q3 (fun r q p pos=>Jw d pl mid q3 r q p pos) rep zo deep pos _ _ _ hap hp;have hi:=FZ mid (i+1) _ f q5 (vals++Y) q4 (by omega) (by omega) (by omega) a1.ok (Room.more hroom a1.sum a2 (by omega));simp only[e,yY,zq,yZ,BG,KI];cases har:Fy (fun a pos=>Eu T s (aC T s d a) (Cz s d a) a rep zo deep pos) (Cz s d) m mid q5 with
      |none=>
       rw[har] at hi;exact hi
      |some r6=>
       obtain⟨Y2,q6,l6⟩:=r6;rw[har] at hi;simp only[FS] at hi⊢;rw[hi,Bu]
   exact key c.2.2.2.1.toNat (a+1) 0 [] k pos vals CB (by omega) (by omega) (by omega) hp hroom
  ·rw[zO h7,yX,if_neg h7]
   have hj:=O8 hc h7;simp only[Pp k s hs hk a (by omega),yY,Um k s hs hn hk T hT AY hp hj];cases htk:tk T rep zo pos (zy s a) with
   |none=>exact⟨_,_,rfl⟩
   |some r=>
    obtain⟨v,q⟩:=r;obtain⟨x,p,e1,e2,e3,e4,e5,e6⟩:=K7 htk hp;have hq2:q[zy s a]?=some (p+1):=by
     rw[e4,List.getElem?_set_self (List.getElem?_eq_some_iff.1 e2).1]
    have hw:IntKind.wrap .i64 (((p+1:Nat):Int)-1)=(p:Int):=by
     have:=(List.getElem?_eq_some_iff.1 e3).1;have hx2:=AY x (List.mem_of_getElem? e1);rw[zg (by omega) (by omega)];omega
    simp only[zq,yZ,Bz.d5,Gt e1,H7 hq2,yY,hw,zQ,e3];rw[Ak (by have:=Room.lim hroom hsum (show 1≤10 by omega);unfold lim at this;have:=Nat.le_of_ble_eq_true this;simpa using this),yX];rfl
end
abbrev jn(s:List ze)(T:BA)(nums:List Int)(b l:Bool):zG:=(s,T.map Ai,nums,(),(),b,l,())
def IM(s:List ze)(T:BA)(nums:List Int)(r:Option (Int×zG×(List Int)×(List za)))(nx:Int)(l:Bool)(vals:List za)(a:AR):Prop:=match a with
 |none=>∃nx' l' pos' v,Br T pos'∧r=some (nx',(jn s T nums true l',ip pos',v))∧vals.length≤v.length
 |some (Y,q,m)=>r=some (nx,(jn s T nums false (l||m),ip q,vals++Y))
section
variable(k:Nat)(s:List ze)(hs:s.length≤20)(hn:∀c,c∈s→c.1.size<k∧c.1.size<1000000000∧Ae c.2.2.2.1)(hk:2000000≤k)
variable(T:BA)(hT:T.length=zy s s.length)(AY:∀x,x∈T→x.length≤2000)
variable(nums:List Int)(hN:∀(a:Nat) (c:ze),s[a]?=some c→c.2.1≠7→gU nums (a:Int)=some (zy s a:Int))
include hs hn hk hT AY hN
theorem ajP:∀(d a nx f:Nat),A9 s d a nx→nx≤s.length→d<f→∀(b l:Bool) (pos:List Nat) (vals:List za) (t0:zM),Br T pos→
 Iy.l1 k f (a:Int) (jn s T nums b l) (ip pos) vals t0=some (match Cv T pos (zy s a) with
  |none=>(((0,0,zv,()),false),(jn s T nums b l,ip pos,vals))
  |some t=>((t,true),(jn s T nums b l,ip pos,vals))):=by
 intro d
 induction d with
 |zero=>intro a nx f h;exact h.elim
 |succ d ih=>
  intro a nx f h hnx hf b l pos vals t0 hp;obtain⟨f,rfl⟩:∃q,f=q+1:=⟨f-1,by omega⟩;have hlt:=Cw _ _ _ h;obtain⟨c,hc,hco,_,CB⟩:=h;have ha1:IntKind.wrap .i64 ((a:Int)+1)=((a+1:Nat):Int):=by rw[zg (by omega) (by omega)];omega
  simp only[Iy.l1,zQ,hc,yY];by_cases h7:c.2.1=7
  ·have hm0:0<c.2.2.2.1:=by
    unfold Cy at hco;rw[h7,Kt] at hco;simp at hco;exact hco.1
   obtain⟨m,hm⟩:∃m,c.2.2.2.1.toNat=m+1:=⟨c.2.2.2.1.toNat-1,by omega⟩;rw[hm] at CB;obtain⟨q,mid,_,_,q3,q4⟩:=CB;have hmn:=Jv (Cw d) _ _ _ _ q4;have:=ih (a+1) mid f q3 (by omega) (by omega) b l pos vals t0 hp;rw[KW hc h7] at this;rw[Ac h7,yX,ha1,this]
  ·rw[zw h7,yZ,←zQ,hN a c hc h7]
   obtain⟨x,p,g1,g2,g3,g4⟩:=Jl k s hs hn hk T hT AY hp (O8 hc h7);have hx:Cv T pos (zy s a)=x[p]?:=by unfold Cv;rw[g1,g2]
   simp only[yY,H7 g2,Gt g1];rw[hx];by_cases hpl:p<x.length
   ·rw[zw (by omega),yZ,AA hpl]
    simp only[zQ,AA hpl,yY]
   ·rw[Ac (by omega),yX,List.getElem?_eq_none (by omega)]
    rfl
theorem LX{d a nx:Nat}(h:A9 s d a nx)(hd:d≤7)(hnx:nx≤s.length)(b l:Bool)(pos:List Nat)(vals:List za)(hp:Br T pos):
 Iy k (a:Int) (jn s T nums b l) (ip pos) vals=some (match Cv T pos (zy s a) with
  |none=>(((0,0,zv,()),false),(jn s T nums b l,ip pos,vals))
  |some t=>((t,true),(jn s T nums b l,ip pos,vals))):=
 ajP k s hs hn hk T hT AY nums hN d a nx k h hnx (by omega) b l pos vals _ hp
theorem Te{a:Nat}{c:ze}(hc:s[a]?=some c)(h7:c.2.1≠7){d nx:Nat}(hsub:A9 s d a nx)(hd:d≤7)(hnx:nx≤s.length)(b l:Bool)(rep zo:Int)(pos:List Nat)(vals:List za)(hp:Br T pos):
 Nc k (a:Int) rep zo (jn s T nums b l) (ip pos) vals=some (match b,tk T rep zo pos (zy s a) with
  |false,some (v,q)=>(v,(jn s T nums false l,ip q,vals))
  |_,_=>(zv,(jn s T nums true l,ip pos,vals))):=by
 have hpk:=LX k s hs hn hk T hT AY nums hN hsub hd hnx b l pos vals hp;unfold Nc;rw[hpk];obtain⟨x,p,g1,g2,g3,g4⟩:=Jl k s hs hn hk T hT AY hp (O8 hc h7);have hpw:IntKind.wrap .i64 ((p:Int)+1)=((p+1:Nat):Int):=by rw[zg (by omega) (by omega)];omega
 have hgd:pos.getD (zy s a) 0=p:=by rw[List.getD_eq_getElem?_getD,g2];rfl
 unfold tk;cases b with
 |true=>
  cases Cv T pos (zy s a) with
  |none=>rfl
  |some t=>rfl
 |false=>
  cases Cv T pos (zy s a) with
  |none=>rfl
  |some t=>
   simp only[yY,zq,yZ];by_cases c1:t.1=rep
   ·rw[zK c1]
    simp only[yZ,yY];by_cases c2:t.2.1=zo
    ·rw[zK c2,yZ,hN a c hc h7]
     simp only[yY,H7 g2,hpw,Int.toNat_natCast,Tc];rw[if_pos ⟨c1,c2⟩,hgd]
    ·rw[zO c2,yX,if_neg (fun q=>c2 q.2)];rfl
   ·rw[zO c1]
    simp only[yX,yY];rw[if_neg (fun q=>c1 q.1)];rfl
theorem ajJ{d a nx:Nat}(h:A9 s d a nx)(hd:d≤6)(hnx:nx≤s.length)(rep zo:Int)(l:Bool)(vals:List za):∀(n i f:Nat) (b:Bool) (pos:List Nat),i+n=nx→a≤i→n<f→Br T pos→
 (b=true→DN.l3 k f rep zo (nx:Int) (i:Int) (jn s T nums b l) (ip pos) vals=some ((nx:Int),(jn s T nums true l,ip pos,vals)))∧
 (b=false→match Gf T rep zo (zy s nx-zy s i) (zy s i) pos with
  |none=>∃pos',Br T pos'∧DN.l3 k f rep zo (nx:Int) (i:Int) (jn s T nums b l) (ip pos) vals=some ((nx:Int),(jn s T nums true l,ip pos',vals))
  |some q=>DN.l3 k f rep zo (nx:Int) (i:Int) (jn s T nums b l) (ip pos) vals=some ((nx:Int),(jn s T nums false l,ip q,vals))):=by
 intro n
 induction n with
 |zero=>
  intro i f b pos hi ha hf hp;obtain⟨f,rfl⟩:∃q,f=q+1:=⟨f-1,by omega⟩;obtain rfl:i=nx:=by omega
  rw[Nat.sub_self];simp only[DN.l3,zk (show ¬((i:Int)<(i:Int)) by omega),yZ,Gf];exact⟨fun hb=>by rw[hb],fun hb=>by rw[hb]⟩
 |succ n ih=>
  intro i f b pos hi ha hf hp;obtain⟨f,rfl⟩:∃q,f=q+1:=⟨f-1,by omega⟩;have hc:=AA (show i<s.length by omega);generalize s[i]=c at hc;have hi1:IntKind.wrap .i64 ((i:Int)+1)=((i+1:Nat):Int):=by rw[zg (by omega) (by omega)];omega
  have hcr:gU s (i:Int)=some c:=hc;simp only[DN.l3,zh (show(i:Int)<(nx:Int) by omega),yX,hcr,yY,DN.c4,hi1];by_cases h7:c.2.1=7
  ·rw[zK h7,yZ,←KW hc h7]
   exact ih (i+1) f b pos (by omega) (by omega) (by omega) hp
  ·obtain⟨nx',e1,e2⟩:=NI d a nx h i ha (by omega)
   rw[zO h7,yX,Te k s hs hn hk T hT AY nums hN hc h7 e1 (by omega) (by omega) b l rep zo pos vals hp];have hle:=JD s (show i+1≤nx by omega);rw[JC hc h7] at hle;cases b with
   |true=>
    simp only[yY];refine⟨fun _=>(ih (i+1) f true pos (by omega) (by omega) (by omega) hp).1 rfl,fun hb=>by cases hb⟩
   |false=>
    refine⟨fun hb=>(by cases hb),fun _=> ?_⟩;rw[show zy s nx-zy s i=(zy s nx-(zy s i+1))+1 by omega];simp only[Gf];cases htk:tk T rep zo pos (zy s i) with
    |none=>
     simp only[yY];exact⟨pos,hp,(ih (i+1) f true pos (by omega) (by omega) (by omega) hp).1 rfl⟩
    |some r=>
     obtain⟨v,q⟩:=r;obtain⟨_,_,_,_,_,_,a1,_⟩:=K7 htk hp;have hh:=(ih (i+1) f false q (by omega) (by omega) (by omega) a1.ok).2 rfl;rw[JC hc h7] at hh;simp only[yY];exact hh
theorem S_{d a nx:Nat}(h:A9 s d a nx)(hd:d≤6)(hnx:nx≤s.length)(rep zo:Int)(l:Bool)(vals:List za)(b:Bool)(pos:List Nat)(hp:Br T pos):
 (b=true→DN k (a:Int) rep zo (jn s T nums b l) (ip pos) vals=some ((nx:Int),(jn s T nums true l,ip pos,vals)))∧
 (b=false→match Gf T rep zo (zy s nx-zy s a) (zy s a) pos with
  |none=>∃pos',Br T pos'∧DN k (a:Int) rep zo (jn s T nums b l) (ip pos) vals=some ((nx:Int),(jn s T nums true l,ip pos',vals))
  |some q=>DN k (a:Int) rep zo (jn s T nums b l) (ip pos) vals=some ((nx:Int),(jn s T nums false l,ip q,vals))):=by
 have BG:=P8 k s hs hn (by omega) h hd hnx;have hlt:=Cw _ _ _ h;have:=ajJ k s hs hn hk T hT AY nums hN h hd hnx rep zo l vals (nx-a) a k b pos (by omega) (Nat.le_refl _) (by omega) hp;unfold DN;rw[BG];exact this
theorem ajS(S:Int→Int→Int→Int→zG→(List Int)→(List za)→Option (Int×zG×(List Int)×(List za)))(d a e m:Nat)(hm:m≤7)(hd:d≤6)(hsub:A9 s d a e)(he:e≤s.length)(C:List Nat→AR)(hC:∀pos,I9 T (zy s a) m pos (C pos))(zo deep:Int)
 (hS:∀pos vals l,Br T pos→Room m vals pos→IM s T nums (S (a:Int) deep zo deep (jn s T nums false l) (ip pos) vals) e l vals (C pos)):
 ∀(N f f2 n:Nat) (pos:List Nat) (vals:List za) (l:Bool) (p:Nat),pos[zy s a]?=some p→2000-p≤N→p≤2000→N+1<f→N<f2→n+N≤100000→Br T pos→Room m vals pos→
  match EF T (zy s a) deep C f2 pos with
  |none=>∃n' l' pos' v,Br T pos'∧Dc.l4 k S f (a:Int) zo deep (n:Int) (jn s T nums false l) (ip pos) vals=some (n',(jn s T nums true l',ip pos',v))∧vals.length≤v.length
  |some (i,Y,q,m)=>Dc.l4 k S f (a:Int) zo deep (n:Int) (jn s T nums false l) (ip pos) vals=some (((n+i:Nat):Int),(jn s T nums false (l||m),ip q,vals++Y)):=by
 have hlp:=Nn hsub;have hle:=JD s he;have hj:zy s a<zy s s.length:=by omega
 intro N
 induction N with
 |zero=>
  intro f f2 n pos vals l p hp hN' hp2 hf hf2 Qq hpo hroom;obtain⟨f,rfl⟩:∃q,f=q+1:=⟨f-1,by omega⟩;obtain⟨f2,rfl⟩:∃q,f2=q+1:=⟨f2-1,by omega⟩;have hno:Cv T pos (zy s a)=none:=by
   obtain⟨x,p',g1,g2,g3,g4⟩:=Jl k s hs hn hk T hT AY hpo hj;rw[hp] at g2;cases g2;unfold Cv;rw[g1,hp];exact List.getElem?_eq_none (by omega)
  have hpk:=LX k s hs hn hk T hT AY nums hN hsub (by omega) he false l pos vals hpo;rw[hno] at hpk;simp only[EF,hno,Dc.l4,hpk,yY,zD,yX,yZ,AO,Nat.add_zero,Bool.or_false]
 |succ N ih=>
  intro f f2 n pos vals l p hp hN' hp2 hf hf2 Qq hpo hroom;obtain⟨f,rfl⟩:∃q,f=q+1:=⟨f-1,by omega⟩;obtain⟨f2,rfl⟩:∃q,f2=q+1:=⟨f2-1,by omega⟩;have hpk:=LX k s hs hn hk T hT AY nums hN hsub (by omega) he false l pos vals hpo;simp only[EF,Dc.l4];cases hno:Cv T pos (zy s a) with
  |none=>
   rw[hno] at hpk;simp only[hpk,yY,zD,yX,yZ,AO,Nat.add_zero,Bool.or_false]
  |some t=>
   rw[hno] at hpk;simp only[hpk,yY,zq,yZ];by_cases ht:t.1=deep
   ·rw[if_pos ht,zK ht]
    have hcnt:IntKind.wrap .i64 ((n:Int)+1)=((n+1:Nat):Int):=by rw[zg (by omega) (by omega)];omega
    have hs':=hS pos vals l hpo hroom;simp only[yZ,hcnt];cases Db:C pos with
    |none=>
     rw[Db] at hs';obtain⟨nx',l',pos',v,e1,e2,e3⟩:=hs';obtain⟨f,rfl⟩:∃q,f=q+1:=⟨f-1,by omega⟩;have Qr:=LX k s hs hn hk T hT AY nums hN hsub (by omega) he true l' pos' v e1;simp only[e2,yY,Dc.l4,Qr];refine⟨((n+1:Nat):Int),l',pos',v,e1,?_,e3⟩;cases Cv T pos' (zy s a)<;>rfl
    |some r=>
     obtain⟨x,q,l1⟩:=r;rw[Db] at hs';have e1:S (a:Int) deep zo deep (jn s T nums false l) (ip pos) vals=some ((e:Int),(jn s T nums false (l||l1),ip q,vals++x)):=hs';obtain⟨a1,a2,pa,pb,a3,a4,a5⟩:=hC pos _ _ _ Db hpo;rw[hp] at a3;cases a3;obtain⟨xr,pb',g1,g2,g3,g4⟩:=Jl k s hs hn hk T hT AY a1.ok hj;rw[a4] at g2;cases g2;simp only[e1,yY];have hi:=ih f f2 (n+1) q (vals++x) (l||l1) pb a4 (by omega) (by omega) (by omega) (by omega) (by omega) a1.ok (Room.more hroom a1.sum a2 hm);cases hrep:EF T (zy s a) deep C f2 q with
     |none=>
      rw[hrep] at hi;obtain⟨n',l',pos',v,e1,e2,e3⟩:=hi;exact⟨n',l',pos',v,e1,e2,by rw[zX] at e3;omega⟩
     |some r2=>
      obtain⟨i,Y,q2,l2⟩:=r2;rw[hrep] at hi;simp only at hi⊢;rw[hi,Bu,show n+1+i=n+(i+1) by omega,Bool.or_assoc]
   ·rw[if_neg ht,zO ht]
    simp only[yX,AO,Nat.add_zero,Bool.or_false]
theorem ajL(d D a e:Nat)(hd:d≤6)(he:e≤s.length)(hsub:A9 s d a e)(C:Int→Int→Int→List Nat→AR)(c:ze)(hc:s[a]?=some c)(hr:c.2.2.1=0∨c.2.2.1=1∨c.2.2.1=2)(hG:∀r q p pos,I9 T (zy s a) d pos (C r q p pos))
 (hC:∀(D:Nat),3*d≤D→∀(rep zo deep:Int) (pos:List Nat) (vals:List za) (l:Bool),Br T pos→0≤zo→zo+d≤1001→0≤deep→deep+d≤1001→Room d vals pos→IM s T nums ((zW.rec k D).1 (a:Int) rep zo deep (jn s T nums false l) (ip pos) vals) e l vals (C rep zo deep pos)) (hD:3*d+1≤D)
 (rep zo deep:Int) (pos:List Nat) (vals:List za) (l:Bool) (hp:Br T pos) (b0:0≤zo) (b1:zo+1+d≤1001) (b2:0≤deep) (b3:deep+1+d≤1001) (hroom:Room (d+1) vals pos):
 IM s T nums ((zW.rec k (D+1)).2.1 (a:Int) rep zo deep (jn s T nums false l) (ip pos) vals) e l vals (Eu T s C e a rep zo deep pos):=by
 have hd1:IntKind.wrap .i64 (zo+1)=zo+1:=zg (by omega) (by omega);have hq1:IntKind.wrap .i64 (deep+1)=deep+1:=zg (by omega) (by omega);have hlt:=Cw _ _ _ hsub;have hlp:=Nn hsub;have hle:=JD s he;have hj:zy s a<zy s s.length:=by omega
 have hsum:=Pj hp (N9 k s hs hn hk T hT AY) AY;have hcr:gU s (a:Int)=some c:=hc;have BG:=P8 k s hs hn (by omega) hsub hd he;obtain⟨D,rfl⟩:∃q,D=q+1:=⟨D-1,by omega⟩;rw[show zW.rec k (D+1+1)=(zW.b k (zW.rec k (D+1)).1 (zW.rec k (D+1)).2.1 (zW.rec k (D+1)).2.2,CW.b k (zW.rec k (D+1)).1 (zW.rec k (D+1)).2.1 (zW.rec k (D+1)).2.2,Dc.b k (zW.rec k (D+1)).1 (zW.rec k (D+1)).2.1 (zW.rec k (D+1)).2.2) from rfl];simp only[CW.b,hcr,yY,Eu,hc];by_cases h0:c.2.2.1=0
 ·rw[Ac h0,yX,if_pos h0]
  have:=hC (D+1) (by omega) rep zo deep pos vals l hp b0 (by omega) b2 (by omega) (hroom.le (by omega));cases Db:C rep zo deep pos with
  |none=>
   rw[Db] at this;obtain⟨nx',l',pos',v,e1,e2,e3⟩:=this;rw[e2];exact⟨nx',l',pos',v,e1,rfl,e3⟩
  |some r=>
   obtain⟨Y,q,m⟩:=r;rw[Db] at this;have e1:(zW.rec k (D+1)).1 (a:Int) rep zo deep (jn s T nums false l) (ip pos) vals=some ((e:Int),(jn s T nums false (l||m),ip q,vals++Y)):=this;rw[e1];rfl
 ·rw[zw h0,yZ,if_neg h0]
  have hpk:=LX k s hs hn hk T hT AY nums hN hsub (by omega) he false l pos vals hp;have hlim:lim (vals.length+([(0,zn,())]:List za).length)=true:=by have:=Room.lim hroom hsum (show 1≤10 by omega);simpa using this
  rw[hpk];cases hno:Cv T pos (zy s a) with
  |none=>
   have hm:=(S_ k s hs hn hk T hT AY nums hN hsub hd he rep zo l (vals++[(0,zn,())]) true pos hp).1 rfl;simp only[yY,zD,yX,CW.c6,hlim,zh (show(0:Int)≤zo by omega)];have hm:DN k (a:Int) rep zo (s,T.map Ai,nums,(),(),true,l,()) (ip pos) (vals++[(0,zn,())])=_:=hm;rw[hm];exact⟨_,l,pos,_,hp,rfl,by simp⟩
  |some t=>
   simp only[yY,zq,yZ,CW.c6,hlim,yX];by_cases hdf:t.2.1≤zo
   ·rw[zh hdf,yX,if_pos hdf]
    have hm:=(S_ k s hs hn hk T hT AY nums hN hsub hd he rep zo l (vals++[(0,zn,())]) false pos hp).2 rfl;cases wO:Gf T rep zo (zy s e-zy s a) (zy s a) pos with
    |none=>
     rw[wO] at hm;obtain⟨pos',e1,e2⟩:=hm;rw[e2];exact⟨_,l,pos',_,e1,rfl,by simp⟩
    |some q=>
     rw[wO] at hm;simp only at hm⊢;rw[hm];show _=_;rw[Bool.or_false];rfl
   ·rw[zk hdf,yZ,if_neg hdf]
    simp only[hcr,yY];have hget:∀(v:za) (y:List za),gU (vals++v::y) (vals.length:Int)=some v:=fun v y=>AX vals y v;by_cases h2:c.2.2.1=2
    ·rw[Ac h2,yX,if_pos h2,hq1,hd1]
     have hs':=hC D (by omega) rep (zo+1) (deep+1) pos (vals++[(0,zn,())]) l hp (by omega) (by omega) (by omega) (by omega) (hroom.one _);rw[show zW.rec k (D+1)=(zW.b k (zW.rec k D).1 (zW.rec k D).2.1 (zW.rec k D).2.2,CW.b k (zW.rec k D).1 (zW.rec k D).2.1 (zW.rec k D).2.2,Dc.b k (zW.rec k D).1 (zW.rec k D).2.1 (zW.rec k D).2.2) from rfl];simp only[Dc.b];cases Db:C rep (zo+1) (deep+1) pos with
     |none=>
      rw[Db] at hs';obtain⟨nx',l',pos',v,e1,e2,e3⟩:=hs';have Qr:=LX k s hs hn hk T hT AY nums hN hsub (by omega) he true l' pos' v e1;have e3':vals.length<v.length:=by simp at e3;omega
      have hv:gU v (vals.length:Int)=some v[vals.length]:=by rw[zQ,AA e3']
      have hl4:Dc.l4 k (zW.rec k D).1 k (a:Int) (zo+1) (deep+1) 0 (jn s T nums true l') (ip pos') v=some (0,(jn s T nums true l',ip pos',v)):=by
       conv=>lhs;arg 3;rw[show k=(k-1)+1 by omega]
       simp only[Dc.l4,Qr,yY];cases Cv T pos' (zy s a)<;>rfl
      simp only[e2,yY,hl4,CW.c15,hv,BG,cst];refine⟨(e:Int),_,pos',_,e1,rfl,?_⟩;simp;omega
     |some r=>
      obtain⟨y,q,l1⟩:=r;rw[Db] at hs';have e1:(zW.rec k D).1 (a:Int) rep (zo+1) (deep+1) (jn s T nums false l) (ip pos) (vals++[(0,zn,())])=some ((e:Int),(jn s T nums false (l||l1),ip q,(vals++[(0,zn,())])++y)):=hs';obtain⟨a1,a2,pa,pb,a3,a4,a5⟩:=hG _ _ _ pos _ _ _ Db hp;obtain⟨xr,pb',r1,r2,r3,r4⟩:=Jl k s hs hn hk T hT AY a1.ok hj;rw[a4] at r2;cases r2;have hroom1:Room d ((vals++[(0,zn,())])++y) q:=Room.more (hroom.one _) a1.sum a2 (by omega)
      have hi:=ajS k s hs hn hk T hT AY nums hN (zW.rec k D).1 d a e d (by omega) hd hsub he (C (deep+1) (zo+1) (deep+1)) (fun pos=>hG _ _ _ pos) (zo+1) (deep+1)
       (fun pos vals l hpo hrm=>hC D (by omega) _ _ _ pos vals l hpo (by omega) (by omega) (by omega) (by omega) hrm) (2000-pb) k 3000 0 q ((vals++[(0,zn,())])++y) (l||l1) pb a4 (Nat.le_refl _) (by omega) (by omega) (by omega) (by omega) a1.ok hroom1
      simp only[e1,yY];cases hrep:EF T (zy s a) (deep+1) (C (deep+1) (zo+1) (deep+1)) 3000 q with
      |none=>
       rw[hrep] at hi;obtain⟨n',l',pos',v,f1,f2,f3⟩:=hi;have f2:Dc.l4 k (zW.rec k D).1 k (a:Int) (zo+1) (deep+1) 0 (jn s T nums false (l||l1)) (ip q) ((vals++[(0,zn,())])++y)=_:=f2;have f3':vals.length<v.length:=by simp at f3;omega
       have hv:gU v (vals.length:Int)=some v[vals.length]:=by rw[zQ,AA f3']
       simp only[f2,yY,CW.c15,hv,BG,cst];refine⟨(e:Int),_,pos',_,f1,rfl,?_⟩;simp;omega
      |some r5=>
       obtain⟨i,Y,q2,l2⟩:=r5;rw[hrep] at hi;have hi:Dc.l4 k (zW.rec k D).1 k (a:Int) (zo+1) (deep+1) 0 (jn s T nums false (l||l1)) (ip q) ((vals++[(0,zn,())])++y)=some (((0+i:Nat):Int),(jn s T nums false (l||l1||l2),ip q2,((vals++[(0,zn,())])++y)++Y)):=hi;have hib:i≤3000:=by
        have key:∀(f:Nat) (pos:List Nat) (n:Nat) (Y:List za) (q:List Nat) (l:Bool),EF T (zy s a) (deep+1) (C (deep+1) (zo+1) (deep+1)) f pos=some (n,Y,q,l)→n≤f:=by
         intro f
         induction f with
         |zero=>intro pos n Y q l h;cases h
         |succ f GH=>
          intro pos n Y q l h;simp only[EF] at h;split at h
          ·simp only[Ao,Prod.mk.injEq] at h;omega
          ·split at h
           ·split at h
            ·cases h
            ·split at h
             ·cases h
             ·rename_i h2
              have:=GH _ _ _ _ _ h2;simp only[Ao,Prod.mk.injEq] at h;omega
           ·simp only[Ao,Prod.mk.injEq] at h;omega
        exact key _ _ _ _ _ _ hrep
       have hcnt:IntKind.wrap .i64 (1+((0+i:Nat):Int))=((i+1:Nat):Int):=by rw[zg (by omega) (by omega)];omega
       simp only[Bu,List.singleton_append,List.cons_append,List.nil_append] at hi;simp only[hi,yY,CW.c15,Bu,List.singleton_append,List.cons_append,List.nil_append,hget,BG,IV,hcnt,cst];show _=_;have hb:((l||l1||l2)||decide (((i+1:Nat):Int)>20))=(l||(l1||l2||decide (20<i+1))):=by
        have:decide (((i+1:Nat):Int)>20)=decide (20<i+1):=by
         by_cases h:20<i+1
         ·rw[zh h,zh (by omega)]
         ·rw[zk h,zk (by omega)]
        rw[this,Bool.or_assoc,Bool.or_assoc,Bool.or_assoc]
       rw[hb]
    ·rw[zw h2,yZ,if_neg h2,hd1]
     have hs':=hC (D+1) (by omega) rep (zo+1) deep pos (vals++[(0,zn,())]) l hp (by omega) (by omega) (by omega) (by omega) (hroom.one _);cases Db:C rep (zo+1) deep pos with
     |none=>
      rw[Db] at hs';obtain⟨nx',l',pos',v,e1,e2,e3⟩:=hs';have e3':vals.length<v.length:=by simp at e3;omega
      have hv:gU v (vals.length:Int)=some v[vals.length]:=by rw[zQ,AA e3']
      simp only[e2,yY,CW.c15,hv,BG,cst];refine⟨(e:Int),_,pos',_,e1,rfl,?_⟩;simp;omega
     |some r=>
      obtain⟨y,q,l1⟩:=r;rw[Db] at hs';have e1:(zW.rec k (D+1)).1 (a:Int) rep (zo+1) deep (jn s T nums false l) (ip pos) (vals++[(0,zn,())])=some ((e:Int),(jn s T nums false (l||l1),ip q,(vals++[(0,zn,())])++y)):=hs';simp only[e1,yY,CW.c15,Bu,List.singleton_append,hget,BG,IV,cst];show _=_;rw[show decide ((1:Int)>20)=false from rfl,Bool.or_false]
theorem ajz:∀(d D a nx:Nat),A9 s d a nx→nx≤s.length→d≤6→3*d≤D→∀(rep zo deep:Int) (pos:List Nat) (vals:List za) (l:Bool),Br T pos→0≤zo→zo+d≤1001→0≤deep→deep+d≤1001→Room d vals pos→
 IM s T nums ((zW.rec k D).1 (a:Int) rep zo deep (jn s T nums false l) (ip pos) vals) nx l vals (aC T s d a rep zo deep pos):=by
 intro d
 induction d with
 |zero=>intro D a nx h;exact h.elim
 |succ d ih=>
  intro D a nx h hnx hd hD rep zo deep pos vals l hp b0 b1 b2 b3 hroom;obtain⟨D,rfl⟩:∃q,D=q+2:=⟨D-2,by omega⟩;have hsub:=h;have hlt:=Cw _ _ _ h;obtain⟨c,hc,hco,_,CB⟩:=h;have hcm:=(hn c (List.mem_of_getElem? hc)).2.2;have hmp:=JV (Cw d) _ _ _ _ CB;have ha1:IntKind.wrap .i64 ((a:Int)+1)=((a+1:Nat):Int):=by rw[zg (by omega) (by omega)];omega
  have hsum:=Pj hp (N9 k s hs hn hk T hT AY) AY;have hcr:gU s (a:Int)=some c:=hc;rw[show zW.rec k (D+2)=(zW.b k (zW.rec k (D+1)).1 (zW.rec k (D+1)).2.1 (zW.rec k (D+1)).2.2,CW.b k (zW.rec k (D+1)).1 (zW.rec k (D+1)).2.1 (zW.rec k (D+1)).2.2,Dc.b k (zW.rec k (D+1)).1 (zW.rec k (D+1)).2.1 (zW.rec k (D+1)).2.2) from rfl];simp only[zW.b,hcr,yY,aC,hc];by_cases h7:c.2.1=7
  ·rw[zK h7,yZ,if_pos h7,ha1]
   have hmn:0≤c.2.2.2.1:=by
    unfold Cy at hco;rw[h7,Kt] at hco;simp at hco;omega
   have key:∀(m pl:Nat) (i:Int) (names:List ByteArray) (f:Nat) (pos:List Nat) (vals:List za) (l:Bool),EU (A9 s d) s m pl names nx→c.2.2.2.1-i=m→0≤i→m<f→Br T pos→Room (d+1) vals pos→
    IM s T nums (zW.l7 k (zW.rec k (D+1)).2.1 f rep zo deep (pl:Int) c.2.2.2.1 i (jn s T nums false l) (ip pos) vals) nx l vals (Fy (fun a pos=>Eu T s (aC T s d a) (Cz s d a) a rep zo deep pos) (Cz s d) m pl pos):=by
    intro m
    induction m with
    |zero=>
     intro pl i names f pos vals l CB hi h0 hf hp hroom;obtain⟨f,rfl⟩:∃q,f=q+1:=⟨f-1,by omega⟩;have CB:pl=nx:=CB;subst CB;simp only[Fy,IM,zW.l7,zk (show ¬(i<c.2.2.2.1) by omega),yZ,AO,zW.c11,Bool.or_false]
    |succ m FZ=>
     intro pl i names f pos vals l CB hi h0 hf hp hroom;obtain⟨q,mid,q1,q2,q3,q4⟩:=CB;have ajs:=Jv (Cw d) _ _ _ _ q4;obtain⟨f,rfl⟩:∃q,f=q+1:=⟨f-1,by omega⟩;have hi1:IntKind.wrap .i64 (i+1)=i+1:=zg (by omega) (by omega);have hend:Cz s d pl=mid:=KL d q3 d (Nat.le_refl _);have hpart:IM s T nums ((zW.rec k (D+1)).2.1 (pl:Int) rep zo deep (jn s T nums false l) (ip pos) vals) mid l vals (Eu T s (aC T s d pl) mid pl rep zo deep pos):=by
      obtain⟨d',rfl⟩:∃q,d=q+1:=⟨d-1,by cases d with
       |zero=>exact q3.elim
       |succ d=>omega⟩
      have q3':=q3;obtain⟨c',hc',M6,_,_⟩:=q3;have hrep:c'.2.2.1=0∨c'.2.2.1=1∨c'.2.2.1=2:=by
       unfold Cy at M6;simp only[Aa,Al] at M6;omega
      exact ajL k s hs hn hk T hT AY nums hN (d'+1) D pl mid (by omega) (by omega) q3' (aC T s (d'+1) pl) c' hc' hrep (fun r q p pos=>Jw _ pl mid q3' r q p pos)
       (fun D' hD' rep zo deep pos vals l h1 h2 h3 h4 h5 h6=>ih D' pl mid q3' (by omega) (by omega) hD' rep zo deep pos vals l h1 h2 h3 h4 h5 h6) (by omega) rep zo deep pos vals l hp b0 (by omega) b2 (by omega) hroom
     simp only[Fy,hend];simp only[zW.l7,zh (show i<c.2.2.2.1 by omega),yX,yZ,hi1];cases hap:Eu T s (aC T s d pl) mid pl rep zo deep pos with
     |none=>
      rw[hap] at hpart;obtain⟨nx',l',pos',v,e1,e2,e3⟩:=hpart;simp only[e2,yY,KI];obtain⟨f,rfl⟩:∃q,f=q+1:=⟨f-1,by omega⟩;refine⟨nx',l',pos',v,e1,?_,e3⟩;simp only[zW.l7,zW.c11];by_cases hlt:i+1<c.2.2.2.1
      ·rw[zh hlt];rfl
      ·rw[zk hlt];rfl
     |some r=>
      obtain⟨Y,q5,l1⟩:=r;rw[hap] at hpart;have e:(zW.rec k (D+1)).2.1 (pl:Int) rep zo deep (jn s T nums false l) (ip pos) vals=some ((mid:Int),(jn s T nums false (l||l1),ip q5,vals++Y)):=hpart;obtain⟨a1,a2,_⟩:=N_ q3 (fun r q p pos=>Jw d pl mid q3 r q p pos) rep zo deep pos _ _ _ hap hp;have hi:=FZ mid (i+1) _ f q5 (vals++Y) (l||l1) q4 (by omega) (by omega) (by omega) a1.ok (Room.more hroom a1.sum a2 (by omega));simp only[e,yY,KI];cases har:Fy (fun a pos=>Eu T s (aC T s d a) (Cz s d a) a rep zo deep pos) (Cz s d) m mid q5 with
      |none=>
       rw[har] at hi;obtain⟨nx',l',pos',v,e1,e2,e3⟩:=hi;exact⟨nx',l',pos',v,e1,e2,by rw[zX] at e3;omega⟩
      |some r6=>
       obtain⟨Y2,q6,l6⟩:=r6;rw[har] at hi;simp only[IM] at hi⊢;rw[hi,Bu,Bool.or_assoc]
   exact key c.2.2.2.1.toNat (a+1) 0 [] k pos vals l CB (by omega) (by omega) (by omega) hp hroom
  ·rw[zO h7,yX,if_neg h7]
   have hm0:c.2.2.2.1.toNat=0:=by
    unfold Cy at hco;rw[zw h7] at hco;simp at hco;omega
   rw[hm0] at CB;have CB:a+1=nx:=CB;subst CB;rw[Te k s hs hn hk T hT AY nums hN hc h7 hsub (by omega) hnx false l rep zo pos vals hp];have hlim:∀v:za,lim (vals.length+[v].length)=true:=fun v=>by have:=Room.lim hroom hsum (show 1≤10 by omega);simpa using this
   cases htk:tk T rep zo pos (zy s a) with
   |none=>
    simp only[yY,hlim,yX];exact⟨_,l,pos,_,hp,rfl,by simp⟩
   |some r=>
    obtain⟨v,q⟩:=r;simp only[yY,hlim,yX,ha1];show _=_;rw[Bool.or_false]
end
def PA(C:List za→Option (List za))(Y:List za)(l:Bool):Prop:=(l=false→∀W,C (Y++W)=some W)∧(l=true→∀W,C (Y++W)=none)
def N8(s:List ze)(T:BA):Prop:=∀(a:Nat) (c:ze),s[a]?=some c→c.2.1≠7→∀x,T[zy s a]?=some x→∀t,t∈x→t.2.1=(Cu s Cf 1 a:Nat)→Co c.2.1 t.2.2.1=true
theorem Ua{T:BA}{j m:Nat}{deep:Int}{C:List Nat→AR}{R:List za→Option (List za)}(hG:∀pos,I9 T j m pos (C pos))(h:∀pos Y q l,Br T pos→C pos=some (Y,q,l)→PA R Y l):∀(f:Nat) (pos:List Nat) (n:Nat) (Y:List za) (q:List Nat) (l:Bool),Br T pos→EF T j deep C f pos=some (n,Y,q,l)→PA (Dx R n) Y l
 |0,_,_,_,_,_,_,he=>by cases he
 |f+1,pos,n,Y,q,l,hp,he=>by
  have NJ:some (0,([]:List za),pos,false)=some (n,Y,q,l)→PA (Dx R n) Y l:=by
   intro he;simp only[Ao,Prod.mk.injEq] at he;obtain⟨rfl,rfl,rfl,rfl⟩:=he;exact⟨fun _ W=>rfl,fun h=>by cases h⟩
  simp only[EF] at he;split at he
  ·exact NJ he
  ·split at he
   ·split at he
    ·cases he
    ·rename_i x p l1 h1
     split at he
     ·cases he
     ·rename_i n2 y q2 m2 h2
      simp only[Ao,Prod.mk.injEq] at he;obtain⟨rfl,rfl,rfl,rfl⟩:=he;obtain⟨a1,a2⟩:=h pos x p l1 hp h1;obtain⟨b1,b2⟩:=Ua hG h f p n2 y q2 m2 ((hG pos _ _ _ h1 hp).1.ok) h2;cases l1 with
      |true=>exact⟨fun h=>(by cases h),fun _ W=>by rw[Bu];simp only[Dx];rw[a2 rfl];rfl⟩
      |false=>
       refine⟨fun hl W=> ?_,fun hl W=> ?_⟩
       ·rw[Bu];simp only[Dx];rw[a1 rfl];exact b1 hl W
       ·rw[Bu];simp only[Dx];rw[a1 rfl];exact b2 hl W
   ·exact NJ he
theorem akN{s:List ze}{T:BA}{d pl mid m:Nat}(hd:d≤6)(hs:A9 s d pl mid){C:Int→Int→Int→List Nat→AR}{R:List za→Option (List za)}(hG:∀r q p pos,I9 T (zy s pl) m pos (C r q p pos))(zo:Int)(hD:∀L,pl≤L→L<mid→zo+(Cu s Cf pl L:Nat)=(Cu s Cf 1 L:Nat))
 (hC:∀(rep dd deep:Int),(∀L,pl≤L→L<mid→dd+(Cu s Cf (pl+1) L:Nat)=(Cu s Cf 1 L:Nat))→∀pos Y q l,Br T pos→C rep dd deep pos=some (Y,q,l)→PA R Y l)
 (rep deep:Int) (pos:List Nat) (Y:List za) (q:List Nat) (l:Bool) (hp:Br T pos) (he:Eu T s C mid pl rep zo deep pos=some (Y,q,l)):PA (DT s R pl) Y l:=by
 have hend:=Le hd hs;unfold Eu at he;split at he
 ·cases he
 ·rename_i c hc
  have up:∀dd:Int,dd=zo+(if Cf c=true then 1 else 0:Nat)→∀L,pl≤L→L<mid→dd+(Cu s Cf (pl+1) L:Nat)=(Cu s Cf 1 L:Nat):=by
   intro dd hdd L h1 h2;have:=akj (f:=Cf) hc h1 (by rw[hend];exact h2);have h3:=hD L h1 h2;omega
  split at he
  ·rename_i h0
   have ho:Cf c=false:=by simp[Cf,h0]
   obtain⟨a1,a2⟩:=hC rep zo deep (up zo (by rw[ho];simp)) pos Y q l hp he;have e:∀V,DT s R pl V=R V:=fun V=>by unfold DT;rw[hc];simp only;rw[if_pos h0]
   exact⟨fun h W=>by rw[e];exact a1 h W,fun h W=>by rw[e];exact a2 h W⟩
  ·rename_i h0
   have ho:Cf c=true:=by simp[Cf,h0]
   have hup:=up (zo+1) (by rw[if_pos ho];rfl);have e:∀(v:za) (V:List za),DT s R pl (v::V)=if G9 v (if c.2.2.1=2 then 20 else 1)=true then none else Dx R v.1.toNat V:=fun v V=>by
    unfold DT;rw[hc];simp only;rw[if_neg h0]
   have hcb:∀(n most:Int),G9 (n,zn,()) most= !(decide (0≤n)&&decide (n≤most)):=fun n most=>by
    unfold G9;have:iY zn ⟨#[]⟩=true:=by rw[Dv];exact zh rfl
    rw[this];rfl
   split at he
   ·cases he
   ·split at he
    ·split at he
     ·cases he
     ·simp only[Ao,Prod.mk.injEq] at he
      obtain⟨rfl,rfl,rfl⟩:=he;refine⟨fun _ W=> ?_,fun h=>by cases h⟩;show DT s R pl (zv::W)=some W;rw[e];unfold zv;rw[hcb];have:decide ((0:Int)≤(if c.2.2.1=2 then 20 else 1))=true:=zh (by split<;>omega);rw[this];rfl
    ·split at he
     ·rename_i h2
      split at he
      ·cases he
      ·rename_i x p l1 h1
       split at he
       ·cases he
       ·rename_i n y q1 m1 h3
        simp only[Ao,Prod.mk.injEq] at he;obtain⟨rfl,rfl,rfl⟩:=he;obtain⟨a1,a2⟩:=hC _ _ _ hup pos x p l1 hp h1;obtain⟨b1,b2⟩:=Ua (fun pos=>hG _ _ _ pos) (fun pos Y q l hp h=>hC _ _ _ hup pos Y q l hp h) _ _ _ _ _ _ ((hG _ _ _ _ _ _ _ h1 hp).1.ok) h3;have e2:∀W,DT s R pl ((((n+1:Nat):Int),zn,())::(x++y)++W)=if 20<n+1 then none else(R (x++(y++W))).bind (Dx R n):=by
         intro W;rw[List.cons_append,e,hcb,if_pos h2];rw[Bu];by_cases h20:20<n+1
         ·rw[zk (show ¬(((n+1:Nat):Int)≤20) by omega),Bool.and_false,if_pos h20];rfl
         ·rw[zh (show(((n+1:Nat):Int)≤20) by omega),zh (show(0:Int)≤((n+1:Nat):Int) by omega),if_neg h20]
          show Dx R (((n+1:Nat):Int)).toNat _=_;rw[Int.toNat_natCast];rfl
        constructor
        ·intro hl W
         simp only[Bool.or_eq_false_iff,decide_eq_false_iff_not] at hl;rw[e2,if_neg hl.2,a1 hl.1.1];exact b1 hl.1.2 W
        ·intro hl W
         rw[e2];by_cases h20:20<n+1
         ·rw[if_pos h20]
         ·rw[if_neg h20]
          rw[zk h20,Bool.or_false,Bool.or_eq_true] at hl;cases l1 with
          |true=>rw[a2 rfl];rfl
          |false=>
           rw[a1 rfl];exact b2 (hl.elim (fun h=>by cases h) id) W
     ·rename_i h2
      split at he
      ·cases he
      ·rename_i x p l1 h1
       simp only[Ao,Prod.mk.injEq] at he;obtain⟨rfl,rfl,rfl⟩:=he;obtain⟨a1,a2⟩:=hC _ _ _ hup pos x p l1 hp h1;have e2:∀W,DT s R pl (((1:Int),zn,())::x++W)=R (x++W):=by
        intro W;rw[List.cons_append,e,hcb,if_neg h2];show Dx R 1 (x++W)=R (x++W);simp only[Dx];cases R (x++W)<;>rfl
       exact⟨fun h W=>by rw[e2];exact a1 h W,fun h W=>by rw[e2];exact a2 h W⟩
theorem Rp{s:List ze}{T:BA}(hR:N8 s T):∀(d a nx:Nat),d≤6→A9 s d a nx→∀(rep zo deep:Int),(∀L,a≤L→L<nx→zo+(Cu s Cf (a+1) L:Nat)=(Cu s Cf 1 L:Nat))→
 ∀pos Y q l,Br T pos→aC T s d a rep zo deep pos=some (Y,q,l)→PA (rC s d a) Y l
 |0,_,_,_,h,_,_,_,_,_,_,_,_,_,_=>h.elim
 |d+1,a,nx,hd,h,rep,zo,deep,hD,pos,Y,q,l,hp,he=>by
  have hlt:=Cw _ _ _ h;obtain⟨c,hc,hco,_,CB⟩:=h;simp only[aC,hc] at he;split at he
  ·rename_i h7
   have e0:∀V,rC s (d+1) a V=GR (fun a V=>DT s (rC s d a) a V) (Cz s d) c.2.2.2.1.toNat (a+1) V:=fun V=>by
    simp only[rC,hc];rw[if_pos h7]
   have key:∀(m pl:Nat) (names:List ByteArray) (pos:List Nat) (Y:List za) (q:List Nat) (l:Bool),EU (A9 s d) s m pl names nx→a+1≤pl→(∀u,a+1≤u→u<pl→CJ s u≤pl)→Br T pos→Fy (fun a pos=>Eu T s (aC T s d a) (Cz s d a) a rep zo deep pos) (Cz s d) m pl pos=some (Y,q,l)→
    PA (GR (fun a V=>DT s (rC s d a) a V) (Cz s d) m pl) Y l:=by
    intro m
    induction m with
    |zero=>
     intro pl names pos Y q l CB h1 h2 hp he;simp only[Fy,Ao,Prod.mk.injEq] at he;obtain⟨rfl,rfl,rfl⟩:=he;exact⟨fun _ W=>rfl,fun h=>by cases h⟩
    |succ m ih=>
     intro pl names pos Y q l CB h1 h2 hp he;obtain⟨_,mid,_,_,q3,q4⟩:=CB;have hmn:=Jv (Cw d) _ _ _ _ q4;have hend:Cz s d pl=mid:=KL d q3 d (Nat.le_refl _);have hlt':=Cw _ _ _ q3;simp only[Fy] at he;obtain⟨x,p,l1,y,l2,g1,g2,rfl,rfl⟩:=Rt he;rw[hend] at g1 g2;have h3:∀u,a+1≤u→u<mid→CJ s u≤mid:=fun u u1 u2=>by
      rcases Nat.lt_or_ge u pl with u3|u3
      ·have:=h2 u u1 u3;omega
      ·exact(RP (by omega) q3 u3 u2).2
     obtain⟨a1,a2⟩:=akN (R:=rC s d pl) (by omega) q3 (fun r q p pos=>Jw d pl mid q3 r q p pos) zo (fun L l1 l2=>by
      have hsk:=akl (s:=s) (f:=Cf) h1 l1 (fun u u1 u2=>by have:=h2 u u1 u2;omega);rw[←hsk];exact hD L (by omega) (by omega))
      (fun rep dd deep hdd pos Y q l hp h=>Rp hR d pl mid (by omega) q3 rep dd deep hdd pos Y q l hp h) rep deep pos x p l1 hp g1
     obtain⟨b1,b2⟩:=ih mid _ p y q l2 q4 (by omega) h3 ((N_ q3 (fun r q p pos=>Jw d pl mid q3 r q p pos) rep zo deep pos _ _ _ g1 hp).1.ok) g2;have e1:∀V,GR (fun a V=>DT s (rC s d a) a V) (Cz s d) (m+1) pl V=(DT s (rC s d pl) pl V).bind (GR (fun a V=>DT s (rC s d a) a V) (Cz s d) m mid):=fun V=>by
      simp only[GR,hend]
     cases l1 with
     |true=>exact⟨fun h=>(by cases h),fun _ W=>by rw[e1,Bu,a2 rfl];rfl⟩
     |false=>
      refine⟨fun hl W=> ?_,fun hl W=> ?_⟩
      ·rw[e1,Bu,a1 rfl];exact b1 hl W
      ·rw[e1,Bu,a1 rfl];exact b2 hl W
   have:=key _ _ _ _ _ _ _ CB (Nat.le_refl _) (fun u u1 u2=>by omega) hp he;exact⟨fun h W=>by rw[e0];exact this.1 h W,fun h W=>by rw[e0];exact this.2 h W⟩
  ·rename_i h7
   split at he
   ·cases he
   ·rename_i v q1 h1
    simp only[Ao,Prod.mk.injEq] at he;obtain⟨rfl,rfl,rfl⟩:=he;obtain⟨x,p,e1,e2,e3,e4,e5,e6⟩:=K7 h1 hp
    have hv:=hR a c hc h7 x e1 _ (List.mem_of_getElem? e3) (by
     have:=hD a (Nat.le_refl _) hlt;rw[akk] at this;simpa using this)
    refine⟨fun _ W=> ?_,fun h=>by cases h⟩;simp only[rC,hc,List.singleton_append];rw[if_neg h7];simp only at hv;rw[hv];rfl
theorem alf{s:List ze}{T:BA}(hS:ET s)(hR:N8 s T)(pos:List Nat)(Y:List za)(q:List Nat)(l:Bool)(hp:Br T pos)(he:aC T s 6 0 0 0 0 pos=some (Y,q,l)):(F8 s Y).isSome=(!l&&decide (Y.length≤300)):=by
 obtain⟨a1,a2⟩:=Rp hR 6 0 s.length (Nat.le_refl _) hS.2.2.1 0 0 0 (fun L h1 h2=>by simp) pos Y q l hp he;unfold F8;by_cases KO:Y.length≤300
 ·rw[if_pos KO,zh KO,Bool.and_true]
  cases l with
  |false=>
   have:=a1 rfl [];rw[AO] at this;obtain⟨X,hX⟩:=T9 this 0 0 0;rw[hX];rfl
  |true=>
   have:=a2 rfl [];rw[AO] at this;rw[TZ this 0 0 0];rfl
 ·rw[if_neg KO,zk KO,Bool.and_false];rfl
end Go.Af
end
