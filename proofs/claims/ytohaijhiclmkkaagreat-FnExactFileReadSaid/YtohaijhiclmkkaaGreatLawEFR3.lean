/- plain laws of the claim's functions -/
import Derived.Test.YtohaijhiclmkkaaGreatLawEFR2
import Derived.Test.YtohaijhiclmkkaaGreatLawEFR1
import Derived.Test.YtohaijhiclmkkaaGreatLawEFR0
import Derived.Test.YtohaijhiclmkkaaGreatEFRF1
import Derived.Test.YtohaijhiclmkkaaGreatAmRow
set_option linter.unnecessarySimpa false
set_option linter.unusedSimpArgs false
set_option linter.unusedVariables false
set_option linter.unusedSectionVars false
section
namespace Go.Af
open Go.Am Go.Fn
def Bn(s:List ze)(L:Nat):Nat→Nat→List Int
 |0,_=>[]
 |n+1,t=>(if L<CJ s t then[(t:Int)] else[])++Bn s L n (t+1)
theorem UE(s:List ze)(L:Nat):∀n t,(Bn s L n t).length≤n
 |0,_=>Nat.le_refl _
 |n+1,t=>by
  have:=UE s L n (t+1);simp only[Bn,zX];split<;>simp<;>omega
theorem UF(s:List ze)(L:Nat):∀(m n t:Nat),(∀u,t≤u→u<t+m→CJ s u≤L)→Bn s L (m+n) t=Bn s L n (t+m)
 |0,n,t,_=>by simp
 |m+1,n,t,h=>by
  have h1:=h t (Nat.le_refl _) (by omega);have:=UF s L m n (t+1) (fun u h2 h3=>h u (by omega) (by omega));rw[show m+1+n=(m+n)+1 by omega];simp only[Bn];rw[this,show t+1+m=t+(m+1) by omega,if_neg (by omega),List.nil_append]
section
variable(k:Nat)(s:List ze)(hS:ET s)(hn:∀c,c∈s→c.1.size<k∧c.1.size<1000000000∧Ae c.2.2.2.1)(hk:2000000≤k)
include hS hn hk
theorem P9(t:Nat)(ht:t<s.length):t<CJ s t∧CJ s t≤s.length∧Da k s (t:Int)=some (CJ s t:Int)∧Bb k s (t:Int) 1=some (CJ s t:Int):=by
 obtain⟨nx',e1,e2⟩:=NI 6 0 s.length hS.2.2.1 t (Nat.zero_le _) ht;have e3:=Le (Nat.le_refl _) e1;rw[e3];exact⟨Cw _ _ _ e1,e2,O5 k s hS.2.1 hn (by omega) e1 (Nat.le_refl _) e2,P8 k s hS.2.1 hn (by omega) e1 (Nat.le_refl _) e2⟩
theorem Ur(L:Nat)(hL:L<s.length):EN k s (L:Int)=some ((),Bn s L (L+1) 0):=by
 have FY:=hS.2.1;have key:∀(n t f:Nat) (o:List Int),t+n=L+1→n<f→o.length≤t→EN.l3 k f s (L:Int) (t:Int) o=some ((),o++Bn s L n t):=by
  intro n
  induction n with
  |zero=>
   intro t f o h hf ho;obtain⟨f,rfl⟩:∃q,f=q+1:=⟨f-1,by omega⟩;simp only[EN.l3,zk (show ¬((t:Int)≤(L:Int)) by omega),yZ,Bn,AO]
  |succ n ih=>
   intro t f o h hf ho;obtain⟨f,rfl⟩:∃q,f=q+1:=⟨f-1,by omega⟩;obtain⟨a1,a2,a3,_⟩:=P9 k s hS hn hk t (by omega);have ht1:IntKind.wrap .i64 ((t:Int)+1)=((t+1:Nat):Int):=by rw[zg (by omega) (by omega)];omega
   simp only[EN.l3,zh (show(t:Int)≤(L:Int) by omega),yX,a3,yY,EN.c4,ht1,Bn];by_cases h1:L<CJ s t
   ·rw[zh (show(CJ s t:Int)>(L:Int) by omega),yX,Ak (by simp;omega),yX,if_pos h1,ih (t+1) f _ (by omega) (by omega) (by simp;omega)]
    simp
   ·rw[zk (show ¬(CJ s t:Int)>(L:Int) by omega),yZ,if_neg h1,ih (t+1) f _ (by omega) (by omega) (by omega)]
    simp
 have:=key (L+1) 0 k [] (by omega) (by omega) (by simp);exact this
theorem Uj(f1 f2:Int)(L:Nat)(hL:L<s.length):∀(n t f:Nat) (pre:List Int) (x y:Nat),t+n=L+1→n<f→x≤t→y≤t→pre.length≤t→
 Di.l4 k f s (x:Int) (y:Int) (pre.length:Int) (pre++Bn s L n t)=some (((x+CK s Cf L n t:Nat):Int),((y+CK s EA L n t:Nat):Int))∧
 Dl.l6 k f s (x:Int) (y:Int) ((pre++Bn s L n t).length:Int) (pre.length:Int) (pre++Bn s L n t)=some (((x+CK s Cf L n t:Nat):Int),((y+CK s EA L n t:Nat):Int)):=by
 have FY:=hS.2.1;intro n
 induction n with
 |zero=>
  intro t f pre x y h hf hx hy hp;obtain⟨f,rfl⟩:∃q,f=q+1:=⟨f-1,by omega⟩;simp only[Di.l4,Dl.l6,Bn,AO,zk (show ¬((pre.length:Int)<(pre.length:Int)) by omega),yZ,CK,Nat.add_zero];exact⟨trivial,trivial⟩
 |succ n ih=>
  intro t f pre x y h hf hx hy hp;have hc:=AA (show t<s.length by omega);generalize s[t]=c at hc;by_cases h1:L<CJ s t
  ·obtain⟨f,rfl⟩:∃q,f=q+1:=⟨f-1,by omega⟩
   have hi1:IntKind.wrap .i64 ((pre.length:Int)+1)=((pre.length+1:Nat):Int):=by rw[zg (by omega) (by omega)];omega
   have hx1:IntKind.wrap .i64 ((x:Int)+1)=((x+1:Nat):Int):=by rw[zg (by omega) (by omega)];omega
   have hy1:IntKind.wrap .i64 ((y:Int)+1)=((y+1:Nat):Int):=by rw[zg (by omega) (by omega)];omega
   simp only[Bn];rw[if_pos h1,List.singleton_append];have dT:∀g:ze→Bool,g c=true→CK s g L (n+1) t=1+CK s g L n (t+1):=fun g hg=>by simp only[CK,hc];rw[if_pos ⟨h1,hg⟩]
   have dF:∀g:ze→Bool,g c=false→CK s g L (n+1) t=CK s g L n (t+1):=fun g hg=>by simp only[CK,hc];rw[if_neg (fun q=>by rw[hg] at q;cases q.2),Nat.zero_add]
   have hg:=AX pre (Bn s L n (t+1)) (t:Int);have hlt:(pre.length:Int)<((pre++(t:Int)::Bn s L n (t+1)).length:Int):=by simp;omega
   simp only[Di.l4,Dl.l6,zh hlt,yX,hg,yY,zQ,hc,Di.c8,Dl.c10,Di.c5,Dl.c12,hi1,hx1,hy1];have ih':=fun x y hx hy=>ih (t+1) f (pre++[(t:Int)]) x y (by omega) (by omega) hx hy (by simp;omega);simp only[Bu,List.singleton_append,zX,Ap] at ih';simp only[zX];by_cases ho:c.2.2.1=0
   ·have hr:¬c.2.2.1=2:=by omega
    have i1:Cf c=false:=by simp[Cf,ho]
    have i2:EA c=false:=by simp[EA,ho]
    rw[zK ho,yZ,yZ,zw hr,yZ,yZ,dF _ i1,dF _ i2];exact ih' x y (by omega) (by omega)
   ·have i1:Cf c=true:=by simp[Cf,ho]
    by_cases hr:c.2.2.1=2
    ·have i2:EA c=true:=by simp[EA,hr]
     rw[zO ho,yX,yX,Ac hr,yX,yX,dT _ i1,dT _ i2];have:=ih' (x+1) (y+1) (by omega) (by omega);rw[show x+(1+CK s Cf L n (t+1))=x+1+CK s Cf L n (t+1) by omega,show y+(1+CK s EA L n (t+1))=y+1+CK s EA L n (t+1) by omega];exact this
    ·have i2:EA c=false:=by simp[EA,hr]
     rw[zO ho,yX,yX,zw hr,yZ,yZ,dT _ i1,dF _ i2];have:=ih' (x+1) y (by omega) (by omega);rw[show x+(1+CK s Cf L n (t+1))=x+1+CK s Cf L n (t+1) by omega];exact this
  ·have e1:Bn s L (n+1) t=Bn s L n (t+1):=by simp only[Bn];rw[if_neg h1,List.nil_append]
   have e2:∀g,CK s g L (n+1) t=CK s g L n (t+1):=fun g=>by simp only[CK,hc];rw[if_neg (fun q=>h1 q.1),Nat.zero_add]
   rw[e1,e2,e2];exact ih (t+1) f pre x y (by omega) (by omega) (by omega) (by omega) (by omega)
theorem Tf(lv:List Int)(j:Int)(L:Nat)(hj:gU lv j=some (L:Int))(hL:L<s.length):∀(N n t f:Nat) (o:List Int),n≤N→t+n=L+1→n<f→o.length≤t→
 FE.l6 k f s j (t:Int) lv o=some ((),o++Bn s L n t):=by
 have FY:=hS.2.1;intro N
 induction N with
 |zero=>
  intro n t f o hN h hf ho;obtain⟨f,rfl⟩:∃q,f=q+1:=⟨f-1,by omega⟩;have hn0:n=0:=by omega
  subst hn0;simp only[FE.l6,hj,yY,zk (show ¬((t:Int)≤(L:Int)) by omega),yZ,Bn,AO]
 |succ N ih=>
  intro n t f o hN h hf ho;obtain⟨f,rfl⟩:∃q,f=q+1:=⟨f-1,by omega⟩;cases n with
  |zero=>simp only[FE.l6,hj,yY,zk (show ¬((t:Int)≤(L:Int)) by omega),yZ,Bn,AO]
  |succ n=>
   obtain⟨a1,a2,_,a4⟩:=P9 k s hS hn hk t (by omega);have ht1:IntKind.wrap .i64 ((t:Int)+1)=((t+1:Nat):Int):=by rw[zg (by omega) (by omega)];omega
   simp only[FE.l6,hj,yY,zh (show(t:Int)≤(L:Int) by omega),yX,a4,ht1];by_cases h1:L<CJ s t
   ·rw[zh (show(CJ s t:Int)>(L:Int) by omega),yX,Ak (by simp;omega),yX,ih n (t+1) f _ (by omega) (by omega) (by omega) (by simp;omega)]
    simp only[Bn];rw[if_pos h1];simp
   ·rw[zk (show ¬(CJ s t:Int)>(L:Int) by omega),yZ]
    obtain⟨nx',e1,e2⟩:=NI 6 0 s.length hS.2.2.1 t (Nat.zero_le _) (by omega);have e3:=Le (Nat.le_refl _) e1
    have hsk:=UF s L (CJ s t-t) (n+1-(CJ s t-t)) t (fun u u1 u2=>by
     have:=(RP (Nat.le_refl _) e1 u1 (by omega)).2;omega)
    rw[show CJ s t-t+(n+1-(CJ s t-t))=n+1 by omega,show t+(CJ s t-t)=CJ s t by omega] at hsk;rw[hsk];exact ih _ _ f o (by omega) (by omega) (by omega) (by omega)
theorem aj3(hok:Eb k s=some true)(hok2:Ex k s=some true)(j:Int):
 (∃L c,gU (Ba 0 s) j=some ((L:Nat):Int)∧0≤j∧j<((Ba 0 s).length:Int)∧1≤L∧s[L]?=some c∧c.2.1≠7∧j=(zy s L:Int)∧
  Dl k s j=some ((Cu s Cf 1 L:Int),(Cu s EA 1 L:Int))∧Di k s (L:Int)=some ((Cu s Cf 1 L:Int),(Cu s EA 1 L:Int)))∨
 (¬(0≤j∧j<((Ba 0 s).length:Int))∧Dl k s j=some (-1,-1)):=by
 obtain⟨v1,v2⟩:=Jh k (by omega) s (by have:=hS.2.1;omega);have FY:=hS.2.1;have hll:=Kh 0 s;obtain⟨c0,hc0,h70,_⟩:=alq hS;have wN:c0.2.2.1=0:=by
  obtain⟨_,_,_,c,e1,_,e2,_⟩:=hS;rw[hc0] at e1;cases e1;exact e2
 unfold Dl FE LM;rw[hok2];simp only[yY,yX,yZ,zq,v1,v2,Bh,Bp];generalize hlv:Ba 0 s=lv at hll;rw[zg (show -9223372036854775808≤(lv.length:Int)-1 by omega) (by omega)];by_cases hin:0≤j∧j<(lv.length:Int)
 ·left
  have hw:(decide (0≤j)&&decide (j≤(lv.length:Int)-1))=true:=by simp;omega
  obtain⟨n,rfl⟩:=Int.eq_ofNat_of_zero_le hin.1;have hnl:n<lv.length:=by omega
  obtain⟨L,e1,e2,e3,c,e4,e5⟩:=Mc s [] s rfl n _ (by rw[show([]:List ze).length=0 from rfl,hlv];exact AA hnl);have hg:gU lv (n:Int)=some (L:Int):=by rw[zQ,AA hnl,e1]
  have e3:zy s L=0+n:=e3;have hL:L<s.length:=(List.getElem?_eq_some_iff.1 e4).1;have hL1:1≤L:=by
   rcases Nat.eq_zero_or_pos L with h|h
   ·subst h
    rw[hc0] at e4;cases e4;exact absurd h70 e5
   ·exact h
  have SF:L<CJ s 0:=by rw[Le (Nat.le_refl _) hS.2.2.1];exact hL
  have hz:∀g:ze→Bool,g c0=false→CK s g L (L+1) 0=Cu s g 1 L:=fun g hg=>by
   simp only[CK,hc0];rw[if_neg (fun q=>by rw[hg] at q;cases q.2),Nat.zero_add];unfold Cu;rw[show L+1-1=L by omega]
  have z1:=hz Cf (by simp[Cf,wN]);have z2:=hz EA (by simp[EA,wN]);have hmx:Di k s (L:Int)=some ((Cu s Cf 1 L:Int),(Cu s EA 1 L:Int)):=by
   have h1:=(Uj k s hS hn hk 0 0 L hL (L+1) 0 k [] 0 0 (by omega) (by omega) (by omega) (by omega) (by simp)).1;rw[z1,z2,Nat.zero_add,Nat.zero_add] at h1;unfold Di;rw[Ur k s hS hn hk L hL];exact h1
  refine⟨L,c,hg,hin.1,hin.2,hL1,e4,e5,by omega,?_,hmx⟩
  ·rw[hw]
   simp only[zq,yZ];have h1:=Tf k s hS hn hk lv (n:Int) L hg hL L L 1 k [] (Nat.le_refl _) (by omega) (by omega) (by simp);have h1:FE.l6 k k s (n:Int) 1 lv []=some ((),Bn s L L 1):=h1;rw[h1];simp only[yY];have h2:=(Uj k s hS hn hk 0 0 L hL L 1 k [] 0 0 (by omega) (by omega) (by omega) (by omega) (by simp)).2;have hne:((Bn s L L 1).length:Int)≠0:=by
    have:∀n t,t+n=L+1→0<n→0<(Bn s L n t).length:=by
     intro n
     induction n with
     |zero=>intro t _ h;omega
     |succ n ih=>
      intro t h _;simp only[Bn,zX];rcases Nat.eq_zero_or_pos n with h0|h0
      ·subst h0
       have:t=L:=by omega
       subst this;rw[if_pos (P9 k s hS hn hk t hL).1,Ap];omega
      ·have:=ih (t+1) (by omega) h0;omega
    have:=this L 1 (by omega) (by omega);omega
   rw[zw hne,yZ];have h2:Dl.l6 k k s 0 0 ((Bn s L L 1).length:Int) 0 (Bn s L L 1)=some (((0+CK s Cf L L 1:Nat):Int),((0+CK s EA L L 1:Nat):Int)):=h2;rw[h2,Nat.zero_add,Nat.zero_add];unfold Cu;rw[show L+1-1=L by omega]
 ·right
  have hw:(decide (0≤j)&&decide (j≤(lv.length:Int)-1))=false:=by
   rw[Bool.eq_false_iff];intro h;simp only[Aa,Al] at h;omega
  rw[hw];exact⟨hin,rfl⟩
end
section
variable(k:Nat)(s:List ze)(hn:∀c,c∈s→c.1.size<k∧c.1.size<1000000000∧Ae c.2.2.2.1)(hk:2000000≤k)
variable(hS:ET s)(hok:Eb k s=some true)(hok2:Ex k s=some true)
include hn hk hS hok hok2
theorem O6(j:Int):∃l b,Kq k s j=some (l,b)∧LJ k s j=some (l,b)∧
 (b=true→∃L c,gU (Ba 0 s) j=some ((L:Nat):Int)∧s[L]?=some c∧c.2.1≠7∧j=(zy s L:Int)∧l=(c.2.1,(Cu s EA 1 L:Int),(Cu s Cf 1 L:Int),())):=by
 obtain⟨v1,v2⟩:=Jh k (by omega) s (by have:=hS.2.1;omega);have hll:=Kh 0 s;have FY:=hS.2.1;have hlm:=aj3 k s hS hn hk hok hok2 j;unfold Kq LJ JO LM;rw[hok,hok2];simp only[yY,zq,yZ,v1,v2,Bh,Bp];generalize hlv:Ba 0 s=lv at hll hlm;rw[zg (show -9223372036854775808≤(lv.length:Int)-1 by omega) (by omega)];rcases hlm with⟨L,c,hg,h0,h1,_,hc,h7,hj,m2,m3⟩|⟨hin,_⟩
 ·have hw:(decide (0≤j)&&decide (j≤(lv.length:Int)-1))=true:=by simp;omega
  rw[hw];simp only[zq,yZ,hg,yY,m2,m3,zQ,hc];exact⟨_,_,rfl,rfl,fun _=>⟨L,c,rfl,hc,h7,hj,rfl⟩⟩
 ·have hw:(decide (0≤j)&&decide (j≤(lv.length:Int)-1))=false:=by
   rw[Bool.eq_false_iff];intro h;simp only[Aa,Al] at h;omega
  rw[hw];exact⟨_,_,rfl,rfl,fun h=>by cases h⟩
end
section
variable(k:Nat)(s:List ze)(hs:s.length≤20)(hk:2000000≤k)
include hs hk
theorem aj4:∃nums,GK k s=some ((),nums)∧∀(a:Nat) (c:ze),s[a]?=some c→c.2.1≠7→gU nums (a:Int)=some (zy s a:Int):=by
 obtain⟨v1,_⟩:=Jh k (by omega) s (by omega);have hll:=Kh 0 s;generalize hlv:Ba 0 s=lv at v1 hll
 have key:∀(m i f:Nat) (nums:List Int),lv.length=i+m→m<f→nums.length=s.length→(∀(j:Nat) (a:Nat),j<i→lv[j]?=some (a:Int)→nums[a]?=some (j:Int))→
  ∃Pf,GK.l3 k f (lv.length:Int) (i:Int) nums lv=some ((),Pf)∧(∀(j:Nat) (a:Nat),j<lv.length→lv[j]?=some (a:Int)→Pf[a]?=some (j:Int)):=by
  intro m
  induction m with
  |zero=>
   intro i f nums h hf hl hh;obtain⟨f,rfl⟩:∃q,f=q+1:=⟨f-1,by omega⟩;simp only[GK.l3,zk (show ¬((i:Int)<(lv.length:Int)) by omega),yZ];exact⟨_,rfl,fun j a hj=>hh j a (by omega)⟩
  |succ m ih=>
   intro i f nums h hf hl hh;obtain⟨f,rfl⟩:∃q,f=q+1:=⟨f-1,by omega⟩;have hi:i<lv.length:=by omega
   have hg:=AA hi;obtain⟨a,e1,_,e3,c,e4,e5⟩:=Mc s [] s rfl i _ (by rw[←hg,←hlv];rfl);have ha:a<nums.length:=by rw[hl];exact(List.getElem?_eq_some_iff.1 e4).1
   have h1:IntKind.wrap .i64 ((i:Int)+1)=((i+1:Nat):Int):=by rw[zg (by omega) (by omega)];omega
   simp only[GK.l3,zh (show(i:Int)<(lv.length:Int) by omega),yX,zQ,hg,yY,e1,AA ha,Int.toNat_natCast,h1];refine ih (i+1) f _ (by omega) (by omega) (by simpa using hl) ?_;intro j b hj hb;rw[List.getElem?_set];by_cases hab:a=b
   ·subst hab
    have hji:j=i:=by
     obtain⟨b',f1,_,f3,d,f4,f5⟩:=Mc s [] s rfl j _ (by rw[←hb,←hlv];rfl);have:b'=a:=by omega
     subst this;have e3:zy s b'=0+i:=e3;have f3:zy s b'=0+j:=f3;omega
    rw[if_pos rfl,if_pos ha,hji]
   ·rw[if_neg hab]
    rcases Nat.lt_or_ge j i with q|q
    ·exact hh j b q hb
    ·have hji:j=i:=by omega
     subst hji;rw[hg] at hb;simp only[Ao] at hb;omega
 have hok:oV (s.length:Int)=true:=JH (by omega) (by omega);obtain⟨Pf,q1,q2⟩:=key lv.length 0 k (List.replicate (Int.toNat (s.length:Int)) 0) (by omega) (by omega) (by simp) (fun j a hj=>by omega);unfold GK;rw[hok,yX,v1];simp only[yY];refine⟨Pf,q1,fun a c hc h7=> ?_⟩;have hat:=aj5 hc h7;rw[hlv] at hat;rw[zQ];exact q2 _ a (List.getElem?_eq_some_iff.1 hat).1 hat
end
def Fj(l:zI)(t:zM):Bool:=
 (decide (0≤t.1)&&decide (t.1≤l.2.1))&&((decide (0≤t.2.1)&&decide (t.2.1≤l.2.2.1))&&(if t.2.1=l.2.2.1 then Co l.1 t.2.2.1 else(t.2.2.1.1==0)&&iY t.2.2.1.2.1 ⟨#[]⟩))
theorem al8(k:Nat)(l:zI)(t:zM):Px k l t=some (Fj l t):=by
 unfold Px Fj;simp only[Bh,yY,K6];cases hr:(decide (0≤t.1)&&decide (t.1≤l.2.1)) with
 |false=>rfl
 |true=>
  cases hd:(decide (0≤t.2.1)&&decide (t.2.1≤l.2.2.1)) with
  |false=>rfl
  |true=>
   simp only[Aa,Al] at hd;simp only[zq,yZ,yY,Bj];by_cases h:t.2.1=l.2.2.1
   ·rw[zk (by omega),yZ,if_pos h]
   ·rw[zh (by omega),yX,if_neg h,Bool.and_true]
theorem ajT(k:Nat)(l:zI)(t:zM):O3 k l t=some (Fj l t):=by
 unfold O3 Fj;simp only[Bp,yY,NM];cases hr:(decide (0≤t.1)&&decide (t.1≤l.2.1)) with
 |false=>rfl
 |true=>
  cases hd:(decide (0≤t.2.1)&&decide (t.2.1≤l.2.2.1)) with
  |false=>rfl
  |true=>
   simp only[zq,yZ,yY,Bj];by_cases h:t.2.1=l.2.2.1
   ·rw[Ac h,yX,if_pos h]
   ·rw[zw h,yZ,if_neg h,Bool.and_true]
def Bv(x:List zM):Nat:=(x.filter fun t=>t.1==0).length
theorem Uc(t:zM)(x:List zM):Bv (t::x)=(if t.1=0 then 1 else 0)+Bv x:=by
 unfold Bv;rw[List.filter_cons];by_cases h:t.1=0
 ·rw[Ac h,if_pos h];simp;omega
 ·rw[zw h,if_neg h];simp
theorem QK(k:Nat)(x:List zM)(hx:x.length≤1048576)(hk:2000000≤k):EL k x=some (Bv x:Int)∧Ei k x=some (Bv x:Int):=by
 have key:∀(post pre:List zM) (f n:Nat),x=pre++post→post.length<f→n≤pre.length→EL.l3 k f x (n:Int) (pre.length:Int)=some ((n+Bv post:Nat):Int)∧Ei.l3 k f (n:Int) x (x.length:Int) (pre.length:Int)=some ((n+Bv post:Nat):Int):=by
  intro post
  induction post with
  |nil=>
   intro pre f n h hf hn;obtain⟨f,rfl⟩:∃q,f=q+1:=⟨f-1,by omega⟩;rw[AO] at h;subst h;simp only[EL.l3,Ei.l3,zk (show ¬((x.length:Int)<(x.length:Int)) by omega),yZ];exact⟨rfl,rfl⟩
  |cons t post ih=>
   intro pre f n h hf hn;simp only[Ah] at hf;obtain⟨f,rfl⟩:∃q,f=q+1:=⟨f-1,by omega⟩;have hlen:x.length=pre.length+(post.length+1):=by rw[h];simp
   have hg:gU x (pre.length:Int)=some t:=by rw[h];exact AX _ _ _
   have hi1:IntKind.wrap .i64 ((pre.length:Int)+1)=((pre.length+1:Nat):Int):=by rw[zg (by omega) (by omega)];omega
   have hn1:IntKind.wrap .i64 ((n:Int)+1)=((n+1:Nat):Int):=by rw[zg (by omega) (by omega)];omega
   have hi:=fun(n:Nat) (hnn:n≤pre.length+1)=>ih (pre++[t]) f n (by rw[h];simp) (by omega) (by rw[zX,Ap];exact hnn);rw[zX,Ap] at hi;simp only[EL.l3,Ei.l3,zh (show(pre.length:Int)<(x.length:Int) by omega),yX,hg,yY,EL.c4,Ei.c7,hi1,hn1];rw[Uc];by_cases h0:t.1=0
   ·rw[Ac h0,yX,yX,if_pos h0,show n+(1+Bv post)=n+1+Bv post by omega]
    exact hi (n+1) (by omega)
   ·rw[zw h0,yZ,yZ,if_neg h0,Nat.zero_add]
    exact hi n (by omega)
 have:=key x [] k 0 rfl (by omega) (by simp);rw[Nat.zero_add] at this;exact this
section
variable(k:Nat)(s:List ze)(hn:∀c,c∈s→c.1.size<k∧c.1.size<1000000000∧Ae c.2.2.2.1)(hk:2000000≤k)
variable(hS:ET s)(hok:Eb k s=some true)(hok2:Ex k s=some true)
include hn hk hS hok hok2
def Lf(s:List ze)(j:Nat)(x:List zM):Prop:=x.length≤2000∧(∀t r,x=t::r→t.1=0)∧∀(L:Nat) (c:ze),s[L]?=some c→c.2.1≠7→zy s L=j→∀t,t∈x→Fj (c.2.1,(Cu s EA 1 L:Int),(Cu s Cf 1 L:Int),()) t=true
theorem ami(j:Nat)(x:List zM)(hx:x.length≤1048576):∃b,H_ k s (j:Int) x=some b∧OV k s (j:Int) x=some b∧(b=true→Lf s j x)∧(b=false→j<zy s s.length→¬Lf s j x):=by
 obtain⟨l,b,e1,e2,e3⟩:=O6 k s hn hk hS hok hok2 (j:Int);have sl:∀(post pre:List zM) (f:Nat),x=pre++post→post.length<f→H_.l5 k f x (pre.length:Int) l=some (post.all (Fj l)):=by
  intro post
  induction post with
  |nil=>
   intro pre f h hf;obtain⟨f,rfl⟩:∃q,f=q+1:=⟨f-1,by omega⟩;rw[AO] at h;subst h;simp only[H_.l5,zk (show ¬((x.length:Int)<(x.length:Int)) by omega),yZ];rfl
  |cons t post ih=>
   intro pre f h hf;simp only[Ah] at hf;obtain⟨f,rfl⟩:∃q,f=q+1:=⟨f-1,by omega⟩;have hlen:x.length=pre.length+(post.length+1):=by rw[h];simp
   have hg:gU x (pre.length:Int)=some t:=by rw[h];exact AX _ _ _
   have hi1:IntKind.wrap .i64 ((pre.length:Int)+1)=((pre.length+1:Nat):Int):=by rw[zg (by omega) (by omega)];omega
   have hi:=ih (pre++[t]) f (by rw[h];simp) (by omega);rw[zX,Ap] at hi;simp only[H_.l5,zh (show(pre.length:Int)<(x.length:Int) by omega),yX,hg,yY,al8,hi1,hi,List.all_cons];cases Fj l t<;>rfl
 have il:∀(post pre:List zM) (f:Nat),x=pre++post→post.length<f→IC.l2 k f x x (x.length:Int) (pre.length:Int) l=some (post.all (Fj l)&&decide (x.length≤2000)):=by
  intro post
  induction post with
  |nil=>
   intro pre f h hf;obtain⟨f,rfl⟩:∃q,f=q+1:=⟨f-1,by omega⟩;rw[AO] at h;subst h;simp only[IC.l2,zk (show ¬((x.length:Int)<(x.length:Int)) by omega),yZ,List.all_nil,Bj]
   congr 1
   by_cases h:x.length≤2000
   ·rw[zh h,zh (by omega)]
   ·rw[zk h,zk (by omega)]
  |cons t post ih=>
   intro pre f h hf;simp only[Ah] at hf;obtain⟨f,rfl⟩:∃q,f=q+1:=⟨f-1,by omega⟩;have hlen:x.length=pre.length+(post.length+1):=by rw[h];simp
   have hg:gU x (pre.length:Int)=some t:=by rw[h];exact AX _ _ _
   have hi1:IntKind.wrap .i64 ((pre.length:Int)+1)=((pre.length+1:Nat):Int):=by rw[zg (by omega) (by omega)];omega
   have hi:=ih (pre++[t]) f (by rw[h];simp) (by omega);rw[zX,Ap] at hi;simp only[IC.l2,zh (show(pre.length:Int)<(x.length:Int) by omega),yX,hg,yY,ajT,hi1,hi,List.all_cons];cases Fj l t<;>rfl
 have sl0:H_.l5 k k x 0 l=some (x.all (Fj l)):=sl x [] k rfl (by omega);have il0:IC.l2 k k x x (x.length:Int) 0 l=some (x.all (Fj l)&&decide (x.length≤2000)):=il x [] k rfl (by omega);have ajk:(cond (decide ((x.length:Int)>0)) ((gU x 0).bind fun y5=>some (y5.1 !=0)) (some false))=some (match x with|[]=>false|t::_=>t.1 !=0):=by
  cases x with
  |nil=>rfl
  |cons t r=>
   rw[zh (by simp only[Ah];omega)];rfl
 have ajl:(cond ((x.length:Int)==0) (some true) ((gU x 0).bind fun y5=>some (y5.1==0)))=some (match x with|[]=>true|t::_=>t.1==0):=by
  cases x with
  |nil=>rfl
  |cons t r=>
   rw[zw (by simp only[Ah];omega)];rfl
 unfold H_ OV IC;simp only[e1,e2,yY,il0,sl0,ajk,ajl];have hall:b=true→((x.all (Fj l)=true)↔∀(L:Nat) (c:ze),s[L]?=some c→c.2.1≠7→zy s L=j→∀t,t∈x→Fj (c.2.1,(Cu s EA 1 L:Int),(Cu s Cf 1 L:Int),()) t=true):=by
  intro hb;obtain⟨L,c,q1,q2,q3,q4,q5⟩:=e3 hb;rw[q5,List.all_eq_true];constructor
  ·intro h L' c' h1 h2 h3 t ht
   have:L'=L:=Tw h1 q2 h2 q3 (by omega);subst this;rw[q2] at h1;cases h1;exact h t ht
  ·intro h t ht
   exact h L c q2 q3 (by omega) t ht
 have hb0:b=false→¬j<zy s s.length:=by
  intro hb hj;have hl:=O7 s [] s rfl;have hl':(Ba 0 s).length=zy s s.length:=hl;obtain⟨v1,v2⟩:=Jh k (by omega) s (by have:=hS.2.1;omega);unfold Kq JO at e1;rw[hok] at e1;have hll:=Kh 0 s;have FY:=hS.2.1;simp only[yY,zq,yZ,v2,Bh] at e1;rw[zg (show -9223372036854775808≤((Ba 0 s).length:Int)-1 by omega) (by omega),show(decide ((0:Int)≤(j:Int))&&decide ((j:Int)≤((Ba 0 s).length:Int)-1))=true by simp;omega] at e1;simp only[zq,yZ] at e1;cases h1:gU (Ba 0 s) (j:Int) with
  |none=>rw[h1] at e1;cases e1
  |some y=>
   rw[h1] at e1;simp only[yY] at e1;cases h2:Di k s y with
   |none=>rw[h2] at e1;cases e1
   |some z=>
    rw[h2] at e1;simp only[yY] at e1;cases h3:gU s y with
    |none=>rw[h3] at e1;cases e1
    |some w=>
     rw[h3] at e1;simp only[yY,Ao,Prod.mk.injEq] at e1;rw[hb] at e1;cases e1.2
 cases b with
 |false=>exact⟨false,rfl,rfl,fun h=>(by cases h),fun _ h=>absurd h (hb0 rfl)⟩
 |true=>
  have hall:=hall rfl;simp only[zq,yZ,yX,yY];by_cases M5:x.length≤2000
  ·rw[zk (show ¬((x.length:Int)>2000) by omega),zh M5,Bool.and_true]
   simp only[yZ,yY];cases x with
   |nil=>
    simp only[yZ,List.all_nil,yX,yY];exact⟨true,rfl,rfl,fun _=>⟨M5,fun t r h=>(by cases h),hall.1 rfl⟩,fun h=>by cases h⟩
   |cons t r=>
    simp only;by_cases h0:t.1=0
    ·rw[zK h0,Ac h0]
     simp only[yZ];refine⟨(t::r).all (Fj l),rfl,?_,fun hb=>⟨M5,fun t' r' h=>(by cases h;exact h0),hall.1 hb⟩,fun hb _ hc=> ?_⟩
     ·cases(t::r).all (Fj l)<;>rfl
     ·rw[hall.2 hc.2.2] at hb;cases hb
    ·rw[zO h0,zw h0]
     simp only[yX];refine⟨false,rfl,?_,fun hb=>(by cases hb),fun _ _ hc=>h0 (hc.2.1 t r rfl)⟩;cases(t::r).all (Fj l)<;>rfl
  ·rw[zh (show((x.length:Int)>2000) by omega),zk M5,Bool.and_false]
   exact⟨false,rfl,rfl,fun h=>(by cases h),fun _ _ hc=>absurd hc.1 M5⟩
end
abbrev zV:za:=(0,zn,())
def Cm:List (Int×Int)→List zM
 |[]=>[]
 |p::P=>(p.1,p.2,zV,())::Cm P
def fill(d:Int):List (Int×Int)→List za→List zM
 |[],_=>[]
 |p::P,V=>if p.2=d then(match V with
  |[]=>[]
  |v::V'=>(p.1,p.2,v,())::fill d P V') else(p.1,p.2,zV,())::fill d P V
def full(d:Int):List (Int×Int)→Nat
 |[]=>0
 |p::P=>(if p.2=d then 1 else 0)+full d P
def Sm:List (Int×Int)→Bool
 |[]=>false
 |p::_=>p.1 !=0
theorem PE:∀P,(Cm P).length=P.length
 |[]=>rfl
 |p::P=>by simp[Cm,PE P]
theorem Qg(d:Int):∀P,full d P≤P.length
 |[]=>Nat.le_refl _
 |p::P=>by
  have:=Qg d P;simp only[full,Ah];split<;>omega
theorem Qf(d:Int):∀P V,V.length=full d P→(fill d P V).length=P.length
 |[],_,_=>rfl
 |p::P,V,h=>by
  simp only[full] at h;simp only[fill];by_cases hp:p.2=d
  ·rw[if_pos hp] at h⊢
   cases V with
   |nil=>simp at h;omega
   |cons v V=>simp only[Ah] at h⊢;rw[Qf d P V (by omega)]
  ·rw[if_neg hp] at h⊢
   rw[Ah,Ah,Qf d P V (by omega)]
theorem am5{R D:List Int}(h:R.length=D.length):∃P:List (Int×Int),R=P.map (·.1)∧D=P.map (·.2)∧P.length=R.length:=by
 refine⟨R.zip D,?_,?_,by simp[h]⟩
 ·rw[List.map_fst_zip (by omega)]
 ·rw[List.map_snd_zip (by omega)]
section
variable(k:Nat)(hk:2000000≤k)(lf:zI)
include hk
theorem amh(P:List (Int×Int))(hP:P.length≤2000):EH k lf (P.map (·.1)) (P.map (·.2))=some (((),((P.length-full lf.2.2.1 P:Nat):Int)),Cm P):=by
 have key:∀(post pre:List (Int×Int)) (n m:Nat),P=pre++post→post.length<n→m≤pre.length→
  EH.l4 k n (P.map (·.2)) (m:Int) (P.map (·.1)) (P.length:Int) (pre.length:Int) lf (Cm pre)=some (((),((m+(post.length-full lf.2.2.1 post):Nat):Int)),Cm P):=by
  intro post
  induction post with
  |nil=>
   intro pre n m h hn hm;obtain⟨n,rfl⟩:∃q,n=q+1:=⟨n-1,by omega⟩;rw[AO] at h;subst h;simp only[EH.l4,zk (show ¬((P.length:Int)<(P.length:Int)) by omega),yZ,List.length_nil,full,Nat.sub_zero,Nat.add_zero]
  |cons p post ih=>
   intro pre n m h hn hm;simp only[Ah] at hn;obtain⟨n,rfl⟩:∃q,n=q+1:=⟨n-1,by omega⟩;have hlen:P.length=pre.length+(post.length+1):=by rw[h];simp
   have hg1:gU (P.map (·.1)) (pre.length:Int)=some p.1:=by rw[zQ,List.getElem?_map,h];simp
   have hg2:gU (P.map (·.2)) (pre.length:Int)=some p.2:=by rw[zQ,List.getElem?_map,h];simp
   have hi1:IntKind.wrap .i64 ((pre.length:Int)+1)=((pre.length+1:Nat):Int):=by rw[zg (by omega) (by omega)];omega
   have hm1:IntKind.wrap .i64 ((m:Int)+1)=((m+1:Nat):Int):=by rw[zg (by omega) (by omega)];omega
   have ajw:Cm pre++[(p.1,p.2,(0,zn,()),())]=Cm (pre++[p]):=by
    have:∀(a:List (Int×Int)),Cm a++[(p.1,p.2,zV,())]=Cm (a++[p]):=by
     intro a
     induction a with
     |nil=>rfl
     |cons q a ih=>simp only[Cm,List.cons_append,ih]
    exact this pre
   have hfl:=Qg lf.2.2.1 post;have hi:=fun m hm=>ih (pre++[p]) n m (by rw[h];simp) (by omega) hm;rw[zX,Ap] at hi;simp only[EH.l4,zh (show(pre.length:Int)<(P.length:Int) by omega),yX,hg1,hg2,yY,EH.c9,hi1,hm1,ajw];rw[Ak (by rw[PE];simp;omega),yX];simp only[full,Ah];by_cases hp:p.2=lf.2.2.1
   ·rw[zK hp,yZ,if_pos hp,hi m (by omega)]
    congr 4
    omega
   ·rw[zO hp,yX,if_neg hp,hi (m+1) (by omega)]
    congr 4
    omega
 have:=key P [] k 0 rfl (by omega) (by simp);unfold EH;rw[List.length_map];rw[Nat.zero_add] at this;exact this
theorem VD(Bd:List za)(body:List Int)(from_:Int)(h:zP)(P:List (Int×Int))(hP:P.length≤2000)(hm:h.2.2.1=(P.length:Int))(none:List zM):
 ∀(post pre:List (Int×Int)) (n a b:Nat),P=pre++post→post.length<n→a≤pre.length→b≤pre.length→
  Bc.BX k n Bd body from_ (a:Int) (b:Int) (pre.length:Int) lf none h (P.map (·.1)) (P.map (·.2))=
   ((cond (h.1==3)
    ((cond (((a+Bv (Cm post):Nat):Int) !=h.2.2.2.2.1) (some true) (some ((IntKind.wrap .i64 (h.2.2.1-((b+full lf.2.2.1 post:Nat):Int))) !=h.2.2.2.2.2.1))).bind fun b6=>some (b6))
    (some false)).bind fun b7=>
   cond b7
    (some (((),0,4),none))
    (cond (jg from_ ((List.length body):Int) (List.length body)) (
     (NA k h.2.2.2.1 lf.1 (kV body from_ ((List.length body):Int)) ((b+full lf.2.2.1 post:Nat):Int) Bd).bind fun r8=>
     cond (!r8.1.2) (some (((),0,5),none)) (Bc.Df k k 0 0 lf h (P.map (·.1)) (P.map (·.2)) r8.2 [])) Option.none)):=by
 intro post
 induction post with
 |nil=>
  intro pre n a b he hn ha hb;obtain⟨n,rfl⟩:∃q,n=q+1:=⟨n-1,by omega⟩;rw[AO] at he;subst he;simp only[Bc.BX,hm,zk (show ¬((P.length:Int)<(P.length:Int)) by omega),yZ,Cm,Bv,List.filter_nil,List.length_nil,Nat.add_zero,full]
 |cons p post ih=>
  intro pre n a b he hn ha hb;simp only[Ah] at hn;obtain⟨n,rfl⟩:∃q,n=q+1:=⟨n-1,by omega⟩;have hlen:P.length=pre.length+(post.length+1):=by rw[he];simp
  have hg1:gU (P.map (·.1)) (pre.length:Int)=some p.1:=by rw[zQ,List.getElem?_map,he];simp
  have hg2:gU (P.map (·.2)) (pre.length:Int)=some p.2:=by rw[zQ,List.getElem?_map,he];simp
  have hi1:IntKind.wrap .i64 ((pre.length:Int)+1)=((pre.length+1:Nat):Int):=by rw[zg (by omega) (by omega)];omega
  have ha1:IntKind.wrap .i64 ((a:Int)+1)=((a+1:Nat):Int):=by rw[zg (by omega) (by omega)];omega
  have hb1:IntKind.wrap .i64 ((b:Int)+1)=((b+1:Nat):Int):=by rw[zg (by omega) (by omega)];omega
  have hi:=fun a b ha hb=>ih (pre++[p]) n a b (by rw[he];simp) (by omega) ha hb;rw[zX,Ap] at hi;have er:∀x:Nat,x+Bv (Cm (p::post))=(x+(if p.1=0 then 1 else 0))+Bv (Cm post):=fun x=>by
   simp only[Cm];rw[Uc];show x+((if p.1=0 then 1 else 0)+Bv (Cm post))=_;omega
  have ef:∀x:Nat,x+full lf.2.2.1 (p::post)=(x+(if p.2=lf.2.2.1 then 1 else 0))+full lf.2.2.1 post:=fun x=>by
   simp only[full];omega
  rw[er a,ef b];unfold Bc.BX;rw[hm,zh (show(pre.length:Int)<(P.length:Int) by omega),yX,hg1];simp only[yY,Bc.c19,Bc.c16,hg2,hi1,ha1,hb1];rw[←hm];by_cases h0:p.1=0
  ·rw[Ac h0,yX,if_pos h0]
   by_cases hp:p.2=lf.2.2.1
   ·rw[Ac hp,yX,if_pos hp];exact hi (a+1) (b+1) (by omega) (by omega)
   ·rw[zw hp,yZ,if_neg hp];exact hi (a+1) b (by omega) (by omega)
  ·rw[zw h0,yZ,if_neg h0]
   by_cases hp:p.2=lf.2.2.1
   ·rw[Ac hp,yX,if_pos hp];exact hi a (b+1) (by omega) (by omega)
   ·rw[zw hp,yZ,if_neg hp];exact hi a b (by omega) (by omega)
theorem ajF(h:zP)(P:List (Int×Int))(hP:P.length≤2000):∀(post pre:List (Int×Int)) (n:Nat) (done:List zM) (V:List za),P=pre++post→post.length<n→done.length=pre.length→V.length=full lf.2.2.1 post→
 Dm.De k n V (P.length:Int) (pre.length:Int) lf h (done++Cm post)=some (((),IntKind.wrap .i64 (h.2.2.2.2.2.2.2.2.2.2.2.2.1+h.2.1),0),done++fill lf.2.2.1 post V):=by
 intro post
 induction post with
 |nil=>
  intro pre n done V he hn hd hV;obtain⟨n,rfl⟩:∃q,n=q+1:=⟨n-1,by omega⟩;rw[AO] at he;subst he;simp only[Dm.De,zk (show ¬((P.length:Int)<(P.length:Int)) by omega),yZ,Cm,fill]
 |cons p post ih=>
  intro pre n done V he hn hd hV;simp only[Ah] at hn;obtain⟨n,rfl⟩:∃q,n=q+1:=⟨n-1,by omega⟩;have hlen:P.length=pre.length+(post.length+1):=by rw[he];simp
  have hi1:IntKind.wrap .i64 ((pre.length:Int)+1)=((pre.length+1:Nat):Int):=by rw[zg (by omega) (by omega)];omega
  have hg:gU (done++Cm (p::post)) (pre.length:Int)=some (p.1,p.2,zV,()):=by
   rw[←hd];exact AX _ _ _
  have hi:=fun d V hV=>ih (pre++[p]) n (done++[d]) V (by rw[he];simp) (by omega) (by simp[hd]) hV;rw[zX,Ap] at hi;simp only[full] at hV;simp only[Dm.De,zh (show(pre.length:Int)<(P.length:Int) by omega),yX,hg,yY,Dm.c21,hi1,fill];by_cases hp:p.2=lf.2.2.1
  ·rw[if_pos hp] at hV⊢
   rw[Ac hp,yX];cases V with
   |nil=>simp at hV;omega
   |cons v V=>
    simp only[Ah] at hV;rw[show gU (v::V) 0=some v from rfl];simp only[yY];rw[EI (by omega) (by simp;omega) (Int.le_refl _),yX];have hcut:kV (v::V) 1 ((v::V).length:Int)=V:=by
     unfold kV;rw[Int.toNat_natCast,List.take_length];rfl
    have hset:List.set (done++Cm (p::post)) (Int.toNat (pre.length:Int)) (p.1,p.2,v,())=(done++[(p.1,p.2,v,())])++Cm post:=by
     rw[←hd];have:=IV done (Cm post) (p.1,p.2,zV,()) ((p.1,p.2,v,()):zM);rw[show done++Cm (p::post)=done++(p.1,p.2,zV,())::Cm post from rfl,this];simp
    rw[hcut,hset,hi (p.1,p.2,v,()) V (by omega)];simp
  ·rw[if_neg hp] at hV⊢
   rw[zw hp,yZ];have hsame:done++Cm (p::post)=(done++[(p.1,p.2,zV,())])++Cm post:=by simp[Cm]
   rw[hsame,hi (p.1,p.2,zV,()) V (by omega)];simp
theorem alz(h:zP)(P:List (Int×Int))(hP:P.length≤2000)(hm:h.2.2.1=(P.length:Int))(V:List za)(hVl:V.length≤2000):∀(post pre:List (Int×Int)) (n q:Nat) (done:List zM),P=pre++post→post.length<n→done.length=pre.length→q+full lf.2.2.1 post=V.length→
 Bc.Df k n (q:Int) (pre.length:Int) lf h (P.map (·.1)) (P.map (·.2)) V done=some (((),IntKind.wrap .i64 (h.2.2.2.2.2.2.2.2.2.2.2.2.1+h.2.1),0),done++fill lf.2.2.1 post (V.drop q)):=by
 intro post
 induction post with
 |nil=>
  intro pre n q done he hn hd hV;obtain⟨n,rfl⟩:∃q,n=q+1:=⟨n-1,by omega⟩;rw[AO] at he;subst he;simp only[Bc.Df,hm,zk (show ¬((P.length:Int)<(P.length:Int)) by omega),yZ,fill,AO]
 |cons p post ih=>
  intro pre n q done he hn hd hV;simp only[Ah] at hn;obtain⟨n,rfl⟩:∃q,n=q+1:=⟨n-1,by omega⟩;have hlen:P.length=pre.length+(post.length+1):=by rw[he];simp
  have hg1:gU (P.map (·.1)) (pre.length:Int)=some p.1:=by rw[zQ,List.getElem?_map,he];simp
  have hg2:gU (P.map (·.2)) (pre.length:Int)=some p.2:=by rw[zQ,List.getElem?_map,he];simp
  have hi1:IntKind.wrap .i64 ((pre.length:Int)+1)=((pre.length+1:Nat):Int):=by rw[zg (by omega) (by omega)];omega
  have hi:=fun q d hV=>ih (pre++[p]) n q (done++[d]) (by rw[he];simp) (by omega) (by simp[hd]) hV;rw[zX,Ap] at hi;simp only[full] at hV;simp only[Bc.Df,hm,zh (show(pre.length:Int)<(P.length:Int) by omega),yX,hg1,hg2,yY,Bc.Oi,hi1,fill];by_cases hp:p.2=lf.2.2.1
  ·rw[if_pos hp] at hV⊢
   rw[Ac hp,yX];have SN:q<V.length:=by omega
   have hgv:gU V (q:Int)=some V[q]:=by rw[zQ];exact AA SN
   have hq1:IntKind.wrap .i64 ((q:Int)+1)=((q+1:Nat):Int):=by rw[zg (by omega) (by omega)];omega
   rw[hgv];simp only[yY,hq1];rw[Ak (by simp;omega),yX,hi (q+1) _ (by omega),List.drop_eq_getElem_cons SN];simp
  ·rw[if_neg hp] at hV⊢
   rw[zw hp,yZ,Ak (by simp;omega),yX,hi q _ (by omega)];simp
theorem akJ(hlf:FH lf=true)(h:zP)(hk3:h.1=0∨h.1=2∨h.1=3)(hsz:h.1=3→0≤h.2.2.2.2.2.2.1∧0≤h.2.2.2.2.2.2.2.1)(h2:h.1≠2)(hm0:0≤h.2.2.1)(hm1:h.2.2.1≤2000)(b:List Int)(hb:b.length≤1048576)(hby:CG b):
 ∃(ok:Bool) (R D rest R' D':List Int) (f:Int),Hl k lf h b=some (((),(),rest,ok),(R,D))∧GX k lf h b=some (((),(),f,ok),(R',D'))∧
  (ok=true→R=R'∧D=D'∧(0≤f∧f≤(b.length:Int))∧rest=kV b f (b.length:Int)∧R.length=h.2.2.1.toNat∧D.length=h.2.2.1.toNat):=by
 unfold FH at hlf;simp only[Aa,Al] at hlf;obtain⟨_,⟨l1,l2⟩,l3⟩:=hlf;unfold Hl GX;by_cases h0:h.1=0
 ·rw[Ac h0,yX,yX]
  obtain⟨nx,ok,R,e1,e2,e3,e4⟩:=Tv k hk b hb hby 0 h.2.2.1 lf.2.1;simp only[e1,e2,yY];obtain⟨nx',ok',D,f1,f2,f3,f4⟩:=Tv k hk b hb hby nx h.2.2.1 lf.2.2.1;simp only[f1,f2,yY,Au];cases ok with
  |false=>
   simp only[zD,yX,Cg];exact⟨false,_,_,_,_,_,_,rfl,rfl,fun h=>(by cases h)⟩
  |true=>
   simp only[zq,yZ,Bj];cases ok' with
   |false=>
    simp only[zD,yX];exact⟨false,_,_,_,_,_,_,rfl,rfl,fun h=>(by cases h)⟩
   |true=>
    obtain⟨⟨n0,n1⟩,n2⟩:=f3 rfl;simp only[zq,yZ];rw[EI n0 n1 (Int.le_refl _),yX];exact⟨true,_,_,_,_,_,_,rfl,rfl,fun _=>⟨rfl,rfl,⟨n0,n1⟩,rfl,(e3 rfl).2,n2⟩⟩
 ·have h3:h.1=3:=by omega
  obtain⟨s1,s2⟩:=hsz h3;rw[zw h0];simp only[yZ,cst,yY];by_cases g1:h.2.2.2.2.2.2.2.1>(b.length:Int)
  ·simp only[zh g1,Ag,yX]
   exact⟨false,_,_,_,_,_,_,rfl,rfl,fun h=>(by cases h)⟩
  ·rw[zg (show -9223372036854775808≤(b.length:Int)-h.2.2.2.2.2.2.2.1 by omega) (by omega)]
   by_cases g2:h.2.2.2.2.2.2.1>(b.length:Int)-h.2.2.2.2.2.2.2.1
   ·simp only[zh g2,Bool.or_true,yX]
    exact⟨false,_,_,_,_,_,_,rfl,rfl,fun h=>(by cases h)⟩
   ·have ew:IntKind.wrap .i64 (h.2.2.2.2.2.2.2.1+h.2.2.2.2.2.2.1)=h.2.2.2.2.2.2.2.1+h.2.2.2.2.2.2.1:=zg (by omega) (by omega)
    have cl:∀i j:Int,(kV b i j).length≤1048576:=fun i j=>by unfold kV;rw[List.length_drop,List.length_take];omega
    obtain⟨ok,R,e1,e2,e3⟩:=Tu k hk (kV b 0 h.2.2.2.2.2.2.2.1) (cl _ _) (MQ hby _ _) h.2.2.1 lf.2.1 hm0 hm1 l1 (by omega);obtain⟨ok',D,f1,f2,f3⟩:=Tu k hk (kV b h.2.2.2.2.2.2.2.1 (h.2.2.2.2.2.2.2.1+h.2.2.2.2.2.2.1)) (cl _ _) (MQ hby _ _) h.2.2.1 lf.2.2.1 hm0 hm1 (by omega) (by omega);simp only[zk g1,zk g2,Bt,yZ,ew,Hl.d12,Hl.d13,GX.d8,GX.d9,Au];rw[EI (Int.le_refl 0) s2 (by omega),EI (show 0≤h.2.2.2.2.2.2.2.1 from s2) (by omega) (by omega),EI (show 0≤h.2.2.2.2.2.2.2.1+h.2.2.2.2.2.2.1 by omega) (by omega) (Int.le_refl _)];simp only[yX,e1,e2,f1,f2,yY];refine⟨ok&&ok',_,_,_,_,_,_,rfl,rfl,fun hh=> ?_⟩;obtain⟨o1,o2⟩:=(Aa _ _).mp hh;exact⟨rfl,rfl,⟨by omega,by omega⟩,rfl,e3 o1,f3 o2⟩
theorem akK(b:List Int)(hl:b.length≤1048576)(hb:BR b)(at_:Int)(Bd:List za)(hd:Bd.length<1000000000):
 ∃r,Dm k lf b at_ Bd=some r∧Bc k lf b at_ Bd=some r∧r.2.length≤2000∧(r.1.2.2=0→∃h,CQ k lf b at_=some (h,0)∧(r.2.length:Int)=h.2.2.1):=by
 obtain⟨h,c,e1,e2,e3⟩:=checked_eq k hk lf b hl hb at_;unfold Dm Bc;rcases e3 with⟨c0,c3,e3⟩|⟨rfl,f1,f2,f3,f4,f5,f6,r,r1,e3⟩
 ·simp only[e2,e3,yY,zO c0,zw c0,zw c3,yX,yZ,cst,Au,Bt,Bool.and_false]
  exact⟨(((),0,c),[]),rfl,rfl,by simp,fun hh=>(c0 hh).elim⟩
 ·obtain⟨g1,g2⟩:=ajj e2
  have ew:IntKind.wrap .i64 (h.2.2.2.2.2.2.2.2.2.2.2.2.1+h.2.1)=h.2.2.2.2.2.2.2.2.2.2.2.2.1+h.2.1:=zg (show _≤Ca h+h.2.1 by omega) (show Ca h+h.2.1<_ by omega);have hsl:jg h.2.2.2.2.2.2.2.2.2.2.2.2.1 (h.2.2.2.2.2.2.2.2.2.2.2.2.1+h.2.1) b.length=true:=EI f2 (show Ca h≤Ca h+h.2.1 by omega) f4;simp only[e2,e3,yY,zK rfl,yZ,Au,cst,ew,hsl,yX];by_cases hk2:h.1=2
  ·refine⟨(((),0,1),[]),?_,?_,by simp,fun hh=>(by cases hh)⟩
   ·by_cases hs:h.2.2.2.2.2.2.2.2.1=true∧r≠h.2.2.2.2.2.2.2.2.2.1
    ·rw[if_pos hs]
     simp only[Ac hk2,show((3:Int)==0)=false from rfl,show((3:Int)==3)=true from rfl,Bool.or_true,Bool.and_self,yX]
    ·rw[if_neg hs]
     simp only[Ac hk2,show((0:Int)==0)=true from rfl,Ag,Bool.and_self,yX]
   ·rw[Ac hk2,yX]
  ·rw[zw hk2]
   simp only[yZ];have r1:Kn k (kV b h.2.2.2.2.2.2.2.2.2.2.2.2.1 (h.2.2.2.2.2.2.2.2.2.2.2.2.1+h.2.1))=some r:=r1;have hbl:(kV b h.2.2.2.2.2.2.2.2.2.2.2.2.1 (h.2.2.2.2.2.2.2.2.2.2.2.2.1+h.2.1)).length≤1048576:=by unfold kV;rw[List.length_drop,List.length_take];omega
   have hbb:CG (kV b h.2.2.2.2.2.2.2.2.2.2.2.2.1 (h.2.2.2.2.2.2.2.2.2.2.2.2.1+h.2.1)):=MQ hb _ _;have e3':(if h.2.2.2.2.2.2.2.2.1=true∧r≠h.2.2.2.2.2.2.2.2.2.1 then(h,([]:List Int),(3:Int)) else(h,kV b (Ca h) (Ca h+h.2.1),0))=(if h.2.2.2.2.2.2.2.2.1=true∧r≠h.2.2.2.2.2.2.2.2.2.1 then(h,([]:List Int),(3:Int)) else(h,kV b h.2.2.2.2.2.2.2.2.2.2.2.2.1 (h.2.2.2.2.2.2.2.2.2.2.2.2.1+h.2.1),0)):=rfl;rw[e3'];generalize hB:kV b h.2.2.2.2.2.2.2.2.2.2.2.2.1 (h.2.2.2.2.2.2.2.2.2.2.2.2.1+h.2.1)=B at r1 hbl hbb;by_cases hs:h.2.2.2.2.2.2.2.2.1=true∧r≠h.2.2.2.2.2.2.2.2.2.1
   ·rw[if_pos hs]
    refine⟨(((),0,3),[]),?_,?_,by simp,fun hh=>(by cases hh)⟩
    ·simp only[show((3:Int)==0)=false from rfl,show((3:Int)==3)=true from rfl,zw hk2,Cg,yZ,show((3:Int) !=0)=true from rfl,yX]
    ·unfold Bc.d8
     rw[hs.1,r1];simp only[yX,yY,zO hs.2]
   ·rw[if_neg hs]
    simp only[zw hk2,Cg,yZ,show((0:Int) !=0)=false from rfl];obtain⟨ok,R,D,rest,R',D',fr,p1,p2,p3⟩:=akJ k hk lf f1 h g1 (fun h3=>⟨(g2 h3).2.2.1,(g2 h3).2.2.2⟩) hk2 f5 f6 B hbl hbb
    have hspec:Bc.d8 k Bd B lf [] h=((cond (!ok)
     (some true)
     ((cond (decide (h.2.2.1>0)) ((gU R' 0).bind fun Gh=>some (Gh !=0)) (some false)).bind fun b16=>some (b16))).bind fun b17=>
      cond b17 (some (((),0,4),[])) (Bc.BX k k Bd B fr 0 0 0 lf [] h R' D')):=by
     unfold Bc.d8;rw[p2];cases hs1:h.2.2.2.2.2.2.2.2.1 with
     |false=>rfl
     |true=>
      have hr:r=h.2.2.2.2.2.2.2.2.2.1:=Classical.byContradiction fun hh=>hs ⟨hs1,hh⟩;rw[r1];simp only[yX,yY,zK hr,yZ]
    rw[hspec,p1];simp only[yY];cases ok with
    |false=>
     simp only[zD,yX,yY];exact⟨(((),0,4),[]),rfl,rfl,by simp,fun hh=>(by cases hh)⟩
    |true=>
     obtain⟨rfl,rfl,⟨q1,q2⟩,q3,q4,q5⟩:=p3 rfl;obtain⟨P,rfl,rfl,hP⟩:=am5 (show R.length=D.length by omega);have LC:h.2.2.1=(P.length:Int):=by rw[hP,q4];omega
     have hP2:P.length≤2000:=by omega
     simp only[zq,yZ,List.length_map];rw[LC];have hgd:∀X:Int,(cond (decide ((P.length:Int)>0)) ((gU (P.map (·.1)) 0).bind fun y=>some (y !=0)) (some false))=some (Sm P):=fun _=>by
      cases P with
      |nil=>rfl
      |cons p P=>rw[zh (show((p::P).length:Int)>0 by simp),yX];rfl
     rw[hgd 0];simp only[yY];cases Sm P with
     |true=>
      simp only[yX];exact⟨(((),0,4),[]),rfl,rfl,by simp,fun hh=>(by cases hh)⟩
     |false=>
      simp only[yZ,amh k hk lf P hP2,yY];have hcl:=VD k hk lf Bd B fr h P hP2 LC [] P [] k 0 0 rfl (by omega) (by simp) (by simp);have hcl:Bc.BX k k Bd B fr 0 0 0 lf [] h (P.map (·.1)) (P.map (·.2))=_:=hcl;rw[hcl];have hfl:=Qg lf.2.2.1 P;simp only[Nat.zero_add,cst,yY,Au,EI q1 q2 (Int.le_refl _),yX];have VT:IntKind.wrap .i64 (h.2.2.1-((full lf.2.2.1 P:Nat):Int))=((P.length-full lf.2.2.1 P:Nat):Int):=by rw[LC,zg (by omega) (by omega)];omega
      have VU:IntKind.wrap .i64 (h.2.2.1-((P.length-full lf.2.2.1 P:Nat):Int))=((full lf.2.2.1 P:Nat):Int):=by rw[LC,zg (by omega) (by omega)];omega
      obtain⟨eo,V,v1,v2,v3,v4⟩:=VQ k hk h.2.2.2.1 lf.1 rest (by rw[q3];unfold kV;rw[List.length_drop,List.length_take];omega) (by rw[q3];exact MQ hbb _ _) ((full lf.2.2.1 P:Nat):Int) Bd hd;have hro:Ei k (Cm P)=some (Bv (Cm P):Int):=(QK k (Cm P) (by rw[PE];omega) hk).2;rw[q3] at v1 v2;unfold Dm.d10;simp only[hro,yY,VT,VU,q3,v1,v2,PE,cst];have fin:∃rr,(cond (!eo) (some (((),0,5),[])) (Dm.De k k V (P.length:Int) 0 lf h (Cm P)))=some rr∧(cond (!eo) (some (((),0,5),[])) (Bc.Df k k 0 0 lf h (P.map (·.1)) (P.map (·.2)) V []))=some rr∧rr.2.length≤2000∧(rr.1.2.2=0→∃h,CQ k lf b at_=some (h,0)∧(rr.2.length:Int)=h.2.2.1):=by
       cases eo with
       |false=>exact⟨(((),0,5),[]),rfl,rfl,by simp,fun hh=>(by cases hh)⟩
       |true=>
        obtain⟨w1,_,_⟩:=v4 rfl;have w1:V.length=full lf.2.2.1 P:=by rw[w1];simp
        have i1:=ajF k hk lf h P hP2 P [] k [] V rfl (by omega) rfl w1;have i1:Dm.De k k V (P.length:Int) 0 lf h (Cm P)=_:=i1;have s1:=alz k hk lf h P hP2 LC V v3 P [] k 0 [] rfl (by omega) rfl (by omega);have s1:Bc.Df k k 0 0 lf h (P.map (·.1)) (P.map (·.2)) V []=_:=s1;rw[i1,s1];have SH:(([]:List zM)++fill lf.2.2.1 P V).length=P.length:=by rw[List.nil_append,Qf _ _ _ w1]
        refine⟨_,rfl,rfl,?_,fun _=>⟨h,e2,?_⟩⟩
        ·show(([]:List zM)++fill lf.2.2.1 P V).length≤2000
         rw[SH];exact hP2
        ·show((([]:List zM)++fill lf.2.2.1 P V).length:Int)=_
         rw[SH,LC]
      obtain⟨rr,i1,s1,hrl,SQ⟩:=fin;cases h3:(h.1==3) with
      |false=>
       simp only[yZ,yY];exact⟨rr,i1,s1,hrl,fun hh=>by obtain⟨h',q1,q2⟩:=SQ hh;rw[e2] at q1;exact⟨h',q1,q2⟩⟩
      |true=>
       simp only[yX,yY];by_cases hr1:(Bv (Cm P):Int)=h.2.2.2.2.1
       ·simp only[zK hr1,yZ,Aq]
        by_cases hr2:((P.length-full lf.2.2.1 P:Nat):Int)=h.2.2.2.2.2.1
        ·simp only[zK hr2,yZ]
         exact⟨rr,i1,s1,hrl,fun hh=>by obtain⟨h',q1,q2⟩:=SQ hh;rw[e2] at q1;exact⟨h',q1,q2⟩⟩
        ·simp only[zO hr2,yX]
         exact⟨(((),0,4),[]),rfl,rfl,by simp,fun hh=>(by cases hh)⟩
       ·simp only[zO hr1,yX,Ag]
        exact⟨(((),0,4),[]),rfl,rfl,by simp,fun hh=>(by cases hh)⟩
end
theorem TP(k:Nat)(hk:2000000≤k)(lf:zI)(ck:BC)(b:List Int)(hl:b.length≤1048576)(hb:BR b)(Bd:List za):∀(f n:Nat) (at_ many:Int) (o:List Int),((b.length:Int)-at_).toNat≤f→f<n→0≤at_→0≤many→many+2000*f≤1000000000000→o.length+f≤1048576→
 ∃(c:Int) (P:List Int) (V:List za),E9.AL k n b many at_ lf ck Bd o=some (((),(),c),(P,V))∧DX.A_ k n b at_ many lf ck [] [] Bd o=some (((),(),c),(P,V))∧
  P.length≤1048576∧(V=Bd∨V=[]):=by
 intro f
 induction f with
 |zero=>
  intro n at_ many o hf hn h0 hm hb2 hol;obtain⟨n,rfl⟩:∃x,n=x+1:=⟨n-1,by omega⟩;obtain⟨⟨h,c⟩,e1,e2,e3,e4⟩:=OG k hk lf b (by omega) hb at_;simp only[E9.AL,DX.A_];by_cases hmore:many<ck.2.2.2.1
  ·have hc:¬c=0:=by
    intro hc;obtain⟨_,_,_,f4,_,_,_,f8⟩:=e3 hc;have f4:Ca h+h.2.1≤(b.length:Int):=f4;have f8:at_<Ca h:=f8;have f2:0≤h.2.1:=by obtain⟨_,f2,_⟩:=e3 hc;exact f2
    omega
   simp only[zh hmore,yX,e1,e2,yY,zO hc];exact⟨_,_,_,rfl,rfl,by simp,.inr rfl⟩
  ·simp only[zk hmore,yZ]
   exact⟨_,_,_,rfl,rfl,by omega,.inl rfl⟩
 |succ f ih=>
  intro n at_ many o hf hn h0 hm hb2 hol;obtain⟨n,rfl⟩:∃x,n=x+1:=⟨n-1,by omega⟩;obtain⟨⟨h,c⟩,e1,e2,e3,e4⟩:=OG k hk lf b (by omega) hb at_;simp only[E9.AL,DX.A_];by_cases hmore:many<ck.2.2.2.1
  ·simp only[zh hmore,yX,e1,e2,yY]
   by_cases hc:c=0
   ·subst hc
    obtain⟨_,f2,f3,f4,f5,f6,_,f8⟩:=e3 rfl;have f2:0≤h.2.1:=f2;have f4:Ca h+h.2.1≤(b.length:Int):=f4;have f8:at_<Ca h:=f8;have f5:0≤h.2.2.1:=f5;have f6:h.2.2.1≤2000:=f6;simp only[zK rfl,yZ,cst,yY];cases((h.1==2||h.2.2.1==0)||decide (IntKind.wrap .i64 (many+h.2.2.1)>ck.2.2.2.1)) with
    |true=>
     simp only[yX];exact⟨_,_,_,rfl,rfl,by simp,.inr rfl⟩
    |false=>
     have em:IntKind.wrap .i64 (many+h.2.2.1)=many+h.2.2.1:=zg (by omega) (by omega);have eb:IntKind.wrap .i64 (h.2.2.2.2.2.2.2.2.2.2.2.2.1+h.2.1)=h.2.2.2.2.2.2.2.2.2.2.2.2.1+h.2.1:=zg (show _≤Ca h+h.2.1 by omega) (show Ca h+h.2.1<_ by omega);simp only[yZ,em,eb];rw[Ak (show o.length+[at_].length≤4294967296 by simp;omega),yX,yX];exact ih n (Ca h+h.2.1) (many+h.2.2.1) (o++[at_]) (by omega) (by omega) (by omega) (by omega) (by omega) (by simp;omega)
   ·simp only[zO hc,yX]
    exact⟨_,_,_,rfl,rfl,by simp,.inr rfl⟩
  ·simp only[zk hmore,yZ]
   exact⟨_,_,_,rfl,rfl,by omega,.inl rfl⟩
theorem RI(k:Nat)(hk:2000000≤k)(lf:zI)(ck:BC)(b:List Int)(hl:b.length≤1048576)(hb:BR b):
 ∃(c:Int) (P:List Int) (V:List za),E9 k lf b ck=some (((),(),c),(P,V))∧DX k lf b ck=some (((),(),c),(P,V))∧P.length≤1048576∧V.length≤2000:=by
 unfold E9 DX E9.c9 DX.c10;simp only[cst,yY];by_cases hat:ck.2.1<0
 ·simp only[zh hat,Ag,yX]
  exact⟨_,_,_,rfl,rfl,by simp,by simp⟩
 by_cases hdi:ck.2.2.1< -1
 ·simp only[zh hdi,Bool.or_true,yX]
  exact⟨_,_,_,rfl,rfl,by simp,by simp⟩
 simp only[zk hat,zk hdi,Bt,yZ];by_cases hd:ck.2.2.1≥0
 ·obtain⟨r,e1,e2,e3,_⟩:=VJ k hk lf.1 b hl hb ck.2.2.1
  simp only[zh hd,yX,e1,e2,yY];by_cases hc:r.1.2.2=0
  ·simp only[zK hc,yZ]
   obtain⟨c,P,V,i1,i2,i3,i4⟩:=TP k hk lf ck b hl hb r.2 b.length k ck.2.1 0 [] (by omega) (by omega) (by omega) (by omega) (by omega) (by simp;omega);refine⟨c,P,V,i1,i2,i3,?_⟩;rcases i4 with rfl|rfl
   ·exact e3
   ·simp
  ·simp only[zO hc,yX]
   exact⟨_,_,_,rfl,rfl,by simp,by simp⟩
 ·simp only[zk hd,yZ]
  obtain⟨c,P,V,i1,i2,i3,i4⟩:=TP k hk lf ck b hl hb [] b.length k ck.2.1 0 [] (by omega) (by omega) (by omega) (by omega) (by omega) (by simp;omega);refine⟨c,P,V,i1,i2,i3,?_⟩;rcases i4 with rfl|rfl<;>simp
def Ep(k:Nat)(lf:zI)(b:List Int):List Int→Option Int
 |[]=>some 0
 |p::r=>match CQ k lf b p,Ep k lf b r with
  |some (h,0),some m=>some (h.2.2.1+m)
  |_,_=>none
theorem TA{k:Nat}{lf:zI}{b:List Int}:∀(P Q:List Int) (x y:Int),Ep k lf b P=some x→Ep k lf b Q=some y→Ep k lf b (P++Q)=some (x+y)
 |[],Q,x,y,h1,h2=>by
  simp only[Ep,Ao] at h1;subst h1;simpa using h2
 |p::P,Q,x,y,h1,h2=>by
  simp only[Ep] at h1;split at h1
  ·rename_i h m e1 e2
   cases h1;simp only[List.cons_append,Ep,e1,TA P Q m y e2 h2]
   congr 1
   omega
  ·cases h1
section
variable(k:Nat)(hk:2000000≤k)(lf:zI)(b:List Int)(hl:b.length≤1048576)(hb:BR b)
include hk hl hb
theorem SE{p:Int}{h:zP}(e:CQ k lf b p=some (h,0)):0≤h.2.2.1∧h.2.2.1≤2000:=by
 obtain⟨⟨h',c⟩,_,e2,e3,_⟩:=OG k hk lf b (by omega) hb p;rw[e] at e2;simp only[Ao,Prod.mk.injEq] at e2;obtain⟨rfl,rfl⟩:=e2;obtain⟨_,_,_,_,h5,h6,_⟩:=e3 rfl;exact⟨h5,h6⟩
theorem akL(ck:BC)(hck:ck.2.2.2.1≤2000)(Bd:List za):∀(n:Nat) (at_ many:Int) (o:List Int) (S:Int) (P:List Int) (V:List za),0≤many→many≤4000→Ep k lf b o=some S→S≤many→(many≤ck.2.2.2.1∨o=[])→
 DX.A_ k n b at_ many lf ck [] [] Bd o=some (((),(),0),(P,V))→∃S,Ep k lf b P=some S∧(S≤ck.2.2.2.1∨P=[]):=by
 intro n
 induction n with
 |zero=>intro at_ many o S P V _ _ _ _ _ h;cases h
 |succ n ih=>
  intro at_ many o S P V h0 h4 hS hSm hm h;simp only[DX.A_] at h;replace h:=cnd h;rcases h with⟨_,h⟩|⟨_,h⟩
  ·replace h:=bnd h;obtain⟨⟨hd,c⟩,e,h⟩:=h
   replace h:=cnd h;rcases h with⟨_,h⟩|⟨hc,h⟩
   ·simp only[Ao,Prod.mk.injEq] at h
    obtain⟨⟨_,_,rfl⟩,_⟩:=h;rename_i hc;simp at hc
   ·have hc:c=0:=by simpa using hc
    subst hc;obtain⟨m0,m1⟩:=SE k hk lf b hl hb e;have ew:IntKind.wrap .i64 (many+hd.2.2.1)=many+hd.2.2.1:=zg (by omega) (by omega);simp only[ew,cst,yY] at h;replace h:=cnd h;rcases h with⟨_,h⟩|⟨hc,h⟩
    ·cases h
    ·replace h:=cnd h;rcases h with⟨_,h⟩|⟨_,h⟩
     ·simp only[Bool.or_eq_false_iff,decide_eq_false_iff_not] at hc
      have h1:Ep k lf b [at_]=some hd.2.2.1:=by simp[Ep,e]
      refine ih _ _ _ (S+hd.2.2.1) _ _ (by omega) (by omega) (TA _ _ _ _ hS h1) (by omega) (.inl (by omega)) h
     ·cases h
  ·simp only[Ao,Prod.mk.injEq] at h
   obtain⟨_,rfl,_⟩:=h;exact⟨S,hS,hm.imp (fun h=>by omega) id⟩
theorem Vu(ck:BC)(hck:1≤ck.2.2.2.1∧ck.2.2.2.1≤2000){P:List Int}{V:List za}(h:DX k lf b ck=some (((),(),0),(P,V))):∃S,Ep k lf b P=some S∧S≤2000:=by
 have fin:∀Bd,DX.A_ k k b ck.2.1 0 lf ck [] [] Bd []=some (((),(),0),(P,V))→∃S,Ep k lf b P=some S∧S≤2000:=by
  intro Bd h;obtain⟨S,s1,s2⟩:=akL k hk lf b hl hb ck hck.2 Bd k ck.2.1 0 [] 0 P V (by omega) (by omega) rfl (by omega) (.inr rfl) h;refine⟨S,s1,?_⟩;rcases s2 with s2|s2
  ·omega
  ·subst s2
   simp only[Ep,Ao] at s1;omega
 unfold DX DX.c10 at h;replace h:=bnd h;obtain⟨b1,_,h⟩:=h;replace h:=cnd h;rcases h with⟨_,h⟩|⟨_,h⟩
 ·cases h
 replace h:=cnd h;rcases h with⟨_,h⟩|⟨_,h⟩
 ·replace h:=bnd h;obtain⟨r,_,h⟩:=h
  replace h:=cnd h;rcases h with⟨hc,h⟩|⟨_,h⟩
  ·simp only[Ao,Prod.mk.injEq] at h
   obtain⟨⟨_,_,h⟩,_⟩:=h;rw[h] at hc;simp at hc
  ·exact fin _ h
 ·exact fin _ h
theorem Vx(Bd:List za)(hd:Bd.length≤2000)(Ps:List Int)(hP:Ps.length≤1048576):∀(post pre:List Int) (n n':Nat) (o:List zM),Ps=pre++post→post.length<n→post.length<n'→o.length≤2000*pre.length→
 ∃c l,Im.l6 k n b (Ps.length:Int) (pre.length:Int) lf Bd o Ps=some (((),c),l)∧IX.l6 k n' b (pre.length:Int) lf Ps Bd o=some (((),c),l)∧l.length≤2000*Ps.length∧
  (∀S T,Ep k lf b post=some S→(o.length:Int)=T→(l.length:Int)≤T+S):=by
 intro post
 induction post with
 |nil=>
  intro pre n n' o h hn hn' ho;obtain⟨n,rfl⟩:∃q,n=q+1:=⟨n-1,by omega⟩;obtain⟨n',rfl⟩:∃q,n'=q+1:=⟨n'-1,by omega⟩;rw[AO] at h;subst h;simp only[Im.l6,IX.l6,zk (show ¬((Ps.length:Int)<(Ps.length:Int)) by omega),yZ];refine⟨0,o,rfl,rfl,ho,fun S T hS hT=> ?_⟩;simp only[Ep,Ao] at hS;omega
 |cons p post ih=>
  intro pre n n' o h hn hn' ho;simp only[Ah] at hn hn';obtain⟨n,rfl⟩:∃q,n=q+1:=⟨n-1,by omega⟩;obtain⟨n',rfl⟩:∃q,n'=q+1:=⟨n'-1,by omega⟩;have hlen:Ps.length=pre.length+(post.length+1):=by rw[h];simp
  have hg:gU Ps (pre.length:Int)=some p:=by rw[h];exact AX _ _ _
  have hi1:IntKind.wrap .i64 ((pre.length:Int)+1)=((pre.length+1:Nat):Int):=by rw[zg (by omega) (by omega)];omega
  obtain⟨r,e1,e2,e3,e4⟩:=akK k hk lf b hl hb p Bd (by omega);simp only[Im.l6,IX.l6,zh (show(pre.length:Int)<(Ps.length:Int) by omega),yX,hg,yY,e1,e2,hi1];by_cases hc:r.1.2.2=0
  ·rw[zK hc,yZ,yZ,Ak (by omega),yX,yX]
   obtain⟨c,l,i1,i2,i3,i4⟩:=ih (pre++[p]) n n' (o++r.2) (by rw[h];simp) (by omega) (by omega) (by simp;omega);rw[zX,Ap] at i1 i2;refine⟨c,l,i1,i2,i3,fun S T hS hT=> ?_⟩;simp only[Ep] at hS;split at hS
   ·rename_i h m q1 q2
    cases hS;obtain⟨h',q3,q4⟩:=e4 hc;rw[q1] at q3;simp only[Ao,Prod.mk.injEq] at q3;obtain⟨rfl,_⟩:=q3;have:=i4 m (T+h.2.2.1) q2 (by rw[zX];omega);omega
   ·cases hS
  ·rw[zO hc,yX,yX]
   refine⟨_,[],rfl,rfl,by simp,fun S T hS hT=> ?_⟩;have pos:∀(Q:List Int) (S:Int),Ep k lf b Q=some S→0≤S:=by
    intro Q
    induction Q with
    |nil=>intro S hS;simp only[Ep,Ao] at hS;omega
    |cons q Q ihQ=>
     intro S hS;simp only[Ep] at hS;split at hS
     ·rename_i h m q1 q2
      cases hS;have:=ihQ m q2;have:=(SE k hk lf b hl hb q1).1;omega
     ·cases hS
   have:=pos _ _ hS;simp only[List.length_nil];omega
theorem Vv(ck:BC):∃c l,Im k lf b ck=some (((),c),l)∧IX k lf b ck=some (((),c),l)∧l.length≤2100000000∧(1≤ck.2.2.2.1∧ck.2.2.2.1≤2000→l.length≤2000):=by
 obtain⟨c,P,V,e1,e2,e3,e4⟩:=RI k hk lf ck b hl hb;unfold Im IX;simp only[e1,e2,yY];by_cases hc:c=0
 ·subst hc
  simp only[zK rfl,yZ];obtain⟨c,l,i1,i2,i3,i4⟩:=Vx k hk lf b hl hb V e4 P e3 P [] k k [] rfl (by omega) (by omega) (by simp);refine⟨c,l,i1,i2,by omega,fun hck=> ?_⟩;obtain⟨S,s1,s2⟩:=Vu k hk lf b hl hb ck hck e2;have:=i4 S 0 s1 (by simp);omega
 ·simp only[zO hc,yX]
  exact⟨c,[],rfl,rfl,by simp,fun _=>by simp⟩
end
theorem amv(s:List ze)(L:Nat):∀(n t:Nat) (x:Int),x∈Bn s L n t→∃a:Nat,x=a∧t≤a∧a<t+n:=by
 intro n
 induction n with
 |zero=>intro t x hx;cases hx
 |succ n ih=>
  intro t x hx;simp only[Bn] at hx;rcases List.mem_append.1 hx with hx|hx
  ·split at hx
   ·rw[List.mem_singleton] at hx
    exact⟨t,hx,by omega,by omega⟩
   ·cases hx
  ·obtain⟨a,e,h1,h2⟩:=ih (t+1) x hx
   exact⟨a,e,by omega,by omega⟩
def Pd(s:List ze)(x:Int):ByteArray:=((gU s x).map (·.1)).getD ⟨#[]⟩
section
variable(k:Nat)(s:List ze)
theorem alS(w:List Int)(hw:w.length≤100)(hm:∀x,x∈w→∃c,gU s x=some c):∀(post pre:List Int) (f:Nat) (o:List ByteArray),w=pre++post→post.length<f→o.length≤pre.length→
 Gu.l7 k f s (pre.length:Int) o w=some ((),o++post.map (Pd s)):=by
 intro post
 induction post with
 |nil=>
  intro pre f o h hf ho;obtain⟨f,rfl⟩:∃q,f=q+1:=⟨f-1,by omega⟩;have hlen:w.length=pre.length:=by rw[h];simp
  simp only[Gu.l7,zk (show ¬((pre.length:Int)<(w.length:Int)) by omega),yZ,List.map_nil,AO]
 |cons x post ih=>
  intro pre f o h hf ho;simp only[Ah] at hf;obtain⟨f,rfl⟩:∃q,f=q+1:=⟨f-1,by omega⟩;have hlen:w.length=pre.length+(post.length+1):=by rw[h];simp
  have hg:gU w (pre.length:Int)=some x:=by rw[h];exact AX _ _ _
  have hi1:IntKind.wrap .i64 ((pre.length:Int)+1)=((pre.length+1:Nat):Int):=by rw[zg (by omega) (by omega)];omega
  obtain⟨c,hc⟩:=hm x (by rw[h];simp);have hi:=ih (pre++[x]) f (o++[c.1]) (by rw[h];simp) (by omega) (by simp;omega);rw[zX,Ap] at hi;simp only[Gu.l7,zh (show(pre.length:Int)<(w.length:Int) by omega),yX,hg,hc,yY,hi1];rw[Ak (by simp;omega),yX,hi];simp[Pd,hc]
theorem ajN(w:List Int)(hw:w.length≤100)(hm:∀x,x∈w→∃c,gU s x=some c):∀(post pre:List Int) (f:Nat) (o:List ByteArray),w=pre++post→post.length<f→o.length≤pre.length→
 Gm.l3 k f s (w.length:Int) (pre.length:Int) o w=some ((),o++post.map (Pd s)):=by
 intro post
 induction post with
 |nil=>
  intro pre f o h hf ho;obtain⟨f,rfl⟩:∃q,f=q+1:=⟨f-1,by omega⟩;have hlen:w.length=pre.length:=by rw[h];simp
  simp only[Gm.l3,zk (show ¬((pre.length:Int)<(w.length:Int)) by omega),yZ,List.map_nil,AO]
 |cons x post ih=>
  intro pre f o h hf ho;simp only[Ah] at hf;obtain⟨f,rfl⟩:∃q,f=q+1:=⟨f-1,by omega⟩;have hlen:w.length=pre.length+(post.length+1):=by rw[h];simp
  have hg:gU w (pre.length:Int)=some x:=by rw[h];exact AX _ _ _
  have hi1:IntKind.wrap .i64 ((pre.length:Int)+1)=((pre.length+1:Nat):Int):=by rw[zg (by omega) (by omega)];omega
  obtain⟨c,hc⟩:=hm x (by rw[h];simp);have hi:=ih (pre++[x]) f (o++[c.1]) (by rw[h];simp) (by omega) (by simp;omega);rw[zX,Ap] at hi;simp only[Gm.l3,zh (show(pre.length:Int)<(w.length:Int) by omega),yX,hg,hc,yY,hi1];rw[Ak (by simp;omega),yX,hi];simp[Pd,hc]
theorem ali(a b:List ByteArray)(hab:a.length=b.length)(hl:a.length<4611686018427387904):∀(m f i:Nat),i+m=a.length→m<f→H8.l4 k f a b (a.length:Int) (i:Int)=some (decide (a.drop i=b.drop i)):=by
 intro m
 induction m with
 |zero=>
  intro f i hi hf;obtain⟨f,rfl⟩:∃q,f=q+1:=⟨f-1,by omega⟩;simp only[H8.l4,zk (show ¬((i:Int)<(a.length:Int)) by omega),yZ];rw[List.drop_eq_nil_of_le (by omega),List.drop_eq_nil_of_le (by omega)];rfl
 |succ m ih=>
  intro f i hi hf;obtain⟨f,rfl⟩:∃q,f=q+1:=⟨f-1,by omega⟩;have ha:=AA (show i<a.length by omega);have hb:=AA (show i<b.length by omega);have hi1:IntKind.wrap .i64 ((i:Int)+1)=((i+1:Nat):Int):=by rw[zg (by omega) (by omega)];omega
  have da:=List.drop_eq_getElem_cons (show i<a.length by omega);have db:=List.drop_eq_getElem_cons (show i<b.length by omega);rw[da,db];generalize a[i]'_=x at ha;generalize b[i]'_=y at hb;simp only[H8.l4,zh (show(i:Int)<(a.length:Int) by omega),yX,zQ,ha,hb,yY,Dv,hi1];by_cases hxy:x=y
  ·subst hxy
   simp only[decide_true,zq,yZ,bne];rw[ih f (i+1) (by omega) (by omega)];simp
  ·simp only[zk hxy,zD,yX,bne]
   simp[hxy]
theorem alj(a b:List ByteArray)(hl:a.length<k)(hl2:a.length<4611686018427387904)(hl3:b.length<4611686018427387904):H8 k a b=some (decide (a=b)):=by
 unfold H8;by_cases h:a.length=b.length
 ·rw[zK (by omega),yZ]
  have:=ali k a b h hl2 a.length k 0 (by omega) hl;simpa using this
 ·rw[zO (by omega),yX]
  rw[zk (fun e=>h (by rw[e]))]
end
section
variable(k:Nat)(s:List ze)(hn:∀c,c∈s→c.1.size<k∧c.1.size<1000000000∧Ae c.2.2.2.1)(hk:2000000≤k)
variable(hS:ET s)(hok:Eb k s=some true)(hok2:Ex k s=some true)
include hn hk hS hok hok2
theorem path_eq(j:Int):∃N,Gu k s j=some ((),N)∧Gm k s j=some ((),N)∧N.length≤20:=by
 obtain⟨v1,v2⟩:=Jh k (by omega) s (by have:=hS.2.1;omega);have FY:=hS.2.1;have hll:=Kh 0 s;unfold Gu Gm FE JO LM;rw[hok,hok2];simp only[yY,zq,yZ,v1,v2,Bh,Bp];generalize hlv:Ba 0 s=lv at hll;rw[zg (show -9223372036854775808≤(lv.length:Int)-1 by omega) (by omega)];by_cases hin:0≤j∧j<(lv.length:Int)
 ·have hw:(decide (0≤j)&&decide (j≤(lv.length:Int)-1))=true:=by simp;omega
  obtain⟨n,rfl⟩:=Int.eq_ofNat_of_zero_le hin.1;have hnl:n<lv.length:=by omega
  obtain⟨L,e1,e2,e3,c,e4,e5⟩:=Mc s [] s rfl n _ (by rw[show([]:List ze).length=0 from rfl,hlv];exact AA hnl);have hg:gU lv (n:Int)=some (L:Int):=by rw[zQ,AA hnl,e1]
  have hL:L<s.length:=(List.getElem?_eq_some_iff.1 e4).1;have SF:L<CJ s 0:=by rw[Le (Nat.le_refl _) hS.2.2.1];exact hL
  have ajx:Bn s L (L+1) 0=0::Bn s L L 1:=by
   simp only[Bn];rw[if_pos SF];rfl
  have hmem:∀x,x∈Bn s L L 1→∃c,gU s x=some c:=fun x hx=>by
   obtain⟨a,rfl,h1,h2⟩:=amv s L L 1 x hx;exact⟨_,AA (show a<s.length by omega)⟩
  have hlen:=UE s L L 1;have h1:=Tf k s hS hn hk lv (n:Int) L hg hL L L 1 k [] (Nat.le_refl _) (by omega) (by omega) (by simp);have h1:FE.l6 k k s (n:Int) 1 lv []=some ((),Bn s L L 1):=h1;have hI:=ajN k s (Bn s L L 1) (by omega) hmem (Bn s L L 1) [] k [] rfl (by omega) (by simp);have hI:Gm.l3 k k s ((Bn s L L 1).length:Int) 0 [] (Bn s L L 1)=_:=hI;have ajr:∀x,x∈(0:Int)::Bn s L L 1→∃c,gU s x=some c:=fun x hx=>by
   rcases List.mem_cons.1 hx with rfl|hx
   ·exact⟨_,AA (show 0<s.length by omega)⟩
   ·exact hmem x hx
  have hP:=alS k s (0::Bn s L L 1) (by simp;omega) ajr (Bn s L L 1) [0] k [] rfl (by omega) (by simp);have hP:Gu.l7 k k s 1 [] (0::Bn s L L 1)=_:=hP;rw[hw];simp only[zq,yZ,hg,yY,Ur k s hS hn hk L hL,ajx,h1,hI,hP];exact⟨_,rfl,rfl,by simp;omega⟩
 ·have hw:(decide (0≤j)&&decide (j≤(lv.length:Int)-1))=false:=by
   rw[Bool.eq_false_iff];intro h;simp only[Aa,Al] at h;omega
  obtain⟨K,rfl⟩:∃K,k=K+1:=⟨k-1,by omega⟩;rw[hw];exact⟨[],rfl,rfl,by simp⟩
end
def JE(l:List zf)(p:Int):Int:=((gU l p).map (·.2.2.1)).getD 0
def Ib(l:List zf)(p:Int):ByteArray:=((gU l p).map (·.2.2.2.1)).getD ⟨#[]⟩
def FI(k:Nat)(s:List ze)(j:Int):List ByteArray:=((Gu k s j).map (·.2)).getD []
def Nl(k:Nat)(s:List ze)(j:Int):Int:=((Kq k s j).map (·.1.1)).getD 0
def CO(k:Nat)(l:List zf)(a:Int):Int:=if fV k l a 3<0 then -1 else if((gU l (fV k l a 3)).map (·.1)).getD 0=12 then fV k l a 3 else -1
def EY(k:Nat)(l:List zf)(s:List ze)(strict:Bool)(a j:Int):Bool:=
 if CO k l a<0 then false else
  (pV k l (CO k l a) 2 5).1&&(pV k l (CO k l a) 3 8).1&&((nV k l (CO k l a) 1).2&&((nV k l (CO k l a) 1).1==Nl k s j))&&((nV k l (CO k l a) 4).2&&((nV k l (CO k l a) 4).1==0))&&
   decide ((pV k l (CO k l a) 3 8).2.map (Ib l)=FI k s j)&&(nV k l (CO k l a) 5).2&&(nV k l (CO k l a) 6).2&&((nV k l (CO k l a) 7).2&&((nV k l (CO k l a) 7).1==(nV k l (CO k l a) 6).1))&&(nV k l (CO k l a) 9).2&&
   (if fV k l (CO k l a) 11<0 then true else(nV k l (CO k l a) 11).2&&(if strict then decide (0≤(nV k l (CO k l a) 11).1) else(nV k l (CO k l a) 11).1 != -1))
def C9(k:Nat)(l:List zf)(a j:Int):BC:=
 if CO k l a<0 then(j,0,-1,0,0,[],()) else
  (j,(nV k l (CO k l a) 9).1,(if fV k l (CO k l a) 11<0 then -1 else(nV k l (CO k l a) 11).1),(nV k l (CO k l a) 5).1,(nV k l (CO k l a) 6).1,(pV k l (CO k l a) 2 5).2.map (JE l),())
section
variable(k:Nat)(hk:2000000≤k){l:List zf}{af:List Int}(h:D7 l af)
include hk h
theorem ajD(t3 t10:Int)(b:Bool)(s:List ze)(yV y_:Int×Int×Int×Int×Int×Unit×Unit)(lf:zI)(E:List Int)(hE:E.length≤1500)(hm:∀p,p∈E→0≤p∧p<(l.length:Int))(zx:List Int):∀(post pre:List Int) (f:Nat) (o:List Int),E=pre++post→post.length<f→o.length≤pre.length→
 AP.l8 k f t3 t10 (E.length:Int) (pre.length:Int) (mR b) (tB l) af s yV y_ lf E zx o=(GL k t10 3 8 (mR b) (tB l) af).bind fun IU=>AP.KV k k t3 t10 (List.length IU.2.2.2.2:Int) 0 IU.2.1 IU.2.2.1 IU.2.2.2.1 s yV y_ lf [] IU.2.2.2.2 zx (o++post.map (JE l)):=by
 intro post
 induction post with
 |nil=>
  intro pre f o h hf ho;obtain⟨f,rfl⟩:∃q,f=q+1:=⟨f-1,by omega⟩;have hlen:E.length=pre.length:=by rw[h];simp
  simp only[AP.l8,zk (show ¬((pre.length:Int)<(E.length:Int)) by omega),yZ,List.map_nil,AO]
 |cons x post ih=>
  intro pre f o h hf ho;simp only[Ah] at hf;obtain⟨f,rfl⟩:∃q,f=q+1:=⟨f-1,by omega⟩;have hlen:E.length=pre.length+(post.length+1):=by rw[h];simp
  have hg:gU E (pre.length:Int)=some x:=by rw[h];exact AX _ _ _
  have hi1:IntKind.wrap .i64 ((pre.length:Int)+1)=((pre.length+1:Nat):Int):=by rw[zg (by omega) (by omega)];omega
  obtain⟨x0,x1⟩:=hm x (by rw[h];simp);obtain⟨c,hc,_⟩:=FK x0 x1;have hi:=ih (pre++[x]) f (o++[c.2.2.1]) (by rw[h];simp) (by omega) (by simp;omega);rw[zX,Ap] at hi;have hc':gU (tB l).1 x=some c:=hc;simp only[AP.l8,zh (show(pre.length:Int)<(E.length:Int) by omega),yX,hg,yY,AP.d10,hc',hi1];rw[Ak (by simp;omega),yX,hi];simp[JE,hc]
theorem ajO(t3 t10:Int)(b:Bool)(s:List ze)(yV y_:Int×Int×Int×Int×Int×Unit×Unit)(lf:zI)(E:List Int)(hE:E.length≤1500)(hm:∀p,p∈E→0≤p∧p<(l.length:Int))(zC zL:List Int):∀(post pre:List Int) (f:Nat) (o:List ByteArray),E=pre++post→post.length<f→o.length≤pre.length→
 AP.KV k f t3 t10 (E.length:Int) (pre.length:Int) (mR b) (tB l) af s yV y_ lf o E zC zL=AP.d18 k t3 t10 (mR b) (tB l) af s yV y_ lf (o++post.map (Ib l)) zC zL:=by
 intro post
 induction post with
 |nil=>
  intro pre f o h hf ho;obtain⟨f,rfl⟩:∃q,f=q+1:=⟨f-1,by omega⟩;have hlen:E.length=pre.length:=by rw[h];simp
  simp only[AP.KV,zk (show ¬((pre.length:Int)<(E.length:Int)) by omega),yZ,List.map_nil,AO]
 |cons x post ih=>
  intro pre f o h hf ho;simp only[Ah] at hf;obtain⟨f,rfl⟩:∃q,f=q+1:=⟨f-1,by omega⟩;have hlen:E.length=pre.length+(post.length+1):=by rw[h];simp
  have hg:gU E (pre.length:Int)=some x:=by rw[h];exact AX _ _ _
  have hi1:IntKind.wrap .i64 ((pre.length:Int)+1)=((pre.length+1:Nat):Int):=by rw[zg (by omega) (by omega)];omega
  obtain⟨x0,x1⟩:=hm x (by rw[h];simp);obtain⟨c,hc,_⟩:=FK x0 x1;have hi:=ih (pre++[x]) f (o++[c.2.2.2.1]) (by rw[h];simp) (by omega) (by simp;omega);rw[zX,Ap] at hi;have hc':gU (tB l).1 x=some c:=hc;simp only[AP.KV,zh (show(pre.length:Int)<(E.length:Int) by omega),yX,hg,yY,hc',hi1];rw[Ak (by simp;omega),yX,hi];simp[Ib,hc]
theorem QE(a:Nat)(ha:a<l.length):(CO k l a= -1∧∀(D:Option Unit),True)∨(∃q:Nat,CO k l a=q∧a<q∧q<l.length∧fV k l a 3=q∧∃n,l[q]?=some n∧n.1=12):=by
 obtain⟨_,_,g3⟩:=GD k (by omega) h a ha 3;unfold CO;rcases g3 with g3|⟨q,g3,q1,q2⟩
 ·left;rw[g3,if_pos (by omega)];exact⟨rfl,fun _=>trivial⟩
 ·rw[g3,if_neg (by omega),zQ,AA q2]
  simp only[Option.map_some,Option.getD_some];split
  ·rename_i h12
   exact .inr ⟨q,rfl,q1,q2,rfl,_,AA q2,h12⟩
  ·exact .inl ⟨rfl,fun _=>trivial⟩
variable(s:List ze)(hn:∀c,c∈s→c.1.size<k∧c.1.size<1000000000∧Ae c.2.2.2.1)(hS:ET s)(hok:Eb k s=some true)(hok2:Ex k s=some true)
include hn hS hok hok2
theorem TE(j:Int):Gu k s j=some ((),FI k s j)∧Gm k s j=some ((),FI k s j)∧(FI k s j).length≤20:=by
 obtain⟨N,e1,e2,e3⟩:=path_eq k s hn hk hS hok hok2 j;have:FI k s j=N:=by unfold FI;rw[e1];rfl
 rw[this];exact⟨e1,e2,e3⟩
theorem ajA(a:Nat)(ha:a<l.length)(j:Int)(b:Bool):
 AP k (a:Int) j (mR b) (tB l) af s=some (((C9 k l a j).1,(C9 k l a j).2.1,(C9 k l a j).2.2.1,(C9 k l a j).2.2.2.1,(C9 k l a j).2.2.2.2.1,(),()),(mR (b|| !EY k l s false a j),tB l,af,s,(C9 k l a j).2.2.2.2.2.1)):=by
 have hk2:2000≤k:=by omega
 obtain⟨_,g2,g3⟩:=GD k hk2 h a ha 3;unfold AP;simp only[g2,yY];rcases QE k hk h a ha with⟨ho,_⟩|⟨q,ho,q1,q2,q3,n,hnq,h12⟩
 ·have hbad:(cond (decide (fV k l a 3<0)) (some true) ((gU (tB l).1 (fV k l a 3)).bind fun K_=>some (K_.1 !=12)))=some true:=by
   rcases g3 with g3|⟨q,g3,q1,q2⟩
   ·rw[g3];rfl
   ·rw[g3,zk (by omega),yZ,zQ,show(tB l).1=l from rfl,AA q2]
    unfold CO at ho;rw[g3,if_neg (by omega),zQ,AA q2] at ho;simp only[Option.map_some,Option.getD_some] at ho;split at ho
    ·omega
    ·rename_i h12
     simp only[yY,zO h12]
  rw[hbad];unfold C9 EY;simp only[ho,show((-1:Int)<0) from by omega,if_true,yY,yX,zD,Bool.or_true]
 ·have hgood:(cond (decide (fV k l a 3<0)) (some true) ((gU (tB l).1 (fV k l a 3)).bind fun K_=>some (K_.1 !=12)))=some false:=by
   rw[q3,zk (by omega),yZ,zQ,show(tB l).1=l from rfl,hnq];simp only[yY,zK h12]
  obtain⟨lf,lb,e1,e2,_⟩:=O6 k s hn hk hS hok hok2 j;have hlf:Nl k s j=lf.1:=by unfold Nl;rw[e1];rfl
  obtain⟨_,p2,p3⟩:=TE k hk h s hn hS hok hok2 j;obtain⟨_,_,m1,m2⟩:=Jk k hk2 h q q2 2 5;obtain⟨_,_,m3,m4⟩:=Jk k hk2 h q q2 3 8;obtain⟨_,f2,f3⟩:=GD k hk2 h q q2 11;rw[hgood];simp only[yY,yZ,e2,q3,O9 k hk2 h q q2];have le:=ajD k hk h j (q:Int) (b|| !(pV k l q 2 5).1) s (0,0,0,0,0,(),()) (j,0,(-1),0,0,(),()) lf (pV k l q 2 5).2 m1 m2 [] (pV k l q 2 5).2 [] k [] rfl (by omega) (by simp);rw[List.length_nil,show((0:Nat):Int)=0 from rfl] at le;rw[le];simp only[O9 k hk2 h q q2,yY,List.nil_append];have lp:=ajO k hk h j (q:Int) (b|| !(pV k l q 2 5).1|| !(pV k l q 3 8).1) s (0,0,0,0,0,(),()) (j,0,(-1),0,0,(),()) lf (pV k l q 3 8).2 m3 m4 [] ((pV k l q 2 5).2.map (JE l)) (pV k l q 3 8).2 [] k [] rfl (by omega) (by simp);rw[List.length_nil,show((0:Nat):Int)=0 from rfl] at lp;rw[lp,List.nil_append];have hsE:=alj k ((pV k l q 3 8).2.map (Ib l)) (FI k s j) (by rw[List.length_map];omega) (by rw[List.length_map];omega) (by omega)
  have tail:∀b':Bool,AP.c20 k (q:Int) (mR b') (tB l) af s (0,0,0,0,0,(),()) (j,0,(-1),0,0,(),()) [] ((pV k l q 2 5).2.map (JE l))=
   some (((C9 k l a j).1,(C9 k l a j).2.1,(C9 k l a j).2.2.1,(C9 k l a j).2.2.2.1,(C9 k l a j).2.2.2.2.1,(),()),(mR (b'|| !((nV k l q 5).2&&(nV k l q 6).2&&((nV k l q 7).2&&((nV k l q 7).1==(nV k l q 6).1))&&(nV k l q 9).2&&(if fV k l q 11<0 then true else(nV k l q 11).2&&((nV k l q 11).1 != -1)))),tB l,af,s,(C9 k l a j).2.2.2.2.2.1)):=by
   intro b';unfold AP.c20 AP.d22 AP.c24 AP.c28 C9;rw[ho,if_neg (by omega)];have hm7:(((nV k l q 7).1 !=(nV k l q 6).1))= !((nV k l q 7).1==(nV k l q 6).1):=rfl;simp only[Mg k hk2 h q q2,yY,hm7];have hbne:((nV k l q 11).1 != -1)= !((nV k l q 11).1== -1):=rfl;cases h7:((nV k l q 7).1==(nV k l q 6).1)
   all_goals
    simp only[zq,zD,yX,yZ,Mg k hk2 h q q2,yY,f2];by_cases hf:fV k l q 11<0
    ·rw[zk (show ¬fV k l q 11≥0 by omega),if_pos hf,if_pos hf]
     cases b'<;>cases(nV k l q 5).2<;>cases(nV k l q 6).2<;>cases(nV k l q 7).2<;>cases(nV k l q 9).2<;>rfl
    ·rw[zh (show fV k l q 11≥0 by omega),if_neg hf,if_neg hf,hbne]
     simp only[yX,Mg k hk2 h q q2,yY,cst];cases b'<;>cases(nV k l q 5).2<;>cases(nV k l q 6).2<;>cases(nV k l q 7).2<;>cases(nV k l q 9).2<;>cases(nV k l q 11).2<;>cases((nV k l q 11).1== -1)<;>rfl
  unfold AP.d18;have hm1:(((nV k l q 1).1 !=lf.1))= !((nV k l q 1).1==lf.1):=rfl;have hm4:(((nV k l q 4).1 !=0))= !((nV k l q 4).1==0):=rfl;simp only[Mg k hk2 h q q2,yY,hm1,hm4,yX,p2,hsE]
  have hfin:EY k l s false a j=((pV k l q 2 5).1&&(pV k l q 3 8).1&&((nV k l q 1).2&&((nV k l q 1).1==lf.1))&&((nV k l q 4).2&&((nV k l q 4).1==0))&&decide ((pV k l q 3 8).2.map (Ib l)=FI k s j)&&
   ((nV k l q 5).2&&(nV k l q 6).2&&((nV k l q 7).2&&((nV k l q 7).1==(nV k l q 6).1))&&(nV k l q 9).2&&(if fV k l q 11<0 then true else(nV k l q 11).2&&((nV k l q 11).1 != -1)))):=by
   unfold EY;rw[ho,if_neg (by omega),hlf];simp only[Bool.and_assoc,Bool.false_eq_true,if_false]
  generalize hC:((nV k l q 5).2&&(nV k l q 6).2&&((nV k l q 7).2&&((nV k l q 7).1==(nV k l q 6).1))&&(nV k l q 9).2&&(if fV k l q 11<0 then true else(nV k l q 11).2&&((nV k l q 11).1 != -1)))=C at tail hfin;rw[hfin];generalize(pV k l q 2 5).1=x1;generalize(pV k l q 3 8).1=x2;generalize(nV k l q 1).2=x3;generalize(nV k l q 4).2=x4;generalize decide ((pV k l q 3 8).2.map (Ib l)=FI k s j)=x5;generalize((nV k l q 4).1==0)=x7;cases((nV k l q 1).1==lf.1) with
  |false=>
   simp only[zD,yX];refine(tail true).trans ?_;cases b<;>cases x1<;>cases x2<;>cases x3<;>cases x4<;>cases x5<;>cases x7<;>cases C<;>rfl
  |true=>
   simp only[zq,yZ];cases x7 with
   |false=>
    simp only[zD,yX];refine(tail true).trans ?_;cases b<;>cases x1<;>cases x2<;>cases x3<;>cases x4<;>cases x5<;>cases C<;>rfl
   |true=>
    simp only[zq,yZ];cases x5 with
    |false=>
     simp only[zD,yX];refine(tail true).trans ?_;cases b<;>cases x1<;>cases x2<;>cases x3<;>cases x4<;>cases C<;>rfl
    |true=>
     simp only[zq,yZ];refine(tail _).trans ?_;cases b<;>cases x1<;>cases x2<;>cases x3<;>cases x4<;>cases C<;>rfl
end
section
variable(k:Nat)(hk:2000000≤k){l:List zf}{af:List Int}(h:D7 l af)
include hk h
theorem ajB(q:Nat)(hq:q<l.length):∃O,FN k l (q:Int) [1,4,5,6,7,9]=some (((),(nV k l q 1).2&&((nV k l q 4).2&&((nV k l q 5).2&&((nV k l q 6).2&&((nV k l q 7).2&&(nV k l q 9).2))))),O)∧
 (((nV k l q 1).2&&((nV k l q 4).2&&((nV k l q 5).2&&((nV k l q 6).2&&((nV k l q 7).2&&(nV k l q 9).2)))))=true→O=[(nV k l q 1).1,(nV k l q 4).1,(nV k l q 5).1,(nV k l q 6).1,(nV k l q 7).1,(nV k l q 9).1]):=by
 have n1:=fun id=>(IP k (by omega) h q hq id).1
 have key:∀f,7≤f→∃O,FN.l3 k f l (q:Int) [1,4,5,6,7,9] 0 []=some (((),(nV k l q 1).2&&((nV k l q 4).2&&((nV k l q 5).2&&((nV k l q 6).2&&((nV k l q 7).2&&(nV k l q 9).2))))),O)∧
  (((nV k l q 1).2&&((nV k l q 4).2&&((nV k l q 5).2&&((nV k l q 6).2&&((nV k l q 7).2&&(nV k l q 9).2)))))=true→O=[(nV k l q 1).1,(nV k l q 4).1,(nV k l q 5).1,(nV k l q 6).1,(nV k l q 7).1,(nV k l q 9).1]):=by
  intro f hf;obtain⟨f,rfl⟩:∃g,f=g+7:=⟨f-7,by omega⟩;have r0:gU [(1:Int),4,5,6,7,9] 0=some 1:=rfl;have r1:gU [(1:Int),4,5,6,7,9] 1=some 4:=rfl;have r2:gU [(1:Int),4,5,6,7,9] 2=some 5:=rfl;have r3:gU [(1:Int),4,5,6,7,9] 3=some 6:=rfl;have r4:gU [(1:Int),4,5,6,7,9] 4=some 7:=rfl;have r5:gU [(1:Int),4,5,6,7,9] 5=some 9:=rfl;have w0:IntKind.wrap .i64 (0+1)=1:=by decide
  have w1:IntKind.wrap .i64 (1+1)=2:=by decide
  have w2:IntKind.wrap .i64 (2+1)=3:=by decide
  have w3:IntKind.wrap .i64 (3+1)=4:=by decide
  have w4:IntKind.wrap .i64 (4+1)=5:=by decide
  have w5:IntKind.wrap .i64 (5+1)=6:=by decide
  have L6:(([(1:Int),4,5,6,7,9].length:Nat):Int)=6:=rfl;simp only[FN.l3,L6,show decide ((0:Int)<6)=true by decide,show decide ((1:Int)<6)=true by decide,show decide ((2:Int)<6)=true by decide,show decide ((3:Int)<6)=true by decide,show decide ((4:Int)<6)=true by decide,show decide ((5:Int)<6)=true by decide,show decide ((6:Int)<6)=false by decide,yX,yZ,r0,r1,r2,r3,r4,r5,w0,w1,w2,w3,w4,w5,yY,n1];cases(nV k l q 1).2 with
  |false=>exact⟨_,rfl,fun h=>by cases h⟩
  |true=>
   simp only[zq,yZ,Bj];rw[Ak (by simp),yX];cases(nV k l q 4).2 with
   |false=>exact⟨_,rfl,fun h=>by cases h⟩
   |true=>
    simp only[zq,yZ,Bj];rw[Ak (by simp),yX];cases(nV k l q 5).2 with
    |false=>exact⟨_,rfl,fun h=>by cases h⟩
    |true=>
     simp only[zq,yZ,Bj];rw[Ak (by simp),yX];cases(nV k l q 6).2 with
     |false=>exact⟨_,rfl,fun h=>by cases h⟩
     |true=>
      simp only[zq,yZ,Bj];rw[Ak (by simp),yX];cases(nV k l q 7).2 with
      |false=>exact⟨_,rfl,fun h=>by cases h⟩
      |true=>
       simp only[zq,yZ,Bj];rw[Ak (by simp),yX];cases(nV k l q 9).2 with
       |false=>exact⟨_,rfl,fun h=>by cases h⟩
       |true=>
        simp only[zq,yZ];rw[Ak (by simp),yX];exact⟨_,rfl,fun _=>rfl⟩
 exact key k (by omega)
theorem alx(q:Nat)(hq:q<l.length)(yV y_ c:Int×Int×Int×Int×Int×Unit×Unit)(E:List Int)(hE:E.length≤1500)(hm:∀p,p∈E→0≤p∧p<(l.length:Int))(zx zC:List Int):∀(post pre:List Int) (f:Nat) (o:List Int),E=pre++post→post.length<f→o.length≤pre.length→
 zR.Dp k f l (q:Int) (pre.length:Int) yV y_ E c zx zC o=if fV k l q 11<0 then some ((c,true),o++post.map (JE l)) else if((nV k l q 11).2&&decide (0≤(nV k l q 11).1))=true then some (((c.1,c.2.1,(nV k l q 11).1,c.2.2.2.1,c.2.2.2.2.1,(),()),true),o++post.map (JE l)) else some ((y_,false),zC):=by
 intro post
 induction post with
 |nil=>
  intro pre f o h' hf ho;obtain⟨f,rfl⟩:∃q,f=q+1:=⟨f-1,by omega⟩;have hlen:E.length=pre.length:=by rw[h'];simp
  obtain⟨f1,_,_⟩:=GD k (by omega) h q hq 11;obtain⟨n1,_,_⟩:=IP k (by omega) h q hq 11;simp only[zR.Dp,zk (show ¬((pre.length:Int)<(E.length:Int)) by omega),yZ,List.map_nil,AO,f1,n1,yY,zR.Oh,cst];by_cases hf:fV k l q 11<0
  ·rw[zk (show ¬fV k l q 11≥0 by omega),if_pos hf];rfl
  ·rw[zh (show fV k l q 11≥0 by omega),if_neg hf]
   simp only[yX];by_cases hx:0≤(nV k l q 11).1
   ·rw[zh hx,zk (show ¬(nV k l q 11).1<0 by omega)]
    cases(nV k l q 11).2<;>rfl
   ·rw[zk hx,zh (show(nV k l q 11).1<0 by omega)]
    cases(nV k l q 11).2<;>rfl
 |cons x post ih=>
  intro pre f o h' hf ho;simp only[Ah] at hf;obtain⟨f,rfl⟩:∃q,f=q+1:=⟨f-1,by omega⟩;have hlen:E.length=pre.length+(post.length+1):=by rw[h'];simp
  have hg:gU E (pre.length:Int)=some x:=by rw[h'];exact AX _ _ _
  have hi1:IntKind.wrap .i64 ((pre.length:Int)+1)=((pre.length+1:Nat):Int):=by rw[zg (by omega) (by omega)];omega
  obtain⟨x0,x1⟩:=hm x (by rw[h'];simp);obtain⟨d,hd,_⟩:=FK x0 x1;have hi:=ih (pre++[x]) f (o++[d.2.2.1]) (by rw[h'];simp) (by omega) (by simp;omega);rw[zX,Ap] at hi;simp only[zR.Dp,zh (show(pre.length:Int)<(E.length:Int) by omega),yX,hg,hd,yY,hi1];rw[Ak (by simp;omega),yX,hi];simp[JE,hd]
theorem alT(q:Nat)(j:Int)(yV y_:Int×Int×Int×Int×Int×Unit×Unit)(O EP E:List Int)(hE:E.length≤1500)(hm:∀p,p∈E→0≤p∧p<(l.length:Int))(N:List ByteArray)(hN:N.length=E.length)(zL zA:List Int):∀(m f i:Nat),i+m=E.length→m<f→
 zR.zY k f l j (q:Int) (i:Int) yV y_ O EP E N zL zA=if(E.drop i).map (Ib l)=N.drop i then((gU O 5).bind fun y9=>(gU O 2).bind fun CU=>(gU O 3).bind fun C8=>zR.Dp k k l (q:Int) 0 yV y_ EP (j,y9,(-1),CU,C8,(),()) zL zA []) else some ((y_,false),zA):=by
 intro m
 induction m with
 |zero=>
  intro f i hi hf;obtain⟨f,rfl⟩:∃q,f=q+1:=⟨f-1,by omega⟩;simp only[zR.zY,zk (show ¬((i:Int)<(E.length:Int)) by omega),yZ];rw[List.drop_eq_nil_of_le (by omega),List.drop_eq_nil_of_le (by omega),List.map_nil,if_pos rfl]
 |succ m ih=>
  intro f i hi hf;obtain⟨f,rfl⟩:∃q,f=q+1:=⟨f-1,by omega⟩;have ha:=AA (show i<E.length by omega);have hb:=AA (show i<N.length by omega);have hi1:IntKind.wrap .i64 ((i:Int)+1)=((i+1:Nat):Int):=by rw[zg (by omega) (by omega)];omega
  have da:=List.drop_eq_getElem_cons (show i<E.length by omega);have db:=List.drop_eq_getElem_cons (show i<N.length by omega);rw[da,db];obtain⟨x0,x1⟩:=hm _ (List.mem_of_getElem? ha);generalize E[i]'_=x at ha x0 x1;generalize N[i]'_=y at hb;obtain⟨d,hd,_⟩:=FK x0 x1;simp only[zR.zY,zh (show(i:Int)<(E.length:Int) by omega),yX,zQ,ha,hb,hd,yY,Dv,hi1,List.map_cons];have ht:Ib l x=d.2.2.2.1:=by unfold Ib;rw[hd];rfl
  rw[ht];by_cases hxy:d.2.2.2.1=y
  ·rw[hxy,zh rfl]
   simp only[zq,yZ,List.cons.injEq,true_and];rw[ih f (i+1) (by omega) (by omega)]
  ·rw[zk hxy,if_neg (fun e=>hxy (List.cons.inj e).1)]
   rfl
variable(s:List ze)(hn:∀c,c∈s→c.1.size<k∧c.1.size<1000000000∧Ae c.2.2.2.1)(hS:ET s)(hok:Eb k s=some true)(hok2:Ex k s=some true)
include hn hS hok hok2
theorem alu(a:Nat)(ha:a<l.length)(j:Nat)(hj:j<(Ba 0 s).length):
 ∃hd E,zR k l (a:Int) s (j:Int)=some ((hd,EY k l s true a j),E)∧
  (EY k l s true a j=true→hd=((C9 k l a j).1,(C9 k l a j).2.1,(C9 k l a j).2.2.1,(C9 k l a j).2.2.2.1,(C9 k l a j).2.2.2.2.1,(),())∧E=(C9 k l a j).2.2.2.2.2.1):=by
 have hk2:2000≤k:=by omega
 obtain⟨g1,_,g3⟩:=GD k hk2 h a ha 3;unfold zR;simp only[g1,yY];rcases QE k hk h a ha with⟨ho,_⟩|⟨q,ho,q1,q2,q3,n,hnq,h12⟩
 ·have hbad:(cond (decide (fV k l a 3<0)) (some true) ((gU l (fV k l a 3)).bind fun NY=>some (NY.1 !=12)))=some true:=by
   rcases g3 with g3|⟨q,g3,q1,q2⟩
   ·rw[g3];rfl
   ·rw[g3,zk (by omega),yZ,zQ,AA q2]
    unfold CO at ho;rw[g3,if_neg (by omega),zQ,AA q2] at ho;simp only[Option.map_some,Option.getD_some] at ho;split at ho
    ·omega
    ·rename_i h12
     simp only[yY,zO h12]
  rw[hbad];have hI:EY k l s true a j=false:=by
   unfold EY;rw[ho,if_pos (by omega)]
  rw[hI];simp only[yY,yX];exact⟨_,_,rfl,fun h=>by cases h⟩
 ·have hgood:(cond (decide (fV k l a 3<0)) (some true) ((gU l (fV k l a 3)).bind fun NY=>some (NY.1 !=12)))=some false:=by
   rw[q3,zk (by omega),yZ,zQ,hnq];simp only[yY,zK h12]
  obtain⟨O,i1,i2⟩:=ajB k hk h q q2;obtain⟨p1,_,p3⟩:=TE k hk h s hn hS hok hok2 j;obtain⟨b1,_,m1,m2⟩:=Jk k hk2 h q q2 2 5;obtain⟨b2,_,m3,m4⟩:=Jk k hk2 h q q2 3 8;obtain⟨_,v2⟩:=Jh k (by omega) s (by have:=hS.2.1;omega);obtain⟨lf,lb,e1,_,e3⟩:=O6 k s hn hk hS hok hok2 (j:Int);have hlb:lb=true:=by
   unfold Kq JO at e1;rw[hok] at e1;have hll:=Kh 0 s;have FY:=hS.2.1;simp only[yY,zq,yZ,v2,Bh] at e1;rw[zg (by omega) (by omega),show(decide ((0:Int)≤(j:Int))&&decide ((j:Int)≤((Ba 0 s).length:Int)-1))=true by simp;omega] at e1;simp only[zq,yZ] at e1;cases h1:gU (Ba 0 s) (j:Int) with
   |none=>rw[h1] at e1;cases e1
   |some x=>
    rw[h1] at e1;simp only[yY] at e1;cases h2:Di k s x with
    |none=>rw[h2] at e1;cases e1
    |some y=>
     rw[h2] at e1;simp only[yY] at e1;cases h3:gU s x with
     |none=>rw[h3] at e1;cases e1
     |some z=>
      rw[h3] at e1;simp only[yY,Ao,Prod.mk.injEq] at e1;exact e1.2.symm
  obtain⟨L,c,hL,hc,_,_,hlf⟩:=e3 hlb;have ajq:Nl k s j=c.2.1:=by unfold Nl;rw[e1,hlf];rfl
  have hcr:gU s ((L:Nat):Int)=some c:=hc;rw[hgood,q3];simp only[yY,yZ,i1,b1,b2,p1,zR.d9,yX,v2,hL,hcr]
  have hI:EY k l s true a j=((((nV k l q 1).2&&((nV k l q 4).2&&((nV k l q 5).2&&((nV k l q 6).2&&((nV k l q 7).2&&(nV k l q 9).2)))))&&(pV k l q 2 5).1&&(pV k l q 3 8).1&&((nV k l q 1).1==c.2.1)&&((nV k l q 4).1==0)&&((nV k l q 6).1==(nV k l q 7).1))&&
   decide ((pV k l q 3 8).2.map (Ib l)=FI k s j)&&(if fV k l q 11<0 then true else(nV k l q 11).2&&decide (0≤(nV k l q 11).1))):=by
   unfold EY;rw[ho,if_neg (by omega),ajq,show((nV k l q 7).1==(nV k l q 6).1)=((nV k l q 6).1==(nV k l q 7).1) from by rw[Bool.eq_iff_iff];simp;omega];simp only[if_true];generalize(nV k l q 1).2=x1;generalize(nV k l q 4).2=x2;generalize(nV k l q 5).2=x3;generalize(nV k l q 6).2=x4;generalize(nV k l q 7).2=x5;generalize(nV k l q 9).2=x6;generalize(pV k l q 2 5).1=x7;generalize(pV k l q 3 8).1=x8;cases x1<;>cases x2<;>cases x3<;>cases x4<;>cases x5<;>cases x6<;>cases x7<;>cases x8<;>simp[Bool.and_assoc,Bool.and_comm,Bool.and_left_comm]
  rw[hI];clear hI;generalize hA:((nV k l q 1).2&&((nV k l q 4).2&&((nV k l q 5).2&&((nV k l q 6).2&&((nV k l q 7).2&&(nV k l q 9).2)))))=A at i2;cases A with
  |false=>
   simp only[zD,yX,Cg];exact⟨_,_,rfl,fun h=>by cases h⟩
  |true=>
   obtain rfl:=i2 rfl;simp only[zq,yZ,Bj];cases(pV k l q 2 5).1 with
   |false=>
    simp only[zD,yX,Cg];exact⟨_,_,rfl,fun h=>by cases h⟩
   |true=>
    simp only[zq,yZ,Bj];cases(pV k l q 3 8).1 with
    |false=>
     simp only[zD,yX,Cg];exact⟨_,_,rfl,fun h=>by cases h⟩
    |true=>
     simp only[zq,yZ,Bj];by_cases hlen:(pV k l q 3 8).2.length=(FI k s j).length
     ·have r0:gU [(nV k l q 1).1,(nV k l q 4).1,(nV k l q 5).1,(nV k l q 6).1,(nV k l q 7).1,(nV k l q 9).1] 0=some (nV k l q 1).1:=rfl
      have r1:gU [(nV k l q 1).1,(nV k l q 4).1,(nV k l q 5).1,(nV k l q 6).1,(nV k l q 7).1,(nV k l q 9).1] 1=some (nV k l q 4).1:=rfl;have r2:gU [(nV k l q 1).1,(nV k l q 4).1,(nV k l q 5).1,(nV k l q 6).1,(nV k l q 7).1,(nV k l q 9).1] 2=some (nV k l q 5).1:=rfl;have r3:gU [(nV k l q 1).1,(nV k l q 4).1,(nV k l q 5).1,(nV k l q 6).1,(nV k l q 7).1,(nV k l q 9).1] 3=some (nV k l q 6).1:=rfl;have r4:gU [(nV k l q 1).1,(nV k l q 4).1,(nV k l q 5).1,(nV k l q 6).1,(nV k l q 7).1,(nV k l q 9).1] 4=some (nV k l q 7).1:=rfl;have r5:gU [(nV k l q 1).1,(nV k l q 4).1,(nV k l q 5).1,(nV k l q 6).1,(nV k l q 7).1,(nV k l q 9).1] 5=some (nV k l q 9).1:=rfl;rw[zK (show((pV k l q 3 8).2.length:Int)=((FI k s j).length:Int) by omega)];simp only[yZ,r0,r1,r3,r4,yY,bne];cases((nV k l q 1).1==c.2.1) with
      |false=>
       simp only[zD,yX,Cg];exact⟨_,_,rfl,fun h=>by cases h⟩
      |true=>
       simp only[zq,yZ,Bj];cases((nV k l q 4).1==0) with
       |false=>
        simp only[zD,yX,Cg];exact⟨_,_,rfl,fun h=>by cases h⟩
       |true=>
        simp only[zq,yZ,Bj];cases((nV k l q 6).1==(nV k l q 7).1) with
        |false=>
         simp only[zD,yX,Cg];exact⟨_,_,rfl,fun h=>by cases h⟩
        |true=>
         simp only[zq,yZ,Bj];have lp:=alT k hk h q (j:Int) (0,0,0,0,0,(),()) (0,0,0,0,0,(),()) [(nV k l q 1).1,(nV k l q 4).1,(nV k l q 5).1,(nV k l q 6).1,(nV k l q 7).1,(nV k l q 9).1] (pV k l q 2 5).2 (pV k l q 3 8).2 m3 m4 (FI k s j) hlen.symm [] [] (pV k l q 3 8).2.length k 0 (by omega) (by omega);rw[show((0:Nat):Int)=0 from rfl] at lp;rw[lp,List.drop_zero,List.drop_zero];by_cases hp:(pV k l q 3 8).2.map (Ib l)=FI k s j
         ·rw[if_pos hp,zh hp]
          simp only[r5,r2,r3,yY,Bj];have le:=alx k hk h q q2 (0,0,0,0,0,(),()) (0,0,0,0,0,(),()) ((j:Int),(nV k l q 9).1,(-1),(nV k l q 5).1,(nV k l q 6).1,(),()) (pV k l q 2 5).2 m1 m2 [] [] (pV k l q 2 5).2 [] k [] rfl (by omega) (by simp);rw[List.length_nil,show((0:Nat):Int)=0 from rfl] at le;rw[le];have hch:C9 k l a j=((j:Int),(nV k l q 9).1,(if fV k l q 11<0 then -1 else(nV k l q 11).1),(nV k l q 5).1,(nV k l q 6).1,(pV k l q 2 5).2.map (JE l),()):=by
           unfold C9;rw[ho,if_neg (by omega)]
          rw[hch];by_cases hf:fV k l q 11<0
          ·simp only[if_pos hf,List.nil_append]
           exact⟨_,_,rfl,fun _=>⟨rfl,rfl⟩⟩
          ·simp only[if_neg hf,List.nil_append]
           cases hd:((nV k l q 11).2&&decide (0≤(nV k l q 11).1)) with
           |false=>
            rw[if_neg (by decide)];exact⟨_,_,rfl,fun h=>by cases h⟩
           |true=>
            rw[if_pos rfl];exact⟨_,_,rfl,fun _=>⟨rfl,rfl⟩⟩
         ·rw[if_neg hp,zk hp]
          simp only[Cg];exact⟨_,_,rfl,fun h=>by cases h⟩
     ·rw[zO (show ¬((pV k l q 3 8).2.length:Int)=((FI k s j).length:Int) by omega)]
      have hp:¬(pV k l q 3 8).2.map (Ib l)=FI k s j:=fun e=>hlen (by rw[←e,List.length_map]);rw[zk hp];simp only[yX,Bool.and_false,Cg];exact⟨_,_,rfl,fun h=>by cases h⟩
end
section
variable(k:Nat)
theorem VS(c:BC)(hc:c.2.2.2.2.2.1.length<k)(hl:c.2.2.2.2.2.1.length<4294967296):∀(m f f' i:Nat),i+m=c.2.2.2.2.2.1.length→m<f→m<f'→
 ∃b,EM.l4 k f (i:Int) c=some b∧Je.l2 k f' c.2.2.2.2.2.1 c.2.2.2.2.2.1 (c.2.2.2.2.2.1.length:Int) (i:Int)=some (b&&(decide ((1:Int)≤(c.2.2.2.2.2.1.length:Int))&&decide ((c.2.2.2.2.2.1.length:Int)≤5))):=by
 intro m
 induction m with
 |zero=>
  intro f f' i hi hf hf';obtain⟨f,rfl⟩:∃q,f=q+1:=⟨f-1,by omega⟩;obtain⟨f',rfl⟩:∃q,f'=q+1:=⟨f'-1,by omega⟩;simp only[EM.l4,Je.l2,zk (show ¬((i:Int)<(c.2.2.2.2.2.1.length:Int)) by omega),yZ,Bp,yY];exact⟨true,rfl,by rw[Bj]⟩
 |succ m ih=>
  intro f f' i hi hf hf';obtain⟨f,rfl⟩:∃q,f=q+1:=⟨f-1,by omega⟩;obtain⟨f',rfl⟩:∃q,f'=q+1:=⟨f'-1,by omega⟩;obtain⟨x,hx,_⟩:=FK (xs:=c.2.2.2.2.2.1) (i:=(i:Int)) (by omega) (by omega);have hi1:IntKind.wrap .i64 ((i:Int)+1)=((i+1:Nat):Int):=by rw[zg (by omega) (by omega)];omega
  obtain⟨b,g1,g2⟩:=ih f f' (i+1) (by omega) (by omega) (by omega);simp only[EM.l4,Je.l2,zh (show(i:Int)<(c.2.2.2.2.2.1.length:Int) by omega),yX,EM.d6,hx,yY,Bp,Bh,hi1,g1,g2];cases(decide ((0:Int)≤x)&&decide (x≤9)) with
  |false=>
   simp only[zD,yX,yY];exact⟨false,rfl,by rw[Cg]⟩
  |true=>
   simp only[zq,yZ];by_cases h0:(i:Int)>0
   ·obtain⟨y,hy,_⟩:=FK (xs:=c.2.2.2.2.2.1) (i:=(i:Int)-1) (by omega) (by omega)
    have hm1:IntKind.wrap .i64 ((i:Int)-1)=(i:Int)-1:=zg (by omega) (by omega);simp only[zh h0,yX,hm1,hy,yY];cases decide (y≥x) with
    |true=>
     simp only[yX];exact⟨false,rfl,by rw[Cg]⟩
    |false=>
     simp only[yZ];exact⟨b,rfl,rfl⟩
   ·simp only[zk h0,yZ,yY]
    exact⟨b,rfl,rfl⟩
theorem chunk_eq(c:BC)(hc:c.2.2.2.2.2.1.length<k)(hl:c.2.2.2.2.2.1.length<4294967296)(leaf:Int):∃b,EM k c leaf=some b∧OW k c leaf=some b∧(b=true→-1≤c.2.2.1):=by
 obtain⟨b,g1,g2⟩:=VS k c hc hl c.2.2.2.2.2.1.length k k 0 (by omega) hc hc;rw[show((0:Nat):Int)=0 from rfl] at g1 g2;unfold EM OW Je;simp only[Bh,Bp,yY,cst,Au,g1,g2];generalize h2:(decide ((0:Int)≤c.2.1)&&decide (c.2.1≤60000))=x2;generalize h3:(decide ((-1:Int)≤c.2.2.1)&&decide (c.2.2.1≤60000))=x3;generalize(decide ((1:Int)≤c.2.2.2.1)&&decide (c.2.2.2.1≤2000))=x4;generalize(decide ((0:Int)≤c.2.2.2.2.1)&&decide (c.2.2.2.2.1≤60000))=x5;generalize(decide ((1:Int)≤(c.2.2.2.2.2.1.length:Int))&&decide ((c.2.2.2.2.2.1.length:Int)≤5))=x6;simp only[bne];generalize(c.1==leaf)=x1;have hd:x3=true→-1≤c.2.2.1:=fun h=>by
  rw[h] at h3;simp only[Aa,Al] at h3;exact h3.1
 clear g1 g2 h2 h3;cases x1<;>cases x2<;>cases x3<;>cases x4<;>cases x5<;>cases x6<;>cases b<;>first|exact⟨_,rfl,rfl,fun _=>hd rfl⟩|exact⟨_,rfl,rfl,fun h=>Bool.noConfusion h⟩
end
def Rf(n:Nat)(G:List Ar):Prop:=∀g,g∈G→g.2.1.length=n∧∀c,c∈g.2.1→-1≤c.2.2.1
def Fit(k:Nat)(G:List Ar):Prop:=∀g,g∈G→g.2.1.length<k∧g.2.1.length<4294967296∧∀c,c∈g.2.1→c.2.2.2.2.2.1.length<k∧c.2.2.2.2.2.1.length<4294967296
section
variable(k:Nat)(hk:2000≤k)(s:List ze)(hok:Eb k s=some true)(hok2:Ex k s=some true)(hs:s.length≤1000)
include hk hok hok2 hs
theorem Vy(m:DI)(g:Ar)(L6:Int→Int→DI→List Int→Option Bool)(L5:Int→List Ar→Int→Int→DI→Option Bool)(hfit:g.2.1.length<4294967296∧∀c,c∈g.2.1→c.2.2.2.2.2.1.length<k∧c.2.2.2.2.2.1.length<4294967296)
 (t4 t5:Int) (y_:List Int) (t3:Int) (t19:List Ar) (t20 t21:Int) (x y:Bool) (h6:L6 t4 (IntKind.wrap .i64 (t5+1)) m y_=some x) (h5:L5 (IntKind.wrap .i64 (t3+g.1)) t19 t20 (IntKind.wrap .i64 (t21+1)) m=some y):
 ∀(post pre:List BC) (f f':Nat),g.2.1=pre++post→post.length<f→post.length<f'→
 ∃b,CR.A_ k L6 f t4 t5 (pre.length:Int) m y_ g=some (b&&x)∧CL.l10 k L5 f' t3 t19 t20 t21 g.2.1 (g.2.1.length:Int) (pre.length:Int) m g=some (b&&y)∧(b=true→∀c,c∈post→-1≤c.2.2.1):=by
 intro post
 induction post with
 |nil=>
  intro pre f f' h hf hf';obtain⟨f,rfl⟩:∃q,f=q+1:=⟨f-1,by omega⟩;obtain⟨f',rfl⟩:∃q,f'=q+1:=⟨f'-1,by omega⟩;have hlen:g.2.1.length=pre.length:=by rw[h];simp
  simp only[CR.A_,CL.l10,zk (show ¬((pre.length:Int)<(g.2.1.length:Int)) by omega),yZ,h6,h5];exact⟨true,by simp,by simp,fun _ c hc=>by cases hc⟩
 |cons c post ih=>
  intro pre f f' h hf hf';simp only[Ah] at hf hf';obtain⟨f,rfl⟩:∃q,f=q+1:=⟨f-1,by omega⟩;obtain⟨f',rfl⟩:∃q,f'=q+1:=⟨f'-1,by omega⟩;have hlen:g.2.1.length=pre.length+(post.length+1):=by rw[h];simp
  have hg:gU g.2.1 (pre.length:Int)=some c:=by rw[h];exact AX _ _ _
  have hi1:IntKind.wrap .i64 ((pre.length:Int)+1)=((pre.length+1:Nat):Int):=by rw[zg (by omega) (by omega)];omega
  have hcm:c∈g.2.1:=by rw[h];simp
  obtain⟨b,e1,e2,e3⟩:=chunk_eq k c (hfit.2 c hcm).1 (hfit.2 c hcm).2 (pre.length:Int);obtain⟨b',i1,i2,i3⟩:=ih (pre++[c]) f f' (by rw[h];simp) (by omega) (by omega);rw[zX,Ap] at i1 i2;simp only[CR.A_,CL.l10,zh (show(pre.length:Int)<(g.2.1.length:Int) by omega),yX,hg,yY,e1,e2,hi1,i1,i2];cases b with
  |false=>exact⟨false,rfl,rfl,fun h=>by cases h⟩
  |true=>
   refine⟨b',rfl,rfl,fun hb c' hc'=> ?_⟩;rcases List.mem_cons.1 hc' with rfl|hc'
   ·exact e3 rfl
   ·exact i3 hb c' hc'
theorem ai6(m:DI)(hm:m.1=s)(hfit:Fit k m.2.2.1)(hG:m.2.2.1.length≤40):∀(post pre:List Ar) (f f':Nat) (R:Int),m.2.2.1=pre++post→post.length<f→post.length<f'→0≤R→R≤200*pre.length→
 ∃b,CR.l6 k f R (pre.length:Int) m (Ba 0 s)=some b∧CL.l5 k f' R m.2.2.1 (m.2.2.1.length:Int) (pre.length:Int) m=some (b&&decide (m.2.1≤200))∧(b=true→0≤m.2.1∧Rf (Ba 0 s).length post):=by
 obtain⟨v1,v2⟩:=Jh k hk s hs;intro post
 induction post with
 |nil=>
  intro pre f f' R h hf hf' h0 hR;obtain⟨f,rfl⟩:∃q,f=q+1:=⟨f-1,by omega⟩;obtain⟨f',rfl⟩:∃q,f'=q+1:=⟨f'-1,by omega⟩;have hlen:m.2.2.1.length=pre.length:=by rw[h];simp
  simp only[CR.l6,CL.l5,zk (show ¬((pre.length:Int)<(m.2.2.1.length:Int)) by omega),yZ,Au,yY];refine⟨_,rfl,?_,fun hb=>⟨?_,fun g hg=>by cases hg⟩⟩
  ·by_cases he:R=m.2.1
   ·rw[Ac he,he]
   ·rw[zw he];rfl
  ·simp only[beq_iff_eq] at hb
   omega
 |cons g post ih=>
  intro pre f f' R h hf hf' h0 hR;simp only[Ah] at hf hf';obtain⟨f,rfl⟩:∃q,f=q+1:=⟨f-1,by omega⟩;obtain⟨f',rfl⟩:∃q,f'=q+1:=⟨f'-1,by omega⟩;have hlen:m.2.2.1.length=pre.length+(post.length+1):=by rw[h];simp
  have hg:gU m.2.2.1 (pre.length:Int)=some g:=by rw[h];exact AX _ _ _
  have hgm:g∈m.2.2.1:=by rw[h];simp
  have hi1:IntKind.wrap .i64 ((pre.length:Int)+1)=((pre.length+1:Nat):Int):=by rw[zg (by omega) (by omega)];omega
  simp only[CR.l6,CL.l5,zh (show(pre.length:Int)<(m.2.2.1.length:Int) by omega),yX,hg,yY,Bh,cst,CL.d7,Bp,hm,v1];by_cases hr:1≤g.1∧g.1≤200
  ·have hw:(decide ((1:Int)≤g.1)&&decide (g.1≤200))=true:=by simp;omega
   have Sz:IntKind.wrap .i64 (R+g.1)=R+g.1:=zg (by omega) (by omega);simp only[hw,zq,Aq,yZ,yY];by_cases hn:g.2.1.length=(Ba 0 s).length
   ·rw[zK (show((g.2.1.length:Int))=((Ba 0 s).length:Int) by omega),yZ,yZ]
    obtain⟨b',i1,i2,i3⟩:=ih (pre++[g]) f f' (R+g.1) (by rw[h];simp) (by omega) (by omega) (by omega) (by simp;omega);rw[zX,Ap] at i1 i2;obtain⟨b,c1,c2,c3⟩:=Vy k hk s hok hok2 hs m g (CR.l6 k f) (CL.l5 k f') (hfit g hgm).2 (IntKind.wrap .i64 (R+g.1)) (pre.length:Int) (Ba 0 s) R m.2.2.1 (m.2.2.1.length:Int) (pre.length:Int) b' (b'&&decide (m.2.1≤200)) (by rw[Sz,hi1];exact i1) (by rw[Sz,hi1];exact i2) g.2.1 [] k k rfl (hfit g hgm).1 (hfit g hgm).1;rw[List.length_nil,show((0:Nat):Int)=0 from rfl] at c1 c2;rw[c1,c2];refine⟨_,rfl,by rw[Bool.and_assoc],fun hb=> ?_⟩;simp only[Aa] at hb;obtain⟨q1,q2⟩:=i3 hb.2;refine⟨q1,fun g' hg'=> ?_⟩;rcases List.mem_cons.1 hg' with rfl|hg'
    ·exact⟨hn,c3 hb.1⟩
    ·exact q2 g' hg'
   ·rw[zO (show ¬((g.2.1.length:Int))=((Ba 0 s).length:Int) by omega),yX,yX]
    exact⟨false,rfl,rfl,fun h=>by cases h⟩
  ·have hw:(decide ((1:Int)≤g.1)&&decide (g.1≤200))=false:=by
    rw[Bool.eq_false_iff];intro q;simp only[Aa,Al] at q;exact hr q
   simp only[hw,zD,Ag,yX];exact⟨false,rfl,rfl,fun h=>by cases h⟩
theorem akq(rows:Int)(G:List Ar)(hfit:Fit k G):∃b,CR k (s,rows,G,())=some b∧CL k (s,rows,G,())=some b∧(b=true→G.length≤40∧0≤rows∧rows≤200∧Rf (Ba 0 s).length G):=by
 obtain⟨v1,v2⟩:=Jh k hk s hs;unfold CR CL JO;simp only[hok,hok2,v2,yY,zq,yZ,cst,Aq,Bh];by_cases hG:G.length≤40
 ·rw[zk (show ¬((G.length:Int)>40) by omega)]
  obtain⟨b,e1,e2,e3⟩:=ai6 k hk s hok hok2 hs (s,rows,G,()) rfl hfit hG G [] k k 0 rfl (by omega) (by omega) (by omega) (by simp);have e1:CR.l6 k k 0 0 (s,rows,G,()) (Ba 0 s)=some b:=e1;have e2:CL.l5 k k 0 G (G.length:Int) 0 (s,rows,G,())=some (b&&decide (rows≤200)):=e2;simp only[Aq,yZ,e2];by_cases hr:0≤rows∧rows≤200
  ·rw[show(decide ((0:Int)≤rows)&&decide (rows≤200))=true by simp;omega,zh hr.2]
   simp only[zq,yZ,Bool.and_true,e1];exact⟨b,rfl,rfl,fun h=>⟨hG,hr.1,hr.2,(e3 h).2⟩⟩
  ·rw[show(decide ((0:Int)≤rows)&&decide (rows≤200))=false by rw[Bool.eq_false_iff];intro q;simp only[Aa,Al] at q;exact hr q]
   simp only[zD,yX];refine⟨false,rfl,?_,fun h=>by cases h⟩;cases b with
   |false=>rfl
   |true=>
    have:=(e3 rfl).1;have this:0≤rows:=this;rw[zk (show ¬rows≤200 by omega)];rfl
 ·rw[zh (show((G.length:Int)>40) by omega)]
  exact⟨false,rfl,rfl,fun h=>by cases h⟩
end
def D8(k:Nat)(l:List zf)(s:List ze)(strict:Bool):Nat→List Int→Bool
 |_,[]=>true
 |j,p::r=>EY k l s strict p j&&D8 k l s strict (j+1) r
def EZ(k:Nat)(l:List zf):Nat→List Int→List BC
 |_,[]=>[]
 |j,p::r=>C9 k l p j::EZ k l (j+1) r
theorem P7(k:Nat)(l:List zf):∀(r:List Int) (j:Nat),(EZ k l j r).length=r.length
 |[],_=>rfl
 |p::r,j=>by simp[EZ,P7 k l r (j+1)]
def Jb(k:Nat)(l:List zf)(s:List ze)(a:Int):Bool:=(nV k l a 3).2&&(pV k l a 1 12).1&&(D8 k l s false 0 (pV k l a 1 12).2&&decide ((pV k l a 1 12).2.length≤20))
def Lv(k:Nat)(l:List zf)(s:List ze)(a:Int):Bool:=(nV k l a 3).2&&(pV k l a 1 12).1&&(decide ((pV k l a 1 12).2.length=(Ba 0 s).length)&&D8 k l s true 0 (pV k l a 1 12).2)
def G_(k:Nat)(l:List zf)(a:Int):Ar:=((nV k l a 3).1,EZ k l 0 (pV k l a 1 12).2,())
abbrev KY:((Unit×Int×Unit×Unit)×Bool)×(List ze)×(List Ar):=((((),0,(),()),false),([],[]))
section
variable(k:Nat)(hk:2000000≤k){l:List zf}{af:List Int}(h:D7 l af)
variable(s:List ze)(hn:∀c,c∈s→c.1.size<k∧c.1.size<1000000000∧Ae c.2.2.2.1)(hS:ET s)(hok:Eb k s=some true)(hok2:Ex k s=some true)
include hk h hn hS hok hok2
theorem ajH(yV y_:Int×Unit×Unit)(ps:List Int)(hps:ps.length≤1500)(hm:∀p,p∈ps→0≤p∧p<(l.length:Int))(zu:List BC):∀(post pre:List Int) (f:Nat) (b:Bool) (acc:List BC),ps=pre++post→post.length<f→acc.length≤pre.length→(b=false→pre.length≤20)→
 ∃acc',Fa.l4 k f (ps.length:Int) (pre.length:Int) (mR b) (tB l) af s yV y_ ps zu acc=some (y_,(mR (b|| !(D8 k l s false pre.length post&&decide (ps.length≤20))),tB l,af,s,acc'))∧((b|| !(D8 k l s false pre.length post&&decide (ps.length≤20)))=false→acc'=acc++EZ k l pre.length post):=by
 intro post
 induction post with
 |nil=>
  intro pre f b acc h' hf ha hb;obtain⟨f,rfl⟩:∃q,f=q+1:=⟨f-1,by omega⟩;have hlen:ps.length=pre.length:=by rw[h'];simp
  simp only[Fa.l4,zk (show ¬((pre.length:Int)<(ps.length:Int)) by omega),yZ,Fa.c11,D8,EZ,AO,Bj];cases b with
  |true=>exact⟨_,rfl,fun h=>by cases h⟩
  |false=>
   have:=hb rfl;rw[zh (show ps.length≤20 by omega)];exact⟨_,rfl,fun _=>rfl⟩
 |cons x post ih=>
  intro pre f b acc h' hf ha hb;simp only[Ah] at hf;obtain⟨f,rfl⟩:∃q,f=q+1:=⟨f-1,by omega⟩;have hlen:ps.length=pre.length+(post.length+1):=by rw[h'];simp
  have hg:gU ps (pre.length:Int)=some x:=by rw[h'];exact AX _ _ _
  have hi1:IntKind.wrap .i64 ((pre.length:Int)+1)=((pre.length+1:Nat):Int):=by rw[zg (by omega) (by omega)];omega
  obtain⟨x0,x1⟩:=hm x (by rw[h'];simp);obtain⟨a,rfl⟩:=Int.eq_ofNat_of_zero_le x0;simp only[Fa.l4,zh (show(pre.length:Int)<(ps.length:Int) by omega),yX,hg,yY,cst,Fa.c11];cases b with
  |true=>
   simp only[Ag,yX];exact⟨_,rfl,fun h=>by cases h⟩
  |false=>
   simp only[Aq];by_cases h20:20≤pre.length
   ·rw[zh (show(pre.length:Int)≥20 by omega),yX,zk (show ¬ps.length≤20 by omega),Bool.and_false]
    exact⟨_,rfl,fun h=>by cases h⟩
   ·rw[zk (show ¬(pre.length:Int)≥20 by omega),yZ,ajA k hk h s hn hS hok hok2 a (by omega) (pre.length:Int) false]
    simp only[yY,hi1,Aq];rw[Ak (by simp;omega),yX];obtain⟨acc',e1,e2⟩:=ih (pre++[(a:Int)]) f (!EY k l s false a pre.length) (acc++[C9 k l a pre.length]) (by rw[h'];simp) (by omega) (by simp;omega) (fun _=>by simp;omega);rw[zX,Ap] at e1 e2;have hb':((!EY k l s false (a:Int) (pre.length:Int))|| !(D8 k l s false (pre.length+1) post&&decide (ps.length≤20)))= !(D8 k l s false pre.length ((a:Int)::post)&&decide (ps.length≤20)):=by
     simp only[D8];cases EY k l s false (a:Int) (pre.length:Int)<;>rfl
    rw[hb'] at e1 e2;refine⟨acc',e1,fun hh=> ?_⟩;rw[e2 hh];simp[EZ]
theorem SY(a:Nat)(ha:a<l.length)(b:Bool):∃C,Fa k (a:Int) (mR b) (tB l) af s=some (((nV k l a 3).1,(),()),(mR (b|| !Jb k l s a),tB l,af,s,C))∧((b|| !Jb k l s a)=false→C=EZ k l 0 (pV k l a 1 12).2):=by
 have hk2:2000≤k:=by omega
 obtain⟨_,_,m1,m2⟩:=Jk k hk2 h a ha 1 12;unfold Fa;simp only[Mg k hk2 h a ha,O9 k hk2 h a ha,yY];obtain⟨C,e1,e2⟩:=ajH k hk h s hn hS hok hok2 (0,(),()) ((nV k l a 3).1,(),()) (pV k l a 1 12).2 m1 m2 [] (pV k l a 1 12).2 [] k (b|| !(nV k l a 3).2|| !(pV k l a 1 12).1) [] rfl (by omega) (by simp) (fun _=>by simp);rw[List.length_nil,show((0:Nat):Int)=0 from rfl] at e1;rw[List.length_nil] at e2;have hb:(b|| !(nV k l a 3).2|| !(pV k l a 1 12).1|| !(D8 k l s false 0 (pV k l a 1 12).2&&decide ((pV k l a 1 12).2.length≤20)))=(b|| !Jb k l s a):=by
  unfold Jb;cases b<;>cases(nV k l a 3).2<;>cases(pV k l a 1 12).1<;>rfl
 rw[hb] at e1 e2;exact⟨C,e1,fun hh=>by rw[e2 hh];rfl⟩
theorem ajI(yV y_:Unit×Int×Unit×Unit)(gs:List Int)(hgs:gs.length≤1500)(hm:∀p,p∈gs→0≤p∧p<(l.length:Int))(zx:List ze)(zC:List Ar):∀(post pre:List Int) (f:Nat) (b:Bool) (G:List Ar),gs=pre++post→post.length<f→G.length≤pre.length→
 Gn.AL k f (gs.length:Int) (pre.length:Int) yV y_ (mR b) gs zx zC s G (tB l) af=if(b|| !post.all (Jb k l s))=true then some KY else(CL k (s,y_.2.1,G++post.map (G_ k l),())).bind fun r=>cond (!r) (some KY) (some ((y_,true),(s,G++post.map (G_ k l)))):=by
 have bad:∀(post pre:List Int) (f:Nat) (G:List Ar),gs=pre++post→post.length<f→G.length≤pre.length→Gn.AL k f (gs.length:Int) (pre.length:Int) yV y_ (mR true) gs zx zC s G (tB l) af=some KY:=by
  intro post
  induction post with
  |nil=>
   intro pre f G h' hf hG;obtain⟨f,rfl⟩:∃q,f=q+1:=⟨f-1,by omega⟩;have hlen:gs.length=pre.length:=by rw[h'];simp
   simp only[Gn.AL,zk (show ¬((pre.length:Int)<(gs.length:Int)) by omega),yZ,yX,yY]
  |cons x post ih=>
   intro pre f G h' hf hG;simp only[Ah] at hf;obtain⟨f,rfl⟩:∃q,f=q+1:=⟨f-1,by omega⟩;have hlen:gs.length=pre.length+(post.length+1):=by rw[h'];simp
   have hg:gU gs (pre.length:Int)=some x:=by rw[h'];exact AX _ _ _
   have hi1:IntKind.wrap .i64 ((pre.length:Int)+1)=((pre.length+1:Nat):Int):=by rw[zg (by omega) (by omega)];omega
   obtain⟨x0,x1⟩:=hm x (by rw[h'];simp);obtain⟨a,rfl⟩:=Int.eq_ofNat_of_zero_le x0;obtain⟨C,e1,_⟩:=SY k hk h s hn hS hok hok2 a (by omega) true;simp only[Gn.AL,zh (show(pre.length:Int)<(gs.length:Int) by omega),yX,hg,yY,e1,hi1,Ag];rw[Ak (by simp;omega),yX];have:=ih (pre++[(a:Int)]) f (G++[((nV k l a 3).1,C,())]) (by rw[h'];simp) (by omega) (by simp;omega);rw[zX,Ap] at this;exact this
 intro post
 induction post with
 |nil=>
  intro pre f b G h' hf hG;cases b with
  |true=>rw[bad [] pre f G h' hf hG];rfl
  |false=>
   obtain⟨f,rfl⟩:∃q,f=q+1:=⟨f-1,by omega⟩;have hlen:gs.length=pre.length:=by rw[h'];simp
   simp only[Gn.AL,zk (show ¬((pre.length:Int)<(gs.length:Int)) by omega),yZ,List.all_nil,zq,Bt,Bool.false_eq_true,if_false,List.map_nil,AO];cases CL k (s,y_.2.1,G,()) with
   |none=>rfl
   |some r=>rfl
 |cons x post ih=>
  intro pre f b G h' hf hG;cases b with
  |true=>rw[bad (x::post) pre f G h' hf hG];rfl
  |false=>
   simp only[Ah] at hf;obtain⟨f,rfl⟩:∃q,f=q+1:=⟨f-1,by omega⟩;have hlen:gs.length=pre.length+(post.length+1):=by rw[h'];simp
   have hg:gU gs (pre.length:Int)=some x:=by rw[h'];exact AX _ _ _
   have hi1:IntKind.wrap .i64 ((pre.length:Int)+1)=((pre.length+1:Nat):Int):=by rw[zg (by omega) (by omega)];omega
   obtain⟨x0,x1⟩:=hm x (by rw[h'];simp);obtain⟨a,rfl⟩:=Int.eq_ofNat_of_zero_le x0;obtain⟨C,e1,e2⟩:=SY k hk h s hn hS hok hok2 a (by omega) false;simp only[Gn.AL,zh (show(pre.length:Int)<(gs.length:Int) by omega),yX,hg,yY,e1,hi1,Aq];rw[Ak (by simp;omega),yX];have:=ih (pre++[(a:Int)]) f (!Jb k l s a) (G++[((nV k l a 3).1,C,())]) (by rw[h'];simp) (by omega) (by simp;omega);rw[zX,Ap] at this;rw[this];simp only[List.all_cons,List.map_cons];cases hgr:Jb k l s (a:Int) with
   |false=>rfl
   |true=>
    have hC:=e2 (by rw[hgr];rfl);subst hC;simp only[zq,Aq,Bj,Bu,List.singleton_append];rfl
theorem alC(KD:(List zf)→Int→(Unit×Int×Unit×Unit)→(Unit×Int×Unit×Unit)→(List ze)→(List Int)→(Unit×Int×Unit×Unit)→(List ze)→(List Ar)→(List ze)→(List Ar)→(List Ar)→Option (((Unit×Int×Unit×Unit)×Bool)×(List ze)×(List Ar)))
 (t12:Int) (yV:Unit×Int×Unit×Unit) (gs:List Int) (zx:Unit×Int×Unit×Unit) (ps:List Int) (hps:ps.length=(Ba 0 s).length) (ang:ps.length≤1500) (hm:∀p,p∈ps→0≤p∧p<(l.length:Int)) (rows:Int) (zA:List ze) (IQ:List Ar) (G:List Ar) (hG:G.length≤10000):
 ∀(post pre:List Int) (f:Nat) (acc:List BC),ps=pre++post→post.length<f→acc.length≤pre.length→
 Es.EK k KD f l t12 (pre.length:Int) yV ((),0,(),()) s gs zx ps (rows,(),()) zA IQ [] [] G acc=if D8 k l s true pre.length post=true then KD l (IntKind.wrap .i64 (t12+1)) yV ((),0,(),()) s gs zx zA IQ [] [] (G++[(rows,acc++EZ k l pre.length post,())]) else some KY:=by
 intro post
 induction post with
 |nil=>
  intro pre f acc h' hf ha;obtain⟨f,rfl⟩:∃q,f=q+1:=⟨f-1,by omega⟩;have hlen:ps.length=pre.length:=by rw[h'];simp
  simp only[Es.EK,zk (show ¬((pre.length:Int)<(ps.length:Int)) by omega),yZ,D8,EZ,AO,if_true];rw[Ak (by simp;omega),yX]
 |cons x post ih=>
  intro pre f acc h' hf ha;simp only[Ah] at hf;obtain⟨f,rfl⟩:∃q,f=q+1:=⟨f-1,by omega⟩;have hlen:ps.length=pre.length+(post.length+1):=by rw[h'];simp
  have hg:gU ps (pre.length:Int)=some x:=by rw[h'];exact AX _ _ _
  have hi1:IntKind.wrap .i64 ((pre.length:Int)+1)=((pre.length+1:Nat):Int):=by rw[zg (by omega) (by omega)];omega
  obtain⟨x0,x1⟩:=hm x (by rw[h'];simp);obtain⟨a,rfl⟩:=Int.eq_ofNat_of_zero_le x0;obtain⟨hd,E,e1,e2⟩:=alu k hk h s hn hS hok hok2 a (by omega) pre.length (by omega);simp only[Es.EK,zh (show(pre.length:Int)<(ps.length:Int) by omega),yX,hg,yY,e1,hi1,D8];by_cases hc:EY k l s true (a:Int) (pre.length:Int)=true
  ·obtain⟨rfl,rfl⟩:=e2 hc
   simp only[hc,zq,yZ,Bj];rw[Ak (by simp;omega),yX];have:=ih (pre++[(a:Int)]) f (acc++[C9 k l a pre.length]) (by rw[h'];simp) (by omega) (by simp;omega);rw[zX,Ap] at this;refine this.trans ?_;simp only[EZ,Bu,List.singleton_append]
  ·have hc:=Bool.eq_false_iff.2 hc
   simp only[hc,zD,yX,Cg,Bool.false_eq_true,if_false]
theorem alD(yV:Unit×Int×Unit×Unit)(gs:List Int)(hgs:gs.length≤1500)(hm:∀p,p∈gs→0≤p∧p<(l.length:Int))(zx:Unit×Int×Unit×Unit)(zC:List ze)(zL:List Ar):∀(post pre:List Int) (f:Nat) (G:List Ar),gs=pre++post→post.length<f→G.length≤pre.length→
 Es.AL k f l (pre.length:Int) yV ((),0,(),()) s gs zx zC zL [] [] G=if post.all (Lv k l s)=true then(CR k (s,zx.2.1,G++post.map (G_ k l),())).bind fun r=>cond (!r) (some KY) (some ((zx,true),(s,G++post.map (G_ k l)))) else some KY:=by
 have hk2:2000≤k:=by omega
 obtain⟨_,v2⟩:=Jh k hk2 s (by have:=hS.2.1;omega);intro post
 induction post with
 |nil=>
  intro pre f G h' hf hG;obtain⟨f,rfl⟩:∃q,f=q+1:=⟨f-1,by omega⟩;have hlen:gs.length=pre.length:=by rw[h'];simp
  simp only[Es.AL,zk (show ¬((pre.length:Int)<(gs.length:Int)) by omega),yZ,List.all_nil,if_true,List.map_nil,AO]
 |cons x post ih=>
  intro pre f G h' hf hG;simp only[Ah] at hf;obtain⟨f,rfl⟩:∃q,f=q+1:=⟨f-1,by omega⟩;have hlen:gs.length=pre.length+(post.length+1):=by rw[h'];simp
  have hg:gU gs (pre.length:Int)=some x:=by rw[h'];exact AX _ _ _
  have hi1:IntKind.wrap .i64 ((pre.length:Int)+1)=((pre.length+1:Nat):Int):=by rw[zg (by omega) (by omega)];omega
  obtain⟨x0,x1⟩:=hm x (by rw[h'];simp);obtain⟨a,rfl⟩:=Int.eq_ofNat_of_zero_le x0;obtain⟨n1,_⟩:=IP k hk2 h a (by omega) 3;obtain⟨b1,_,m1,m2⟩:=Jk k hk2 h a (by omega) 1 12;simp only[Es.AL,zh (show(pre.length:Int)<(gs.length:Int) by omega),yX,hg,yY,n1,b1,v2,cst];have hgr:Lv k l s (a:Int)=((nV k l a 3).2&&(pV k l a 1 12).1&&(decide ((pV k l a 1 12).2.length=(Ba 0 s).length)&&D8 k l s true 0 (pV k l a 1 12).2)):=rfl;simp only[List.all_cons,hgr];cases(nV k l a 3).2 with
  |false=>rfl
  |true=>
   cases(pV k l a 1 12).1 with
   |false=>rfl
   |true=>
    simp only[zq,Bt,yZ,Bj];by_cases hl:(pV k l a 1 12).2.length=(Ba 0 s).length
    ·rw[zK (show((pV k l a 1 12).2.length:Int)=((Ba 0 s).length:Int) by omega),zh hl]
     simp only[yY,yZ,Bj,Aq];have:=alC k hk h s hn hS hok hok2 (Es.AL k f) (pre.length:Int) yV gs zx (pV k l a 1 12).2 hl m1 m2 (nV k l a 3).1 zC zL G (by omega) (pV k l a 1 12).2 [] k [] rfl (by omega) (by simp);rw[List.length_nil,show((0:Nat):Int)=0 from rfl] at this;rw[this];cases D8 k l s true 0 (pV k l a 1 12).2 with
     |false=>rfl
     |true=>
      rw[if_pos rfl,hi1];have:=ih (pre++[(a:Int)]) f (G++[G_ k l a]) (by rw[h'];simp) (by omega) (by simp;omega);rw[zX,Ap] at this;refine this.trans ?_;simp only[Bj,List.map_cons,Bu,List.singleton_append]
    ·rw[zO (show ¬((pV k l a 1 12).2.length:Int)=((Ba 0 s).length:Int) by omega),zk hl]
     rfl
theorem Vt:∀(r:List Int) (j:Nat),D8 k l s true j r=true→D8 k l s false j r=true:=by
 intro r
 induction r with
 |nil=>intro j _;rfl
 |cons p r ih=>
  intro j hh;simp only[D8,Aa] at hh⊢;refine⟨?_,ih _ hh.2⟩;have h1:=hh.1;unfold EY at h1⊢;split at h1
  ·cases h1
  ·rename_i ho
   rw[if_neg ho];simp only[Aa] at h1⊢;refine⟨h1.1,?_⟩;have h2:=h1.2;split at h2
   ·rename_i hf
    rw[if_pos hf]
   ·rename_i hf
    rw[if_neg hf];simp only[if_true,Aa,Al] at h2;simp only[Bool.false_eq_true,if_false,Aa,bne_iff_ne,ne_eq];exact⟨h2.1,by omega⟩
theorem Vs:∀(r:List Int) (j:Nat),D8 k l s false j r=true→(∀c,c∈EZ k l j r→-1≤c.2.2.1)→D8 k l s true j r=true:=by
 intro r
 induction r with
 |nil=>intro j _ _;rfl
 |cons p r ih=>
  intro j hh hc;simp only[D8,Aa] at hh⊢;refine⟨?_,ih _ hh.2 (fun c hcm=>hc c (by simp[EZ,hcm]))⟩;have h1:=hh.1;have hd:=hc (C9 k l p j) (by simp[EZ]);unfold EY at h1⊢;unfold C9 at hd;split at h1
  ·cases h1
  ·rename_i ho
   rw[if_neg ho] at hd⊢;simp only[Aa] at h1⊢;refine⟨h1.1,?_⟩;have h2:=h1.2;split at h2
   ·rename_i hf
    rw[if_pos hf]
   ·rename_i hf
    rw[if_neg hf];simp only[if_neg hf] at hd;simp only[Bool.false_eq_true,if_false,Aa,bne_iff_ne,ne_eq] at h2;simp only[if_true,Aa,Al];exact⟨h2.1,by omega⟩
end
structure MM(k:Nat)(s:List ze)(rows:Int)(G:List Ar):Prop where
 sch:ET s
 ok:Eb k s=some true
 HY:Ex k s=some true
 hn:∀c,c∈s→c.1.size<k∧c.1.size<1000000000∧Ae c.2.2.2.1
 mok:CR k (s,rows,G,())=some true
theorem akp(k:Nat)(hk:2000000≤k)(l:List zf)(hw:∀n,n∈l→FX n)(hlen:l.length<4294967296):∃r,Es k l=some r∧Gn k l=some r∧(r.1.2=false→r=KY)∧r.2.1.length≤20∧r.2.2.length≤40∧(∀g,g∈r.2.2→g.2.1.length≤1500∧∀c,c∈g.2.1→c.2.2.2.2.2.1.length≤1500)∧(r.1.2=true→MM k r.2.1 r.1.1.2.1 r.2.2):=by
 have hk2:2000≤k:=by omega
 obtain⟨b,h1,h2⟩:=Q0 k hk2 l hw hlen;unfold Es Gn;simp only[h1,yY];rcases h2 with⟨rfl,x,hx⟩|⟨rfl,hl,hl1,af,hx,hSb,_⟩
 ·simp only[hx,yY,zD,yX]
  exact⟨_,rfl,rfl,fun _=>rfl,by simp,by simp,fun g hg=>(by cases hg),fun h=>(by cases h)⟩
 ·have h:D7 l af:=⟨hl,hl1,hSb,hw⟩
  obtain⟨c,s,g1,g2,g3,_⟩:=of_eq k hk2 h 0 hl1;obtain⟨n1,_⟩:=IP k hk2 h 0 hl1 3;obtain⟨b1,_,m1,m2⟩:=Jk k hk2 h 0 hl1 4 12;have z:((0:Nat):Int)=0:=rfl;rw[z] at g1 g2 n1 b1 m1 m2;simp only[hx,yY,zq,yZ,g1,g2,n1,b1,cst];cases c with
  |false=>
   simp only[zD,yX,Ag];exact⟨_,rfl,rfl,fun _=>rfl,by simp,by simp,fun g hg=>(by cases hg),fun h=>(by cases h)⟩
  |true=>
   obtain⟨hS,ok1,HY,hn⟩:=g3 rfl;have FY:=hS.2.1;have mn:=Mg k hk2 h 0 hl1 3 false;have ml:=O9 k hk2 h 0 hl1 4 12 (!(nV k l 0 3).2);rw[z] at mn ml;rw[Aq] at mn;have mn:EG k 0 3 ((),false,()) (tB l) af=_:=mn;simp only[zq,yZ,mn,ml,yY,Aq];have hI:=ajI k hk h s hn hS ok1 HY ((),0,(),()) ((),(nV k l 0 3).1,(),()) (pV k l 0 4 12).2 m1 m2 [] [] (pV k l 0 4 12).2 [] k (!(nV k l 0 3).2|| !(pV k l 0 4 12).1) [] rfl (by omega) (by simp);have hSp:=alD k hk h s hn hS ok1 HY ((),0,(),()) (pV k l 0 4 12).2 m1 m2 ((),(nV k l 0 3).1,(),()) [] [] (pV k l 0 4 12).2 [] k [] rfl (by omega) (by simp);rw[List.length_nil,z] at hI hSp;rw[hI,List.nil_append];have SG:∀g,g∈(pV k l 0 4 12).2.map (G_ k l)→g.2.1.length≤1500∧∀c,c∈g.2.1→c.2.2.2.2.2.1.length≤1500:=by
    intro g hg;obtain⟨p,hp,rfl⟩:=List.mem_map.1 hg;obtain⟨p0,p1⟩:=m2 p hp;obtain⟨a,rfl⟩:=Int.eq_ofNat_of_zero_le p0;obtain⟨_,_,q1,q2⟩:=Jk k hk2 h a (by omega) 1 12;have hlen:(G_ k l (a:Int)).2.1.length=(pV k l a 1 12).2.length:=P7 k l _ _;refine⟨by omega,?_⟩;have key:∀(r:List Int) (j:Nat),(∀p,p∈r→0≤p∧p<(l.length:Int))→∀c,c∈EZ k l j r→c.2.2.2.2.2.1.length≤1500:=by
     intro r
     induction r with
     |nil=>intro j _ c hc;cases hc
     |cons p r ih=>
      intro j hr c hc;simp only[EZ,List.mem_cons] at hc;rcases hc with rfl|hc
      ·obtain⟨p0,p1⟩:=hr p (by simp)
       obtain⟨a,rfl⟩:=Int.eq_ofNat_of_zero_le p0;unfold C9;rcases QE k hk h a (by omega) with⟨ho,_⟩|⟨q,ho,_,q2,_⟩
       ·rw[ho,if_pos (by omega)]
        simp
       ·rw[ho,if_neg (by omega)]
        obtain⟨_,_,w1,_⟩:=Jk k hk2 h q q2 2 5;simp only[List.length_map];omega
      ·exact ih (j+1) (fun p hp=>hr p (by simp[hp])) c hc
    exact key _ 0 q2
   have hfit:Fit k ((pV k l 0 4 12).2.map (G_ k l)):=fun g hg=>by
    obtain⟨f1,f2⟩:=SG g hg;exact⟨by omega,by omega,fun c hc=>by have:=f2 c hc;omega⟩
   obtain⟨mb,o1,o2,o3⟩:=akq k hk2 s ok1 HY (by omega) (nV k l 0 3).1 ((pV k l 0 4 12).2.map (G_ k l)) hfit;have hmI:CL k (s,(((),(nV k l 0 3).1,(),()):Unit×Int×Unit×Unit).2.1,(pV k l 0 4 12).2.map (G_ k l),())=some mb:=o2;rw[hmI];have same:(((pV k l 0 4 12).2.all (Jb k l s))&&mb)=(((pV k l 0 4 12).2.all (Lv k l s))&&mb):=by
    cases hmb:mb with
    |false=>simp
    |true=>
     obtain⟨_,_,_,hGG⟩:=o3 hmb;rw[Bool.and_true,Bool.and_true,Bool.eq_iff_iff,List.all_eq_true,List.all_eq_true];constructor
     ·intro hh p hp
      have hI:=hh p hp;obtain⟨q1,q2⟩:=hGG (G_ k l p) (List.mem_map_of_mem hp);have q1:(EZ k l 0 (pV k l p 1 12).2).length=(Ba 0 s).length:=q1;rw[P7] at q1;unfold Jb at hI;unfold Lv;simp only[Aa,Al] at hI⊢;exact⟨hI.1,q1,Vs k hk h s hn hS ok1 HY _ 0 hI.2.1 q2⟩
     ·intro hh p hp
      have hI:=hh p hp;have hll:=Kh 0 s;unfold Lv at hI;unfold Jb;simp only[Aa,Al] at hI⊢;exact⟨hI.1,Vt k hk h s hn hS ok1 HY _ 0 hI.2.2,by omega⟩
   cases hn3:(nV k l 0 3).2 with
   |false=>
    simp only[zD,Ag,yX,if_true];exact⟨_,rfl,rfl,fun _=>rfl,by simp,by simp,fun g hg=>(by cases hg),fun h=>(by cases h)⟩
   |true=>
    cases hp4:(pV k l 0 4 12).1 with
    |false=>
     simp only[zq,zD,Bool.or_true,Ag,yX,if_true];exact⟨_,rfl,rfl,fun _=>rfl,by simp,by simp,fun g hg=>(by cases hg),fun h=>(by cases h)⟩
    |true=>
     have hmS:CR k (s,(((),(nV k l 0 3).1,(),()):Unit×Int×Unit×Unit).2.1,[]++(pV k l 0 4 12).2.map (G_ k l),())=some mb:=o1;simp only[zq,Bt,yZ,Aq];rw[hSp,hmS];simp only[yY,List.nil_append];cases mb with
     |false=>
      simp only[zD,yX,ite_self];exact⟨_,rfl,rfl,fun _=>rfl,by simp,by simp,fun g hg=>(by cases hg),fun h=>(by cases h)⟩
     |true=>
      rw[Bool.and_true,Bool.and_true] at same;rw[same];simp only[zq,yZ];cases(pV k l 0 4 12).2.all (Lv k l s) with
      |false=>
       simp only[zD,if_true,Bool.false_eq_true,if_false];exact⟨_,rfl,rfl,fun _=>rfl,by simp,by simp,fun g hg=>(by cases hg),fun h=>(by cases h)⟩
      |true=>
       simp only[zq,if_true,Bool.false_eq_true,if_false];exact⟨_,rfl,rfl,(fun h=>by cases h),FY,(o3 rfl).1,SG,fun _=>⟨hS,ok1,HY,hn,o1⟩⟩
abbrev Ro:=((Unit×Int×Unit×Unit)×Int×Bool)×(List ze)×(List Ar)
abbrev TF:Ro:=((((),0,(),()),0,false),([],[]))
def Lb(VC:List ze)(G:List Ar):Prop:=VC.length≤20∧G.length≤40∧∀g,g∈G→g.2.1.length≤1500∧∀c,c∈g.2.1→c.2.2.2.2.2.1.length≤1500
theorem Mh:Lb [] []:=⟨by simp,by simp,fun g hg=>by cases hg⟩
theorem akr(k:Nat)(hk:2000000≤k)(b:List Int)(hl:b.length<4611686018427387904)(hb:BR b)(at_:Int):∃r:Ro,Pv k b at_=some r∧OT k b at_=some r∧Lb r.2.1 r.2.2∧0≤r.1.2.1∧r.1.2.1≤b.length∧(r.1.2.2=true→MM k r.2.1 r.1.1.2.1 r.2.2):=by
 have hr:=Ut k (by omega) b hl hb at_;unfold Pv OT;cases h:Mo b at_ with
 |bad c=>
  rw[h] at hr;obtain⟨hc,e1,e2⟩:=hr;simp only[e1,e2,yY,zO hc,yX];exact⟨TF,rfl,rfl,Mh,by decide,by simp,fun h=>(by cases h)⟩
 |ok q Y=>
  rw[h] at hr;obtain⟨e1,e2⟩:=hr;have g:=Us hl hb h;obtain⟨r,m1,m2,m3,m4,m5,m6,m7⟩:=akp k hk Y g.wf (by have:=g.len;omega);simp only[e1,e2,yY,zK rfl,yZ,m1,m2];have:=g.Ub;cases hr1:r.1.2 with
  |false=>
   simp only[zD,yX];exact⟨TF,rfl,rfl,Mh,by decide,by simp,fun h=>(by cases h)⟩
  |true=>
   simp only[zq,yZ];exact⟨_,rfl,rfl,⟨m4,m5,m6⟩,by simp,by simp;omega,fun _=>m7 hr1⟩
theorem aiT(k:Nat)(hk:2000000≤k)(b:List Int)(hb:BR b)(hl:b.length<4611686018427387904):∃r,Pq k b=some r∧OP k b=some r∧Lb r.2.1 r.2.2∧(r.1.2=0→MM k r.2.1 r.1.1.2.1 r.2.2∧b.length≤60000):=by
 unfold Pq OP;simp only[Bh,Bp,yY];by_cases hin:12≤b.length∧b.length≤60000
 ·rw[show(decide ((12:Int)≤(b.length:Int))&&decide ((b.length:Int)≤60000))=true by simp;omega]
  have e4:IntKind.wrap .i64 ((b.length:Int)-4)=((b.length-4:Nat):Int):=by rw[zg (by omega) (by omega)];omega
  have e8:IntKind.wrap .i64 ((b.length:Int)-8)=((b.length-8:Nat):Int):=by rw[zg (by omega) (by omega)];omega
  have VN:IntKind.wrap .i64 (((b.length-4:Nat):Int)-4)=((b.length-8:Nat):Int):=by rw[zg (by omega) (by omega)];omega
  have e12:IntKind.wrap .i64 ((b.length:Int)-12)=((b.length-12:Nat):Int):=by rw[zg (by omega) (by omega)];omega
  simp only[zq,yZ,e4,e8,VN,e12];rw[EI (by omega) (by omega) (by omega),yX,EI (by omega) (by omega) (by omega),yX];simp only[cst,yY];cases(!iY (wY (kV b 0 4)) (⟨#[80,65,82,49]⟩:ByteArray)|| !iY (wY (kV b ((b.length-4:Nat):Int) (b.length:Int))) (⟨#[80,65,82,49]⟩:ByteArray)) with
  |true=>
   simp only[yX];exact⟨_,rfl,rfl,Mh,fun h=>(by cases h)⟩
  |false=>
   obtain⟨v,hv,w1,w2⟩:=amx k (by omega) b (b.length-8) (by omega) hl hb;simp only[yZ,w1,w2,yY];by_cases hs:(v:Int)>((b.length-12:Nat):Int)
   ·rw[zh hs,yX,yX]
    exact⟨_,rfl,rfl,Mh,fun h=>(by cases h)⟩
   ·have es:IntKind.wrap .i64 (((b.length-8:Nat):Int)-(v:Int))=((b.length-8-v:Nat):Int):=by rw[zg (by omega) (by omega)];omega
    rw[zk hs,yZ,yZ,es,EI (by omega) (by omega) (by omega),yX,yX];have hcb:BR (kV b ((b.length-8-v:Nat):Int) ((b.length-8:Nat):Int)):=fun x hx=>by
     unfold kV at hx;exact hb x (List.mem_of_mem_take (List.mem_of_mem_drop hx))
    have hcl:(kV b ((b.length-8-v:Nat):Int) ((b.length-8:Nat):Int)).length<4611686018427387904:=by
     unfold kV;rw[List.length_drop,List.length_take];omega
    obtain⟨r,m1,m2,m3,_,_,m4⟩:=akr k hk _ hcl hcb 0;simp only[m1,m2,yY];cases hb2:(!r.1.2.2||(r.1.2.1 !=(v:Int))) with
    |true=>
     simp only[yX];exact⟨_,rfl,rfl,Mh,fun h=>(by cases h)⟩
    |false=>
     simp only[yZ];exact⟨_,rfl,rfl,m3,fun _=>⟨m4 (by rw[Bool.or_eq_false_iff] at hb2;simpa using hb2.1),hin.2⟩⟩
 ·rw[show(decide ((12:Int)≤(b.length:Int))&&decide ((b.length:Int)≤60000))=false by rw[Bool.eq_false_iff];intro q;simp only[Aa,Al] at q;omega]
  simp only[zD,yX];exact⟨_,rfl,rfl,Mh,fun h=>(by cases h)⟩
def I_(T:BA)(s:List ze):Nat→List Nat→Option (List Aw×List Nat×Bool)
 |0,pos=>some ([],pos,false)
 |n+1,pos=>match aC T s 6 0 0 0 0 pos with
  |none=>none
  |some (Y,q,l)=>match I_ T s n q with
   |none=>none
   |some (R,q',l')=>some ((Y,())::R,q',(l||decide (300<Y.length))||l')
def J6:BA→List Nat→Bool
 |x::T,p::pos=>(p==x.length)&&J6 T pos
 |_,_=>true
theorem Rq{T:BA}{s:List ze}(hS:ET s)(hR:N8 s T):∀(n:Nat) (pos:List Nat) (R:List Aw) (q:List Nat) (l:Bool),Br T pos→I_ T s n pos=some (R,q,l)→
 Br T q∧R.length=n∧l= !(R.all fun r=>(F8 s r.1).isSome)
 |0,pos,R,q,l,hp,h=>by
  simp only[I_,Ao,Prod.mk.injEq] at h;obtain⟨rfl,rfl,rfl⟩:=h;exact⟨hp,rfl,rfl⟩
 |n+1,pos,R,q,l,hp,h=>by
  simp only[I_] at h;split at h
  ·cases h
  ·rename_i Y q1 l1 h1
   split at h
   ·cases h
   ·rename_i R2 q2 l2 h2
    simp only[Ao,Prod.mk.injEq] at h;obtain⟨rfl,rfl,rfl⟩:=h;obtain⟨a1,_,_⟩:=Jw 6 0 s.length hS.2.2.1 0 0 0 pos _ _ _ h1 hp;obtain⟨b1,b2,b3⟩:=Rq hS hR n q1 R2 q2 l2 a1.ok h2;refine⟨b1,by simp[b2],?_⟩;rw[List.all_cons,alf hS hR pos Y q1 l1 hp h1,b3];have:decide (300<Y.length)= !decide (Y.length≤300):=by
     by_cases h:Y.length≤300
     ·rw[zh h,zk (by omega)];rfl
     ·rw[zk h,zh (by omega)];rfl
    rw[this];cases l1<;>cases decide (Y.length≤300)<;>simp
section
variable(k:Nat)(s:List ze)(hn:∀c,c∈s→c.1.size<k∧c.1.size<1000000000∧Ae c.2.2.2.1)(hk:2000000≤k)
variable(hS:ET s)(hok:Eb k s=some true)(hok2:Ex k s=some true)
include hn hk hS hok hok2
theorem U3(T:BA)(hT:T.length=zy s s.length)(hx:∀x,x∈T→x.length≤1048576):∀(post pre:BA) (f:Nat),T=pre++post→post.length<f→
 ((∀(i:Nat) (x:List zM),post[i]?=some x→Lf s (pre.length+i) x)∧
  (∃f',0<f'∧AZ.l5 k f s (T.map Ai) (pre.length:Int) []=AZ.l5 k f' s (T.map Ai) (T.length:Int) [])∧
  (∃f',0<f'∧Cr.l4 k f s (T.map Ai) (T.map Ai) (T.length:Int) (pre.length:Int)=Cr.l4 k f' s (T.map Ai) (T.map Ai) (T.length:Int) (T.length:Int)))∨
 (¬(∀(i:Nat) (x:List zM),post[i]?=some x→Lf s (pre.length+i) x)∧AZ.l5 k f s (T.map Ai) (pre.length:Int) []=some (((),1),[])∧Cr.l4 k f s (T.map Ai) (T.map Ai) (T.length:Int) (pre.length:Int)=some (((),1),[])):=by
 have ajp:=KX s s.length;have FY:=hS.2.1;intro post
 induction post with
 |nil=>
  intro pre f h hf;rw[AO] at h;subst h;exact .inl ⟨fun i x h=>by simp at h,⟨f,by omega,rfl⟩,⟨f,by omega,rfl⟩⟩
 |cons x post ih=>
  intro pre f h hf;simp only[Ah] at hf;obtain⟨f,rfl⟩:∃q,f=q+1:=⟨f-1,by omega⟩;have hlen:T.length=pre.length+(post.length+1):=by rw[h];simp
  have hg:gU (T.map Ai) (pre.length:Int)=some (x,()):=Gt (by rw[h];simp);have hi1:IntKind.wrap .i64 ((pre.length:Int)+1)=((pre.length+1:Nat):Int):=by rw[zg (by omega) (by omega)];omega
  obtain⟨b,e1,e2,e3,e4⟩:=ami k s hn hk hS hok hok2 pre.length x (hx x (by rw[h];simp));have hml:((T.map Ai).length:Int)=(T.length:Int):=by rw[List.length_map]
  simp only[AZ.l5,Cr.l4,hml,zh (show(pre.length:Int)<(T.length:Int) by omega),yX,hg,yY,e1,e2,hi1];cases b with
  |false=>
   simp only[zD,yX];refine .inr ⟨fun hh=>e4 rfl (by omega) (hh 0 x rfl),trivial,trivial⟩
  |true=>
   simp only[zq,yZ];have hi:=ih (pre++[x]) f (by rw[h];simp) (by omega);rw[zX,Ap] at hi;rcases hi with⟨h1,h2,h3⟩|⟨h1,h2,h3⟩
   ·refine .inl ⟨fun i y hy=> ?_,h2,h3⟩
    cases i with
    |zero=>
     simp only[List.getElem?_cons_zero,Ao] at hy;subst hy;exact e3 rfl
    |succ i=>
     simp only[List.getElem?_cons_succ] at hy;have:=h1 i y hy;rw[show pre.length+(i+1)=pre.length+1+i by omega];exact this
   ·refine .inr ⟨fun hh=>h1 fun i y hy=> ?_,h2,h3⟩
    have:=hh (i+1) y (by simpa using hy);rw[show pre.length+(i+1)=pre.length+1+i by omega] at this;exact this
theorem U6(T:BA)(hx:∀x,x∈T→x.length≤2000)(aje:T.length≤20)(n:Nat)(hn2:n≤2000):∀(post pre:BA) (f:Nat),T=pre++post→post.length<f→
 AZ.AL k f s (T.map Ai) (n:Int) (pre.length:Int) []=(if(∀x,x∈post→Bv x=n)∧(post≠[]→n≤200) then AZ.Jg k k s (T.map Ai) (n:Int) 0 [] (List.replicate T.length 0) else some (((),2),[]))∧
 Iz.l3 k f (n:Int) (T.map Ai) (T.length:Int) (pre.length:Int)=some (if ∀x,x∈post→Bv x=n then((n:Int),decide (n≤200)) else(0,false)):=by
 intro post
 induction post with
 |nil=>
  intro pre f h hf;obtain⟨f,rfl⟩:∃q,f=q+1:=⟨f-1,by omega⟩;rw[AO] at h;subst h;have hml:((T.map Ai).length:Int)=(T.length:Int):=by rw[List.length_map]
  simp only[AZ.AL,Iz.l3,hml,zk (show ¬((T.length:Int)<(T.length:Int)) by omega),yZ];rw[JH (by omega) (by omega),yX,Int.toNat_natCast,if_pos ⟨fun x h=>by simp at h,fun h=>absurd rfl h⟩,if_pos (fun x h=>by simp at h)];refine⟨rfl,?_⟩
  congr 2
  by_cases h:n≤200
  ·rw[zh h,zh (by omega)]
  ·rw[zk h,zk (by omega)]
 |cons x post ih=>
  intro pre f h hf;simp only[Ah] at hf;obtain⟨f,rfl⟩:∃q,f=q+1:=⟨f-1,by omega⟩;have hlen:T.length=pre.length+(post.length+1):=by rw[h];simp
  have hg:gU (T.map Ai) (pre.length:Int)=some (x,()):=Gt (by rw[h];simp);have hi1:IntKind.wrap .i64 ((pre.length:Int)+1)=((pre.length+1:Nat):Int):=by rw[zg (by omega) (by omega)];omega
  have hx1:=hx x (by rw[h];simp);obtain⟨r1,r2⟩:=QK k x (by omega) hk;have hml:((T.map Ai).length:Int)=(T.length:Int):=by rw[List.length_map]
  have hi:=ih (pre++[x]) f (by rw[h];simp) (by omega);rw[zX,Ap] at hi;simp only[AZ.AL,Iz.l3,hml,zh (show(pre.length:Int)<(T.length:Int) by omega),yX,hg,yY,r1,r2,hi1,cst];by_cases h1:Bv x=n
  ·rw[zK (show(Bv x:Int)=(n:Int) by omega),Aq,yZ,hi.1,hi.2]
   constructor
   ·by_cases h2:n≤200
    ·rw[zk (by omega),yZ]
     have:((∀y,y∈post→Bv y=n)∧(post≠[]→n≤200))↔((∀y,y∈x::post→Bv y=n)∧(x::post≠[]→n≤200)):=
      ⟨fun hh=>⟨fun y hy=>(List.mem_cons.1 hy).elim (fun e=>by rw[e];exact h1) (hh.1 y),fun _=>h2⟩,fun hh=>⟨fun y hy=>hh.1 y (List.mem_cons_of_mem _ hy),fun _=>h2⟩⟩
     simp only[this]
    ·rw[zh (by omega),yX,if_neg (fun hh=>h2 (hh.2 (by simp)))]
   ·have:(∀y,y∈post→Bv y=n)↔(∀y,y∈x::post→Bv y=n):=
     ⟨fun hh y hy=>(List.mem_cons.1 hy).elim (fun e=>by rw[e];exact h1) (hh y),fun hh y hy=>hh y (List.mem_cons_of_mem _ hy)⟩
    simp only[this]
  ·rw[zO (show ¬(Bv x:Int)=(n:Int) by omega),Ag,yX,yX,if_neg (fun hh=>h1 (hh.1 x (List.mem_cons_self ..))),if_neg (fun hh=>h1 (hh x (List.mem_cons_self ..)))]
   exact⟨rfl,rfl⟩
theorem U2(T:BA)(aje:T.length≤20)(AY:∀x,x∈T→x.length≤2000)(nums:List Int)(l:Bool)(recs:List Aw)(pos:List Nat)(hp:Br T pos):∀(post pre:BA) (Kk Ns:List Nat) (f:Nat),T=pre++post→pos=Ns++Kk→Ns.length=pre.length→post.length<f→
 AZ.Ea k f s (T.map Ai) (pre.length:Int) recs (ip pos)=cond (J6 post Kk) (AZ.Df k k s 0 recs) (some (((),3),[]))∧
 Hg.l2 k f (T.map Ai) (T.length:Int) (pre.length:Int) (jn s T nums false l) (ip pos)=some (J6 post Kk,(jn s T nums false l,ip pos)):=by
 intro post
 induction post with
 |nil=>
  intro pre Kk Ns f h hpq hpl hf;obtain⟨f,rfl⟩:∃q,f=q+1:=⟨f-1,by omega⟩;rw[AO] at h;subst h;have hml:((T.map Ai).length:Int)=(T.length:Int):=by rw[List.length_map]
  simp only[AZ.Ea,Hg.l2,hml,zk (show ¬((T.length:Int)<(T.length:Int)) by omega),yZ,J6,yX];exact⟨trivial,trivial⟩
 |cons x post ih=>
  intro pre Kk Ns f h hpq hpl hf;simp only[Ah] at hf;obtain⟨f,rfl⟩:∃q,f=q+1:=⟨f-1,by omega⟩;have hlen:T.length=pre.length+(post.length+1):=by rw[h];simp
  have KP:=hp.1;cases Kk with
  |nil=>
   rw[AO] at hpq;rw[hpq] at KP;omega
  |cons p Kk=>
   have hgx:T[pre.length]?=some x:=by rw[h];simp
   have hg:gU (T.map Ai) (pre.length:Int)=some (x,()):=Gt hgx;have ajm:pos[pre.length]?=some p:=by rw[hpq,←hpl];simp
   have bL:gU (ip pos) (pre.length:Int)=some (p:Int):=H7 ajm;have hi1:IntKind.wrap .i64 ((pre.length:Int)+1)=((pre.length+1:Nat):Int):=by rw[zg (by omega) (by omega)];omega
   have hml:((T.map Ai).length:Int)=(T.length:Int):=by rw[List.length_map]
   have hi:=ih (pre++[x]) Kk (Ns++[p]) f (by rw[h];simp) (by rw[hpq];simp) (by simp[hpl]) (by omega);rw[zX,Ap] at hi;simp only[AZ.Ea,Hg.l2,hml,zh (show(pre.length:Int)<(T.length:Int) by omega),yX,hg,bL,yY,hi1,J6];by_cases h1:p=x.length
   ·rw[zK (by omega),yZ,yZ,hi.1,hi.2]
    have:(p==x.length)=true:=by simpa using h1
    rw[this,Bj];exact⟨rfl,rfl⟩
   ·rw[zO (by omega),yX,yX]
    have:(p==x.length)=false:=by simpa using h1
    rw[this,Cg];exact⟨rfl,rfl⟩
theorem U5(R:List Aw)(hR:R.length≤200):∀(post pre:List Aw) (f:Nat),R=pre++post→post.length<f→
 AZ.Df k f s (pre.length:Int) R=some (cond (post.all (fun r=>(F8 s r.1).isSome)) (((),0),R) (((),4),[])):=by
 intro post
 induction post with
 |nil=>
  intro pre f h hf;obtain⟨f,rfl⟩:∃q,f=q+1:=⟨f-1,by omega⟩;rw[AO] at h;subst h;simp only[AZ.Df,zk (show ¬((R.length:Int)<(R.length:Int)) by omega),yZ,List.all_nil,yX]
 |cons r post ih=>
  intro pre f h hf;simp only[Ah] at hf;obtain⟨f,rfl⟩:∃q,f=q+1:=⟨f-1,by omega⟩;have hlen:R.length=pre.length+(post.length+1):=by rw[h];simp
  have hg:gU R (pre.length:Int)=some r:=by rw[h];exact AX _ _ _
  have hi1:IntKind.wrap .i64 ((pre.length:Int)+1)=((pre.length+1:Nat):Int):=by rw[zg (by omega) (by omega)];omega
  have q2:JN k s r=some (F8 s r.1).isSome:=alk k hk s hn hS hok r.1;have hi:=ih (pre++[r]) f (by rw[h];simp) (by omega);rw[zX,Ap] at hi;simp only[AZ.Df,zh (show(pre.length:Int)<(R.length:Int) by omega),yX,hg,yY,q2,hi1,hi,List.all_cons];cases(F8 s r.1).isSome<;>rfl
theorem U4(T:BA)(hT:T.length=zy s s.length)(AY:∀x,x∈T→x.length≤2000)(nums:List Int)(hN:∀(a:Nat) (c:ze),s[a]?=some c→c.2.1≠7→gU nums (a:Int)=some (zy s a:Int))(n:Nat)(anf:n≤200):
 ∀(m i f:Nat) (recs:List Aw) (pos:List Nat) (l:Bool),n=i+m→m+1<f→recs.length≤i→Br T pos→
 match I_ T s m pos with
 |none=>AZ.Jg k f s (T.map Ai) (n:Int) (i:Int) recs (ip pos)=some (((),3),[])∧Cr.BX k f (n:Int) (i:Int) (jn s T nums false l) recs (ip pos)=some (((),3),[])
 |some (R,q,l2)=>AZ.Jg k f s (T.map Ai) (n:Int) (i:Int) recs (ip pos)=AZ.Ea k k s (T.map Ai) 0 (recs++R) (ip q)∧
  Cr.BX k f (n:Int) (i:Int) (jn s T nums false l) recs (ip pos)=((Hg k (jn s T nums false (l||l2)) (ip q)).bind fun r4=>cond (!r4.1) (some (((),3),[])) (cond r4.2.1.2.2.2.2.2.2.1 (some (((),4),[])) (some (((),0),recs++R)))):=by
 have FY:=hS.2.1;intro m
 induction m with
 |zero=>
  intro i f recs pos l hi hf hrl hp;obtain⟨f,rfl⟩:∃q,f=q+1:=⟨f-1,by omega⟩;simp only[I_,AZ.Jg,Cr.BX,zk (show ¬((i:Int)<(n:Int)) by omega),yZ,yY,AO,Bool.or_false];exact⟨trivial,trivial⟩
 |succ m ih=>
  intro i f recs pos l hi hf hrl hp;obtain⟨f,rfl⟩:∃q,f=q+1:=⟨f-1,by omega⟩;have hi1:IntKind.wrap .i64 ((i:Int)+1)=((i+1:Nat):Int):=by rw[zg (by omega) (by omega)];omega
  have hroom:Room 6 [] pos:=by unfold Room;simp only[List.length_nil];omega
  have h1:=alA k s FY hn hk T hT AY 6 k 0 s.length hS.2.2.1 (Nat.le_refl _) (by omega) (by omega) 0 0 0 pos [] hp (by omega) (by omega) (by omega) (by omega) hroom;have h2:=ajz k s FY hn hk T hT AY nums hN 6 k 0 s.length hS.2.2.1 (Nat.le_refl _) (by omega) (by omega) 0 0 0 pos [] l hp (by omega) (by omega) (by omega) (by omega) hroom;have hlim:∀r:Aw,lim (recs.length+[r].length)=true:=fun r=>Ak (by simp;omega);simp only[I_,AZ.Jg,Cr.BX,zh (show(i:Int)<(n:Int) by omega),yX,hi1,yY,zD];cases hC:aC T s 6 0 0 0 0 pos with
  |none=>
   rw[hC] at h1 h2;obtain⟨p1,v1,e1⟩:=h1;obtain⟨nx',l',pos',v,e2,e3,e4⟩:=h2;have e1:Bz k s 0 (T.map Ai) 0 0 0 (ip pos) []=some (((),false),(p1,v1)):=e1;have e3:zW k 0 0 0 0 (jn s T nums false l) (ip pos) []=some (nx',(jn s T nums true l',ip pos',v)):=e3;obtain⟨f,rfl⟩:∃q,f=q+1:=⟨f-1,by omega⟩;simp only[e1,e3,yY,zD,yX,hlim,cst,Cr.BX,zq,Au,Bool.and_false,yZ];exact⟨trivial,trivial⟩
  |some r=>
   obtain⟨Y,q,l1⟩:=r;rw[hC] at h1 h2;have e1:Bz k s 0 (T.map Ai) 0 0 0 (ip pos) []=some (((),true),(ip q,[]++Y)):=h1;have e3:zW k 0 0 0 0 (jn s T nums false l) (ip pos) []=some ((s.length:Int),(jn s T nums false (l||l1),ip q,[]++Y)):=h2;obtain⟨a1,_,_⟩:=Jw 6 0 s.length hS.2.2.1 0 0 0 pos _ _ _ hC hp;rw[List.nil_append] at e1 e3;simp only[e1,e3,yY,zq,yZ,hlim,yX,cst];have hb:decide ((Y.length:Int)>300)=decide (300<Y.length):=by
    by_cases h:300<Y.length
    ·rw[zh h,zh (by omega)]
    ·rw[zk h,zk (by omega)]
   have hii:=ih (i+1) f (recs++[(Y,())]) q (l||l1||decide ((Y.length:Int)>300)) (by omega) (by omega) (by simp;omega) a1.ok;cases hA:I_ T s m q with
   |none=>
    rw[hA] at hii;exact hii
   |some r2=>
    obtain⟨R,q',l'⟩:=r2;rw[hA] at hii;simp only at hii⊢;rw[hii.1,hii.2,hb,Bu,List.singleton_append];refine⟨rfl,?_⟩;rw[show(l||l1||decide (300<Y.length)||l')=(l||(l1||decide (300<Y.length)||l')) by rw[Bool.or_assoc,Bool.or_assoc,Bool.or_assoc]]
end
def Rv(s:List ze)(T:BA)(n:Nat):Int×List Aw:=match I_ T s n (List.replicate T.length 0) with
 |none=>(3,[])
 |some (R,q,_)=>cond (J6 T q) (cond (R.all (fun r=>(F8 s r.1).isSome)) (0,R) (4,[])) (3,[])
section
variable(k:Nat)(s:List ze)(hn:∀c,c∈s→c.1.size<k∧c.1.size<1000000000∧Ae c.2.2.2.1)(hk:2000000≤k)
include hn hk
theorem U7(T:BA)(hTl:T.length≤1048576)(hx:∀x,x∈T→x.length≤1048576):∃code out,AZ k s (T.map Ai)=some (((),code),out)∧Cr k s (T.map Ai)=some (((),code),out)∧out.length≤200∧(∀r,r∈out→r.1.length≤300)∧
 (Eb k s=some true→ET s∧(T.length=zy s s.length→(∀(j:Nat) (x:List zM),T[j]?=some x→Lf s j x)→∀x0,T[0]?=some x0→(∀x,x∈T→Bv x=Bv x0)→Bv x0≤200→(code,out)=Rv s T (Bv x0))):=by
 obtain⟨b,h1,h2,h3⟩:=QM k (by omega) s hn;have hml:((T.map Ai).length:Int)=(T.length:Int):=by rw[List.length_map]
 unfold AZ Cr;rw[h1,h2];simp only[yY];cases b with
 |false=>exact⟨1,[],rfl,rfl,by simp,fun r h=>(by cases h),fun h=>by cases h⟩
 |true=>
  have hS:=(h3 rfl).1;have FY:=hS.2.1;obtain⟨v1,v2⟩:=Jh k (by omega) s (by omega);have hl:(Ba 0 s).length=zy s s.length:=O7 s [] s rfl;have ajp:=KX s s.length;have hpos:=Nn hS.2.2.1;simp only[zq,yZ,v1,v2,yY,hml,hl];by_cases hlen:T.length=zy s s.length
  ·rw[zK (by omega),yZ,yZ]
   have hf:=U3 k s hn hk hS h1 h2 T hlen hx T [] k rfl (by omega);rcases hf with⟨f1,⟨g1,g1p,f2⟩,⟨g2,g2p,f3⟩⟩|⟨f1,f2,f3⟩
   ·have f2:AZ.l5 k k s (T.map Ai) 0 []=_:=f2
    have f3:Cr.l4 k k s (T.map Ai) (T.map Ai) (T.length:Int) 0=_:=f3;obtain⟨g1,rfl⟩:∃q,g1=q+1:=⟨g1-1,by omega⟩;obtain⟨g2,rfl⟩:∃q,g2=q+1:=⟨g2-1,by omega⟩;rw[f2,f3];have hcr:∀(j:Nat) (x:List zM),T[j]?=some x→Lf s j x:=fun j x hj=>by
     have:=f1 j x hj;simpa using this
    have AY:∀x,x∈T→x.length≤2000:=fun x hx'=>by
     obtain⟨j,hj,rfl⟩:=List.getElem_of_mem hx';exact(hcr j _ (AA hj)).1
    obtain⟨x0,T',SA⟩:∃x0 T',T=x0::T':=by
     cases T with
     |nil=>simp at hlen;omega
     |cons x0 T'=>exact⟨x0,T',rfl⟩
    have hg0:T[0]?=some x0:=by rw[SA];rfl
    have hgc:gU (T.map Ai) 0=some (x0,()):=Gt (j:=0) hg0;have hx0:=AY x0 (List.mem_of_getElem? hg0);obtain⟨r1,r2⟩:=QK k x0 (by omega) hk;have hrn:Bv x0≤2000:=Nat.le_trans (List.length_filter_le _ _) hx0;obtain⟨w1,w2⟩:=U6 k s hn hk hS h1 h2 T AY (by omega) (Bv x0) hrn T [] k rfl (by omega);have w1:AZ.AL k k s (T.map Ai) (Bv x0:Int) 0 []=_:=w1;have w2:Iz.l3 k k (Bv x0:Int) (T.map Ai) (T.length:Int) 0=_:=w2;simp only[AZ.l5,Cr.l4,hml,zk (show ¬((T.length:Int)<(T.length:Int)) by omega),yZ,hgc,yY,r1,w1,Iz,r2,w2];by_cases hall:∀x,x∈T→Bv x=Bv x0
    ·rw[if_pos hall]
     by_cases Lx:Bv x0≤200
     ·rw[if_pos ⟨hall,fun _=>Lx⟩,zh Lx]
      simp only[zq,yZ];obtain⟨nums,n1,n2⟩:=aj4 k s FY hk;unfold Cr.d12;rw[n1];simp only[yY,hml];rw[JH (by omega) (by omega),yX,Int.toNat_natCast];have hrep:List.replicate T.length (0:Int)=ip (List.replicate T.length 0):=by simp[ip]
      have hp0:Br T (List.replicate T.length 0):=⟨by simp,fun j p x hj _=>by
       rw[List.getElem?_replicate] at hj;split at hj
       ·cases hj;omega
       ·cases hj⟩
      have hR:N8 s T:=fun a c hc h7 x hx t ht hd=>by
       have hh:=(hcr (zy s a) x hx).2.2 a c hc h7 rfl t ht;unfold Fj at hh;simp only[Aa] at hh;have:=hh.2.2;rw[if_pos hd] at this;exact this
      have hloop:=U4 k s hn hk hS h1 h2 T hlen AY nums n2 (Bv x0) Lx (Bv x0) 0 k [] (List.replicate T.length 0) false (by omega) (by omega) (by simp) hp0;rw[hrep];unfold Rv;cases hA:I_ T s (Bv x0) (List.replicate T.length 0) with
      |none=>
       rw[hA] at hloop;have e1:AZ.Jg k k s (T.map Ai) (Bv x0:Int) 0 [] (ip (List.replicate T.length 0))=_:=hloop.1;have e2:Cr.BX k k (Bv x0:Int) 0 (s,T.map Ai,nums,(),(),false,false,()) [] (ip (List.replicate T.length 0))=_:=hloop.2;rw[e1,e2];refine⟨3,[],rfl,rfl,by simp,fun r h=>(by cases h),fun _=>⟨hS,fun _ _ x1 hx1 _ _=> ?_⟩⟩;rw[hg0] at hx1;cases hx1;rw[hA]
      |some r=>
       obtain⟨R,q,l⟩:=r;rw[hA] at hloop;have e1:AZ.Jg k k s (T.map Ai) (Bv x0:Int) 0 [] (ip (List.replicate T.length 0))=_:=hloop.1;have e2:Cr.BX k k (Bv x0:Int) 0 (s,T.map Ai,nums,(),(),false,false,()) [] (ip (List.replicate T.length 0))=_:=hloop.2;obtain⟨a1,a2,a3⟩:=Rq hS hR _ _ _ _ _ hp0 hA;obtain⟨z1,z2⟩:=U2 k s hn hk hS h1 h2 T (by omega) AY nums (false||l) ([]++R) q a1 T [] q [] k rfl rfl rfl (by omega);have z1:AZ.Ea k k s (T.map Ai) 0 ([]++R) (ip q)=_:=z1;have z2:Hg k (jn s T nums false (false||l)) (ip q)=some (J6 T q,(jn s T nums false (false||l),ip q)):=by
        unfold Hg;simp only[List.length_map];exact z2
       rw[e1,e2,z1,z2];rw[List.nil_append,Aq];have hro:=U5 k s hn hk hS h1 h2 R (by omega) R [] k rfl (by omega);have hro:AZ.Df k k s 0 R=_:=hro;rw[hro];simp only[yY];have hout:∀x1,T[0]?=some x1→x1=x0:=fun x1 hx1=>by rw[hg0] at hx1;exact(Option.some.inj hx1).symm
       cases hend:J6 T q with
       |false=>
        simp only[zD,yX,yZ];refine⟨3,[],rfl,rfl,by simp,fun r h=>(by cases h),fun _=>⟨hS,fun _ _ x1 hx1 _ _=> ?_⟩⟩;rw[hout x1 hx1,hA];simp only[hend,yZ]
       |true=>
        simp only[zq,yZ,yX];rw[a3];cases Qm:R.all (fun r=>(F8 s r.1).isSome) with
        |false=>
         simp only[zD,yX,yZ];refine⟨4,[],rfl,rfl,by simp,fun r h=>(by cases h),fun _=>⟨hS,fun _ _ x1 hx1 _ _=> ?_⟩⟩;rw[hout x1 hx1,hA];simp only[hend,Qm,yZ,yX]
        |true=>
         simp only[zq,yZ,yX];refine⟨0,R,rfl,rfl,by omega,fun r hr=> ?_,fun _=>⟨hS,fun _ _ x1 hx1 _ _=> ?_⟩⟩
         ·have:=List.all_eq_true.1 Qm r hr
          cases hre:F8 s r.1 with
          |none=>rw[hre] at this;cases this
          |some X=>exact(ale hre).1
         ·rw[hout x1 hx1,hA]
          simp only[hend,Qm,yX]
     ·rw[if_neg (fun hh=>Lx (hh.2 (by rw[SA];simp))),zk Lx]
      refine⟨2,[],rfl,rfl,by simp,fun r h=>(by cases h),fun _=>⟨hS,fun _ _ x1 hx1 _ hle=> ?_⟩⟩;rw[hg0] at hx1;cases hx1;exact absurd hle Lx
    ·rw[if_neg hall,if_neg (fun hh=>hall hh.1)]
     refine⟨2,[],rfl,rfl,by simp,fun r h=>(by cases h),fun _=>⟨hS,fun _ _ x1 hx1 hh _=> ?_⟩⟩;rw[hg0] at hx1;cases hx1;exact absurd hh hall
   ·have f2:AZ.l5 k k s (T.map Ai) 0 []=_:=f2
    have f3:Cr.l4 k k s (T.map Ai) (T.map Ai) (T.length:Int) 0=_:=f3;rw[f2,f3];refine⟨1,[],rfl,rfl,by simp,fun r h=>(by cases h),fun _=>⟨hS,fun _ hcr=> ?_⟩⟩;exact absurd (fun i x hx=>by simpa using hcr i x hx) f1
  ·rw[zO (by omega),yX,yX]
   exact⟨1,[],rfl,rfl,by simp,fun r h=>(by cases h),fun _=>⟨hS,fun h=>absurd h hlen⟩⟩
end
def NZ(c:BC):Prop:=1≤c.2.2.2.1∧c.2.2.2.1≤2000
theorem ajX{k:Nat}{c:BC}{leaf:Int}(h:EM k c leaf=some true):NZ c:=by
 unfold EM at h;simp only[Bh,yY,cst] at h;replace h:=cnd h;rcases h with⟨_,h⟩|⟨hb,h⟩
 ·cases h
 simp only[Bool.or_eq_false_iff,Bool.not_eq_false',Aa,Al] at hb;exact hb.1.1.2
theorem ajV{k:Nat}(L6:Int→Int→DI→List Int→Option Bool)(m:DI)(lv:List Int)(g:Ar)(hg:g.2.1.length≤1500):∀(n:Nat) (t4 t5:Int) (j:Nat),j≤g.2.1.length→CR.A_ k L6 n t4 t5 (j:Int) m lv g=some true→
 (∀i,j≤i→∀c,g.2.1[i]?=some c→NZ c)∧L6 t4 (IntKind.wrap .i64 (t5+1)) m lv=some true:=by
 intro n
 induction n with
 |zero=>intro t4 t5 j _ h;cases h
 |succ n ih=>
  intro t4 t5 j hj h;simp only[CR.A_] at h;replace h:=cnd h;rcases h with⟨hlt,h⟩|⟨hlt,h⟩
  ·replace h:=bnd h;obtain⟨y,hy,h⟩:=h
   replace h:=bnd h;obtain⟨r,hr,h⟩:=h;replace h:=cnd h;rcases h with⟨_,h⟩|⟨hb,h⟩
   ·cases h
   have hb:r=true:=by simpa using hb
   subst hb;have hlt:=of_decide_eq_true hlt;rw[show IntKind.wrap .i64 ((j:Int)+1)=((j+1:Nat):Int) by rw[zg (by omega) (by omega)];omega] at h;obtain⟨a1,a2⟩:=ih t4 t5 (j+1) (by omega) h;refine⟨fun i hi c hc=> ?_,a2⟩;rcases Nat.eq_or_lt_of_le hi with rfl|hi
   ·rw[zQ,hc] at hy
    cases hy;exact ajX hr
   ·exact a1 i hi c hc
  ·refine⟨fun i hi c hc=> ?_,h⟩
   have:=(List.getElem?_eq_some_iff.1 hc).1;have:=of_decide_eq_false hlt;omega
theorem aj1{k:Nat}(m:DI)(lv:List Int)(hm:m.2.2.1.length≤40)(hg:∀g,g∈m.2.2.1→g.2.1.length≤1500):∀(n:Nat) (t4:Int) (j:Nat),j≤m.2.2.1.length→CR.l6 k n t4 (j:Int) m lv=some true→
 ∀i,j≤i→∀g,m.2.2.1[i]?=some g→∀c,c∈g.2.1→NZ c:=by
 intro n
 induction n with
 |zero=>intro t4 j _ h;cases h
 |succ n ih=>
  intro t4 j hj h i hi g hgi c hc;simp only[CR.l6] at h;replace h:=cnd h;rcases h with⟨hlt,h⟩|⟨hlt,h⟩
  ·replace h:=bnd h;obtain⟨y,hy,h⟩:=h
   replace h:=bnd h;obtain⟨r,hr,h⟩:=h;replace h:=bnd h;obtain⟨b5,_,h⟩:=h;replace h:=cnd h;rcases h with⟨_,h⟩|⟨_,h⟩
   ·cases h
   have hlt:=of_decide_eq_true hlt;rw[zQ] at hy;obtain⟨a1,a2⟩:=ajV (CR.l6 k n) m lv y (hg y (List.mem_of_getElem? hy)) k _ _ 0 (Nat.zero_le _) h;rw[show IntKind.wrap .i64 ((j:Int)+1)=((j+1:Nat):Int) by rw[zg (by omega) (by omega)];omega] at a2;rcases Nat.eq_or_lt_of_le hi with rfl|hi
   ·rw[hgi] at hy
    cases hy;obtain⟨q,hq⟩:=List.getElem?_of_mem hc;exact a1 q (Nat.zero_le _) c hq
   ·exact ih _ (j+1) (by omega) a2 i hi g hgi c hc
  ·have:=(List.getElem?_eq_some_iff.1 hgi).1
   have:=of_decide_eq_false hlt;omega
theorem aks{k:Nat}{s:List ze}{rows:Int}{G:List Ar}(h:MM k s rows G)(hf:Lb s G):∀g,g∈G→∀c,c∈g.2.1→NZ c:=by
 intro g hg c hc;have hm:=h.mok;unfold CR at hm;replace hm:=bnd hm;obtain⟨r6,_,hm⟩:=hm;replace hm:=bnd hm;obtain⟨r7,_,hm⟩:=hm;replace hm:=bnd hm;obtain⟨b8,_,hm⟩:=hm;replace hm:=bnd hm;obtain⟨b10,_,hm⟩:=hm;replace hm:=cnd hm;rcases hm with⟨_,hm⟩|⟨_,hm⟩
 ·cases hm
 obtain⟨i,hi⟩:=List.getElem?_of_mem hg;exact aj1 (s,rows,G,()) r6.2 hf.2.1 (fun g hg=>(hf.2.2 g hg).1) k 0 0 (Nat.zero_le _) hm i (Nat.zero_le _) g hi c hc
section
variable(k:Nat)(hk:2000000≤k)(b:List Int)(hl:b.length≤1048576)(hb:BR b)
variable(s:List ze)(rows:Int)(G:List Ar)(hg:MM k s rows G)(hf:Lb s G)
include hk hl hb hg hf
theorem ai5(gi:Nat)(g:Ar)(hgi:G[gi]?=some g):∀(post pre:List BC) (n n':Nat) (T:BA) (cnt:Int),g.2.1=pre++post→post.length<n→post.length<n'→T.length=pre.length→(∀x,x∈T→x.length≤2000)→
 ∃c cnt' l,Iu.l4 k n b (gi:Int) cnt g.2.1 (g.2.1.length:Int) (pre.length:Int) (s,rows,G,()) (T.map Ai)=some (((),cnt',c),l)∧
  FP.l4 k n' b (pre.length:Int) (s,rows,G,()) g (T.map Ai)=some (((),c),l)∧l.length≤200∧∀r,r∈l→r.1.length≤300:=by
 have hgm:g∈G:=List.mem_of_getElem? hgi;have hgl:=(hf.2.2 g hgm).1;intro post
 induction post with
 |nil=>
  intro pre n n' T cnt h hn hn' hT hx;obtain⟨n,rfl⟩:∃q,n=q+1:=⟨n-1,by omega⟩;obtain⟨n',rfl⟩:∃q,n'=q+1:=⟨n'-1,by omega⟩;rw[AO] at h;obtain⟨code,out,a1,a2,a3,a4,_⟩:=U7 k s hg.hn hk T (by rw[hT,←h];omega) (fun x hx'=>by have:=hx x hx';omega);simp only[Iu.l4,FP.l4,h,zk (show ¬((pre.length:Int)<(pre.length:Int)) by omega),yZ,a1,a2,yY,zQ,hgi,cst];cases(code !=0||((out.length:Int) !=g.1)) with
  |true=>
   simp only[yX];exact⟨_,_,_,rfl,rfl,by simp,fun r hr=>(by cases hr)⟩
  |false=>
   simp only[yZ];exact⟨_,_,_,rfl,rfl,a3,a4⟩
 |cons ck post ih=>
  intro pre n n' T cnt h hn hn' hT hx;simp only[Ah] at hn hn';obtain⟨n,rfl⟩:∃q,n=q+1:=⟨n-1,by omega⟩;obtain⟨n',rfl⟩:∃q,n'=q+1:=⟨n'-1,by omega⟩;have hlen:g.2.1.length=pre.length+(post.length+1):=by rw[h];simp
  have hgk:gU g.2.1 (pre.length:Int)=some ck:=by rw[h];exact AX _ _ _
  have hi1:IntKind.wrap .i64 ((pre.length:Int)+1)=((pre.length+1:Nat):Int):=by rw[zg (by omega) (by omega)];omega
  obtain⟨l,bb,l1,l2,_⟩:=O6 k s hg.hn hk hg.sch hg.ok hg.HY (pre.length:Int);obtain⟨c,x,c1,c2,_,c4⟩:=Vv k hk l b hl hb ck;have hxl:=c4 (aks hg hf g hgm ck (by rw[h];simp));obtain⟨pc,P,V,p1,_⟩:=RI k hk l ck b hl hb;simp only[Iu.l4,FP.l4,FP.d7,zh (show(pre.length:Int)<(g.2.1.length:Int) by omega),yX,hgk,l1,l2,c1,c2,p1,yY,hi1];by_cases hc:c=0
  ·rw[zK hc,yZ,yZ,Ak (by simp;omega),yX,yX]
   have ajg:T.map Ai++[(x,())]=(T++[x]).map Ai:=by simp[Ai]
   rw[ajg]
   have:=ih (pre++[ck]) n n' (T++[x]) (IntKind.wrap .i64 (cnt+(P.length:Int))) (by rw[h];simp) (by omega) (by omega) (by simp[hT]) (fun y hy=>by
    rcases List.mem_append.1 hy with hy|hy
    ·exact hx y hy
    ·rw[List.mem_singleton] at hy;subst hy;exact hxl)
   rw[zX,Ap] at this;exact this
  ·rw[zO hc,yX,yX]
   exact⟨_,_,_,rfl,rfl,by simp,fun r hr=>(by cases hr)⟩
theorem ai4(gi:Nat)(hgi:gi<G.length):∃c cnt l,Iu k b (s,rows,G,()) (gi:Int)=some (((),cnt,c),l)∧FP k b (s,rows,G,()) (gi:Int)=some (((),c),l)∧l.length≤200∧∀r,r∈l→r.1.length≤300:=by
 have hx:=AA hgi;generalize G[gi]=g at hx;have hgl:=(hf.2.2 g (List.mem_of_getElem? hx)).1;unfold Iu FP;simp only[zQ,hx,yY];exact ai5 k hk b hl hb s rows G hg hf gi g hx g.2.1 [] k k [] 0 rfl (by omega) (by omega) rfl (fun x hx=>(by cases hx))
theorem aiV:∀(m i n n':Nat) (o:List Aw),i+m=G.length→m<n→m<n'→o.length≤200*i→(∀r,r∈o→r.1.length≤300)→
 ∃c S l,He.l6 k n b (G.length:Int) (i:Int) ((),rows,(),()) o s G=some (((),(),c),(S,l))∧IZ.l7 k n' b (i:Int) [] ((),rows,(),()) o s G=some (((),(),c),(S,l))∧
  (S=s∨S=[])∧l.length≤8000∧∀r,r∈l→r.1.length≤300:=by
 have hG:=hf.2.1;intro m
 induction m with
 |zero=>
  intro i n n' o hi hn hn' ho hr;obtain⟨n,rfl⟩:∃q,n=q+1:=⟨n-1,by omega⟩;obtain⟨n',rfl⟩:∃q,n'=q+1:=⟨n'-1,by omega⟩;simp only[He.l6,IZ.l7,zk (show ¬((i:Int)<(G.length:Int)) by omega),yZ];exact⟨_,_,_,rfl,rfl,.inl rfl,by omega,hr⟩
 |succ m ih=>
  intro i n n' o hi hn hn' ho hr;obtain⟨n,rfl⟩:∃q,n=q+1:=⟨n-1,by omega⟩;obtain⟨n',rfl⟩:∃q,n'=q+1:=⟨n'-1,by omega⟩;have hi1:IntKind.wrap .i64 ((i:Int)+1)=((i+1:Nat):Int):=by rw[zg (by omega) (by omega)];omega
  obtain⟨c,cnt,l,g1,g2,g3,g4⟩:=ai4 k hk b hl hb s rows G hg hf i (by omega);simp only[He.l6,IZ.l7,zh (show(i:Int)<(G.length:Int) by omega),yX,g1,g2,yY,hi1];by_cases hc:c=0
  ·rw[zK hc,yZ,yZ,Ak (by omega),yX,yX]
   exact ih (i+1) n n' (o++l) (by omega) (by omega) (by omega) (by simp;omega) (fun r hr'=>(List.mem_append.1 hr').elim (hr r) (g4 r))
  ·rw[zO hc,yX,yX]
   exact⟨_,_,_,rfl,rfl,.inr rfl,by simp,fun r hr=>(by cases hr)⟩
end
theorem aiU(k:Nat)(hk:2000000≤k)(b:List Int)(hl:b.length≤1048576)(hb:BR b):
 ∃c S l,He k b=some (((),(),c),(S,l))∧IZ k b=some (((),(),c),(S,l))∧S.length≤20∧l.length≤8000∧∀r,r∈l→r.1.length≤300:=by
 obtain⟨⟨⟨⟨⟨⟩,rows,⟨⟩,⟨⟩⟩,code⟩,s,G⟩,e1,e2,e3,e4⟩:=aiT k hk b hb (by omega);unfold He IZ;simp only[e1,e2,yY];by_cases hc:code=0
 ·obtain⟨m1,m2⟩:=e4 hc
  rw[zK hc,yZ,yZ];have e3:Lb s G:=e3;have hG:=e3.2.1;obtain⟨c,S,l,f1,f2,f3,f4,f5⟩:=aiV k hk b hl hb s rows G m1 e3 G.length 0 k k [] (by omega) (by omega) (by omega) (by simp) (fun r hr=>(by cases hr));refine⟨c,S,l,f1,f2,?_,f4,f5⟩;rcases f3 with rfl|rfl
  ·exact e3.1
  ·simp
 ·rw[zO hc,yX,yX]
  exact⟨_,_,_,rfl,rfl,by simp,by simp,fun r hr=>(by cases hr)⟩
end Go.Af
end
section
namespace Go.Af
open Go.Am Go.Fn
variable(k:Nat)
theorem w1{x:Int}{c:Int}(h:Ae x)(hc:0≤c)(hb:x+c<9223372036854775808):IntKind.wrap .i64 (x+c)=x+c:=zg (by have:=h.1;omega) hb
theorem akm:∀(f n:Nat) (t:Int) (acc:ByteArray),t<10^f→f<n→acc.size+f≤1000→t<9223372036854775808→∃s,Fe.l4 k n t acc=some s∧s.size≤1001:=by
 intro f
 induction f with
 |zero=>
  intro n t acc ht hn ha h64;obtain⟨n,rfl⟩:∃j,n=j+1:=⟨n-1,by omega⟩;have ht:t<1:=by simpa using ht
  simp only[Fe.l4,zk (show ¬t>0 by omega),yZ];rw[Ak (by show 1+acc.size≤_;omega),yX];exact⟨_,rfl,by rw[ByteArray.size_append];show 1+acc.size≤_;omega⟩
 |succ f ih=>
  intro n t acc ht hn ha h64;obtain⟨n,rfl⟩:∃j,n=j+1:=⟨n-1,by omega⟩;by_cases h:t>0
  ·simp only[Fe.l4,zh h,yX]
   rw[Ak (by rw[Kb];simp;omega),yX,Int.tdiv_eq_ediv_of_nonneg (by omega),zg (show -9223372036854775808≤t/10 by omega) (by omega)];refine ih n (t/10) _ ?_ (by omega) (by rw[ByteArray.size_append,Kb];simp;omega) (by omega);have hp:(10:Int)^(f+1)=10^f*10:=Int.pow_succ 10 f;omega
  ·simp only[Fe.l4,zk h,yZ]
   rw[Ak (by show 1+acc.size≤_;omega),yX];exact⟨_,rfl,by rw[ByteArray.size_append];show 1+acc.size≤_;omega⟩
theorem akn(hk:100≤k)(t:Int)(h:t<9223372036854775808):∃s,Fe k t=some s:=by
 unfold Fe;by_cases h0:t≤0
 ·simp only[zh h0,yX]
  exact⟨_,rfl⟩
 ·simp only[zk h0,yZ]
  obtain⟨s,hs,_⟩:=akm k 19 k t ⟨#[]⟩ (by omega) (by omega) (by decide) h;exact⟨s,hs⟩
def O_(t:Int):ByteArray:=(Fe k t).getD ⟨#[]⟩
theorem Pb(hk:100≤k)(t:Int)(h:t<9223372036854775808):Fe k t=some (O_ k t):=by
 obtain⟨s,hs⟩:=akn k hk t h;unfold O_;rw[hs];rfl
end Go.Af
end
section
namespace Go.Af
open Go.Am Go.Fn
def BQ{α:Type}(f:α→Nat):List α→Nat
 |[]=>0
 |x::r=>f x+BQ f r
theorem UN{α:Type}{f:α→Nat}{C:Nat}:∀(l:List α),(∀x,x∈l→f x≤C)→BQ f l≤C*l.length
 |[],_=>Nat.zero_le _
 |x::r,h=>by
  have h1:=h x (List.mem_cons_self ..);have h2:=UN r (fun y hy=>h y (List.mem_cons_of_mem _ hy));simp only[BQ,Ah,Nat.mul_add,Nat.mul_one];omega
def CX{α:Type}(P:α→Prop)(l:List α):Prop:=l.length≤1048576∧∀x,x∈l→P x
theorem CX.tot{α:Type}{P:α→Prop}{l:List α}(h:CX P l){f:α→Nat}{C:Nat}(hc:∀x,P x→f x≤C):BQ f l≤C*1048576:=by
 have:=UN l (f:=f) (C:=C) (fun x hx=>hc x (h.2 x hx));exact Nat.le_trans this (Nat.mul_le_mul_left _ h.1)
def F7{α:Type}(mk:α→Int→α)(cnt:α→Nat):List α→Int→List α
 |[],_=>[]
 |x::r,m=>mk x m::F7 mk cnt r (m+cnt x)
theorem HV{α:Type}(pre:List α)(h:pre.length≤1048576):IntKind.wrap .i64 ((pre.length:Int)+1)=((pre.length+1:Nat):Int):=by rw[zg (by omega) (by omega)];omega
theorem Hy{α:Type}(pre post:List α)(x:α):decide ((pre.length:Int)<((pre++x::post).length:Int))=true:=zh (by simp;omega)
theorem Hw{α:Type}(l:List α):decide ((l.length:Int)<(l.length:Int))=false:=zk (by omega)
theorem amO{α:Type}(F:Nat→List α→Int→List α→Option (Unit×List α))(z:α)(P:α→Prop)
 (h0:∀n l o,F (n+1) l (l.length:Int) o=some ((),o))
 (h1:∀n pre x post o,P x→pre.length≤1048576→F (n+1) (pre++x::post) (pre.length:Int) (pre++z::o)=F n (pre++x::post) ((pre.length+1:Nat):Int) (pre++x::o)):
 ∀(post pre:List α) (n:Nat),post.length<n→pre.length+post.length≤1048576→(∀x,x∈post→P x)→F n (pre++post) (pre.length:Int) (pre++List.replicate post.length z)=some ((),pre++post):=by
 intro post
 induction post with
 |nil=>
  intro pre n hn hl hP;obtain⟨n,rfl⟩:∃j,n=j+1:=⟨n-1,by omega⟩;simp only[AO,List.length_nil,List.replicate_zero];exact h0 n pre pre
 |cons x post ih=>
  intro pre n hn hl hP;obtain⟨n,rfl⟩:∃j,n=j+1:=⟨n-1,by omega⟩;simp only[Ah] at hn hl;have:=ih (pre++[x]) n (by omega) (by simp;omega) (fun y hy=>hP y (List.mem_cons_of_mem _ hy));rw[Ah,List.replicate_succ,h1 n pre x post _ (hP x (List.mem_cons_self ..)) (by omega)];rw[zX,Ap,Bu,List.singleton_append,Bu,List.singleton_append] at this;exact this
theorem PM{α:Type}(F:Nat→List α→List α→Int→Option Bool)(P:α→Prop)
 (h0:∀n l,F (n+1) l l (l.length:Int)=some true)
 (h1:∀n pre x post,P x→pre.length≤1048576→F (n+1) (pre++x::post) (pre++x::post) (pre.length:Int)=F n (pre++x::post) (pre++x::post) ((pre.length+1:Nat):Int)):
 ∀(post pre:List α) (n:Nat),post.length<n→pre.length+post.length≤1048576→(∀x,x∈post→P x)→F n (pre++post) (pre++post) (pre.length:Int)=some true:=by
 intro post
 induction post with
 |nil=>
  intro pre n hn hl hP;obtain⟨n,rfl⟩:∃j,n=j+1:=⟨n-1,by omega⟩;simp only[AO];exact h0 n pre
 |cons x post ih=>
  intro pre n hn hl hP;obtain⟨n,rfl⟩:∃j,n=j+1:=⟨n-1,by omega⟩;simp only[Ah] at hn hl;have:=ih (pre++[x]) n (by omega) (by simp;omega) (fun y hy=>hP y (List.mem_cons_of_mem _ hy));rw[h1 n pre x post (hP x (List.mem_cons_self ..)) (by omega)];rw[zX,Ap,Bu,List.singleton_append] at this;exact this
theorem PN{α:Type}(F:Nat→Int→Int→List α→Option (Int×List α))(mk:α→Int→α)(cnt:α→Nat)(C:Nat)(P:α→Prop)(B:Int)(hC:∀x,P x→cnt x≤C)
 (h0:∀n m l,F (n+1) m (l.length:Int) l=some (m,l))
 (h1:∀n m pre x post,P x→0≤m→m+cnt x≤B→pre.length≤1048576→F (n+1) m (pre.length:Int) (pre++x::post)=F n (m+cnt x) ((pre.length+1:Nat):Int) (pre++mk x m::post)):
 ∀(post pre:List α) (n:Nat) (m:Int),post.length<n→pre.length+post.length≤1048576→(∀x,x∈post→P x)→0≤m→m+BQ cnt post≤B→F n m (pre.length:Int) (pre++post)=some (m+BQ cnt post,pre++F7 mk cnt post m):=by
 intro post
 induction post with
 |nil=>
  intro pre n m hn hl hP hm hB;obtain⟨n,rfl⟩:∃j,n=j+1:=⟨n-1,by omega⟩;simp only[AO,BQ,F7];rw[h0 n m pre];simp
 |cons x post ih=>
  intro pre n m hn hl hP hm hB;obtain⟨n,rfl⟩:∃j,n=j+1:=⟨n-1,by omega⟩;simp only[Ah,BQ] at hn hl hB;have:=ih (pre++[mk x m]) n (m+cnt x) (by omega) (by simp;omega) (fun y hy=>hP y (List.mem_cons_of_mem _ hy)) (by omega) (by omega);rw[h1 n m pre x post (hP x (List.mem_cons_self ..)) hm (by omega) (by omega)];rw[zX,Ap,Bu,List.singleton_append,Bu,List.singleton_append] at this;rw[this];simp only[BQ,F7]
  congr 2
  omega
theorem Ra{α:Type}(F:Nat→List α→Int→Int→Option Int)(mk:α→Int→α)(cnt:α→Nat)(P:α→Prop)(B:Int)
 (h0:∀n m l,F (n+1) l m (l.length:Int)=some m)
 (h1:∀n m pre x post,P x→0≤m→m+cnt x≤B→pre.length≤1048576→F (n+1) (pre++mk x m::post) m (pre.length:Int)=F n (pre++mk x m::post) (m+cnt x) ((pre.length+1:Nat):Int)):
 ∀(post pre:List α) (n:Nat) (m:Int),post.length<n→pre.length+post.length≤1048576→(∀x,x∈post→P x)→0≤m→m+BQ cnt post≤B→F n (pre++F7 mk cnt post m) m (pre.length:Int)=some (m+BQ cnt post):=by
 intro post
 induction post with
 |nil=>
  intro pre n m hn hl hP hm hB;obtain⟨n,rfl⟩:∃j,n=j+1:=⟨n-1,by omega⟩;simp only[AO,BQ,F7];rw[h0 n m pre];simp
 |cons x post ih=>
  intro pre n m hn hl hP hm hB;obtain⟨n,rfl⟩:∃j,n=j+1:=⟨n-1,by omega⟩;simp only[Ah,BQ] at hn hl hB;have:=ih (pre++[mk x m]) n (m+cnt x) (by omega) (by simp;omega) (fun y hy=>hP y (List.mem_cons_of_mem _ hy)) (by omega) (by omega);simp only[F7,BQ];rw[h1 n m pre x _ (hP x (List.mem_cons_self ..)) hm (by omega) (by omega)];rw[zX,Ap,Bu,List.singleton_append] at this;rw[this]
  congr 1
  omega
end Go.Af
end
section
set_option maxRecDepth 4000
namespace Go.Af
open Go.Am Go.Fn
variable(k:Nat)
def Ki(x:Int):Prop:=0≤x∧x<256
def Jz(x:Int):Nat:=1
def TD(k:Nat)(x:Int)(m:Int):Int:=IntKind.wrap .u8 m
theorem RJ(x:Int)(h:Ki x):Jz x≤1:=Nat.le_refl _
theorem amN(hk:2000000≤k)(l:List Int)(hl:CX Ki l):Gs k l=some ((),l):=by
 unfold Gs;have h:=hl.1;rw[JH (by omega) (by omega),yX];refine amO (Gs.l3 k) (0:Int) Ki ?_ ?_ l [] k (by omega) (by simpa using h) hl.2
 ·intro n l o
  simp only[Gs.l3,Hw,yZ]
 ·intro n pre x post o hx hp
  simp only[Gs.l3,Hy,yX,AX,yY,IV,HV pre hp]
theorem amz(hk:2000000≤k)(l:List Int)(hl:CX Ki l):IE k l l=some true:=by
 unfold IE;have h:=hl.1;simp only[zK rfl,yZ];refine PM (IE.l4 k) Ki ?_ ?_ l [] k (by omega) (by simpa using h) hl.2
 ·intro n l
  simp only[IE.l4,Hw,yZ]
 ·intro n pre x post hx hp
  simp only[IE.l4,Hy,yX,AX,yY,zK rfl,Dv,decide_true,zq,yZ,HV pre hp]
theorem amJ(hk:2000000≤k)(l:List Int)(hl:CX Ki l)(m:Int)(h0:0≤m)(hm:m+(BQ Jz l:Nat)≤4611686018427387904):II k m l=some (m+(BQ Jz l:Nat),F7 (TD k) Jz l m):=by
 unfold II;have h:=hl.1;refine PN (II.l2 k) (TD k) Jz 1 Ki 4611686018427387904 RJ ?_ ?_ l [] k m (by omega) (by simpa using h) hl.2 h0 hm
 ·intro n m l
  simp only[II.l2,Hw,yZ]
 ·intro n m pre x post hx h0 hm hp
  simp only[Jz] at hm;have e0:IntKind.wrap .i64 (m+1)=m+1:=zg (by omega) (by omega);have eN:m+1=m+(Jz x:Nat):=by simp only[Jz]<;>omega
  simp only[II.l2,Hy,yX,AX,yY,IV,e0,HV pre hp];rw[eN];rfl
def JG(x:ze):Prop:=True
def Eg(x:ze):Nat:=1+1+1+1
def Np(k:Nat)(x:ze)(m:Int):ze:=(O_ k (m),m+1,m+1+1,m+1+1+1,())
theorem RL(x:ze)(h:JG x):Eg x≤4:=by
 unfold Eg;omega
theorem amA(hk:2000000≤k)(x:ze)(hx:JG x):L9 k x x=some true:=by
 simp only[zK rfl,Dv,decide_true,zq,yZ,yY,bne_self_eq_false,beq_self_eq_true,L9,L_,Ma]
theorem amB(hk:2000000≤k)(l:List ze)(hl:CX JG l):GN k l l=some true:=by
 unfold GN;have h:=hl.1;simp only[zK rfl,yZ];refine PM (GN.l4 k) JG ?_ ?_ l [] k (by omega) (by simpa using h) hl.2
 ·intro n l
  simp only[GN.l4,Hw,yZ]
 ·intro n pre x post hx hp
  simp only[GN.l4,Hy,yX,AX,yY,amA k hk x hx,zq,yZ,HV pre hp]
theorem amK(hk:2000000≤k)(l:List ze)(hl:CX JG l)(m:Int)(h0:0≤m)(hm:m+(BQ Eg l:Nat)≤4611686018427387904):IJ k m l=some (m+(BQ Eg l:Nat),F7 (Np k) Eg l m):=by
 unfold IJ;have h:=hl.1;refine PN (IJ.l2 k) (Np k) Eg 4 JG 4611686018427387904 RL ?_ ?_ l [] k m (by omega) (by simpa using h) hl.2 h0 hm
 ·intro n m l
  simp only[IJ.l2,Hw,yZ]
 ·intro n m pre x post hx h0 hm hp
  simp only[Eg] at hm;have e0:IntKind.wrap .i64 (m+1)=m+1:=zg (by omega) (by omega);have e1:IntKind.wrap .i64 (m+1+1)=m+1+1:=zg (by omega) (by omega);have e2:IntKind.wrap .i64 (m+1+1+1)=m+1+1+1:=zg (by omega) (by omega);have e3:IntKind.wrap .i64 (m+1+1+1+1)=m+1+1+1+1:=zg (by omega) (by omega);have eN:m+1+1+1+1=m+(Eg x:Nat):=by simp only[Eg]<;>omega
  simp only[IJ.l2,Hy,yX,AX,yY,IV,e0,Pb k (by omega) (m) (by omega),e1,e2,e3,HV pre hp];rw[eN];rfl
theorem amG(hk:2000000≤k)(l:List ze)(hl:CX JG l)(m:Int)(h0:0≤m)(hm:m+(BQ Eg l:Nat)≤4611686018427387904):Fb k (F7 (Np k) Eg l m) m=some (m+(BQ Eg l:Nat)):=by
 unfold Fb;have h:=hl.1;refine Ra (Fb.l2 k) (Np k) Eg JG 4611686018427387904 ?_ ?_ l [] k m (by omega) (by simpa using h) hl.2 h0 hm
 ·intro n m l
  simp only[Fb.l2,Hw,yZ]
 ·intro n m pre x post hx h0 hm hp
  simp only[Eg] at hm;have e0:IntKind.wrap .i64 (m+1)=m+1:=zg (by omega) (by omega);have e1:IntKind.wrap .i64 (m+1+1)=m+1+1:=zg (by omega) (by omega);have e2:IntKind.wrap .i64 (m+1+1+1)=m+1+1+1:=zg (by omega) (by omega);have e3:IntKind.wrap .i64 (m+1+1+1+1)=m+1+1+1+1:=zg (by omega) (by omega);have eN:m+1+1+1+1=m+(Eg x:Nat):=by simp only[Eg]<;>omega
  simp only[Fb.l2,Hy,yX];simp only[Np,Fb.d4,AX,yY,Dv,decide_true,zq,yZ,zK rfl,bne_self_eq_false,beq_self_eq_true,e0,Pb k (by omega) (m) (by omega),e1,e2,e3,HV pre hp];rw[eN]
def FJ(x:za):Prop:=True
def DL(x:za):Nat:=1+1
def Mf(k:Nat)(x:za)(m:Int):za:=(m,O_ k (m+1),())
theorem RO(x:za)(h:FJ x):DL x≤2:=by
 unfold DL;omega
theorem amE(hk:2000000≤k)(x:za)(hx:FJ x):Ma k x x=some true:=by
 simp only[zK rfl,Dv,decide_true,zq,yZ,yY,bne_self_eq_false,beq_self_eq_true,L9,L_,Ma]
theorem amF(hk:2000000≤k)(l:List za)(hl:CX FJ l):IG k l l=some true:=by
 unfold IG;have h:=hl.1;simp only[zK rfl,yZ];refine PM (IG.l4 k) FJ ?_ ?_ l [] k (by omega) (by simpa using h) hl.2
 ·intro n l
  simp only[IG.l4,Hw,yZ]
 ·intro n pre x post hx hp
  simp only[IG.l4,Hy,yX,AX,yY,amE k hk x hx,zq,yZ,HV pre hp]
theorem amM(hk:2000000≤k)(l:List za)(hl:CX FJ l)(m:Int)(h0:0≤m)(hm:m+(BQ DL l:Nat)≤4611686018427387904):IL k m l=some (m+(BQ DL l:Nat),F7 (Mf k) DL l m):=by
 unfold IL;have h:=hl.1;refine PN (IL.l2 k) (Mf k) DL 2 FJ 4611686018427387904 RO ?_ ?_ l [] k m (by omega) (by simpa using h) hl.2 h0 hm
 ·intro n m l
  simp only[IL.l2,Hw,yZ]
 ·intro n m pre x post hx h0 hm hp
  simp only[DL] at hm;have e0:IntKind.wrap .i64 (m+1)=m+1:=zg (by omega) (by omega);have e1:IntKind.wrap .i64 (m+1+1)=m+1+1:=zg (by omega) (by omega);have eN:m+1+1=m+(DL x:Nat):=by simp only[DL]<;>omega
  simp only[IL.l2,Hy,yX,AX,yY,IV,e0,e1,Pb k (by omega) (m+1) (by omega),HV pre hp];rw[eN];rfl
theorem amI(hk:2000000≤k)(l:List za)(hl:CX FJ l)(m:Int)(h0:0≤m)(hm:m+(BQ DL l:Nat)≤4611686018427387904):FF k (F7 (Mf k) DL l m) m=some (m+(BQ DL l:Nat)):=by
 unfold FF;have h:=hl.1;refine Ra (FF.l2 k) (Mf k) DL FJ 4611686018427387904 ?_ ?_ l [] k m (by omega) (by simpa using h) hl.2 h0 hm
 ·intro n m l
  simp only[FF.l2,Hw,yZ]
 ·intro n m pre x post hx h0 hm hp
  simp only[DL] at hm;have e0:IntKind.wrap .i64 (m+1)=m+1:=zg (by omega) (by omega);have e1:IntKind.wrap .i64 (m+1+1)=m+1+1:=zg (by omega) (by omega);have eN:m+1+1=m+(DL x:Nat):=by simp only[DL]<;>omega
  simp only[FF.l2,Hy,yX];simp only[Mf,FF.d7,AX,yY,Dv,decide_true,zq,yZ,zK rfl,bne_self_eq_false,beq_self_eq_true,e0,e1,Pb k (by omega) (m+1) (by omega),HV pre hp];rw[eN]
def JI(x:Aw):Prop:=CX FJ x.1
def E5(x:Aw):Nat:=BQ DL x.1
def Nq(k:Nat)(x:Aw)(m:Int):Aw:=(F7 (Mf k) DL x.1 (m),())
theorem RN(x:Aw)(h:JI x):E5 x≤2097152:=by
 have h0:CX FJ x.1:=h;have g0:=CX.tot h0 RO;unfold E5;omega
theorem amC(hk:2000000≤k)(x:Aw)(hx:JI x):L_ k x x=some true:=by
 have o0:CX FJ x.1:=hx;have Nh:CX FJ x.1:=o0;simp only[zK rfl,Dv,decide_true,zq,yZ,yY,bne_self_eq_false,beq_self_eq_true,L9,L_,Ma,amF k hk _ Nh]
theorem amD(hk:2000000≤k)(l:List Aw)(hl:CX JI l):GQ k l l=some true:=by
 unfold GQ;have h:=hl.1;simp only[zK rfl,yZ];refine PM (GQ.l4 k) JI ?_ ?_ l [] k (by omega) (by simpa using h) hl.2
 ·intro n l
  simp only[GQ.l4,Hw,yZ]
 ·intro n pre x post hx hp
  simp only[GQ.l4,Hy,yX,AX,yY,amC k hk x hx,zq,yZ,HV pre hp]
theorem amL(hk:2000000≤k)(l:List Aw)(hl:CX JI l)(m:Int)(h0:0≤m)(hm:m+(BQ E5 l:Nat)≤4611686018427387904):IK k m l=some (m+(BQ E5 l:Nat),F7 (Nq k) E5 l m):=by
 unfold IK;have h:=hl.1;refine PN (IK.l2 k) (Nq k) E5 2097152 JI 4611686018427387904 RN ?_ ?_ l [] k m (by omega) (by simpa using h) hl.2 h0 hm
 ·intro n m l
  simp only[IK.l2,Hw,yZ]
 ·intro n m pre x post hx h0 hm hp
  simp only[E5] at hm;have o0:CX FJ x.1:=hx;have Nh:CX FJ x.1:=o0;have p0:(0:Int)≤(BQ DL x.1:Nat):=Int.natCast_nonneg _;have r0:=amM k hk x.1 Nh (m) (by omega) (by omega);have eN:m+(BQ DL x.1:Nat)=m+(E5 x:Nat):=by simp only[E5]<;>omega
  simp only[IK.l2,Hy,yX,AX,yY,IV,r0,HV pre hp];rw[eN];rfl
theorem amH(hk:2000000≤k)(l:List Aw)(hl:CX JI l)(m:Int)(h0:0≤m)(hm:m+(BQ E5 l:Nat)≤4611686018427387904):Hu k (F7 (Nq k) E5 l m) m=some (m+(BQ E5 l:Nat)):=by
 unfold Hu;have h:=hl.1;refine Ra (Hu.l2 k) (Nq k) E5 JI 4611686018427387904 ?_ ?_ l [] k m (by omega) (by simpa using h) hl.2 h0 hm
 ·intro n m l
  simp only[Hu.l2,Hw,yZ]
 ·intro n m pre x post hx h0 hm hp
  simp only[E5] at hm;have o0:CX FJ x.1:=hx;have Nh:CX FJ x.1:=o0;have p0:(0:Int)≤(BQ DL x.1:Nat):=Int.natCast_nonneg _;have r0:=amI k hk x.1 Nh (m) (by omega) (by omega);have eN:m+(BQ DL x.1:Nat)=m+(E5 x:Nat):=by simp only[E5]<;>omega
  simp only[Hu.l2,Hy,yX];simp only[Nq,AX,yY,Dv,decide_true,zq,yZ,zK rfl,bne_self_eq_false,beq_self_eq_true,r0,zk (show ¬(m+(BQ DL x.1:Nat)<0) by omega),HV pre hp];rw[eN]
end Go.Af
end
section
namespace Go.Af
open Go.Am Go.Fn
theorem ai3{t:Ty}{e:TypeId}{P:t.Den→Prop}(hP:∀x,gH t x→P x){l:List t.Den}(h:gH (.list e t) l):l.length≤9223372036854775807∧∀x,x∈l→P x:=
 ⟨Nat.le_trans h.1 (by decide),fun x hx=>hP x (h.2 x hx)⟩
theorem amo{x:Int}(h:(Lit.int .u8 x).wf=true):0≤x∧x<256:=by
 simp only[Lit.wf,Aa,Al] at h;have h1:IntKind.min .u8=0:=by decide
 have h2:IntKind.max .u8=255:=by decide
 rw[h1,h2] at h;exact⟨by omega,by omega⟩
theorem ai2{b:List Int}(h:gH (.list 0 (.int .u8)) b):∀x,x∈b→0≤x∧x<256:=
 (ai3 (t:= .int .u8) (P:=fun x=>0≤x∧x<256) (fun x hx=>amo hx) h).2
theorem fnExactFileRead(b:List Int)(h:gH (.list 0 (.int .u8)) b):∃k,Qz k b=some true:=by
 have g:=ai2 h;clear h;refine⟨3000000,?_⟩;generalize hk:3000000=k;have hk':2000000≤k:=by omega
 clear hk;unfold Qz;by_cases c1:(b.length:Int)>1048576
 ·rw[zh c1];rfl
 ·have ob:CX Ki b:=⟨by omega,g⟩
  obtain⟨c,S,l,e1,e2,e3,e4,e5⟩:=aiU k hk' b (by omega) g;have oS:CX JG S:=⟨by omega,fun _ _=>trivial⟩;have ol:CX JI l:=⟨by omega,fun r hr=>⟨by have:=e5 r hr;omega,fun _ _=>trivial⟩⟩;have n1:=CX.tot ob RJ;have n2:=CX.tot oS RL;have n3:=CX.tot ol RN;rw[zk c1]
  simp only[yZ,amN k hk' b ob,yY,e1,e2,amB k hk' S oS,amD k hk' l ol,amz k hk' b ob,amJ k hk' b ob 1 (by omega) (by omega),beq_self_eq_true,zq,cst,Bt,zK rfl,
   zk (show ¬((1:Int)+(BQ Jz b:Nat)<0) by omega),amK k hk' S oS 1 (by omega) (by omega),amL k hk' l ol (1+(BQ Eg S:Nat)) (by omega) (by omega),amG k hk' S oS 1 (by omega) (by omega),amH k hk' l ol (1+(BQ Eg S:Nat)) (by omega) (by omega),
   zk (show ¬((1:Int)+(BQ Eg S:Nat)<0) by omega),zk (show ¬((1:Int)+(BQ Eg S:Nat)+(BQ E5 l:Nat)<0) by omega)]
end Go.Af
end
