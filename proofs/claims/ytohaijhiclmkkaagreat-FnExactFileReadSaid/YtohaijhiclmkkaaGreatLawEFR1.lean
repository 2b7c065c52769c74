/- plain laws of the claim's functions -/
import Derived.Test.YtohaijhiclmkkaaGreatLawEFR0
set_option linter.unnecessarySimpa false
set_option linter.unusedSimpArgs false
set_option linter.unusedVariables false
set_option linter.unusedSectionVars false
section
namespace Go.Af
open Go.Am Go.Fn
variable(k:Nat)
abbrev Ih:=(Unit×Int×Bool)×List Int
theorem Rz{u w:Nat}(hw:w≤64)(hu:u<18446744073709551616):Ja u≤w↔u<2^w:=by
 constructor
 ·intro h
  exact Nat.lt_of_lt_of_le (Vj hu) (Nat.pow_le_pow_right (by decide) h)
 ·intro h
  have e:=Ld w (64-w) u h;rw[show w+(64-w)=64 by omega] at e;unfold Ja;rw[e];exact Od w u
theorem ajR(L4:(List Int)→Int→Int→Int→(List Int)→Option Ih)(b:List Int)(many w x nx:Int)(m:Nat)(hm:m≤100000):∀(d n i:Nat) (o:List Int),i+d=m→d<n→o.length+d≤100000→
 DC.BX k L4 n b many w x nx (m:Int) (i:Int) o=L4 b nx many w (o++List.replicate d x):=by
 intro d
 induction d with
 |zero=>
  intro n i o hi hn ho;obtain⟨n,rfl⟩:∃x,n=x+1:=⟨n-1,by omega⟩;simp only[DC.BX,zk (show ¬(i:Int)<(m:Int) by omega),yZ];simp
 |succ d ih=>
  intro n i o hi hn ho;obtain⟨n,rfl⟩:∃x,n=x+1:=⟨n-1,by omega⟩;have e:IntKind.wrap .i64 ((i:Int)+1)=((i+1:Nat):Int):=by rw[zg (by omega) (by omega)];omega
  simp only[DC.BX,zh (show(i:Int)<(m:Int) by omega),yX,Ak (show o.length+[x].length≤4294967296 by simp;omega),e];rw[ih n (i+1) _ (by omega) (by omega) (by simp;omega),Bu];rfl
theorem al1(L4:(List Int)→Int→Int→Int→(List Int)→Option Ih)(b:List Int)(many:Nat)(w x nx:Int)(c:Nat)(hc:c<9223372036854775808)(hm:many≤2000):∀(d n i:Nat) (o:List Int),d=min (c-i) (many-o.length)→i≤c→d<n→i+d≤100000→
 A7.Dp k L4 n b (many:Int) w nx (c:Int) x (i:Int) o=L4 b nx (many:Int) w (o++List.replicate d x):=by
 intro d
 induction d with
 |zero=>
  intro n i o hi hic hn ho;obtain⟨n,rfl⟩:∃x,n=x+1:=⟨n-1,by omega⟩;have:(decide ((i:Int)<(c:Int))&&decide ((o.length:Int)<(many:Int)))=false:=by
   rw[Bool.eq_false_iff];intro h;simp only[Aa,Al] at h;omega
  simp only[A7.Dp,Au,this,yY,yZ];simp
 |succ d ih=>
  intro n i o hi hic hn ho;obtain⟨n,rfl⟩:∃x,n=x+1:=⟨n-1,by omega⟩;have e:IntKind.wrap .i64 ((i:Int)+1)=((i+1:Nat):Int):=by rw[zg (by omega) (by omega)];omega
  simp only[A7.Dp,Au,zh (show(i:Int)<(c:Int) by omega),zh (show(o.length:Int)<(many:Int) by omega),Bool.and_self,yY,yX,Ak (show o.length+[x].length≤4294967296 by simp;omega),e];rw[ih n (i+1) _ (by simp;omega) (by omega) (by omega) (by omega),Bu];rfl
theorem al9(ML:(List Int)→Int→Int→Int→Int→Int→(List Int)→Option Ih)(pre post:List Int)(L M w i q:Nat)(t2 t15:Int)(hw:w≤64)(hq:(i:Int)*(w:Int)=(q:Int))(KQ:i*w=q)(M8:q+w≤8*L)(hl:pre.length+L<10000000000000000)(hi:i<1000000)(o:List Int)(ho:o.length<1000000):
 ∀(m n j:Nat),j+m=w→m<n→A7.Df k ML n (pre++(leB L M++post)) t2 (w:Int) (pre.length:Int) t15 (i:Int) (IntKind.wrap .i64 ((M/2^q%2^j:Nat):Int)) (j:Int) o=ML (pre++(leB L M++post)) t2 (w:Int) (pre.length:Int) t15 ((i+1:Nat):Int) (o++[D5 w M i]):=by
 intro m
 induction m with
 |zero=>
  intro n j hj hn;obtain⟨n,rfl⟩:∃x,n=x+1:=⟨n-1,by omega⟩;obtain rfl:j=w:=by omega
  simp only[A7.Df,zk (show ¬(j:Int)<(j:Int) by omega),yZ];rw[Ak (by simp;omega),yX,zg (x:=(i:Int)+1) (by omega) (by omega)];unfold D5;rw[KQ]
  congr 1
 |succ m ih=>
  intro n j hj hn;obtain⟨n,rfl⟩:∃x,n=x+1:=⟨n-1,by omega⟩;have hp:IntKind.wrap .i64 (IntKind.wrap .i64 (IntKind.wrap .i64 (8*(pre.length:Int))+IntKind.wrap .i64 ((i:Int)*(w:Int)))+(j:Int))=((8*pre.length+(q+j):Nat):Int):=by
   rw[hq,zg (x:=(q:Int)) (by omega) (by omega),zg (x:=8*(pre.length:Int)) (by omega) (by omega),zg (x:=8*(pre.length:Int)+(q:Int)) (by omega) (by omega),zg (by omega) (by omega)];omega
  have hb:=Qy k pre post L M (q+j) (by omega) (by omega);simp only[A7.Df,zh (show(j:Int)<(w:Int) by omega),yX,hp,hb,yY,zh (show(0:Int)≤(j:Int) by omega)];have hlt:M/2^q%2^j<2^j:=Nat.mod_lt _ (Nat.two_pow_pos j);have hjj:2^(j+1)≤2^64:=Nat.pow_le_pow_right (by decide) (by omega);have hb1:M/2^(q+j)%2≤1:=by omega
  have hb2:M/2^(q+j)%2*2^j≤1*2^j:=Nat.mul_le_mul_right _ hb1;have ho:=Kj .i64 (a:=M/2^q%2^j) (b:=M/2^(q+j)%2) (i:=j) (show j≤64 by omega) hlt (show _<2^64 by rw[Nat.pow_succ] at hjj;omega);rw[ho];have hs:M/2^q%2^j+M/2^(q+j)%2*2^j=M/2^q%2^(j+1):=by
   rw[mod_succ,Nat.div_div_eq_div_mul,←Nat.pow_add]
  rw[hs,zg (x:=(j:Int)+1) (by omega) (by omega),show((j:Int)+1)=((j+1:Nat):Int) by omega];exact ih n (j+1) (by omega) (by omega)
theorem al_(hk:3000≤k)(L4:(List Int)→Int→Int→Int→(List Int)→Option Ih)(pre post:List Int)(L M w c many:Nat)(hw:w≤24)(hc:c≤2000)(hm:many≤2000)(hN:min (8*c) many*w≤8*L)(hL:c*w≤L)(hl:pre.length+L<10000000000000000):
 ∀(d n i:Nat) (o:List Int),d=min (8*c-i) (many-o.length)→i≤8*c→d<n→o.length≤many→A7.Ke k L4 n (pre++(leB L M++post)) (many:Int) (w:Int) (pre.length:Int) (c:Int) (i:Int) o=L4 (pre++(leB L M++post)) (IntKind.wrap .i64 ((pre.length:Int)+IntKind.wrap .i64 ((c:Int)*(w:Int)))) (many:Int) (w:Int) (o++(List.range' i d).map (D5 w M)):=by
 intro d;have e8:IntKind.wrap .i64 (8*(c:Int))=((8*c:Nat):Int):=by rw[zg (by omega) (by omega)];omega
 induction d with
 |zero=>
  intro n i o hi hic hn ho;obtain⟨n,rfl⟩:∃x,n=x+1:=⟨n-1,by omega⟩;have:(decide ((i:Int)<((8*c:Nat):Int))&&decide ((o.length:Int)<(many:Int)))=false:=by
   rw[Bool.eq_false_iff];intro h;simp only[Aa,Al] at h;omega
  simp only[A7.Ke,Au,e8,this,yY,yZ];simp
 |succ d ih=>
  intro n i o hi hic hn ho;obtain⟨n,rfl⟩:∃x,n=x+1:=⟨n-1,by omega⟩;have hmul:i*w+w≤8*L:=by
   have h1:(i+1)*w≤8*c*w:=Nat.mul_le_mul_right _ (by omega);have h2:8*c*w≤8*L:=by rw[Nat.mul_assoc];exact Nat.mul_le_mul_left 8 hL
   rw[Nat.add_mul,Nat.one_mul] at h1;omega
  have hi':=al9 k (A7.Ke k L4 n) pre post L M w i (i*w) (many:Int) (c:Int) (by omega) (by simp) rfl hmul hl (by omega) o (by omega) w k 0 (by omega) (by omega);simp only[Nat.pow_zero,Nat.mod_one] at hi';have h0:((0:Nat):Int)=0:=rfl;have hw0:IntKind.wrap .i64 0=0:=rfl;rw[h0,hw0] at hi';simp only[A7.Ke,Au,e8,zh (show(i:Int)<((8*c:Nat):Int) by omega),zh (show(o.length:Int)<(many:Int) by omega),Bool.and_self,yY,yX];rw[hi',ih n (i+1) _ (by simp;omega) (by omega) (by omega) (by simp;omega)];simp[List.range'_succ]
theorem alg(hk:3000≤k)(b:List Int)(hb:b.length<1000000000000000)(hby:CG b)(p w:Nat)(hp:p≤b.length)(hw:w≤24)(F:Int→Int→Option Ih):
 ∃(x nx:Int) (ok:Bool),O1 k b (p:Int) (w:Int)=some (x,nx,ok)∧
  (cond (decide ((w:Int)>0))
   ((Km k 1 (w:Int)).bind fun r6=>(Ec k b (p:Int) r6).bind fun r7=>
    (cond (!r7.2.2) (some true) (cond (decide (0≤(w:Int))) (some ((pE .i64 r7.1 (w:Int)) !=0)) none)).bind fun b8=>cond b8 (some (((),0,false),[])) (F r7.1 r7.2.1))
   (F 0 (p:Int)))=cond ok (F x nx) (some (((),0,false),[]))∧
  (ok=true→(p:Int)≤nx∧nx≤(b.length:Int)∧0≤x∧x<2^w):=by
 unfold O1;by_cases h0:w=0
 ·subst h0
  refine⟨0,p,true,rfl,rfl,fun _=>⟨by omega,by omega,by decide,by decide⟩⟩
 ·obtain⟨z,h1,h2,hz⟩:=Rx k 1 (w:Int)
  rcases hz with⟨_,hn⟩|⟨_,_,_,_,hz⟩
  ·exact(hn ⟨by omega,by omega,by omega,by omega⟩).elim
  ·have hsz:z=(((w+7)/8:Nat):Int):=by
    rw[hz];unfold bytesOf;simp
   subst hsz;obtain⟨v,nx,ok,a1,a2,a3,a4,a5⟩:=NV k (by omega) b hb hby (p:Int) ⟨by omega,by omega⟩ ((w+7)/8) (by omega) (by omega);simp only[zw (show ¬(w:Int)=0 by omega),yZ,h1,h2,yY,a1,a2,zh (show(w:Int)>0 by omega),yX,zh (show(0:Int)≤(w:Int) by omega)];cases ok with
   |false=>
    simp only[zD,yX,yY];exact⟨_,_,false,rfl,rfl,nofun⟩
   |true=>
    obtain⟨c1,c2,c3,c4⟩:=a5 rfl;obtain⟨c5,c6⟩:=c4 (by omega);have hv:IntKind.wrap .u64 v=((v.toNat:Nat):Int):=by rw[MC];omega
    have hwd:Ka k v=some (Ja v.toNat:Int):=by
     unfold Ka;rw[hv,Tp k v.toNat (by omega)];rfl
    have hcond:decide ((Ja v.toNat:Int)>(w:Int))=(pE .i64 v (w:Int) !=0):=by
     rw[IW .i64 v w (show w≤64 by omega)];have hb:=Rz (u:=v.toNat) (w:=w) (by omega) (by omega);have hd:v/2^w=((v.toNat/2^w:Nat):Int):=by
      rw[Int.natCast_ediv,Int.toNat_of_nonneg c5];simp
     rw[hd];by_cases hlt:v.toNat<2^w
     ·rw[Nat.div_eq_of_lt hlt,zk (by have:=hb.2 hlt;omega)];rfl
     ·have hq:0<v.toNat/2^w:=Nat.div_pos (by omega) (Nat.two_pow_pos w)
      rw[zh (by have:¬Ja v.toNat≤w:=fun h=>hlt (hb.1 h);omega),zO (by omega)]
    simp only[zq,yZ,hwd,yY,hcond];cases hs:(pE .i64 v (w:Int) !=0) with
    |true=>
     simp only[yX];exact⟨_,_,false,rfl,rfl,nofun⟩
    |false=>
     simp only[yZ];refine⟨_,_,true,rfl,rfl,fun _=>⟨by omega,c3,c5,?_⟩⟩;rw[←hcond] at hs;have hs:=of_decide_eq_false hs;have:=(Rz (u:=v.toNat) (w:=w) (by omega) (by omega)).1 (by omega);have h2:((v.toNat:Nat):Int)<((2^w:Nat):Int):=by exact_mod_cast this
     rw[Int.toNat_of_nonneg c5] at h2;simpa using h2
theorem aji(u:Int)(hu:Ae u):IntKind.wrap .i64 (pE .u64 (IntKind.wrap .u64 u) 1)=((u64 u/2:Nat):Int):=by
 have:=Q3 u;rw[wu64 u,Ug,zg (by omega) (by omega)];omega
theorem alh(hk:2000000≤k)(b:List Int)(hb:b.length<1900000)(hby:CG b)(w many:Nat)(hw:w≤24)(hm:many≤2000):∀(f n p:Nat) (o:List Int),p+f=b.length→f<n→o.length≤many→(∀x,x∈o→0≤x∧x<2^w)→
 ∃nx ok l,DC.l4 k n b (p:Int) (many:Int) (w:Int) o=some (((),nx,ok),l)∧A7.l4 k n b (p:Int) (many:Int) (w:Int) o=some (((),nx,ok),l)∧
  (ok=false→nx=0∧l=[])∧(ok=true→(p:Int)≤nx∧nx≤(b.length:Int)∧l.length=many∧∀x,x∈l→0≤x∧x<2^w):=by
 intro f
 induction f using Nat.strongRecOn with
 |ind f ih=>
 intro n p o hpf hn ho hox;obtain⟨n,rfl⟩:∃x,n=x+1:=⟨n-1,by omega⟩;by_cases hmore:o.length<many
 ·have g1:=LG k (by omega) (by omega) hby p (by omega)
  have g2:=Nz k (by omega) (by omega) hby p (by omega);simp only[DC.l4,A7.l4,zh (show(o.length:Int)<(many:Int) by omega),yX,g1,g2];cases hg:gv (b.drop p) with
  |none=>
   have hd:JP k 0 1=some 0:=by
    have:=RY k 0 ⟨by decide,by decide⟩;rw[this,amn];rfl
   simp only[yY,hd,zD,yX];exact⟨_,_,_,rfl,rfl,fun _=>⟨rfl,rfl⟩,nofun⟩
  |some un=>
   obtain⟨u,c⟩:=un;obtain⟨hu,c1,c2,_,_⟩:=E8 (b.drop p) u c (fun x hx=>hby x (List.mem_of_mem_drop hx)) hg;rw[List.length_drop] at c2;have hul:=Q3 u;simp only[yY,RY k u hu,zq,yZ,aji u hu];generalize hcn:u64 u/2=cnt;have hcnt:cnt<9223372036854775808:=by omega
   cases hodd:(bits .and .i64 u 1==0) with
   |true=>
    simp only[yX];obtain⟨x,nx,ok,r1,r2,r3⟩:=alg k (by omega) b (by omega) hby (p+c) w (by omega) hw (fun y a=>A7.c17 k (A7.l4 k n) b (many:Int) (w:Int) a ((cnt:Nat):Int) y o);rw[r1,r2];simp only[yY];cases ok with
    |false=>
     simp only[zD,yX,yZ];exact⟨_,_,_,rfl,rfl,fun _=>⟨rfl,rfl⟩,nofun⟩
    |true=>
     obtain⟨q1,q2,q3,q4⟩:=r3 rfl;obtain⟨q,rfl⟩:∃q:Nat,nx=q:=⟨nx.toNat,by omega⟩;have MV:IntKind.wrap .i64 ((many:Int)-(o.length:Int))=((many-o.length:Nat):Int):=by rw[zg (by omega) (by omega)];omega
     have MW:(if IntKind.wrap .i64 ((many:Int)-(o.length:Int))<((cnt:Nat):Int) then IntKind.wrap .i64 ((many:Int)-(o.length:Int)) else((cnt:Nat):Int))=((min cnt (many-o.length):Nat):Int):=by
      rw[MV];split<;>omega
     have i1:=ajR k (DC.l4 k n) b (many:Int) (w:Int) x (q:Int) (min cnt (many-o.length)) (by omega) (min cnt (many-o.length)) k 0 o (by omega) (by omega) (by omega);have s1:=al1 k (A7.l4 k n) b many (w:Int) x (q:Int) cnt hcnt hm (min cnt (many-o.length)) k 0 o (by omega) (by omega) (by omega) (by omega);rw[show((0:Nat):Int)=0 from rfl] at i1 s1;simp only[zq,yX,yZ,MW,i1,A7.c17,s1]
     obtain⟨nx',ok',l',e1,e2,e3,e4⟩:=ih (b.length-q) (by omega) n q (o++List.replicate (min cnt (many-o.length)) x) (by omega) (by omega) (by simp;omega) (by
      intro y hy;rcases List.mem_append.1 hy with hy|hy
      ·exact hox y hy
      ·obtain⟨_,rfl⟩:=List.mem_replicate.1 hy
       exact⟨q3,q4⟩)
     exact⟨nx',ok',l',e1,e2,e3,fun h=>by obtain⟨a1,a2⟩:=e4 h;exact⟨by omega,a2⟩⟩
   |false=>
    simp only[yZ];by_cases hbad:cnt>2000
    ·simp only[zh (show((cnt:Nat):Int)>2000 by omega),yX,yY]
     exact⟨_,_,_,rfl,rfl,fun _=>⟨rfl,rfl⟩,nofun⟩
    ·have hcw:cnt*w≤2000*24:=Nat.mul_le_mul (by omega) hw
     have R3:IntKind.wrap .i64 (((cnt:Nat):Int)*(w:Int))=((cnt*w:Nat):Int):=by
      rw[show((cnt:Nat):Int)*(w:Int)=((cnt*w:Nat):Int) by simp,zg (by omega) (by omega)]
     have GA:IntKind.wrap .i64 ((b.length:Int)-((p+c:Nat):Int))=((b.length-(p+c):Nat):Int):=by rw[zg (by omega) (by omega)];omega
     simp only[zk (show ¬((cnt:Nat):Int)>2000 by omega),yZ,yY,R3,GA];by_cases hfit:cnt*w≤b.length-(p+c)
     ·simp only[zk (show ¬((cnt*w:Nat):Int)>((b.length-(p+c):Nat):Int) by omega),zk (show ¬((b.length-(p+c):Nat):Int)<((cnt*w:Nat):Int) by omega),yZ]
      have e8:IntKind.wrap .i64 (8*((cnt:Nat):Int))=((8*cnt:Nat):Int):=by rw[zg (by omega) (by omega)];omega
      have MV:IntKind.wrap .i64 ((many:Int)-(o.length:Int))=((many-o.length:Nat):Int):=by rw[zg (by omega) (by omega)];omega
      have MW:(if IntKind.wrap .i64 ((many:Int)-(o.length:Int))<IntKind.wrap .i64 (8*((cnt:Nat):Int)) then IntKind.wrap .i64 ((many:Int)-(o.length:Int)) else IntKind.wrap .i64 (8*((cnt:Nat):Int)))=((min (8*cnt) (many-o.length):Nat):Int):=by
       rw[MV,e8];split<;>omega
      have hlen:((b.drop (p+c)).take (cnt*w)).length=cnt*w:=by rw[List.length_take,List.length_drop];omega
      have hsp:b=b.take (p+c)++(leB (cnt*w) (wv ((b.drop (p+c)).take (cnt*w)))++b.drop (p+c+cnt*w)):=by
       have h3:=QA ((b.drop (p+c)).take (cnt*w)) (fun x hx=>hby x (List.mem_of_mem_drop (List.mem_of_mem_take hx)));rw[hlen] at h3;have hdd:b.drop (p+c+cnt*w)=(b.drop (p+c)).drop (cnt*w):=by rw[List.drop_drop]
       rw[←h3,hdd,List.take_append_drop,List.take_append_drop]
      have hpl:(b.take (p+c)).length=p+c:=by rw[List.length_take];omega
      generalize wv ((b.drop (p+c)).take (cnt*w))=M at hsp;have hN:min (8*cnt) (many-o.length)*w≤8*(cnt*w):=by
       rw[←Nat.mul_assoc];exact Nat.mul_le_mul_right _ (by omega)
      have LA:min (8*cnt) many*w≤8*(cnt*w):=by
       rw[←Nat.mul_assoc];exact Nat.mul_le_mul_right _ (by omega)
      have u1:=Q4 k (b.take (p+c)) (b.drop (p+c+cnt*w)) (cnt*w) M w (min (8*cnt) (many-o.length)) (by omega) hN (by rw[hpl];omega) (by omega) (by omega) (by omega);have u2:=al_ k (by omega) (A7.l4 k n) (b.take (p+c)) (b.drop (p+c+cnt*w)) (cnt*w) M w cnt many hw (by omega) hm LA (Nat.le_refl _) (by rw[hpl];omega) (min (8*cnt) (many-o.length)) k 0 o (by omega) (by omega) (by omega) (by omega);rw[←hsp,hpl] at u1 u2;rw[show((0:Nat):Int)=0 from rfl,←List.range_eq_range'] at u2;have Oj:IntKind.wrap .i64 (((p+c:Nat):Int)+((cnt*w:Nat):Int))=((p+c+cnt*w:Nat):Int):=by rw[zg (by omega) (by omega)];omega
      rw[R3,Oj] at u2;simp only[MW,u1,yY,Ak (show o.length+((List.range (min (8*cnt) (many-o.length))).map (D5 w M)).length≤4294967296 by simp;omega),yX,Oj,u2]
      obtain⟨nx',ok',l',e1,e2,e3,e4⟩:=ih (b.length-(p+c+cnt*w)) (by omega) n (p+c+cnt*w) (o++(List.range (min (8*cnt) (many-o.length))).map (D5 w M)) (by omega) (by omega) (by simp;omega) (by
       intro y hy;rcases List.mem_append.1 hy with hy|hy
       ·exact hox y hy
       ·obtain⟨i,_,rfl⟩:=List.mem_map.1 hy
        have hlt:M/2^(i*w)%2^w<2^w:=Nat.mod_lt _ (Nat.two_pow_pos w);have ajv:2^w≤2^62:=Nat.pow_le_pow_right (by decide) (by omega);unfold D5;rw[zg (by omega) (by omega)];refine⟨by omega,?_⟩
        exact_mod_cast hlt)
      exact⟨nx',ok',l',e1,e2,e3,fun h=>by obtain⟨a1,a2⟩:=e4 h;exact⟨by omega,a2⟩⟩
     ·simp only[zh (show((cnt*w:Nat):Int)>((b.length-(p+c):Nat):Int) by omega),zh (show((b.length-(p+c):Nat):Int)<((cnt*w:Nat):Int) by omega),yX]
      exact⟨_,_,_,rfl,rfl,fun _=>⟨rfl,rfl⟩,nofun⟩
 ·simp only[DC.l4,A7.l4,zk (show ¬(o.length:Int)<(many:Int) by omega),yZ]
  exact⟨_,_,_,rfl,rfl,nofun,fun _=>⟨by omega,by omega,by omega,hox⟩⟩
theorem Pn(hk:2000000≤k)(b:List Int)(hb:b.length≤1048576)(hby:CG b)(at_ many w:Int):
 ∃nx ok l,DC k b at_ many w=some (((),nx,ok),l)∧A7 k b at_ many w=some (((),nx,ok),l)∧
  (ok=false→nx=0∧l=[])∧(ok=true→(0≤at_∧at_≤nx∧nx≤(b.length:Int))∧(0≤many∧many≤2000)∧(0≤w∧w≤24)∧l.length=many.toNat∧∀x,x∈l→0≤x∧x<2^w.toNat):=by
 unfold DC A7 QT;simp only[Bp,Bh,yY,cst];by_cases hc:(0≤w∧w≤24)∧(0≤many∧many≤2000)∧(0≤at_∧at_≤(b.length:Int))
 ·obtain⟨⟨w0,w1⟩,⟨m0,m1⟩,a0,a1⟩:=hc
  simp only[zh w0,zh w1,zh m0,zh m1,zh a0,zh a1,Bool.and_self,zq,Bt,yZ];obtain⟨w,rfl⟩:∃m:Nat,w=m:=⟨w.toNat,by omega⟩;obtain⟨many,rfl⟩:∃m:Nat,many=m:=⟨many.toNat,by omega⟩;obtain⟨p,rfl⟩:∃m:Nat,at_=m:=⟨at_.toNat,by omega⟩;obtain⟨nx,ok,l,e1,e2,e3,e4⟩:=alh k hk b (by omega) hby w many (by omega) (by omega) (b.length-p) k p [] (by omega) (by omega) (by simp) (fun x hx=>by cases hx);refine⟨nx,ok,l,e1,e2,e3,fun h=> ?_⟩;obtain⟨b1,b2,b3,b4⟩:=e4 h;exact⟨⟨a0,b1,b2⟩,⟨m0,m1⟩,⟨w0,w1⟩,by simp[b3],by simpa using b4⟩
 ·have:((!(decide (0≤w)&&decide (w≤24))|| !(decide (0≤many)&&decide (many≤2000)))|| !(decide (0≤at_)&&decide (at_≤(b.length:Int))))=true:=by
   by_cases a:0≤w<;>by_cases b1:w≤24<;>by_cases c:0≤many<;>by_cases d:many≤2000<;>by_cases e:0≤at_<;>by_cases g:at_≤(b.length:Int)<;>simp[a,b1,c,d,e,g]
   exact hc ⟨⟨a,b1⟩,⟨c,d⟩,e,g⟩
  simp only[this,yX];exact⟨_,_,_,rfl,rfl,fun _=>⟨rfl,rfl⟩,nofun⟩
end Go.Af
end
section
namespace Go.Af
open Go.Am Go.Fn
variable(k:Nat)
theorem ama:∀(f n u t:Nat),u<2^f→f<n→t+f≤62→GU.l4 k n (u:Int) (t:Int)=some ((t+Dz f u:Nat):Int):=by
 intro f
 induction f with
 |zero=>
  intro n u t hu hn ht;obtain⟨n,rfl⟩:∃q,n=q+1:=⟨n-1,by omega⟩;have:u=0:=by simpa using hu
  subst this;simp only[GU.l4,zk (show ¬(((0:Nat):Int)>0) by omega),yZ,zk (show ¬((t:Int)>62) by omega),Dz,Nat.add_zero]
 |succ f ih=>
  intro n u t hu hn ht;obtain⟨n,rfl⟩:∃q,n=q+1:=⟨n-1,by omega⟩;rw[Nat.pow_succ] at hu;have hle:2^f*2≤2^62:=by rw[←Nat.pow_succ];exact Nat.pow_le_pow_right (by omega) (by omega)
  by_cases h0:u=0
  ·subst h0
   simp only[GU.l4,zk (show ¬(((0:Nat):Int)>0) by omega),yZ,zk (show ¬((t:Int)>62) by omega),Dz,if_pos,Nat.add_zero]
  ·have e1:IntKind.wrap .i64 (Int.tdiv (u:Int) 2)=((u/2:Nat):Int):=by
    rw[Int.tdiv_eq_ediv_of_nonneg (by omega),zg (by omega) (by omega)];omega
   have e2:IntKind.wrap .i64 ((t:Int)+1)=((t+1:Nat):Int):=by rw[zg (by omega) (by omega)];omega
   simp only[GU.l4,zh (show(u:Int)>0 by omega),yX,e1,e2,Dz,if_neg h0];rw[ih n (u/2) (t+1) (by omega) (by omega) (by omega)]
   congr 2
   omega
theorem UG(hk:100≤k)(m:Int)(h0:0≤m)(h1:m≤255):∃w:Int,M_ k m=some w∧GU k m=some w∧0≤w∧w≤8:=by
 obtain⟨u,rfl⟩:∃n:Nat,m=n:=⟨m.toNat,by omega⟩;have hu:u<2^8:=by show u<256;omega
 have hs:=ama k 8 k u 0 hu (by omega) (by omega);have hus:u64 (u:Int)=u:=by have:=amm (v:=(u:Int)) (by omega) (by omega);omega
 have hb:Ja u=Dz 8 u:=Ld 8 56 u hu;have hle:=Od 8 u;refine⟨(Dz 8 u:Nat),?_,?_,by omega,by omega⟩
 ·unfold M_
  simp only[amw,hus,hb,yY,cst,zk (show ¬((u:Int)<0) by omega),zk (show ¬(((Dz 8 u:Nat):Int)>62) by omega),Bt,yZ]
 ·unfold GU
  rw[zk (show ¬((u:Int)<0) by omega),yZ];simpa using hs
theorem ams(l:List Int)(hl:l.length≤1000000)(m a b:Int)(o:List Int):∀(post pre:List Int) (n n':Nat),l=pre++post→post.length<n→post.length<n'→
 GI.zY k n m a b (l.length:Int) (pre.length:Int) l=some (cond (post.all (fun x=>decide (x≤m))) (((),IntKind.wrap .i64 (b+a),true),l) (((),0,false),[]))∧
 GV.A_ k n' m a b (pre.length:Int) [] l=some (cond (post.all (fun x=>decide (x≤m))) (((),IntKind.wrap .i64 (b+a),true),l) (((),0,false),[])):=by
 intro post
 induction post with
 |nil=>
  intro pre n n' h hn hn';obtain⟨n,rfl⟩:∃q,n=q+1:=⟨n-1,by omega⟩;obtain⟨n',rfl⟩:∃q,n'=q+1:=⟨n'-1,by omega⟩;rw[AO] at h;subst h;simp only[GI.zY,GV.A_,zk (show ¬((l.length:Int)<(l.length:Int)) by omega),yZ,List.all_nil,yX];exact⟨trivial,trivial⟩
 |cons x post ih=>
  intro pre n n' h hn hn';simp only[Ah] at hn hn';obtain⟨n,rfl⟩:∃q,n=q+1:=⟨n-1,by omega⟩;obtain⟨n',rfl⟩:∃q,n'=q+1:=⟨n'-1,by omega⟩;have hlen:l.length=pre.length+(post.length+1):=by rw[h];simp
  have hg:gU l (pre.length:Int)=some x:=by rw[h];exact AX _ _ _
  have hi1:IntKind.wrap .i64 ((pre.length:Int)+1)=((pre.length+1:Nat):Int):=by rw[zg (by omega) (by omega)];omega
  have hi:=ih (pre++[x]) n n' (by rw[h];simp) (by omega) (by omega);rw[zX,Ap] at hi;simp only[GI.zY,GV.A_,zh (show(pre.length:Int)<(l.length:Int) by omega),yX,hg,yY,hi1,List.all_cons];by_cases hx:x≤m
  ·rw[zk (show ¬x>m by omega),zh hx,yZ,yZ,Bj]
   exact hi
  ·rw[zh (show x>m by omega),zk hx,yX,yX,Cg,yZ]
   exact⟨rfl,rfl⟩
theorem Tv(hk:2000000≤k)(b:List Int)(hb:b.length≤1048576)(hby:CG b)(at_ many m:Int):
 ∃nx ok l,GI k b at_ many m=some (((),nx,ok),l)∧GV k b at_ many m=some (((),nx,ok),l)∧
  (ok=true→(0≤nx∧nx≤(b.length:Int))∧l.length=many.toNat)∧(ok=false→nx=0):=by
 unfold GI GV;simp only[Bp,Bh,yY,cst];by_cases hc:(0≤m∧m≤255)∧(0≤many∧many≤2000)∧(0≤at_∧at_≤(b.length:Int))
 ·obtain⟨⟨w0,w1⟩,⟨m0,m1⟩,a0,a1⟩:=hc
  simp only[zh w0,zh w1,zh m0,zh m1,zh a0,zh a1,Bool.and_self,zq,Bt,yZ];by_cases hz:m=0
  ·rw[Ac hz,yX,yX,JH m0 (by omega),yX]
   exact⟨_,_,_,rfl,rfl,fun _=>⟨⟨a0,a1⟩,by simp⟩,fun h=>(by cases h)⟩
  ·rw[zw hz]
   simp only[yZ];obtain⟨v,nx,ok,e1,e2,_,_,e3⟩:=NV k (by omega) b (by omega) hby at_ ⟨by omega,by omega⟩ 4 (by decide) (by decide);have e1:Ey k b at_ 4=some (v,nx,ok):=e1;have e2:Ec k b at_ 4=some (v,nx,ok):=e2;simp only[e1,e2,yY];cases ok with
   |false=>
    simp only[zD,Ag,yX];exact⟨_,_,_,rfl,rfl,fun h=>(by cases h),fun _=>rfl⟩
   |true=>
    obtain⟨_,n1,n2,n3⟩:=e3 rfl;obtain⟨v0,v1⟩:=n3 (by decide);have n1:nx=at_+4:=n1;rw[zg (show -9223372036854775808≤(b.length:Int)-nx by omega) (by omega)];by_cases hv:v>(b.length:Int)-nx
    ·simp only[zq,Aq,zh hv,yX]
     exact⟨_,_,_,rfl,rfl,fun h=>(by cases h),fun _=>rfl⟩
    ·have ew:IntKind.wrap .i64 (nx+v)=nx+v:=zg (by omega) (by omega)
     obtain⟨w,b1,b2,b3,b4⟩:=UG k (by omega) m w0 w1;obtain⟨nx',ok',l,r1,r2,r3,r4⟩:=Pn k hk (kV b nx (nx+v)) (by unfold kV;rw[List.length_drop,List.length_take];omega) (MQ hby _ _) 0 many w;simp only[zq,Aq,zk hv,yZ,ew,EI (show 0≤nx by omega) (show nx≤nx+v by omega) (show nx+v≤(b.length:Int) by omega),yX,b1,b2,r1,r2,yY];cases ok' with
     |false=>
      simp only[zD,yX];exact⟨_,_,_,rfl,rfl,fun h=>(by cases h),fun _=>rfl⟩
     |true=>
      obtain⟨_,_,_,q4,_⟩:=r4 rfl;simp only[zq,yZ];obtain⟨u1,u2⟩:=ams k l (by omega) m v nx [] l [] k k rfl (by omega) (by omega);have u1:GI.zY k k m v nx (l.length:Int) 0 l=_:=u1;have u2:GV.A_ k k m v nx 0 [] l=_:=u2;rw[u1,u2];cases l.all (fun x=>decide (x≤m)) with
      |true=>
       rw[yX,ew];exact⟨_,_,_,rfl,rfl,fun _=>⟨⟨by omega,by omega⟩,q4⟩,fun h=>(by cases h)⟩
      |false=>exact⟨_,_,_,rfl,rfl,fun h=>(by cases h),fun _=>rfl⟩
 ·have:((!(decide (0≤m)&&decide (m≤255))|| !(decide (0≤many)&&decide (many≤2000)))|| !(decide (0≤at_)&&decide (at_≤(b.length:Int))))=true:=by
   by_cases a:0≤m<;>by_cases b1:m≤255<;>by_cases c:0≤many<;>by_cases d:many≤2000<;>by_cases e:0≤at_<;>by_cases g:at_≤(b.length:Int)<;>simp[a,b1,c,d,e,g]
   exact hc ⟨⟨a,b1⟩,⟨c,d⟩,e,g⟩
  simp only[this,yX];exact⟨_,_,_,rfl,rfl,fun h=>(by cases h),fun _=>rfl⟩
theorem ako(l:List Int)(hl:l.length≤1000000):∀(post pre:List Int) (n:Nat) (x:Int),l=pre++post→post.length<n→
 ∃y,F_.l5 k n l x (pre.length:Int)=some y∧∀m:Int,decide (y>m)=(decide (x>m)|| !post.all (fun x=>decide (x≤m))):=by
 intro post
 induction post with
 |nil=>
  intro pre n x h hn;obtain⟨n,rfl⟩:∃q,n=q+1:=⟨n-1,by omega⟩;rw[AO] at h;subst h;simp only[F_.l5,zk (show ¬((l.length:Int)<(l.length:Int)) by omega),yZ];exact⟨x,rfl,fun m=>by simp⟩
 |cons v post ih=>
  intro pre n x h hn;simp only[Ah] at hn;obtain⟨n,rfl⟩:∃q,n=q+1:=⟨n-1,by omega⟩;have hlen:l.length=pre.length+(post.length+1):=by rw[h];simp
  have hg:gU l (pre.length:Int)=some v:=by rw[h];exact AX _ _ _
  have hi1:IntKind.wrap .i64 ((pre.length:Int)+1)=((pre.length+1:Nat):Int):=by rw[zg (by omega) (by omega)];omega
  obtain⟨y,y1,y2⟩:=ih (pre++[v]) n (if v>x then v else x) (by rw[h];simp) (by omega);rw[zX,Ap] at y1;simp only[F_.l5,zh (show(pre.length:Int)<(l.length:Int) by omega),yX,hg,yY,hi1];refine⟨y,y1,fun m=> ?_⟩;rw[y2 m,List.all_cons,Bool.not_and,←Bool.or_assoc]
  congr 1
  rw[Bool.eq_iff_iff];simp only[Al,Bool.or_eq_true,Bool.not_eq_true',decide_eq_false_iff_not];split<;>omega
theorem al3(l:List Int)(hl:l.length≤1000000)(m:Int):∀(post pre:List Int) (n:Nat),l=pre++post→post.length<n→
 GY.l7 k n m (pre.length:Int) l=some (cond (post.all (fun x=>decide (x≤m))) (((),true),l) (((),false),[])):=by
 intro post
 induction post with
 |nil=>
  intro pre n h hn;obtain⟨n,rfl⟩:∃q,n=q+1:=⟨n-1,by omega⟩;rw[AO] at h;subst h;simp only[GY.l7,zk (show ¬((l.length:Int)<(l.length:Int)) by omega),yZ,List.all_nil,yX]
 |cons x post ih=>
  intro pre n h hn;simp only[Ah] at hn;obtain⟨n,rfl⟩:∃q,n=q+1:=⟨n-1,by omega⟩;have hlen:l.length=pre.length+(post.length+1):=by rw[h];simp
  have hg:gU l (pre.length:Int)=some x:=by rw[h];exact AX _ _ _
  have hi1:IntKind.wrap .i64 ((pre.length:Int)+1)=((pre.length+1:Nat):Int):=by rw[zg (by omega) (by omega)];omega
  have hi:=ih (pre++[x]) n (by rw[h];simp) (by omega);rw[zX,Ap] at hi;simp only[GY.l7,zh (show(pre.length:Int)<(l.length:Int) by omega),yX,hg,yY,hi1,List.all_cons];by_cases hx:x≤m
  ·rw[zk (show ¬x>m by omega),zh hx,yZ,Bj]
   exact hi
  ·rw[zh (show x>m by omega),zk hx,yX,Cg,yZ]
theorem Tu(hk:2000000≤k)(b:List Int)(hb:b.length≤1048576)(hby:CG b)(many m:Int)(hm0:0≤many)(hm1:many≤2000)(h0:0≤m)(h1:m≤255):
 ∃ok l,Nf k b many m=some (((),ok),l)∧GY k b many m=some (((),ok),l)∧(ok=true→l.length=many.toNat):=by
 unfold Nf GY;by_cases hz:m=0
 ·rw[Ac hz,yX,yX,JH hm0 (by omega),yX]
  exact⟨_,_,rfl,rfl,fun _=>by simp⟩
 ·rw[zw hz]
  simp only[yZ];obtain⟨w,b1,b2,b3,b4⟩:=UG k (by omega) m h0 h1;obtain⟨nx,ok,l,r1,r2,r3,r4⟩:=Pn k hk b hb hby 0 many w;simp only[b1,b2,r1,r2,yY,cst];cases ok with
  |false=>
   simp only[zD,Ag,yX];exact⟨_,_,rfl,rfl,fun h=>(by cases h)⟩
  |true=>
   obtain⟨_,_,_,q4,_⟩:=r4 rfl;simp only[zq,Aq];by_cases hn:nx=(b.length:Int)
   ·rw[zK hn]
    simp only[Aq,yZ];have hs:=al3 k l (by omega) m l [] k rfl (by omega);have hs:GY.l7 k k m 0 l=_:=hs;rw[hs];cases l with
    |nil=>
     simp only[List.length_nil];rw[show decide (((0:Nat):Int)>0)=false from rfl];simp only[yZ,yX,yY,Bool.or_false,List.all_nil,Au,Cg];exact⟨_,_,rfl,rfl,fun _=>q4⟩
    |cons v l'=>
     rw[zh (show((v::l').length:Int)>0 by simp),yX];obtain⟨y,y1,y2⟩:=ako k (v::l') (by omega) l' [v] k v rfl (by simp at q4;omega);have hmax:F_ k (v::l')=some y:=by
      unfold F_ F_.c3;rw[zk (show ¬((v::l').length:Int)<1 by simp;omega),yZ,show gU (v::l') 0=some v from rfl];exact y1
     rw[hmax];simp only[yY,Au,y2 m,List.all_cons];by_cases hv:v≤m
     ·rw[zh hv,zk (show ¬v>m by omega),Aq,Bj]
      cases l'.all (fun x=>decide (x≤m)) with
      |true=>exact⟨_,_,rfl,rfl,fun _=>q4⟩
      |false=>exact⟨_,_,rfl,rfl,fun h=>(by cases h)⟩
     ·rw[zk hv,zh (show v>m by omega),Ag,Cg]
      exact⟨_,_,rfl,rfl,fun h=>(by cases h)⟩
   ·rw[zO hn]
    simp only[Ag,Bool.or_true,yX,yY];exact⟨_,_,rfl,rfl,fun h=>(by cases h)⟩
end Go.Af
end
section
namespace Go.Af
open Go.Am Go.Fn
variable(k:Nat)
theorem NW{a b:Nat}(ha:a<2^62)(hb:b<2^62):bits .xor .i64 (a:Int) (b:Int)=((a^^^b:Nat):Int):=by
 have h:=Nat.xor_lt_two_pow ha hb;simp only[bits,BitVec.ofInt_natCast,BitVec.toNat_xor,BitVec.toNat_ofNat];rw[Nat.mod_eq_of_lt (show a<2^IntKind.i64.bits from Nat.lt_of_lt_of_le ha (by decide)),Nat.mod_eq_of_lt (show b<2^IntKind.i64.bits from Nat.lt_of_lt_of_le hb (by decide))];exact zg (by omega) (by omega)
def Ew:Nat→Nat→Nat
 |0,n=>n
 |m+1,n=>Ew m (if n%2=1 then(n/2)^^^3988292384 else n/2)
theorem RU:∀m n,n<2^32→Ew m n<2^32
 |0,n,h=>h
 |m+1,n,h=>by
  unfold Ew;apply RU;have:n/2<2^32:=by omega
  split
  ·exact Nat.xor_lt_two_pow this (by decide)
  ·exact this
theorem VG:∀(m f i n:Nat),i+m=8→m<f→n<2^32→E_.l2 k f (n:Int) (i:Int)=some ((Ew m n:Nat):Int)∧Fh.l2 k f (n:Int) (i:Int)=some ((Ew m n:Nat):Int):=by
 intro m
 induction m with
 |zero=>
  intro f i n hi hf hn;obtain⟨f,rfl⟩:∃x,f=x+1:=⟨f-1,by omega⟩;simp only[E_.l2,Fh.l2,zk (show ¬(i:Int)<8 by omega),yZ,Ew];exact⟨trivial,trivial⟩
 |succ m ih=>
  intro f i n hi hf hn;obtain⟨f,rfl⟩:∃x,f=x+1:=⟨f-1,by omega⟩;have e3:IntKind.wrap .i64 ((i:Int)+1)=((i+1:Nat):Int):=by rw[zg (by omega) (by omega)];omega
  have hdiv:IntKind.wrap .i64 (Int.tdiv (n:Int) 2)=((n/2:Nat):Int):=by
   rw[Int.tdiv_eq_ediv_of_nonneg (by omega),zg (by omega) (by omega)];omega
  have hmod:Int.tmod (n:Int) 2=((n%2:Nat):Int):=by rw[Int.tmod_eq_emod_of_nonneg (by omega)];omega
  have hand:bits .and .i64 (n:Int) 1=((n%2:Nat):Int):=by rw[and1];omega
  have hx:bits .xor .i64 ((n/2:Nat):Int) 3988292384=(((n/2)^^^3988292384:Nat):Int):=NW (b:=3988292384) (by omega) (by decide);simp only[E_.l2,Fh.l2,zh (show(i:Int)<8 by omega),yX,hdiv,hmod,hand,hx,E_.c7,Fh.c3,e3,Ew];by_cases hodd:n%2=1
  ·rw[hodd,Ac (by rfl),if_pos rfl,yX,yX]
   exact ih f (i+1) _ (by omega) (by omega) (Nat.xor_lt_two_pow (by omega) (by decide))
  ·have h0:n%2=0:=by omega
   rw[h0,zw (by decide),if_neg (by decide),yZ,yZ];exact ih f (i+1) _ (by omega) (by omega) (by omega)
theorem RV(hk:100≤k)(n:Nat)(hn:n<2^32):E_ k (n:Int)=some ((Ew 8 n:Nat):Int)∧Fh k (n:Int)=some ((Ew 8 n:Nat):Int):=
 VG k 8 k 0 n rfl (by omega) hn
def MS:List Int:=(List.range 256).map fun n=>((Ew 8 n:Nat):Int)
theorem amd(hk:1000≤k):∀(m f i:Nat),i+m=256→m<f→Jd.l3 k f (i:Int) ((List.range i).map fun n=>((Ew 8 n:Nat):Int))=some ((),MS):=by
 intro m
 induction m with
 |zero=>
  intro f i hi hf;obtain⟨f,rfl⟩:∃x,f=x+1:=⟨f-1,by omega⟩;obtain rfl:i=256:=by omega
  simp only[Jd.l3,zk (show ¬((256:Nat):Int)<256 by omega),yZ];rfl
 |succ m ih=>
  intro f i hi hf;obtain⟨f,rfl⟩:∃x,f=x+1:=⟨f-1,by omega⟩;have e3:IntKind.wrap .i64 ((i:Int)+1)=((i+1:Nat):Int):=by rw[zg (by omega) (by omega)];omega
  simp only[Jd.l3,zh (show(i:Int)<256 by omega),yX,(RV k (by omega) i (by omega)).1,yY,e3,Ak (show((List.range i).map fun n=>((Ew 8 n:Nat):Int)).length+[((Ew 8 i:Nat):Int)].length≤4294967296 by simp;omega)];have:=ih f (i+1) (by omega) (by omega);rw[List.range_succ,List.map_append,List.map_singleton] at this;exact this
theorem amc(hk:1000≤k):Jd k=some ((),MS):=amd k hk 256 k 0 (by omega) (by omega)
theorem akw(hk:1000≤k)(b:List Int)(hb:b.length<1000000000)(hby:∀x,x∈b→0≤x∧x<256):∀(post pre:List Int) (f c:Nat),b=pre++post→post.length<f→c<2^32→
 ∃r:Int,Jc.l6 k f (c:Int) b (b.length:Int) (pre.length:Int) MS=some r∧Jn.l5 k f b (c:Int) (pre.length:Int)=some r:=by
 intro post
 induction post with
 |nil=>
  intro pre f c hp hf hc;obtain⟨f,rfl⟩:∃x,f=x+1:=⟨f-1,by omega⟩;have:b=pre:=by simpa using hp
  subst this;simp only[Jc.l6,Jn.l5,zk (show ¬(b.length:Int)<(b.length:Int) by omega),yZ];exact⟨_,rfl,rfl⟩
 |cons y post ih=>
  intro pre f c hp hf hc;simp only[Ah] at hf;obtain⟨f,rfl⟩:∃x,f=x+1:=⟨f-1,by omega⟩;have hlen:b.length=pre.length+(post.length+1):=by rw[hp];simp
  have hg:gU b (pre.length:Int)=some y:=by rw[hp];exact AX pre post y
  obtain⟨y0,y1⟩:=hby y (by rw[hp];simp);obtain⟨y,rfl⟩:∃m:Nat,y=m:=⟨y.toNat,by omega⟩;have VM:bits .and .i64 (c:Int) 255=((c%256:Nat):Int):=by rw[U0];omega
  have ey:IntKind.wrap .i64 ((y:Nat):Int)=((y:Nat):Int):=zg (by omega) (by omega);have hix:c%256^^^y<256:=Nat.xor_lt_two_pow (n:=8) (by omega) (by omega);have ex:bits .xor .i64 ((c%256:Nat):Int) ((y:Nat):Int)=((c%256^^^y:Nat):Int):=NW (by omega) (by omega);have htab:gU MS ((c%256^^^y:Nat):Int)=some ((Ew 8 (c%256^^^y):Nat):Int):=by
   rw[zQ];unfold MS;rw[List.getElem?_map,List.getElem?_range hix];rfl
  have Qs:pE .i64 (c:Int) 8=((c/256:Nat):Int):=by
   rw[show(8:Int)=((8:Nat):Int) from rfl,IW .i64 _ 8 (by decide)];simp
  have hT:=RU 8 (c%256^^^y) (by omega);have x1:bits .xor .i64 ((Ew 8 (c%256^^^y):Nat):Int) ((c/256:Nat):Int)=((Ew 8 (c%256^^^y)^^^(c/256):Nat):Int):=NW (by omega) (by omega);have x2:bits .xor .i64 ((c/256:Nat):Int) ((Ew 8 (c%256^^^y):Nat):Int)=((Ew 8 (c%256^^^y)^^^(c/256):Nat):Int):=by rw[NW (by omega) (by omega),Nat.xor_comm]
  have e3:IntKind.wrap .i64 ((pre.length:Int)+1)=(pre.length:Int)+1:=zg (by omega) (by omega);simp only[Jc.l6,Jn.l5,zh (show(pre.length:Int)<(b.length:Int) by omega),yX,hg,yY,VM,ey,ex,htab,Qs,x1,(RV k (by omega) (c%256^^^y) (by omega)).2,x2,e3];have:=ih (pre++[((y:Nat):Int)]) f (Ew 8 (c%256^^^y)^^^(c/256)) (by rw[hp];simp) (by omega) (Nat.xor_lt_two_pow hT (by omega));rw[zX,Ap] at this;exact this
theorem VE(hk:1000≤k)(b:List Int)(hb:b.length<1000000000)(hlk:b.length<k)(hby:∀x,x∈b→0≤x∧x<256):∃r:Int,Na k b=some r∧Kn k b=some r:=by
 unfold Na Kn Jc Jn;have e:bits .xor .i64 0 4294967295=((4294967295:Nat):Int):=NW (a:=0) (b:=4294967295) (by decide) (by decide);obtain⟨r,r1,r2⟩:=akw k hk b hb hby b [] k 4294967295 rfl hlk (by decide);rw[List.length_nil,show((0:Nat):Int)=0 from rfl] at r1 r2;simp only[Bp,Bh,show(decide ((0:Int)≤0)&&decide ((0:Int)≤4294967295))=true by decide,yY,zq,yZ,amc k hk,e,r1,r2];exact⟨_,rfl,rfl⟩
end Go.Af
end
section
namespace Go.Af
open Go.Am Go.Fn
def MO(c:UInt8):Bool:=decide (97≤c.toNat)&&decide (c.toNat≤122)
def az(s:ByteArray):Bool:=s.data.toList.all MO
def Ji(s:ByteArray):Bool:=(decide (1≤(s.size:Int))&&decide ((s.size:Int)≤20))&&az s
theorem RB{s:ByteArray}{i:Nat}{c:UInt8}(h:s.data.toList[i]?=some c):nC s (i:Int)=some (c.toNat:Int):=by
 show(match s.data.toList[i]? with|some b=>some (b.toNat:Int)|none=>none)=_;rw[h]
theorem Po(s:ByteArray):s.data.toList.length=s.size:=by
 rw[Array.length_toList];rfl
variable(k:Nat)
theorem ajZ(s:ByteArray)(hs:s.size<1000000):∀(m n i:Nat),s.size=i+m→m<n→I7.l4 k n s (i:Int)=some ((s.data.toList.drop i).all MO):=by
 intro m
 induction m with
 |zero=>
  intro n i hi hn;obtain⟨n,rfl⟩:∃j,n=j+1:=⟨n-1,by omega⟩;simp only[I7.l4,zk (show ¬(i:Int)<(s.size:Int) by omega),yZ];rw[List.drop_eq_nil_of_le (by rw[Po];omega)];rfl
 |succ m ih=>
  intro n i hi hn;obtain⟨n,rfl⟩:∃j,n=j+1:=⟨n-1,by omega⟩;have hlt:i<s.data.toList.length:=by rw[Po];omega
  have hb:=RB (s:=s) (i:=i) (AA hlt);have hc:=(s.data.toList[i]).toNat_lt;simp only[I7.l4,zh (show(i:Int)<(s.size:Int) by omega),yX,hb,yY,cst];rw[List.drop_eq_getElem_cons hlt,List.all_cons,zg (by omega) (by omega),show((i:Int)+1)=((i+1:Nat):Int) by omega,ih n (i+1) (by omega) (by omega)];unfold MO;by_cases h:97≤(s.data.toList[i]).toNat∧(s.data.toList[i]).toNat≤122
  ·simp only[zk (show ¬(((s.data.toList[i]).toNat:Nat):Int)<97 by omega),zk (show ¬(((s.data.toList[i]).toNat:Nat):Int)>122 by omega),Bt,yZ,zh h.1,zh h.2,Bool.and_self,Bj]
  ·have h1:(decide ((((s.data.toList[i]).toNat:Nat):Int)<97)||decide ((((s.data.toList[i]).toNat:Nat):Int)>122))=true:=by
    simp only[Bool.or_eq_true,Al];omega
   have h2:(decide (97≤(s.data.toList[i]).toNat)&&decide ((s.data.toList[i]).toNat≤122))=false:=by
    rw[Bool.eq_false_iff];intro hh;simp only[Aa,Al] at hh;exact h hh
   simp only[h1,h2,yX,Cg]
theorem aj0(hk:100≤k)(s:ByteArray):I7 k s=some (Ji s):=by
 unfold I7 Ji;simp only[Bh,yY];by_cases h:1≤s.size∧s.size≤20
 ·rw[zh (show(1:Int)≤(s.size:Int) by omega),zh (show(s.size:Int)≤20 by omega)]
  simp only[Bool.and_self,zq,yZ,Bj];exact ajZ k s (by omega) s.size k 0 (by omega) (by omega)
 ·have:(decide ((1:Int)≤(s.size:Int))&&decide ((s.size:Int)≤20))=false:=by
   rw[Bool.eq_false_iff];intro hh;simp only[Aa,Al] at hh;omega
  simp only[this,zD,yX,Cg]
theorem VB(s:ByteArray)(hs:s.size<1000000000):∀(m n i:Nat),s.size=i+m→m<n→Iw.l2 k n s (s.size:Int) (i:Int)=some ((decide (1≤(s.size:Int))&&decide ((s.size:Int)≤20))&&(s.data.toList.drop i).all MO):=by
 intro m
 induction m with
 |zero=>
  intro n i hi hn;obtain⟨n,rfl⟩:∃j,n=j+1:=⟨n-1,by omega⟩;simp only[Iw.l2,zk (show ¬(i:Int)<(s.size:Int) by omega),yZ,Bp,yY];rw[List.drop_eq_nil_of_le (by rw[Po];omega)];simp
 |succ m ih=>
  intro n i hi hn;obtain⟨n,rfl⟩:∃j,n=j+1:=⟨n-1,by omega⟩;have hlt:i<s.data.toList.length:=by rw[Po];omega
  have hb:=RB (s:=s) (i:=i) (AA hlt);have hc:=(s.data.toList[i]).toNat_lt;simp only[Iw.l2,zh (show(i:Int)<(s.size:Int) by omega),yX,hb,yY,Bp];rw[zg (show -9223372036854775808≤(((s.data.toList[i]).toNat:Nat):Int) by omega) (by omega)];rw[List.drop_eq_getElem_cons hlt,List.all_cons,zg (by omega) (by omega),show((i:Int)+1)=((i+1:Nat):Int) by omega,ih n (i+1) (by omega) (by omega)];unfold MO;by_cases h:97≤(s.data.toList[i]).toNat∧(s.data.toList[i]).toNat≤122
  ·simp only[zh (show(97:Int)≤(((s.data.toList[i]).toNat:Nat):Int) by omega),zh (show(((s.data.toList[i]).toNat:Nat):Int)≤122 by omega),zq,Bool.and_self,yZ,zh h.1,zh h.2,Bj]
  ·have h1:(decide ((97:Int)≤(((s.data.toList[i]).toNat:Nat):Int))&&decide ((((s.data.toList[i]).toNat:Nat):Int)≤122))=false:=by
    rw[Bool.eq_false_iff];intro hh;simp only[Aa,Al] at hh;omega
   have h2:(decide (97≤(s.data.toList[i]).toNat)&&decide ((s.data.toList[i]).toNat≤122))=false:=by
    rw[Bool.eq_false_iff];intro hh;simp only[Aa,Al] at hh;exact h hh
   simp only[h1,h2,zD,yX,Cg,Bool.and_false]
theorem Td(s:ByteArray)(hs:s.size<k)(hs2:s.size<1000000000):Iw k s=some (Ji s):=by
 unfold Iw Ji;exact VB k s hs2 s.size k 0 (by omega) (by omega)
def Cy(c:ze):Bool:=((c.2.1==7&&decide (c.2.2.2.1>0))||(Cc c.2.1&&c.2.2.2.1==0))&&(decide (0≤c.2.2.1)&&decide (c.2.2.1≤2))
theorem RQ(c:ze):OX k c=some (Cy c):=by
 unfold OX Cy;simp only[Bp,NK,yY,Au,cst]
theorem Kt:Cc 7=false:=rfl
def EU(S:Nat→Nat→Prop)(s:List ze):Nat→Nat→List ByteArray→Nat→Prop
 |0,pos,_,nx=>pos=nx
 |c+1,pos,names,nx=>∃p mid,s[pos]?=some p∧p.1∉names∧S pos mid∧EU S s c mid (names++[p.1]) nx
def A9(s:List ze):Nat→Nat→Nat→Prop
 |0,_,_=>False
 |d+1,at_,nx=>∃c,s[at_]?=some c∧Cy c=true∧(0<at_→Ji c.1=true)∧EU (A9 s d) s c.2.2.2.1.toNat (at_+1) [] nx
theorem JV{S:Nat→Nat→Prop}{s:List ze}(hS:∀a b,S a b→a<b):∀(c pos:Nat) (names:List ByteArray) (nx:Nat),EU S s c pos names nx→pos+c≤nx
 |0,pos,names,nx,e=>by have e:pos=nx:=e;omega
 |c+1,pos,names,nx,⟨p,mid,_,_,h3,h4⟩=>by
  have:=hS _ _ h3;have:=JV hS c mid _ nx h4;omega
theorem Cw{s:List ze}:∀(d a b:Nat),A9 s d a b→a<b
 |0,_,_,h=>h.elim
 |d+1,a,b,⟨c,_,_,_,h⟩=>by
  have:=JV (Cw d) _ _ _ _ h;omega
theorem Rk{s:List ze}:∀(d a b:Nat),A9 s d a b→∀i,a≤i→i<b→∃c,s[i]?=some c∧Cy c=true∧(0<i→Ji c.1=true)
 |0,_,_,h=>h.elim
 |d+1,a,b,⟨c,h1,h2,h3,h4⟩=>by
  have key:∀(n pos:Nat) (names:List ByteArray) (nx:Nat),EU (A9 s d) s n pos names nx→∀i,pos≤i→i<nx→∃c,s[i]?=some c∧Cy c=true∧(0<i→Ji c.1=true):=by
   intro n
   induction n with
   |zero=>intro pos names nx e i hi1 hi2;have e:pos=nx:=e;omega
   |succ n ih=>
    intro pos names nx ⟨p,mid,_,_,hs,hp⟩ i hi1 hi2;rcases Nat.lt_or_ge i mid with h|h
    ·exact Rk d pos mid hs i hi1 h
    ·exact ih mid _ nx hp i h hi2
  intro i hi1 hi2;rcases Nat.lt_or_ge a i with h|h
  ·exact key _ _ _ _ h4 i (by omega) hi2
  ·obtain rfl:i=a:=by omega
   exact⟨c,h1,h2,h3⟩
open Classical in
theorem alV(S:List ze→Int→Int→Option Int)(L:List ze→Int→Int→Int→ze→List ByteArray→Option Int)(s:List ze)(deep:Int)(pos:Nat)(i:Int)(c p:ze)(hp:s[pos]?=some p)(names:List ByteArray)(hn:names.length≤100):
 ∀(m n j:Nat),names.length=j+m→m<n→B_.D_ k S L n s deep (pos:Int) i (j:Int) c names=
  if p.1∈names.drop j then some (-1) else(S s (pos:Int) (IntKind.wrap .i64 (deep+1))).bind fun r=>cond (decide (r<0)) (some (-1)) (L s deep r (IntKind.wrap .i64 (i+1)) c (names++[p.1])):=by
 intro m
 induction m with
 |zero=>
  intro n j hj hn';obtain⟨n,rfl⟩:∃q,n=q+1:=⟨n-1,by omega⟩;simp only[B_.D_,zk (show ¬(j:Int)<(names.length:Int) by omega),yZ,zQ,hp,yY];rw[Ak (by simp;omega),yX,List.drop_eq_nil_of_le (by omega)];simp
 |succ m ih=>
  intro n j hj hn';obtain⟨n,rfl⟩:∃q,n=q+1:=⟨n-1,by omega⟩;have hlt:j<names.length:=by omega
  simp only[B_.D_,zh (show(j:Int)<(names.length:Int) by omega),yX,zQ,hp,AA hlt,yY,Dv];rw[zg (by omega) (by omega),show((j:Int)+1)=((j+1:Nat):Int) by omega,ih n (j+1) (by omega) (by omega),List.drop_eq_getElem_cons hlt];by_cases h:names[j]=p.1
  ·rw[zh h,yX,if_pos (by rw[h];exact List.mem_cons_self ..)]
  ·rw[zk h,yZ]
   have:(p.1∈names[j]::names.drop (j+1))↔p.1∈names.drop (j+1):=by
    rw[List.mem_cons];exact⟨fun hh=>hh.elim (fun e=>absurd e.symm h) id,.inr⟩
   simp only[this]
open Classical in
theorem Ta(S:List ze→Int→Int→Option Int)(L:List ze→Int→Int→Int→Int→List ByteArray→Option Int)(s:List ze)(deep:Int)(pos:Nat)(M i:Int)(p:ze)(hp:s[pos]?=some p)(names:List ByteArray)(hn:names.length≤100):
 ∀(m n j:Nat),names.length=j+m→m<n→Bb.l10 k S L n s deep (pos:Int) M i (names.length:Int) (j:Int) names=
  if p.1∈names.drop j then some (-1) else(S s (pos:Int) (IntKind.wrap .i64 (deep+1))).bind fun r=>cond (decide (r<0)) (some (-1)) (L s deep r M (IntKind.wrap .i64 (i+1)) (names++[p.1])):=by
 intro m
 induction m with
 |zero=>
  intro n j hj hn';obtain⟨n,rfl⟩:∃q,n=q+1:=⟨n-1,by omega⟩;simp only[Bb.l10,zk (show ¬(j:Int)<(names.length:Int) by omega),yZ,zQ,hp,yY];rw[Ak (by simp;omega),yX,List.drop_eq_nil_of_le (by omega)];simp
 |succ m ih=>
  intro n j hj hn';obtain⟨n,rfl⟩:∃q,n=q+1:=⟨n-1,by omega⟩;have hlt:j<names.length:=by omega
  simp only[Bb.l10,zh (show(j:Int)<(names.length:Int) by omega),yX,zQ,hp,AA hlt,yY,Dv];rw[zg (by omega) (by omega),show((j:Int)+1)=((j+1:Nat):Int) by omega,ih n (j+1) (by omega) (by omega),List.drop_eq_getElem_cons hlt];by_cases h:names[j]=p.1
  ·rw[zh h,yX,if_pos (by rw[h];exact List.mem_cons_self ..)]
  ·rw[zk h,yZ]
   have:(p.1∈names[j]::names.drop (j+1))↔p.1∈names.drop (j+1):=by
    rw[List.mem_cons];exact⟨fun hh=>hh.elim (fun e=>absurd e.symm h) id,.inr⟩
   simp only[this]
theorem als(hk:100≤k)(s:List ze)(hs:s.length≤20)(d D deep:Nat)(LD:deep≤6)
 (ih:∀at_:Nat,0<at_→∃v,B_.rec k D s (at_:Int) ((deep+1:Nat):Int)=some v∧Bb.rec k D s (at_:Int) ((deep+1:Nat):Int)=some v∧(v= -1∨∃nx:Nat,v=nx∧A9 s d at_ nx∧nx≤s.length))
 (c:ze) (M:Int) (hM:c.2.2.2.1=M) (hM1:M<9223372036854775808):∀(f pos:Nat) (i:Int) (names:List ByteArray),s.length-pos<f→0<pos→pos≤s.length→0≤i→i≤M→names.length≤pos→
  ∃v,B_.BX k (B_.rec k D) f s (deep:Int) (pos:Int) i c names=some v∧Bb.l6 k (Bb.rec k D) f s (deep:Int) (pos:Int) M i names=some v∧
   (v= -1∨∃nx:Nat,v=nx∧EU (A9 s d) s (M-i).toNat pos names nx∧nx≤s.length):=by
 intro f
 induction f with
 |zero=>intro pos i names h;omega
 |succ f GH=>
  intro pos i names hf hpos hpl hi0 hiM hnm;simp only[B_.BX,Bb.l6,hM];by_cases hlt:i<M
  ·simp only[zh hlt,yX]
   by_cases hpe:(pos:Int)≥(s.length:Int)
   ·simp only[zh hpe,yX]
    exact⟨_,rfl,rfl,.inl rfl⟩
   ·have hpl':pos<s.length:=by omega
    simp only[zk hpe,yZ];have hp:=AA hpl';rw[show(0:Int)=((0:Nat):Int) from rfl,alV k _ _ s _ pos i c _ hp names (by omega) names.length k 0 (by omega) (by omega),Ta k _ _ s _ pos M i _ hp names (by omega) names.length k 0 (by omega) (by omega)];rw[List.drop_zero];by_cases hmem:(s[pos]'hpl').1∈names
    ·rw[if_pos hmem,if_pos hmem]
     exact⟨_,rfl,rfl,.inl rfl⟩
    ·rw[if_neg hmem,if_neg hmem]
     have hd1:IntKind.wrap .i64 ((deep:Int)+1)=((deep+1:Nat):Int):=by rw[zg (by omega) (by omega)];omega
     rw[hd1];obtain⟨v,s1,s2,s4⟩:=ih pos hpos;simp only[s1,s2,yY];rcases s4 with rfl|⟨mid,rfl,s5,s6⟩
     ·simp only[show decide ((-1:Int)<0)=true from rfl,yX]
      exact⟨_,rfl,rfl,.inl rfl⟩
     ·have hml:=Cw _ _ _ s5
      have hm0:decide ((mid:Int)<0)=false:=zk (by omega);have hi1:IntKind.wrap .i64 (i+1)=i+1:=zg (by omega) (by omega);simp only[hm0,yZ,hi1];obtain⟨w,t1,t2,t4⟩:=GH mid (i+1) (names++[(s[pos]'hpl').1]) (by omega) (by omega) s6 (by omega) (by omega) (by simp;omega);refine⟨w,t1,t2,?_⟩;rcases t4 with h|⟨nx,h1,h2,h3⟩
      ·exact .inl h
      ·refine .inr ⟨nx,h1,?_,h3⟩
       rw[show(M-i).toNat=(M-(i+1)).toNat+1 by omega];exact⟨_,mid,hp,hmem,s5,h2⟩
  ·simp only[zk hlt,yZ]
   refine⟨_,rfl,rfl,.inr ⟨pos,rfl,?_,hpl⟩⟩;rw[show(M-i).toNat=0 by omega];rfl
theorem alr(hk:100≤k)(s:List ze)(hs:s.length≤20)(hn:∀c,c∈s→c.1.size<k∧c.1.size<1000000000∧Ae c.2.2.2.1)(hroot:∀c,s[0]?=some c→c.1=⟨#[]⟩∧c.2.2.1=0∧c.2.1=7):
 ∀(d D deep at_:Nat),d+deep=7→d<D→∃v,B_.rec k D s (at_:Int) (deep:Int)=some v∧Bb.rec k D s (at_:Int) (deep:Int)=some v∧(v= -1∨∃nx:Nat,v=nx∧A9 s d at_ nx∧nx≤s.length):=by
 intro d
 induction d with
 |zero=>
  intro D deep at_ hd hD;obtain⟨D,rfl⟩:∃m,D=m+1:=⟨D-1,by omega⟩;obtain rfl:deep=7:=by omega
  simp only[B_.rec,Bb.rec,B_.b,Bb.b,cst,yY,show decide (((7:Nat):Int)>6)=true from rfl,Bool.or_true,yX];exact⟨_,rfl,rfl,.inl rfl⟩
 |succ d ih=>
  intro D deep at_ hd hD;obtain⟨D,rfl⟩:∃m,D=m+1:=⟨D-1,by omega⟩;simp only[B_.rec,Bb.rec,B_.b,Bb.b,cst,yY];by_cases hat:(at_:Int)≥(s.length:Int)
  ·simp only[zh hat,Ag,yX,yY]
   exact⟨_,rfl,rfl,.inl rfl⟩
  ·have hat':at_<s.length:=by omega
   have hdd:decide ((deep:Int)>6)=false:=zk (by omega);have hc:=AA hat';generalize hcd:s[at_]'hat'=c at hc;have hcm:c∈s:=List.mem_of_getElem? hc;obtain⟨n1,n2,n3⟩:=hn c hcm;simp only[zk hat,hdd,Aq,yZ,zQ,hc,yY,RQ,Td k c.1 n1 n2,aj0 k hk,Bh,LZ,Au,cst];have hr0:(((at_:Int)==0)&&((!iY c.1 ⟨#[]⟩||c.2.2.1 !=0)||c.2.1 !=7))=false:=by
    by_cases h0:at_=0
    ·subst h0
     obtain⟨r1,r2,r3⟩:=hroot c hc;rw[r1,r2,r3,Dv];simp
    ·rw[zw (show ¬(at_:Int)=0 by omega)];rfl
   simp only[hr0,Aq];generalize hnm:(decide ((at_:Int)>0)&& !Ji c.1)=bn;have hname:bn=false→0<at_→Ji c.1=true:=by
    intro hb h0;rw[hb,zh (show(at_:Int)>0 by omega)] at hnm;simpa using hnm
   have ha1:IntKind.wrap .i64 ((at_:Int)+1)=((at_+1:Nat):Int):=by rw[zg (by omega) (by omega)];omega
   cases bn with
   |true=>
    simp only[Ag,Bool.or_true,yX];exact⟨_,rfl,rfl,.inl rfl⟩
   |false=>
    simp only[Aq,Bool.or_false];by_cases hrep:(0≤c.2.2.1∧c.2.2.1≤2)
    ·have er:(decide (0≤c.2.2.1)&&decide (c.2.2.1≤2))=true:=by rw[zh hrep.1,zh hrep.2];rfl
     simp only[er,zq,yZ];have RZ:Cy c=((c.2.1==7&&decide (c.2.2.2.1>0))||(Cc c.2.1&&c.2.2.2.1==0)):=by
      unfold Cy;rw[er,Bool.and_true]
     by_cases h7:c.2.1=7
     ·have MU:Cy c=decide (c.2.2.2.1>0):=by rw[RZ,h7,Kt];simp
      simp only[zK h7,yZ];by_cases hM:c.2.2.2.1<1
      ·simp only[zh hM,yX,MU,zk (show ¬c.2.2.2.1>0 by omega),zD]
       exact⟨_,rfl,rfl,.inl rfl⟩
      ·have hok:Cy c=true:=by rw[MU];exact zh (by omega)
       simp only[zk hM,yZ,hok,zq,ha1];obtain⟨v,t1,t2,t3⟩:=als k hk s hs d D deep (by omega) (fun a h0=>ih D (deep+1) a (by omega) (by omega)) c _ rfl n3.2 k (at_+1) 0 [] (by omega) (by omega) (by omega) (by omega) (by omega) (by simp);refine⟨v,t1,t2,?_⟩;rcases t3 with h|⟨nx,h1,h2,h3⟩
       ·exact .inl h
       ·exact .inr ⟨nx,h1,⟨c,hc,hok,hname rfl,by simpa using h2⟩,h3⟩
     ·have MU:Cy c=(Cc c.2.1&&c.2.2.2.1==0):=by rw[RZ,zw h7];simp
      simp only[zO h7,yX];by_cases hl:Cc c.2.1=true∧c.2.2.2.1=0
      ·have hok:Cy c=true:=by rw[MU,hl.1,Ac hl.2];rfl
       simp only[hl.1,zK hl.2,zq,Bt,yZ,hok,ha1];obtain⟨K,hK⟩:∃j,k=j+1:=⟨k-1,by omega⟩;refine⟨_,rfl,?_,.inr ⟨at_+1,rfl,⟨c,hc,hok,hname rfl,?_⟩,by omega⟩⟩
       ·rw[hl.2]
        have:∀(j:Nat) (S:List ze→Int→Int→Option Int),Bb.l6 k S (j+1) s (deep:Int) ((at_+1:Nat):Int) 0 0 []=some ((at_+1:Nat):Int):=fun j S=>rfl;have h2:=this K (Bb.rec k D);rw[←hK] at h2;exact h2
       ·rw[hl.2];rfl
      ·have e1:(!Cc c.2.1||c.2.2.2.1 !=0)=true:=by
        cases ht:Cc c.2.1 with
        |false=>rfl
        |true=>simp only[zq,Aq];exact zO fun h=>hl ⟨ht,h⟩
       have hok:Cy c=false:=by
        rw[MU];cases ht:Cc c.2.1 with
        |false=>rfl
        |true=>simp only[Bj];exact zw fun h=>hl ⟨ht,h⟩
       simp only[e1,hok,yX,zD];exact⟨_,rfl,rfl,.inl rfl⟩
    ·have er:(decide (0≤c.2.2.1)&&decide (c.2.2.1≤2))=false:=by
      rw[Bool.eq_false_iff];intro hh;simp only[Aa,Al] at hh;exact hrep hh
     have hok:Cy c=false:=by unfold Cy;rw[er,Bool.and_false]
     simp only[er,hok,zD,yX];exact⟨_,rfl,rfl,.inl rfl⟩
def ET(s:List ze):Prop:=2≤s.length∧s.length≤20∧A9 s 6 0 s.length∧∃c,s[0]?=some c∧c.1=⟨#[]⟩∧c.2.2.1=0∧c.2.1=7
theorem QM(hk:100≤k)(s:List ze)(hn:∀c,c∈s→c.1.size<k∧c.1.size<1000000000∧Ae c.2.2.2.1):
 ∃b,Eb k s=some b∧Ex k s=some b∧(b=true→ET s∧Bb k s 0 1=some (s.length:Int)):=by
 unfold Eb Ex;simp only[Bh,Bp,yY];by_cases hin:2≤s.length∧s.length≤20
 ·have c1:(decide ((2:Int)≤(s.length:Int))&&decide ((s.length:Int)≤20))=true:=by simp;omega
  obtain⟨n,hn1,hn2⟩:=FK (xs:=s) (i:=0) (by omega) (by omega);have hn2:s[0]?=some n:=hn2;simp only[c1,yX,zq,yZ,hn1,yY,cst];by_cases hr:n.1=⟨#[]⟩∧n.2.2.1=0∧n.2.1=7
  ·have e0:iY n.1 ⟨#[]⟩=true:=by rw[Dv];exact zh hr.1
   simp only[zK hr.2.2,zK hr.2.1,e0,yZ,yY,Bt,zq];obtain⟨v,s1,s2,s4⟩:=alr k hk s hin.2 hn (fun c hc=>by rw[hn2] at hc;cases hc;exact hr) 6 k 1 0 (by omega) (by omega);have s1:B_ k s 0 1=some v:=s1;have s2:Bb k s 0 1=some v:=s2;simp only[s1,s2,yY];refine⟨_,rfl,rfl,fun hb=> ?_⟩;have hv:v=(s.length:Int):=by simpa using hb
   refine⟨⟨hin.1,hin.2,?_,n,hn2,hr⟩,by rw[hv]⟩;rcases s4 with h|⟨nx,h1,h2,_⟩
   ·omega
   ·have:nx=s.length:=by omega
    rw[←this];exact h2
  ·
    have hs:B_ k s 0 1=some (-1):=by
     obtain⟨K,rfl⟩:∃j,k=j+1:=⟨k-1,by omega⟩;show B_.b (K+1) (B_.rec (K+1) K) s 0 1=_;unfold B_.b;have e1:(cond ((0:Int)==0) (some ((!iY n.1 ⟨#[]⟩||n.2.2.1 !=0)||n.2.1 !=7)) (some false):Option Bool)=some true:=by
      show some _=_
      congr 1
      cases he:iY n.1 ⟨#[]⟩ with
      |false=>rfl
      |true=>
       rw[Dv] at he;have he:=of_decide_eq_true he;simp only[zq,Aq,Bool.or_eq_true,bne_iff_ne];exact Classical.byContradiction fun hh=>hr ⟨he,Classical.byContradiction fun h=>hh (.inl h),Classical.byContradiction fun h=>hh (.inr h)⟩
     simp only[zk (show ¬(0:Int)≥(s.length:Int) by omega),cst,yY,show decide ((1:Int)>6)=false from rfl,Bt,yZ,hn1,e1,Ag,yX]
    refine⟨false,?_,?_,fun h=>by cases h⟩
    ·simp only[hs,yY]
     rw[zw (by omega)]
    ·by_cases h7:n.2.1=7
     ·by_cases h0:n.2.2.1=0
      ·have he:iY n.1 ⟨#[]⟩=false:=by
        rw[Dv];exact zk fun h=>hr ⟨h,h0,h7⟩
       simp only[zK h7,zK h0,he,yY,yZ,Bt,zD,Aq,yX]
      ·simp only[zK h7,zO h0,yY,yZ,Aq,yX,Ag]
     ·simp only[zO h7,yY,yX,Ag]
 ·have c1:(decide ((2:Int)≤(s.length:Int))&&decide ((s.length:Int)≤20))=false:=by
   rw[Bool.eq_false_iff];intro h;simp only[Aa,Al] at h;omega
  simp only[c1,zD,yX,yZ,yY];exact⟨false,rfl,rfl,fun h=>by cases h⟩
end Go.Af
end
section
namespace Go.Af
open Go.Am Go.Fn
variable(k:Nat)
theorem Q0(hk:2000≤k)(l:List zf)(hw:∀n,n∈l→FX n)(hlen:l.length<4294967296):
 ∃b:Bool,K4 k l=some b∧((b=false∧∃x,KS k l=some (((),false),x))∨
  (b=true∧l.length≤1500∧1≤l.length∧∃af,KS k l=some (((),true),((true,(l,(),())),af))∧Sub l af 12 0 l.length∧∃n,l[0]?=some n∧n.1=12∧n.2.1=0)):=by
 unfold K4 KS;simp only[Bp,Bh,yY];by_cases hin:1≤l.length∧l.length≤1500
 ·have c1:(decide ((1:Int)≤(l.length:Int))&&decide ((l.length:Int)≤1500))=true:=by simp;omega
  obtain⟨n,hn1,hn2⟩:=FK (xs:=l) (i:=0) (by omega) (by omega);have hn2:l[0]?=some n:=hn2;simp only[c1,zq,yZ,hn1,yY,JH (show(0:Int)≤(l.length:Int) by omega) (by omega),yX,cst,Int.toNat_natCast];by_cases hr:n.1=12∧n.2.1=0
  ·have c2:(n.1 !=12||n.2.1 !=0)=false:=by simp[hr.1,hr.2]
   simp only[zK hr.1,zK hr.2,yZ,yY,Bt];obtain⟨v,DK,s1,s2,s3,s4⟩:=check k hk l hin.2 hw 12 k 1 0 (List.replicate l.length 0) (by omega) (by omega) (by simp);have s1:Ck k l 0 1=some v:=s1;have s2:Dn k 0 1 (true,(l,(),())) (List.replicate l.length 0)=some (v,((l,(),()),DK)):=s2;simp only[s1,s2,yY];by_cases hv:v=(l.length:Int)
   ·refine⟨true,by rw[Ac hv],.inr ⟨rfl,hin.2,hin.1,DK,by simp only[zK hv,yZ],?_,n,hn2,hr⟩⟩
    rcases s4 with h|⟨nx,h1,h2,_⟩
    ·omega
    ·have:nx=l.length:=by omega
     rw[←this];exact h2
   ·exact⟨false,by rw[zw hv],.inl ⟨rfl,((false,([],(),())),[]),by simp only[zO hv,yX]⟩⟩
  ·have c2:(n.1 !=12||n.2.1 !=0)=true:=by
    simp only[Bool.or_eq_true,bne_iff_ne];exact Classical.byContradiction fun hh=>hr ⟨Classical.byContradiction fun h=>hh (.inl h),Classical.byContradiction fun h=>hh (.inr h)⟩
   refine⟨false,?_,.inl ⟨rfl,((false,([],(),())),[]),by simp only[c2,yX]⟩⟩;by_cases h12:n.1=12
   ·have h0:¬n.2.1=0:=fun h=>hr ⟨h12,h⟩
    simp only[zK h12,yZ,zO h0,yY,yX,Aq]
   ·simp only[zO h12,yY,yX,Ag]
 ·have c1:(decide ((1:Int)≤(l.length:Int))&&decide ((l.length:Int)≤1500))=false:=by
   rw[Bool.eq_false_iff];intro h;simp only[Aa,Al] at h;omega
  simp only[c1,zD,yX,yY];exact⟨false,rfl,.inl ⟨rfl,_,rfl⟩⟩
end Go.Af
end
section
namespace Go.Af
open Go.Am Go.Fn
variable(k:Nat)
theorem Gx{S:Nat→Nat→Prop}{l:List zf}{n:zf}(hS:∀a b,S a b→a<b):∀(c pos:Nat) (last:Int) (nx:Nat),Gi S l n c pos last nx→pos+c≤nx
 |0,pos,last,nx,e=>by have e:pos=nx:=e;omega
 |c+1,pos,last,nx,⟨p,mid,_,_,_,h4,h5⟩=>by
  have:=hS _ _ h4;have:=Gx hS c mid p.2.1 nx h5;omega
theorem Rm{l:List zf}{af:List Int}:∀(d a b:Nat),Sub l af d a b→∀i,a≤i→i<b→∃d' nx,d'≤d∧Sub l af d' i nx∧nx≤b
 |0,_,_,h=>h.elim
 |d+1,a,b,⟨n,h1,h2,h3,h4⟩=>by
  have key:∀(c pos:Nat) (last:Int) (nx:Nat),Gi (Sub l af d) l n c pos last nx→∀i,pos≤i→i<nx→∃d' x,d'≤d∧Sub l af d' i x∧x≤nx:=by
   intro c
   induction c with
   |zero=>intro pos last nx e i hi1 hi2;have e:pos=nx:=e;omega
   |succ c ih=>
    intro pos last nx ⟨p,mid,_,_,_,hs,hp⟩ i hi1 hi2;rcases Nat.lt_or_ge i mid with h|h
    ·obtain⟨d',x,q1,q2,q3⟩:=Rm d pos mid hs i hi1 h
     have:=Gx (Dt d) _ _ _ _ hp;exact⟨d',x,q1,q2,by omega⟩
    ·exact ih mid _ nx hp i h hi2
  intro i hi1 hi2;rcases Nat.lt_or_ge a i with h|h
  ·obtain⟨d',x,q1,q2,q3⟩:=key _ _ _ _ h3 i (by omega) hi2
   exact⟨d',x,by omega,q2,q3⟩
  ·obtain rfl:i=a:=by omega
   exact⟨d+1,b,Nat.le_refl _,⟨n,h1,h2,h3,h4⟩,Nat.le_refl _⟩
theorem J2{l:List zf}{af:List Int}{d a b:Nat}(h:Sub l af d a b):∃n,l[a]?=some n∧Dw n=true∧af[a]?=some (b:Int):=by
 cases d with
 |zero=>exact h.elim
 |succ d=>obtain⟨n,h1,h2,h3,h4⟩:=h;exact⟨n,h1,h2,h4⟩
theorem Pe{n:zf}(h:Dw n=true):0≤n.2.2.2.2.1:=by
 unfold Dw at h
 repeat' split at h
 all_goals simp only[Aa,beq_iff_eq,Al,Bool.or_eq_true] at h
 all_goals omega
theorem after_eq(hk:2000≤k){l:List zf}{af:List Int}(hl:l.length≤1500):∀(d D at_ nx:Nat),d≤D→Sub l af d at_ nx→nx≤l.length→Dr.rec k D l (at_:Int)=some (nx:Int):=by
 intro d
 induction d with
 |zero=>intro D at_ nx _ h;exact h.elim
 |succ d ih=>
  intro D at_ nx hD ⟨n,h1,h2,h3,h4⟩ hnx;obtain⟨D,rfl⟩:∃j,D=j+1:=⟨D-1,by omega⟩;have hm0:=Pe h2;have hat:at_<l.length:=(List.getElem?_eq_some_iff.1 h1).1;have loop:∀(c pos:Nat) (last:Int) (f:Nat) (i:Int),Gi (Sub l af d) l n c pos last nx→c<f→n.2.2.2.2.1-i=c→0≤i→n.2.2.2.2.1≤2000→Dr.l3 k (Dr.rec k D) f l (at_:Int) (pos:Int) i=some (nx:Int):=by
   intro c
   induction c with
   |zero=>
    intro pos last f i hp hf hi hi0 hi2;obtain⟨f,rfl⟩:∃j,f=j+1:=⟨f-1,by omega⟩;obtain rfl:pos=nx:=hp;simp only[Dr.l3,zQ,h1,yY,zk (show ¬i<n.2.2.2.2.1 by omega),yZ]
   |succ c oq=>
    intro pos last f i ⟨p,mid,_,_,_,hs,hp⟩ hf hi hi0 hi2;obtain⟨f,rfl⟩:∃j,f=j+1:=⟨f-1,by omega⟩;have hc:=Gx (Dt d) _ _ _ _ hp;simp only[Dr.l3,zQ,h1,yY,zh (show i<n.2.2.2.2.1 by omega),yX,ih D pos mid (by omega) hs (by omega)];have hlt:=Dt _ _ _ hs;rw[zg (by omega) (by omega)];exact oq mid _ f (i+1) hp (by omega) (by omega) (by omega) (by omega)
  have hc:=Gx (Dt d) _ _ _ _ h3;simp only[Dr.rec,Dr.b];rw[zg (by omega) (by omega),show((at_:Int)+1)=((at_+1:Nat):Int) by omega];exact loop _ _ 0 k 0 h3 (by omega) (by omega) (by omega) (by omega)
section
variable{l:List zf}{af:List Int}
structure D7(l:List zf)(af:List Int):Prop where
 len:l.length≤1500
 pos:1≤l.length
 sub:Sub l af 12 0 l.length
 wf:∀n,n∈l→FX n
theorem D7.at(h:D7 l af){i:Nat}(hi:i<l.length):∃d nx,d≤12∧Sub l af d i nx∧nx≤l.length:=
 Rm 12 0 l.length h.sub i (Nat.zero_le _) hi
theorem D7.after(hk:2000≤k)(h:D7 l af){d i nx:Nat}(hd:d≤12)(hs:Sub l af d i nx)(hn:nx≤l.length):Dr k l (i:Int)=some (nx:Int):=
 after_eq k hk h.len d k i nx (by omega) hs hn
abbrev tB(l:List zf):zF:=(l,(),())
theorem aiY(hk:2000≤k)(h:D7 l af)(d:Nat)(hd:d≤12)(n:zf)(at_:Nat)(hn:l[at_]?=some n)(id:Int)(nx:Nat)(hnx:nx≤l.length):∀(c pos:Nat) (last:Int) (f:Nat) (i:Int),Gi (Sub l af d) l n c pos last nx→c<f→n.2.2.2.2.1-i=c→0≤i→n.2.2.2.2.1≤2000→
 ∃v,CF.l5 k f l (at_:Int) id (pos:Int) i=some v∧DD.l5 k f id (pos:Int) n.2.2.2.2.1 i (tB l) af=some (v,(tB l,af))∧(v= -1∨∃q:Nat,v=q∧pos≤q∧q<nx∧∃mid,Sub l af d q mid∧mid≤nx):=by
 intro c
 induction c with
 |zero=>
  intro pos last f i hp hf hi hi0 hi2;obtain⟨f,rfl⟩:∃j,f=j+1:=⟨f-1,by omega⟩;simp only[CF.l5,DD.l5,zQ,hn,yY,zk (show ¬i<n.2.2.2.2.1 by omega),yZ];exact⟨_,rfl,rfl,.inl rfl⟩
 |succ c oq=>
  intro pos last f i ⟨p,mid,hp1,_,_,hs,hp⟩ hf hi hi0 hi2;obtain⟨f,rfl⟩:∃j,f=j+1:=⟨f-1,by omega⟩;have hc:=Gx (Dt d) _ _ _ _ hp;have hlt:=Dt _ _ _ hs;obtain⟨_,_,_,BG⟩:=J2 hs;simp only[CF.l5,DD.l5,zQ,hn,hp1,BG,yY,zh (show i<n.2.2.2.2.1 by omega),yX];by_cases hid:p.2.1=id
  ·simp only[Ac hid,yX]
   exact⟨_,rfl,rfl,.inr ⟨pos,rfl,Nat.le_refl _,by omega,mid,hs,by omega⟩⟩
  ·simp only[zw hid,yZ,h.after k hk hd hs (by omega),yY]
   rw[zg (by omega) (by omega)];obtain⟨v,g1,g2,g3⟩:=oq mid _ f (i+1) hp (by omega) (by omega) (by omega) (by omega);refine⟨v,g1,g2,?_⟩;rcases g3 with g|⟨q,q1,q2,q3,q4⟩
   ·exact .inl g
   ·exact .inr ⟨q,q1,by omega,q3,q4⟩
theorem find_eq(hk:2000≤k)(h:D7 l af)(at_:Nat)(hat:at_<l.length)(id:Int):
 ∃v,CF k l (at_:Int) id=some v∧DD k (at_:Int) id (true,tB l) af=some (v,(tB l,af))∧(v= -1∨∃q:Nat,v=q∧at_<q∧q<l.length):=by
 obtain⟨d,nx,hd,hs,hnx⟩:=h.at hat;have hlen:=h.len;cases d with
 |zero=>exact hs.elim
 |succ d=>
  obtain⟨n,h1,h2,h3,h4⟩:=hs;have hm0:=Pe h2;have hc:=Gx (Dt d) _ _ _ _ h3;unfold CF DD;have c1:(decide ((0:Int)≤(at_:Int))&&decide ((at_:Int)≤IntKind.wrap .i64 ((l.length:Int)-1)))=true:=by
   rw[zg (by omega) (by omega)];simp;omega
  simp only[yX,Bp,c1,yY,zq,yZ,zQ,h1];by_cases h12:n.1=12
  ·simp only[zK h12,yZ]
   have ha1:IntKind.wrap .i64 ((at_:Int)+1)=((at_+1:Nat):Int):=by rw[zg (by omega) (by omega)];omega
   rw[ha1];obtain⟨v,g1,g2,g3⟩:=aiY k hk h d (by omega) n at_ h1 id nx hnx _ _ 0 k 0 h3 (by omega) (by omega) (by omega) (by omega);refine⟨v,g1,g2,?_⟩;rcases g3 with g|⟨q,q1,q2,q3,_⟩
   ·exact .inl g
   ·exact .inr ⟨q,q1,by omega,by omega⟩
  ·simp only[zO h12,yX]
   exact⟨_,rfl,rfl,.inl rfl⟩
theorem text_eq(hk:2000≤k)(h:D7 l af)(at_:Nat)(hat:at_<l.length)(id:Int):
 ∃s b n,Kr k l (at_:Int) id=some (s,b)∧Hq k (at_:Int) id 8 (true,tB l) af=some ((n,b),(tB l,af))∧n.2.2.2.1=s∧s.size≤300:=by
 obtain⟨v,g1,g2,g3⟩:=find_eq k hk h at_ hat id;unfold Kr Hq;simp only[g1,g2,yY];rcases g3 with rfl|⟨q,rfl,q1,q2⟩
 ·simp only[show decide ((-1:Int)<0)=true from rfl,yX,yY]
  exact⟨_,_,_,rfl,rfl,rfl,by decide⟩
 ·obtain⟨d,nx,hd,hs,hnx⟩:=h.at q2
  obtain⟨n,n1,n2,n3⟩:=J2 hs;simp only[zk (show ¬(q:Int)<0 by omega),yZ,zQ,n1,yY];by_cases h8:n.1=8
  ·simp only[zK h8,yZ]
   refine⟨_,_,_,rfl,rfl,rfl,?_⟩;unfold Dw at n2;rw[h8] at n2;simp only[reduceIte,if_neg (show ¬((8:Int)=5) by decide),if_neg (show ¬((8:Int)=6) by decide),Aa,beq_iff_eq,Al] at n2;omega
  ·simp only[zO h8,yX]
   exact⟨_,_,_,rfl,rfl,rfl,by decide⟩
theorem num_eq(hk:2000≤k)(h:D7 l af)(at_:Nat)(hat:at_<l.length)(id:Int):
 ∃v b,GZ k l (at_:Int) id=some (v,b)∧IA k (at_:Int) id (true,tB l) af=some ((v,b),(tB l,af))∧Ae v∧(∃w,CF k l (at_:Int) id=some w∧(b=true→0≤w)):=by
 obtain⟨v,g1,g2,g3⟩:=find_eq k hk h at_ hat id;unfold GZ IA;simp only[g1,g2,yY];have z:Ae 0:=⟨by omega,by omega⟩;rcases g3 with rfl|⟨q,rfl,q1,q2⟩
 ·simp only[show decide ((-1:Int)<0)=true from rfl,yX,yY]
  exact⟨_,_,rfl,rfl,z,-1,rfl,fun h=>by cases h⟩
 ·obtain⟨d,nx,hd,hs,hnx⟩:=h.at q2
  obtain⟨n,n1,n2,n3⟩:=J2 hs;have hw:=h.wf n (List.mem_of_getElem? n1);simp only[zk (show ¬(q:Int)<0 by omega),yZ,zQ,n1,yY,Au];by_cases hb:(n.1 !=5&&n.1 !=6)=true
  ·simp only[hb,yX]
   exact⟨_,_,rfl,rfl,z,q,rfl,fun h=>by cases h⟩
  ·simp only[Bool.eq_false_iff.2 hb,yZ]
   exact⟨_,_,rfl,rfl,hw.2.2.1,q,rfl,fun _=>by omega⟩
theorem RS(hk:2000≤k)(h:D7 l af)(at_:Nat)(hat:at_<l.length)(root:Bool):
 ∃x x' b,Gd k l (at_:Int) root=some (x',b)∧FD k (at_:Int) root (true,tB l) af=some ((x,b),(tB l,af))∧(b=true→x=x')∧x'.1.size≤300∧Ae x'.2.2.2.1:=by
 obtain⟨s4,b4,n4,t1,t2,t3,t4⟩:=text_eq k hk h at_ hat 4;obtain⟨v1,b1,u1,u2,u3,w1,u4,u5⟩:=num_eq k hk h at_ hat 1;obtain⟨v3,b3,y1,y2,y3,w3,y4,y5⟩:=num_eq k hk h at_ hat 3;obtain⟨v5,b5,z1,z2,z3,w5,z4,z5⟩:=num_eq k hk h at_ hat 5;obtain⟨f1,a1,a2,a3⟩:=find_eq k hk h at_ hat 1;obtain⟨f5,e1,e2,e3⟩:=find_eq k hk h at_ hat 5;obtain rfl:f1=w1:=by rw[a1] at u4;exact Option.some.inj u4
 obtain rfl:f5=w5:=by rw[e1] at z4;exact Option.some.inj z4
 have z:Ae 0:=⟨by omega,by omega⟩
 have fin:∀(yV TH:ze) (rep:Int) (has:Bool),∃x x' b,Gd.c9 k l (at_:Int) b4 b1 v5 b5 has yV (s4,v1,rep,0,())=some (x',b)∧
  FD.c8 k (at_:Int) b4 has b1 v5 b5 (tB l) af TH (s4,v1,rep,0,())=some ((x,b),(tB l,af))∧(b=true→x=x')∧x'.1.size≤300∧Ae x'.2.2.2.1:=by
  intro yV TH rep has;unfold Gd.c9 Gd.c12 FD.c8 FD.c11;simp only[a1,e1,e2,a2,yY,Au,cst];by_cases h5:f5≥0
  ·have Qo:decide (f5<0)=false:=zk (by omega)
   simp only[zh h5,yX,Qo];cases b5 with
   |true=>
    cases b1 with
    |true=>
     have:¬f1<0:=by have:=u5 rfl;omega
     simp only[yX,yZ,zq,yY,zk this];cases b4<;>cases has<;>exact⟨_,_,_,rfl,rfl,(fun h=>by cases h),t4,z⟩
    |false=>
     simp only[yX,yZ,zD,yY];cases b4<;>cases has<;>cases(decide (f1<0))<;>exact⟨_,_,_,rfl,rfl,fun _=>rfl,t4,z3⟩
   |false=>
    cases b1 with
    |true=>
     simp only[yX,yZ,zq,yY];cases b4<;>cases has<;>exact⟨_,_,_,rfl,rfl,(fun h=>by cases h),t4,z⟩
    |false=>
     simp only[yX,yZ,zD,yY];cases b4<;>cases has<;>cases(decide (f1<0))<;>exact⟨_,_,_,rfl,rfl,(fun h=>by cases h),t4,z3⟩
  ·have Qo:decide (f5<0)=true:=zh (by omega)
   have hb5:b5=false:=by
    cases b5 with
    |false=>rfl
    |true=>have:=z5 rfl;omega
   subst hb5;simp only[zk h5,yZ,Qo];cases b1 with
   |true=>
    simp only[yX,yZ,zq,yY];cases b4<;>cases has<;>exact⟨_,_,_,rfl,rfl,fun _=>rfl,t4,z⟩
   |false=>
    simp only[yX,yZ,zD,yY];cases b4<;>cases has<;>exact⟨_,_,_,rfl,rfl,(fun h=>by cases h),t4,z3⟩
 unfold Gd FD;simp only[t1,t2,u1,u2,y1,y2,z1,z2,yY,t3];cases root with
 |true=>simp only[yX];exact fin _ _ 0 true
 |false=>simp only[yZ];exact fin _ _ v3 b3
def Fz(af:List Int):Nat→Nat→List Int
 |0,_=>[]
 |c+1,pos=>(pos:Int)::Fz af c ((af[pos]?).getD 0).toNat
theorem P6:∀(c pos:Nat),(Fz af c pos).length=c
 |0,_=>rfl
 |c+1,pos=>by simp[Fz,P6 c]
theorem TQ(hlen:l.length≤1500)(d:Nat)(n:zf)(nx:Nat)(hnx:nx≤l.length):∀(c pos:Nat) (last:Int) (f:Nat) (M i:Int) (acc:List Int),Gi (Sub l af d) l n c pos last nx→c<f→M-i=c→0≤i→M≤2000→acc.length+c≤4000→
 F5.l7 k f (pos:Int) M i (tB l) af acc=some (((),true),(tB l,af,acc++Fz af c pos)):=by
 intro c
 induction c with
 |zero=>
  intro pos last f M i acc hp hf hi hi0 hi2 ha;obtain⟨f,rfl⟩:∃j,f=j+1:=⟨f-1,by omega⟩;simp only[F5.l7,zk (show ¬i<M by omega),yZ,Fz,AO]
 |succ c oq=>
  intro pos last f M i acc ⟨p,mid,hp1,_,_,hs,hp⟩ hf hi hi0 hi2 ha;obtain⟨f,rfl⟩:∃j,f=j+1:=⟨f-1,by omega⟩;have hc:=Gx (Dt d) _ _ _ _ hp;have hlt:=Dt _ _ _ hs;obtain⟨_,_,_,BG⟩:=J2 hs;simp only[F5.l7,zh (show i<M by omega),yX,zQ,BG,yY];rw[Ak (by simp;omega),yX,zg (by omega) (by omega)];rw[oq mid _ f M (i+1) _ hp (by omega) (by omega) (by omega) (by omega) (by simp;omega)];simp[Fz,BG]
def Small(k:Nat)(c:ze):Prop:=c.1.size<k∧c.1.size<1000000000∧Ae c.2.2.2.1
theorem alp{s:List ze}(h:ET s):∀c,c∈s→Cy c=true:=by
 intro c hc;obtain⟨i,hi,rfl⟩:=List.mem_iff_getElem.1 hc;obtain⟨c',h1,h2,_⟩:=Rk 6 0 s.length h.2.2.1 i (Nat.zero_le _) hi;rw[AA hi] at h1;rw[Option.some.inj h1];exact h2
theorem alU(hk:2000≤k)(h:D7 l af)(d:Nat)(hd:d≤12)(n:zf)(q:Nat)(hn:l[q]?=some n)(nx:Nat)(hnx:nx≤l.length):∀(c pos:Nat) (last:Int) (f:Nat) (i:Int) (out:List ze),Gi (Sub l af d) l n c pos last nx→c<f→n.2.2.2.2.1-i=c→0≤i→n.2.2.2.2.1≤2000→
 (∀x,x∈out→Small k x)→(∃x,x∈out∧Cy x=false)→out.length+c≤4000→Gv.l8 k f l (q:Int) (pos:Int) i [] out=some (((),false),[]):=by
 intro c
 induction c with
 |zero=>
  intro pos last f i out hp hf hi hi0 hi2 hsm ⟨x,hx1,hx2⟩ ho;obtain⟨f,rfl⟩:∃j,f=j+1:=⟨f-1,by omega⟩;obtain⟨b,g1,_,g3⟩:=QM k (by omega) out hsm;have hb:b=false:=by
   cases b with
   |false=>rfl
   |true=>
    have:=alp (g3 rfl).1 x hx1;rw[hx2] at this;cases this
  subst hb;simp only[Gv.l8,zQ,hn,yY,zk (show ¬i<n.2.2.2.2.1 by omega),yZ,g1,zD,yX]
 |succ c oq=>
  intro pos last f i out ⟨p,mid,hp1,_,_,hs,hp⟩ hf hi hi0 hi2 hsm hbad ho;obtain⟨f,rfl⟩:∃j,f=j+1:=⟨f-1,by omega⟩;have hc:=Gx (Dt d) _ _ _ _ hp;have hlt:=Dt _ _ _ hs;obtain⟨x,x',b,g1,g2,g3,g4,g5⟩:=RS k hk h pos (by omega) (i==0);simp only[Gv.l8,zQ,hn,yY,zh (show i<n.2.2.2.2.1 by omega),yX,g1];cases b with
  |false=>simp only[zD,yX]
  |true=>
   simp only[zq,yZ];rw[Ak (by simp;omega),yX];simp only[h.after k hk hd hs (by omega),yY];rw[zg (by omega) (by omega)];obtain⟨y,hy1,hy2⟩:=hbad;refine oq mid _ f (i+1) _ hp (by omega) (by omega) (by omega) (by omega) (fun z hz=> ?_) ⟨y,List.mem_append.2 (.inl hy1),hy2⟩ (by simp;omega);rcases List.mem_append.1 hz with hz|hz
   ·exact hsm z hz
   ·simp at hz;subst hz;exact⟨by omega,by omega,g5⟩
def Rh(k:Nat)(r:List ze):Prop:=ET r∧Eb k r=some true∧Ex k r=some true∧∀c,c∈r→Small k c
theorem alo(hk:2000≤k)(h:D7 l af)(d:Nat)(hd:d≤12)(n:zf)(q:Nat)(hn:l[q]?=some n)(nx:Nat)(hnx:nx≤l.length)(places:List Int):∀(c pos:Nat) (last:Int) (f f' j:Nat) (out:List ze),Gi (Sub l af d) l n c pos last nx→c<f→c<f'→n.2.2.2.2.1-j=c→n.2.2.2.2.1≤2000→
 places.drop j=Fz af c pos→(places.length:Int)=n.2.2.2.2.1→(∀x,x∈out→Small k x)→out.length+c≤4000→
 ∃b r,Gv.l8 k f l (q:Int) (pos:Int) (j:Int) [] out=some (((),b),r)∧Hr.l6 k f' (places.length:Int) (j:Int) (tB l) af out places=some (((),b),(tB l,af,r))∧(b=true→Rh k r)∧(b=false→r=[]):=by
 intro c
 induction c with
 |zero=>
  intro pos last f f' j out hp hf hf' hi hi2 hpl KP hsm ho;obtain⟨f,rfl⟩:∃j,f=j+1:=⟨f-1,by omega⟩;obtain⟨f',rfl⟩:∃j,f'=j+1:=⟨f'-1,by omega⟩;obtain⟨b,g1,g2,g3⟩:=QM k (by omega) out hsm;simp only[Gv.l8,Hr.l6,zQ,hn,yY,KP,zk (show ¬(j:Int)<n.2.2.2.2.1 by omega),yZ,g1,g2];cases b with
  |false=>exact⟨_,_,rfl,rfl,fun h=>(by cases h),fun _=>rfl⟩
  |true=>exact⟨_,_,rfl,rfl,fun _=>⟨(g3 rfl).1,g1,g2,hsm⟩,fun h=>(by cases h)⟩
 |succ c oq=>
  intro pos last f f' j out ⟨p,mid,hp1,_,_,hs,hp⟩ hf hf' hi hi2 hpl KP hsm ho;obtain⟨f,rfl⟩:∃j,f=j+1:=⟨f-1,by omega⟩;obtain⟨f',rfl⟩:∃j,f'=j+1:=⟨f'-1,by omega⟩;have hc:=Gx (Dt d) _ _ _ _ hp;have hlt:=Dt _ _ _ hs;obtain⟨_,_,_,BG⟩:=J2 hs;have hch:Fz af (c+1) pos=(pos:Int)::Fz af c mid:=by simp[Fz,BG]
  rw[hch] at hpl;obtain⟨d1,d2,d3⟩:=VL hpl;obtain⟨x,x',b,g1,g2,g3,g4,g5⟩:=RS k hk h pos (by omega) ((j:Int)==0);simp only[Gv.l8,Hr.l6,zQ,hn,d1,yY,KP,zh (show(j:Int)<n.2.2.2.2.1 by omega),yX,g1,g2,Au,cst];cases b with
  |false=>
   simp only[zD,yX,Ag];exact⟨_,_,rfl,rfl,fun h=>(by cases h),fun _=>rfl⟩
  |true=>
   obtain rfl:=g3 rfl;simp only[zq,yZ,Aq];rw[Ak (show out.length+[x].length≤4294967296 by simp;omega),yX];simp only[h.after k hk hd hs (by omega),yY];rw[zg (by omega) (by omega),show((j:Int)+1)=((j+1:Nat):Int) by omega];have SV:∀z,z∈out++[x]→Small k z:=fun z hz=>by
    rcases List.mem_append.1 hz with hz|hz
    ·exact hsm z hz
    ·simp at hz;subst hz;exact⟨by omega,by omega,g5⟩
   by_cases hbad:(decide ((j:Int)>0)&&x.2.2.2.1==0&&x.2.1==7)=true
   ·simp only[hbad,yX]
    have hb:x.2.2.2.1=0∧x.2.1=7:=by
     simp only[Aa,beq_iff_eq] at hbad;exact⟨hbad.1.2,hbad.2⟩
    rw[alU k hk h d hd n q hn nx hnx c mid _ f _ _ hp (by omega) (by omega) (by omega) (by omega) SV ⟨x,by simp,by unfold Cy;rw[hb.1,hb.2];rfl⟩ (by simp;omega)];exact⟨_,_,rfl,rfl,fun h=>(by cases h),fun _=>rfl⟩
   ·simp only[Bool.eq_false_iff.2 hbad,yZ]
    have:=oq mid _ f f' (j+1) (out++[x]) hp (by omega) (by omega) (by omega) (by omega) d3 KP SV (by simp;omega);rw[KP] at this;exact this
theorem of_eq(hk:2000≤k)(h:D7 l af)(at_:Nat)(hat:at_<l.length):
 ∃b r,Gv k l (at_:Int) 2=some (((),b),r)∧Hr k (at_:Int) (true,tB l) af=some (((),b),(tB l,af,r))∧(b=true→Rh k r)∧(b=false→r=[]):=by
 obtain⟨v,g1,g2,g3⟩:=find_eq k hk h at_ hat 2;unfold Gv Hr F5;simp only[g1,g2,yY];rcases g3 with rfl|⟨q,rfl,q1,q2⟩
 ·simp only[show decide ((-1:Int)<0)=true from rfl,yX,yY,zD]
  exact⟨_,_,rfl,rfl,fun h=>(by cases h),fun _=>rfl⟩
 ·obtain⟨d,nx,hd,hs,hnx⟩:=h.at q2
  cases d with
  |zero=>exact hs.elim
  |succ d=>
   obtain⟨n,h1,h2,h3,h4⟩:=hs;have hm0:=Pe h2;have hlen:=h.len;have hc:=Gx (Dt d) _ _ _ _ h3;simp only[zk (show ¬(q:Int)<0 by omega),yZ,zQ,h1,yY];by_cases h9:n.1=9
   ·simp only[zK h9,yZ,yY,Au]
    have ajt:(n.2.2.2.2.1=0∧n.2.2.1=0)∨0<n.2.2.2.2.1:=by
     unfold Dw at h2;rw[h9] at h2;simp only[reduceIte,if_neg (show ¬((9:Int)=5) by decide),if_neg (show ¬((9:Int)=6) by decide),if_neg (show ¬((9:Int)=8) by decide),Aa,Bool.or_eq_true,beq_iff_eq,Al] at h2;exact h2.2.imp id fun h=>h.1
    have ha1:IntKind.wrap .i64 ((q:Int)+1)=((q+1:Nat):Int):=by rw[zg (by omega) (by omega)];omega
    by_cases h12:n.2.2.1=12
    ·simp only[zK h12,yZ,Bool.and_false,ha1]
     rw[TQ k hlen d n nx hnx _ _ 0 k _ 0 [] h3 (by omega) (by omega) (by omega) (by omega) (by simp;omega)];simp only[yY,zq,yZ,List.nil_append];exact alo k hk h d (by omega) n q h1 nx hnx (Fz af n.2.2.2.2.1.toNat (q+1)) _ _ 0 k k 0 [] h3 (by omega) (by omega) (by omega) (by omega) rfl (by rw[P6];omega) (fun x hx=>(List.not_mem_nil hx).elim) (by simp;omega)
    ·simp only[zO h12,yX,Bool.and_true]
     rcases ajt with⟨hz,_⟩|hpos
     ·obtain⟨K,rfl⟩:∃j,k=j+1:=⟨k-1,by omega⟩
      have hso:Ex (K+1) []=some false:=rfl;rw[hz];simp only[show decide ((0:Int)>0)=false from rfl,yZ,F5.l7,show decide ((0:Int)<0)=false from rfl,yY,zq,List.length_nil,Hr.l6,show decide ((((0:Nat):Int))>(((0:Nat):Int)))=false from rfl];refine⟨_,_,rfl,?_,fun h=>(by cases h),fun _=>rfl⟩;simp only[show decide ((0:Int)<((0:Nat):Int))=false from rfl,yZ,hso,yY,zD,yX]
     ·simp only[zh (show n.2.2.2.2.1>0 from hpos),yX,zD]
      exact⟨_,_,rfl,rfl,fun h=>(by cases h),fun _=>rfl⟩
   ·simp only[zO h9,yX,yY,zD]
    exact⟨_,_,rfl,rfl,fun h=>(by cases h),fun _=>rfl⟩
end
end Go.Af
end
section
namespace Go.Af
open Go.Am Go.Fn
def fV(k:Nat)(l:List zf)(a id:Int):Int:=(CF k l a id).getD (-1)
def nV(k:Nat)(l:List zf)(a id:Int):Int×Bool:=(GZ k l a id).getD (0,false)
def pV(k:Nat)(l:List zf)(a id kind:Int):Bool×List Int:=((FO k l a id kind).map fun r=>(r.1.2,r.2)).getD (false,[])
section
variable(k:Nat)(hk:2000≤k){l:List zf}{af:List Int}(h:D7 l af)
include hk h
theorem GD(a:Nat)(ha:a<l.length)(id:Int):CF k l (a:Int) id=some (fV k l a id)∧DD k (a:Int) id (true,tB l) af=some (fV k l a id,(tB l,af))∧(fV k l a id= -1∨∃q:Nat,fV k l a id=q∧a<q∧q<l.length):=by
 obtain⟨v,h1,h2,h3⟩:=find_eq k hk h a ha id;have:fV k l a id=v:=by unfold fV;rw[h1];rfl
 rw[this];exact⟨h1,h2,h3⟩
theorem IP(a:Nat)(ha:a<l.length)(id:Int):GZ k l (a:Int) id=some (nV k l a id)∧IA k (a:Int) id (true,tB l) af=some (nV k l a id,(tB l,af))∧Ae (nV k l a id).1∧((nV k l a id).2=true→0≤fV k l a id):=by
 obtain⟨v,b,h1,h2,h3,w,h4,h5⟩:=num_eq k hk h a ha id;have e:nV k l a id=(v,b):=by unfold nV;rw[h1];rfl
 have e2:fV k l a id=w:=by unfold fV;rw[h4];rfl
 rw[e,e2];exact⟨h1,h2,h3,h5⟩
theorem Vp(d:Nat)(n:zf):∀(c pos:Nat) (last:Int) (nx:Nat),Gi (Sub l af d) l n c pos last nx→nx≤l.length→∀p,p∈Fz af c pos→0≤p∧p<(l.length:Int):=by
 intro c
 induction c with
 |zero=>intro pos last nx _ _ p hp;cases hp
 |succ c ih=>
  intro pos last nx ⟨q,mid,hq,_,_,hs,hp⟩ hnx p hpm;obtain⟨_,_,_,BG⟩:=J2 hs;have hlt:=Dt _ _ _ hs;have hc:=Gx (Dt d) _ _ _ _ hp;simp only[Fz,BG,Option.getD_some,Int.toNat_natCast,List.mem_cons] at hpm;rcases hpm with rfl|hpm
  ·omega
  ·exact ih mid _ nx hp hnx p hpm
theorem alQ(d:Nat)(hd:d≤12)(n:zf)(q:Nat)(hn:l[q]?=some n)(nx:Nat)(hnx:nx≤l.length):∀(c pos:Nat) (last:Int) (f:Nat) (i:Int) (acc:List Int),Gi (Sub l af d) l n c pos last nx→c<f→n.2.2.2.2.1-i=c→0≤i→n.2.2.2.2.1≤2000→acc.length+c≤4000→
 FO.l7 k f l (q:Int) (pos:Int) i acc=some (((),true),acc++Fz af c pos):=by
 intro c
 induction c with
 |zero=>
  intro pos last f i acc hp hf hi hi0 hi2 ha;obtain⟨f,rfl⟩:∃j,f=j+1:=⟨f-1,by omega⟩;simp only[FO.l7,zQ,hn,yY,zk (show ¬i<n.2.2.2.2.1 by omega),yZ,Fz,AO]
 |succ c oq=>
  intro pos last f i acc ⟨p,mid,hp1,_,_,hs,hp⟩ hf hi hi0 hi2 ha;obtain⟨f,rfl⟩:∃j,f=j+1:=⟨f-1,by omega⟩;have hc:=Gx (Dt d) _ _ _ _ hp;have hlt:=Dt _ _ _ hs;obtain⟨_,_,_,BG⟩:=J2 hs;simp only[FO.l7,zQ,hn,yY,zh (show i<n.2.2.2.2.1 by omega),yX];rw[Ak (by simp;omega),yX];simp only[h.after k hk hd hs (by omega),yY];rw[zg (by omega) (by omega),oq mid _ f (i+1) _ hp (by omega) (by omega) (by omega) (by omega) (by simp;omega)];simp[Fz,BG]
theorem Jk(a:Nat)(ha:a<l.length)(id kind:Int):FO k l (a:Int) id kind=some (((),(pV k l a id kind).1),(pV k l a id kind).2)∧F5 k (a:Int) id kind (true,tB l) af=some (((),(pV k l a id kind).1),(tB l,af,(pV k l a id kind).2))∧(pV k l a id kind).2.length≤1500∧(∀p,p∈(pV k l a id kind).2→0≤p∧p<(l.length:Int)):=by
 obtain⟨g1,g2,g3⟩:=GD k hk h a ha id;have key:∃b ps,FO k l (a:Int) id kind=some (((),b),ps)∧F5 k (a:Int) id kind (true,tB l) af=some (((),b),(tB l,af,ps))∧ps.length≤1500∧(∀p,p∈ps→0≤p∧p<(l.length:Int)):=by
  have QB:∀p:Int,p∈([]:List Int)→0≤p∧p<(l.length:Int):=fun p hp=>by cases hp
  unfold FO F5;simp only[g1,g2,yY];rcases g3 with g3|⟨q,g3,q1,q2⟩
  ·simp only[g3,show decide ((-1:Int)<0)=true from rfl,yX,yY]
   exact⟨_,_,rfl,rfl,by simp,QB⟩
  ·rw[g3]
   obtain⟨d,nx,hd,hs,hnx⟩:=h.at q2;have hlen:=h.len;cases d with
   |zero=>exact hs.elim
   |succ d=>
    obtain⟨n,h1,h2,h3,h4⟩:=hs;have hm0:=Pe h2;have hc:=Gx (Dt d) _ _ _ _ h3;have ha1:IntKind.wrap .i64 ((q:Int)+1)=((q+1:Nat):Int):=by rw[zg (by omega) (by omega)];omega
    simp only[zk (show ¬(q:Int)<0 by omega),yZ,zQ,h1,yY,Au,cst,ha1];cases((n.1 !=9)||(decide (n.2.2.2.2.1>0)&&(n.2.2.1 !=kind))) with
    |true=>
     simp only[yX];exact⟨_,_,rfl,rfl,by simp,QB⟩
    |false=>
     simp only[yZ];rw[TQ k hlen d n nx hnx _ _ 0 k _ 0 [] h3 (by omega) (by omega) (by omega) (by omega) (by simp;omega),alQ k hk h d (by omega) n q h1 nx hnx _ _ 0 k 0 [] h3 (by omega) (by omega) (by omega) (by omega) (by simp;omega)];refine⟨_,_,rfl,rfl,?_,?_⟩
     ·rw[List.nil_append,P6];omega
     ·rw[List.nil_append]
      exact Vp k hk h d n _ _ _ nx h3 hnx
 obtain⟨b,ps,e1,e2,e3,e4⟩:=key;have e:pV k l a id kind=(b,ps):=by unfold pV;rw[e1];rfl
 rw[e];exact⟨e1,e2,e3,e4⟩
end
abbrev mR(b:Bool):Cb:=((),b,())
section
variable(k:Nat)(hk:2000≤k){l:List zf}{af:List Int}(h:D7 l af)
include hk h
theorem Mg(a:Nat)(ha:a<l.length)(id:Int)(b:Bool):EG k (a:Int) id (mR b) (tB l) af=some ((nV k l a id).1,(mR (b|| !(nV k l a id).2),tB l,af)):=by
 obtain⟨_,g,_⟩:=IP k hk h a ha id;unfold EG EG.c4;simp only[g,yY];cases(nV k l a id).2<;>cases b<;>rfl
theorem O9(a:Nat)(ha:a<l.length)(id kind:Int)(b:Bool):GL k (a:Int) id kind (mR b) (tB l) af=some ((),(mR (b|| !(pV k l a id kind).1),tB l,af,(pV k l a id kind).2)):=by
 obtain⟨_,g,_⟩:=Jk k hk h a ha id kind;unfold GL GL.c4;simp only[g,yY];cases(pV k l a id kind).1<;>cases b<;>rfl
end
theorem RA(b:ByteArray)(n:Nat):nC b (n:Int)=(b.toList[n]?).map fun c=>(c.toNat:Int):=by
 rw[ByteArray.toList_eq];show(match b.data.toList[n]? with|some b=>some (b.toNat:Int)|none=>none)=_;cases b.data.toList[n]?<;>rfl
theorem Gw(b:ByteArray):b.toList.length=b.size:=by rw[ByteArray.toList_eq,Array.length_toList];rfl
theorem alG(k:Nat)(a b:za)(ha:a.2.1.size≤1000000)(hb:b.2.1.size≤1000000):∀(m f i:Nat),i+m=a.2.1.size→m<f→
 Fg.l8 k f (i:Int) a b=some (Op.bytesLess (a.2.1.toList.drop i) (b.2.1.toList.drop i)):=by
 intro m
 induction m with
 |zero=>
  intro f i h hf;obtain⟨f,rfl⟩:∃q,f=q+1:=⟨f-1,by omega⟩;have hd:a.2.1.toList.drop i=[]:=List.drop_of_length_le (by rw[Gw];omega);simp only[Fg.l8,zk (show ¬((i:Int)<(a.2.1.size:Int)) by omega),yZ,yY,hd];cases hbd:b.2.1.toList.drop i with
  |nil=>
   have:=List.drop_eq_nil_iff.1 hbd;rw[Gw] at this;rw[zk (by omega)];rfl
  |cons y r=>
   have hl:(b.2.1.toList.drop i).length=(y::r).length:=by rw[hbd]
   simp only[List.length_drop,Gw,Ah] at hl;rw[zh (by omega)];rfl
 |succ m ih=>
  intro f i h hf;obtain⟨f,rfl⟩:∃q,f=q+1:=⟨f-1,by omega⟩;have hi1:IntKind.wrap .i64 ((i:Int)+1)=((i+1:Nat):Int):=by rw[zg (by omega) (by omega)];omega
  by_cases h1:i<a.2.1.size
  ·have hda:a.2.1.toList.drop i=a.2.1.toList[i]'(by rw[Gw];omega)::a.2.1.toList.drop (i+1):=List.drop_eq_getElem_cons (by rw[Gw];omega)
   by_cases h2:i<b.2.1.size
   ·have hdb:b.2.1.toList.drop i=b.2.1.toList[i]'(by rw[Gw];omega)::b.2.1.toList.drop (i+1):=List.drop_eq_getElem_cons (by rw[Gw];omega)
    have ga:nC a.2.1 (i:Int)=some ((a.2.1.toList[i]'(by rw[Gw];omega)).toNat:Int):=by rw[RA,AA (by rw[Gw];omega)];rfl
    have gb:nC b.2.1 (i:Int)=some ((b.2.1.toList[i]'(by rw[Gw];omega)).toNat:Int):=by rw[RA,AA (by rw[Gw];omega)];rfl
    simp only[Fg.l8,zh (show(i:Int)<(a.2.1.size:Int) by omega),zh (show(i:Int)<(b.2.1.size:Int) by omega),yX,yY,ga,gb,hi1];rw[hda,hdb];generalize a.2.1.toList[i]'(by rw[Gw];omega)=x at*;generalize b.2.1.toList[i]'(by rw[Gw];omega)=y at*;simp only[Op.bytesLess];by_cases hxy:x=y
    ·subst hxy
     rw[zK rfl,yZ,ih f (i+1) (by omega) (by omega)];have:¬(x<x):=by simp
     simp[this]
    ·have hne:((x.toNat:Int))≠(y.toNat:Int):=fun h=>hxy (UInt8.toNat_inj.1 (by omega))
     rw[zO hne,yX];have:(x==y)=false:=by simpa using hxy
     rw[this,Cg,Bool.or_false]
     congr 1
     by_cases hlt:x<y
     ·have:=UInt8.lt_iff_toNat_lt.1 hlt
      rw[zh (by omega),zh hlt]
     ·have:¬x.toNat<y.toNat:=fun h=>hlt (UInt8.lt_iff_toNat_lt.2 h)
      rw[zk (by omega),zk hlt]
   ·have hd:b.2.1.toList.drop i=[]:=List.drop_of_length_le (by rw[Gw];omega)
    simp only[Fg.l8,zh (show(i:Int)<(a.2.1.size:Int) by omega),zk (show ¬((i:Int)<(b.2.1.size:Int)) by omega),yX,yZ,yY];rw[hda,hd,zk (by omega)];rfl
  ·omega
def Q6(t:Int)(a b:za):Bool:=
 if Co t a=true∧Co t b=true then
  if t=5 then decide ((if a.1<0 then bits .xor .i64 a.1 9223372036854775807 else a.1)<(if b.1<0 then bits .xor .i64 b.1 9223372036854775807 else b.1))
  else if t=6 then Op.bytesLess a.2.1.toList b.2.1.toList
  else decide (a.1<b.1)
 else false
theorem Uw{v:za}(h:Co 6 v=true):v.2.1.size≤40:=by
 unfold Co at h;rw[if_neg (by decide),if_neg (by decide),if_neg (by decide),if_pos rfl] at h;simp only[Aa,Al] at h;omega
theorem Uu(k:Nat)(hk:2000000≤k)(t:Int)(a b:za):Fg k t a b=some (Q6 t a b)∧J_ k t a b=some (Q6 t a b):=by
 unfold Fg J_ Q6;simp only[K6,NM,yY];cases ha:Co t a with
 |false=>simp
 |true=>
  cases hb:Co t b with
  |false=>simp
  |true=>
   simp only[zq,yZ,yY,and_self,if_true];by_cases h5:t=5
   ·rw[Ac h5,yX,yX,if_pos h5]
    unfold Fg.d5 J_.d5 Pt OQ;constructor<;>
    ·by_cases h1:a.1<0<;>by_cases h2:b.1<0<;>simp[h1,h2]
   ·rw[zw h5,yZ,yZ,if_neg h5]
    by_cases h6:t=6
    ·subst h6
     have s1:=Uw ha;have s2:=Uw hb;have:=alG k a b (by omega) (by omega) a.2.1.size k 0 (by omega) (by omega);have this:Fg.l8 k k 0 a b=_:=this;rw[Ac rfl,yX,yX,if_pos rfl,this];exact⟨rfl,rfl⟩
    ·rw[zw h6,yZ,yZ,if_neg h6]
     exact⟨rfl,rfl⟩
def FH(lf:zI):Bool:=Cc lf.1&&(decide (0≤lf.2.1)&&decide (lf.2.1≤lf.2.2.1)&&decide (lf.2.2.1≤6))
theorem Me(k:Nat)(lf:zI):LK k lf=some (FH lf)∧NB k lf=some (FH lf):=by
 unfold LK NB FH;simp only[NK,LZ,Bp,Bh,yY,Au,Ao];cases Cc lf.1 with
 |false=>exact⟨rfl,rfl⟩
 |true=>
  simp only[Bj];constructor<;>(rw[Bool.eq_iff_iff];simp only[Aa,Al];omega)
abbrev zS:DJ:=(0,false,(0,zn,()),(0,zn,()),())
theorem value_eq(k:Nat)(hk:3000≤k)(t:Int)(s:ByteArray)(hs:s.size<1000000):
 ∃v v' b,KU k t s=some (v,b)∧FM k t s=some (v',b)∧(b=true→v'=v∧Co t v=true∧Ae v.1):=by
 unfold KU FM;by_cases h6:t=6
 ·subst h6
  simp only[show((6:Int)==6)=true from rfl,show((6:Int) !=6)=false from rfl,yX,yZ,NM,K6,yY,FM.c7,FM.d7,Py];refine⟨_,(0,s,()),_,rfl,?_,?_⟩
  ·cases Co 6 (0,s,()) with
   |false=>rfl
   |true=>
    simp only[yX,Dv,decide_true]
  ·intro h
   exact⟨rfl,h,by show _≤(0:Int);decide,by show(0:Int)<_;decide⟩
 ·obtain⟨nx,ok,l,e1,e2,r⟩:=QH k hk t (eZ s) (by rw[uo];omega) (al7 s) 0 1 ⟨by decide,by decide⟩
  simp only[zw h6,zO h6,yX,yZ,e1,e2,yY,cst];cases ok with
  |false=>
   simp only[zD,yX,Ag,yY];exact⟨_,_,_,rfl,rfl,fun h=>by cases h⟩
  |true=>
   have hlen:=r.len rfl;have hl1:l.length=1:=by rw[hlen];rfl
   obtain⟨v,rfl⟩:∃v,l=[v]:=by
    match l,hl1 with
    |[v],_=>exact⟨v,rfl⟩
   obtain⟨hv,hI⟩:=r.vk rfl v (by simp);have hnl:=r.nl rfl;have hty:=r.ty rfl;have hvs:FT t [v]=true:=NN.2 ⟨fun x hx=>by rw[List.mem_singleton.1 hx];exact hv,by simp,hty⟩;obtain⟨p1,p2⟩:=akV k hk t [v] (by simp) (by simp;omega);rw[hvs,if_pos rfl] at p1 p2;have hg:gU [v] 0=some v:=rfl;simp only[zq,yZ,Aq,hg,yY,Qv,FM.c7,FM.d7,Py,zw h6,p1,p2,K6,hv,yX,Dv];by_cases hq:wY (KZ t [v])=s
   ·have hz:nx=(s.size:Int):=by rw[←hq,Kb];omega
    rw[zh hq,zK hz];exact⟨_,_,_,rfl,rfl,fun _=>⟨rfl,hv,hI⟩⟩
   ·rw[zk hq]
    cases(nx !=(s.size:Int)) with
    |false=>exact⟨_,_,_,rfl,rfl,fun h=>by cases h⟩
    |true=>exact⟨_,_,_,rfl,rfl,fun h=>by cases h⟩
section
variable(k:Nat)(hk:2000000≤k)
include hk
theorem al4(lf:zI)(st:DJ):∃b,Ng k lf st=some b∧NF k lf st=some b:=by
 unfold Ng NF;obtain⟨g1,g2⟩:=Me k lf;simp only[g1,g2,yY,Bp,Bh,cst,Au,NM,K6,(Uu k hk _ _ _).1,(Uu k hk _ _ _).2,VH];exact⟨_,rfl,rfl⟩
variable{l:List zf}{af:List Int}(h:D7 l af)
include h
theorem al5(lf:zI)(hlf:FH lf=true)(a:Nat)(ha:a<l.length):
 ∃S,F6 k lf (a:Int) (true,tB l) af=some (S,tB l,af)∧I5 k lf l (a:Int)=some S∧(S.2=false→S.1=zS):=by
 have hk2:2000≤k:=by omega
 obtain⟨f5,f5',_⟩:=GD k hk2 h a ha 5;obtain⟨f6,f6',_⟩:=GD k hk2 h a ha 6;obtain⟨n3,n3',_⟩:=IP k hk2 h a ha 3;obtain⟨hi,hb,hn,t5,t5',hs5,z5⟩:=text_eq k hk2 h a ha 5;obtain⟨lo,lb,ln,t6,t6',hs6,z6⟩:=text_eq k hk2 h a ha 6;have p5:hb=true→0≤fV k l a 5:=by
  intro hh;subst hh;unfold Kr at t5;simp only[f5,yY] at t5;by_cases hneg:fV k l a 5<0
  ·rw[zh hneg] at t5
   simp at t5
  ·omega
 have p6:lb=true→0≤fV k l a 6:=by
  intro hh;subst hh;unfold Kr at t6;simp only[f6,yY] at t6;by_cases hneg:fV k l a 6<0
  ·rw[zh hneg] at t6
   simp at t6
  ·omega
 obtain⟨vh,vh',bh,v5,v5',w5⟩:=value_eq k (by omega) lf.1 hi (by omega);obtain⟨vl,vl',bl,v6,v6',w6⟩:=value_eq k (by omega) lf.1 lo (by omega);unfold F6 I5;simp only[n3,n3',t5,t6,t5',t6',f5,f6,f5',f6',yY,(Me k lf).1,hlf,cst,Au,zq,hs5,hs6,v5,v5',v6,v6',F6.c13,F6.d12,I5.c15];cases hnb:(nV k l (a:Int) 3).2 with
 |false=>
  simp only[zD,Ag,yX];exact⟨_,rfl,rfl,fun _=>rfl⟩
 |true=>
  simp only[zq,Aq,Bool.or_false,yZ];have fin:∀st:DJ,∃S,((Ng k lf st).bind fun r1=>cond (!r1) (some ((zS,false),tB l,af)) (some ((st,true),tB l,af)))=some (S,tB l,af)∧((NF k lf st).bind fun r1=>cond (!r1) (some (zS,false)) (some (st,true)))=some S∧(S.2=false→S.1=zS):=by
   intro st;obtain⟨b,s1,s2⟩:=al4 k hk lf st;rw[s1,s2];cases b with
   |false=>exact⟨_,rfl,rfl,fun _=>rfl⟩
   |true=>exact⟨_,rfl,rfl,fun h=>by cases h⟩
  by_cases hany:0≤fV k l a 5∨0≤fV k l a 6
  ·have key:∀X Y:Option ((DJ×Bool)×zF×List Int),(cond (decide (fV k l a 5≥0)) X (cond (decide (fV k l a 6≥0)) X Y))=X:=by
    intro X Y;by_cases q5:0≤fV k l a 5
    ·rw[zh q5];rfl
    ·have q6:0≤fV k l a 6:=by omega
     rw[zk q5,zh q6];rfl
   rw[show ∀X:Option ((DJ×Bool)×zF×List Int),∀Y,cond true X Y=X from fun _ _=>rfl];rw[key];have ajf:(decide (fV k l a 5≥0)||decide (fV k l a 6≥0))=true:=by simpa using hany
   cases hb with
   |false=>
    cases lb with
    |false=>simp only[ajf,zD,Ag,yX,Bool.and_true,beq_self_eq_true,zq,Bool.or_true];exact⟨_,rfl,rfl,fun _=>rfl⟩
    |true=>simp only[zD,Ag,yX,show(false==true)=false from rfl];exact⟨_,rfl,rfl,fun _=>rfl⟩
   |true=>
    cases lb with
    |false=>simp only[zD,Ag,yX,show(true==false)=false from rfl,Bool.or_true];exact⟨_,rfl,rfl,fun _=>rfl⟩
    |true=>
     cases bh with
     |false=>simp only[zD,zq,Ag,Bool.or_true,yX,yZ,beq_self_eq_true,Bt,Cg];exact⟨_,rfl,rfl,fun _=>rfl⟩
     |true=>
      cases bl with
      |false=>simp only[zD,zq,Ag,Bool.or_true,yX,yZ,beq_self_eq_true,Bt,Cg];exact⟨_,rfl,rfl,fun _=>rfl⟩
      |true=>
       obtain⟨rfl,_⟩:=w5 rfl;obtain⟨rfl,_⟩:=w6 rfl;simp only[zq,Bt,yX,yZ,beq_self_eq_true,Cg];exact fin _
  ·have h5:¬0≤fV k l a 5:=fun h=>hany (.inl h)
   have h6:¬0≤fV k l a 6:=fun h=>hany (.inr h);have b5:hb=false:=by cases hb with|false=>rfl|true=>exact(h5 (p5 rfl)).elim
   have b6:lb=false:=by cases lb with|false=>rfl|true=>exact(h6 (p6 rfl)).elim
   subst b5;subst b6;simp only[zk (show ¬fV k l a 5≥0 from h5),zk (show ¬fV k l a 6≥0 from h6),yZ,beq_self_eq_true,zq,Bt,Bool.and_false];exact fin _
end
theorem ak7{S:Nat→Nat→zZ (List zf)}(ih:∀p c q Y,S p c= .ok q Y→p≤q):∀(j p c q:Nat) (Y:List zf),CP S j p c= .ok q Y→p≤q:=by
 intro j
 induction j with
 |zero=>
  intro p c q Y h;simp only[CP,zZ.ok.injEq] at h;omega
 |succ j ihj=>
  intro p c q Y h;simp only[CP] at h;split at h
  ·cases h
  ·rename_i h1
   split at h
   ·cases h
   ·rename_i h2
    simp only[zZ.ok.injEq] at h;have:=ih _ _ _ _ h1;have:=ihj _ _ _ _ h2;omega
theorem TS{S:Int→Int→Nat→Nat→zZ (List zf)}{b:List Int}(ih:∀t id p c q Y,S t id p c= .ok q Y→p≤q):∀(f:Nat) (last:Int) (p c q:Nat) (Y:Nat×List zf),EC S b f last p c= .ok q Y→p<q:=by
 intro f
 induction f with
 |zero=>intro last p c q Y h;cases h
 |succ f GH=>
  intro last p c q Y h;simp only[EC] at h;split at h
  ·cases h
  ·rename_i h1
   have:=(Nt h1).1;split at h
   ·simp only[zZ.ok.injEq] at h
    omega
   ·split at h
    ·cases h
    ·rename_i h2
     split at h
     ·cases h
     ·rename_i h3
      simp only[zZ.ok.injEq] at h;have:=ih _ _ _ _ _ _ h2;have:=GH _ _ _ _ _ h3;omega
theorem ak3:∀(d:Nat) (b:List Int) (kind id:Int) (p c q:Nat) (Y:List zf),Dg d b kind id p c= .ok q Y→p≤q:=by
 intro d
 induction d with
 |zero=>intro b kind id p c q Y h;cases h
 |succ d ih=>
  intro b kind id p c q Y h;simp only[Dg] at h;split at h
  ·cases h
  ·split at h
   ·split at h
    ·cases h
    ·split at h
     ·cases h
     ·simp only[zZ.ok.injEq] at h
      omega
   ·split at h
    ·split at h
     ·cases h
     ·rename_i hs
      simp only[zZ.ok.injEq] at h;have:=(QI hs).1;omega
    ·split at h
     ·split at h
      ·cases h
      ·rename_i hm
       have:=(Nu hm).1;split at h
       ·cases h
       ·rename_i hp
        simp only[zZ.ok.injEq] at h;have:=ak7 (fun p c q Y h=>ih b _ 0 p c q Y h) _ _ _ _ _ hp;omega
     ·split at h
      ·split at h
       ·cases h
       ·rename_i hf
        simp only[zZ.ok.injEq] at h;have:=TS (fun t id p c q Y h=>ih b t id p c q Y h) _ _ _ _ _ _ hf;omega
      ·simp only[zZ.ok.injEq] at h
       omega
def MI(d:Nat)(Y:List zf)(m:Nat):Prop:=∀rest,(cost d (Y++rest)).2=rest∧(cost d (Y++rest)).1≤m
def MJ(d:Nat)(st:Bool)(c:Nat)(last:Int)(Y:List zf)(m:Nat):Prop:=∀rest,(JA (cost d) st c last (Y++rest)).2=rest∧(JA (cost d) st c last (Y++rest)).1≤m
theorem Rc{d:Nat}{st:Bool}{c:Nat}{last:Int}{x:zf}{X Z:List zf}{m1 m2 m:Nat}(h1:MI d (x::X) m1)(h2:MJ d st c x.2.1 Z m2)(hm:(if st then(M7 x last).length else 0)+m1+m2≤m):MJ d st (c+1) last ((x::X)++Z) m:=by
 intro rest;obtain⟨a1,a2⟩:=h1 (Z++rest);obtain⟨b1,b2⟩:=h2 rest;rw[Bu,List.cons_append];rw[List.cons_append] at a1 a2;simp only[JA,a1];exact⟨b1,by omega⟩
theorem ak0{b:List Int}(hb:BR b){p:Nat}{last:Int}{q:Nat}{t id:Int}(hl:0≤last)(h:JK b p last= .ok q (t,id)):q≤b.length∧(t≠0→∀x:zf,x.2.1=id→p+(M7 x last).length≤q):=by
 unfold JK at h;split at h
 ·cases h
 ·rename_i y hy
  have hp:p<b.length:=(List.getElem?_eq_some_iff.1 hy).1;obtain⟨y0,y1⟩:=hb y (List.mem_of_getElem? hy);split at h
  ·simp only[zZ.ok.injEq,Prod.mk.injEq] at h
   exact⟨by omega,fun hh=>by omega⟩
  ·split at h
   ·cases h
   ·split at h
    ·cases h
    ·rename_i id' q' hm
     split at h
     ·cases h
     ·split at h
      ·cases h
      ·simp only[zZ.ok.injEq,Prod.mk.injEq] at h
       obtain⟨rfl,rfl,rfl⟩:=h;split at hm
       ·cases hg:gv (b.drop (p+1)) with
        |none=>rw[hg] at hm;cases hm
        |some z=>
         rw[hg] at hm;obtain⟨u,n⟩:=z;simp only[Option.map_some,Ao,Prod.mk.injEq] at hm;obtain⟨rfl,rfl⟩:=hm;obtain⟨f1,f2,f3,f4,f5⟩:=E8 _ u n (fun x hx=>hb x (List.mem_of_mem_drop hx)) hg;rw[List.length_drop] at f3;refine⟨by omega,fun _ x hx=> ?_⟩;unfold M7;split
         ·simp<;>omega
         ·rw[hx,Rb f1,Ah];omega
       ·simp only[Ao,Prod.mk.injEq] at hm
        obtain⟨rfl,rfl⟩:=hm;refine⟨by omega,fun _ x hx=> ?_⟩;unfold M7;rw[if_pos (by omega)];simp
theorem ak1{b:List Int}(hb:BR b){p q:Nat}{many item:Int}(h:JL b p= .ok q (many,item)):q≤b.length∧p+(if many≤14 then 1 else 1+(uv many).length)≤q:=by
 unfold JL at h;split at h
 ·cases h
 ·rename_i y hy
  have hp:p<b.length:=(List.getElem?_eq_some_iff.1 hy).1;obtain⟨y0,y1⟩:=hb y (List.mem_of_getElem? hy);split at h
  ·cases h
  ·rename_i m q' hm
   have hq:q'≤b.length∧p+(if m≤14 then 1 else 1+(uv m).length)≤q':=by
    split at hm
    ·cases hg:gv (b.drop (p+1)) with
     |none=>rw[hg] at hm;cases hm
     |some z=>
      rw[hg] at hm;obtain⟨u,n⟩:=z;simp only[Option.map_some,Ao,Prod.mk.injEq] at hm;obtain⟨rfl,rfl⟩:=hm;obtain⟨f1,f2,f3,f4,f5⟩:=E8 _ u n (fun x hx=>hb x (List.mem_of_mem_drop hx)) hg;rw[List.length_drop] at f3;refine⟨by omega,?_⟩;split<;>omega
    ·simp only[Ao,Prod.mk.injEq] at hm
     obtain⟨rfl,rfl⟩:=hm;refine⟨by omega,?_⟩;rw[if_pos (by omega)];omega
   split at h
   ·rename_i h0
    simp only[zZ.ok.injEq,Prod.mk.injEq] at h;obtain⟨rfl,rfl,rfl⟩:=h;rw[h0] at hq;exact hq
   ·split at h
    ·cases h
    ·split at h
     ·cases h
     ·simp only[zZ.ok.injEq,Prod.mk.injEq] at h
      obtain⟨rfl,rfl,rfl⟩:=h;exact hq
theorem ak9{b:List Int}(hb:BR b){p q:Nat}{s:ByteArray}(h:HZ b p= .ok q s):q≤b.length∧p+((uv (s.size:Int)).length+s.size)≤q:=by
 unfold HZ at h;split at h
 ·cases h
 ·rename_i u n hg
  obtain⟨f1,f2,f3,f4,f5⟩:=E8 _ u n (fun x hx=>hb x (List.mem_of_mem_drop hx)) hg;rw[List.length_drop] at f3;split at h
  ·cases h
  ·split at h
   ·cases h
   ·simp only[zZ.ok.injEq] at h
    obtain⟨rfl,rfl⟩:=h;have hs:(wY (List.take u.toNat (List.drop (p+n) b))).size=u.toNat:=by
     rw[Kb,List.length_take,List.length_drop];omega
    rw[hs,show((u.toNat:Nat):Int)=u by omega];omega
theorem ak5{d:Nat}{b:List Int}{S:Nat→Nat→zZ (List zf)}(ih:∀p c q Y,p≤b.length→c≤1500→S p c= .ok q Y→p≤q∧q≤b.length∧Y≠[]∧c+Y.length≤1500∧MI d Y (q-p)):∀(m p c:Nat) (last:Int) (q:Nat) (Y:List zf),p≤b.length→c≤1500→CP S m p c= .ok q Y→p≤q∧q≤b.length∧MJ d false m last Y (q-p):=by
 intro m
 induction m with
 |zero=>
  intro p c last q Y hp hc h;simp only[CP,zZ.ok.injEq] at h;obtain⟨rfl,rfl⟩:=h;exact⟨Nat.le_refl _,hp,fun rest=>⟨rfl,Nat.zero_le _⟩⟩
 |succ m FZ=>
  intro p c last q Y hp hc h;simp only[CP] at h;split at h
  ·cases h
  ·rename_i q1 Y1 h1
   split at h
   ·cases h
   ·rename_i q2 Z h2
    simp only[zZ.ok.injEq] at h;obtain⟨rfl,rfl⟩:=h;obtain⟨a1,a2,a3,a4,a5⟩:=ih _ _ _ _ hp hc h1;cases Y1 with
    |nil=>exact(a3 rfl).elim
    |cons x X=>
     obtain⟨b1,b2,b3⟩:=FZ _ _ x.2.1 _ _ a2 (by omega) h2;exact⟨by omega,b2,Rc a5 b3 (by simp;omega)⟩
theorem akX{d:Nat}{b:List Int}(hb:BR b){S:Int→Int→Nat→Nat→zZ (List zf)}(ih:∀t id p c q Y,isKind t=true→p≤b.length→c≤1500→S t id p c= .ok q Y→p≤q∧q≤b.length∧(∃x X,Y=x::X∧x.2.1=id)∧c+Y.length≤1500∧MI d Y (q-p)):∀(f:Nat) (last:Int) (p c q m:Nat) (Y:List zf),0≤last→p≤b.length→c≤1500→EC S b f last p c= .ok q (m,Y)→p<q∧q≤b.length∧MJ d true m last Y (q-p-1):=by
 intro f
 induction f with
 |zero=>intro last p c q m Y hl hp hc h;cases h
 |succ f GH=>
  intro last p c q m Y hl hp hc h;simp only[EC] at h;split at h
  ·cases h
  ·rename_i q1 t id h1
   obtain⟨a1,a2⟩:=Nt h1;obtain⟨l1,l2⟩:=ak0 hb hl h1;split at h
   ·simp only[zZ.ok.injEq,Prod.mk.injEq] at h
    obtain⟨rfl,rfl,rfl⟩:=h;exact⟨a1,l1,fun rest=>⟨rfl,Nat.zero_le _⟩⟩
   ·rename_i ht
    rcases a2 with a2|⟨a2,_,a3,a4,a5⟩
    ·exact(ht a2).elim
    ·split at h
     ·cases h
     ·rename_i q2 Y1 h2
      split at h
      ·cases h
      ·rename_i q3 m' Z h3
       simp only[zZ.ok.injEq,Prod.mk.injEq] at h;obtain⟨rfl,rfl,rfl⟩:=h;obtain⟨c1,c2,⟨x,X,rfl,hx⟩,c4,c5⟩:=ih _ _ _ _ _ _ a2 l1 hc h2;obtain⟨b1,b2,b3⟩:=GH _ _ _ _ _ _ (by omega) c2 (by omega) h3;rw[←hx] at b3;have:=l2 ht x hx;exact⟨by omega,b2,Rc c5 b3 (by simp;omega)⟩
theorem ak2:∀(d:Nat) (b:List Int) (hb:BR b) (kind id:Int) (p c q:Nat) (Y:List zf),isKind kind=true→p≤b.length→c≤1500→Dg d b kind id p c= .ok q Y→q≤b.length∧MI d Y (q-p):=by
 intro d
 induction d with
 |zero=>intro b hb kind id p c q Y hk hp hc h;cases h
 |succ d ih=>
  intro b hb kind id p c q Y hk hp hc h;have S9:∀t id p c q Y,isKind t=true→p≤b.length→c≤1500→Dg d b t id p c= .ok q Y→p≤q∧q≤b.length∧(∃x X,Y=x::X∧x.2.1=id)∧c+Y.length≤1500∧MI d Y (q-p):=by
   intro t id p c q Y hk hp hc h;obtain⟨a1,x,X,rfl,x1,x2,x3,x4⟩:=Mi d b t id p c q Y hk hc h;obtain⟨b1,b2⟩:=ih b hb t id p c q _ hk hp hc h;exact⟨a1,b1,⟨x,X,rfl,x2⟩,x4,b2⟩
  simp only[Dg] at h;split at h
  ·cases h
  ·rename_i J8
   split at h
   ·rename_i GG
    split at h
    ·cases h
    ·rename_i u n hg
     obtain⟨f1,f2,f3,f4,f5⟩:=E8 _ u n (fun x hx=>hb x (List.mem_of_mem_drop hx)) hg;rw[List.length_drop] at f3;split at h
     ·cases h
     ·simp only[zZ.ok.injEq] at h
      obtain⟨rfl,rfl⟩:=h;refine⟨by omega,fun rest=> ?_⟩;simp only[List.cons_append,List.nil_append,cost,if_pos GG,Rb f1];exact⟨trivial,by omega⟩
   ·rename_i GG
    split at h
    ·rename_i h8
     split at h
     ·cases h
     ·rename_i q' s hs
      simp only[zZ.ok.injEq] at h;obtain⟨rfl,rfl⟩:=h;obtain⟨s1,s2⟩:=ak9 hb hs;refine⟨s1,fun rest=> ?_⟩;simp only[List.cons_append,List.nil_append,cost,if_neg (show ¬((8:Int)=5∨(8:Int)=6) by omega),if_true];exact⟨trivial,by omega⟩
    ·rename_i h8
     split at h
     ·rename_i h9
      split at h
      ·cases h
      ·rename_i q1 many item hm
       obtain⟨m0,m1⟩:=Nu hm;obtain⟨l0,l1⟩:=ak1 hb hm;split at h
       ·cases h
       ·rename_i q2 Y' hq
        simp only[zZ.ok.injEq] at h;obtain⟨rfl,rfl⟩:=h;have key:q1≤q2∧q2≤b.length∧MJ d false many.toNat 0 Y' (q2-q1):=by
         rcases m1 with⟨rfl,rfl⟩|⟨m1,m2,m3⟩
         ·simp only[Int.toNat_zero,CP,zZ.ok.injEq] at hq
          obtain⟨rfl,rfl⟩:=hq;exact⟨Nat.le_refl _,l0,fun rest=>⟨rfl,Nat.zero_le _⟩⟩
         ·refine ak5 (d:=d) (b:=b) (fun p c q Y hp hc h=> ?_) _ _ _ 0 _ _ l0 (by omega) hq
          obtain⟨c1,c2,⟨x,X,c3,_⟩,c4,c5⟩:=S9 _ _ _ _ _ _ (Kc m3) hp hc h;exact⟨c1,c2,by rw[c3];simp,c4,c5⟩
        obtain⟨k0,k1,k2⟩:=key;refine⟨k1,fun rest=> ?_⟩;obtain⟨e1,e2⟩:=k2 rest;simp only[List.cons_append,cost,if_neg (show ¬((9:Int)=5∨(9:Int)=6) by omega),if_neg (show ¬((9:Int)=8) by omega),if_true];exact⟨e1,by omega⟩
     ·rename_i h9
      split at h
      ·rename_i h12
       split at h
       ·cases h
       ·rename_i q1 m Y' hf
        simp only[zZ.ok.injEq] at h;obtain⟨rfl,rfl⟩:=h;obtain⟨k0,k1,k2⟩:=akX (d:=d) hb S9 _ _ _ _ _ _ _ (Int.le_refl 0) hp (by omega) hf;refine⟨k1,fun rest=> ?_⟩;obtain⟨e1,e2⟩:=k2 rest;simp only[List.cons_append,cost,if_neg (show ¬((12:Int)=5∨(12:Int)=6) by omega),if_neg (show ¬((12:Int)=8) by omega),if_neg (show ¬((12:Int)=9) by omega),if_true,Int.toNat_natCast];exact⟨e1,by omega⟩
      ·rename_i h12
       simp only[zZ.ok.injEq] at h;obtain⟨rfl,rfl⟩:=h;refine⟨hp,fun rest=> ?_⟩;simp only[List.cons_append,List.nil_append,cost,if_neg GG,if_neg h8,if_neg h9,if_neg h12];exact⟨trivial,by omega⟩
end Go.Af
end
section
namespace Go.Af
open Go.Am Go.Fn
theorem Qx{x:Int}(h0: -1000000000000≤x)(h1:x≤1000000000000):Ae x:=⟨by omega,by omega⟩
theorem MB{k id num m:Int}{t:ByteArray}(h1:Ae k)(h2:Ae id)(h3:Ae num)(h4:Ae m)(h5:t.size≤1073741824):FX (k,id,num,t,m,()):=⟨h1,h2,h3,h4,h5⟩
theorem i8:Ae 8:=⟨by decide,by decide⟩
theorem i9:Ae 9:=⟨by decide,by decide⟩
theorem i12:Ae 12:=⟨by decide,by decide⟩
theorem ak8{S:Nat→Nat→zZ (List zf)}(ih:∀p c q Y,S p c= .ok q Y→∀n,n∈Y→FX n):∀(m p c q:Nat) (Y:List zf),CP S m p c= .ok q Y→∀n,n∈Y→FX n:=by
 intro m
 induction m with
 |zero=>
  intro p c q Y h n hn;simp only[CP,zZ.ok.injEq] at h;obtain⟨_,rfl⟩:=h;cases hn
 |succ m FZ=>
  intro p c q Y h n hn;simp only[CP] at h;split at h
  ·cases h
  ·rename_i h1
   split at h
   ·cases h
   ·rename_i h2
    simp only[zZ.ok.injEq] at h;obtain⟨_,rfl⟩:=h;rcases List.mem_append.1 hn with hn|hn
    ·exact ih _ _ _ _ h1 n hn
    ·exact FZ _ _ _ _ h2 n hn
theorem akZ{S:Int→Int→Nat→Nat→zZ (List zf)}{b:List Int}(ih:∀t id p c q Y,isKind t=true→0≤id→id≤1000→S t id p c= .ok q Y→∀n,n∈Y→FX n):∀(f:Nat) (last:Int) (p c q m:Nat) (Y:List zf),EC S b f last p c= .ok q (m,Y)→m≤f∧∀n,n∈Y→FX n:=by
 intro f
 induction f with
 |zero=>intro last p c q m Y h;cases h
 |succ f GH=>
  intro last p c q m Y h;simp only[EC] at h;split at h
  ·cases h
  ·rename_i q1 t id h1
   obtain⟨a1,a2⟩:=Nt h1;split at h
   ·simp only[zZ.ok.injEq,Prod.mk.injEq] at h
    obtain⟨_,rfl,rfl⟩:=h;exact⟨by omega,fun n hn=>by cases hn⟩
   ·rename_i ht
    rcases a2 with a2|⟨a2,_,a3,a4,a5⟩
    ·exact(ht a2).elim
    ·split at h
     ·cases h
     ·rename_i h2
      split at h
      ·cases h
      ·rename_i h3
       simp only[zZ.ok.injEq,Prod.mk.injEq] at h;obtain⟨_,rfl,rfl⟩:=h;obtain⟨g1,g2⟩:=GH _ _ _ _ _ _ h3;refine⟨by omega,fun n hn=> ?_⟩;rcases List.mem_append.1 hn with hn|hn
       ·exact ih _ _ _ _ _ _ a2 (by omega) a5 h2 n hn
       ·exact g2 n hn
theorem ak4:∀(d:Nat) (b:List Int) (kind id:Int) (p c q:Nat) (Y:List zf),isKind kind=true→0≤id→id≤1000→Dg d b kind id p c= .ok q Y→∀n,n∈Y→FX n:=by
 intro d
 induction d with
 |zero=>intro b kind id p c q Y _ _ _ h;cases h
 |succ d ih=>
  intro b kind id p c q Y hk h0 h1 h;have hkb:Ae kind:=by rcases Nj hk with e|e|e|e|e|e|e<;>subst e<;>exact⟨by decide,by decide⟩
  have hid:Ae id:=Qx (by omega) (by omega);have hz:Ae 0:=⟨by decide,by decide⟩;have he:zn.size≤1073741824:=by decide
  have mk:∀(x:zf) (Y:List zf),FX x→(∀n,n∈Y→FX n)→∀n,n∈x::Y→FX n:=fun x Y hx hY n hn=>by
   rcases List.mem_cons.1 hn with rfl|hn
   ·exact hx
   ·exact hY n hn
  have nil:∀n:zf,n∈([]:List zf)→FX n:=fun n hn=>by cases hn
  simp only[Dg] at h;split at h
  ·cases h
  ·split at h
   ·split at h
    ·cases h
    ·split at h
     ·cases h
     ·simp only[zZ.ok.injEq] at h
      obtain⟨_,rfl⟩:=h;exact mk _ _ (MB hkb hid (PU _) hz he) nil
   ·split at h
    ·split at h
     ·cases h
     ·rename_i s hs
      obtain⟨_,s2⟩:=QI hs;simp only[zZ.ok.injEq] at h;obtain⟨_,rfl⟩:=h;exact mk _ _ (MB i8 hid hz hz (by omega)) nil
    ·split at h
     ·split at h
      ·cases h
      ·rename_i many item hm
       obtain⟨_,m1⟩:=Nu hm;split at h
       ·cases h
       ·rename_i hp
        simp only[zZ.ok.injEq] at h;obtain⟨_,rfl⟩:=h;rcases m1 with⟨rfl,rfl⟩|⟨m1,m2,m3⟩
        ·simp only[Int.toNat_zero,CP,zZ.ok.injEq] at hp
         obtain⟨_,rfl⟩:=hp;exact mk _ _ (MB i9 hid hz hz he) nil
        ·refine mk _ _ (MB i9 hid ?_ (Qx (by omega) (by omega)) he) (ak8 (fun p c q Y h=>ih b item 0 p c q Y (Kc m3) (by omega) (by omega) h) _ _ _ _ _ hp)
         rcases Nj (Kc m3) with e|e|e|e|e|e|e<;>subst e<;>exact⟨by decide,by decide⟩
     ·split at h
      ·split at h
       ·cases h
       ·rename_i hf
        simp only[zZ.ok.injEq] at h;obtain⟨_,rfl⟩:=h;obtain⟨g1,g2⟩:=akZ (fun t id p c q Y hk h0 h1 h=>ih b t id p c q Y hk h0 h1 h) _ _ _ _ _ _ _ hf;exact mk _ _ (MB i12 hid hz (Qx (by omega) (by omega)) he) g2
      ·simp only[zZ.ok.injEq] at h
       obtain⟨_,rfl⟩:=h;exact mk _ _ (MB hkb hid hz hz he) nil
def Mo(b:List Int)(at_:Int):zZ (List zf):=if 0≤at_∧at_<b.length then Dg 12 b 12 0 at_.toNat 0 else .bad 1
structure Rj(b:List Int)(at_:Int)(q:Nat)(Y:List zf):Prop where
 Ub:0≤at_∧at_<q∧q≤b.length
 enc:Enc 12 Y
 root:∃X,∃n:zf,Y=n::X∧n.1=12∧n.2.1=0
 len:Y.length≤1500
 wf:∀n,n∈Y→FX n
theorem Us{b:List Int}(hl:b.length<4611686018427387904)(hb:BR b){at_:Int}{q:Nat}{Y:List zf}(h:Mo b at_= .ok q Y):Rj b at_ q Y:=by
 unfold Mo at h;split at h
 ·rename_i hr
  obtain⟨a1,n,X,e1,e2,e3,e4,e5⟩:=Mi 12 b 12 0 _ 0 q Y (by decide) (by omega) h;have hlt:at_.toNat<q:=by
   simp only[Dg] at h;simp only[if_neg (show ¬(0:Nat)=1500 by omega),if_neg (show ¬((12:Int)=5∨(12:Int)=6) by omega),if_neg (show ¬((12:Int)=8) by omega),if_neg (show ¬((12:Int)=9) by omega),if_true] at h;split at h
   ·cases h
   ·rename_i hf
    simp only[zZ.ok.injEq] at h;obtain⟨rfl,rfl⟩:=h;exact TS (fun t id p c q Y h=>ak3 11 b t id p c q Y h) _ _ _ _ _ _ hf
  have hq:=(ak2 12 b hb 12 0 _ 0 q Y (by decide) (by omega) (by omega) h).1;exact⟨⟨hr.1,by omega,hq⟩,e4,⟨X,n,e1,e2,e3⟩,by omega,ak4 12 b 12 0 _ 0 q Y (by decide) (by omega) (by omega) h⟩
 ·cases h
variable(k:Nat)
theorem Ut(hk:2000≤k)(b:List Int)(hl:b.length<4611686018427387904)(hb:BR b)(at_:Int):
 match Mo b at_ with
 | .bad e=>e≠0∧Mk k b at_=some (((),0,e),[])∧LP k b at_=some (((),0,e),[])
 | .ok q Y=>Mk k b at_=some (((),(q:Int),0),Y)∧LP k b at_=some (((),(q:Int),0),Y):=by
 unfold Mo Mk LP;simp only[cst,Bp];by_cases hr:0≤at_∧at_<b.length
 ·rw[if_pos hr]
  have c1:(decide ((0:Int)≤at_)&&decide (at_≤IntKind.wrap .i64 ((b.length:Int)-1)))=true:=by
   rw[zg (by omega) (by omega)];simp;omega
  rw[zk (show ¬at_<0 by omega),zk (show ¬at_≥(b.length:Int) by omega),c1];simp only[Bt,yY,yZ,zq];obtain⟨p,rfl⟩:=Int.eq_ofNat_of_zero_le hr.1;rw[Int.toNat_natCast];have hs:=alZ k hk b hl hb 12 k 1 12 0 p [] (by omega) (by omega) (by decide) (by omega) (by simp);have hi:=ajQ k hk b hl hb 12 k 1 12 0 p [] (by omega) (by omega) (by decide) (by omega) (by simp);have es:∀x,AJ k b (p:Int) 12 0 1 []=x↔AJ.rec k k b (p:Int) 12 0 ((1:Nat):Int) []=x:=fun x=>Iff.rfl;have ei:∀x,Aj k 12 0 1 (b,(p:Int),(),0,()) []=x↔(Aj.rec k k).1 12 0 ((1:Nat):Int) (AU b p 0) []=x:=fun x=>Iff.rfl;rw[List.length_nil] at hs hi;unfold KH at hs;unfold KC at hi;cases h:Dg 12 b 12 0 p 0 with
  |bad e=>
   rw[h] at hs hi;obtain⟨he,q,l,e1⟩:=hs;obtain⟨_,q',l',_,e2⟩:=hi;rw[(es _).2 e1,(ei _).2 e2];simp only[yY,zO he,yX];exact⟨he,trivial,trivial⟩
  |ok q Y=>
   rw[h] at hs hi;obtain⟨_,e1⟩:=hs;obtain⟨_,e2⟩:=hi;rw[(es _).2 e1,(ei _).2 e2];simp only[yY,zK rfl,yZ,List.nil_append];exact⟨trivial,trivial⟩
 ·rw[if_neg hr]
  have c1:(decide ((0:Int)≤at_)&&decide (at_≤IntKind.wrap .i64 ((b.length:Int)-1)))=false:=by
   rw[zg (by omega) (by omega),Bool.eq_false_iff];intro q;simp only[Aa,Al] at q;omega
  have c2:(decide (at_<0)||decide (at_≥(b.length:Int)))=true:=by
   simp only[Bool.or_eq_true,Al];omega
  rw[c1,c2];simp only[yY,yX,zD];exact⟨by decide,trivial,trivial⟩
theorem ald(hk:2000≤k){b:List Int}{at_:Int}{q:Nat}{Y:List zf}(h:Rj b at_ q Y):K4 k Y=some true:=by
 obtain⟨X,n,rfl,h1,h2⟩:=h.root;exact amg k hk n X h.enc h.len h1 h2
end Go.Af
end
section
namespace Go.Af
open Go.Am Go.Fn
abbrev hdr(a:Int)(bad:Bool):Du:=((),a,bad,())
abbrev zN:zf:=(0,0,0,zn,0,())
abbrev zH:zP:=(0,0,0,0,0,0,0,0,false,0,false,zS,0,())
section
variable(k:Nat)(hk:2000000≤k){l:List zf}{af:List Int}(h:D7 l af)
include hk h
theorem hany(a:Nat)(ha:a<l.length)(id:Int)(b:Bool):FB k id (hdr a b) (true,tB l) af=some ((nV k l a id).1,(hdr a (b|| !(nV k l a id).2),tB l,af)):=by
 obtain⟨_,g,_⟩:=IP k (by omega) h a ha id;unfold FB FB.c4;simp only[g,yY];cases(nV k l a id).2<;>cases b<;>rfl
theorem LF(a:Nat)(ha:a<l.length)(id:Int)(b:Bool):F4 k id 0 (hdr a b) (tB l) af=some ((nV k l a id).1,(hdr a (b||(!(nV k l a id).2||decide ((nV k l a id).1<0))),tB l,af)):=by
 obtain⟨_,g,_⟩:=IP k (by omega) h a ha id;unfold F4 F4.c4;simp only[g,yY,cst];cases(nV k l a id).2<;>cases decide ((nV k l a id).1<0)<;>cases b<;>rfl
def O4(l:List zf)(q:Int):Int:=((gU l q).map (·.1)).getD 0
theorem Ni(q:Int)(h0:0≤q)(h1:q<l.length):∃n,gU l q=some n∧O4 l q=n.1∧Dw n=true:=by
 obtain⟨p,rfl⟩:=Int.eq_ofNat_of_zero_le h0;obtain⟨d,nx,hd,hs,hnx⟩:=h.at (i:=p) (by omega);obtain⟨n,n1,n2,n3⟩:=J2 hs;refine⟨n,n1,?_,n2⟩;unfold O4;rw[show gU l ((p:Nat):Int)=some n from n1];rfl
theorem aiZ(q:Nat)(hq:q<l.length)(hn:O4 l q≠12)(id:Int):fV k l q id= -1:=by
 obtain⟨n,n1,n2,n3⟩:=Ni k hk h (q:Int) (by omega) (by omega);have c1:(decide ((0:Int)≤(q:Int))&&decide ((q:Int)≤IntKind.wrap .i64 ((l.length:Int)-1)))=true:=by
  have:=h.len;rw[zg (by omega) (by omega)];simp;omega
 have:CF k l (q:Int) id=some (-1):=by
  unfold CF;simp only[Bh,c1,yY,zq,yZ,n1,cst,Au,zO (show ¬n.1=12 by omega),yX,Ag,Bool.or_true]
 unfold fV;rw[this];rfl
def H6(k:Nat)(l:List zf)(id:Int):Bool:=decide (0≤fV k l 0 id)&&(O4 l (fV k l 0 id)==12)
theorem Qa(id:Int)(b:Bool):∃q:Nat,q<l.length∧LU k id (hdr 0 b) (tB l) af=some ((),(hdr q (b|| !H6 k l id),tB l,af))∧Pz k l id=some (if H6 k l id then(q:Int) else -1):=by
 have hpos:=h.pos;obtain⟨f1,f2,f3⟩:=GD k (by omega) h 0 (by omega) id;rw[show((0:Nat):Int)=0 from rfl] at f1 f2 f3;unfold LU Pz H6;simp only[f1,f2,yY];rcases f3 with f3|⟨q,f3,q1,q2⟩
 ·rw[f3]
  refine⟨0,hpos,?_,rfl⟩;cases b<;>rfl
 ·rw[f3]
  obtain⟨n,n1,n2,n3⟩:=Ni k hk h (q:Int) (by omega) (by omega);simp only[zk (show ¬(q:Int)<0 by omega),yZ,n1,yY,n2,zh (show(0:Int)≤(q:Int) by omega),Bj];by_cases h12:n.1=12
  ·refine⟨q,q2,?_,?_⟩
   ·rw[zK h12,Ac h12,yZ];cases b<;>rfl
   ·rw[zK h12,Ac h12];rfl
  ·refine⟨0,hpos,?_,?_⟩
   ·rw[zO h12,zw h12,yX];cases b<;>rfl
   ·rw[zO h12,zw h12];rfl
theorem ajC(a:Nat)(ha:a<l.length)(ids:List Int)(hi:ids.length<1000):∀(post pre:List Int) (n:Nat) (o:List Int),ids=pre++post→post.length<n→o.length=pre.length→
 ∃out,FN.l3 k n l (a:Int) ids (pre.length:Int) o=some (((),post.all fun id=>(nV k l a id).2),out)∧((post.all fun id=>(nV k l a id).2)=true→out=o++post.map fun id=>(nV k l a id).1):=by
 intro post
 induction post with
 |nil=>
  intro pre n o hp hn ho;obtain⟨n,rfl⟩:∃x,n=x+1:=⟨n-1,by omega⟩;have:ids=pre:=by simpa using hp
  subst this;simp only[FN.l3,zk (show ¬(ids.length:Int)<(ids.length:Int) by omega),yZ];exact⟨o,rfl,fun _=>by simp⟩
 |cons id post ih=>
  intro pre n o hp hn ho;simp only[Ah] at hn;obtain⟨n,rfl⟩:∃x,n=x+1:=⟨n-1,by omega⟩;have hlen:ids.length=pre.length+(post.length+1):=by rw[hp];simp
  have hg:gU ids (pre.length:Int)=some id:=by rw[hp];exact AX pre post id
  obtain⟨g,_⟩:=IP k (by omega) h a ha id;simp only[FN.l3,zh (show(pre.length:Int)<(ids.length:Int) by omega),yX,hg,yY,g,List.all_cons];cases hb:(nV k l a id).2 with
  |false=>exact⟨o,rfl,fun h=>by cases h⟩
  |true=>
   obtain⟨out,i1,i2⟩:=ih (pre++[id]) n (o++[(nV k l a id).1]) (by rw[hp];simp) (by omega) (by simp[ho]);rw[zX,Ap] at i1;simp only[zq,yZ,Ak (show o.length+[(nV k l a id).1].length≤4294967296 by simp;omega),yX,zg (x:=(pre.length:Int)+1) (by omega) (by omega),Bj];exact⟨out,i1,fun hh=>by rw[i2 hh];simp⟩
theorem ids_eq(a:Nat)(ha:a<l.length)(ids:List Int)(hi:ids.length<1000):
 ∃out,FN k l (a:Int) ids=some (((),ids.all fun id=>(nV k l a id).2),out)∧((ids.all fun id=>(nV k l a id).2)=true→out=ids.map fun id=>(nV k l a id).1):=by
 obtain⟨out,i1,i2⟩:=ajC k hk h a ha ids hi ids [] k [] rfl (by omega) rfl;exact⟨out,i1,fun hh=>by rw[i2 hh];simp⟩
abbrev setSt(x:zP)(S:DJ×Bool):zP:=(x.1,x.2.1,x.2.2.1,x.2.2.2.1,x.2.2.2.2.1,x.2.2.2.2.2.1,x.2.2.2.2.2.2.1,x.2.2.2.2.2.2.2.1,x.2.2.2.2.2.2.2.2.1,x.2.2.2.2.2.2.2.2.2.1,S.2,S.1,x.2.2.2.2.2.2.2.2.2.2.2.2.1,())
def NH(k:Nat)(lf:zI)(l:List zf)(a id:Int):DJ×Bool:=
 if 0≤fV k l a id then(I5 k lf l (fV k l a id)).getD (zS,false) else(zS,false)
def N7(x:zP):Prop:=x.2.2.2.2.2.2.2.2.2.2.1=false∧x.2.2.2.2.2.2.2.2.2.2.2.1=zS
theorem Un(lf:zI)(hlf:FH lf=true)(a:Nat)(ha:a<l.length)(id:Int)(hid:id>0)(b:Bool)(x:zP)(hx:N7 x)(zi:zP):
 Nb k lf id (hdr a b) x (tB l) af=some ((),(hdr a b,setSt x (NH k lf l a id),tB l,af))∧BZ.Jy k l id (a:Int) lf x zi=some (setSt x (NH k lf l a id),true):=by
 obtain⟨f1,f2,f3⟩:=GD k (by omega) h a ha id;have Qt:setSt x (zS,false)=x:=by
  obtain⟨h1,h2⟩:=hx;obtain⟨x1,x2,x3,x4,x5,x6,x7,x8,x9,x10,x11,x12,x13,x14⟩:=x;simp only at h1 h2;subst h1;subst h2;rfl
 unfold Nb BZ.Jy BZ.KJ NH;simp only[f1,f2,yY,zh hid,yX];rcases f3 with f3|⟨q,f3,q1,q2⟩
 ·rw[f3]
  exact⟨by rw[if_neg (by decide),Qt];rfl,by rw[if_neg (by decide),Qt];rfl⟩
 ·rw[f3]
  obtain⟨n,n1,n2,n3⟩:=Ni k hk h (q:Int) (by omega) (by omega);obtain⟨S,s1,s2,s3⟩:=al5 k hk h lf hlf q q2;rw[if_pos (by omega),s2];simp only[zh (show(q:Int)≥0 by omega),yX,n1,yY,s1,Au,Option.getD_some];by_cases h12:n.1=12
  ·rw[Ac h12]
   simp only[Bj,yX,s2,yY];exact⟨trivial,trivial⟩
  ·rw[zw h12]
   have:S=(zS,false):=by
    have hm:(nV k l q 3).2=false:=by
     obtain⟨_,_,_,g4⟩:=IP k (by omega) h q q2 3;have:=aiZ k hk h q q2 (by omega) 3;cases hb:(nV k l q 3).2 with
     |false=>rfl
     |true=>have:=g4 hb;omega
    unfold I5 at s2;obtain⟨g1,_⟩:=IP k (by omega) h q q2 3;obtain⟨t5,b5,_,g5,_⟩:=text_eq k (by omega) h q q2 5;obtain⟨t6,b6,_,g6,_⟩:=text_eq k (by omega) h q q2 6;simp only[g1,g5,g6,yY,hm,zD,yX,Ao] at s2;exact s2.symm
   subst this;simp only[Bool.and_false,yZ];exact⟨trivial,by rw[Qt]⟩
def tl(k:Nat)(l:List zf)(a:Int):Bool:=(!(nV k l a 1).2||decide ((nV k l a 1).1<0))||decide ((nV k l a 1).1>2000)
abbrev QN(x:zP)(m:Int):zP:=(x.1,x.2.1,m,x.2.2.2.1,x.2.2.2.2.1,x.2.2.2.2.2.1,x.2.2.2.2.2.2.1,x.2.2.2.2.2.2.2.1,x.2.2.2.2.2.2.2.2.1,x.2.2.2.2.2.2.2.2.2.1,x.2.2.2.2.2.2.2.2.2.2.1,x.2.2.2.2.2.2.2.2.2.2.2.1,x.2.2.2.2.2.2.2.2.2.2.2.2.1,())
theorem MR(a:Nat)(ha:a<l.length)(b:Bool)(x:zP):Cs.c23 k (hdr a b) x (tB l) af=some ((),(hdr a (b||tl k l a),QN x (nV k l a 1).1,tB l,af)):=by
 unfold Cs.c23 tl;simp only[LF k hk h a ha 1 b,yY,cst,Bool.or_assoc]
theorem QY{a:Int}(hh:tl k l a=false):(nV k l a 1).2=true∧0≤(nV k l a 1).1∧(nV k l a 1).1≤2000:=by
 unfold tl at hh;simp only[Bool.or_eq_false_iff,Bool.not_eq_false',decide_eq_false_iff_not] at hh;exact⟨hh.1.1,by omega,by omega⟩
theorem QZ{a:Int}(hh:tl k l a=true):(nV k l a 1).2=false∨(decide (0≤(nV k l a 1).1)&&decide ((nV k l a 1).1≤2000))=false:=by
 cases hb:(nV k l a 1).2 with
 |false=>exact .inl rfl
 |true=>
  right;unfold tl at hh;rw[hb] at hh;simp only[zq,Aq,Bool.or_eq_true,Al] at hh;rw[Bool.eq_false_iff];simp only[ne_eq,Aa,Al];omega
def KG(k:Nat)(l:List zf)(af:List Int)(lf:zI)(b:Bool)(x:zP):Prop:=
 ∃(a':Int) (c:Bool) (y y':zP),Cs k lf (hdr 0 b) x (tB l) af=some ((),(hdr a' (b||c),y,tB l,af))∧BZ k lf l x=some (y',!c)∧(y.2.1=x.2.1∧y.2.2.2.2.2.2.2.2.2.2.2.2.1=x.2.2.2.2.2.2.2.2.2.2.2.2.1)∧(c=false→y'=y∧0≤y.2.2.1∧y.2.2.1≤2000)
theorem akE(lf:zI)(b:Bool)(x:zP)(hkd:x.1=2):KG k l af lf b x:=by
 obtain⟨q,hq,e1,e2⟩:=Qa k hk h 7 b;obtain⟨out,g1,g2⟩:=ids_eq k hk h q hq [1,2] (by decide);unfold KG Cs BZ BZ.c7 BZ.Jy BZ.KJ;simp only[hkd,show((2:Int)==0)=false from rfl,show((2:Int)==3)=false from rfl,show((2:Int)==2)=true from rfl,yX,yZ,e1,e2,yY,hany k hk h q hq,MR k hk h q hq,Bh,cst,show decide ((0:Int)>0)=false from rfl];have gx:∀c:Bool,(((b|| !H6 k l 7)|| !(nV k l q 2).2)||tl k l q)=(b||(!H6 k l 7||(!(nV k l q 2).2||tl k l q))):=fun _=>by simp only[Bool.or_assoc]
 rw[gx true];cases hE:H6 k l 7 with
 |false=>
  simp only[Bool.false_eq_true,if_false,show decide ((-1:Int)<0)=true from rfl,yX];exact⟨_,_,_,_,rfl,rfl,⟨rfl,rfl⟩,fun hh=>by simp at hh⟩
 |true=>
  simp only[if_true,zk (show ¬(q:Int)<0 by omega),yZ,g1,yY,List.all_cons,List.all_nil,Bool.and_true];cases h2:(nV k l q 2).2 with
  |false=>
   simp only[Bool.and_false,zD,yX,yY];exact⟨_,_,_,_,rfl,rfl,⟨rfl,rfl⟩,fun hh=>by simp at hh⟩
  |true=>
   cases ht:tl k l q with
   |true=>
    rcases QZ k hk h ht with h1|h1
    ·simp only[h1,Cg,zD,yX,yY]
     exact⟨_,_,_,_,rfl,rfl,⟨rfl,rfl⟩,fun hh=>by simp at hh⟩
    ·cases h1':(nV k l q 1).2 with
     |false=>
      simp only[Cg,zD,yX,yY];exact⟨_,_,_,_,rfl,rfl,⟨rfl,rfl⟩,fun hh=>by simp at hh⟩
     |true=>
      have g2:=g2 (by simp[h1',h2]);subst g2;simp only[List.map_cons,List.map_nil,Bool.and_self,zq,yZ,K3,List.getElem?_cons_zero,yY,h1,zD,yX];exact⟨_,_,_,_,rfl,rfl,⟨rfl,rfl⟩,fun hh=>by simp at hh⟩
   |false=>
    obtain⟨h1,t0,t1⟩:=QY k hk h ht;have g2:=g2 (by simp[h1,h2]);subst g2;have r1:gU [(nV k l q 1).1,(nV k l q 2).1] 1=some (nV k l q 2).1:=rfl;simp only[h1,List.map_cons,List.map_nil,Bool.and_self,zq,yZ,K3,List.getElem?_cons_zero,yY,r1,zh t0,zh t1];exact⟨_,_,_,_,rfl,rfl,⟨rfl,rfl⟩,fun _=>⟨rfl,t0,t1⟩⟩
theorem akD(lf:zI)(hlf:FH lf=true)(b:Bool)(x:zP)(hkd:x.1=0)(hx:N7 x):KG k l af lf b x:=by
 obtain⟨q,hq,e1,e2⟩:=Qa k hk h 5 b;obtain⟨out,g1,g2⟩:=ids_eq k hk h q hq [1,2,3,4] (by decide);have st:=fun(bb:Bool) (m e:Int)=>Un k hk h lf hlf q hq 5 (by decide) bb ((0,x.2.1,m,e,x.2.2.2.2.1,x.2.2.2.2.2.1,x.2.2.2.2.2.2.1,x.2.2.2.2.2.2.2.1,x.2.2.2.2.2.2.2.2.1,x.2.2.2.2.2.2.2.2.2.1,x.2.2.2.2.2.2.2.2.2.2.1,x.2.2.2.2.2.2.2.2.2.2.2.1,x.2.2.2.2.2.2.2.2.2.2.2.2.1,()):zP) hx zH;by_cases hc3:(nV k l q 3).1=3∧(nV k l q 4).1=3
 ·obtain⟨h3,h4⟩:=hc3
  unfold KG Cs BZ BZ.c7 Cs.c8;simp only[hkd,show((0:Int)==0)=true from rfl,show((0:Int)==3)=false from rfl,show((0:Int)==2)=false from rfl,yX,yZ,e1,e2,yY,hany k hk h q hq,(st _ _ _).1,MR k hk h q hq,Bh,cst];simp only[zK h3,zK h4,yZ];rw[show((((((b|| !H6 k l 5)|| !(nV k l q 2).2)|| !(nV k l q 3).2)|| !(nV k l q 4).2)||tl k l q))=(b||(!H6 k l 5||(!(nV k l q 2).2||(!(nV k l q 3).2||(!(nV k l q 4).2||tl k l q))))) by simp only[Bool.or_assoc]];cases hE:H6 k l 5 with
  |false=>
   simp only[Bool.false_eq_true,if_false,show decide ((-1:Int)<0)=true from rfl,yX];exact⟨_,_,_,_,rfl,rfl,⟨rfl,rfl⟩,fun hh=>by simp at hh⟩
  |true=>
   simp only[if_true,zk (show ¬(q:Int)<0 by omega),yZ,g1,yY,List.all_cons,List.all_nil,Bool.and_true];cases n2:(nV k l q 2).2 with
   |false=>
    simp only[Bool.and_false,Cg,zD,yX,yY];exact⟨_,_,_,_,rfl,rfl,⟨rfl,rfl⟩,fun hh=>by simp at hh⟩
   |true=>
    cases n3:(nV k l q 3).2 with
    |false=>
     simp only[Bool.and_false,Cg,zD,yX,yY];exact⟨_,_,_,_,rfl,rfl,⟨rfl,rfl⟩,fun hh=>by simp at hh⟩
    |true=>
     cases n4:(nV k l q 4).2 with
     |false=>
      simp only[Bool.and_false,Cg,zD,yX,yY];exact⟨_,_,_,_,rfl,rfl,⟨rfl,rfl⟩,fun hh=>by simp at hh⟩
     |true=>
      cases n1:(nV k l q 1).2 with
      |false=>
       have ht:tl k l q=true:=by unfold tl;rw[n1];rfl
       rw[ht];simp only[Bool.and_false,Cg,zD,yX,yY];exact⟨_,_,_,_,rfl,rfl,⟨rfl,rfl⟩,fun hh=>by simp at hh⟩
      |true=>
       have g2:=g2 (by simp[n1,n2,n3,n4]);subst g2;have r1:∀a b c d:Int,gU [a,b,c,d] 1=some b:=fun _ _ _ _=>rfl;have r2:∀a b c d:Int,gU [a,b,c,d] 2=some c:=fun _ _ _ _=>rfl;have r3:∀a b c d:Int,gU [a,b,c,d] 3=some d:=fun _ _ _ _=>rfl;simp only[List.map_cons,List.map_nil,Bool.and_self,zq,yZ,K3,List.getElem?_cons_zero,yY,r1,r2,r3,zK h3,zK h4];cases ht:tl k l q with
       |true=>
        rcases QZ k hk h ht with t|t
        ·rw[n1] at t;cases t
        ·simp only[t,zD,yX]
         exact⟨_,_,_,_,rfl,rfl,⟨rfl,rfl⟩,fun hh=>by simp at hh⟩
       |false=>
        obtain⟨_,t0,t1⟩:=QY k hk h ht;simp only[zh t0,zh t1,Bool.and_self,zq,yZ];exact⟨_,_,_,_,rfl,(st b _ _).2,⟨rfl,rfl⟩,fun _=>⟨rfl,t0,t1⟩⟩
 ·
   have hI:∃(a':Int) (y:zP),Cs k lf (hdr 0 b) x (tB l) af=some ((),(hdr a' true,y,tB l,af))∧(y.2.1=x.2.1∧y.2.2.2.2.2.2.2.2.2.2.2.2.1=x.2.2.2.2.2.2.2.2.2.2.2.2.1):=by
    unfold Cs Cs.c8;simp only[hkd,show((0:Int)==0)=true from rfl,yX,e1,yY,hany k hk h q hq,(st _ _ _).1,MR k hk h q hq];by_cases h3:(nV k l q 3).1=3
    ·have h4:¬(nV k l q 4).1=3:=fun h4=>hc3 ⟨h3,h4⟩
     simp only[zK h3,zO h4,yZ,yX,Ag];exact⟨_,_,rfl,rfl,rfl⟩
    ·simp only[zO h3,yX,Ag]
     exact⟨_,_,rfl,rfl,rfl⟩
   have hS:∃y',BZ k lf l x=some (y',false):=by
    unfold BZ BZ.c7;simp only[hkd,show((0:Int)==0)=true from rfl,show((0:Int)==3)=false from rfl,show((0:Int)==2)=false from rfl,yX,yZ,e2,yY,Bh,cst];cases H6 k l 5 with
    |false=>
     simp only[Bool.false_eq_true,if_false,show decide ((-1:Int)<0)=true from rfl,yX];exact⟨_,rfl⟩
    |true=>
     simp only[if_true,zk (show ¬(q:Int)<0 by omega),yZ,g1,yY];cases hal:([1,2,3,4].all fun id=>(nV k l (q:Int) id).2) with
     |false=>
      simp only[zD,yX,yY];exact⟨_,rfl⟩
     |true=>
      have g2:=g2 hal;subst g2;have r1:∀a b c d:Int,gU [a,b,c,d] 1=some b:=fun _ _ _ _=>rfl;have r2:∀a b c d:Int,gU [a,b,c,d] 2=some c:=fun _ _ _ _=>rfl;have r3:∀a b c d:Int,gU [a,b,c,d] 3=some d:=fun _ _ _ _=>rfl;simp only[List.map_cons,List.map_nil,zq,yZ,K3,List.getElem?_cons_zero,yY,r1,r2,r3];cases(decide (0≤(nV k l (q:Int) 1).1)&&decide ((nV k l (q:Int) 1).1≤2000)) with
      |false=>exact⟨_,rfl⟩
      |true=>
       by_cases h3:(nV k l q 3).1=3
       ·have h4:¬(nV k l q 4).1=3:=fun h4=>hc3 ⟨h3,h4⟩
        simp only[zK h3,zO h4,yZ,yY,yX,zq,Bool.or_true,Aq];exact⟨_,rfl⟩
       ·simp only[zO h3,yY,yX,zq,yZ,Ag]
        exact⟨_,rfl⟩
   obtain⟨a',y,i1,i2⟩:=hI;obtain⟨y',s1⟩:=hS;exact⟨a',true,y,y',by rw[i1,Bool.or_true],s1,i2,nofun⟩
theorem akF(lf:zI)(hlf:FH lf=true)(b:Bool)(x:zP)(hkd:x.1=3)(hx:N7 x):KG k l af lf b x:=by
 obtain⟨q,hq,e1,e2⟩:=Qa k hk h 8 b;obtain⟨out,g1,g2⟩:=ids_eq k hk h q hq [1,4,2,3,5,6] (by decide);have st:=fun(bb:Bool) (m e r n d p:Int)=>Un k hk h lf hlf q hq 8 (by decide) bb ((3,x.2.1,m,e,r,n,d,p,x.2.2.2.2.2.2.2.2.1,x.2.2.2.2.2.2.2.2.2.1,x.2.2.2.2.2.2.2.2.2.2.1,x.2.2.2.2.2.2.2.2.2.2.2.1,x.2.2.2.2.2.2.2.2.2.2.2.2.1,()):zP) hx zH;obtain⟨f1,f2,f3⟩:=GD k (by omega) h q hq 7;have hmk:∃c7:Bool,(bif decide (fV k l q 7<0) then some true else(gU l (fV k l q 7)).bind fun y=>some (y.1==1))=some c7:=by
  rcases f3 with f3|⟨p,f3,p1,p2⟩
  ·rw[f3];exact⟨_,rfl⟩
  ·rw[f3,zk (show ¬(p:Int)<0 by omega),yZ]
   obtain⟨n,n1,_⟩:=Ni k hk h (p:Int) (by omega) (by omega);rw[n1];exact⟨_,rfl⟩
 obtain⟨c7,Qn⟩:=hmk
 have hI:∃(a':Int),Cs k lf (hdr 0 b) x (tB l) af=some ((),(hdr a' (b||(!H6 k l 8||((!(nV k l q 2).2||decide ((nV k l q 2).1<0))||((!(nV k l q 3).2||decide ((nV k l q 3).1<0))||(!(nV k l q 4).2||((!(nV k l q 5).2||decide ((nV k l q 5).1<0))||((!(nV k l q 6).2||decide ((nV k l q 6).1<0))||(c7||tl k l q)))))))),
  QN (setSt (3,x.2.1,0,(nV k l q 4).1,(nV k l q 3).1,(nV k l q 2).1,(nV k l q 5).1,(nV k l q 6).1,x.2.2.2.2.2.2.2.2.1,x.2.2.2.2.2.2.2.2.2.1,false,zS,x.2.2.2.2.2.2.2.2.2.2.2.2.1,()) (NH k lf l q 8)) (nV k l q 1).1,tB l,af)):=by
  unfold Cs Cs.c19;simp only[hkd,show((3:Int)==0)=false from rfl,show((3:Int)==3)=true from rfl,yX,yZ,e1,yY,hany k hk h q hq,LF k hk h q hq,f2,Qn,(st _ _ _ _ _ _ _).1,MR k hk h q hq];refine⟨q,?_⟩;cases c7 with
  |true=>simp only[yX,Ag,Bool.or_true]
  |false=>simp only[yZ,Aq,Bool.or_assoc]
 obtain⟨a',hI⟩:=hI;generalize hYd:QN (setSt (3,x.2.1,0,(nV k l q 4).1,(nV k l q 3).1,(nV k l q 2).1,(nV k l q 5).1,(nV k l q 6).1,x.2.2.2.2.2.2.2.2.1,x.2.2.2.2.2.2.2.2.2.1,false,zS,x.2.2.2.2.2.2.2.2.2.2.2.2.1,()) (NH k lf l q 8)) (nV k l q 1).1=Y at hI;have hy2:Y.2.1=x.2.1∧Y.2.2.2.2.2.2.2.2.2.2.2.2.1=x.2.2.2.2.2.2.2.2.2.2.2.2.1:=by rw[←hYd];exact⟨rfl,rfl⟩
 unfold KG;rw[hI];unfold BZ BZ.c7;simp only[hkd,show((3:Int)==0)=false from rfl,show((3:Int)==3)=true from rfl,show((3:Int)==2)=false from rfl,yX,yZ,e2,yY,Bh,cst,f1];cases hE:H6 k l 8 with
 |false=>
  simp only[Bool.false_eq_true,if_false,show decide ((-1:Int)<0)=true from rfl,yX];exact⟨a',_,Y,_,rfl,rfl,hy2,fun hh=>by simp at hh⟩
 |true=>
  simp only[if_true,zk (show ¬(q:Int)<0 by omega),yZ,g1,yY];cases hal:([1,4,2,3,5,6].all fun id=>(nV k l (q:Int) id).2) with
  |false=>
   simp only[zD,yX,yY];refine⟨a',true,Y,_,?_,rfl,hy2,nofun⟩;have:(!true||((!(nV k l q 2).2||decide ((nV k l q 2).1<0))||((!(nV k l q 3).2||decide ((nV k l q 3).1<0))||(!(nV k l q 4).2||((!(nV k l q 5).2||decide ((nV k l q 5).1<0))||((!(nV k l q 6).2||decide ((nV k l q 6).1<0))||(c7||tl k l q)))))))=true:=by
    unfold tl;simp only[List.all_cons,List.all_nil,Bool.and_true] at hal;revert hal;cases(nV k l q 1).2<;>cases(nV k l q 2).2<;>cases(nV k l q 3).2<;>cases(nV k l q 4).2<;>cases(nV k l q 5).2<;>cases(nV k l q 6).2<;>simp
   rw[this]
  |true=>
   have g2:=g2 hal;subst g2;simp only[List.all_cons,List.all_nil,Bool.and_true,Aa] at hal;obtain⟨n1,n4,n2,n3,n5,n6⟩:=hal;have r1:∀a b c d e f:Int,gU [a,b,c,d,e,f] 1=some b:=fun _ _ _ _ _ _=>rfl;have r2:∀a b c d e f:Int,gU [a,b,c,d,e,f] 2=some c:=fun _ _ _ _ _ _=>rfl;have r3:∀a b c d e f:Int,gU [a,b,c,d,e,f] 3=some d:=fun _ _ _ _ _ _=>rfl;have r4:∀a b c d e f:Int,gU [a,b,c,d,e,f] 4=some e:=fun _ _ _ _ _ _=>rfl;have r5:∀a b c d e f:Int,gU [a,b,c,d,e,f] 5=some f:=fun _ _ _ _ _ _=>rfl;have hsum:∀y:Bool,(bif y then some true else(bif decide (fV k l q 7<0) then some true else(gU l (fV k l q 7)).bind fun y=>some (y.1==1)))=some (y||c7):=by
    intro y;rw[Qn];cases y<;>rfl
   have SX:∀y:Bool,(bif y||decide (fV k l q 7<0) then some true else(gU l (fV k l q 7)).bind fun y=>some (y.1==1))=some (y||c7):=by
    intro y;cases y with
    |true=>rfl
    |false=>rw[Aq,Qn,Aq]
   simp only[List.map_cons,List.map_nil,zq,yZ,K3,List.getElem?_cons_zero,yY,r1,r2,r3,r4,r5,n1,n2,n3,n4,n5,n6,Aq,f1,SX];cases ht:tl k l q with
   |true=>
    rcases QZ k hk h ht with t|t
    ·rw[n1] at t;cases t
    ·simp only[t,zD,yX]
     refine⟨a',true,Y,_,by simp only[Bool.or_true],rfl,hy2,nofun⟩
   |false=>
    obtain⟨_,t0,t1⟩:=QY k hk h ht;simp only[zh t0,zh t1,Bool.and_self,zq,yZ];cases hbad:(((((decide ((nV k l q 2).1<0)||decide ((nV k l q 3).1<0))||decide ((nV k l q 5).1<0))||decide ((nV k l q 6).1<0)))||c7) with
    |true=>
     simp only[yX];refine⟨a',true,Y,_,?_,rfl,hy2,nofun⟩;have:(decide ((nV k l q 2).1<0)||(decide ((nV k l q 3).1<0)||(decide ((nV k l q 5).1<0)||(decide ((nV k l q 6).1<0)||(c7||false)))))=true:=by
      simpa only[Bool.or_assoc,Bool.or_false] using hbad
     rw[this]
    |false=>
     simp only[yZ];have:(decide ((nV k l q 2).1<0)||(decide ((nV k l q 3).1<0)||(decide ((nV k l q 5).1<0)||(decide ((nV k l q 6).1<0)||(c7||false)))))=false:=by
      simpa only[Bool.or_assoc,Bool.or_false] using hbad
     refine⟨a',false,Y,_,by rw[this],(st b _ _ _ _ _ _).2,hy2,fun _=>⟨?_,?_⟩⟩
     ·rw[←hYd,hx.1,hx.2]
     ·rw[←hYd];exact⟨t0,t1⟩
theorem akO(id kind:Int):(fV k l 0 id= -1∧Hq k 0 id kind (true,tB l) af=some ((zN,false),(tB l,af)))∨
 ∃n:zf,0≤fV k l 0 id∧gU l (fV k l 0 id)=some n∧Dw n=true∧Hq k 0 id kind (true,tB l) af=some ((if n.1=kind then n else zN,n.1==kind),(tB l,af)):=by
 obtain⟨f1,f2,f3⟩:=GD k (by omega) h 0 h.pos id;rw[show((0:Nat):Int)=0 from rfl] at f1 f2 f3;unfold Hq;simp only[f2,yY];rcases f3 with f3|⟨q,f3,q1,q2⟩
 ·left
  rw[f3];exact⟨rfl,rfl⟩
 ·right
  obtain⟨n,n1,_,n2⟩:=Ni k hk h (q:Int) (by omega) (by omega);rw[f3];refine⟨n,by omega,n1,n2,?_⟩;simp only[zk (show ¬(q:Int)<0 by omega),yZ,n1,yY];by_cases hkd:n.1=kind
  ·rw[zK hkd,Ac hkd,if_pos hkd];rfl
  ·rw[zO hkd,zw hkd,if_neg hkd];rfl
theorem TN(lf:zI)(hlf:FH lf=true)(b:Bool)(x:zP)(hkd:x.1=0∨x.1=2∨x.1=3)(hx:N7 x):KG k l af lf b x:=by
 rcases hkd with hkd|hkd|hkd
 ·exact akD k hk h lf hlf b x hkd hx
 ·exact akE k hk h lf b x hkd
 ·exact akF k hk h lf hlf b x hkd hx
theorem TM(lf:zI)(b:Bool)(x:zP)(hkd:¬(x.1=0∨x.1=2∨x.1=3)):∃a' y,Cs k lf (hdr 0 b) x (tB l) af=some ((),(hdr a' true,y,tB l,af)):=by
 unfold Cs;simp only[zw (show ¬x.1=0 from fun h=>hkd (.inl h)),zw (show ¬x.1=3 from fun h=>hkd (.inr (.inr h))),zw (show ¬x.1=2 from fun h=>hkd (.inr (.inl h))),yZ];have:=MR k hk h 0 h.pos true x;rw[show((0:Nat):Int)=0 from rfl,Ag] at this;exact⟨_,_,this⟩
abbrev hd0(v1 v2:Int)(c:Bool)(w q:Int):zP:=(v1,v2,0,0,0,0,0,0,c,w,false,zS,q,())
def Ik(k:Nat)(l:List zf)(af:List Int)(lf:zI)(b:List Int)(q:Int)(bad:Bool)(x:zP):Option (zP×Int):=
 (Cs k lf (hdr 0 bad) x (tB l) af).bind fun r1=>cond r1.2.1.2.2.1 (some (zH,1)) (cond (decide (r1.2.2.1.2.1>(IntKind.wrap .i64 ((List.length b:Int)-q)))) (some (zH,2)) (some (r1.2.2.1,0)))
theorem Sk(lf:zI)(hlf:FH lf=true)(b:List Int)(q v1 v2 w p:Int)(c:Bool):Ik k l af lf b q true (hd0 v1 v2 c w p)=some (zH,1):=by
 unfold Ik;by_cases hkd:v1=0∨v1=2∨v1=3
 ·obtain⟨a',cc,y,y',e1,_⟩:=TN k hk h lf hlf true (hd0 v1 v2 c w p) hkd ⟨rfl,rfl⟩
  rw[e1];rfl
 ·obtain⟨a',y,e1⟩:=TM k hk h lf true (hd0 v1 v2 c w p) hkd
  rw[e1];rfl
theorem aiX(lf:zI)(b:List Int)(q v1 v2 w p:Int)(c bad:Bool)(hkd:¬(v1=0∨v1=2∨v1=3)):Ik k l af lf b q bad (hd0 v1 v2 c w p)=some (zH,1):=by
 unfold Ik;obtain⟨a',y,e1⟩:=TM k hk h lf bad (hd0 v1 v2 c w p) hkd;rw[e1];rfl
theorem aiW(lf:zI)(hlf:FH lf=true)(b:List Int)(q v1 v2 w p:Int)(c:Bool)(hkd:v1=0∨v1=2∨v1=3):
 ∃r,Ik k l af lf b q false (hd0 v1 v2 c w p)=some r∧CQ.c17 k b q lf zH zH l (hd0 v1 v2 c w p)=some r∧(r.2=0→(r.1.2.1=v2∧r.1.2.2.2.2.2.2.2.2.2.2.2.2.1=p)∧(0≤r.1.2.2.1∧r.1.2.2.1≤2000)∧r.1.2.1≤IntKind.wrap .i64 ((b.length:Int)-q))∧(r.2=0∨r.2=1∨r.2=2):=by
 unfold Ik CQ.c17;obtain⟨a',cc,y,y',e1,e2,e3,e4⟩:=TN k hk h lf hlf false (hd0 v1 v2 c w p) hkd ⟨rfl,rfl⟩;rw[e1,e2];cases cc with
 |true=>exact⟨_,rfl,rfl,(fun hh=>by cases hh),.inr (.inl rfl)⟩
 |false=>
  obtain⟨e4,e5⟩:=e4 rfl;subst e4;simp only[yY,Bt,yZ,zD,zq];by_cases hs:y'.2.1>IntKind.wrap .i64 ((b.length:Int)-q)
  ·rw[zh hs]
   exact⟨_,rfl,rfl,(fun hh=>by cases hh),.inr (.inr rfl)⟩
  ·rw[zk hs]
   exact⟨_,rfl,rfl,fun _=>⟨e3,e5,Int.not_lt.1 hs⟩,.inl rfl⟩
theorem VF{x:Int}(h0: -2147483648≤x)(h1:x≤2147483647):bits .and .i64 x 4294967295=if x<0 then IntKind.wrap .i64 (x+4294967296) else x:=by
 have:=Oa x 32 (by decide);have e:(2:Int)^32-1=4294967295:=by decide
 rw[e] at this;rw[this];have e2:(2:Int)^32=4294967296:=by decide
 rw[e2];split
 ·rw[zg (by omega) (by omega)];omega
 ·omega
theorem head_eq(lf:zI)(hlf:FH lf=true)(b:List Int)(q:Int):
 ∃r,((FB k 1 (hdr 0 false) (true,tB l) af).bind fun Ab=>(F4 k 2 0 Ab.2.1 Ab.2.2.1 Ab.2.2.2).bind fun r16=>
  Dk.d9 k b q lf zH r16.2.2.1 r16.2.1 (Ab.1,r16.1,0,0,0,0,0,0,false,0,false,zS,q,()) r16.2.2.2)=some r∧
 ((FN k l 0 [1,2,3]).bind fun r5=>
  (cond (!r5.1.2) (some true) ((gU r5.2 0).bind fun y6=>
   (cond (y6 !=0) ((gU r5.2 0).bind fun y7=>some (y7 !=2)) (some false)).bind fun b8=>
   (cond b8 ((gU r5.2 0).bind fun y9=>some (y9 !=3)) (some false)).bind fun b10=>some (b10))).bind fun b11=>
  (cond b11 (some true) ((gU r5.2 1).bind fun Dy=>some (decide (Dy<0)))).bind fun b13=>
  (cond b13 (some true) ((gU r5.2 1).bind fun Ie=>(gU r5.2 2).bind fun Gh=>some (Ie !=Gh))).bind fun b16=>
  cond b16
   (some (zH,1))
   ((gU r5.2 0).bind fun Cj=>
    (gU r5.2 1).bind fun FW=>
    (CF k l 0 4).bind fun CY=>
    cond (decide (CY≥0))
     ((gU l CY).bind fun y20=>
      cond (y20.1 !=5)
       (some (zH,1))
       ((gU l CY).bind fun y21=>
        cond (decide (y21.2.2.1<0))
         (CQ.c17 k b q lf zH zH l (Cj,FW,0,0,0,0,0,0,true,IntKind.wrap .i64 (y21.2.2.1+4294967296),false,zS,q,()))
         (CQ.c17 k b q lf zH zH l (Cj,FW,0,0,0,0,0,0,true,y21.2.2.1,false,zS,q,()))))
     (CQ.c17 k b q lf zH zH l (Cj,FW,0,0,0,0,0,0,false,0,false,zS,q,()))))=some r∧
 (r.2=0→(0≤r.1.2.1∧r.1.2.2.2.2.2.2.2.2.2.2.2.2.1=q)∧(0≤r.1.2.2.1∧r.1.2.2.1≤2000)∧r.1.2.1≤IntKind.wrap .i64 ((b.length:Int)-q))∧(r.2=0∨r.2=1∨r.2=2):=by
 have hpos:=h.pos;have z:((0:Nat):Int)=0:=rfl;have a1:=hany k hk h 0 hpos 1 false;have a2:=fun bb=>LF k hk h 0 hpos 2 bb;have a3:=fun bb=>hany k hk h 0 hpos 3 bb;obtain⟨f1,f2,f3⟩:=GD k (by omega) h 0 hpos 4;obtain⟨out,g1,g2⟩:=ids_eq k hk h 0 hpos [1,2,3] (by decide);rw[z] at a1 f1 f2 f3 g1 g2;simp only[z] at a2 a3
 have ajh:∃(cb ch:Bool) (cw:Int),(∀bb v1 v2,Dk.c11 k b q lf zH (tB l) (hdr 0 bb) (v1,v2,0,0,0,0,0,0,false,0,false,zS,q,()) af=Ik k l af lf b q (bb||cb) (hd0 v1 v2 ch cw q))∧
  ∀v1 v2,((CF k l 0 4).bind fun CY=>cond (decide (CY≥0)) ((gU l CY).bind fun y20=>cond (y20.1 !=5) (some (zH,1)) ((gU l CY).bind fun y21=>
   cond (decide (y21.2.2.1<0))
    (CQ.c17 k b q lf zH zH l (v1,v2,0,0,0,0,0,0,true,IntKind.wrap .i64 (y21.2.2.1+4294967296),false,zS,q,()))
    (CQ.c17 k b q lf zH zH l (v1,v2,0,0,0,0,0,0,true,y21.2.2.1,false,zS,q,()))))
   (CQ.c17 k b q lf zH zH l (v1,v2,0,0,0,0,0,0,false,0,false,zS,q,())))=cond cb (some (zH,1)) (CQ.c17 k b q lf zH zH l (hd0 v1 v2 ch cw q)):=by
  unfold Dk.c11 Dk.c14 Dk.d14 Ik;simp only[f1,f2,yY];rcases akO k hk h 4 5 with⟨p1,p2⟩|⟨n,p1,p2,p3,p4⟩
  ·simp only[p1,p2,f2,yY,show decide ((-1:Int)≥0)=false from rfl,yZ]
   refine⟨false,false,0,fun bb v1 v2=> ?_,fun v1 v2=>rfl⟩;rw[Bool.or_false];rfl
  ·simp only[p2,p4,f2,yY,zh (show fV k l 0 4≥0 from p1),yX]
   by_cases h5:n.1=5
   ·have LF: -2147483648≤n.2.2.1∧n.2.2.1≤2147483647:=by
     unfold Dw at p3;rw[if_pos h5] at p3;simp only[Aa,Al] at p3;exact p3.1.1
    rw[Ac h5,zK h5,if_pos h5];refine⟨false,true,bits .and .i64 n.2.2.1 4294967295,fun bb v1 v2=> ?_,fun v1 v2=> ?_⟩
    ·simp only[zq,yY,yZ,Bool.or_false]
    ·simp only[yZ]
     rw[VF k hk h LF.1 LF.2];by_cases hneg:n.2.2.1<0
     ·rw[zh hneg,if_pos hneg,yX]
     ·rw[zk hneg,if_neg hneg,yZ]
   ·rw[zw h5,zO h5,if_neg h5]
    refine⟨true,false,bits .and .i64 0 4294967295,fun bb v1 v2=> ?_,fun v1 v2=>rfl⟩;simp only[zD,yY,yX,Bool.or_true]
 obtain⟨cb,ch,cw,c1,c2⟩:=ajh;simp only[a1,a2,yY,Dk.d9,a3,c1,g1,c2];have hfl:∀(B C:Bool),(cond B (Ik k l af lf b q (true||cb) (hd0 (nV k l 0 1).1 (nV k l 0 2).1 ch cw q)) (Ik k l af lf b q (C||cb) (hd0 (nV k l 0 1).1 (nV k l 0 2).1 ch cw q)))=Ik k l af lf b q ((C||B)||cb) (hd0 (nV k l 0 1).1 (nV k l 0 2).1 ch cw q):=by
  intro B C;cases B<;>cases C<;>rfl
 rw[hfl];by_cases good:((nV k l 0 1).2=true∧(nV k l 0 2).2=true∧(nV k l 0 3).2=true)∧((nV k l 0 1).1=0∨(nV k l 0 1).1=2∨(nV k l 0 1).1=3)∧0≤(nV k l 0 2).1∧(nV k l 0 2).1=(nV k l 0 3).1
 ·obtain⟨⟨n1,n2,n3⟩,hkd,hs0,hs1⟩:=good
  have hal:([1,2,3].all fun id=>(nV k l 0 id).2)=true:=by simp[n1,n2,n3]
  have g2:=g2 hal;subst g2;rw[hal];have r1:∀a b c:Int,gU [a,b,c] 1=some b:=fun _ _ _=>rfl;have r2:∀a b c:Int,gU [a,b,c] 2=some c:=fun _ _ _=>rfl;have hk3:((bif (nV k l 0 1).1 !=0 then(some ((nV k l 0 1).1 !=2):Option Bool) else some false).bind fun b8=>(bif b8 then(some ((nV k l 0 1).1 !=3):Option Bool) else some false).bind fun b10=>some b10)=some false:=by
   rcases hkd with e|e|e<;>rw[e]<;>rfl
  simp only[List.map_cons,List.map_nil,zq,yZ,K3,List.getElem?_cons_zero,yY,r1,r2,hk3,n1,n2,n3,zk (show ¬(nV k l 0 2).1<0 by omega),zK hs1,zK hs1.symm,Bt,Aq];cases cb with
  |true=>exact⟨_,Sk k hk h lf hlf b q _ _ _ _ _,rfl,(fun hh=>by cases hh),.inr (.inl rfl)⟩
  |false=>
   obtain⟨r,e1,e2,e3,e9⟩:=aiW k hk h lf hlf b q (nV k l 0 1).1 (nV k l 0 2).1 cw q ch hkd;exact⟨r,e1,e2,(fun hh=>by obtain⟨⟨x1,x2⟩,x3,x4⟩:=e3 hh;exact⟨⟨by omega,x2⟩,x3,x4⟩),e9⟩
 ·refine⟨(zH,1),?_,?_,(fun hh=>by cases hh),.inr (.inl rfl)⟩
  ·by_cases hkd:(nV k l 0 1).1=0∨(nV k l 0 1).1=2∨(nV k l 0 1).1=3
   ·have:((((((false|| !(nV k l 0 1).2)||(!(nV k l 0 2).2||decide ((nV k l 0 2).1<0)))|| !(nV k l 0 3).2)||((nV k l 0 3).1 !=(nV k l 0 2).1))||cb))=true:=by
     cases n1:(nV k l 0 1).2 with
     |false=>simp
     |true=>
      cases n2:(nV k l 0 2).2 with
      |false=>simp
      |true=>
       cases n3:(nV k l 0 3).2 with
       |false=>simp
       |true=>
        by_cases hs:(nV k l 0 2).1<0
        ·rw[zh hs];simp
        ·have:¬(nV k l 0 3).1=(nV k l 0 2).1:=fun e=>good ⟨⟨n1,n2,n3⟩,hkd,by omega,e.symm⟩
         rw[zO this];simp
    rw[this];exact Sk k hk h lf hlf b q _ _ _ _ _
   ·exact aiX k hk h lf b q _ _ _ _ _ _ hkd
  ·cases hal:([1,2,3].all fun id=>(nV k l 0 id).2) with
   |false=>rfl
   |true=>
    have g2:=g2 hal;subst g2;simp only[List.all_cons,List.all_nil,Bool.and_true,Aa] at hal;obtain⟨n1,n2,n3⟩:=hal;have r1:∀a b c:Int,gU [a,b,c] 1=some b:=fun _ _ _=>rfl;have r2:∀a b c:Int,gU [a,b,c] 2=some c:=fun _ _ _=>rfl;simp only[List.map_cons,List.map_nil,zq,yZ,K3,List.getElem?_cons_zero,yY,r1,r2];by_cases hkd:(nV k l 0 1).1=0∨(nV k l 0 1).1=2∨(nV k l 0 1).1=3
    ·have hk3:((bif (nV k l 0 1).1 !=0 then(some ((nV k l 0 1).1 !=2):Option Bool) else some false).bind fun b8=>(bif b8 then(some ((nV k l 0 1).1 !=3):Option Bool) else some false).bind fun b10=>some b10)=some false:=by
      rcases hkd with e|e|e<;>rw[e]<;>rfl
     rw[hk3];simp only[yY,yZ];by_cases hs:(nV k l 0 2).1<0
     ·rw[zh hs];rfl
     ·have:¬(nV k l 0 2).1=(nV k l 0 3).1:=fun e=>good ⟨⟨n1,n2,n3⟩,hkd,by omega,e⟩
      rw[zk hs,zO this];rfl
    ·have hk3:((bif (nV k l 0 1).1 !=0 then(some ((nV k l 0 1).1 !=2):Option Bool) else some false).bind fun b8=>(bif b8 then(some ((nV k l 0 1).1 !=3):Option Bool) else some false).bind fun b10=>some b10)=some true:=by
      rw[zO (fun e=>hkd (.inl e)),zO (fun e=>hkd (.inr (.inl e))),zO (fun e=>hkd (.inr (.inr e)))];rfl
     rw[hk3];rfl
end
theorem OG(k:Nat)(hk:2000000≤k)(lf:zI)(b:List Int)(hl:b.length<4611686018427387904)(hb:BR b)(at_:Int):
 ∃r,Dk k lf b at_=some r∧CQ k lf b at_=some r∧
  (r.2=0→FH lf=true∧0≤r.1.2.1∧0≤r.1.2.2.2.2.2.2.2.2.2.2.2.2.1∧r.1.2.2.2.2.2.2.2.2.2.2.2.2.1+r.1.2.1≤(b.length:Int)∧0≤r.1.2.2.1∧r.1.2.2.1≤2000∧0≤at_∧at_<r.1.2.2.2.2.2.2.2.2.2.2.2.2.1)∧(r.2=0∨r.2=1∨r.2=2):=by
 have hr:=Ut k (by omega) b hl hb at_;unfold Dk CQ;cases ht:Mo b at_ with
 |bad c=>
  rw[ht] at hr;obtain⟨hc,e1,e2⟩:=hr;have hto:∃x,KS k []=some x:=by
   obtain⟨_,_,h2⟩:=Q0 k (by omega) [] (fun n hn=>by cases hn) (by simp);rcases h2 with⟨_,x,hx⟩|⟨_,_,h1,_⟩
   ·exact⟨_,hx⟩
   ·simp at h1
  obtain⟨x,hx⟩:=hto;simp only[e1,e2,hx,yY,(Me k lf).1,(Me k lf).2,cst,zO hc,Bool.or_true,Ag,yX];exact⟨(zH,1),rfl,rfl,(fun hh=>by cases hh),.inr (.inl rfl)⟩
 |ok q Y=>
  rw[ht] at hr;obtain⟨e1,e2⟩:=hr;have g:=Us hl hb ht;have hok:=ald k (by omega) g;obtain⟨bb,h1,h2⟩:=Q0 k (by omega) Y g.wf (by have:=g.len;omega);rw[hok] at h1;rcases h2 with⟨rfl,_⟩|⟨_,hl1,hl2,af,hx,hSb,_⟩
  ·cases h1
  have h:D7 Y af:=⟨hl1,hl2,hSb,g.wf⟩;simp only[e1,e2,hx,yY,(Me k lf).1,(Me k lf).2,cst,zK rfl,Bool.or_false,zq];cases hlf:FH lf with
  |false=>
   simp only[zD,yX];exact⟨(zH,1),rfl,rfl,(fun hh=>by cases hh),.inr (.inl rfl)⟩
  |true=>
   simp only[zq,yZ];obtain⟨r,r1,r2,r3,r4⟩:=head_eq k hk h lf hlf b (q:Int);refine⟨r,r1,r2,fun hh=> ?_,r4⟩;obtain⟨⟨x1,x2⟩,x3,x4⟩:=r3 hh;have:=g.Ub;rw[zg (by omega) (by omega)] at x4;exact⟨trivial,x1,by omega,by omega,x3.1,x3.2,by omega,by omega⟩
abbrev Ca(h:zP):Int:=h.2.2.2.2.2.2.2.2.2.2.2.2.1
theorem checked_eq(k:Nat)(hk:2000000≤k)(lf:zI)(b:List Int)(hl:b.length≤1048576)(hb:BR b)(at_:Int):
 ∃(h:zP) (c:Int),Dk k lf b at_=some (h,c)∧CQ k lf b at_=some (h,c)∧
  ((c≠0∧c≠3∧Ir k lf b at_=some (h,[],c))∨
   (c=0∧FH lf=true∧0≤Ca h∧0≤h.2.1∧Ca h+h.2.1≤(b.length:Int)∧0≤h.2.2.1∧h.2.2.1≤2000∧
    ∃r:Int,Kn k (kV b (Ca h) (Ca h+h.2.1))=some r∧
     Ir k lf b at_=some (if h.2.2.2.2.2.2.2.2.1=true∧r≠h.2.2.2.2.2.2.2.2.2.1 then(h,[],3) else(h,kV b (Ca h) (Ca h+h.2.1),0)))):=by
 obtain⟨⟨h,c⟩,e1,e2,e3,e4⟩:=OG k hk lf b (by omega) hb at_;refine⟨h,c,e1,e2,?_⟩;by_cases hc:c=0
 ·subst hc
  obtain⟨f1,f2,f3,f4,f5,f6,_⟩:=e3 rfl;right;have f2:0≤h.2.1:=f2;have f3:0≤Ca h:=f3;have f4:Ca h+h.2.1≤(b.length:Int):=f4;have ew:IntKind.wrap .i64 (Ca h+h.2.1)=Ca h+h.2.1:=zg (by omega) (by omega);have hcb:BR (kV b (Ca h) (Ca h+h.2.1)):=fun x hx=>by
   unfold kV at hx;exact hb x (List.mem_of_mem_take (List.mem_of_mem_drop hx))
  have hcl:(kV b (Ca h) (Ca h+h.2.1)).length≤1048576:=by
   unfold kV;rw[List.length_drop,List.length_take];omega
  obtain⟨r,r1,r2⟩:=VE k (by omega) _ (show(kV b (Ca h) (Ca h+h.2.1)).length<1000000000 by omega) (by omega) hcb;refine⟨rfl,f1,f3,f2,f4,f5,f6,r,r2,?_⟩;unfold Ir Ir.d5;simp only[e1,yY,zK rfl,yZ];have ew:IntKind.wrap .i64 (h.2.2.2.2.2.2.2.2.2.2.2.2.1+h.2.1)=h.2.2.2.2.2.2.2.2.2.2.2.2.1+h.2.1:=ew;have r1:Na k (kV b h.2.2.2.2.2.2.2.2.2.2.2.2.1 (h.2.2.2.2.2.2.2.2.2.2.2.2.1+h.2.1))=some r:=r1;rw[ew,EI f3 (show Ca h≤Ca h+h.2.1 by omega) f4,yX,r1];cases hs:h.2.2.2.2.2.2.2.2.1 with
  |false=>rw[if_neg (fun hh=>by cases hh.1)];rfl
  |true=>
   simp only[yY,yX];by_cases hr:h.2.2.2.2.2.2.2.2.2.1=r
   ·rw[zK hr,if_neg (fun hh=>hh.2 hr.symm)];rfl
   ·rw[zO hr,if_pos ⟨trivial,fun e=>hr e.symm⟩];rfl
 ·left
  have e4:c=0∨c=1∨c=2:=e4;have h3:c≠3:=by omega
  refine⟨hc,h3,?_⟩;unfold Ir;simp only[e1,yY,zO hc,yX]
theorem VJ(k:Nat)(hk:2000000≤k)(t:Int)(b:List Int)(hl:b.length≤1048576)(hb:BR b)(at_:Int):
 ∃r,OO k t b at_=some r∧Ko k t b at_=some r∧r.2.length≤2000∧(r.1.2.2=0→Cc t=true∧∀v,v∈r.2→Co t v=true∧Ae v.1):=by
 obtain⟨h,c,e1,e2,e3⟩:=checked_eq k hk (t,0,0,()) b hl hb at_;unfold OO Ko;rcases e3 with⟨c0,c3,e3⟩|⟨rfl,f1,f2,f3,f4,f5,f6,r,r1,e3⟩
 ·simp only[e2,e3,yY,zO c0,zw c0,zw c3,yX,yZ]
  exact⟨(((),0,c),[]),rfl,rfl,by simp,fun hh=>(c0 hh).elim⟩
 ·have ew:IntKind.wrap .i64 (h.2.2.2.2.2.2.2.2.2.2.2.2.1+h.2.1)=h.2.2.2.2.2.2.2.2.2.2.2.2.1+h.2.1:=zg (show _≤Ca h+h.2.1 by omega) (show Ca h+h.2.1<_ by omega)
  have hsl:jg h.2.2.2.2.2.2.2.2.2.2.2.2.1 (h.2.2.2.2.2.2.2.2.2.2.2.2.1+h.2.1) b.length=true:=EI f2 (show Ca h≤Ca h+h.2.1 by omega) f4;simp only[e2,e3,yY,zK rfl,yZ,Au];by_cases hkd:(h.1 !=2||(h.2.2.2.1 !=0&&h.2.2.2.1 !=2))=true
  ·refine⟨(((),0,1),[]),?_,?_,by simp,fun hh=>by cases hh⟩
   ·by_cases hs:h.2.2.2.2.2.2.2.2.1=true∧r≠h.2.2.2.2.2.2.2.2.2.1
    ·rw[if_pos hs]
     simp only[show((3:Int)==0)=false from rfl,show((3:Int)==3)=true from rfl,yZ,yY,yX,cst,hkd,Bt,Bool.or_false,Aq,Bool.or_true,Ag,Au,Bj,Cg]
    ·rw[if_neg hs]
     simp only[show((0:Int)==0)=true from rfl,yY,yX,cst,hkd,Bt,Bool.or_false,Aq,Bool.or_true,Ag,Au,Bj]
   ·simp only[yY,cst,hkd,yX]
  ·have hkd:=Bool.eq_false_iff.2 hkd
   obtain⟨nx,ok,l,p1,p2,pr⟩:=QH k (by omega) t (kV b (Ca h) (Ca h+h.2.1)) (by unfold kV;rw[List.length_drop,List.length_take];omega) (fun x hx=>by
    unfold kV at hx;exact hb x (List.mem_of_mem_take (List.mem_of_mem_drop hx))) 0 h.2.2.1 ⟨by decide,by decide⟩
   have r1:Kn k (kV b h.2.2.2.2.2.2.2.2.2.2.2.2.1 (h.2.2.2.2.2.2.2.2.2.2.2.2.1+h.2.1))=some r:=r1;have p2:DY k t (kV b h.2.2.2.2.2.2.2.2.2.2.2.2.1 (h.2.2.2.2.2.2.2.2.2.2.2.2.1+h.2.1)) 0 h.2.2.1=some (((),nx,ok),l):=p2;unfold Ko.d8;simp only[yY,cst,hkd,yZ,ew,hsl,yX,r1,p2];by_cases hs:h.2.2.2.2.2.2.2.2.1=true∧r≠h.2.2.2.2.2.2.2.2.2.1
   ·obtain⟨hs1,hs2⟩:=hs
    rw[if_pos ⟨hs1,hs2⟩,hs1,zO hs2];simp only[show((3:Int)==0)=false from rfl,show((3:Int)==3)=true from rfl,show((3:Int) !=0)=true from rfl,yZ,yY,yX,hkd,cst,Bt,Bool.or_false,Aq,Bool.or_true,Ag,Au,Bj,Cg];exact⟨(((),0,3),[]),rfl,rfl,by simp,fun hh=>by cases hh⟩
   ·rw[if_neg hs]
    have hin:(bif h.2.2.2.2.2.2.2.2.1 then
     (bif r !=h.2.2.2.2.2.2.2.2.2.1 then some ((((),0,3),[]):(Unit×Int×Int)×List za) else(bif !ok||nx !=((kV b h.2.2.2.2.2.2.2.2.2.2.2.2.1 (h.2.2.2.2.2.2.2.2.2.2.2.2.1+h.2.1)).length:Int) then some (((),0,5),[]) else some (((),h.2.2.2.2.2.2.2.2.2.2.2.2.1+h.2.1,0),l)))
     else(bif !ok||nx !=((kV b h.2.2.2.2.2.2.2.2.2.2.2.2.1 (h.2.2.2.2.2.2.2.2.2.2.2.2.1+h.2.1)).length:Int) then some (((),0,5),[]) else some (((),h.2.2.2.2.2.2.2.2.2.2.2.2.1+h.2.1,0),l)))=
     (bif !ok||nx !=((kV b h.2.2.2.2.2.2.2.2.2.2.2.2.1 (h.2.2.2.2.2.2.2.2.2.2.2.2.1+h.2.1)).length:Int) then some (((),0,5),[]) else some (((),h.2.2.2.2.2.2.2.2.2.2.2.2.1+h.2.1,0),l)):=by
     cases hs1:h.2.2.2.2.2.2.2.2.1 with
     |false=>rfl
     |true=>
      have:r=h.2.2.2.2.2.2.2.2.2.1:=Classical.byContradiction fun hh=>hs ⟨hs1,hh⟩;rw[zK this];rfl
    have p1:Gp k t (kV b h.2.2.2.2.2.2.2.2.2.2.2.2.1 (h.2.2.2.2.2.2.2.2.2.2.2.2.1+h.2.1)) 0 h.2.2.1=some (((),nx,ok),l):=p1;rw[hin];simp only[show((0:Int)==0)=true from rfl,show((0:Int) !=0)=false from rfl,yZ,yY,yX,cst,hkd,p1,ew,Bt,Bool.or_false,Ag,Au,Bj];cases ok with
    |false=>
     simp only[zD,Ag,yX];exact⟨(((),0,5),[]),rfl,rfl,by simp,fun hh=>by cases hh⟩
    |true=>
     have hlen:=pr.len rfl;have hm:=pr.m0 rfl;cases(!true||nx !=((kV b h.2.2.2.2.2.2.2.2.2.2.2.2.1 (h.2.2.2.2.2.2.2.2.2.2.2.2.1+h.2.1)).length:Int)) with
     |true=>exact⟨(((),0,5),[]),rfl,rfl,by simp,fun hh=>by cases hh⟩
     |false=>exact⟨_,rfl,rfl,(by show l.length≤2000;omega),fun _=>⟨pr.ty rfl,pr.vk rfl⟩⟩
theorem cnd{α:Type}{b:Bool}{x y:Option α}{z:α}(h:cond b x y=some z):(b=true∧x=some z)∨(b=false∧y=some z):=by
 cases b with
 |true=>exact .inl ⟨rfl,h⟩
 |false=>exact .inr ⟨rfl,h⟩
theorem bnd{α β:Type}{x:Option α}{f:α→Option β}{z:β}(h:x.bind f=some z):∃a,x=some a∧f a=some z:=Option.bind_eq_some_iff.1 h
theorem J5{b:Bool}{x:Option Bool}(h:cond b (some true) x=some false):b=false∧x=some false:=by
 rcases cnd h with⟨_,h⟩|h
 ·cases h
 ·exact h
def UW(y x:zP):Prop:=y.1=x.1∧y.2.2.2.2.1=x.2.2.2.2.1∧y.2.2.2.2.2.1=x.2.2.2.2.2.1∧y.2.2.2.2.2.2.1=x.2.2.2.2.2.2.1∧y.2.2.2.2.2.2.2.1=x.2.2.2.2.2.2.2.1
theorem PZ{k:Nat}{t1:List zf}{t10 t11:Int}{o:zI}{x o2 y:zP}{z:Bool}(h:BZ.Jy k t1 t10 t11 o x o2=some (y,z)):UW y x:=by
 unfold BZ.Jy BZ.KJ at h;replace h:=cnd h;rcases h with⟨_,h⟩|⟨_,h⟩
 ·replace h:=bnd h;obtain⟨r1,_,h⟩:=h
  replace h:=bnd h;obtain⟨b3,_,h⟩:=h;replace h:=cnd h;rcases h with⟨_,h⟩|⟨_,h⟩
  ·replace h:=bnd h;obtain⟨r4,_,h⟩:=h
   cases h;exact⟨rfl,rfl,rfl,rfl,rfl⟩
  ·cases h
   exact⟨rfl,rfl,rfl,rfl,rfl⟩
 ·cases h
  exact⟨rfl,rfl,rfl,rfl,rfl⟩
theorem RH{k:Nat}{t1:List zf}{t8 t10:Int}{o:zI}{x o2 y:zP}{L:List Int}(h:BZ.c7 k t1 t8 t10 o x o2 L=some (y,true)):
 y.1=x.1∧(x.1=3→0≤y.2.2.2.2.1∧0≤y.2.2.2.2.2.1∧0≤y.2.2.2.2.2.2.1∧0≤y.2.2.2.2.2.2.2.1):=by
 unfold BZ.c7 at h;replace h:=bnd h;obtain⟨r5,_,h⟩:=h;replace h:=cnd h;rcases h with⟨_,h⟩|⟨_,h⟩
 ·cases h
 replace h:=bnd h;obtain⟨r6,_,h⟩:=h;replace h:=bnd h;obtain⟨b9,_,h⟩:=h;replace h:=cnd h;rcases h with⟨_,h⟩|⟨_,h⟩
 ·cases h
 replace h:=bnd h;obtain⟨CU,_,h⟩:=h;replace h:=bnd h;obtain⟨C8,_,h⟩:=h;replace h:=cnd h;rcases h with⟨h0,h⟩|⟨h0,h⟩
 ·have h0:x.1=0:=eq_of_beq h0
  replace h:=bnd h;obtain⟨Dy,_,h⟩:=h;replace h:=bnd h;obtain⟨b14,_,h⟩:=h;replace h:=cnd h;rcases h with⟨_,h⟩|⟨_,h⟩
  ·cases h
  exact⟨(PZ h).1,fun h3=>by omega⟩
 ·replace h:=cnd h;rcases h with⟨h3,h⟩|⟨h3,h⟩
  ·replace h:=bnd h;obtain⟨Gh,_,h⟩:=h
   replace h:=bnd h;obtain⟨Ig,_,h⟩:=h;replace h:=bnd h;obtain⟨Cj,_,h⟩:=h;replace h:=bnd h;obtain⟨FW,_,h⟩:=h;replace h:=bnd h;obtain⟨CY,_,h⟩:=h;replace h:=bnd h;obtain⟨b20,f20,h⟩:=h;replace h:=bnd h;obtain⟨Oc,f21,h⟩:=h;replace h:=bnd h;obtain⟨Lc,f22,h⟩:=h;replace h:=bnd h;obtain⟨J3,f23,h⟩:=h;replace h:=bnd h;obtain⟨J4,f25,h⟩:=h;replace h:=cnd h;rcases h with⟨_,h⟩|⟨hb,h⟩
   ·cases h
   subst hb;obtain⟨hb,_⟩:=J5 f25;subst hb;obtain⟨hb,_⟩:=J5 f23;subst hb;obtain⟨hb,g22⟩:=J5 f22;subst hb;obtain⟨hb,g21⟩:=J5 f21;subst hb;obtain⟨g15,g20⟩:=J5 f20;have g15:=of_decide_eq_false g15;have g20:=of_decide_eq_false (Option.some.inj g20);have g21:=of_decide_eq_false (Option.some.inj g21);have g22:=of_decide_eq_false (Option.some.inj g22);obtain⟨s1,s2,s3,s4,s5⟩:=PZ h;refine⟨s1,fun _=>⟨?_,?_,?_,?_⟩⟩
   ·rw[s2];show 0≤Ig;omega
   ·rw[s3];show 0≤Gh;omega
   ·rw[s4];show 0≤Cj;omega
   ·rw[s5];show 0≤FW;omega
  ·exact⟨(PZ h).1,fun e=>by rw[Ac e] at h3;cases h3⟩
theorem Vo{k:Nat}{t1:List Int}{t10:Int}{o:zI}{o1 o2 x h:zP}{l:List zf}(e:CQ.c17 k t1 t10 o o1 o2 l x=some (h,0)):
 h.1=x.1∧(x.1=3→0≤h.2.2.2.2.1∧0≤h.2.2.2.2.2.1∧0≤h.2.2.2.2.2.2.1∧0≤h.2.2.2.2.2.2.2.1):=by
 unfold CQ.c17 at e;replace e:=bnd e;obtain⟨r1,f,e⟩:=e;obtain⟨y,z⟩:=r1;replace e:=cnd e;rcases e with⟨_,e⟩|⟨hz,e⟩
 ·cases e
 have hz:z=true:=by simpa using hz
 subst hz;replace e:=cnd e;rcases e with⟨_,e⟩|⟨_,e⟩
 ·cases e
 cases e;unfold BZ at f;replace f:=cnd f;rcases f with⟨_,f⟩|⟨_,f⟩
 ·exact RH f
 ·replace f:=cnd f;rcases f with⟨_,f⟩|⟨_,f⟩<;>exact RH f
theorem ajj{k:Nat}{o:zI}{b:List Int}{at_:Int}{h:zP}(e:CQ k o b at_=some (h,0)):
 (h.1=0∨h.1=2∨h.1=3)∧(h.1=3→0≤h.2.2.2.2.1∧0≤h.2.2.2.2.2.1∧0≤h.2.2.2.2.2.2.1∧0≤h.2.2.2.2.2.2.2.1):=by
 unfold CQ at e;replace e:=bnd e;obtain⟨r2,_,e⟩:=e;replace e:=bnd e;obtain⟨r3,_,e⟩:=e;replace e:=bnd e;obtain⟨b4,_,e⟩:=e;replace e:=cnd e;rcases e with⟨_,e⟩|⟨_,e⟩
 ·cases e
 replace e:=bnd e;obtain⟨r5,_,e⟩:=e;replace e:=bnd e;obtain⟨b11,f11,e⟩:=e;replace e:=bnd e;obtain⟨b13,f13,e⟩:=e;replace e:=bnd e;obtain⟨b16,f16,e⟩:=e;replace e:=cnd e;rcases e with⟨_,e⟩|⟨hb,e⟩
 ·cases e
 subst hb;obtain⟨hb,_⟩:=J5 f16;subst hb;obtain⟨hb,_⟩:=J5 f13;subst hb;obtain⟨_,f11⟩:=J5 f11;replace e:=bnd e;obtain⟨Cj,f17,e⟩:=e;replace e:=bnd e;obtain⟨FW,_,e⟩:=e;replace e:=bnd e;obtain⟨CY,_,e⟩:=e;have hk:Cj=0∨Cj=2∨Cj=3:=by
  rw[f17] at f11;simp only[yY,Au,Ao,Bool.and_eq_false_iff] at f11;rcases f11 with(f|f)|f
  ·left;simpa using f
  ·right;left;simpa using f
  ·right;right;simpa using f
 have fin:∀{c:Bool} {w:Int},CQ.c17 k b r2.1.2.1 o (0,0,0,0,0,0,0,0,false,0,false,(0,false,(0,zn,()),(0,zn,()),()),0,()) (0,0,0,0,0,0,0,0,false,0,false,(0,false,(0,zn,()),(0,zn,()),()),0,()) r2.2 (Cj,FW,0,0,0,0,0,0,c,w,false,(0,false,(0,zn,()),(0,zn,()),()),r2.1.2.1,())=some (h,0)→
  (h.1=0∨h.1=2∨h.1=3)∧(h.1=3→0≤h.2.2.2.2.1∧0≤h.2.2.2.2.2.1∧0≤h.2.2.2.2.2.2.1∧0≤h.2.2.2.2.2.2.2.1):=by
  intro c w e;obtain⟨s1,s2⟩:=Vo e;have s1:h.1=Cj:=s1;have s2:Cj=3→_:=s2;rw[s1];exact⟨hk,s2⟩
 replace e:=cnd e;rcases e with⟨_,e⟩|⟨_,e⟩
 ·replace e:=bnd e;obtain⟨y20,_,e⟩:=e
  replace e:=cnd e;rcases e with⟨_,e⟩|⟨_,e⟩
  ·cases e
  replace e:=bnd e;obtain⟨y21,_,e⟩:=e;replace e:=cnd e;rcases e with⟨_,e⟩|⟨_,e⟩<;>exact fin e
 ·exact fin e
end Go.Af
end
