/- plain laws of the claim's functions -/
import Derived.Test.YtceehofnlhfndaaGreatLawENC1
import Derived.Test.YtceehofnlhfndaaGreatLawENC0
import Derived.Test.YtceehofnlhfndaaGreatENCF0
set_option linter.unnecessarySimpa false
set_option linter.unusedSimpArgs false
set_option linter.unusedVariables false
set_option linter.unusedSectionVars false
section
namespace Go.A9
open Go.Am Go.Fn
structure Ev where
 at_:Nat
 leaf:Bool
 rep:Int
 BC:Int
 v:AP
def zv:AP:=(0,⟨#[]⟩,())
def H8(v:AP)(most:Int):Bool:= !ig v.2.1 ⟨#[]⟩|| !(decide (0≤v.1)&&decide (v.1≤most))
theorem KX{v:AP}{most:Int}(h:H8 v most=false):0≤v.1∧v.1≤most:=by
 unfold H8 at h;simp only[Bool.or_eq_false_iff,Bool.not_eq_false',CO,Cz] at h;exact h.2
abbrev BR:=Option (List Ev×List AP)
def Fb(a:BR)(f:List AP→BR):BR:=
 match a with
 |none=>none
 |some (x,V)=>match f V with
  |none=>none
  |some (y,W)=>some (x++y,W)
def jJ(F:Nat→List AP→BR)(e:Nat→Nat):Nat→Nat→List AP→BR
 |0,_,V=>some ([],V)
 |m+1,a,V=>Fb (F a V) (jJ F e m (e a))
def GR(F:List AP→BR):Nat→List AP→BR
 |0,V=>some ([],V)
 |m+1,V=>Fb (F V) (GR F m)
def iter(f:Nat→Nat):Nat→Nat→Nat
 |0,a=>a
 |n+1,a=>iter f n (f a)
def IV(s:List Cv):Nat→Nat→Nat
 |0,a=>a
 |d+1,a=>match s[a]? with
  |none=>a+1
  |some c=>iter (IV s d) c.2.2.2.1.toNat (a+1)
def ET(s:List Cv)(rep BC:Int):Nat→Nat→List Ev
 |0,_=>[]
 |n+1,i=>(match s[i]? with
  |none=>[]
  |some c=>if c.2.1=7 then[] else[⟨i,false,rep,BC,zv⟩])++ET s rep BC n (i+1)
def Gw(s:List Cv)(C:Int→Int→Int→List AP→BR)(e a:Nat)(rep BC deep:Int)(V:List AP):BR:=
 match s[a]? with
 |none=>none
 |some c=>
  if c.2.2.1=0 then C rep BC deep V
  else match V with
   |[]=>none
   |v::V=>
    if c.2.2.1=2 then
     if H8 v 20=true then none
     else if v.1=0 then some (ET s rep BC (e-a) a,V)
     else Fb (C rep (BC+1) (deep+1) V) (GR (C (deep+1) (BC+1) (deep+1)) (v.1.toNat-1))
    else
     if H8 v 1=true then none
     else if v.1=0 then some (ET s rep BC (e-a) a,V)
     else C rep (BC+1) deep V
def GQ(s:List Cv):Nat→Nat→Int→Int→Int→List AP→BR
 |0,_,_,_,_,_=>none
 |d+1,a,rep,BC,deep,V=>match s[a]? with
  |none=>none
  |some c=>
   if c.2.1=7 then jJ (fun a V=>Gw s (GQ s d a) (IV s d a) a rep BC deep V) (IV s d) c.2.2.2.1.toNat (a+1) V
   else match V with
    |[]=>none
    |v::V=>if BV c.2.1 v=true then some ([⟨a,true,rep,BC,v⟩],V) else none
def CF(V:List AP)(r:BR):Prop:=∀X W,r=some (X,W)→W.length≤V.length∧X.length+20*W.length≤20*V.length∧W=V.drop (V.length-W.length)
theorem Ld{a:BR}{f:List AP→BR}{X:List Ev}{W:List AP}(h:Fb a f=some (X,W)):∃x y V,a=some (x,V)∧f V=some (y,W)∧X=x++y:=by
 unfold Fb at h;split at h
 ·cases h
 ·rename_i x V
  split at h
  ·cases h
  ·rename_i y W' hf
   simp only[Eg,Prod.mk.injEq] at h;obtain⟨rfl,rfl⟩:=h;exact⟨x,y,V,rfl,hf,rfl⟩
theorem CF.pair{V:List AP}{a:BR}{f:List AP→BR}(h:CF V a)(k:∀W,CF W (f W)):CF V (Fb a f):=by
 intro X W hr;obtain⟨x,y,U,h1,h2,rfl⟩:=Ld hr;obtain⟨a1,a2,a3⟩:=h _ _ h1;obtain⟨b1,b2,b3⟩:=k U _ _ h2;refine⟨by omega,by simp;omega,?_⟩;rw[b3,a3,List.drop_drop]
 congr 1
 simp only[List.length_drop];omega
theorem CF.nil(V:List AP):CF V (some ([],V)):=by
 intro X W h;simp only[Eg,Prod.mk.injEq] at h;obtain⟨rfl,rfl⟩:=h;exact⟨Nat.le_refl _,by simp,by simp⟩
theorem CF.parts{F:Nat→List AP→BR}{e:Nat→Nat}(h:∀a V,CF V (F a V)):∀(m a:Nat) (V:List AP),CF V (jJ F e m a V)
 |0,_,V=>CF.nil V
 |m+1,a,V=>(h a V).pair (CF.parts h m (e a))
theorem CF.items{F:List AP→BR}(h:∀V,CF V (F V)):∀(m:Nat) (V:List AP),CF V (GR F m V)
 |0,V=>CF.nil V
 |m+1,V=>(h V).pair (CF.items h m)
theorem LZ(s:List Cv)(rep BC:Int):∀(n i:Nat),i+(ET s rep BC n i).length≤max i s.length
 |0,i=>by simp only[ET,List.length_nil];omega
 |n+1,i=>by
  have:=LZ s rep BC n (i+1);simp only[ET,A8];cases h:s[i]? with
  |none=>
   have hl:s.length≤i:=List.getElem?_eq_none_iff.1 h;simp only[List.length_nil];omega
  |some c=>
   have hl:i<s.length:=(List.getElem?_eq_some_iff.1 h).1;simp only;split<;>simp<;>omega
theorem CF.part{s:List Cv}(hs:s.length≤20){C:Int→Int→Int→List AP→BR}(h:∀r d p V,CF V (C r d p V))(e a:Nat)(rep BC deep:Int)(V:List AP):CF V (Gw s C e a rep BC deep V):=by
 intro X W hr;unfold Gw at hr;have hm:∀n,(ET s rep BC n a).length≤20:=fun n=>by
  have:=LZ s rep BC n a;rcases Nat.lt_or_ge a s.length with h1|h1
  ·omega
  ·have:(ET s rep BC n a).length=0:=by omega
   omega
 split at hr
 ·cases hr
 ·rename_i c hc
  split at hr
  ·exact h _ _ _ _ _ _ hr
  ·split at hr
   ·cases hr
   ·rename_i v V
    have lift:∀r:BR,CF V r→r=some (X,W)→W.length≤(v::V).length∧X.length+20*W.length≤20*(v::V).length∧W=(v::V).drop ((v::V).length-W.length):=by
     intro r hg hr;obtain⟨g1,g2,g3⟩:=hg _ _ hr;refine⟨by simp;omega,by simp;omega,?_⟩;rw[Bn,show V.length+1-W.length=(V.length-W.length)+1 by omega,List.drop_succ_cons];exact g3
    have ms:some (ET s rep BC (e-a) a,V)=some (X,W)→W.length≤(v::V).length∧X.length+20*W.length≤20*(v::V).length∧W=(v::V).drop ((v::V).length-W.length):=by
     intro hr;simp only[Eg,Prod.mk.injEq] at hr;obtain⟨rfl,rfl⟩:=hr;have:=hm (e-a);refine⟨by simp,by simp;omega,by simp⟩
    split at hr
    ·split at hr
     ·cases hr
     ·split at hr
      ·exact ms hr
      ·exact lift _ ((h _ _ _ _).pair (CF.items (h _ _ _) _)) hr
    ·split at hr
     ·cases hr
     ·split at hr
      ·exact ms hr
      ·exact lift _ (h _ _ _ _) hr
theorem Lb{s:List Cv}(hs:s.length≤20):∀(d a:Nat) (rep BC deep:Int) (V:List AP),CF V (GQ s d a rep BC deep V)
 |0,_,_,_,_,_=>fun X W h=>by cases h
 |d+1,a,rep,BC,deep,V=>by
  intro X W h;simp only[GQ] at h;split at h
  ·cases h
  ·split at h
   ·exact CF.parts (fun a V=>CF.part hs (fun r d p V=>Lb hs _ a r d p V) _ a rep BC deep V) _ _ _ _ _ h
   ·split at h
    ·cases h
    ·split at h
     ·simp only[Eg,Prod.mk.injEq] at h
      obtain⟨rfl,rfl⟩:=h;refine⟨by simp,by simp;omega,by simp⟩
     ·cases h
def Ei(r:BR):Option (List AP):=match r with
 |none=>none
 |some (_,W)=>some W
theorem Kk(a:BR)(f:List AP→BR):Ei (Fb a f)=(Ei a).bind fun V=>Ei (f V):=by
 unfold Fb Ei;cases a with
 |none=>rfl
 |some q=>
  obtain⟨x,V⟩:=q;simp only[AR];cases f V with
  |none=>rfl
  |some q2=>rfl
def Gn(C:List AP→Option (List AP)):Nat→List AP→Option (List AP)
 |0,V=>some V
 |m+1,V=>(C V).bind (Gn C m)
theorem Mq(F:List AP→BR)(C:List AP→Option (List AP))(h:∀V,Ei (F V)=C V):∀(m:Nat) (V:List AP),Ei (GR F m V)=Gn C m V
 |0,V=>rfl
 |m+1,V=>by
  show Ei (Fb (F V) (GR F m))=_;rw[Kk,h V];show _=(C V).bind (Gn C m)
  congr 1
  funext W;exact Mq F C h m W
def Kj(s:List Cv)(C:List AP→Option (List AP))(a:Nat)(V:List AP):Option (List AP):=
 match s[a]? with
 |none=>none
 |some c=>
  if c.2.2.1=0 then C V
  else match V with
   |[]=>none
   |v::V=>if H8 v (if c.2.2.1=2 then 20 else 1)=true then none else Gn C v.1.toNat V
theorem Xo(s:List Cv)(F:Int→Int→Int→List AP→BR)(C:List AP→Option (List AP))(h:∀r q p V,Ei (F r q p V)=C V)(e a:Nat)(rep BC deep:Int)(V:List AP):Ei (Gw s F e a rep BC deep V)=Kj s C a V:=by
 unfold Gw Kj;cases s[a]? with
 |none=>rfl
 |some c=>
  simp only;split
  ·exact h _ _ _ _
  ·cases V with
   |nil=>rfl
   |cons v V=>
    simp only;split
    ·rename_i h2
     split
     ·rename_i hb;rfl
     ·rename_i hb
      have hb:=KX (by simpa using hb);split
      ·rename_i h0;rw[h0];rfl
      ·rename_i h0
       obtain⟨n,hn⟩:∃n:Nat,v.1=((n+1:Nat):Int):=⟨v.1.toNat-1,by omega⟩;rw[hn,Kk,h];show _=Gn C (n+1) V;simp only[Gn]
       congr 1
       funext W;exact Mq _ C (h _ _ _) _ W
    ·rename_i h2
     split
     ·rename_i hb;rfl
     ·rename_i hb
      have hb:=KX (by simpa using hb);split
      ·rename_i h0;rw[h0];rfl
      ·rename_i h0
       have h1:v.1=1:=by omega
       rw[h1,h];show C V=Gn C 1 V;simp only[Gn];cases C V<;>rfl
def Jn(F:Nat→List AP→Option (List AP))(e:Nat→Nat):Nat→Nat→List AP→Option (List AP)
 |0,_,V=>some V
 |m+1,a,V=>(F a V).bind (Jn F e m (e a))
theorem Mr(F:Nat→List AP→BR)(C:Nat→List AP→Option (List AP))(h:∀a V,Ei (F a V)=C a V)(e:Nat→Nat):∀(m a:Nat) (V:List AP),Ei (jJ F e m a V)=Jn C e m a V
 |0,_,V=>rfl
 |m+1,a,V=>by
  show Ei (Fb (F a V) (jJ F e m (e a)))=_;rw[Kk,h a V];show _=(C a V).bind (Jn C e m (e a))
  congr 1
  funext W;exact Mr F C h e m (e a) W
def rC(s:List Cv):Nat→Nat→List AP→Option (List AP)
 |0,_,_=>none
 |d+1,a,V=>match s[a]? with
  |none=>none
  |some c=>
   if c.2.1=7 then Jn (fun a V=>Kj s (rC s d a) a V) (IV s d) c.2.2.2.1.toNat (a+1) V
   else match V with
    |[]=>none
    |v::V=>if BV c.2.1 v=true then some V else none
theorem Mo(s:List Cv):∀(d a:Nat) (rep BC deep:Int) (V:List AP),Ei (GQ s d a rep BC deep V)=rC s d a V
 |0,_,_,_,_,_=>rfl
 |d+1,a,rep,BC,deep,V=>by
  simp only[GQ,rC];cases s[a]? with
  |none=>rfl
  |some c=>
   simp only;split
   ·exact Mr _ _ (fun a V=>Xo s _ (rC s d a) (fun r q p V=>Mo s d a r q p V) _ a rep BC deep V) _ _ _ _
   ·cases V with
    |nil=>rfl
    |cons v V=>
     simp only;split<;>rfl
def RG(C:List AP→Option (List AP)):Prop:=∀V W,C V=some W→W.length≤V.length∧W=V.drop (V.length-W.length)
theorem RG.of{F:List AP→BR}{C:List AP→Option (List AP)}(h:∀V,Ei (F V)=C V)(g:∀V,CF V (F V)):RG C:=by
 intro V W hc;rw[←h V] at hc;unfold Ei at hc;split at hc
 ·cases hc
 ·rename_i X U hf
  simp only[Eg] at hc;subst hc;obtain⟨g1,_,g3⟩:=g V X U hf;exact⟨g1,g3⟩
theorem RG.c{s:List Cv}(hs:s.length≤20)(d a:Nat):RG (rC s d a):=RG.of (F:=GQ s d a 0 0 0) (Mo s d a 0 0 0) (Lb hs d a 0 0 0)
section
variable(k:Nat)(s:List Cv)(hs:s.length≤20)(hn:∀c,c∈s→c.1.size<k∧c.1.size<1000000000∧Be c.2.2.2.1)(hk:2000000≤k)
variable(V:List AP)(hV:V.length≤1048576)
include hs hn hk hV
end
def WO.P(_:Nat)(_:Nat):Prop:=True
section
variable(k:Nat)(s:List Cv)
end
section
variable(k:Nat)(s:List Cv)(hs:s.length≤20)(hn:∀c,c∈s→c.1.size<k∧c.1.size<1000000000∧Be c.2.2.2.1)(hk:2000000≤k)
include hs hn hk
end
def GU(s:List Cv)(X:List Ev):Prop:=∀e,e∈X→∃c,s[e.at_]?=some c∧c.2.1≠7
theorem Lc{s:List Cv}{X Y:List Ev}(h1:GU s X)(h2:GU s Y):GU s (X++Y):=fun e he=>(List.mem_append.1 he).elim (h1 e) (h2 e)
def EvL(s:List Cv)(r:BR):Prop:=∀X W,r=some (X,W)→GU s X
theorem EvL.pair{s:List Cv}{a:BR}{f:List AP→BR}(h:EvL s a)(g:∀V,EvL s (f V)):EvL s (Fb a f):=by
 intro X W he;obtain⟨x,y,V,h1,h2,rfl⟩:=Ld he;exact Lc (h _ _ h1) (g _ _ _ h2)
theorem EvL.nil(s:List Cv)(V:List AP):EvL s (some ([],V)):=by
 intro X W h;simp only[Eg,Prod.mk.injEq] at h;obtain⟨rfl,rfl⟩:=h;exact fun e he=>by cases he
theorem EvL.parts{s:List Cv}{F:Nat→List AP→BR}{e:Nat→Nat}(h:∀a V,EvL s (F a V)):∀(m a:Nat) (V:List AP),EvL s (jJ F e m a V)
 |0,_,V=>EvL.nil s V
 |m+1,a,V=>(h a V).pair (EvL.parts h m (e a))
theorem EvL.items{s:List Cv}{F:List AP→BR}(h:∀V,EvL s (F V)):∀(m:Nat) (V:List AP),EvL s (GR F m V)
 |0,V=>EvL.nil s V
 |m+1,V=>(h V).pair (EvL.items h m)
theorem LY(s:List Cv)(rep BC:Int):∀(n i:Nat),GU s (ET s rep BC n i)
 |0,i=>fun e he=>by cases he
 |n+1,i=>by
  simp only[ET];refine Lc ?_ (LY s rep BC n (i+1));cases h:s[i]? with
  |none=>exact fun e he=>by cases he
  |some c=>
   simp only;split
   ·exact fun e he=>by cases he
   ·rename_i h7
    intro e he;rw[List.mem_singleton] at he;subst he;exact⟨c,h,h7⟩
theorem EvL.part{s:List Cv}{C:Int→Int→Int→List AP→BR}(h:∀r d p V,EvL s (C r d p V))(e a:Nat)(rep BC deep:Int)(V:List AP):EvL s (Gw s C e a rep BC deep V):=by
 intro X W hr;unfold Gw at hr;have ms:∀U,some (ET s rep BC (e-a) a,U)=some (X,W)→GU s X:=by
  intro U hr;simp only[Eg,Prod.mk.injEq] at hr;obtain⟨rfl,rfl⟩:=hr;exact LY _ _ _ _ _
 split at hr
 ·cases hr
 ·split at hr
  ·exact h _ _ _ _ _ _ hr
  ·split at hr
   ·cases hr
   ·split at hr
    ·split at hr
     ·cases hr
     ·split at hr
      ·exact ms _ hr
      ·exact(EvL.pair (h _ _ _ _) (fun V=>EvL.items (h _ _ _) _ V)) _ _ hr
    ·split at hr
     ·cases hr
     ·split at hr
      ·exact ms _ hr
      ·exact h _ _ _ _ _ _ hr
end Go.A9
end
section
namespace Go.A9
open Go.Am Go.Fn
variable(k:Nat)
theorem NJ(hk:1000≤k)(t:Int)(c:Bd)(hc:BK c):∃e c',Dz k t c=some (e,c')∧0≤e∧e≤10∧BK c':=by
 have key:∀(m f:Nat) (i:Int) (o:List Int),10-i≤m→0≤i→m<f→0<o.length→o.length+2*m≤100→(∀x,x∈o→0≤x∧x≤10)→
  ∃e c',Dz.l3 k f t i c o=some (e,c')∧0≤e∧e≤10∧BK c':=by
  intro m
  induction m with
  |zero=>
   intro f i o hi h0 hf ho hl hx;obtain⟨f,rfl⟩:∃q,f=q+1:=⟨f-1,by omega⟩;obtain⟨b,c1,e1,hc1⟩:=FJ k 20 (by decide) c hc;simp only[Dz.l3,AY (show ¬i<10 by omega),AU,e1,AR];cases b with
   |true=>
    obtain⟨v,c2,e2,_,b2,hc2⟩:=DC k 11 (by decide) c1 hc1;have b2:=b2 (by decide);simp only[AQ,e2,AR];exact⟨v,c2,rfl,b2.1,by omega,hc2⟩
   |false=>
    obtain⟨v,c2,e2,hv,hc2⟩:=Gi k o ho (by omega) c1 hc1;simp only[AU,e2,AR];exact⟨v,c2,rfl,(hx v hv).1,(hx v hv).2,hc2⟩
  |succ m ih=>
   intro f i o hi h0 hf ho hl hx;obtain⟨f,rfl⟩:∃q,f=q+1:=⟨f-1,by omega⟩;by_cases hlt:i<10
   ·have hi1:IntKind.wrap .i64 (i+1)=i+1:=AV (by omega) (by omega)
    simp only[Dz.l3,AX hlt,AQ,Mw,AR,BZ,Dz.c4,hi1];cases(i !=8&&EA i t) with
    |true=>
     rw[AQ,Bc (by simp;omega),AQ]
     exact ih f (i+1) (o++[i,i]) (by omega) (by omega) (by omega) (by simp) (by simp;omega) (fun x hx'=>by
      rcases List.mem_append.1 hx' with h|h
      ·exact hx x h
      ·simp at h;omega)
    |false=>
     rw[AU];exact ih f (i+1) o (by omega) (by omega) (by omega) ho (by omega) hx
   ·obtain⟨b,c1,e1,hc1⟩:=FJ k 20 (by decide) c hc
    simp only[Dz.l3,AY hlt,AU,e1,AR];cases b with
    |true=>
     obtain⟨v,c2,e2,_,b2,hc2⟩:=DC k 11 (by decide) c1 hc1;have b2:=b2 (by decide);simp only[AQ,e2,AR];exact⟨v,c2,rfl,b2.1,by omega,hc2⟩
    |false=>
     obtain⟨v,c2,e2,hv,hc2⟩:=Gi k o ho (by omega) c1 hc1;simp only[AU,e2,AR];exact⟨v,c2,rfl,(hx v hv).1,(hx v hv).2,hc2⟩
 exact key 10 k 1 [0,8] (by omega) (by omega) (by omega) (by simp) (by simp) (fun x hx=>by simp at hx;omega)
end Go.A9
end
section
namespace Go.A9
open Go.Am Go.Fn
variable(k:Nat)
theorem WW(l:List ByteArray)(hl:0<l.length)(hl2:l.length<1000000)(c:Bd)(hc:BK c):∃v c',Ju k l c=some (v,c')∧v∈l∧BK c':=by
 unfold Ju;obtain⟨v,c',hv,_,h1,hc'⟩:=DC k (l.length:Int) (by omega) c hc;obtain⟨h1,h2⟩:=h1 (by omega);simp only[hv,AR];obtain⟨x,hx,hx2⟩:=Io h1 h2;simp only[hx,AR];exact⟨_,_,rfl,List.mem_of_getElem? hx2,hc'⟩
end Go.A9
end
section
namespace Go.A9
open Go.Am Go.Fn
variable(k:Nat)
def HY(v:AP):Prop:=Be v.1∧v.2.1.size≤100
theorem Lv:Be 0:=⟨by decide,by decide⟩
theorem e0:Br.size≤100:=by decide
theorem JO(hk:1000000≤k)(t:Int)(c:Bd)(hc:BK c):∃v c',Hq k t c=some (v,c')∧HY v∧BK c':=by
 unfold Hq;by_cases h0:t=0
 ·rw[CG h0,AQ]
  obtain⟨v1,c1,e1,_,a1,hc1⟩:=DC k 2 (by omega) c hc;have a1:=a1 (by omega);simp only[e1,AR];exact⟨_,_,rfl,⟨⟨by omega,by omega⟩,e0⟩,hc1⟩
 rw[A_ h0,AU];by_cases h1:t=1
 ·rw[CG h1,AQ]
  obtain⟨v1,c1,e1,hc1⟩:=FJ k 6 (by omega) c hc;simp only[e1,AR];cases v1 with
  |true=>
   simp only[AQ];obtain⟨v2,c2,e2,m2,hc2⟩:=Gi k [2147483647,(-2147483648),0] (by simp) (by simp) c1 hc1;simp only[e2,AR];simp only[List.mem_cons,List.not_mem_nil,or_false] at m2;exact⟨_,_,rfl,⟨⟨by omega,by omega⟩,e0⟩,hc2⟩
  |false=>
   simp only[AU];obtain⟨v2,c2,e2,_,a2,hc2⟩:=DC k 40 (by omega) c1 hc1;have a2:=a2 (by omega);simp only[e2,AR];rw[AV (by omega) (by omega)];exact⟨_,_,rfl,⟨⟨by omega,by omega⟩,e0⟩,hc2⟩
 rw[A_ h1,AU];by_cases h6:t=6
 ·rw[CG h6,AQ]
  obtain⟨v1,c1,e1,hc1⟩:=FJ k 3 (by omega) c hc;simp only[e1,AR];cases v1 with
  |true=>
   simp only[AQ];obtain⟨v2,c2,e2,m2,hc2⟩:=WW k [Br,(⟨#[97]⟩:ByteArray),(⟨#[97,98]⟩:ByteArray),(⟨#[97,98,99]⟩:ByteArray),(⟨#[97,98,100]⟩:ByteArray),(⟨#[98]⟩:ByteArray),(⟨#[97,97]⟩:ByteArray)] (by simp) (by simp) c1 hc1;simp only[e2,AR];refine⟨_,_,rfl,⟨Lv,?_⟩,hc2⟩;simp only[List.mem_cons,List.not_mem_nil,or_false] at m2;rcases m2 with rfl|rfl|rfl|rfl|rfl|rfl|rfl<;>decide
  |false=>
   simp only[AU];obtain⟨v2,c2,e2,hc2,m2⟩:=NM k 6 (by omega) hk c1 hc1;have e2:Iu k 6 c1=some (v2,c2):=e2;simp only[e2,AR];exact⟨_,_,rfl,⟨Lv,by show v2.size≤100;omega⟩,hc2⟩
 rw[A_ h6,AU];by_cases h5:t=5
 ·rw[CG h5,AQ]
  obtain⟨v1,c1,e1,_,a1,hc1⟩:=DC k 9 (by omega) c hc;have a1:=a1 (by omega);simp only[e1,AR];obtain⟨v2,c2,e2,hc2,i2⟩:=K9 k c1 hc1;simp only[e2,AR];obtain⟨v3,c3,e3,m3,hc3⟩:=Gi k [0,(-9223372036854775808),4607182418800017408,(-4616189618054758400),9221120237041090560,(-2251799813685248),v1,v2] (by simp) (by simp) c2 hc2;simp only[e3,AR];refine⟨_,_,rfl,⟨?_,e0⟩,hc3⟩;simp only[List.mem_cons,List.not_mem_nil,or_false] at m3;obtain⟨YG,YH⟩:=i2;exact⟨by show _≤v3;omega,by show v3<_;omega⟩
 ·rw[A_ h5,AU]
  obtain⟨v1,c1,e1,hc1⟩:=FJ k 2 (by omega) c hc;simp only[e1,AR];cases v1 with
  |true=>
   simp only[AQ];obtain⟨v2,c2,e2,_,a2,hc2⟩:=DC k 30 (by omega) c1 hc1;have a2:=a2 (by omega);simp only[e2,AR];rw[AV (by omega) (by omega)];exact⟨_,_,rfl,⟨⟨by omega,by omega⟩,e0⟩,hc2⟩
  |false=>
   simp only[AU];obtain⟨v2,c2,e2,hc2,i2⟩:=K9 k c1 hc1;simp only[e2,AR];exact⟨_,_,rfl,⟨i2,e0⟩,hc2⟩
end Go.A9
end
section
namespace Go.A9
open Go.Am Go.Fn
variable(k:Nat)
theorem K_(hk:1000000≤k)(t:Int)(c:Bd)(hc:BK c):∃v c',FQ k t c=some (v,c')∧HY v∧BK c':=by
 unfold FQ FQ.c7;obtain⟨v1,c1,e1,w1,hc1⟩:=JO k hk t c hc;simp only[e1,AR];obtain⟨v2,c2,e2,_,a2,hc2⟩:=DC k 25 (by omega) c1 hc1;simp only[e2,AR];by_cases h0:v2=0
 ·rw[CG h0,AQ]
  obtain⟨v3,c3,e3,m3,hc3⟩:=Gi k [2,(-1),2147483648,(-2147483649)] (by simp) (by simp) c2 hc2;simp only[e3,AR];simp only[List.mem_cons,List.not_mem_nil,or_false] at m3;exact⟨_,_,rfl,⟨⟨by show _≤v3;omega,by show v3<_;omega⟩,w1.2⟩,hc3⟩
 rw[A_ h0,AU];by_cases h1:v2=1
 ·rw[CG h1,AQ]
  obtain⟨v3,c3,e3,_,a3,hc3⟩:=DC k 2 (by omega) c2 hc2;have a3:=a3 (by omega);simp only[e3,AR];rw[AV (by omega) (by omega),Gg (by omega) (by omega),AQ];refine⟨_,_,rfl,⟨w1.1,?_⟩,hc3⟩;show(yM _).size≤100;rw[I9,List.length_replicate];omega
 ·rw[A_ h1,AU]
  exact⟨_,_,rfl,w1,hc2⟩
def F7(l:List AP):Prop:=∀v,v∈l→HY v
theorem F7.snoc{l:List AP}{v:AP}(h:F7 l)(hv:HY v):F7 (l++[v]):=fun x hx=>by
 rcases List.mem_append.1 hx with hx|hx
 ·exact h x hx
 ·simp only[List.mem_singleton] at hx;rw[hx];exact hv
theorem NK(hk:1000000≤k)(t:Int)(most:Int)(VA:most≤5000):∀(m n:Nat) (i:Int) (c:Bd) (o:List AP),0≤i→i≤5000→most-i≤m→m<n→BK c→(o.length:Int)=i→F7 o→
 ∃c' o',Ck.l4 k n t most i c o=some ((),(c',o'))∧BK c'∧F7 o'∧(o'.length:Int)≤max most i+1:=by
 intro m
 induction m with
 |zero=>
  intro n i c o hi hi5 hm hn hc ho hw;obtain⟨n,rfl⟩:∃j,n=j+1:=⟨n-1,by omega⟩;simp only[Ck.l4,AY (show ¬i<most by omega),AU];obtain⟨v1,c1,e1,hc1⟩:=FJ k 20 (by omega) c hc;simp only[e1,AR];cases v1 with
  |true=>
   simp only[AQ];obtain⟨v2,c2,e2,w2,hc2⟩:=K_ k hk t c1 hc1;simp only[e2,AR];rw[Bc (by simp;omega),AQ];exact⟨_,_,rfl,hc2,hw.snoc w2,by simp;omega⟩
  |false=>exact⟨_,_,rfl,hc1,hw,by omega⟩
 |succ m ih=>
  intro n i c o hi hi5 hm hn hc ho hw;obtain⟨n,rfl⟩:∃j,n=j+1:=⟨n-1,by omega⟩;by_cases h:i<most
  ·have hw1:IntKind.wrap .i64 (i+1)=i+1:=AV (by omega) (by omega)
   have step:∀(v:AP) (c1:Bd),HY v→BK c1→∃c' o',Ck.c5 k (Ck.l4 k n) t most i c1 (o++[v])=some ((),(c',o'))∧BK c'∧F7 o'∧(o'.length:Int)≤max most i+1:=by
    intro v c1 hv hc1;obtain⟨c',o',q1,q2,q3,q4⟩:=ih n (i+1) c1 (o++[v]) (by omega) (by omega) (by omega) (by omega) hc1 (by simp;omega) (hw.snoc hv);refine⟨c',o',?_,q2,q3,by omega⟩;unfold Ck.c5;rw[hw1];exact q1
   have hlim:∀v:AP,lim (o.length+[v].length)=true:=fun v=>Bc (by simp;omega);simp only[Ck.l4,AX h,AQ];by_cases h0:i>0
   ·rw[AX h0,AQ]
    obtain⟨v1,c1,e1,hc1⟩:=FJ k 3 (by omega) c hc;simp only[e1,AR];cases v1 with
    |true=>
     simp only[AQ];obtain⟨v2,c2,e2,_,a2,hc2⟩:=DC k i (by omega) c1 hc1;obtain⟨a2,b2⟩:=a2 (by omega);obtain⟨x,hx,hx2⟩:=Io (xs:=o) a2 (by omega);simp only[e2,AR,hx,hlim,AQ];exact step x c2 (hw x (List.mem_of_getElem? hx2)) hc2
    |false=>
     simp only[AU];obtain⟨v2,c2,e2,w2,hc2⟩:=JO k hk t c1 hc1;simp only[e2,AR,hlim,AQ];exact step v2 c2 w2 hc2
   ·rw[AY h0,AU,AU]
    obtain⟨v2,c2,e2,w2,hc2⟩:=JO k hk t c hc;simp only[e2,AR,hlim,AQ];exact step v2 c2 w2 hc2
  ·simp only[Ck.l4,AY h,AU]
   obtain⟨v1,c1,e1,hc1⟩:=FJ k 20 (by omega) c hc;simp only[e1,AR];cases v1 with
   |true=>
    simp only[AQ];obtain⟨v2,c2,e2,w2,hc2⟩:=K_ k hk t c1 hc1;simp only[e2,AR];rw[Bc (by simp;omega),AQ];exact⟨_,_,rfl,hc2,hw.snoc w2,by simp;omega⟩
   |false=>exact⟨_,_,rfl,hc1,hw,by omega⟩
theorem NL(hk:1000000≤k)(t most:Int)(h0:0≤most)(VA:most≤4000)(c:Bd)(hc:BK c):
 ∃c' o,Ck k t most c=some ((),(c',o))∧BK c'∧F7 o∧(o.length:Int)≤most+1:=by
 unfold Ck;rw[AV (by omega) (by omega)];obtain⟨v,c1,e1,_,a1,hc1⟩:=DC k (most+1) (by omega) c hc;obtain⟨a1,b1⟩:=a1 (by omega);simp only[e1,AR];obtain⟨c',o',q1,q2,q3,q4⟩:=NK k hk t v (by omega) 5000 k 0 c1 [] (by omega) (by omega) (by omega) (by omega) hc1 rfl (fun x hx=>(List.not_mem_nil hx).elim);exact⟨c',o',q1,q2,q3,by omega⟩
end Go.A9
end
section
namespace Go.A9
open Go.Am Go.Fn
theorem Xw(k:Nat)(l:List AP)(hl:l.length<k)(h2:l.length≤1000000):Fp k l l=some true:=by
 have key:∀(post pre:List AP) (f:Nat),l=pre++post→post.length<f→Fp.l4 k f l l (pre.length:Int)=some true:=by
  intro post
  induction post with
  |nil=>
   intro pre f h hf;obtain⟨f,rfl⟩:∃q,f=q+1:=⟨f-1,by omega⟩;rw[C7] at h;subst h;simp only[Fp.l4,AY (show ¬((l.length:Int)<(l.length:Int)) by omega),AU]
  |cons v post ih=>
   intro pre f h hf;simp only[Bn] at hf;obtain⟨f,rfl⟩:∃q,f=q+1:=⟨f-1,by omega⟩;have hlen:l.length=pre.length+(post.length+1):=by rw[h];simp
   have hg:gP l (pre.length:Int)=some v:=by rw[h];exact BB _ _ _
   have hi1:IntKind.wrap .i64 ((pre.length:Int)+1)=((pre.length+1:Nat):Int):=by rw[AV (by omega) (by omega)];omega
   have hi:=ih (pre++[v]) f (by rw[h];simp) (by omega);rw[A8,Bz] at hi;have hs:ig v.2.1 v.2.1=true:=by rw[Gc];exact AX rfl
   simp only[Fp.l4,AX (show(pre.length:Int)<(l.length:Int) by omega),AQ,hg,AR,CG rfl,hs,Bool.and_self,Bh,AU,hi1,hi]
 unfold Fp;rw[Fz rfl,AU];exact key l [] k rfl hl
end Go.A9
end
section
namespace Go.A9
open Go.Am Go.Fn
attribute [-simp] List.length_flatten
theorem NI(k:Nat)(hk:2000000≤k)(code:List Int)(hc:code.length≤1048576):∃e t d l,Jq k code=some ((e,t,(),d),l)∧F7 l∧l.length≤13∧d.length≤13:=by
 obtain⟨c0,e0,h0⟩:=WK k (by omega) code hc;obtain⟨t,c1,e1,h1⟩:=NN k c0 h0;obtain⟨c2,l,e2,h2,hw,hl⟩:=NL k (by omega) t 12 (by omega) (by omega) c1 h1;obtain⟨s,c3,e3,h3⟩:=FJ k 15 (by omega) c2 h2;obtain⟨e,c4,e4,_,_,h4⟩:=NJ k (by omega) t c3 h3;have hdo:∃b d ps,BH k t l=some (((),(),b),(d,ps))∧d.length≤13:=by
  rcases Xz k hk t l (by omega) with⟨_,h⟩|⟨_,ps,h,_⟩
  ·exact⟨_,_,_,h,by simp⟩
  ·have:=K3 l []
   exact⟨_,_,_,h,by simp at this;omega⟩
 obtain⟨b,d,ps,e5,hd⟩:=hdo;unfold Jq Gq;simp only[e0,AR,e1,e2,e5,e3,BZ,Gq.c6,e4];by_cases hc:(s&&decide ((d.length:Int)>0))=true
 ·have hpos:0<d.length:=by
   simp only[CO,Cz] at hc;omega
  rw[hc,AQ,FF (by omega) (by omega) (by omega),AQ];simp only[AR];exact⟨e,t,_,l,rfl,hw,by omega,by unfold kP;rw[List.length_drop,List.length_take];omega⟩
 ·rw[Bool.not_eq_true] at hc
  rw[hc,AU];simp only[AR];exact⟨e,t,d,l,rfl,hw,by omega,hd⟩
theorem fnEncs(x:List Int):∃k,J7 k x=some true:=by
 refine⟨4000000,?_⟩;generalize hk:(4000000:Nat)=k;unfold J7 J8;simp only[AR];by_cases h:(x.length:Int)>1048576
 ·rw[AX h,AQ]
 ·rw[AY h,AU]
  obtain⟨e,t,d,l,e0,hw,hl,hd⟩:=NI k (by omega) x (by omega);obtain⟨p1,p2⟩:=NT k (by omega) e t l d (by omega) (by omega) (fun v hv=>(hw v hv).1);obtain⟨o1,_⟩:=JV k e t;simp only[e0,AR,p1,p2,beq_self_eq_true,Bh,AU];have bad:(encR e t l d).1.2=false→(encR e t l d).2=[]:=by
   unfold encR;split
   ·unfold BL
    repeat' split
    all_goals first|(intro h;cases h;done)|skip
    unfold Em;split
    ·intro h;cases h
    ·intro _;rfl
   ·intro _;rfl
  cases hok:(encR e t l d).1.2 with
  |false=>
   rw[bad hok];rfl
  |true=>
   have hc:(EA e t&&BJ t l)=true:=by
    unfold encR at hok;split at hok
    ·assumption
    ·cases hok
   have heq:encR e t l d=BL e t l d:=by unfold encR;rw[if_pos hc]
   rw[heq] at hok⊢;simp only[CO] at hc;obtain⟨r1,r2⟩:=NU k (by omega) e t l d (by omega) (fun v hv=>(hw v hv).1) hc.1 hc.2 hok;obtain⟨hbl,_⟩:=JS e t l d hc.2 hc.1 (by omega);have r2:=r2 0 (by omega);simp only[Bh,AU,r1,AR];rw[Bc (by omega),AQ,Bc (by simp;omega),AQ,List.nil_append,r2];simp only[AR,AQ,Xw k l (by omega) (by omega),Dm,o1,hc.1]
end Go.A9
end
