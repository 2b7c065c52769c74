/- plain laws of the claim's functions -/
import Derived.Test.YtceehofnlhfndaaGreatLawFDP1
import Derived.KernelRfl
import Derived.Test.YtceehofnlhfndaaGreatLawFDP0
set_option linter.unnecessarySimpa false
set_option linter.unusedSimpArgs false
set_option linter.unusedVariables false
set_option linter.unusedSectionVars false
section
namespace Go.Bd
open Go.Am Go.Fn
abbrev hdr(a:Int)(bad:Bool):DC:=((),a,bad,())
abbrev zN:AR:=(0,0,0,A7,0,())
abbrev zH:Bf:=(0,0,0,0,0,0,0,0,false,0,false,zS,0,())
section
variable(k:Nat)(hk:2000000≤k){l:List AR}{af:List Int}(h:F4 l af)
include hk h
theorem hany(a:Nat)(ha:a<l.length)(id:Int)(b:Bool):E9 k id (hdr a b) (true,tB l) af=some ((nV k l a id).1,(hdr a (b|| !(nV k l a id).2),tB l,af)):=by
 obtain⟨_,g,_⟩:=J_ k (by omega) h a ha id;unfold E9 E9.c4;simp only[g,AQ];cases(nV k l a id).2<;>cases b<;>rfl
theorem Jm(a:Nat)(ha:a<l.length)(id:Int)(b:Bool):Fp k id 0 (hdr a b) (tB l) af=some ((nV k l a id).1,(hdr a (b||(!(nV k l a id).2||decide ((nV k l a id).1<0))),tB l,af)):=by
 obtain⟨_,g,_⟩:=J_ k (by omega) h a ha id;unfold Fp Fp.c4;simp only[g,AQ,cst];cases(nV k l a id).2<;>cases decide ((nV k l a id).1<0)<;>cases b<;>rfl
def Mv(l:List AR)(q:Int):Int:=((gP l q).map (·.1)).getD 0
theorem KY(q:Int)(h0:0≤q)(h1:q<l.length):∃n,gP l q=some n∧Mv l q=n.1∧Cr n=true:=by
 obtain⟨p,rfl⟩:=Int.eq_ofNat_of_zero_le h0;obtain⟨d,nx,hd,hs,hnx⟩:=h.at (i:=p) (by omega);obtain⟨n,n1,n2,n3⟩:=LC hs;refine⟨n,n1,?_,n2⟩;unfold Mv;rw[show gP l ((p:Nat):Int)=some n from n1];rfl
theorem ZV(q:Nat)(hq:q<l.length)(hn:Mv l q≠12)(id:Int):fV k l q id= -1:=by
 obtain⟨n,n1,n2,n3⟩:=KY k hk h (q:Int) (by omega) (by omega);have c1:(decide ((0:Int)≤(q:Int))&&decide ((q:Int)≤IntKind.wrap .i64 ((l.length:Int)-1)))=true:=by
  have:=h.len;rw[AY (by omega) (by omega)];simp;omega
 have:DK k l (q:Int) id=some (-1):=by
  unfold DK;simp only[Dc,c1,AQ,Bb,AU,n1,cst,BV,BQ (show ¬n.1=12 by omega),AP,BR,Bool.or_true]
 unfold fV;rw[this];rfl
def Gu(k:Nat)(l:List AR)(id:Int):Bool:=decide (0≤fV k l 0 id)&&(Mv l (fV k l 0 id)==12)
theorem Np(id:Int)(b:Bool):∃q:Nat,q<l.length∧J5 k id (hdr 0 b) (tB l) af=some ((),(hdr q (b|| !Gu k l id),tB l,af))∧ML k l id=some (if Gu k l id then(q:Int) else -1):=by
 have hpos:=h.pos;obtain⟨f1,f2,f3⟩:=Jl k (by omega) h 0 (by omega) id;rw[show((0:Nat):Int)=0 from rfl] at f1 f2 f3;unfold J5 ML Gu;simp only[f1,f2,AQ];rcases f3 with f3|⟨q,f3,q1,q2⟩
 ·rw[f3]
  refine⟨0,hpos,?_,rfl⟩;cases b<;>rfl
 ·rw[f3]
  obtain⟨n,n1,n2,n3⟩:=KY k hk h (q:Int) (by omega) (by omega);simp only[A8 (show ¬(q:Int)<0 by omega),AU,n1,AQ,n2,AZ (show(0:Int)≤(q:Int) by omega),Er];by_cases h12:n.1=12
  ·refine⟨q,q2,?_,?_⟩
   ·rw[Bw h12,Bl h12,AU];cases b<;>rfl
   ·rw[Bw h12,Bl h12];rfl
  ·refine⟨0,hpos,?_,?_⟩
   ·rw[BQ h12,A9 h12,AP];cases b<;>rfl
   ·rw[BQ h12,A9 h12];rfl
theorem aau(a:Nat)(ha:a<l.length)(ids:List Int)(hi:ids.length<1000):∀(post pre:List Int) (n:Nat) (o:List Int),ids=pre++post→post.length<n→o.length=pre.length→
 ∃out,Gd.l3 k n l (a:Int) ids (pre.length:Int) o=some (((),post.all fun id=>(nV k l a id).2),out)∧((post.all fun id=>(nV k l a id).2)=true→out=o++post.map fun id=>(nV k l a id).1):=by
 intro post
 induction post with
 |nil=>
  intro pre n o hp hn ho;obtain⟨n,rfl⟩:∃x,n=x+1:=⟨n-1,by omega⟩;have:ids=pre:=by simpa using hp
  subst this;simp only[Gd.l3,A8 (show ¬(ids.length:Int)<(ids.length:Int) by omega),AU];exact⟨o,rfl,fun _=>by simp⟩
 |cons id post ih=>
  intro pre n o hp hn ho;simp only[Co] at hn;obtain⟨n,rfl⟩:∃x,n=x+1:=⟨n-1,by omega⟩;have hlen:ids.length=pre.length+(post.length+1):=by rw[hp];simp
  have hg:gP ids (pre.length:Int)=some id:=by rw[hp];exact Ej pre post id
  obtain⟨g,_⟩:=J_ k (by omega) h a ha id;simp only[Gd.l3,AZ (show(pre.length:Int)<(ids.length:Int) by omega),AP,hg,AQ,g,List.all_cons];cases hb:(nV k l a id).2 with
  |false=>exact⟨o,rfl,fun h=>by cases h⟩
  |true=>
   obtain⟨out,i1,i2⟩:=ih (pre++[id]) n (o++[(nV k l a id).1]) (by rw[hp];simp) (by omega) (by simp[ho]);rw[BJ,CQ] at i1;simp only[Bb,AU,Bz (show o.length+[(nV k l a id).1].length≤4294967296 by simp;omega),AP,AY (x:=(pre.length:Int)+1) (by omega) (by omega),Er];exact⟨out,i1,fun hh=>by rw[i2 hh];simp⟩
theorem ids_eq(a:Nat)(ha:a<l.length)(ids:List Int)(hi:ids.length<1000):
 ∃out,Gd k l (a:Int) ids=some (((),ids.all fun id=>(nV k l a id).2),out)∧((ids.all fun id=>(nV k l a id).2)=true→out=ids.map fun id=>(nV k l a id).1):=by
 obtain⟨out,i1,i2⟩:=aau k hk h a ha ids hi ids [] k [] rfl (by omega) rfl;exact⟨out,i1,fun hh=>by rw[i2 hh];simp⟩
abbrev setSt(x:Bf)(S:D5×Bool):Bf:=(x.1,x.2.1,x.2.2.1,x.2.2.2.1,x.2.2.2.2.1,x.2.2.2.2.2.1,x.2.2.2.2.2.2.1,x.2.2.2.2.2.2.2.1,x.2.2.2.2.2.2.2.2.1,x.2.2.2.2.2.2.2.2.2.1,S.2,S.1,x.2.2.2.2.2.2.2.2.2.2.2.2.1,())
def Lp(k:Nat)(lf:Bu)(l:List AR)(a id:Int):D5×Bool:=
 if 0≤fV k l a id then(Ii k lf l (fV k l a id)).getD (zS,false) else(zS,false)
def LB(x:Bf):Prop:=x.2.2.2.2.2.2.2.2.2.2.1=false∧x.2.2.2.2.2.2.2.2.2.2.2.1=zS
theorem Qx(lf:Bu)(hlf:EH lf=true)(a:Nat)(ha:a<l.length)(id:Int)(hid:id>0)(b:Bool)(x:Bf)(hx:LB x)(Be:Bf):
 KV k lf id (hdr a b) x (tB l) af=some ((),(hdr a b,setSt x (Lp k lf l a id),tB l,af))∧CG.H7 k l id (a:Int) lf x Be=some (setSt x (Lp k lf l a id),true):=by
 obtain⟨f1,f2,f3⟩:=Jl k (by omega) h a ha id;have Nz:setSt x (zS,false)=x:=by
  obtain⟨h1,h2⟩:=hx;obtain⟨x1,x2,x3,x4,x5,x6,x7,x8,x9,x10,x11,x12,x13,x14⟩:=x;simp only at h1 h2;subst h1;subst h2;rfl
 unfold KV CG.H7 CG.Jj Lp;simp only[f1,f2,AQ,AZ hid,AP];rcases f3 with f3|⟨q,f3,q1,q2⟩
 ·rw[f3]
  exact⟨by rw[if_neg (by decide),Nz];rfl,by rw[if_neg (by decide),Nz];rfl⟩
 ·rw[f3]
  obtain⟨n,n1,n2,n3⟩:=KY k hk h (q:Int) (by omega) (by omega);obtain⟨S,s1,s2,s3⟩:=acv k hk h lf hlf q q2;rw[if_pos (by omega),s2];simp only[AZ (show(q:Int)≥0 by omega),AP,n1,AQ,s1,BV,Option.getD_some];by_cases h12:n.1=12
  ·rw[Bl h12]
   simp only[Er,AP,s2,AQ];exact⟨trivial,trivial⟩
  ·rw[A9 h12]
   have:S=(zS,false):=by
    have hm:(nV k l q 3).2=false:=by
     obtain⟨_,_,_,g4⟩:=J_ k (by omega) h q q2 3;have:=ZV k hk h q q2 (by omega) 3;cases hb:(nV k l q 3).2 with
     |false=>rfl
     |true=>have:=g4 hb;omega
    unfold Ii at s2;obtain⟨g1,_⟩:=J_ k (by omega) h q q2 3;obtain⟨t5,b5,_,g5,_⟩:=text_eq k (by omega) h q q2 5;obtain⟨t6,b6,_,g6,_⟩:=text_eq k (by omega) h q q2 6;simp only[g1,g5,g6,AQ,hm,Bv,AP,Dt] at s2;exact s2.symm
   subst this;simp only[Bool.and_false,AU];exact⟨trivial,by rw[Nz]⟩
def tl(k:Nat)(l:List AR)(a:Int):Bool:=(!(nV k l a 1).2||decide ((nV k l a 1).1<0))||decide ((nV k l a 1).1>2000)
abbrev NQ(x:Bf)(m:Int):Bf:=(x.1,x.2.1,m,x.2.2.2.1,x.2.2.2.2.1,x.2.2.2.2.2.1,x.2.2.2.2.2.2.1,x.2.2.2.2.2.2.2.1,x.2.2.2.2.2.2.2.2.1,x.2.2.2.2.2.2.2.2.2.1,x.2.2.2.2.2.2.2.2.2.2.1,x.2.2.2.2.2.2.2.2.2.2.2.1,x.2.2.2.2.2.2.2.2.2.2.2.2.1,())
theorem KE(a:Nat)(ha:a<l.length)(b:Bool)(x:Bf):CX.c23 k (hdr a b) x (tB l) af=some ((),(hdr a (b||tl k l a),NQ x (nV k l a 1).1,tB l,af)):=by
 unfold CX.c23 tl;simp only[Jm k hk h a ha 1 b,AQ,cst,Bool.or_assoc]
theorem Oa{a:Int}(hh:tl k l a=false):(nV k l a 1).2=true∧0≤(nV k l a 1).1∧(nV k l a 1).1≤2000:=by
 unfold tl at hh;simp only[Bool.or_eq_false_iff,Bool.not_eq_false',decide_eq_false_iff_not] at hh;exact⟨hh.1.1,by omega,by omega⟩
theorem Oc{a:Int}(hh:tl k l a=true):(nV k l a 1).2=false∨(decide (0≤(nV k l a 1).1)&&decide ((nV k l a 1).1≤2000))=false:=by
 cases hb:(nV k l a 1).2 with
 |false=>exact .inl rfl
 |true=>
  right;unfold tl at hh;rw[hb] at hh;simp only[Bb,Cm,Bool.or_eq_true,Ce] at hh;rw[Bool.eq_false_iff];simp only[ne_eq,BZ,Ce];omega
def Jd(k:Nat)(l:List AR)(af:List Int)(lf:Bu)(b:Bool)(x:Bf):Prop:=
 ∃(a':Int) (c:Bool) (y y':Bf),CX k lf (hdr 0 b) x (tB l) af=some ((),(hdr a' (b||c),y,tB l,af))∧CG k lf l x=some (y',!c)∧(y.2.1=x.2.1∧y.2.2.2.2.2.2.2.2.2.2.2.2.1=x.2.2.2.2.2.2.2.2.2.2.2.2.1)∧(c=false→y'=y∧0≤y.2.2.1∧y.2.2.1≤2000)
theorem abd(lf:Bu)(b:Bool)(x:Bf)(hkd:x.1=2):Jd k l af lf b x:=by
 obtain⟨q,hq,e1,e2⟩:=Np k hk h 7 b;obtain⟨out,g1,g2⟩:=ids_eq k hk h q hq [1,2] (by decide);unfold Jd CX CG CG.c7 CG.H7 CG.Jj;simp only[hkd,show((2:Int)==0)=false from rfl,show((2:Int)==3)=false from rfl,show((2:Int)==2)=true from rfl,AP,AU,e1,e2,AQ,hany k hk h q hq,KE k hk h q hq,Dc,cst,show decide ((0:Int)>0)=false from rfl];have gx:∀c:Bool,(((b|| !Gu k l 7)|| !(nV k l q 2).2)||tl k l q)=(b||(!Gu k l 7||(!(nV k l q 2).2||tl k l q))):=fun _=>by simp only[Bool.or_assoc]
 rw[gx true];cases hE:Gu k l 7 with
 |false=>
  simp only[Bool.false_eq_true,if_false,show decide ((-1:Int)<0)=true from rfl,AP];exact⟨_,_,_,_,rfl,rfl,⟨rfl,rfl⟩,fun hh=>by simp at hh⟩
 |true=>
  simp only[if_true,A8 (show ¬(q:Int)<0 by omega),AU,g1,AQ,List.all_cons,List.all_nil,Bool.and_true];cases h2:(nV k l q 2).2 with
  |false=>
   simp only[Bool.and_false,Bv,AP,AQ];exact⟨_,_,_,_,rfl,rfl,⟨rfl,rfl⟩,fun hh=>by simp at hh⟩
  |true=>
   cases ht:tl k l q with
   |true=>
    rcases Oc k hk h ht with h1|h1
    ·simp only[h1,D9,Bv,AP,AQ]
     exact⟨_,_,_,_,rfl,rfl,⟨rfl,rfl⟩,fun hh=>by simp at hh⟩
    ·cases h1':(nV k l q 1).2 with
     |false=>
      simp only[D9,Bv,AP,AQ];exact⟨_,_,_,_,rfl,rfl,⟨rfl,rfl⟩,fun hh=>by simp at hh⟩
     |true=>
      have g2:=g2 (by simp[h1',h2]);subst g2;simp only[List.map_cons,List.map_nil,Bool.and_self,Bb,AU,Jw,List.getElem?_cons_zero,AQ,h1,Bv,AP];exact⟨_,_,_,_,rfl,rfl,⟨rfl,rfl⟩,fun hh=>by simp at hh⟩
   |false=>
    obtain⟨h1,t0,t1⟩:=Oa k hk h ht;have g2:=g2 (by simp[h1,h2]);subst g2;have r1:gP [(nV k l q 1).1,(nV k l q 2).1] 1=some (nV k l q 2).1:=rfl;simp only[h1,List.map_cons,List.map_nil,Bool.and_self,Bb,AU,Jw,List.getElem?_cons_zero,AQ,r1,AZ t0,AZ t1];exact⟨_,_,_,_,rfl,rfl,⟨rfl,rfl⟩,fun _=>⟨rfl,t0,t1⟩⟩
theorem abb(lf:Bu)(hlf:EH lf=true)(b:Bool)(x:Bf)(hkd:x.1=0)(hx:LB x):Jd k l af lf b x:=by
 obtain⟨q,hq,e1,e2⟩:=Np k hk h 5 b;obtain⟨out,g1,g2⟩:=ids_eq k hk h q hq [1,2,3,4] (by decide);have st:=fun(bb:Bool) (m e:Int)=>Qx k hk h lf hlf q hq 5 (by decide) bb ((0,x.2.1,m,e,x.2.2.2.2.1,x.2.2.2.2.2.1,x.2.2.2.2.2.2.1,x.2.2.2.2.2.2.2.1,x.2.2.2.2.2.2.2.2.1,x.2.2.2.2.2.2.2.2.2.1,x.2.2.2.2.2.2.2.2.2.2.1,x.2.2.2.2.2.2.2.2.2.2.2.1,x.2.2.2.2.2.2.2.2.2.2.2.2.1,()):Bf) hx zH;by_cases hc3:(nV k l q 3).1=3∧(nV k l q 4).1=3
 ·obtain⟨h3,h4⟩:=hc3
  unfold Jd CX CG CG.c7 CX.c8;simp only[hkd,show((0:Int)==0)=true from rfl,show((0:Int)==3)=false from rfl,show((0:Int)==2)=false from rfl,AP,AU,e1,e2,AQ,hany k hk h q hq,(st _ _ _).1,KE k hk h q hq,Dc,cst];simp only[Bw h3,Bw h4,AU];rw[show((((((b|| !Gu k l 5)|| !(nV k l q 2).2)|| !(nV k l q 3).2)|| !(nV k l q 4).2)||tl k l q))=(b||(!Gu k l 5||(!(nV k l q 2).2||(!(nV k l q 3).2||(!(nV k l q 4).2||tl k l q))))) by simp only[Bool.or_assoc]];cases hE:Gu k l 5 with
  |false=>
   simp only[Bool.false_eq_true,if_false,show decide ((-1:Int)<0)=true from rfl,AP];exact⟨_,_,_,_,rfl,rfl,⟨rfl,rfl⟩,fun hh=>by simp at hh⟩
  |true=>
   simp only[if_true,A8 (show ¬(q:Int)<0 by omega),AU,g1,AQ,List.all_cons,List.all_nil,Bool.and_true];cases n2:(nV k l q 2).2 with
   |false=>
    simp only[Bool.and_false,D9,Bv,AP,AQ];exact⟨_,_,_,_,rfl,rfl,⟨rfl,rfl⟩,fun hh=>by simp at hh⟩
   |true=>
    cases n3:(nV k l q 3).2 with
    |false=>
     simp only[Bool.and_false,D9,Bv,AP,AQ];exact⟨_,_,_,_,rfl,rfl,⟨rfl,rfl⟩,fun hh=>by simp at hh⟩
    |true=>
     cases n4:(nV k l q 4).2 with
     |false=>
      simp only[Bool.and_false,D9,Bv,AP,AQ];exact⟨_,_,_,_,rfl,rfl,⟨rfl,rfl⟩,fun hh=>by simp at hh⟩
     |true=>
      cases n1:(nV k l q 1).2 with
      |false=>
       have ht:tl k l q=true:=by unfold tl;rw[n1];rfl
       rw[ht];simp only[Bool.and_false,D9,Bv,AP,AQ];exact⟨_,_,_,_,rfl,rfl,⟨rfl,rfl⟩,fun hh=>by simp at hh⟩
      |true=>
       have g2:=g2 (by simp[n1,n2,n3,n4]);subst g2;have r1:∀a b c d:Int,gP [a,b,c,d] 1=some b:=fun _ _ _ _=>rfl;have r2:∀a b c d:Int,gP [a,b,c,d] 2=some c:=fun _ _ _ _=>rfl;have r3:∀a b c d:Int,gP [a,b,c,d] 3=some d:=fun _ _ _ _=>rfl;simp only[List.map_cons,List.map_nil,Bool.and_self,Bb,AU,Jw,List.getElem?_cons_zero,AQ,r1,r2,r3,Bw h3,Bw h4];cases ht:tl k l q with
       |true=>
        rcases Oc k hk h ht with t|t
        ·rw[n1] at t;cases t
        ·simp only[t,Bv,AP]
         exact⟨_,_,_,_,rfl,rfl,⟨rfl,rfl⟩,fun hh=>by simp at hh⟩
       |false=>
        obtain⟨_,t0,t1⟩:=Oa k hk h ht;simp only[AZ t0,AZ t1,Bool.and_self,Bb,AU];exact⟨_,_,_,_,rfl,(st b _ _).2,⟨rfl,rfl⟩,fun _=>⟨rfl,t0,t1⟩⟩
 ·
   have hI:∃(a':Int) (y:Bf),CX k lf (hdr 0 b) x (tB l) af=some ((),(hdr a' true,y,tB l,af))∧(y.2.1=x.2.1∧y.2.2.2.2.2.2.2.2.2.2.2.2.1=x.2.2.2.2.2.2.2.2.2.2.2.2.1):=by
    unfold CX CX.c8;simp only[hkd,show((0:Int)==0)=true from rfl,AP,e1,AQ,hany k hk h q hq,(st _ _ _).1,KE k hk h q hq];by_cases h3:(nV k l q 3).1=3
    ·have h4:¬(nV k l q 4).1=3:=fun h4=>hc3 ⟨h3,h4⟩
     simp only[Bw h3,BQ h4,AU,AP,BR];exact⟨_,_,rfl,rfl,rfl⟩
    ·simp only[BQ h3,AP,BR]
     exact⟨_,_,rfl,rfl,rfl⟩
   have hS:∃y',CG k lf l x=some (y',false):=by
    unfold CG CG.c7;simp only[hkd,show((0:Int)==0)=true from rfl,show((0:Int)==3)=false from rfl,show((0:Int)==2)=false from rfl,AP,AU,e2,AQ,Dc,cst];cases Gu k l 5 with
    |false=>
     simp only[Bool.false_eq_true,if_false,show decide ((-1:Int)<0)=true from rfl,AP];exact⟨_,rfl⟩
    |true=>
     simp only[if_true,A8 (show ¬(q:Int)<0 by omega),AU,g1,AQ];cases hal:([1,2,3,4].all fun id=>(nV k l (q:Int) id).2) with
     |false=>
      simp only[Bv,AP,AQ];exact⟨_,rfl⟩
     |true=>
      have g2:=g2 hal;subst g2;have r1:∀a b c d:Int,gP [a,b,c,d] 1=some b:=fun _ _ _ _=>rfl;have r2:∀a b c d:Int,gP [a,b,c,d] 2=some c:=fun _ _ _ _=>rfl;have r3:∀a b c d:Int,gP [a,b,c,d] 3=some d:=fun _ _ _ _=>rfl;simp only[List.map_cons,List.map_nil,Bb,AU,Jw,List.getElem?_cons_zero,AQ,r1,r2,r3];cases(decide (0≤(nV k l (q:Int) 1).1)&&decide ((nV k l (q:Int) 1).1≤2000)) with
      |false=>exact⟨_,rfl⟩
      |true=>
       by_cases h3:(nV k l q 3).1=3
       ·have h4:¬(nV k l q 4).1=3:=fun h4=>hc3 ⟨h3,h4⟩
        simp only[Bw h3,BQ h4,AU,AQ,AP,Bb,Bool.or_true,Cm];exact⟨_,rfl⟩
       ·simp only[BQ h3,AQ,AP,Bb,AU,BR]
        exact⟨_,rfl⟩
   obtain⟨a',y,i1,i2⟩:=hI;obtain⟨y',s1⟩:=hS;exact⟨a',true,y,y',by rw[i1,Bool.or_true],s1,i2,nofun⟩
theorem abe(lf:Bu)(hlf:EH lf=true)(b:Bool)(x:Bf)(hkd:x.1=3)(hx:LB x):Jd k l af lf b x:=by
 obtain⟨q,hq,e1,e2⟩:=Np k hk h 8 b;obtain⟨out,g1,g2⟩:=ids_eq k hk h q hq [1,4,2,3,5,6] (by decide);have st:=fun(bb:Bool) (m e r n d p:Int)=>Qx k hk h lf hlf q hq 8 (by decide) bb ((3,x.2.1,m,e,r,n,d,p,x.2.2.2.2.2.2.2.2.1,x.2.2.2.2.2.2.2.2.2.1,x.2.2.2.2.2.2.2.2.2.2.1,x.2.2.2.2.2.2.2.2.2.2.2.1,x.2.2.2.2.2.2.2.2.2.2.2.2.1,()):Bf) hx zH;obtain⟨f1,f2,f3⟩:=Jl k (by omega) h q hq 7;have hmk:∃c7:Bool,(bif decide (fV k l q 7<0) then some true else(gP l (fV k l q 7)).bind fun y=>some (y.1==1))=some c7:=by
  rcases f3 with f3|⟨p,f3,p1,p2⟩
  ·rw[f3];exact⟨_,rfl⟩
  ·rw[f3,A8 (show ¬(p:Int)<0 by omega),AU]
   obtain⟨n,n1,_⟩:=KY k hk h (p:Int) (by omega) (by omega);rw[n1];exact⟨_,rfl⟩
 obtain⟨c7,Nw⟩:=hmk
 have hI:∃(a':Int),CX k lf (hdr 0 b) x (tB l) af=some ((),(hdr a' (b||(!Gu k l 8||((!(nV k l q 2).2||decide ((nV k l q 2).1<0))||((!(nV k l q 3).2||decide ((nV k l q 3).1<0))||(!(nV k l q 4).2||((!(nV k l q 5).2||decide ((nV k l q 5).1<0))||((!(nV k l q 6).2||decide ((nV k l q 6).1<0))||(c7||tl k l q)))))))),
  NQ (setSt (3,x.2.1,0,(nV k l q 4).1,(nV k l q 3).1,(nV k l q 2).1,(nV k l q 5).1,(nV k l q 6).1,x.2.2.2.2.2.2.2.2.1,x.2.2.2.2.2.2.2.2.2.1,false,zS,x.2.2.2.2.2.2.2.2.2.2.2.2.1,()) (Lp k lf l q 8)) (nV k l q 1).1,tB l,af)):=by
  unfold CX CX.c19;simp only[hkd,show((3:Int)==0)=false from rfl,show((3:Int)==3)=true from rfl,AP,AU,e1,AQ,hany k hk h q hq,Jm k hk h q hq,f2,Nw,(st _ _ _ _ _ _ _).1,KE k hk h q hq];refine⟨q,?_⟩;cases c7 with
  |true=>simp only[AP,BR,Bool.or_true]
  |false=>simp only[AU,Cm,Bool.or_assoc]
 obtain⟨a',hI⟩:=hI;generalize hYd:NQ (setSt (3,x.2.1,0,(nV k l q 4).1,(nV k l q 3).1,(nV k l q 2).1,(nV k l q 5).1,(nV k l q 6).1,x.2.2.2.2.2.2.2.2.1,x.2.2.2.2.2.2.2.2.2.1,false,zS,x.2.2.2.2.2.2.2.2.2.2.2.2.1,()) (Lp k lf l q 8)) (nV k l q 1).1=Y at hI;have hy2:Y.2.1=x.2.1∧Y.2.2.2.2.2.2.2.2.2.2.2.2.1=x.2.2.2.2.2.2.2.2.2.2.2.2.1:=by rw[←hYd];exact⟨rfl,rfl⟩
 unfold Jd;rw[hI];unfold CG CG.c7;simp only[hkd,show((3:Int)==0)=false from rfl,show((3:Int)==3)=true from rfl,show((3:Int)==2)=false from rfl,AP,AU,e2,AQ,Dc,cst,f1];cases hE:Gu k l 8 with
 |false=>
  simp only[Bool.false_eq_true,if_false,show decide ((-1:Int)<0)=true from rfl,AP];exact⟨a',_,Y,_,rfl,rfl,hy2,fun hh=>by simp at hh⟩
 |true=>
  simp only[if_true,A8 (show ¬(q:Int)<0 by omega),AU,g1,AQ];cases hal:([1,4,2,3,5,6].all fun id=>(nV k l (q:Int) id).2) with
  |false=>
   simp only[Bv,AP,AQ];refine⟨a',true,Y,_,?_,rfl,hy2,nofun⟩;have:(!true||((!(nV k l q 2).2||decide ((nV k l q 2).1<0))||((!(nV k l q 3).2||decide ((nV k l q 3).1<0))||(!(nV k l q 4).2||((!(nV k l q 5).2||decide ((nV k l q 5).1<0))||((!(nV k l q 6).2||decide ((nV k l q 6).1<0))||(c7||tl k l q)))))))=true:=by
    unfold tl;simp only[List.all_cons,List.all_nil,Bool.and_true] at hal;revert hal;cases(nV k l q 1).2<;>cases(nV k l q 2).2<;>cases(nV k l q 3).2<;>cases(nV k l q 4).2<;>cases(nV k l q 5).2<;>cases(nV k l q 6).2<;>simp
   rw[this]
  |true=>
   have g2:=g2 hal;subst g2;simp only[List.all_cons,List.all_nil,Bool.and_true,BZ] at hal;obtain⟨n1,n4,n2,n3,n5,n6⟩:=hal;have r1:∀a b c d e f:Int,gP [a,b,c,d,e,f] 1=some b:=fun _ _ _ _ _ _=>rfl;have r2:∀a b c d e f:Int,gP [a,b,c,d,e,f] 2=some c:=fun _ _ _ _ _ _=>rfl;have r3:∀a b c d e f:Int,gP [a,b,c,d,e,f] 3=some d:=fun _ _ _ _ _ _=>rfl;have r4:∀a b c d e f:Int,gP [a,b,c,d,e,f] 4=some e:=fun _ _ _ _ _ _=>rfl;have r5:∀a b c d e f:Int,gP [a,b,c,d,e,f] 5=some f:=fun _ _ _ _ _ _=>rfl;have hsum:∀y:Bool,(bif y then some true else(bif decide (fV k l q 7<0) then some true else(gP l (fV k l q 7)).bind fun y=>some (y.1==1)))=some (y||c7):=by
    intro y;rw[Nw];cases y<;>rfl
   have aap:∀y:Bool,(bif y||decide (fV k l q 7<0) then some true else(gP l (fV k l q 7)).bind fun y=>some (y.1==1))=some (y||c7):=by
    intro y;cases y with
    |true=>rfl
    |false=>rw[Cm,Nw,Cm]
   simp only[List.map_cons,List.map_nil,Bb,AU,Jw,List.getElem?_cons_zero,AQ,r1,r2,r3,r4,r5,n1,n2,n3,n4,n5,n6,Cm,f1,aap];cases ht:tl k l q with
   |true=>
    rcases Oc k hk h ht with t|t
    ·rw[n1] at t;cases t
    ·simp only[t,Bv,AP]
     refine⟨a',true,Y,_,by simp only[Bool.or_true],rfl,hy2,nofun⟩
   |false=>
    obtain⟨_,t0,t1⟩:=Oa k hk h ht;simp only[AZ t0,AZ t1,Bool.and_self,Bb,AU];cases hbad:(((((decide ((nV k l q 2).1<0)||decide ((nV k l q 3).1<0))||decide ((nV k l q 5).1<0))||decide ((nV k l q 6).1<0)))||c7) with
    |true=>
     simp only[AP];refine⟨a',true,Y,_,?_,rfl,hy2,nofun⟩;have:(decide ((nV k l q 2).1<0)||(decide ((nV k l q 3).1<0)||(decide ((nV k l q 5).1<0)||(decide ((nV k l q 6).1<0)||(c7||false)))))=true:=by
      simpa only[Bool.or_assoc,Bool.or_false] using hbad
     rw[this]
    |false=>
     simp only[AU];have:(decide ((nV k l q 2).1<0)||(decide ((nV k l q 3).1<0)||(decide ((nV k l q 5).1<0)||(decide ((nV k l q 6).1<0)||(c7||false)))))=false:=by
      simpa only[Bool.or_assoc,Bool.or_false] using hbad
     refine⟨a',false,Y,_,by rw[this],(st b _ _ _ _ _ _).2,hy2,fun _=>⟨?_,?_⟩⟩
     ·rw[←hYd,hx.1,hx.2]
     ·rw[←hYd];exact⟨t0,t1⟩
theorem abr(id kind:Int):(fV k l 0 id= -1∧GV k 0 id kind (true,tB l) af=some ((zN,false),(tB l,af)))∨
 ∃n:AR,0≤fV k l 0 id∧gP l (fV k l 0 id)=some n∧Cr n=true∧GV k 0 id kind (true,tB l) af=some ((if n.1=kind then n else zN,n.1==kind),(tB l,af)):=by
 obtain⟨f1,f2,f3⟩:=Jl k (by omega) h 0 h.pos id;rw[show((0:Nat):Int)=0 from rfl] at f1 f2 f3;unfold GV;simp only[f2,AQ];rcases f3 with f3|⟨q,f3,q1,q2⟩
 ·left
  rw[f3];exact⟨rfl,rfl⟩
 ·right
  obtain⟨n,n1,_,n2⟩:=KY k hk h (q:Int) (by omega) (by omega);rw[f3];refine⟨n,by omega,n1,n2,?_⟩;simp only[A8 (show ¬(q:Int)<0 by omega),AU,n1,AQ];by_cases hkd:n.1=kind
  ·rw[Bw hkd,Bl hkd,if_pos hkd];rfl
  ·rw[BQ hkd,A9 hkd,if_neg hkd];rfl
theorem Qg(lf:Bu)(hlf:EH lf=true)(b:Bool)(x:Bf)(hkd:x.1=0∨x.1=2∨x.1=3)(hx:LB x):Jd k l af lf b x:=by
 rcases hkd with hkd|hkd|hkd
 ·exact abb k hk h lf hlf b x hkd hx
 ·exact abd k hk h lf b x hkd
 ·exact abe k hk h lf hlf b x hkd hx
theorem Qf(lf:Bu)(b:Bool)(x:Bf)(hkd:¬(x.1=0∨x.1=2∨x.1=3)):∃a' y,CX k lf (hdr 0 b) x (tB l) af=some ((),(hdr a' true,y,tB l,af)):=by
 unfold CX;simp only[A9 (show ¬x.1=0 from fun h=>hkd (.inl h)),A9 (show ¬x.1=3 from fun h=>hkd (.inr (.inr h))),A9 (show ¬x.1=2 from fun h=>hkd (.inr (.inl h))),AU];have:=KE k hk h 0 h.pos true x;rw[show((0:Nat):Int)=0 from rfl,BR] at this;exact⟨_,_,this⟩
abbrev hd0(v1 v2:Int)(c:Bool)(w q:Int):Bf:=(v1,v2,0,0,0,0,0,0,c,w,false,zS,q,())
def GJ(k:Nat)(l:List AR)(af:List Int)(lf:Bu)(b:List Int)(q:Int)(bad:Bool)(x:Bf):Option (Bf×Int):=
 (CX k lf (hdr 0 bad) x (tB l) af).bind fun r1=>cond r1.2.1.2.2.1 (some (zH,1)) (cond (decide (r1.2.2.1.2.1>(IntKind.wrap .i64 ((List.length b:Int)-q)))) (some (zH,2)) (some (r1.2.2.1,0)))
theorem Pk(lf:Bu)(hlf:EH lf=true)(b:List Int)(q v1 v2 w p:Int)(c:Bool):GJ k l af lf b q true (hd0 v1 v2 c w p)=some (zH,1):=by
 unfold GJ;by_cases hkd:v1=0∨v1=2∨v1=3
 ·obtain⟨a',cc,y,y',e1,_⟩:=Qg k hk h lf hlf true (hd0 v1 v2 c w p) hkd ⟨rfl,rfl⟩
  rw[e1];rfl
 ·obtain⟨a',y,e1⟩:=Qf k hk h lf true (hd0 v1 v2 c w p) hkd
  rw[e1];rfl
theorem ZQ(lf:Bu)(b:List Int)(q v1 v2 w p:Int)(c bad:Bool)(hkd:¬(v1=0∨v1=2∨v1=3)):GJ k l af lf b q bad (hd0 v1 v2 c w p)=some (zH,1):=by
 unfold GJ;obtain⟨a',y,e1⟩:=Qf k hk h lf bad (hd0 v1 v2 c w p) hkd;rw[e1];rfl
theorem ZP(lf:Bu)(hlf:EH lf=true)(b:List Int)(q v1 v2 w p:Int)(c:Bool)(hkd:v1=0∨v1=2∨v1=3):
 ∃r,GJ k l af lf b q false (hd0 v1 v2 c w p)=some r∧Dh.c17 k b q lf zH zH l (hd0 v1 v2 c w p)=some r∧(r.2=0→(r.1.2.1=v2∧r.1.2.2.2.2.2.2.2.2.2.2.2.2.1=p)∧(0≤r.1.2.2.1∧r.1.2.2.1≤2000)∧r.1.2.1≤IntKind.wrap .i64 ((b.length:Int)-q))∧(r.2=0∨r.2=1∨r.2=2):=by
 unfold GJ Dh.c17;obtain⟨a',cc,y,y',e1,e2,e3,e4⟩:=Qg k hk h lf hlf false (hd0 v1 v2 c w p) hkd ⟨rfl,rfl⟩;rw[e1,e2];cases cc with
 |true=>exact⟨_,rfl,rfl,(fun hh=>by cases hh),.inr (.inl rfl)⟩
 |false=>
  obtain⟨e4,e5⟩:=e4 rfl;subst e4;simp only[AQ,Cu,AU,Bv,Bb];by_cases hs:y'.2.1>IntKind.wrap .i64 ((b.length:Int)-q)
  ·rw[AZ hs]
   exact⟨_,rfl,rfl,(fun hh=>by cases hh),.inr (.inr rfl)⟩
  ·rw[A8 hs]
   exact⟨_,rfl,rfl,fun _=>⟨e3,e5,Int.not_lt.1 hs⟩,.inl rfl⟩
theorem RA{x:Int}(h0: -2147483648≤x)(h1:x≤2147483647):bits .and .i64 x 4294967295=if x<0 then IntKind.wrap .i64 (x+4294967296) else x:=by
 have:=JF x 32 (by decide);have e:(2:Int)^32-1=4294967295:=by decide
 rw[e] at this;rw[this];have e2:(2:Int)^32=4294967296:=by decide
 rw[e2];split
 ·rw[AY (by omega) (by omega)];omega
 ·omega
theorem head_eq(lf:Bu)(hlf:EH lf=true)(b:List Int)(q:Int):
 ∃r,((E9 k 1 (hdr 0 false) (true,tB l) af).bind fun BH=>(Fp k 2 0 BH.2.1 BH.2.2.1 BH.2.2.2).bind fun r16=>
  DF.d9 k b q lf zH r16.2.2.1 r16.2.1 (BH.1,r16.1,0,0,0,0,0,0,false,0,false,zS,q,()) r16.2.2.2)=some r∧
 ((Gd k l 0 [1,2,3]).bind fun r5=>
  (cond (!r5.1.2) (some true) ((gP r5.2 0).bind fun y6=>
   (cond (y6 !=0) ((gP r5.2 0).bind fun y7=>some (y7 !=2)) (some false)).bind fun b8=>
   (cond b8 ((gP r5.2 0).bind fun y9=>some (y9 !=3)) (some false)).bind fun b10=>some (b10))).bind fun b11=>
  (cond b11 (some true) ((gP r5.2 1).bind fun Gh=>some (decide (Gh<0)))).bind fun b13=>
  (cond b13 (some true) ((gP r5.2 1).bind fun EL=>(gP r5.2 2).bind fun Gi=>some (EL !=Gi))).bind fun b16=>
  cond b16
   (some (zH,1))
   ((gP r5.2 0).bind fun CZ=>
    (gP r5.2 1).bind fun Fh=>
    (DK k l 0 4).bind fun Dy=>
    cond (decide (Dy≥0))
     ((gP l Dy).bind fun y20=>
      cond (y20.1 !=5)
       (some (zH,1))
       ((gP l Dy).bind fun y21=>
        cond (decide (y21.2.2.1<0))
         (Dh.c17 k b q lf zH zH l (CZ,Fh,0,0,0,0,0,0,true,IntKind.wrap .i64 (y21.2.2.1+4294967296),false,zS,q,()))
         (Dh.c17 k b q lf zH zH l (CZ,Fh,0,0,0,0,0,0,true,y21.2.2.1,false,zS,q,()))))
     (Dh.c17 k b q lf zH zH l (CZ,Fh,0,0,0,0,0,0,false,0,false,zS,q,()))))=some r∧
 (r.2=0→(0≤r.1.2.1∧r.1.2.2.2.2.2.2.2.2.2.2.2.2.1=q)∧(0≤r.1.2.2.1∧r.1.2.2.1≤2000)∧r.1.2.1≤IntKind.wrap .i64 ((b.length:Int)-q))∧(r.2=0∨r.2=1∨r.2=2):=by
 have hpos:=h.pos;have z:((0:Nat):Int)=0:=rfl;have a1:=hany k hk h 0 hpos 1 false;have a2:=fun bb=>Jm k hk h 0 hpos 2 bb;have a3:=fun bb=>hany k hk h 0 hpos 3 bb;obtain⟨f1,f2,f3⟩:=Jl k (by omega) h 0 hpos 4;obtain⟨out,g1,g2⟩:=ids_eq k hk h 0 hpos [1,2,3] (by decide);rw[z] at a1 f1 f2 f3 g1 g2;simp only[z] at a2 a3
 have aaa:∃(cb ch:Bool) (cw:Int),(∀bb v1 v2,DF.c11 k b q lf zH (tB l) (hdr 0 bb) (v1,v2,0,0,0,0,0,0,false,0,false,zS,q,()) af=GJ k l af lf b q (bb||cb) (hd0 v1 v2 ch cw q))∧
  ∀v1 v2,((DK k l 0 4).bind fun Dy=>cond (decide (Dy≥0)) ((gP l Dy).bind fun y20=>cond (y20.1 !=5) (some (zH,1)) ((gP l Dy).bind fun y21=>
   cond (decide (y21.2.2.1<0))
    (Dh.c17 k b q lf zH zH l (v1,v2,0,0,0,0,0,0,true,IntKind.wrap .i64 (y21.2.2.1+4294967296),false,zS,q,()))
    (Dh.c17 k b q lf zH zH l (v1,v2,0,0,0,0,0,0,true,y21.2.2.1,false,zS,q,()))))
   (Dh.c17 k b q lf zH zH l (v1,v2,0,0,0,0,0,0,false,0,false,zS,q,())))=cond cb (some (zH,1)) (Dh.c17 k b q lf zH zH l (hd0 v1 v2 ch cw q)):=by
  unfold DF.c11 DF.c14 DF.d14 GJ;simp only[f1,f2,AQ];rcases abr k hk h 4 5 with⟨p1,p2⟩|⟨n,p1,p2,p3,p4⟩
  ·simp only[p1,p2,f2,AQ,show decide ((-1:Int)≥0)=false from rfl,AU]
   refine⟨false,false,0,fun bb v1 v2=> ?_,fun v1 v2=>rfl⟩;rw[Bool.or_false];rfl
  ·simp only[p2,p4,f2,AQ,AZ (show fV k l 0 4≥0 from p1),AP]
   by_cases h5:n.1=5
   ·have Jm: -2147483648≤n.2.2.1∧n.2.2.1≤2147483647:=by
     unfold Cr at p3;rw[if_pos h5] at p3;simp only[BZ,Ce] at p3;exact p3.1.1
    rw[Bl h5,Bw h5,if_pos h5];refine⟨false,true,bits .and .i64 n.2.2.1 4294967295,fun bb v1 v2=> ?_,fun v1 v2=> ?_⟩
    ·simp only[Bb,AQ,AU,Bool.or_false]
    ·simp only[AU]
     rw[RA k hk h Jm.1 Jm.2];by_cases hneg:n.2.2.1<0
     ·rw[AZ hneg,if_pos hneg,AP]
     ·rw[A8 hneg,if_neg hneg,AU]
   ·rw[A9 h5,BQ h5,if_neg h5]
    refine⟨true,false,bits .and .i64 0 4294967295,fun bb v1 v2=> ?_,fun v1 v2=>rfl⟩;simp only[Bv,AQ,AP,Bool.or_true]
 obtain⟨cb,ch,cw,c1,c2⟩:=aaa;simp only[a1,a2,AQ,DF.d9,a3,c1,g1,c2];have hfl:∀(B C:Bool),(cond B (GJ k l af lf b q (true||cb) (hd0 (nV k l 0 1).1 (nV k l 0 2).1 ch cw q)) (GJ k l af lf b q (C||cb) (hd0 (nV k l 0 1).1 (nV k l 0 2).1 ch cw q)))=GJ k l af lf b q ((C||B)||cb) (hd0 (nV k l 0 1).1 (nV k l 0 2).1 ch cw q):=by
  intro B C;cases B<;>cases C<;>rfl
 rw[hfl];by_cases good:((nV k l 0 1).2=true∧(nV k l 0 2).2=true∧(nV k l 0 3).2=true)∧((nV k l 0 1).1=0∨(nV k l 0 1).1=2∨(nV k l 0 1).1=3)∧0≤(nV k l 0 2).1∧(nV k l 0 2).1=(nV k l 0 3).1
 ·obtain⟨⟨n1,n2,n3⟩,hkd,hs0,hs1⟩:=good
  have hal:([1,2,3].all fun id=>(nV k l 0 id).2)=true:=by simp[n1,n2,n3]
  have g2:=g2 hal;subst g2;rw[hal];have r1:∀a b c:Int,gP [a,b,c] 1=some b:=fun _ _ _=>rfl;have r2:∀a b c:Int,gP [a,b,c] 2=some c:=fun _ _ _=>rfl;have hk3:((bif (nV k l 0 1).1 !=0 then(some ((nV k l 0 1).1 !=2):Option Bool) else some false).bind fun b8=>(bif b8 then(some ((nV k l 0 1).1 !=3):Option Bool) else some false).bind fun b10=>some b10)=some false:=by
   rcases hkd with e|e|e<;>rw[e]<;>rfl
  simp only[List.map_cons,List.map_nil,Bb,AU,Jw,List.getElem?_cons_zero,AQ,r1,r2,hk3,n1,n2,n3,A8 (show ¬(nV k l 0 2).1<0 by omega),Bw hs1,Bw hs1.symm,Cu,Cm];cases cb with
  |true=>exact⟨_,Pk k hk h lf hlf b q _ _ _ _ _,rfl,(fun hh=>by cases hh),.inr (.inl rfl)⟩
  |false=>
   obtain⟨r,e1,e2,e3,e9⟩:=ZP k hk h lf hlf b q (nV k l 0 1).1 (nV k l 0 2).1 cw q ch hkd;exact⟨r,e1,e2,(fun hh=>by obtain⟨⟨x1,x2⟩,x3,x4⟩:=e3 hh;exact⟨⟨by omega,x2⟩,x3,x4⟩),e9⟩
 ·refine⟨(zH,1),?_,?_,(fun hh=>by cases hh),.inr (.inl rfl)⟩
  ·by_cases hkd:(nV k l 0 1).1=0∨(nV k l 0 1).1=2∨(nV k l 0 1).1=3
   ·have:((((((false|| !(nV k l 0 1).2)||(!(nV k l 0 2).2||decide ((nV k l 0 2).1<0)))|| !(nV k l 0 3).2)||((nV k l 0 3).1 !=(nV k l 0 2).1))||cb))=true:=by
     cases n1:(nV k l 0 1).2 with
     |false=>simp
     |true=>
      cases n2:(nV k l 0 2).2 with
      |false=>simp
      |true=>
       cases n3:(nV k l 0 3).2 with
       |false=>simp
       |true=>
        by_cases hs:(nV k l 0 2).1<0
        ·rw[AZ hs];simp
        ·have:¬(nV k l 0 3).1=(nV k l 0 2).1:=fun e=>good ⟨⟨n1,n2,n3⟩,hkd,by omega,e.symm⟩
         rw[BQ this];simp
    rw[this];exact Pk k hk h lf hlf b q _ _ _ _ _
   ·exact ZQ k hk h lf b q _ _ _ _ _ _ hkd
  ·cases hal:([1,2,3].all fun id=>(nV k l 0 id).2) with
   |false=>rfl
   |true=>
    have g2:=g2 hal;subst g2;simp only[List.all_cons,List.all_nil,Bool.and_true,BZ] at hal;obtain⟨n1,n2,n3⟩:=hal;have r1:∀a b c:Int,gP [a,b,c] 1=some b:=fun _ _ _=>rfl;have r2:∀a b c:Int,gP [a,b,c] 2=some c:=fun _ _ _=>rfl;simp only[List.map_cons,List.map_nil,Bb,AU,Jw,List.getElem?_cons_zero,AQ,r1,r2];by_cases hkd:(nV k l 0 1).1=0∨(nV k l 0 1).1=2∨(nV k l 0 1).1=3
    ·have hk3:((bif (nV k l 0 1).1 !=0 then(some ((nV k l 0 1).1 !=2):Option Bool) else some false).bind fun b8=>(bif b8 then(some ((nV k l 0 1).1 !=3):Option Bool) else some false).bind fun b10=>some b10)=some false:=by
      rcases hkd with e|e|e<;>rw[e]<;>rfl
     rw[hk3];simp only[AQ,AU];by_cases hs:(nV k l 0 2).1<0
     ·rw[AZ hs];rfl
     ·have:¬(nV k l 0 2).1=(nV k l 0 3).1:=fun e=>good ⟨⟨n1,n2,n3⟩,hkd,by omega,e⟩
      rw[A8 hs,BQ this];rfl
    ·have hk3:((bif (nV k l 0 1).1 !=0 then(some ((nV k l 0 1).1 !=2):Option Bool) else some false).bind fun b8=>(bif b8 then(some ((nV k l 0 1).1 !=3):Option Bool) else some false).bind fun b10=>some b10)=some true:=by
      rw[BQ (fun e=>hkd (.inl e)),BQ (fun e=>hkd (.inr (.inl e))),BQ (fun e=>hkd (.inr (.inr e)))];rfl
     rw[hk3];rfl
end
theorem aaf(k:Nat)(hk:2000000≤k)(lf:Bu)(b:List Int)(hl:b.length<4611686018427387904)(hb:Bn b)(at_:Int):
 ∃r,DF k lf b at_=some r∧Dh k lf b at_=some r∧
  (r.2=0→EH lf=true∧0≤r.1.2.1∧0≤r.1.2.2.2.2.2.2.2.2.2.2.2.2.1∧r.1.2.2.2.2.2.2.2.2.2.2.2.2.1+r.1.2.1≤(b.length:Int)∧0≤r.1.2.2.1∧r.1.2.2.1≤2000∧0≤at_∧at_<r.1.2.2.2.2.2.2.2.2.2.2.2.2.1)∧(r.2=0∨r.2=1∨r.2=2):=by
 have hr:=Od k (by omega) b hl hb at_;unfold DF Dh;cases ht:JA b at_ with
 |bad c=>
  rw[ht] at hr;obtain⟨hc,e1,e2⟩:=hr;have hto:∃x,Jq k []=some x:=by
   obtain⟨_,_,h2⟩:=MQ k (by omega) [] (fun n hn=>by cases hn) (by simp);rcases h2 with⟨_,x,hx⟩|⟨_,_,h1,_⟩
   ·exact⟨_,hx⟩
   ·simp at h1
  obtain⟨x,hx⟩:=hto;simp only[e1,e2,hx,AQ,(Jt k lf).1,(Jt k lf).2,cst,BQ hc,Bool.or_true,BR,AP];exact⟨(zH,1),rfl,rfl,(fun hh=>by cases hh),.inr (.inl rfl)⟩
 |ok q Y=>
  rw[ht] at hr;obtain⟨e1,e2⟩:=hr;have g:=acJ hl hb ht;have hok:=abR k (by omega) g;obtain⟨bb,h1,h2⟩:=MQ k (by omega) Y g.wf (by have:=g.len;omega);rw[hok] at h1;rcases h2 with⟨rfl,_⟩|⟨_,hl1,hl2,af,hx,hSb,_⟩
  ·cases h1
  have h:F4 Y af:=⟨hl1,hl2,hSb,g.wf⟩;simp only[e1,e2,hx,AQ,(Jt k lf).1,(Jt k lf).2,cst,Bw rfl,Bool.or_false,Bb];cases hlf:EH lf with
  |false=>
   simp only[Bv,AP];exact⟨(zH,1),rfl,rfl,(fun hh=>by cases hh),.inr (.inl rfl)⟩
  |true=>
   simp only[Bb,AU];obtain⟨r,r1,r2,r3,r4⟩:=head_eq k hk h lf hlf b (q:Int);refine⟨r,r1,r2,fun hh=> ?_,r4⟩;obtain⟨⟨x1,x2⟩,x3,x4⟩:=r3 hh;have:=g.rng;rw[AY (by omega) (by omega)] at x4;exact⟨trivial,x1,by omega,by omega,x3.1,x3.2,by omega,by omega⟩
def Fv(n:Int):List AR:=[FC 7 2,CL 1 n,CL 2 0]
theorem aat(K:Nat)(size n:Int)(sum:Bool)(r:Nat):Gd (K+100) (Dj 2 size sum r (Fv n)) 0 [1,2,3]=some (((),true),[2,size,size]):=by
 cases sum<;>kernel_rfl
theorem ZT(K:Nat)(size n:Int)(sum:Bool)(r:Nat):DK (K+100) (Dj 2 size sum r (Fv n)) 0 4=some (if sum then 4 else -1):=by
 cases sum<;>kernel_rfl
theorem abq(K:Nat)(size n:Int)(sum:Bool)(r:Nat):ML (K+100) (Dj 2 size sum r (Fv n)) 7=some (if sum then 5 else 4):=by
 cases sum<;>kernel_rfl
theorem aas(K:Nat)(size n:Int)(sum:Bool)(r:Nat):Gd (K+100) (Dj 2 size sum r (Fv n)) (if sum then 5 else 4) [1,2]=some (((),true),[n,0]):=by
 cases sum<;>kernel_rfl
theorem aci(k:Nat)(hk:2000≤k){b:List Int}(hl:b.length<4611686018427387904)(hb:Bn b){at_:Int}{q:Int}{L:List AR}(h:Gm k b at_=some (((),q,0),L)):Ki k b at_=some (((),q,0),L):=by
 have h2:=Od k hk b hl hb at_;cases ht:JA b at_ with
 |bad e=>
  rw[ht] at h2;obtain⟨he,_,h3⟩:=h2;rw[h3] at h;simp only[Dt,Prod.mk.injEq] at h;exact(he h.1.2.2).elim
 |ok q' Y=>
  rw[ht] at h2;obtain⟨h3,h4⟩:=h2;rw[h4] at h;rw[h3,h]
def KI(size n q:Int)(sum:Bool)(r:Nat):Bf:=(2,size,n,0,0,0,0,0,sum,(if sum then(r:Int) else 0),false,zS,q,())
theorem aaD(k:Nat)(hk:100≤k)(lf:Bu)(size n q:Int)(sum:Bool)(r:Nat)(c:Int)(h0:0≤n)(h1:n≤2000):
 CG k lf (Dj 2 size sum r (Fv n)) (2,size,0,0,0,0,0,0,sum,c,false,zS,q,())=some ((2,size,n,0,0,0,0,0,sum,c,false,zS,q,()),true):=by
 obtain⟨K,rfl⟩:∃q,k=q+100:=⟨k-100,by omega⟩;unfold CG CG.c7
 simp only[show((2:Int)==2)=true from rfl,AP,abq,AQ,A8 (show ¬((if sum then 5 else 4:Int)<0) by split<;>omega),AU,aas,Bb,Dc,AZ h0,AZ h1,Bool.and_self,
  show gP [n,0] 0=some n from rfl,show gP [n,0] 1=some 0 from rfl,show((2:Int)==0)=false from rfl,show((2:Int)==3)=false from rfl,CG.H7,show decide ((0:Int)>0)=false from rfl,CG.Jj]
theorem aah(k:Nat)(hk:2000≤k)(t:Int)(ht:Di t=true)(b:List Int)(hb:b.length<4611686018427387904)(at_ q size n:Int)(sum:Bool)(r:Nat)(hr:r<2^32)(h0:0≤n)(h1:n≤2000)(h2:0≤size)(q0:0≤q)(h3:q+size≤(b.length:Int))
 (hL:Ki k b at_=some (((),q,0),Dj 2 size sum r (Fv n))):Dh k (t,0,0,()) b at_=some (KI size n q sum r,0):=by
 have hlf:EH (t,0,0,())=true:=by unfold EH;simp[ht]
 obtain⟨K,hK⟩:∃q,k=q+100:=⟨k-100,by omega⟩;have e1:Gd k (Dj 2 size sum r (Fv n)) 0 [1,2,3]=some (((),true),[2,size,size]):=by rw[hK];exact aat K size n sum r
 have e2:DK k (Dj 2 size sum r (Fv n)) 0 4=some (if sum then 4 else -1):=by rw[hK];exact ZT K size n sum r
 have ew:IntKind.wrap .i64 ((b.length:Int)-q)=(b.length:Int)-q:=AY (by omega) (by omega)
 have fin:∀c,Dh.c17 k b q (t,0,0,()) (0,0,0,0,0,0,0,0,false,0,false,(0,false,(0,A7,()),(0,A7,()),()),0,()) (0,0,0,0,0,0,0,0,false,0,false,(0,false,(0,A7,()),(0,A7,()),()),0,()) (Dj 2 size sum r (Fv n))
  (2,size,0,0,0,0,0,0,sum,c,false,(0,false,(0,A7,()),(0,A7,()),()),q,())=some ((2,size,n,0,0,0,0,0,sum,c,false,zS,q,()),0):=by
  intro c;unfold Dh.c17;have:=aaD k (by omega) (t,0,0,()) size n q sum r c h0 h1;unfold zS at this;rw[this];simp only[AQ,Bb,AU,ew,A8 (show ¬size>(b.length:Int)-q by omega)]
 have hg:sum=true→∃N:AR,gP (Dj 2 size sum r (Fv n)) 4=some N∧N.1=5∧N.2.2.1=EB r:=fun h=>by subst h;exact⟨_,rfl,rfl,rfl⟩
 generalize Dj 2 size sum r (Fv n)=L at hL e1 e2 fin hg;unfold Dh
 simp only[hL,AQ,(Jt k (t,0,0,())).2,hlf,Bb,cst,BV,AU,show((0:Int) !=0)=false from rfl,e1,show gP [(2:Int),size,size] 0=some 2 from rfl,show gP [(2:Int),size,size] 1=some size from rfl,show gP [(2:Int),size,size] 2=some size from rfl,
  show((2:Int) !=0)=true from rfl,AP,show((2:Int) !=2)=false from rfl,A8 (show ¬size<0 by omega),Bw rfl,e2]
 cases sum with
 |false=>
  simp only[Bool.false_eq_true,if_false,show decide ((-1:Int)≥0)=false from rfl,AU];exact fin 0
 |true=>
  obtain⟨⟨N1,N2,N3,N4,N5,_⟩,g1,g2,g3⟩:=hg rfl;have g2:N1=5:=g2;have g3:N3=EB r:=g3;subst g2 g3;simp only[if_true,show decide ((4:Int)≥0)=true from rfl,AP,g1,AQ];rw[show((5:Int) !=5)=false from rfl,AU];have hd:KI size n q true r=(2,size,n,0,0,0,0,0,true,(r:Int),false,zS,q,()):=rfl;rw[hd];by_cases hc:((r:Nat):Int)≤2147483647
  ·have e:EB r=r:=by unfold EB;rw[if_pos hc]
   rw[e,A8 (show ¬((r:Nat):Int)<0 by omega),AU];exact fin _
  ·have e:EB r=(r:Int)-4294967296:=by unfold EB;rw[if_neg hc]
   rw[e,AZ (show((r:Nat):Int)-4294967296<0 by omega),AP,AY (x:=(r:Int)-4294967296+4294967296) (by omega) (by omega),show(r:Int)-4294967296+4294967296=r by omega];exact fin _
end Go.Bd
end
section
namespace Go.Bd
open Go.Am Go.Fn
attribute [-simp] List.length_flatten
theorem aaF(L M:Nat):leB (L+1) M=((M%256:Nat):Int)::leB L (M/256):=by
 unfold leB;rw[List.range_succ_eq_map,List.map_cons,List.map_map]
 congr 1
 ·simp
 ·apply List.map_congr_left
  intro i _;simp only[Function.comp_apply];rw[Nat.pow_succ',Nat.div_div_eq_div_mul]
theorem QT:∀(L M:Nat),wv (leB L M)=M%256^L
 |0,M=>by simp[leB,wv,Nat.mod_one]
 |L+1,M=>by
  rw[aaF,wv,QT L (M/256),Int.toNat_natCast,Nat.pow_succ',Nat.mod_mul]
variable(k:Nat)
theorem Oo(hk:100≤k)(pre post:List Int)(n M:Nat)(hn:n≤8)(h1:1≤n)(hl:pre.length+post.length<1000000000000)(hb1:Ci pre)(hb2:Ci post):
 ED k (pre++(leB n M++post)) (pre.length:Int) (n:Int)=some (IntKind.wrap .i64 ((M%256^n:Nat):Int),((pre.length+n:Nat):Int),true):=by
 have hby:Ci (pre++(leB n M++post)):=by
  intro x hx;rcases List.mem_append.1 hx with hx|hx
  ·exact hb1 x hx
  ·rcases List.mem_append.1 hx with hx|hx
   ·exact PU _ _ x hx
   ·exact hb2 x hx
 have hlen:(pre++(leB n M++post)).length=pre.length+(n+post.length):=by simp[De]
 obtain⟨_,l2⟩:=QN k (pre++(leB n M++post)) pre.length n hn (by omega) (by omega) hby n k 0 0 (by omega) (by omega) (by simp);rw[show IntKind.wrap .i64 ((0:Nat):Int)=0 by decide,show((0:Nat):Int)=0 from rfl] at l2;simp only[Nat.zero_add,Nat.add_zero,Nat.mul_zero,Nat.pow_zero,Nat.mul_one] at l2;rw[List.drop_left' rfl,List.take_left' (De n M),QT] at l2;have hr:(decide ((1:Int)≤(n:Int))&&decide ((n:Int)≤8))=true:=by simp;omega
 have e1:IntKind.wrap .i64 (((pre++(leB n M++post)).length:Int)-(n:Int))=((pre++(leB n M++post)).length:Int)-n:=AY (by omega) (by omega);unfold ED;simp only[CB,hr,AQ,Bb,AU,cst,Cm,e1,A8 (show ¬(pre.length:Int)<0 by omega),A8 (show ¬(pre.length:Int)>((pre++(leB n M++post)).length:Int)-n by omega),Cu];exact l2
theorem JK{a b:List Int}(ha:Ci a)(hb:Ci b):Ci (a++b):=fun x hx=>(List.mem_append.1 hx).elim (ha x) (hb x)
theorem Ng(n M:Nat):Ci (leB n M):=PU n M
theorem OX(s:ByteArray):Ci (fH s):=by
 intro x hx;unfold fH at hx;obtain⟨c,_,rfl⟩:=List.mem_map.1 hx;have:=UInt8.toNat_lt c;omega
theorem OW(t:Int)(v:AV):Ci (Cw t v):=by
 unfold Cw;split
 ·exact JK (Ng _ _) (OX _)
 ·split<;>exact Ng _ _
theorem LJ(t:Int)(l:List AV):Ci (BX t l):=by
 unfold BX;split
 ·exact Ng _ _
 ·intro x hx
  obtain⟨y,hy,hx⟩:=List.mem_flatten.1 hx;obtain⟨v,_,rfl⟩:=List.mem_map.1 hy;exact OW t v x hx
theorem MZ{v w:AV}(h1:v.1=w.1)(h2:v.2.1=w.2.1):v=w:=Prod.ext h1 (Prod.ext h2 rfl)
theorem abx(hk:100≤k)(t:Int)(ht:t=1∨t=2∨t=5∨t=6)(v:AV)(hv:CK t v=true)(hi:Bt v.1)(pre post:List Int)(hl:pre.length+post.length<100000000000)(hb1:Ci pre)(hb2:Ci post):
 J6 k t (pre++(Cw t v++post)) (pre.length:Int)=some (v,((pre.length+(Cw t v).length:Nat):Int),true):=by
 unfold J6;rcases(show t=1∨(t=2∨t=5)∨t=6 by omega) with rfl|G_|rfl
 ·have hc: -2147483648≤v.1∧v.1≤2147483647∧v.2.1=⟨#[]⟩:=by
   rcases I4 hv with⟨h,_⟩|⟨_,h⟩|⟨h|h,_⟩|⟨h,_⟩<;>first|exact h|omega
  have e:Cw 1 v=leB 4 (u64 v.1):=by unfold Cw;rw[if_neg (by decide),if_pos rfl]
  have hw:=Oo k hk pre post 4 (u64 v.1) (by omega) (by omega) (by omega) hb1 hb2;rw[show((4:Nat):Int)=4 from rfl] at hw;rw[e];simp only[show((1:Int) !=6)=true from rfl,AP,Ed,show((1:Int)==1)=true from rfl,AQ,hw,IE,show((4:Int)==4)=true from rfl,De];have hm:((u64 v.1%256^4:Nat):Int)=v.1%4294967296:=by
   unfold u64;omega
  congr 2
  refine MZ ?_ hc.2.2.symm;show IntKind.wrap .i64 (IntKind.wrap .i32 (IntKind.wrap .i64 ((u64 v.1%256^4:Nat):Int)))=v.1;rw[hm,AY (x:=v.1%4294967296) (by omega) (by omega)];have:IntKind.wrap .i32 (v.1%4294967296)=v.1:=by
   have h2:v.1%4294967296%2^32=v.1%4294967296:=Int.emod_eq_of_lt (by omega) (by omega);simp only[IntKind.wrap,IntKind.bits,IntKind.signed,h2,Er,Ce];by_cases h:v.1%4294967296≥2^(32-1)
   ·rw[if_pos h];omega
   ·rw[if_neg h];omega
  rw[this];exact AY (by omega) (by omega)
 ·have hc:v.2.1=⟨#[]⟩:=by
   rcases I4 hv with⟨h,_⟩|⟨h,_⟩|⟨_,h⟩|⟨h,_⟩<;>first|exact h|omega
  have e:Cw t v=leB 8 (u64 v.1):=by unfold Cw;rw[if_neg (by omega),if_neg (by omega)]
  have hw:=Oo k hk pre post 8 (u64 v.1) (by omega) (by omega) (by omega) hb1 hb2;rw[show((8:Nat):Int)=8 from rfl] at hw;have e6:(t !=6)=true:=by rcases G_ with rfl|rfl<;>rfl
  have ew:Ed k t=some 8:=by rcases G_ with rfl|rfl<;>rfl
  rw[e];simp only[e6,AP,ew,AQ,hw,IE,show((8:Int)==4)=false from rfl,AU,De];have hm:u64 v.1%256^8=u64 v.1:=Nat.mod_eq_of_lt (by have:=MS v.1;omega);rw[hm,wrap_u64 hi]
  congr 2
  exact MZ rfl hc.symm
 ·have hc:v.1=0∧v.2.1.size≤40:=by
   rcases I4 hv with⟨h,_⟩|⟨h,_⟩|⟨h|h,_⟩|⟨_,h⟩<;>first|exact h|omega
  have e:Cw 6 v=leB 4 (u64 (v.2.1.size:Int))++fH v.2.1:=by unfold Cw;rw[if_pos rfl]
  have hw:=Oo k hk pre (fH v.2.1++post) 4 (u64 (v.2.1.size:Int)) (by omega) (by omega) (by rw[BJ,vR];omega) hb1 (JK (OX _) hb2);rw[show((4:Nat):Int)=4 from rfl] at hw;have hm:IntKind.wrap .i64 ((u64 (v.2.1.size:Int)%256^4:Nat):Int)=(v.2.1.size:Int):=by
   have:u64 (v.2.1.size:Int)=v.2.1.size:=by unfold u64;omega
   rw[this,Nat.mod_eq_of_lt (by omega)];exact AY (by omega) (by omega)
  rw[hm] at hw;rw[e,EI];have hlen:(pre++(leB 4 (u64 (v.2.1.size:Int))++(fH v.2.1++post))).length=pre.length+(4+(v.2.1.size+post.length)):=by simp[De,vR]
  have e1:IntKind.wrap .i64 (((pre.length+(4+(v.2.1.size+post.length)):Nat):Int)-((pre.length+4:Nat):Int))=((v.2.1.size+post.length:Nat):Int):=by rw[AY (by omega) (by omega)];omega
  have e2:IntKind.wrap .i64 (((pre.length+4:Nat):Int)+(v.2.1.size:Int))=((pre.length+4+v.2.1.size:Nat):Int):=by rw[AY (by omega) (by omega)];omega
  simp only[show((6:Int) !=6)=false from rfl,AU,hw,AQ,cst,Bb,Cm,hlen,e1,e2,A8 (show ¬(v.2.1.size:Int)>40 by omega),A8 (show ¬(v.2.1.size:Int)>((v.2.1.size+post.length:Nat):Int) by omega),Cu,EF (show(0:Int)≤((pre.length+4:Nat):Int) by omega) (show((pre.length+4:Nat):Int)≤((pre.length+4+v.2.1.size:Nat):Int) by omega) (show((pre.length+4+v.2.1.size:Nat):Int)≤((pre.length+(4+(v.2.1.size+post.length)):Nat):Int) by omega),AP];have hcut:kP (pre++(leB 4 (u64 (v.2.1.size:Int))++(fH v.2.1++post))) ((pre.length+4:Nat):Int) ((pre.length+4+v.2.1.size:Nat):Int)=fH v.2.1:=by
   unfold kP;rw[Int.toNat_natCast,Int.toNat_natCast,List.drop_take,show pre.length+4+v.2.1.size-(pre.length+4)=v.2.1.size by omega];rw[show pre++(leB 4 (u64 (v.2.1.size:Int))++(fH v.2.1++post))=(pre++leB 4 (u64 (v.2.1.size:Int)))++(fH v.2.1++post) by simp];rw[List.drop_left' (by simp[De]),List.take_left' (vR _)]
  rw[hcut,PN]
  congr 2
  ·exact MZ hc.1.symm rfl
  ·rw[BJ,De,vR]
   congr 1
   omega
theorem abU(hk:100≤k)(t:Int)(ht:t=1∨t=2∨t=5∨t=6)(l:List AV)(hl:l.length≤2000)(hv:∀v,v∈l→CK t v=true∧Bt v.1)(pre post:List Int)(hl2:pre.length+post.length<1000000000)(hb1:Ci pre)(hb2:Ci post):
 ∀(q p:List AV) (n:Nat),l=p++q→q.length<n→
 Em.l8 k n t (pre++((l.map (Cw t)).flatten++post)) ((pre.length+((p.map (Cw t)).flatten).length:Nat):Int) (l.length:Int) (p.length:Int) p=some (((),((pre.length+((l.map (Cw t)).flatten).length:Nat):Int),true),l):=by
 have hlen:∀q:List AV,(∀v,v∈q→CK t v=true)→((q.map (Cw t)).flatten).length≤44*q.length:=by
  intro q
  induction q with
  |nil=>intro _;simp
  |cons v q ih=>
   intro h;have:=ih (fun x hx=>h x (by simp[hx]));have:=Mw (h v (by simp));rw[List.map_cons,List.flatten_cons,BJ,Co];omega
 have hby:∀q:List AV,Ci ((q.map (Cw t)).flatten):=by
  intro q x hx;obtain⟨y,hy,hx⟩:=List.mem_flatten.1 hx;obtain⟨v,_,rfl⟩:=List.mem_map.1 hy;exact OW t v x hx
 intro q
 induction q with
 |nil=>
  intro p n hp hn;obtain⟨n,rfl⟩:∃x,n=x+1:=⟨n-1,by omega⟩;have:l=p:=by simpa using hp
  subst this;simp only[Em.l8,A8 (show ¬(l.length:Int)<(l.length:Int) by omega),AU]
 |cons v q ih=>
  intro p n hp hn;simp only[Co] at hn;obtain⟨n,rfl⟩:∃x,n=x+1:=⟨n-1,by omega⟩;have hll:l.length=p.length+(q.length+1):=by rw[hp];simp
  obtain⟨v1,v2⟩:=hv v (by rw[hp];simp);have hmv:∀x,x∈p→CK t x=true:=fun x hx=>(hv x (by rw[hp];simp[hx])).1;have hmq:∀x,x∈q→CK t x=true:=fun x hx=>(hv x (by rw[hp];simp[hx])).1;have hsplit:pre++((l.map (Cw t)).flatten++post)=(pre++(p.map (Cw t)).flatten)++(Cw t v++((q.map (Cw t)).flatten++post)):=by rw[hp];simp
  have l1:=hlen p hmv;have l2:=hlen q hmq;have h1:=abx k hk t ht v v1 v2 (pre++(p.map (Cw t)).flatten) ((q.map (Cw t)).flatten++post) (by rw[BJ,BJ];omega) (JK hb1 (hby p)) (JK (hby q) hb2);rw[←hsplit,BJ] at h1;have e:IntKind.wrap .i64 ((p.length:Int)+1)=((p.length+1:Nat):Int):=by rw[AY (by omega) (by omega)];omega
  have:=ih (p++[v]) n (by rw[hp];simp) (by omega);simp only[Em.l8,AZ (show(p.length:Int)<(l.length:Int) by omega),AP,h1,AQ,Bb,AU,Bz (show p.length+[v].length≤4294967296 by simp;omega),e];rw[BJ,CQ,List.map_append,List.flatten_append,BJ] at this;simp only[List.map_cons,List.map_nil,List.flatten_cons,List.flatten_nil,DU] at this;rw[Nat.add_assoc];exact this
theorem Rl(hk:3000≤k)(vs:List Int)(w:Nat)(hw:w≤62)(hl:vs.length≤2000)(hv:∀x,x∈vs→0≤x∧x<2^w)(pre post:List Int)(hl2:pre.length+post.length<1000000000):
 JZ k (pre++(Fw w vs++post)) (pre.length:Int) (vs.length:Int) (w:Int)=some (((),((pre.length+bytesOf vs.length w:Nat):Int),true),vs):=by
 obtain⟨z,h1,h2,hz⟩:=Nf k (vs.length:Int) (w:Int);have hz:z=((bytesOf vs.length w:Nat):Int):=by
  rcases hz with⟨_,hn⟩|⟨_,_,_,_,hz⟩
  ·exact(hn ⟨by omega,by omega,by omega,by omega⟩).elim
  ·simpa using hz
 subst hz;obtain⟨_,l8,l9⟩:=len8 (n:=vs.length) (w:=w) (by omega) (by omega);have hpl:(Fw w vs).length=bytesOf vs.length w:=De _ _;have hlen:(pre++(Fw w vs++post)).length=pre.length+(bytesOf vs.length w+post.length):=by rw[BJ,BJ,hpl]
 have e:IntKind.wrap .i64 (((pre++(Fw w vs++post)).length:Int)-(pre.length:Int))=((bytesOf vs.length w+post.length:Nat):Int):=by rw[hlen,AY (by omega) (by omega)];omega
 have u:=MU k pre post (bytesOf vs.length w) (Ga w vs) w vs.length (by omega) l9 (by omega) (by omega) (by omega) (by omega);have PE:(2:Int)^w≤2^62:=by exact_mod_cast(Nat.pow_le_pow_right (by decide) hw:(2:Nat)^w≤2^62)
 rw[acT w vs (fun v h=>by
  obtain⟨x0,x1⟩:=hv v h;refine⟨⟨by omega,by omega⟩,?_⟩;have:((u64 v:Nat):Int)=v:=by rw[JB];omega
  exact_mod_cast(show((u64 v:Nat):Int)<2^w by omega)) vs.length (Nat.le_refl _),List.take_length] at u
 unfold JZ;have c0:(decide ((0:Int)≤(pre.length:Int))&&decide ((pre.length:Int)≤((pre++(Fw w vs++post)).length:Int)))=true:=by rw[hlen];simp;omega
 have u':DY k (pre++(Fw w vs++post)) (pre.length:Int) (vs.length:Int) (w:Int)=some ((),vs):=u;simp only[h1,AQ,CB,cst,A8 (show ¬((bytesOf vs.length w:Nat):Int)<0 by omega),Cm,c0,Bb,e,A8 (show ¬((bytesOf vs.length w:Nat):Int)>((bytesOf vs.length w+post.length:Nat):Int) by omega),AU,u'];rw[AY (by omega) (by omega)];simp
theorem abA(hk:3000≤k)(t:Int)(l:List AV)(h:Eu t l=true)(hi:∀v,v∈l→Bt v.1)(pre post:List Int)(hl2:pre.length+post.length<100000000)(hb1:Ci pre)(hb2:Ci post):
 Em k t (pre++(BX t l++post)) (pre.length:Int) (l.length:Int)=some (((),((pre.length+(BX t l).length:Nat):Int),true),l)∧
 Ef k t (pre++(BX t l++post)) (pre.length:Int) (l.length:Int)=some (((),((pre.length+(BX t l).length:Nat):Int),true),l)∧(BX t l).length≤44*l.length:=by
 obtain⟨hv,hl,hty⟩:=I5.1 h;have hlen:(BX t l).length≤44*l.length:=by
  unfold BX;split
  ·have:(Fw 1 (l.map (·.1))).length=bytesOf (l.map (·.1)).length 1:=De _ _
   rw[this,List.length_map];unfold bytesOf;omega
  ·have:∀q:List AV,(∀v,v∈q→CK t v=true)→((q.map (Cw t)).flatten).length≤44*q.length:=by
    intro q
    induction q with
    |nil=>intro _;simp
    |cons v q ih=>
     intro h;have:=ih (fun x hx=>h x (by simp[hx]));have:=Mw (h v (by simp));rw[List.map_cons,List.flatten_cons,BJ,Co];omega
   exact this l hv
 have hbl:(pre++(BX t l++post)).length=pre.length+((BX t l).length+post.length):=by simp
 have key:Em k t (pre++(BX t l++post)) (pre.length:Int) (l.length:Int)=some (((),((pre.length+(BX t l).length:Nat):Int),true),l):=by
  have c1:(decide ((0:Int)≤(l.length:Int))&&decide ((l.length:Int)≤2000))=true:=by simp;omega
  have c2:(decide ((0:Int)≤(pre.length:Int))&&decide ((pre.length:Int)≤((pre++(BX t l++post)).length:Int)))=true:=by rw[hbl];simp;omega
  unfold Em;simp only[Lt,hty,CB,AQ,cst,Bb,Cm,c1,c2,AU];by_cases ht:t=0
  ·subst ht
   have e:BX 0 l=Fw 1 (l.map (·.1)):=by unfold BX;rw[if_pos rfl]
   have hb:=Rl k hk (l.map (·.1)) 1 (by omega) (by rw[List.length_map];omega) (fun x hx=>by
    obtain⟨v,hv',rfl⟩:=List.mem_map.1 hx;rcases I4 (hv v hv') with⟨_,h0,h1,_⟩|⟨h,_⟩|⟨h|h,_⟩|⟨h,_⟩<;>omega) pre post (by omega)
   rw[List.length_map,show((1:Nat):Int)=1 from rfl] at hb;obtain⟨v1,_⟩:=Oj k (l.map (·.1)) (by rw[List.length_map];omega) (l.map (·.1)) [] k rfl (by rw[List.length_map];omega);rw[List.length_nil,List.map_nil,show((0:Nat):Int)=0 from rfl] at v1;have hval:(l.map (·.1)).map (fun x=>((x,A7,()):AV))=l:=by
    rw[List.map_map]
    conv=>rhs;rw[←List.map_id l]
    apply List.map_congr_left;intro v hv';rcases I4 (hv v hv') with⟨_,_,_,h0⟩|⟨h,_⟩|⟨h|h,_⟩|⟨h,_⟩<;>first|exact MZ rfl h0.symm|omega
   rw[e];have hpl:(Fw 1 (l.map (·.1))).length=bytesOf l.length 1:=by rw[show(Fw 1 (l.map (·.1))).length=bytesOf (l.map (·.1)).length 1 from De _ _,List.length_map]
   simp only[show((0:Int)==0)=true from rfl,AP,hb,AQ,FO,v1,hpl];rw[hval]
  ·have ht':t=1∨t=2∨t=5∨t=6:=by rcases QB hty with h|h|h|h|h<;>omega
   have e:BX t l=(l.map (Cw t)).flatten:=by unfold BX;rw[if_neg ht]
   have:=abU k (by omega) t ht' l hl (fun v hv'=>⟨hv v hv',hi v hv'⟩) pre post (by omega) hb1 hb2 l [] k rfl (by omega);rw[A9 ht,AU,e];simpa using this
 obtain⟨nx,ok,l',e1,e2,_⟩:=Mx k hk t (pre++(BX t l++post)) (by rw[hbl];omega) (JK hb1 (JK (LJ t l) hb2)) (pre.length:Int) (l.length:Int) ⟨by omega,by omega⟩;rw[key] at e1;simp only[Dt,Prod.mk.injEq,true_and] at e1;obtain⟨⟨rfl,rfl⟩,rfl⟩:=e1;exact⟨key,e2,hlen⟩
end Go.Bd
end
section
namespace Go.Bd
open Go.Am Go.Fn
abbrev Db(h:Bf):Int:=h.2.2.2.2.2.2.2.2.2.2.2.2.1
theorem checked_eq(k:Nat)(hk:2000000≤k)(lf:Bu)(b:List Int)(hl:b.length≤1048576)(hb:Bn b)(at_:Int):
 ∃(h:Bf) (c:Int),DF k lf b at_=some (h,c)∧Dh k lf b at_=some (h,c)∧
  ((c≠0∧c≠3∧GQ k lf b at_=some (h,[],c))∨
   (c=0∧EH lf=true∧0≤Db h∧0≤h.2.1∧Db h+h.2.1≤(b.length:Int)∧0≤h.2.2.1∧h.2.2.1≤2000∧
    ∃r:Int,Hw k (kP b (Db h) (Db h+h.2.1))=some r∧
     GQ k lf b at_=some (if h.2.2.2.2.2.2.2.2.1=true∧r≠h.2.2.2.2.2.2.2.2.2.1 then(h,[],3) else(h,kP b (Db h) (Db h+h.2.1),0)))):=by
 obtain⟨⟨h,c⟩,e1,e2,e3,e4⟩:=aaf k hk lf b (by omega) hb at_;refine⟨h,c,e1,e2,?_⟩;by_cases hc:c=0
 ·subst hc
  obtain⟨f1,f2,f3,f4,f5,f6,_⟩:=e3 rfl;right;have f2:0≤h.2.1:=f2;have f3:0≤Db h:=f3;have f4:Db h+h.2.1≤(b.length:Int):=f4;have ew:IntKind.wrap .i64 (Db h+h.2.1)=Db h+h.2.1:=AY (by omega) (by omega);have hcb:Bn (kP b (Db h) (Db h+h.2.1)):=fun x hx=>by
   unfold kP at hx;exact hb x (List.mem_of_mem_take (List.mem_of_mem_drop hx))
  have hcl:(kP b (Db h) (Db h+h.2.1)).length≤1048576:=by
   unfold kP;rw[List.length_drop,List.length_take];omega
  obtain⟨r,r1,r2⟩:=Rz k (by omega) _ (show(kP b (Db h) (Db h+h.2.1)).length<1000000000 by omega) (by omega) hcb;refine⟨rfl,f1,f3,f2,f4,f5,f6,r,r2,?_⟩;unfold GQ GQ.d5;simp only[e1,AQ,Bw rfl,AU];have ew:IntKind.wrap .i64 (h.2.2.2.2.2.2.2.2.2.2.2.2.1+h.2.1)=h.2.2.2.2.2.2.2.2.2.2.2.2.1+h.2.1:=ew;have r1:Jo k (kP b h.2.2.2.2.2.2.2.2.2.2.2.2.1 (h.2.2.2.2.2.2.2.2.2.2.2.2.1+h.2.1))=some r:=r1;rw[ew,EF f3 (show Db h≤Db h+h.2.1 by omega) f4,AP,r1];cases hs:h.2.2.2.2.2.2.2.2.1 with
  |false=>rw[if_neg (fun hh=>by cases hh.1)];rfl
  |true=>
   simp only[AQ,AP];by_cases hr:h.2.2.2.2.2.2.2.2.2.1=r
   ·rw[Bw hr,if_neg (fun hh=>hh.2 hr.symm)];rfl
   ·rw[BQ hr,if_pos ⟨trivial,fun e=>hr e.symm⟩];rfl
 ·left
  have e4:c=0∨c=1∨c=2:=e4;have h3:c≠3:=by omega
  refine⟨hc,h3,?_⟩;unfold GQ;simp only[e1,AQ,BQ hc,AP]
theorem RJ(k:Nat)(hk:2000000≤k)(t:Int)(b:List Int)(hl:b.length≤1048576)(hb:Bn b)(at_:Int):
 ∃r,Mi k t b at_=some r∧IV k t b at_=some r∧r.2.length≤2000∧(r.1.2.2=0→Di t=true∧∀v,v∈r.2→CK t v=true∧Bt v.1):=by
 obtain⟨h,c,e1,e2,e3⟩:=checked_eq k hk (t,0,0,()) b hl hb at_;unfold Mi IV;rcases e3 with⟨c0,c3,e3⟩|⟨rfl,f1,f2,f3,f4,f5,f6,r,r1,e3⟩
 ·simp only[e2,e3,AQ,BQ c0,A9 c0,A9 c3,AP,AU]
  exact⟨(((),0,c),[]),rfl,rfl,by simp,fun hh=>(c0 hh).elim⟩
 ·have ew:IntKind.wrap .i64 (h.2.2.2.2.2.2.2.2.2.2.2.2.1+h.2.1)=h.2.2.2.2.2.2.2.2.2.2.2.2.1+h.2.1:=AY (show _≤Db h+h.2.1 by omega) (show Db h+h.2.1<_ by omega)
  have hsl:jM h.2.2.2.2.2.2.2.2.2.2.2.2.1 (h.2.2.2.2.2.2.2.2.2.2.2.2.1+h.2.1) b.length=true:=EF f2 (show Db h≤Db h+h.2.1 by omega) f4;simp only[e2,e3,AQ,Bw rfl,AU,BV];by_cases hkd:(h.1 !=2||(h.2.2.2.1 !=0&&h.2.2.2.1 !=2))=true
  ·refine⟨(((),0,1),[]),?_,?_,by simp,fun hh=>by cases hh⟩
   ·by_cases hs:h.2.2.2.2.2.2.2.2.1=true∧r≠h.2.2.2.2.2.2.2.2.2.1
    ·rw[if_pos hs]
     simp only[show((3:Int)==0)=false from rfl,show((3:Int)==3)=true from rfl,AU,AQ,AP,cst,hkd,Cu,Bool.or_false,Cm,Bool.or_true,BR,BV,Er,D9]
    ·rw[if_neg hs]
     simp only[show((0:Int)==0)=true from rfl,AQ,AP,cst,hkd,Cu,Bool.or_false,Cm,Bool.or_true,BR,BV,Er]
   ·simp only[AQ,cst,hkd,AP]
  ·have hkd:=Bool.eq_false_iff.2 hkd
   obtain⟨nx,ok,l,p1,p2,pr⟩:=Mx k (by omega) t (kP b (Db h) (Db h+h.2.1)) (by unfold kP;rw[List.length_drop,List.length_take];omega) (fun x hx=>by
    unfold kP at hx;exact hb x (List.mem_of_mem_take (List.mem_of_mem_drop hx))) 0 h.2.2.1 ⟨by decide,by decide⟩
   have r1:Hw k (kP b h.2.2.2.2.2.2.2.2.2.2.2.2.1 (h.2.2.2.2.2.2.2.2.2.2.2.2.1+h.2.1))=some r:=r1;have p2:Ef k t (kP b h.2.2.2.2.2.2.2.2.2.2.2.2.1 (h.2.2.2.2.2.2.2.2.2.2.2.2.1+h.2.1)) 0 h.2.2.1=some (((),nx,ok),l):=p2;unfold IV.d8;simp only[AQ,cst,hkd,AU,ew,hsl,AP,r1,p2];by_cases hs:h.2.2.2.2.2.2.2.2.1=true∧r≠h.2.2.2.2.2.2.2.2.2.1
   ·obtain⟨hs1,hs2⟩:=hs
    rw[if_pos ⟨hs1,hs2⟩,hs1,BQ hs2];simp only[show((3:Int)==0)=false from rfl,show((3:Int)==3)=true from rfl,show((3:Int) !=0)=true from rfl,AU,AQ,AP,hkd,cst,Cu,Bool.or_false,Cm,Bool.or_true,BR,BV,Er,D9];exact⟨(((),0,3),[]),rfl,rfl,by simp,fun hh=>by cases hh⟩
   ·rw[if_neg hs]
    have hin:(bif h.2.2.2.2.2.2.2.2.1 then
     (bif r !=h.2.2.2.2.2.2.2.2.2.1 then some ((((),0,3),[]):(Unit×Int×Int)×List AV) else(bif !ok||nx !=((kP b h.2.2.2.2.2.2.2.2.2.2.2.2.1 (h.2.2.2.2.2.2.2.2.2.2.2.2.1+h.2.1)).length:Int) then some (((),0,5),[]) else some (((),h.2.2.2.2.2.2.2.2.2.2.2.2.1+h.2.1,0),l)))
     else(bif !ok||nx !=((kP b h.2.2.2.2.2.2.2.2.2.2.2.2.1 (h.2.2.2.2.2.2.2.2.2.2.2.2.1+h.2.1)).length:Int) then some (((),0,5),[]) else some (((),h.2.2.2.2.2.2.2.2.2.2.2.2.1+h.2.1,0),l)))=
     (bif !ok||nx !=((kP b h.2.2.2.2.2.2.2.2.2.2.2.2.1 (h.2.2.2.2.2.2.2.2.2.2.2.2.1+h.2.1)).length:Int) then some (((),0,5),[]) else some (((),h.2.2.2.2.2.2.2.2.2.2.2.2.1+h.2.1,0),l)):=by
     cases hs1:h.2.2.2.2.2.2.2.2.1 with
     |false=>rfl
     |true=>
      have:r=h.2.2.2.2.2.2.2.2.2.1:=Classical.byContradiction fun hh=>hs ⟨hs1,hh⟩;rw[Bw this];rfl
    have p1:Em k t (kP b h.2.2.2.2.2.2.2.2.2.2.2.2.1 (h.2.2.2.2.2.2.2.2.2.2.2.2.1+h.2.1)) 0 h.2.2.1=some (((),nx,ok),l):=p1;rw[hin];simp only[show((0:Int)==0)=true from rfl,show((0:Int) !=0)=false from rfl,AU,AQ,AP,cst,hkd,p1,ew,Cu,Bool.or_false,BR,BV,Er];cases ok with
    |false=>
     simp only[Bv,BR,AP];exact⟨(((),0,5),[]),rfl,rfl,by simp,fun hh=>by cases hh⟩
    |true=>
     have hlen:=pr.len rfl;have hm:=pr.m0 rfl;cases(!true||nx !=((kP b h.2.2.2.2.2.2.2.2.2.2.2.2.1 (h.2.2.2.2.2.2.2.2.2.2.2.2.1+h.2.1)).length:Int)) with
     |true=>exact⟨(((),0,5),[]),rfl,rfl,by simp,fun hh=>by cases hh⟩
     |false=>exact⟨_,rfl,rfl,(by show l.length≤2000;omega),fun _=>⟨pr.ty rfl,pr.vk rfl⟩⟩
end Go.Bd
end
section
namespace Go.Bd
open Go.Am Go.Fn
variable(k:Nat)
def DN:Nat→Nat→Nat
 |0,_=>0
 |f+1,u=>if u=0 then 0 else DN f (u/2)+1
theorem Rm:∀f,DN f 0=0
 |0=>rfl
 |f+1=>rfl
theorem LF:∀f u,DN f u≤f
 |0,_=>Nat.le_refl _
 |f+1,u=>by
  have:=LF f (u/2);simp only[DN];split<;>omega
theorem OP:∀f u,u<2^f→u<2^DN f u
 |0,u,h=>h
 |f+1,u,h=>by
  simp only[DN];split
  ·omega
  ·rw[Nat.pow_succ] at h⊢
   have:=OP f (u/2) (by omega);omega
theorem JI:∀f g u,u<2^f→DN (f+g) u=DN f u
 |0,g,u,h=>by
  have:u=0:=by simpa using h
  subst this;simp[Rm]
 |f+1,g,u,h=>by
  rw[show f+1+g=(f+g)+1 by omega];simp only[DN];rw[Nat.pow_succ] at h;rw[JI f g (u/2) (by omega)]
theorem LG:∀s f u,2^s≤u→DN (f+s) u=DN f (u/2^s)+s
 |0,f,u,_=>by simp
 |s+1,f,u,h=>by
  rw[Nat.pow_succ] at h;have h0:u≠0:=by have:=Nat.two_pow_pos s;omega
  rw[show f+(s+1)=(f+s)+1 by omega];simp only[DN,h0,if_false];rw[LG s f (u/2) (by omega),Nat.div_div_eq_div_mul,Nat.pow_succ,Nat.mul_comm 2];omega
def G8(u:Nat):Nat:=DN 64 u
theorem NS(kk:IntKind)(a n:Nat)(h:n≤kk.bits):qW kk (a:Int) (n:Int)=((a/2^n:Nat):Int):=by
 rw[FT kk _ n h];simp
theorem aaI:∀u:Fin 256,bits_Len64.c10 0 ((u.val:Nat):Int) 0=some ((DN 8 u.val:Nat):Int):=by decide+kernel
theorem PY(u:Nat)(hu:u<256)(t2:Nat)(h2:t2<1000):bits_Len64.c10 k (u:Int) (t2:Int)=some ((t2+DN 8 u:Nat):Int):=by
 have h0:=aaI ⟨u,hu⟩;have hs:bits_Len64.c10 k (u:Int) (t2:Int)=(bits_Len64.c10 0 (u:Int) 0).bind fun r=>some (IntKind.wrap .i64 ((t2:Int)+r)):=by
  unfold bits_Len64.c10;rw[Option.bind_assoc]
  congr 1
  funext y;simp only[AQ];rw[Int.zero_add,AY (I7 y) (I6 y)]
 have hb:=LF 8 u;rw[hs,h0];simp only[AQ];rw[AY (by omega) (by omega)];rfl
theorem PX(u:Nat)(hu:u<18446744073709551616):bits_Len64 k (u:Int)=some (G8 u:Int):=by
 unfold bits_Len64;have c7:∀(u t:Nat),u<65536→t<900→bits_Len64.c7 k (u:Int) (t:Int)=some ((t+DN 16 u:Nat):Int):=by
  intro u t hu ht;unfold bits_Len64.c7;by_cases h:256≤u
  ·rw[AZ (show(u:Int)≥256 by omega),AP]
   have:=NS .u64 u 8 (by decide);rw[show((8:Nat):Int)=8 from rfl] at this;rw[this,AY (by omega) (by omega)];have:=PY k (u/2^8) (by simp;omega) (t+8) (by omega);rw[show((t:Int)+8)=((t+8:Nat):Int) by omega,this];rw[show(16:Nat)=8+8 by rfl,LG 8 8 u (by simpa using h)]
   congr 2;omega
  ·rw[A8 (show ¬(u:Int)≥256 by omega),AU,PY k u (by omega) t (by omega)]
   have:=JI 8 8 u (by simp;omega);rw[this]
 have c4:∀(u t:Nat),u<4294967296→t<800→bits_Len64.c4 k (u:Int) (t:Int)=some ((t+DN 32 u:Nat):Int):=by
  intro u t hu ht;unfold bits_Len64.c4;by_cases h:65536≤u
  ·rw[AZ (show(u:Int)≥65536 by omega),AP]
   have:=NS .u64 u 16 (by decide);rw[show((16:Nat):Int)=16 from rfl] at this;rw[this,AY (by omega) (by omega)];have:=c7 (u/2^16) (t+16) (by simp;omega) (by omega);rw[show((t:Int)+16)=((t+16:Nat):Int) by omega,this];rw[show(32:Nat)=16+16 by rfl,LG 16 16 u (by simpa using h)]
   congr 2;omega
  ·rw[A8 (show ¬(u:Int)≥65536 by omega),AU,c7 u t (by omega) (by omega)]
   have:=JI 16 16 u (by simp;omega);rw[this]
 unfold G8;by_cases h:4294967296≤u
 ·rw[AZ (show(u:Int)≥4294967296 by omega),AP]
  have:=NS .u64 u 32 (by decide);rw[show((32:Nat):Int)=32 from rfl] at this;rw[this];have:=c4 (u/2^32) 32 (by simp;omega) (by omega);rw[show((32:Nat):Int)=32 from rfl] at this;rw[this,show(64:Nat)=32+32 by rfl,LG 32 32 u (by simpa using h)]
  congr 2;omega
 ·rw[A8 (show ¬(u:Int)≥4294967296 by omega),AU]
  have:=c4 u 0 (by omega) (by omega);rw[show((0:Nat):Int)=0 from rfl] at this;rw[this];have:=JI 32 32 u (by simp;omega);rw[this];simp
theorem wu64(v:Int):IntKind.wrap .u64 v=(u64 v:Int):=by rw[G7,JB]
theorem acZ(v:Int):IG k v=some (G8 (u64 v):Int):=by
 unfold IG;rw[wu64,PX k _ (MS v)];rfl
theorem Rn{u:Nat}(h:u<18446744073709551616):u<2^G8 u:=OP 64 u (by simpa using h)
theorem acR:u64 0=0:=by decide
theorem acQ{v:Int}(h0:0≤v)(h1:v<9223372036854775808):(u64 v:Int)=v:=by rw[JB];omega
theorem O3(v:Int)(hv:Bt v):Gf k v 1=some ((u64 v/2:Nat):Int):=by
 unfold Gf;rw[A9 (by decide),AU,AZ (by decide),AP,show IntKind.wrap .i64 (64-1)=63 by decide,AZ (by decide),AP];have h1:qW .i64 v 1=v/2:=FT .i64 v 1 (by decide);have h2:IntKind.wrap .i64 (qV .i64 1 63-1)=2^63-1:=by decide
 rw[h1,h2];have h3:∀x:Int,bits .and .i64 x (2^63-1)=x%2^63:=by
  intro x;have hb:(BitVec.ofInt 64 x&&&BitVec.ofInt 64 (2^63-1)).toNat=(x%9223372036854775808).toNat:=by
   have h4:BitVec.ofInt 64 (2^63-1)=BitVec.ofNat 64 (2^63-1):=by decide
   rw[h4,BitVec.toNat_and,BitVec.toNat_ofNat,BitVec.toNat_ofInt];rw[show(2^63-1)%2^64=2^63-1 by decide,Nat.and_two_pow_sub_one_eq_mod];omega
  show IntKind.wrap .i64 (((BitVec.ofInt 64 x&&&BitVec.ofInt 64 (2^63-1)).toNat:Nat):Int)=_;rw[hb,Int.toNat_of_nonneg (by omega),AY (by omega) (by omega)];rfl
 rw[h3]
 congr 1
 have:=JB v;omega
end Go.Bd
end
section
namespace Go.Bd
open Go.Am Go.Fn
variable(k:Nat)
abbrev GD:=(Unit×Int×Bool)×List Int
theorem OQ{u w:Nat}(hw:w≤64)(hu:u<18446744073709551616):G8 u≤w↔u<2^w:=by
 constructor
 ·intro h
  exact Nat.lt_of_lt_of_le (Rn hu) (Nat.pow_le_pow_right (by decide) h)
 ·intro h
  have e:=JI w (64-w) u h;rw[show w+(64-w)=64 by omega] at e;unfold G8;rw[e];exact LF w u
theorem aaB(L4:(List Int)→Int→Int→Int→(List Int)→Option GD)(b:List Int)(many w x nx:Int)(m:Nat)(hm:m≤100000):∀(d n i:Nat) (o:List Int),i+d=m→d<n→o.length+d≤100000→
 DR.Ex k L4 n b many w x nx (m:Int) (i:Int) o=L4 b nx many w (o++List.replicate d x):=by
 intro d
 induction d with
 |zero=>
  intro n i o hi hn ho;obtain⟨n,rfl⟩:∃x,n=x+1:=⟨n-1,by omega⟩;simp only[DR.Ex,A8 (show ¬(i:Int)<(m:Int) by omega),AU];simp
 |succ d ih=>
  intro n i o hi hn ho;obtain⟨n,rfl⟩:∃x,n=x+1:=⟨n-1,by omega⟩;have e:IntKind.wrap .i64 ((i:Int)+1)=((i+1:Nat):Int):=by rw[AY (by omega) (by omega)];omega
  simp only[DR.Ex,AZ (show(i:Int)<(m:Int) by omega),AP,Bz (show o.length+[x].length≤4294967296 by simp;omega),e];rw[ih n (i+1) _ (by omega) (by omega) (by simp;omega),EI];rfl
theorem acp(L4:(List Int)→Int→Int→Int→(List Int)→Option GD)(b:List Int)(many:Nat)(w x nx:Int)(c:Nat)(hc:c<9223372036854775808)(hm:many≤2000):∀(d n i:Nat) (o:List Int),d=min (c-i) (many-o.length)→i≤c→d<n→i+d≤100000→
 Cy.K3 k L4 n b (many:Int) w nx (c:Int) x (i:Int) o=L4 b nx (many:Int) w (o++List.replicate d x):=by
 intro d
 induction d with
 |zero=>
  intro n i o hi hic hn ho;obtain⟨n,rfl⟩:∃x,n=x+1:=⟨n-1,by omega⟩;have:(decide ((i:Int)<(c:Int))&&decide ((o.length:Int)<(many:Int)))=false:=by
   rw[Bool.eq_false_iff];intro h;simp only[BZ,Ce] at h;omega
  simp only[Cy.K3,BV,this,AQ,AU];simp
 |succ d ih=>
  intro n i o hi hic hn ho;obtain⟨n,rfl⟩:∃x,n=x+1:=⟨n-1,by omega⟩;have e:IntKind.wrap .i64 ((i:Int)+1)=((i+1:Nat):Int):=by rw[AY (by omega) (by omega)];omega
  simp only[Cy.K3,BV,AZ (show(i:Int)<(c:Int) by omega),AZ (show(o.length:Int)<(many:Int) by omega),Bool.and_self,AQ,AP,Bz (show o.length+[x].length≤4294967296 by simp;omega),e];rw[ih n (i+1) _ (by simp;omega) (by omega) (by omega) (by omega),EI];rfl
theorem acA(Ky:(List Int)→Int→Int→Int→Int→Int→(List Int)→Option GD)(pre post:List Int)(L M w i q:Nat)(t2 t15:Int)(hw:w≤64)(hq:(i:Int)*(w:Int)=(q:Int))(Jn:i*w=q)(KQ:q+w≤8*L)(hl:pre.length+L<10000000000000000)(hi:i<1000000)(o:List Int)(ho:o.length<1000000):
 ∀(m n j:Nat),j+m=w→m<n→Cy.Fu k Ky n (pre++(leB L M++post)) t2 (w:Int) (pre.length:Int) t15 (i:Int) (IntKind.wrap .i64 ((M/2^q%2^j:Nat):Int)) (j:Int) o=Ky (pre++(leB L M++post)) t2 (w:Int) (pre.length:Int) t15 ((i+1:Nat):Int) (o++[DL w M i]):=by
 intro m
 induction m with
 |zero=>
  intro n j hj hn;obtain⟨n,rfl⟩:∃x,n=x+1:=⟨n-1,by omega⟩;obtain rfl:j=w:=by omega
  simp only[Cy.Fu,A8 (show ¬(j:Int)<(j:Int) by omega),AU];rw[Bz (by simp;omega),AP,AY (x:=(i:Int)+1) (by omega) (by omega)];unfold DL;rw[Jn]
  congr 1
 |succ m ih=>
  intro n j hj hn;obtain⟨n,rfl⟩:∃x,n=x+1:=⟨n-1,by omega⟩;have hp:IntKind.wrap .i64 (IntKind.wrap .i64 (IntKind.wrap .i64 (8*(pre.length:Int))+IntKind.wrap .i64 ((i:Int)*(w:Int)))+(j:Int))=((8*pre.length+(q+j):Nat):Int):=by
   rw[hq,AY (x:=(q:Int)) (by omega) (by omega),AY (x:=8*(pre.length:Int)) (by omega) (by omega),AY (x:=8*(pre.length:Int)+(q:Int)) (by omega) (by omega),AY (by omega) (by omega)];omega
  have hb:=NF k pre post L M (q+j) (by omega) (by omega);simp only[Cy.Fu,AZ (show(j:Int)<(w:Int) by omega),AP,hp,hb,AQ,AZ (show(0:Int)≤(j:Int) by omega)];have hlt:M/2^q%2^j<2^j:=Nat.mod_lt _ (Nat.two_pow_pos j);have hjj:2^(j+1)≤2^64:=Nat.pow_le_pow_right (by decide) (by omega);have hb1:M/2^(q+j)%2≤1:=by omega
  have hb2:M/2^(q+j)%2*2^j≤1*2^j:=Nat.mul_le_mul_right _ hb1;have ho:=IM .i64 (a:=M/2^q%2^j) (b:=M/2^(q+j)%2) (i:=j) (show j≤64 by omega) hlt (show _<2^64 by rw[Nat.pow_succ] at hjj;omega);rw[ho];have hs:M/2^q%2^j+M/2^(q+j)%2*2^j=M/2^q%2^(j+1):=by
   rw[mod_succ,Nat.div_div_eq_div_mul,←Nat.pow_add]
  rw[hs,AY (x:=(j:Int)+1) (by omega) (by omega),show((j:Int)+1)=((j+1:Nat):Int) by omega];exact ih n (j+1) (by omega) (by omega)
theorem acB(hk:3000≤k)(L4:(List Int)→Int→Int→Int→(List Int)→Option GD)(pre post:List Int)(L M w c many:Nat)(hw:w≤24)(hc:c≤2000)(hm:many≤2000)(hN:min (8*c) many*w≤8*L)(hL:c*w≤L)(hl:pre.length+L<10000000000000000):
 ∀(d n i:Nat) (o:List Int),d=min (8*c-i) (many-o.length)→i≤8*c→d<n→o.length≤many→Cy.J8 k L4 n (pre++(leB L M++post)) (many:Int) (w:Int) (pre.length:Int) (c:Int) (i:Int) o=L4 (pre++(leB L M++post)) (IntKind.wrap .i64 ((pre.length:Int)+IntKind.wrap .i64 ((c:Int)*(w:Int)))) (many:Int) (w:Int) (o++(List.range' i d).map (DL w M)):=by
 intro d;have e8:IntKind.wrap .i64 (8*(c:Int))=((8*c:Nat):Int):=by rw[AY (by omega) (by omega)];omega
 induction d with
 |zero=>
  intro n i o hi hic hn ho;obtain⟨n,rfl⟩:∃x,n=x+1:=⟨n-1,by omega⟩;have:(decide ((i:Int)<((8*c:Nat):Int))&&decide ((o.length:Int)<(many:Int)))=false:=by
   rw[Bool.eq_false_iff];intro h;simp only[BZ,Ce] at h;omega
  simp only[Cy.J8,BV,e8,this,AQ,AU];simp
 |succ d ih=>
  intro n i o hi hic hn ho;obtain⟨n,rfl⟩:∃x,n=x+1:=⟨n-1,by omega⟩;have hmul:i*w+w≤8*L:=by
   have h1:(i+1)*w≤8*c*w:=Nat.mul_le_mul_right _ (by omega);have h2:8*c*w≤8*L:=by rw[Nat.mul_assoc];exact Nat.mul_le_mul_left 8 hL
   rw[Nat.add_mul,Nat.one_mul] at h1;omega
  have hi':=acA k (Cy.J8 k L4 n) pre post L M w i (i*w) (many:Int) (c:Int) (by omega) (by simp) rfl hmul hl (by omega) o (by omega) w k 0 (by omega) (by omega);simp only[Nat.pow_zero,Nat.mod_one] at hi';have h0:((0:Nat):Int)=0:=rfl;have hw0:IntKind.wrap .i64 0=0:=rfl;rw[h0,hw0] at hi';simp only[Cy.J8,BV,e8,AZ (show(i:Int)<((8*c:Nat):Int) by omega),AZ (show(o.length:Int)<(many:Int) by omega),Bool.and_self,AQ,AP];rw[hi',ih n (i+1) _ (by simp;omega) (by omega) (by omega) (by simp;omega)];simp[List.range'_succ]
theorem abV(hk:3000≤k)(b:List Int)(hb:b.length<1000000000000000)(hby:Ci b)(p w:Nat)(hp:p≤b.length)(hw:w≤24)(F:Int→Int→Option GD):
 ∃(x nx:Int) (ok:Bool),Mr k b (p:Int) (w:Int)=some (x,nx,ok)∧
  (cond (decide ((w:Int)>0))
   ((IU k 1 (w:Int)).bind fun r6=>(Fe k b (p:Int) r6).bind fun r7=>
    (cond (!r7.2.2) (some true) (cond (decide (0≤(w:Int))) (some ((qW .i64 r7.1 (w:Int)) !=0)) none)).bind fun b8=>cond b8 (some (((),0,false),[])) (F r7.1 r7.2.1))
   (F 0 (p:Int)))=cond ok (F x nx) (some (((),0,false),[]))∧
  (ok=true→(p:Int)≤nx∧nx≤(b.length:Int)∧0≤x∧x<2^w):=by
 unfold Mr;by_cases h0:w=0
 ·subst h0
  refine⟨0,p,true,rfl,rfl,fun _=>⟨by omega,by omega,by decide,by decide⟩⟩
 ·obtain⟨z,h1,h2,hz⟩:=Nf k 1 (w:Int)
  rcases hz with⟨_,hn⟩|⟨_,_,_,_,hz⟩
  ·exact(hn ⟨by omega,by omega,by omega,by omega⟩).elim
  ·have hsz:z=(((w+7)/8:Nat):Int):=by
    rw[hz];unfold bytesOf;simp
   subst hsz;obtain⟨v,nx,ok,a1,a2,a3,a4,a5⟩:=Lv k (by omega) b hb hby (p:Int) ⟨by omega,by omega⟩ ((w+7)/8) (by omega) (by omega);simp only[A9 (show ¬(w:Int)=0 by omega),AU,h1,h2,AQ,a1,a2,AZ (show(w:Int)>0 by omega),AP,AZ (show(0:Int)≤(w:Int) by omega)];cases ok with
   |false=>
    simp only[Bv,AP,AQ];exact⟨_,_,false,rfl,rfl,nofun⟩
   |true=>
    obtain⟨c1,c2,c3,c4⟩:=a5 rfl;obtain⟨c5,c6⟩:=c4 (by omega);have hv:IntKind.wrap .u64 v=((v.toNat:Nat):Int):=by rw[G7];omega
    have hwd:IG k v=some (G8 v.toNat:Int):=by
     unfold IG;rw[hv,PX k v.toNat (by omega)];rfl
    have hcond:decide ((G8 v.toNat:Int)>(w:Int))=(qW .i64 v (w:Int) !=0):=by
     rw[FT .i64 v w (show w≤64 by omega)];have hb:=OQ (u:=v.toNat) (w:=w) (by omega) (by omega);have hd:v/2^w=((v.toNat/2^w:Nat):Int):=by
      rw[Int.natCast_ediv,Int.toNat_of_nonneg c5];simp
     rw[hd];by_cases hlt:v.toNat<2^w
     ·rw[Nat.div_eq_of_lt hlt,A8 (by have:=hb.2 hlt;omega)];rfl
     ·have hq:0<v.toNat/2^w:=Nat.div_pos (by omega) (Nat.two_pow_pos w)
      rw[AZ (by have:¬G8 v.toNat≤w:=fun h=>hlt (hb.1 h);omega),BQ (by omega)]
    simp only[Bb,AU,hwd,AQ,hcond];cases hs:(qW .i64 v (w:Int) !=0) with
    |true=>
     simp only[AP];exact⟨_,_,false,rfl,rfl,nofun⟩
    |false=>
     simp only[AU];refine⟨_,_,true,rfl,rfl,fun _=>⟨by omega,c3,c5,?_⟩⟩;rw[←hcond] at hs;have hs:=of_decide_eq_false hs;have:=(OQ (u:=v.toNat) (w:=w) (by omega) (by omega)).1 (by omega);have h2:((v.toNat:Nat):Int)<((2^w:Nat):Int):=by exact_mod_cast this
     rw[Int.toNat_of_nonneg c5] at h2;simpa using h2
theorem aaj(u:Int)(hu:Bt u):IntKind.wrap .i64 (qW .u64 (IntKind.wrap .u64 u) 1)=((u64 u/2:Nat):Int):=by
 have:=MS u;rw[wu64 u,Qq,AY (by omega) (by omega)];omega
theorem abW(hk:2000000≤k)(b:List Int)(hb:b.length<1900000)(hby:Ci b)(w many:Nat)(hw:w≤24)(hm:many≤2000):∀(f n p:Nat) (o:List Int),p+f=b.length→f<n→o.length≤many→(∀x,x∈o→0≤x∧x<2^w)→
 ∃nx ok l,DR.l4 k n b (p:Int) (many:Int) (w:Int) o=some (((),nx,ok),l)∧Cy.l4 k n b (p:Int) (many:Int) (w:Int) o=some (((),nx,ok),l)∧
  (ok=false→nx=0∧l=[])∧(ok=true→(p:Int)≤nx∧nx≤(b.length:Int)∧l.length=many∧∀x,x∈l→0≤x∧x<2^w):=by
 intro f
 induction f using Nat.strongRecOn with
 |ind f ih=>
 intro n p o hpf hn ho hox;obtain⟨n,rfl⟩:∃x,n=x+1:=⟨n-1,by omega⟩;by_cases hmore:o.length<many
 ·have g1:=JY k (by omega) (by omega) hby p (by omega)
  have g2:=Lc k (by omega) (by omega) hby p (by omega);simp only[DR.l4,Cy.l4,AZ (show(o.length:Int)<(many:Int) by omega),AP,g1,g2];cases hg:gv (b.drop p) with
  |none=>
   have hd:Gf k 0 1=some 0:=by
    have:=O3 k 0 ⟨by decide,by decide⟩;rw[this,acR];rfl
   simp only[AQ,hd,Bv,AP];exact⟨_,_,_,rfl,rfl,fun _=>⟨rfl,rfl⟩,nofun⟩
  |some un=>
   obtain⟨u,c⟩:=un;obtain⟨hu,c1,c2,_,_⟩:=EM (b.drop p) u c (fun x hx=>hby x (List.mem_of_mem_drop hx)) hg;rw[List.length_drop] at c2;have hul:=MS u;simp only[AQ,O3 k u hu,Bb,AU,aaj u hu];generalize hcn:u64 u/2=cnt;have hcnt:cnt<9223372036854775808:=by omega
   cases hodd:(bits .and .i64 u 1==0) with
   |true=>
    simp only[AP];obtain⟨x,nx,ok,r1,r2,r3⟩:=abV k (by omega) b (by omega) hby (p+c) w (by omega) hw (fun y a=>Cy.c17 k (Cy.l4 k n) b (many:Int) (w:Int) a ((cnt:Nat):Int) y o);rw[r1,r2];simp only[AQ];cases ok with
    |false=>
     simp only[Bv,AP,AU];exact⟨_,_,_,rfl,rfl,fun _=>⟨rfl,rfl⟩,nofun⟩
    |true=>
     obtain⟨q1,q2,q3,q4⟩:=r3 rfl;obtain⟨q,rfl⟩:∃q:Nat,nx=q:=⟨nx.toNat,by omega⟩;have KM:IntKind.wrap .i64 ((many:Int)-(o.length:Int))=((many-o.length:Nat):Int):=by rw[AY (by omega) (by omega)];omega
     have KN:(if IntKind.wrap .i64 ((many:Int)-(o.length:Int))<((cnt:Nat):Int) then IntKind.wrap .i64 ((many:Int)-(o.length:Int)) else((cnt:Nat):Int))=((min cnt (many-o.length):Nat):Int):=by
      rw[KM];split<;>omega
     have i1:=aaB k (DR.l4 k n) b (many:Int) (w:Int) x (q:Int) (min cnt (many-o.length)) (by omega) (min cnt (many-o.length)) k 0 o (by omega) (by omega) (by omega);have s1:=acp k (Cy.l4 k n) b many (w:Int) x (q:Int) cnt hcnt hm (min cnt (many-o.length)) k 0 o (by omega) (by omega) (by omega) (by omega);rw[show((0:Nat):Int)=0 from rfl] at i1 s1;simp only[Bb,AP,AU,KN,i1,Cy.c17,s1]
     obtain⟨nx',ok',l',e1,e2,e3,e4⟩:=ih (b.length-q) (by omega) n q (o++List.replicate (min cnt (many-o.length)) x) (by omega) (by omega) (by simp;omega) (by
      intro y hy;rcases List.mem_append.1 hy with hy|hy
      ·exact hox y hy
      ·obtain⟨_,rfl⟩:=List.mem_replicate.1 hy
       exact⟨q3,q4⟩)
     exact⟨nx',ok',l',e1,e2,e3,fun h=>by obtain⟨a1,a2⟩:=e4 h;exact⟨by omega,a2⟩⟩
   |false=>
    simp only[AU];by_cases hbad:cnt>2000
    ·simp only[AZ (show((cnt:Nat):Int)>2000 by omega),AP,AQ]
     exact⟨_,_,_,rfl,rfl,fun _=>⟨rfl,rfl⟩,nofun⟩
    ·have hcw:cnt*w≤2000*24:=Nat.mul_le_mul (by omega) hw
     have O6:IntKind.wrap .i64 (((cnt:Nat):Int)*(w:Int))=((cnt*w:Nat):Int):=by
      rw[show((cnt:Nat):Int)*(w:Int)=((cnt*w:Nat):Int) by simp,AY (by omega) (by omega)]
     have F5:IntKind.wrap .i64 ((b.length:Int)-((p+c:Nat):Int))=((b.length-(p+c):Nat):Int):=by rw[AY (by omega) (by omega)];omega
     simp only[A8 (show ¬((cnt:Nat):Int)>2000 by omega),AU,AQ,O6,F5];by_cases hfit:cnt*w≤b.length-(p+c)
     ·simp only[A8 (show ¬((cnt*w:Nat):Int)>((b.length-(p+c):Nat):Int) by omega),A8 (show ¬((b.length-(p+c):Nat):Int)<((cnt*w:Nat):Int) by omega),AU]
      have e8:IntKind.wrap .i64 (8*((cnt:Nat):Int))=((8*cnt:Nat):Int):=by rw[AY (by omega) (by omega)];omega
      have KM:IntKind.wrap .i64 ((many:Int)-(o.length:Int))=((many-o.length:Nat):Int):=by rw[AY (by omega) (by omega)];omega
      have KN:(if IntKind.wrap .i64 ((many:Int)-(o.length:Int))<IntKind.wrap .i64 (8*((cnt:Nat):Int)) then IntKind.wrap .i64 ((many:Int)-(o.length:Int)) else IntKind.wrap .i64 (8*((cnt:Nat):Int)))=((min (8*cnt) (many-o.length):Nat):Int):=by
       rw[KM,e8];split<;>omega
      have hlen:((b.drop (p+c)).take (cnt*w)).length=cnt*w:=by rw[List.length_take,List.length_drop];omega
      have hsp:b=b.take (p+c)++(leB (cnt*w) (wv ((b.drop (p+c)).take (cnt*w)))++b.drop (p+c+cnt*w)):=by
       have h3:=NI ((b.drop (p+c)).take (cnt*w)) (fun x hx=>hby x (List.mem_of_mem_drop (List.mem_of_mem_take hx)));rw[hlen] at h3;have hdd:b.drop (p+c+cnt*w)=(b.drop (p+c)).drop (cnt*w):=by rw[List.drop_drop]
       rw[←h3,hdd,List.take_append_drop,List.take_append_drop]
      have hpl:(b.take (p+c)).length=p+c:=by rw[List.length_take];omega
      generalize wv ((b.drop (p+c)).take (cnt*w))=M at hsp;have hN:min (8*cnt) (many-o.length)*w≤8*(cnt*w):=by
       rw[←Nat.mul_assoc];exact Nat.mul_le_mul_right _ (by omega)
      have JU:min (8*cnt) many*w≤8*(cnt*w):=by
       rw[←Nat.mul_assoc];exact Nat.mul_le_mul_right _ (by omega)
      have u1:=MU k (b.take (p+c)) (b.drop (p+c+cnt*w)) (cnt*w) M w (min (8*cnt) (many-o.length)) (by omega) hN (by rw[hpl];omega) (by omega) (by omega) (by omega);have u2:=acB k (by omega) (Cy.l4 k n) (b.take (p+c)) (b.drop (p+c+cnt*w)) (cnt*w) M w cnt many hw (by omega) hm JU (Nat.le_refl _) (by rw[hpl];omega) (min (8*cnt) (many-o.length)) k 0 o (by omega) (by omega) (by omega) (by omega);rw[←hsp,hpl] at u1 u2;rw[show((0:Nat):Int)=0 from rfl,←List.range_eq_range'] at u2;have LP:IntKind.wrap .i64 (((p+c:Nat):Int)+((cnt*w:Nat):Int))=((p+c+cnt*w:Nat):Int):=by rw[AY (by omega) (by omega)];omega
      rw[O6,LP] at u2;simp only[KN,u1,AQ,Bz (show o.length+((List.range (min (8*cnt) (many-o.length))).map (DL w M)).length≤4294967296 by simp;omega),AP,LP,u2]
      obtain⟨nx',ok',l',e1,e2,e3,e4⟩:=ih (b.length-(p+c+cnt*w)) (by omega) n (p+c+cnt*w) (o++(List.range (min (8*cnt) (many-o.length))).map (DL w M)) (by omega) (by omega) (by simp;omega) (by
       intro y hy;rcases List.mem_append.1 hy with hy|hy
       ·exact hox y hy
       ·obtain⟨i,_,rfl⟩:=List.mem_map.1 hy
        have hlt:M/2^(i*w)%2^w<2^w:=Nat.mod_lt _ (Nat.two_pow_pos w);have PE:2^w≤2^62:=Nat.pow_le_pow_right (by decide) (by omega);unfold DL;rw[AY (by omega) (by omega)];refine⟨by omega,?_⟩
        exact_mod_cast hlt)
      exact⟨nx',ok',l',e1,e2,e3,fun h=>by obtain⟨a1,a2⟩:=e4 h;exact⟨by omega,a2⟩⟩
     ·simp only[AZ (show((cnt*w:Nat):Int)>((b.length-(p+c):Nat):Int) by omega),AZ (show((b.length-(p+c):Nat):Int)<((cnt*w:Nat):Int) by omega),AP]
      exact⟨_,_,_,rfl,rfl,fun _=>⟨rfl,rfl⟩,nofun⟩
 ·simp only[DR.l4,Cy.l4,A8 (show ¬(o.length:Int)<(many:Int) by omega),AU]
  exact⟨_,_,_,rfl,rfl,nofun,fun _=>⟨by omega,by omega,by omega,hox⟩⟩
theorem ME(hk:2000000≤k)(b:List Int)(hb:b.length≤1048576)(hby:Ci b)(at_ many w:Int):
 ∃nx ok l,DR k b at_ many w=some (((),nx,ok),l)∧Cy k b at_ many w=some (((),nx,ok),l)∧
  (ok=false→nx=0∧l=[])∧(ok=true→(0≤at_∧at_≤nx∧nx≤(b.length:Int))∧(0≤many∧many≤2000)∧(0≤w∧w≤24)∧l.length=many.toNat∧∀x,x∈l→0≤x∧x<2^w.toNat):=by
 unfold DR Cy Qu;simp only[CB,Dc,AQ,cst];by_cases hc:(0≤w∧w≤24)∧(0≤many∧many≤2000)∧(0≤at_∧at_≤(b.length:Int))
 ·obtain⟨⟨w0,w1⟩,⟨m0,m1⟩,a0,a1⟩:=hc
  simp only[AZ w0,AZ w1,AZ m0,AZ m1,AZ a0,AZ a1,Bool.and_self,Bb,Cu,AU];obtain⟨w,rfl⟩:∃m:Nat,w=m:=⟨w.toNat,by omega⟩;obtain⟨many,rfl⟩:∃m:Nat,many=m:=⟨many.toNat,by omega⟩;obtain⟨p,rfl⟩:∃m:Nat,at_=m:=⟨at_.toNat,by omega⟩;obtain⟨nx,ok,l,e1,e2,e3,e4⟩:=abW k hk b (by omega) hby w many (by omega) (by omega) (b.length-p) k p [] (by omega) (by omega) (by simp) (fun x hx=>by cases hx);refine⟨nx,ok,l,e1,e2,e3,fun h=> ?_⟩;obtain⟨b1,b2,b3,b4⟩:=e4 h;exact⟨⟨a0,b1,b2⟩,⟨m0,m1⟩,⟨w0,w1⟩,by simp[b3],by simpa using b4⟩
 ·have:((!(decide (0≤w)&&decide (w≤24))|| !(decide (0≤many)&&decide (many≤2000)))|| !(decide (0≤at_)&&decide (at_≤(b.length:Int))))=true:=by
   by_cases a:0≤w<;>by_cases b1:w≤24<;>by_cases c:0≤many<;>by_cases d:many≤2000<;>by_cases e:0≤at_<;>by_cases g:at_≤(b.length:Int)<;>simp[a,b1,c,d,e,g]
   exact hc ⟨⟨a,b1⟩,⟨c,d⟩,e,g⟩
  simp only[this,AP];exact⟨_,_,_,rfl,rfl,fun _=>⟨rfl,rfl⟩,nofun⟩
end Go.Bd
end
section
namespace Go.Bd
open Go.Am Go.Fn
variable(k:Nat)
theorem acC:∀(f n u t:Nat),u<2^f→f<n→t+f≤62→GY.l4 k n (u:Int) (t:Int)=some ((t+DN f u:Nat):Int):=by
 intro f
 induction f with
 |zero=>
  intro n u t hu hn ht;obtain⟨n,rfl⟩:∃q,n=q+1:=⟨n-1,by omega⟩;have:u=0:=by simpa using hu
  subst this;simp only[GY.l4,A8 (show ¬(((0:Nat):Int)>0) by omega),AU,A8 (show ¬((t:Int)>62) by omega),DN,Nat.add_zero]
 |succ f ih=>
  intro n u t hu hn ht;obtain⟨n,rfl⟩:∃q,n=q+1:=⟨n-1,by omega⟩;rw[Nat.pow_succ] at hu;have hle:2^f*2≤2^62:=by rw[←Nat.pow_succ];exact Nat.pow_le_pow_right (by omega) (by omega)
  by_cases h0:u=0
  ·subst h0
   simp only[GY.l4,A8 (show ¬(((0:Nat):Int)>0) by omega),AU,A8 (show ¬((t:Int)>62) by omega),DN,if_pos,Nat.add_zero]
  ·have e1:IntKind.wrap .i64 (Int.tdiv (u:Int) 2)=((u/2:Nat):Int):=by
    rw[Int.tdiv_eq_ediv_of_nonneg (by omega),AY (by omega) (by omega)];omega
   have e2:IntKind.wrap .i64 ((t:Int)+1)=((t+1:Nat):Int):=by rw[AY (by omega) (by omega)];omega
   simp only[GY.l4,AZ (show(u:Int)>0 by omega),AP,e1,e2,DN,if_neg h0];rw[ih n (u/2) (t+1) (by omega) (by omega) (by omega)]
   congr 2
   omega
theorem QL(hk:100≤k)(m:Int)(h0:0≤m)(h1:m≤255):∃w:Int,KS k m=some w∧GY k m=some w∧0≤w∧w≤8:=by
 obtain⟨u,rfl⟩:∃n:Nat,m=n:=⟨m.toNat,by omega⟩;have hu:u<2^8:=by show u<256;omega
 have hs:=acC k 8 k u 0 hu (by omega) (by omega);have hus:u64 (u:Int)=u:=by have:=acQ (v:=(u:Int)) (by omega) (by omega);omega
 have hb:G8 u=DN 8 u:=JI 8 56 u hu;have hle:=LF 8 u;refine⟨(DN 8 u:Nat),?_,?_,by omega,by omega⟩
 ·unfold KS
  simp only[acZ,hus,hb,AQ,cst,A8 (show ¬((u:Int)<0) by omega),A8 (show ¬(((DN 8 u:Nat):Int)>62) by omega),Cu,AU]
 ·unfold GY
  rw[A8 (show ¬((u:Int)<0) by omega),AU];simpa using hs
theorem acV(l:List Int)(hl:l.length≤1000000)(m a b:Int)(o:List Int):∀(post pre:List Int) (n n':Nat),l=pre++post→post.length<n→post.length<n'→
 F7.F9 k n m a b (l.length:Int) (pre.length:Int) l=some (cond (post.all (fun x=>decide (x≤m))) (((),IntKind.wrap .i64 (b+a),true),l) (((),0,false),[]))∧
 GZ.EG k n' m a b (pre.length:Int) [] l=some (cond (post.all (fun x=>decide (x≤m))) (((),IntKind.wrap .i64 (b+a),true),l) (((),0,false),[])):=by
 intro post
 induction post with
 |nil=>
  intro pre n n' h hn hn';obtain⟨n,rfl⟩:∃q,n=q+1:=⟨n-1,by omega⟩;obtain⟨n',rfl⟩:∃q,n'=q+1:=⟨n'-1,by omega⟩;rw[DU] at h;subst h;simp only[F7.F9,GZ.EG,A8 (show ¬((l.length:Int)<(l.length:Int)) by omega),AU,List.all_nil,AP];exact⟨trivial,trivial⟩
 |cons x post ih=>
  intro pre n n' h hn hn';simp only[Co] at hn hn';obtain⟨n,rfl⟩:∃q,n=q+1:=⟨n-1,by omega⟩;obtain⟨n',rfl⟩:∃q,n'=q+1:=⟨n'-1,by omega⟩;have hlen:l.length=pre.length+(post.length+1):=by rw[h];simp
  have hg:gP l (pre.length:Int)=some x:=by rw[h];exact Ej _ _ _
  have hi1:IntKind.wrap .i64 ((pre.length:Int)+1)=((pre.length+1:Nat):Int):=by rw[AY (by omega) (by omega)];omega
  have hi:=ih (pre++[x]) n n' (by rw[h];simp) (by omega) (by omega);rw[BJ,CQ] at hi;simp only[F7.F9,GZ.EG,AZ (show(pre.length:Int)<(l.length:Int) by omega),AP,hg,AQ,hi1,List.all_cons];by_cases hx:x≤m
  ·rw[A8 (show ¬x>m by omega),AZ hx,AU,AU,Er]
   exact hi
  ·rw[AZ (show x>m by omega),A8 hx,AP,AP,D9,AU]
   exact⟨rfl,rfl⟩
theorem P6(hk:2000000≤k)(b:List Int)(hb:b.length≤1048576)(hby:Ci b)(at_ many m:Int):
 ∃nx ok l,F7 k b at_ many m=some (((),nx,ok),l)∧GZ k b at_ many m=some (((),nx,ok),l)∧
  (ok=true→(0≤nx∧nx≤(b.length:Int))∧l.length=many.toNat)∧(ok=false→nx=0):=by
 unfold F7 GZ;simp only[CB,Dc,AQ,cst];by_cases hc:(0≤m∧m≤255)∧(0≤many∧many≤2000)∧(0≤at_∧at_≤(b.length:Int))
 ·obtain⟨⟨w0,w1⟩,⟨m0,m1⟩,a0,a1⟩:=hc
  simp only[AZ w0,AZ w1,AZ m0,AZ m1,AZ a0,AZ a1,Bool.and_self,Bb,Cu,AU];by_cases hz:m=0
  ·rw[Bl hz,AP,AP,Kb m0 (by omega),AP]
   exact⟨_,_,_,rfl,rfl,fun _=>⟨⟨a0,a1⟩,by simp⟩,fun h=>(by cases h)⟩
  ·rw[A9 hz]
   simp only[AU];obtain⟨v,nx,ok,e1,e2,_,_,e3⟩:=Lv k (by omega) b (by omega) hby at_ ⟨by omega,by omega⟩ 4 (by decide) (by decide);have e1:ED k b at_ 4=some (v,nx,ok):=e1;have e2:Fe k b at_ 4=some (v,nx,ok):=e2;simp only[e1,e2,AQ];cases ok with
   |false=>
    simp only[Bv,BR,AP];exact⟨_,_,_,rfl,rfl,fun h=>(by cases h),fun _=>rfl⟩
   |true=>
    obtain⟨_,n1,n2,n3⟩:=e3 rfl;obtain⟨v0,v1⟩:=n3 (by decide);have n1:nx=at_+4:=n1;rw[AY (show -9223372036854775808≤(b.length:Int)-nx by omega) (by omega)];by_cases hv:v>(b.length:Int)-nx
    ·simp only[Bb,Cm,AZ hv,AP]
     exact⟨_,_,_,rfl,rfl,fun h=>(by cases h),fun _=>rfl⟩
    ·have ew:IntKind.wrap .i64 (nx+v)=nx+v:=AY (by omega) (by omega)
     obtain⟨w,b1,b2,b3,b4⟩:=QL k (by omega) m w0 w1;obtain⟨nx',ok',l,r1,r2,r3,r4⟩:=ME k hk (kP b nx (nx+v)) (by unfold kP;rw[List.length_drop,List.length_take];omega) (KD hby _ _) 0 many w;simp only[Bb,Cm,A8 hv,AU,ew,EF (show 0≤nx by omega) (show nx≤nx+v by omega) (show nx+v≤(b.length:Int) by omega),AP,b1,b2,r1,r2,AQ];cases ok' with
     |false=>
      simp only[Bv,AP];exact⟨_,_,_,rfl,rfl,fun h=>(by cases h),fun _=>rfl⟩
     |true=>
      obtain⟨_,_,_,q4,_⟩:=r4 rfl;simp only[Bb,AU];obtain⟨u1,u2⟩:=acV k l (by omega) m v nx [] l [] k k rfl (by omega) (by omega);have u1:F7.F9 k k m v nx (l.length:Int) 0 l=_:=u1;have u2:GZ.EG k k m v nx 0 [] l=_:=u2;rw[u1,u2];cases l.all (fun x=>decide (x≤m)) with
      |true=>
       rw[AP,ew];exact⟨_,_,_,rfl,rfl,fun _=>⟨⟨by omega,by omega⟩,q4⟩,fun h=>(by cases h)⟩
      |false=>exact⟨_,_,_,rfl,rfl,fun h=>(by cases h),fun _=>rfl⟩
 ·have:((!(decide (0≤m)&&decide (m≤255))|| !(decide (0≤many)&&decide (many≤2000)))|| !(decide (0≤at_)&&decide (at_≤(b.length:Int))))=true:=by
   by_cases a:0≤m<;>by_cases b1:m≤255<;>by_cases c:0≤many<;>by_cases d:many≤2000<;>by_cases e:0≤at_<;>by_cases g:at_≤(b.length:Int)<;>simp[a,b1,c,d,e,g]
   exact hc ⟨⟨a,b1⟩,⟨c,d⟩,e,g⟩
  simp only[this,AP];exact⟨_,_,_,rfl,rfl,fun h=>(by cases h),fun _=>rfl⟩
theorem aaV(l:List Int)(hl:l.length≤1000000):∀(post pre:List Int) (n:Nat) (x:Int),l=pre++post→post.length<n→
 ∃y,Fy.l5 k n l x (pre.length:Int)=some y∧∀m:Int,decide (y>m)=(decide (x>m)|| !post.all (fun x=>decide (x≤m))):=by
 intro post
 induction post with
 |nil=>
  intro pre n x h hn;obtain⟨n,rfl⟩:∃q,n=q+1:=⟨n-1,by omega⟩;rw[DU] at h;subst h;simp only[Fy.l5,A8 (show ¬((l.length:Int)<(l.length:Int)) by omega),AU];exact⟨x,rfl,fun m=>by simp⟩
 |cons v post ih=>
  intro pre n x h hn;simp only[Co] at hn;obtain⟨n,rfl⟩:∃q,n=q+1:=⟨n-1,by omega⟩;have hlen:l.length=pre.length+(post.length+1):=by rw[h];simp
  have hg:gP l (pre.length:Int)=some v:=by rw[h];exact Ej _ _ _
  have hi1:IntKind.wrap .i64 ((pre.length:Int)+1)=((pre.length+1:Nat):Int):=by rw[AY (by omega) (by omega)];omega
  obtain⟨y,y1,y2⟩:=ih (pre++[v]) n (if v>x then v else x) (by rw[h];simp) (by omega);rw[BJ,CQ] at y1;simp only[Fy.l5,AZ (show(pre.length:Int)<(l.length:Int) by omega),AP,hg,AQ,hi1];refine⟨y,y1,fun m=> ?_⟩;rw[y2 m,List.all_cons,Bool.not_and,←Bool.or_assoc]
  congr 1
  rw[Bool.eq_iff_iff];simp only[Ce,Bool.or_eq_true,Bool.not_eq_true',decide_eq_false_iff_not];split<;>omega
theorem acr(l:List Int)(hl:l.length≤1000000)(m:Int):∀(post pre:List Int) (n:Nat),l=pre++post→post.length<n→
 G5.l7 k n m (pre.length:Int) l=some (cond (post.all (fun x=>decide (x≤m))) (((),true),l) (((),false),[])):=by
 intro post
 induction post with
 |nil=>
  intro pre n h hn;obtain⟨n,rfl⟩:∃q,n=q+1:=⟨n-1,by omega⟩;rw[DU] at h;subst h;simp only[G5.l7,A8 (show ¬((l.length:Int)<(l.length:Int)) by omega),AU,List.all_nil,AP]
 |cons x post ih=>
  intro pre n h hn;simp only[Co] at hn;obtain⟨n,rfl⟩:∃q,n=q+1:=⟨n-1,by omega⟩;have hlen:l.length=pre.length+(post.length+1):=by rw[h];simp
  have hg:gP l (pre.length:Int)=some x:=by rw[h];exact Ej _ _ _
  have hi1:IntKind.wrap .i64 ((pre.length:Int)+1)=((pre.length+1:Nat):Int):=by rw[AY (by omega) (by omega)];omega
  have hi:=ih (pre++[x]) n (by rw[h];simp) (by omega);rw[BJ,CQ] at hi;simp only[G5.l7,AZ (show(pre.length:Int)<(l.length:Int) by omega),AP,hg,AQ,hi1,List.all_cons];by_cases hx:x≤m
  ·rw[A8 (show ¬x>m by omega),AZ hx,AU,Er]
   exact hi
  ·rw[AZ (show x>m by omega),A8 hx,AP,D9,AU]
theorem P5(hk:2000000≤k)(b:List Int)(hb:b.length≤1048576)(hby:Ci b)(many m:Int)(hm0:0≤many)(hm1:many≤2000)(h0:0≤m)(h1:m≤255):
 ∃ok l,KW k b many m=some (((),ok),l)∧G5 k b many m=some (((),ok),l)∧(ok=true→l.length=many.toNat):=by
 unfold KW G5;by_cases hz:m=0
 ·rw[Bl hz,AP,AP,Kb hm0 (by omega),AP]
  exact⟨_,_,rfl,rfl,fun _=>by simp⟩
 ·rw[A9 hz]
  simp only[AU];obtain⟨w,b1,b2,b3,b4⟩:=QL k (by omega) m h0 h1;obtain⟨nx,ok,l,r1,r2,r3,r4⟩:=ME k hk b hb hby 0 many w;simp only[b1,b2,r1,r2,AQ,cst];cases ok with
  |false=>
   simp only[Bv,BR,AP];exact⟨_,_,rfl,rfl,fun h=>(by cases h)⟩
  |true=>
   obtain⟨_,_,_,q4,_⟩:=r4 rfl;simp only[Bb,Cm];by_cases hn:nx=(b.length:Int)
   ·rw[Bw hn]
    simp only[Cm,AU];have hs:=acr k l (by omega) m l [] k rfl (by omega);have hs:G5.l7 k k m 0 l=_:=hs;rw[hs];cases l with
    |nil=>
     simp only[List.length_nil];rw[show decide (((0:Nat):Int)>0)=false from rfl];simp only[AU,AP,AQ,Bool.or_false,List.all_nil,BV,D9];exact⟨_,_,rfl,rfl,fun _=>q4⟩
    |cons v l'=>
     rw[AZ (show((v::l').length:Int)>0 by simp),AP];obtain⟨y,y1,y2⟩:=aaV k (v::l') (by omega) l' [v] k v rfl (by simp at q4;omega);have hmax:Fy k (v::l')=some y:=by
      unfold Fy Fy.c3;rw[A8 (show ¬((v::l').length:Int)<1 by simp;omega),AU,show gP (v::l') 0=some v from rfl];exact y1
     rw[hmax];simp only[AQ,BV,y2 m,List.all_cons];by_cases hv:v≤m
     ·rw[AZ hv,A8 (show ¬v>m by omega),Cm,Er]
      cases l'.all (fun x=>decide (x≤m)) with
      |true=>exact⟨_,_,rfl,rfl,fun _=>q4⟩
      |false=>exact⟨_,_,rfl,rfl,fun h=>(by cases h)⟩
     ·rw[A8 hv,AZ (show v>m by omega),BR,D9]
      exact⟨_,_,rfl,rfl,fun h=>(by cases h)⟩
   ·rw[BQ hn]
    simp only[BR,Bool.or_true,AP,AQ];exact⟨_,_,rfl,rfl,fun h=>(by cases h)⟩
end Go.Bd
end
section
namespace Go.Bd
open Go.Am Go.Fn
theorem cnd{α:Type}{b:Bool}{x y:Option α}{z:α}(h:cond b x y=some z):(b=true∧x=some z)∨(b=false∧y=some z):=by
 cases b with
 |true=>exact .inl ⟨rfl,h⟩
 |false=>exact .inr ⟨rfl,h⟩
theorem bnd{α β:Type}{x:Option α}{f:α→Option β}{z:β}(h:x.bind f=some z):∃a,x=some a∧f a=some z:=Option.bind_eq_some_iff.1 h
theorem Iu{b:Bool}{x:Option Bool}(h:cond b (some true) x=some false):b=false∧x=some false:=by
 rcases cnd h with⟨_,h⟩|h
 ·cases h
 ·exact h
def Q8(y x:Bf):Prop:=y.1=x.1∧y.2.2.2.2.1=x.2.2.2.2.1∧y.2.2.2.2.2.1=x.2.2.2.2.2.1∧y.2.2.2.2.2.2.1=x.2.2.2.2.2.2.1∧y.2.2.2.2.2.2.2.1=x.2.2.2.2.2.2.2.1
theorem Nh{k:Nat}{t1:List AR}{t10 t11:Int}{o:Bu}{x o2 y:Bf}{z:Bool}(h:CG.H7 k t1 t10 t11 o x o2=some (y,z)):Q8 y x:=by
 unfold CG.H7 CG.Jj at h;replace h:=cnd h;rcases h with⟨_,h⟩|⟨_,h⟩
 ·replace h:=bnd h;obtain⟨r1,_,h⟩:=h
  replace h:=bnd h;obtain⟨b3,_,h⟩:=h;replace h:=cnd h;rcases h with⟨_,h⟩|⟨_,h⟩
  ·replace h:=bnd h;obtain⟨r4,_,h⟩:=h
   cases h;exact⟨rfl,rfl,rfl,rfl,rfl⟩
  ·cases h
   exact⟨rfl,rfl,rfl,rfl,rfl⟩
 ·cases h
  exact⟨rfl,rfl,rfl,rfl,rfl⟩
theorem OY{k:Nat}{t1:List AR}{t8 t10:Int}{o:Bu}{x o2 y:Bf}{L:List Int}(h:CG.c7 k t1 t8 t10 o x o2 L=some (y,true)):
 y.1=x.1∧(x.1=3→0≤y.2.2.2.2.1∧0≤y.2.2.2.2.2.1∧0≤y.2.2.2.2.2.2.1∧0≤y.2.2.2.2.2.2.2.1):=by
 unfold CG.c7 at h;replace h:=bnd h;obtain⟨r5,_,h⟩:=h;replace h:=cnd h;rcases h with⟨_,h⟩|⟨_,h⟩
 ·cases h
 replace h:=bnd h;obtain⟨r6,_,h⟩:=h;replace h:=bnd h;obtain⟨b9,_,h⟩:=h;replace h:=cnd h;rcases h with⟨_,h⟩|⟨_,h⟩
 ·cases h
 replace h:=bnd h;obtain⟨DZ,_,h⟩:=h;replace h:=bnd h;obtain⟨FF,_,h⟩:=h;replace h:=cnd h;rcases h with⟨h0,h⟩|⟨h0,h⟩
 ·have h0:x.1=0:=eq_of_beq h0
  replace h:=bnd h;obtain⟨Gh,_,h⟩:=h;replace h:=bnd h;obtain⟨b14,_,h⟩:=h;replace h:=cnd h;rcases h with⟨_,h⟩|⟨_,h⟩
  ·cases h
  exact⟨(Nh h).1,fun h3=>by omega⟩
 ·replace h:=cnd h;rcases h with⟨h3,h⟩|⟨h3,h⟩
  ·replace h:=bnd h;obtain⟨Gi,_,h⟩:=h
   replace h:=bnd h;obtain⟨I9,_,h⟩:=h;replace h:=bnd h;obtain⟨CZ,_,h⟩:=h;replace h:=bnd h;obtain⟨Fh,_,h⟩:=h;replace h:=bnd h;obtain⟨Dy,_,h⟩:=h;replace h:=bnd h;obtain⟨b20,f20,h⟩:=h;replace h:=bnd h;obtain⟨LD,f21,h⟩:=h;replace h:=bnd h;obtain⟨JG,f22,h⟩:=h;replace h:=bnd h;obtain⟨Ir,f23,h⟩:=h;replace h:=bnd h;obtain⟨JH,f25,h⟩:=h;replace h:=cnd h;rcases h with⟨_,h⟩|⟨hb,h⟩
   ·cases h
   subst hb;obtain⟨hb,_⟩:=Iu f25;subst hb;obtain⟨hb,_⟩:=Iu f23;subst hb;obtain⟨hb,g22⟩:=Iu f22;subst hb;obtain⟨hb,g21⟩:=Iu f21;subst hb;obtain⟨g15,g20⟩:=Iu f20;have g15:=of_decide_eq_false g15;have g20:=of_decide_eq_false (Option.some.inj g20);have g21:=of_decide_eq_false (Option.some.inj g21);have g22:=of_decide_eq_false (Option.some.inj g22);obtain⟨s1,s2,s3,s4,s5⟩:=Nh h;refine⟨s1,fun _=>⟨?_,?_,?_,?_⟩⟩
   ·rw[s2];show 0≤I9;omega
   ·rw[s3];show 0≤Gi;omega
   ·rw[s4];show 0≤CZ;omega
   ·rw[s5];show 0≤Fh;omega
  ·exact⟨(Nh h).1,fun e=>by rw[Bl e] at h3;cases h3⟩
theorem Ru{k:Nat}{t1:List Int}{t10:Int}{o:Bu}{o1 o2 x h:Bf}{l:List AR}(e:Dh.c17 k t1 t10 o o1 o2 l x=some (h,0)):
 h.1=x.1∧(x.1=3→0≤h.2.2.2.2.1∧0≤h.2.2.2.2.2.1∧0≤h.2.2.2.2.2.2.1∧0≤h.2.2.2.2.2.2.2.1):=by
 unfold Dh.c17 at e;replace e:=bnd e;obtain⟨r1,f,e⟩:=e;obtain⟨y,z⟩:=r1;replace e:=cnd e;rcases e with⟨_,e⟩|⟨hz,e⟩
 ·cases e
 have hz:z=true:=by simpa using hz
 subst hz;replace e:=cnd e;rcases e with⟨_,e⟩|⟨_,e⟩
 ·cases e
 cases e;unfold CG at f;replace f:=cnd f;rcases f with⟨_,f⟩|⟨_,f⟩
 ·exact OY f
 ·replace f:=cnd f;rcases f with⟨_,f⟩|⟨_,f⟩<;>exact OY f
theorem aak{k:Nat}{o:Bu}{b:List Int}{at_:Int}{h:Bf}(e:Dh k o b at_=some (h,0)):
 (h.1=0∨h.1=2∨h.1=3)∧(h.1=3→0≤h.2.2.2.2.1∧0≤h.2.2.2.2.2.1∧0≤h.2.2.2.2.2.2.1∧0≤h.2.2.2.2.2.2.2.1):=by
 unfold Dh at e;replace e:=bnd e;obtain⟨r2,_,e⟩:=e;replace e:=bnd e;obtain⟨r3,_,e⟩:=e;replace e:=bnd e;obtain⟨b4,_,e⟩:=e;replace e:=cnd e;rcases e with⟨_,e⟩|⟨_,e⟩
 ·cases e
 replace e:=bnd e;obtain⟨r5,_,e⟩:=e;replace e:=bnd e;obtain⟨b11,f11,e⟩:=e;replace e:=bnd e;obtain⟨b13,f13,e⟩:=e;replace e:=bnd e;obtain⟨b16,f16,e⟩:=e;replace e:=cnd e;rcases e with⟨_,e⟩|⟨hb,e⟩
 ·cases e
 subst hb;obtain⟨hb,_⟩:=Iu f16;subst hb;obtain⟨hb,_⟩:=Iu f13;subst hb;obtain⟨_,f11⟩:=Iu f11;replace e:=bnd e;obtain⟨CZ,f17,e⟩:=e;replace e:=bnd e;obtain⟨Fh,_,e⟩:=e;replace e:=bnd e;obtain⟨Dy,_,e⟩:=e;have hk:CZ=0∨CZ=2∨CZ=3:=by
  rw[f17] at f11;simp only[AQ,BV,Dt,Bool.and_eq_false_iff] at f11;rcases f11 with(f|f)|f
  ·left;simpa using f
  ·right;left;simpa using f
  ·right;right;simpa using f
 have fin:∀{c:Bool} {w:Int},Dh.c17 k b r2.1.2.1 o (0,0,0,0,0,0,0,0,false,0,false,(0,false,(0,A7,()),(0,A7,()),()),0,()) (0,0,0,0,0,0,0,0,false,0,false,(0,false,(0,A7,()),(0,A7,()),()),0,()) r2.2 (CZ,Fh,0,0,0,0,0,0,c,w,false,(0,false,(0,A7,()),(0,A7,()),()),r2.1.2.1,())=some (h,0)→
  (h.1=0∨h.1=2∨h.1=3)∧(h.1=3→0≤h.2.2.2.2.1∧0≤h.2.2.2.2.2.1∧0≤h.2.2.2.2.2.2.1∧0≤h.2.2.2.2.2.2.2.1):=by
  intro c w e;obtain⟨s1,s2⟩:=Ru e;have s1:h.1=CZ:=s1;have s2:CZ=3→_:=s2;rw[s1];exact⟨hk,s2⟩
 replace e:=cnd e;rcases e with⟨_,e⟩|⟨_,e⟩
 ·replace e:=bnd e;obtain⟨y20,_,e⟩:=e
  replace e:=cnd e;rcases e with⟨_,e⟩|⟨_,e⟩
  ·cases e
  replace e:=bnd e;obtain⟨y21,_,e⟩:=e;replace e:=cnd e;rcases e with⟨_,e⟩|⟨_,e⟩<;>exact fin e
 ·exact fin e
end Go.Bd
end
section
namespace Go.Bd
open Go.Am Go.Fn
variable(k:Nat)
def FH(m:Int):Int→List Int→List Int
 |_,[]=>[]
 |l,x::xs=>IntKind.wrap .i64 (IntKind.wrap .i64 (l+x)+m)::FH m (IntKind.wrap .i64 (IntKind.wrap .i64 (l+x)+m)) xs
theorem Na(m:Int):∀(xs:List Int) (l:Int),(FH m l xs).length=xs.length
 |[],_=>rfl
 |x::xs,l=>by simp[FH,Na m xs]
theorem OJ(m:Int):∀(xs:List Int) (l:Int),∀y,y∈FH m l xs→Bt y
 |[],_,y,h=>by cases h
 |x::xs,l,y,h=>by
  rcases List.mem_cons.1 h with rfl|h
  ·exact⟨I7 _,I6 _⟩
  ·exact OJ m xs _ y h
theorem Ql{A:List Int}{l:Int}(hA:A.length<1000000000):gP (A++[l]) (IntKind.wrap .i64 (((A++[l]).length:Int)-1))=some l:=by
 rw[BJ,CQ,AY (by omega) (by omega),show((A.length+1:Nat):Int)-1=((A.length:Nat):Int) by omega,Cg,List.getElem?_append_right (Nat.le_refl _)];simp
abbrev dR(b:List Int)(p:Nat)(bad:Bool):Ec:=(b,(p:Int),bad,(),())
theorem aar(b:List Int)(p:Nat)(m:Int)(xs:List Int)(hx:xs.length≤100000):∀(post pre A:List Int) (l:Int) (n:Nat),xs=pre++post→post.length<n→A.length+post.length≤100000→
 D6.l5 k n m (xs.length:Int) (pre.length:Int) (dR b p false) xs (A++[l])=some ((),(dR b p false,(A++[l])++FH m l post)):=by
 intro post
 induction post with
 |nil=>
  intro pre A l n hv hn ha;obtain⟨n,rfl⟩:∃x,n=x+1:=⟨n-1,by omega⟩;have:xs=pre:=by simpa using hv
  subst this;simp only[D6.l5,A8 (show ¬(xs.length:Int)<(xs.length:Int) by omega),AU,FH,DU]
 |cons x post ih=>
  intro pre A l n hv hn ha;simp only[Co] at hn ha;obtain⟨n,rfl⟩:∃x,n=x+1:=⟨n-1,by omega⟩;have hlen:xs.length=pre.length+(post.length+1):=by rw[hv];simp
  have hg:gP xs (pre.length:Int)=some x:=by rw[hv];exact Ej pre post x
  simp only[D6.l5,AZ (show(pre.length:Int)<(xs.length:Int) by omega),AP,hg,AQ,D6.d7,Ql (A:=A) (l:=l) (by omega),Bz (show(A++[l]).length+[IntKind.wrap .i64 (IntKind.wrap .i64 (l+x)+m)].length≤4294967296 by simp;omega),AY (x:=(pre.length:Int)+1) (by omega) (by omega)];have:=ih (pre++[x]) (A++[l]) (IntKind.wrap .i64 (IntKind.wrap .i64 (l+x)+m)) n (by rw[hv];simp) (by omega) (by simp;omega);rw[BJ,CQ] at this;rw[show((pre.length:Int)+1)=((pre.length+1:Nat):Int) by omega,this,FH];simp
theorem abX(Kw:(List Int)→Int→Int→Int→Int→Int→Int→Int→(List Int)→(List Int)→Option GD)(b:List Int)(p1 t8 t10 t18 t20:Int)(many:Nat)(hm:many≤2000)(m:Int)(e20:IntKind.wrap .i64 (t20+1)=t20+1)(xs:List Int)(hx:xs.length≤100000):∀(post pre A:List Int) (l:Int) (n:Nat),xs=pre++post→post.length<n→A.length+1≤many→
 CU.J9 k Kw n b p1 t8 t10 (many:Int) m t18 t20 (pre.length:Int) [] (A++[l]) xs=Kw b p1 t8 t10 (many:Int) m t18 (t20+1) [] ((A++[l])++FH m l (post.take (many-(A.length+1)))):=by
 intro post
 induction post with
 |nil=>
  intro pre A l n hv hn ha;obtain⟨n,rfl⟩:∃x,n=x+1:=⟨n-1,by omega⟩;have:xs=pre:=by simpa using hv
  subst this;simp only[CU.J9,A8 (show ¬(xs.length:Int)<(xs.length:Int) by omega),AU,AQ,e20,List.take_nil,FH,DU]
 |cons x post ih=>
  intro pre A l n hv hn ha;simp only[Co] at hn;obtain⟨n,rfl⟩:∃x,n=x+1:=⟨n-1,by omega⟩;have hlen:xs.length=pre.length+(post.length+1):=by rw[hv];simp
  have hg:gP xs (pre.length:Int)=some x:=by rw[hv];exact Ej pre post x
  by_cases hfull:A.length+1=many
  ·have:(decide (((A++[l]).length:Int)<(many:Int)))=false:=A8 (by simp;omega)
   simp only[CU.J9,AZ (show(pre.length:Int)<(xs.length:Int) by omega),AP,this,AQ,AU,e20];rw[show many-(A.length+1)=0 by omega,List.take_zero];simp[FH]
  ·have:(decide (((A++[l]).length:Int)<(many:Int)))=true:=AZ (by simp;omega)
   simp only[CU.J9,AZ (show(pre.length:Int)<(xs.length:Int) by omega),AP,this,AQ,CU.d28,hg,Ql (A:=A) (l:=l) (by omega),Bz (show(A++[l]).length+[IntKind.wrap .i64 (IntKind.wrap .i64 (l+x)+m)].length≤4294967296 by simp;omega),AY (x:=(pre.length:Int)+1) (by omega) (by omega)];have:=ih (pre++[x]) (A++[l]) (IntKind.wrap .i64 (IntKind.wrap .i64 (l+x)+m)) n (by rw[hv];simp) (by omega) (by simp;omega);rw[BJ,CQ] at this;rw[show((pre.length:Int)+1)=((pre.length+1:Nat):Int) by omega,this,show many-(A.length+1)=(many-((A++[l]).length+1))+1 by simp;omega,List.take_succ_cons,FH];simp
theorem ab_(L5:(List Int)→Int→Int→Int→Int→(List Int)→Option GD)(pre post:List Int)(L M w i q:Nat)(t2:Int)(hw:w≤64)(hq:(i:Int)*(w:Int)=(q:Int))(Jn:i*w=q)(KQ:q+w≤8*L)(hl:pre.length+L<10000000000000000)(hi:i<1000000)(o:List Int)(ho:o.length<1000000):
 ∀(m n j:Nat),j+m=w→m<n→EU.l9 k L5 n (pre++(leB L M++post)) (pre.length:Int) t2 (w:Int) (i:Int) (IntKind.wrap .i64 ((M/2^q%2^j:Nat):Int)) (j:Int) o=L5 (pre++(leB L M++post)) (pre.length:Int) t2 (w:Int) ((i+1:Nat):Int) (o++[DL w M i]):=by
 intro m
 induction m with
 |zero=>
  intro n j hj hn;obtain⟨n,rfl⟩:∃x,n=x+1:=⟨n-1,by omega⟩;obtain rfl:j=w:=by omega
  simp only[EU.l9,A8 (show ¬(j:Int)<(j:Int) by omega),AU];rw[Bz (by simp;omega),AP,AY (x:=(i:Int)+1) (by omega) (by omega)];unfold DL;rw[Jn]
  congr 1
 |succ m ih=>
  intro n j hj hn;obtain⟨n,rfl⟩:∃x,n=x+1:=⟨n-1,by omega⟩;have hp:IntKind.wrap .i64 (IntKind.wrap .i64 (IntKind.wrap .i64 (8*(pre.length:Int))+IntKind.wrap .i64 ((i:Int)*(w:Int)))+(j:Int))=((8*pre.length+(q+j):Nat):Int):=by
   rw[hq,AY (x:=(q:Int)) (by omega) (by omega),AY (x:=8*(pre.length:Int)) (by omega) (by omega),AY (x:=8*(pre.length:Int)+(q:Int)) (by omega) (by omega),AY (by omega) (by omega)];omega
  have hb:=NF k pre post L M (q+j) (by omega) (by omega);simp only[EU.l9,AZ (show(j:Int)<(w:Int) by omega),AP,hp,hb,AQ,AZ (show(0:Int)≤(j:Int) by omega)];have hlt:M/2^q%2^j<2^j:=Nat.mod_lt _ (Nat.two_pow_pos j);have hjj:2^(j+1)≤2^64:=Nat.pow_le_pow_right (by decide) (by omega);have hb1:M/2^(q+j)%2≤1:=by omega
  have hb2:M/2^(q+j)%2*2^j≤1*2^j:=Nat.mul_le_mul_right _ hb1;have ho:=IM .i64 (a:=M/2^q%2^j) (b:=M/2^(q+j)%2) (i:=j) (show j≤64 by omega) hlt (show _<2^64 by rw[Nat.pow_succ] at hjj;omega);rw[ho];have hs:M/2^q%2^j+M/2^(q+j)%2*2^j=M/2^q%2^(j+1):=by
   rw[mod_succ,Nat.div_div_eq_div_mul,←Nat.pow_add]
  rw[hs,AY (x:=(j:Int)+1) (by omega) (by omega),show((j:Int)+1)=((j+1:Nat):Int) by omega];exact ih n (j+1) (by omega) (by omega)
theorem acd(hk:3000≤k)(pre post:List Int)(L M w N:Nat)(hw:w≤64)(hN:N*w≤8*L)(hl:pre.length+L<10000000000000000)(JU:N≤2000)(q:Nat)(hq:IntKind.wrap .i64 ((pre.length:Int)+IntKind.wrap .i64 (Int.tdiv (IntKind.wrap .i64 ((N:Int)*(w:Int))) 8))=(q:Int)):
 ∀(m n i:Nat) (o:List Int),i+m=N→m<n→o.length=i→EU.l5 k n (pre++(leB L M++post)) (pre.length:Int) (N:Int) (w:Int) (i:Int) o=some (((),(q:Int),true),o++(List.range' i m).map (DL w M)):=by
 intro m
 induction m with
 |zero=>
  intro n i o hi hn ho;obtain⟨n,rfl⟩:∃x,n=x+1:=⟨n-1,by omega⟩;simp only[EU.l5,A8 (show ¬(i:Int)<(N:Int) by omega),AU,hq];simp
 |succ m ih=>
  intro n i o hi hn ho;obtain⟨n,rfl⟩:∃x,n=x+1:=⟨n-1,by omega⟩;have hmul:i*w+w≤N*w:=by
   have:(i+1)*w≤N*w:=Nat.mul_le_mul_right _ (by omega);rw[Nat.add_mul,Nat.one_mul] at this;exact this
  have hi':=ab_ k (EU.l5 k n) pre post L M w i (i*w) (N:Int) hw (by simp) rfl (by omega) hl (by omega) o (by omega) w k 0 (by omega) (by omega);simp only[Nat.pow_zero,Nat.mod_one] at hi';simp only[EU.l5,AZ (show(i:Int)<(N:Int) by omega),AP];have h0:((0:Nat):Int)=0:=rfl;have hw0:IntKind.wrap .i64 0=0:=rfl;rw[h0,hw0] at hi';rw[hi',ih n (i+1) _ (by omega) (by omega) (by simp;omega)];simp[List.range'_succ]
theorem aaW(hk:3000≤k)(b:List Int)(hb:b.length≤1048576)(hby:Ci b)(p s w:Nat)(hp:p≤b.length)(hs:s%8=0)(hs2:s≤1024)(hw:w<256)(left:Nat)(hleft:left≤2000)(m l:Int)(A:List Int)(hA:A.length≤2000):
 (EU k b (p:Int) (s:Int) (w:Int)=some (((),0,false),[])∧∃p',D6 k (s:Int) (w:Int) m (left:Int) (dR b p false) (A++[l])=some ((),(dR b p' true,A++[l])))∨
 ∃(q:Nat) (xs:List Int),p≤q∧q≤b.length∧xs.length=s∧EU k b (p:Int) (s:Int) (w:Int)=some (((),(q:Int),true),xs)∧
  D6 k (s:Int) (w:Int) m (left:Int) (dR b p false) (A++[l])=some ((),(dR b q false,(A++[l])++FH m l (xs.take left))):=by
 obtain⟨c,rfl⟩:∃c,s=8*c:=⟨s/8,by omega⟩;have hcw:c*w≤128*255:=Nat.mul_le_mul (by omega) (by omega);have hsw:((8*c:Nat):Int)*(w:Int)=((8*(c*w):Nat):Int):=by rw[←Nat.mul_assoc];simp
 have eQ:IntKind.wrap .i64 (Int.tdiv (IntKind.wrap .i64 (((8*c:Nat):Int)*(w:Int))) 8)=((c*w:Nat):Int):=by
  rw[hsw,AY (x:=((8*(c*w):Nat):Int)) (by omega) (by omega),N_ (show(0:Int)≤((8*(c*w):Nat):Int) by omega),AY (by omega) (by omega)];omega
 have F5:IntKind.wrap .i64 ((b.length:Int)-(p:Int))=((b.length-p:Nat):Int):=by rw[AY (by omega) (by omega)];omega
 unfold EU D6 D6.c2 J4;simp only[eQ,F5,cst,AQ];by_cases hw64:w>64
 ·left
  simp only[AZ (show(w:Int)>64 by omega),BR,AP,AQ];exact⟨trivial,p,rfl⟩
 ·simp only[A8 (show ¬(w:Int)>64 by omega),Cm,AU]
  by_cases hfit:c*w≤b.length-p
  ·right
   have hlen:((b.drop p).take (c*w)).length=c*w:=by rw[List.length_take,List.length_drop];omega
   have hsp:b=b.take p++(leB (c*w) (wv ((b.drop p).take (c*w)))++b.drop (p+c*w)):=by
    have h3:=NI ((b.drop p).take (c*w)) (fun x hx=>hby x (List.mem_of_mem_drop (List.mem_of_mem_take hx)));rw[hlen] at h3;have hdd:b.drop (p+c*w)=(b.drop p).drop (c*w):=by rw[List.drop_drop]
    rw[←h3,hdd,List.take_append_drop,List.take_append_drop]
   have hpl:(b.take p).length=p:=by rw[List.length_take];omega
   generalize wv ((b.drop p).take (c*w))=M at hsp;have hmin:min (8*c) left*w≤8*(c*w):=by
    rw[←Nat.mul_assoc];exact Nat.mul_le_mul_right _ (by omega)
   have u1:=MU k (b.take p) (b.drop (p+c*w)) (c*w) M w (min (8*c) left) (by omega) hmin (by rw[hpl];omega) (by omega) (by omega) (by omega);have LP:IntKind.wrap .i64 (((b.take p).length:Int)+IntKind.wrap .i64 (Int.tdiv (IntKind.wrap .i64 (((8*c:Nat):Int)*(w:Int))) 8))=((p+c*w:Nat):Int):=by
    rw[eQ,hpl,AY (by omega) (by omega)];omega
   have u2:=acd k hk (b.take p) (b.drop (p+c*w)) (c*w) M w (8*c) (by omega) (by rw[←Nat.mul_assoc];exact Nat.le_refl _) (by rw[hpl];omega) (by omega) (p+c*w) LP (8*c) k 0 [] (by omega) (by omega) rfl;rw[←hsp,hpl] at u1 u2;rw[show((0:Nat):Int)=0 from rfl,←List.range_eq_range',List.nil_append] at u2;have e1:IntKind.wrap .i64 ((p:Int)+((c*w:Nat):Int))=((p+c*w:Nat):Int):=by rw[AY (by omega) (by omega)];omega
   have e2:IntKind.wrap .i64 (((p+c*w:Nat):Int)-((c*w:Nat):Int))=(p:Int):=by rw[AY (by omega) (by omega)];omega
   have KN:(if(left:Int)<((8*c:Nat):Int) then(left:Int) else((8*c:Nat):Int))=((min (8*c) left:Nat):Int):=by split<;>omega
   refine⟨p+c*w,(List.range (8*c)).map (DL w M),by omega,by omega,by simp,?_,?_⟩
   ·simp only[A8 (show ¬((b.length-p:Nat):Int)<((c*w:Nat):Int) by omega),AU]
    exact u2
   ·simp only[A8 (show ¬((c*w:Nat):Int)>((b.length-p:Nat):Int) by omega),AU,AQ,e1,e2,KN,u1]
    have hx:((List.range (8*c)).map (DL w M)).take left=(List.range (min (8*c) left)).map (DL w M):=by
     rw[←List.map_take,List.take_range,Nat.min_comm]
    rw[hx];have:=aar k b (p+c*w) m ((List.range (min (8*c) left)).map (DL w M)) (by simp;omega) ((List.range (min (8*c) left)).map (DL w M)) [] A l k rfl (by simp;omega) (by simp;omega);exact this
  ·left
   simp only[AZ (show((b.length-p:Nat):Int)<((c*w:Nat):Int) by omega),AP,AZ (show((c*w:Nat):Int)>((b.length-p:Nat):Int) by omega),AQ];exact⟨trivial,p,rfl⟩
theorem aaX(hk:3000≤k)(b:List Int)(hb:b.length≤1048576)(hby:Ci b)(s Cv W many:Nat)(m block:Int)(hs:s%8=0)(hs0:0<s)(hs2:s≤1024)(hm0:0<Cv)(mX:Cv≤1024)(hW:W+Cv≤b.length)(Me:many≤2000)(hblk:IntKind.wrap .i64 (Int.tdiv block (Cv:Int))=(s:Int))
 (GA:(List Int)→Int→Int→Int→Ec→(List Int)→Option GD) (Jb:(List Int)→Int→Int→Int→Int→(List Int)→(List Int)→Option GD)
 (hL:∀p o,GA b (Cv:Int) (many:Int) (s:Int) (dR b p true) o=some (((),0,false),[])):∀(d n n' i p:Nat) (A:List Int) (l:Int),i+d=Cv→d<n→d<n'→p≤b.length→A.length+1≤many→(∀y,y∈A++[l]→Bt y)→
 (Cz.ES k GA n b (Cv:Int) (many:Int) (s:Int) m (W:Int) (i:Int) (dR b p false) (A++[l])=some (((),0,false),[])∧
  CU.IK k Jb n' b (p:Int) block (Cv:Int) (many:Int) m (W:Int) (i:Int) [] (A++[l])=some (((),0,false),[]))∨
 ∃(q:Nat) (A':List Int) (l':Int),p≤q∧q≤b.length∧A.length≤A'.length∧A'.length+1≤many∧(A.length+1<many→i<Cv→A.length<A'.length)∧(∀y,y∈A'++[l']→Bt y)∧
  Cz.ES k GA n b (Cv:Int) (many:Int) (s:Int) m (W:Int) (i:Int) (dR b p false) (A++[l])=GA b (Cv:Int) (many:Int) (s:Int) (dR b q false) (A'++[l'])∧
  CU.IK k Jb n' b (p:Int) block (Cv:Int) (many:Int) m (W:Int) (i:Int) [] (A++[l])=Jb b (q:Int) block (Cv:Int) (many:Int) [] (A'++[l']):=by
 intro d
 induction d with
 |zero=>
  intro n n' i p A l hi hn hn' hp hA hI;obtain⟨n,rfl⟩:∃x,n=x+1:=⟨n-1,by omega⟩;obtain⟨n',rfl⟩:∃x,n'=x+1:=⟨n'-1,by omega⟩;right;refine⟨p,A,l,by omega,hp,by omega,hA,fun _ h=>by omega,hI,?_,?_⟩
  ·simp only[Cz.ES,A8 (show ¬(i:Int)<(Cv:Int) by omega),AU,AQ]
  ·simp only[CU.IK,A8 (show ¬(i:Int)<(Cv:Int) by omega),AU,AQ]
 |succ d ih=>
  intro n n' i p A l hi hn hn' hp hA hI;obtain⟨n,rfl⟩:∃x,n=x+1:=⟨n-1,by omega⟩;obtain⟨n',rfl⟩:∃x,n'=x+1:=⟨n'-1,by omega⟩;by_cases hfull:A.length+1=many
  ·right
   have hd:decide (((A++[l]).length:Int)<(many:Int))=false:=A8 (by simp;omega);refine⟨p,A,l,by omega,hp,by omega,hA,fun h=>by omega,hI,?_,?_⟩
   ·simp only[Cz.ES,AZ (show(i:Int)<(Cv:Int) by omega),AP,hd,AU,AQ]
   ·simp only[CU.IK,AZ (show(i:Int)<(Cv:Int) by omega),AP,hd,AU,AQ]
  ·have hd:decide (((A++[l]).length:Int)<(many:Int))=true:=AZ (by simp;omega)
   obtain⟨y,hy,hy2⟩:=FQ (xs:=b) (i:=((W+i:Nat):Int)) (by omega) (by omega);obtain⟨y0,y1⟩:=hby y (List.mem_of_getElem? hy2);obtain⟨w,rfl⟩:∃w:Nat,y=w:=⟨y.toNat,by omega⟩;have RX:IntKind.wrap .i64 ((W:Int)+(i:Int))=((W+i:Nat):Int):=by rw[AY (by omega) (by omega)];omega
   have ew:IntKind.wrap .i64 ((w:Nat):Int)=((w:Nat):Int):=AY (by omega) (by omega);have KM:IntKind.wrap .i64 ((many:Int)-((A++[l]).length:Int))=((many-(A.length+1):Nat):Int):=by
    rw[BJ,CQ,AY (by omega) (by omega)];omega
   have ei:IntKind.wrap .i64 ((i:Int)+1)=(i:Int)+1:=AY (by omega) (by omega);simp only[Cz.ES,CU.IK,Cz.d22,AZ (show(i:Int)<(Cv:Int) by omega),AP,hd,AQ,Bv,RX,hy,ew,KM,AZ (show(Cv:Int)≠0 by omega),hblk];rcases aaW k hk b hb hby p s w hp hs hs2 (by omega) (many-(A.length+1)) (by omega) m l A (by omega) with⟨s1,p',i1⟩|⟨q,xs,q1,q2,q3,s1,i1⟩
   ·left
    simp only[s1,i1,AQ,Bv,AP,ei];refine⟨?_,trivial⟩;obtain⟨n,rfl⟩:∃x,n=x+1:=⟨n-1,by omega⟩;simp only[Cz.ES,BV,AQ,Bb,Bool.and_false,AU,hL]
   ·simp only[s1,i1,AQ,Bb,AU]
    have sa:=abX k (CU.IK k Jb n') b (q:Int) block (Cv:Int) (W:Int) (i:Int) many Me m ei xs (by omega) xs [] A l k rfl (by omega) hA;rw[List.length_nil,show((0:Nat):Int)=0 from rfl] at sa;rw[sa,ei];have hne:xs.take (many-(A.length+1))≠[]:=by
     intro h0;have:=congrArg List.length h0;rw[List.length_take,List.length_nil] at this;omega
    obtain⟨B,l',hB⟩:∃B l',FH m l (xs.take (many-(A.length+1)))=B++[l']:=by
     have:FH m l (xs.take (many-(A.length+1)))≠[]:=by
      intro h0;have h1:=Na m (xs.take (many-(A.length+1))) l;rw[h0] at h1;exact hne (List.eq_nil_of_length_eq_zero h1.symm)
     exact⟨_,_,(List.dropLast_concat_getLast this).symm⟩
    have hBl:B.length+1=min (many-(A.length+1)) xs.length:=by
     have h1:=Na m (xs.take (many-(A.length+1))) l;rw[hB,BJ,CQ,List.length_take] at h1;exact h1
    rw[hB,show(A++[l])++(B++[l'])=(A++[l]++B)++[l'] by simp];have hI':∀y,y∈(A++[l]++B)++[l']→Bt y:=by
     intro y hy;rw[show(A++[l]++B)++[l']=(A++[l])++(B++[l']) by simp,←hB] at hy;rcases List.mem_append.1 hy with hy|hy
     ·exact hI y hy
     ·exact OJ _ _ _ y hy
    have hl1:(A++[l]++B).length=A.length+1+B.length:=by simp;omega
    rcases ih n n' (i+1) q (A++[l]++B) l' (by omega) (by omega) (by omega) q2 (by omega) hI' with⟨a1,a2⟩|⟨q',A',l'',r1,r2,r3,r4,r5,r6,r7,r8⟩
    ·left
     exact⟨a1,a2⟩
    ·right
     exact⟨q',A',l'',by omega,r2,by omega,r4,fun _ _=>by omega,r6,r7,r8⟩
theorem Ro(hk:3000≤k)(b:List Int)(hb:b.length≤1048576)(hby:Ci b)(s Cv many:Nat)(block:Int)(hs:s%8=0)(hs0:0<s)(hs2:s≤1024)(hm0:0<Cv)(mX:Cv≤1024)(Me:many≤2000)(hblk:IntKind.wrap .i64 (Int.tdiv block (Cv:Int))=(s:Int)):∀(f n p:Nat) (A:List Int) (l:Int),many-(A.length+1)≤f→f+1<n→p≤b.length→A.length+1≤many→(∀y,y∈A++[l]→Bt y)→
 ∃nx ok r,Cz.Ch k n b (Cv:Int) (many:Int) (s:Int) (dR b p false) (A++[l])=some (((),nx,ok),r)∧CU.EG k n b (p:Int) block (Cv:Int) (many:Int) [] (A++[l])=some (((),nx,ok),r)∧
  (ok=false→nx=0∧r=[])∧(ok=true→(p:Int)≤nx∧nx≤(b.length:Int)∧r.length=many∧∀y,y∈r→Bt y):=by
 intro f
 induction f with
 |zero=>
  intro n p A l hf hn hp hA hI;obtain⟨n,rfl⟩:∃x,n=x+1:=⟨n-1,by omega⟩;have hd:decide (((A++[l]).length:Int)<(many:Int))=false:=A8 (by simp;omega);simp only[Cz.Ch,CU.EG,hd,AU,AQ];exact⟨_,_,_,rfl,rfl,nofun,fun _=>⟨by omega,by omega,by simp;omega,hI⟩⟩
 |succ f ih=>
  intro n p A l hf hn hp hA hI;obtain⟨n,rfl⟩:∃x,n=x+1:=⟨n-1,by omega⟩;by_cases hfull:A.length+1=many
  ·have hd:decide (((A++[l]).length:Int)<(many:Int))=false:=A8 (by simp;omega)
   simp only[Cz.Ch,CU.EG,hd,AU,AQ];exact⟨_,_,_,rfl,rfl,nofun,fun _=>⟨by omega,by omega,by simp;omega,hI⟩⟩
  ·have hd:decide (((A++[l]).length:Int)<(many:Int))=true:=AZ (by simp;omega)
   have hL:∀p o,Cz.Ch k n b (Cv:Int) (many:Int) (s:Int) (dR b p true) o=some (((),0,false),[]):=by
    intro p o;obtain⟨n,rfl⟩:∃x,n=x+1:=⟨n-1,by omega⟩;simp only[Cz.Ch,BV,Bb,Bool.and_false,AQ,AU,AP]
   have g1:=JY k (by omega) (by omega) hby p hp;have g2:=MP k (by omega) (by omega) hby p hp;simp only[Cz.Ch,CU.EG,hd,AP,AQ,Bv,FN,g1,g2,AU];cases hg:gv (b.drop p) with
   |none=>
    have z0:F8 k 0=some (CP 0):=Io k ⟨by decide,by decide⟩;simp only[Bv,AP,AQ,z0,J4];refine⟨0,false,[],?_,rfl,fun _=>⟨rfl,rfl⟩,nofun⟩;obtain⟨kk,hkk⟩:∃x,k=x+1:=⟨k-1,by omega⟩;have:∀N:Nat,0<N→Cz.ES k (Cz.Ch k n) N b (Cv:Int) (many:Int) (s:Int) (CP 0) 0 0 (dR b p true) (A++[l])=some (((),0,false),[]):=by
     intro N hN;obtain⟨N,rfl⟩:∃x,N=x+1:=⟨N-1,by omega⟩;simp only[Cz.ES,BV,AQ,Bb,Bool.and_false,AU,hL]
    exact this k (by omega)
   |some un=>
    obtain⟨u,c⟩:=un;obtain⟨hu,c1,c2,_,_⟩:=EM (b.drop p) u c (fun x hx=>hby x (List.mem_of_mem_drop hx)) hg;rw[List.length_drop] at c2;have F5:IntKind.wrap .i64 ((b.length:Int)-((p+c:Nat):Int))=((b.length-(p+c):Nat):Int):=by rw[AY (by omega) (by omega)];omega
    simp only[Bb,AU,AQ,Io k hu,J4,F5];by_cases hfit:Cv≤b.length-(p+c)
    ·have e1:IntKind.wrap .i64 (((p+c:Nat):Int)+(Cv:Int))=((p+c+Cv:Nat):Int):=by rw[AY (by omega) (by omega)];omega
     have e2:IntKind.wrap .i64 (((p+c+Cv:Nat):Int)-(Cv:Int))=((p+c:Nat):Int):=by rw[AY (by omega) (by omega)];omega
     simp only[A8 (show ¬((b.length-(p+c):Nat):Int)<(Cv:Int) by omega),A8 (show ¬(Cv:Int)>((b.length-(p+c):Nat):Int) by omega),AU,AQ,e1,e2];rcases aaX k hk b hb hby s Cv (p+c) many (CP u) block hs hs0 hs2 hm0 mX (by omega) Me hblk (Cz.Ch k n) (CU.EG k n) hL Cv k k 0 (p+c+Cv) A l (by omega) (by omega) (by omega) (by omega) hA hI with⟨a1,a2⟩|⟨q,A',l',r1,r2,r3,r4,r5,r6,r7,r8⟩
     ·exact⟨0,false,[],a1,a2,fun _=>⟨rfl,rfl⟩,nofun⟩
     ·have hgrow:=r5 (by omega) (by omega)
      obtain⟨nx,ok,r,b1,b2,b3,b4⟩:=ih n q A' l' (by omega) (by omega) r2 r4 r6;refine⟨nx,ok,r,r7.trans b1,r8.trans b2,b3,fun hh=> ?_⟩;obtain⟨x1,x2⟩:=b4 hh;exact⟨by omega,x2⟩
    ·simp only[AZ (show((b.length-(p+c):Nat):Int)<(Cv:Int) by omega),AZ (show(Cv:Int)>((b.length-(p+c):Nat):Int) by omega),AP,AQ]
     refine⟨0,false,[],?_,rfl,fun _=>⟨rfl,rfl⟩,nofun⟩;have:∀N:Nat,0<N→Cz.ES k (Cz.Ch k n) N b (Cv:Int) (many:Int) (s:Int) (CP u) 0 0 (dR b (p+c) true) (A++[l])=some (((),0,false),[]):=by
      intro N hN;obtain⟨N,rfl⟩:∃x,N=x+1:=⟨N-1,by omega⟩;simp only[Cz.ES,BV,AQ,Bb,Bool.and_false,AU,hL]
     exact this k (by omega)
theorem Km(hk:2000≤k)(b:List Int)(hb:b.length≤1048576)(hby:Ci b)(p:Nat)(hp:p≤b.length):
 (gv (b.drop p)=none∧FN k (dR b p false) []=some (0,(dR b p true,[]))∧Et k b (p:Int)=some (0,0,false)∧Ih k b (p:Int)=some (0,0,false))∨
 ∃(u:Int) (q:Nat),Bt u∧q≤b.length∧p≤q∧FN k (dR b p false) []=some (u,(dR b q false,[]))∧Et k b (p:Int)=some (u,(q:Int),true)∧Ih k b (p:Int)=some (CP u,(q:Int),true):=by
 have g1:=JY k hk (by omega) hby p hp;have g2:=Lc k hk (by omega) hby p hp;have g3:=MP k hk (by omega) hby p hp;unfold FN;simp only[g1,g2,g3];cases hg:gv (b.drop p) with
 |none=>
  left;exact⟨rfl,rfl,rfl,rfl⟩
 |some un=>
  right;obtain⟨u,c⟩:=un;obtain⟨hu,c1,c2,_,_⟩:=EM (b.drop p) u c (fun x hx=>hby x (List.mem_of_mem_drop hx)) hg;rw[List.length_drop] at c2;exact⟨u,p+c,hu,by omega,by omega,rfl,rfl,rfl⟩
theorem Oi(hk:2000≤k)(b:List Int)(hb:b.length≤1048576)(hby:Ci b)(p:Nat)(hp:p≤b.length):FN k (dR b p true) []=some (0,(dR b p true,[])):=by
 have g1:=JY k hk (by omega) hby p hp;unfold FN;simp only[g1];cases gv (b.drop p)<;>rfl
theorem NR(hk:2000≤k)(b:List Int)(hb:b.length≤1048576)(hby:Ci b)(p:Nat)(hp:p≤b.length):∃(u:Int) (q:Nat) (ok:Bool),q≤b.length∧Et k b (p:Int)=some (u,(q:Int),ok):=by
 rcases Km k hk b hb hby p hp with⟨_,_,a,_⟩|⟨u,q,_,h1,_,_,a,_⟩
 ·exact⟨0,0,false,by omega,a⟩
 ·exact⟨u,q,true,h1,a⟩
theorem N9(hk:2000≤k)(b:List Int)(hb:b.length≤1048576)(hby:Ci b)(p:Nat)(hp:p≤b.length):∃(u:Int) (q:Nat) (ok:Bool),Ih k b (p:Int)=some (u,(q:Int),ok):=by
 rcases Km k hk b hb hby p hp with⟨_,_,_,a⟩|⟨u,q,_,h1,_,_,_,a⟩
 ·exact⟨0,0,false,a⟩
 ·exact⟨_,q,true,a⟩
theorem Nk(hk:3000≤k)(b:List Int)(hb:b.length≤1048576)(hby:Ci b)(at_:Int):
 ∃nx ok r,Cz k b at_=some (((),nx,ok),r)∧CU k b at_=some (((),nx,ok),r)∧
  (ok=false→nx=0∧r=[])∧(ok=true→(0≤at_∧at_≤nx∧nx≤(b.length:Int))∧r.length≤2000∧∀y,y∈r→Bt y):=by
 have fail:∃nx ok r,(some (((),0,false),[]):Option GD)=some (((),nx,ok),r)∧(some (((),0,false),[]):Option GD)=some (((),nx,ok),r)∧
  (ok=false→nx=0∧r=[])∧(ok=true→(0≤at_∧at_≤nx∧nx≤(b.length:Int))∧r.length≤2000∧∀y,y∈r→Bt y):=⟨_,_,_,rfl,rfl,fun _=>⟨rfl,rfl⟩,nofun⟩
 unfold Cz CU;simp only[CB,Dc,AQ];by_cases hat:0≤at_∧at_≤(b.length:Int)
 ·obtain⟨a0,a1⟩:=hat
  obtain⟨p,rfl⟩:∃m:Nat,at_=m:=⟨at_.toNat,by omega⟩;simp only[AZ a0,AZ a1,Bool.and_self,Bb,AU];have z0:F8 k 0=some (CP 0):=Io k ⟨by decide,by decide⟩;rcases Km k (by omega) b hb hby p (by omega) with⟨_,i1,s1,_⟩|⟨u1,q1,hu1,h1,p1,i1,s1,_⟩
  ·obtain⟨u2,q2,NJ,b2,s2⟩:=NR k (by omega) b hb hby 0 (by omega)
   obtain⟨u3,q3,ok3,b3,s3⟩:=NR k (by omega) b hb hby q2 b2;obtain⟨u4,q4,Qc,s4⟩:=N9 k (by omega) b hb hby q3 b3;rw[show((0:Nat):Int)=0 from rfl] at s2;have ub:=Oi k (by omega) b hb hby p (by omega);have ib:FN k (b,(p:Int),false,(),()) []=some (0,(dR b p true,[])):=i1;simp only[ib,ub,s1,s2,s3,s4,AQ,z0,cst,Bv,BR,AP];exact fail
  have ib:FN k (b,(p:Int),false,(),()) []=some (u1,(dR b q1 false,[])):=i1;rcases Km k (by omega) b hb hby q1 h1 with⟨_,i2,s2,_⟩|⟨u2,q2,hu2,h2,p2,i2,s2,_⟩
  ·obtain⟨u3,q3,ok3,b3,s3⟩:=NR k (by omega) b hb hby 0 (by omega)
   obtain⟨u4,q4,Qc,s4⟩:=N9 k (by omega) b hb hby q3 b3;rw[show((0:Nat):Int)=0 from rfl] at s3;have ub:=Oi k (by omega) b hb hby q1 h1;simp only[ib,i2,ub,s1,s2,s3,s4,AQ,z0,cst,Bv,Bb,BR,Cm,AP];exact fail
  rcases Km k (by omega) b hb hby q2 h2 with⟨_,i3,s3,_⟩|⟨u3,q3,hu3,h3,p3,i3,s3,_⟩
  ·obtain⟨u4,q4,Qc,s4⟩:=N9 k (by omega) b hb hby 0 (by omega)
   rw[show((0:Nat):Int)=0 from rfl] at s4;have ub:=Oi k (by omega) b hb hby q2 h2;simp only[ib,i2,i3,ub,s1,s2,s3,s4,AQ,z0,cst,Bv,Bb,BR,Cm,AP];exact fail
  rcases Km k (by omega) b hb hby q3 h3 with⟨_,i4,s4',s4⟩|⟨u4,q4,hu4,h4,p4,i4,s4',s4⟩
  ·simp only[ib,i2,i3,i4,s1,s2,s3,s4,AQ,z0,cst,Bv,Bb,BR,Cm,AP]
   exact fail
  simp only[ib,i2,i3,i4,s1,s2,s3,s4,AQ,Io k hu4,cst,Bb,Cm];by_cases hbk:128≤u1∧u1≤1024
  ·obtain⟨k1,k2⟩:=hbk
   simp only[AZ k1,AZ k2,Bool.and_self,Bb,Cm];by_cases h128:Int.tmod u1 128=0
   ·simp only[Bw h128,Cm]
    by_cases mX:1≤u2∧u2≤u1
    ·obtain⟨m1,m2⟩:=mX
     simp only[AZ m1,AZ m2,Bool.and_self,Bb,Cm,AZ (show u2≠0 by omega),AP,AU,AQ,cst];by_cases hcnt:0≤u3∧u3≤2000
     ·obtain⟨n1,n2⟩:=hcnt
      simp only[AZ n1,AZ n2,Bool.and_self,Bb,Bool.or_false,AU];cases hdv:(Int.tmod u1 u2 !=0||Int.tmod (IntKind.wrap .i64 (Int.tdiv u1 u2)) 32 !=0) with
      |true=>
       simp only[AP];exact fail
      |false=>
       simp only[Bool.or_eq_false_iff,bne_eq_false_iff_eq] at hdv;simp only[AU];obtain⟨mi,rfl⟩:∃m:Nat,u2=m:=⟨u2.toNat,by omega⟩;obtain⟨bk,rfl⟩:∃m:Nat,u1=m:=⟨u1.toNat,by omega⟩;obtain⟨cn,rfl⟩:∃m:Nat,u3=m:=⟨u3.toNat,by omega⟩;have ediv:IntKind.wrap .i64 (Int.tdiv (bk:Int) (mi:Int))=((bk/mi:Nat):Int):=by
        have e:Int.tdiv (bk:Int) (mi:Int)=((bk/mi:Nat):Int):=by rw[Int.tdiv_eq_ediv_of_nonneg (by omega),Int.natCast_ediv]
        have:bk/mi≤bk:=Nat.div_le_self _ _;rw[e];generalize bk/mi=z at this⊢;exact AY (by omega) (by omega)
       have hdl:bk/mi≤bk:=Nat.div_le_self _ _;have hdp:0<bk/mi:=Nat.div_pos (by omega) (by omega);have Ny:(bk/mi)%8=0:=by
        have h32:=hdv.2;rw[ediv,Int.tmod_eq_emod_of_nonneg (by omega)] at h32;omega
       by_cases hz:cn=0
       ·subst hz
        simp only[show(((0:Nat):Int)==0)=true from rfl,AP,show decide (((0:Nat):Int)>0)=false from rfl,AU];have EG:CU.EG k k b (q4:Int) (bk:Int) (mi:Int) ((0:Nat):Int) [] []=some (((),(q4:Int),true),[]):=by
         obtain⟨kk,hkk⟩:∃x,k=x+1:=⟨k-1,by omega⟩;rw[hkk];rfl
        rw[EG];exact⟨_,_,_,rfl,rfl,nofun,fun _=>⟨⟨by omega,by omega,by omega⟩,by simp,fun y hy=>by cases hy⟩⟩
       ·have hgt:decide (((cn:Nat):Int)>0)=true:=AZ (by omega)
        simp only[A9 (show ¬((cn:Nat):Int)=0 by omega),AU,hgt,AP,ediv,Bz (show(0:Nat)+[CP u4].length≤4294967296 by simp),List.nil_append];have hzI:Bt (CP u4):=M6 u4
        obtain⟨nx,ok,r,b1,b2,b3,b4⟩:=Ro k hk b hb hby (bk/mi) mi cn (bk:Int) Ny hdp (by omega) (by omega) (by omega) (by omega) ediv 2000 k q4 [] (CP u4) (by simp;omega) (by omega) h4 (by simp;omega) (by
         intro y hy;rw[List.nil_append,List.mem_singleton] at hy;subst hy;exact hzI)
        rw[List.nil_append] at b1 b2;refine⟨nx,ok,r,b1,b2,b3,fun hh=> ?_⟩;obtain⟨x1,x2,x3,x4⟩:=b4 hh;exact⟨⟨by omega,by omega,x2⟩,by omega,x4⟩
     ·have:(decide ((0:Int)≤u3)&&decide (u3≤2000))=false:=by
       rw[Bool.eq_false_iff];intro h;simp only[BZ,Ce] at h;exact hcnt h
      simp only[this,Bv,Bool.or_true,AP];exact fail
    ·have:(decide ((1:Int)≤u2)&&decide (u2≤u1))=false:=by
      rw[Bool.eq_false_iff];intro h;simp only[BZ,Ce] at h;exact mX h
     simp only[this,Bv,BR,AP,AQ];exact fail
   ·simp only[BQ h128,BR,AP,AQ]
    exact fail
  ·have:(decide ((128:Int)≤u1)&&decide (u1≤1024))=false:=by
    rw[Bool.eq_false_iff];intro h;simp only[BZ,Ce] at h;exact hbk h
   simp only[this,Bv,BR,AP,AQ];exact fail
 ·have:(decide (0≤at_)&&decide (at_≤(b.length:Int)))=false:=by
   rw[Bool.eq_false_iff];intro h;simp only[BZ,Ce] at h;exact hat h
  simp only[this,Bv,AP];exact fail
end Go.Bd
end
section
namespace Go.Bd
open Go.Am Go.Fn
variable(k:Nat)
abbrev VR:=(Unit×Int×Bool)×List AV
theorem aaH(b:List Int)(hb:b.length≤1048576)(ns:List Int)(hns:ns.length≤2000)(hI:∀y,y∈ns→Bt y):∀(post pre:List Int) (n n' p:Nat) (o:List AV),ns=pre++post→post.length<n→post.length<n'→p≤b.length→o.length=pre.length→(∀v,v∈o→v.1=0∧v.2.1.size≤40)→
 ∃nx ok l,Gl.l6 k n b (p:Int) (ns.length:Int) (pre.length:Int) o ns=some (((),nx,ok),l)∧Hy.l7 k n' b (p:Int) (pre.length:Int) [] ns o=some (((),nx,ok),l)∧
  (ok=false→nx=0∧l=[])∧(ok=true→(p:Int)≤nx∧nx≤(b.length:Int)∧l.length=ns.length∧∀v,v∈l→v.1=0∧v.2.1.size≤40):=by
 intro post
 induction post with
 |nil=>
  intro pre n n' p o hv hn hn' hp ho hO;obtain⟨n,rfl⟩:∃x,n=x+1:=⟨n-1,by omega⟩;obtain⟨n',rfl⟩:∃x,n'=x+1:=⟨n'-1,by omega⟩;have:ns=pre:=by simpa using hv
  subst this;simp only[Gl.l6,Hy.l7,A8 (show ¬(ns.length:Int)<(ns.length:Int) by omega),AU];exact⟨_,_,_,rfl,rfl,nofun,fun _=>⟨by omega,by omega,ho,hO⟩⟩
 |cons y post ih=>
  intro pre n n' p o hv hn hn' hp ho hO;simp only[Co] at hn hn';obtain⟨n,rfl⟩:∃x,n=x+1:=⟨n-1,by omega⟩;obtain⟨n',rfl⟩:∃x,n'=x+1:=⟨n'-1,by omega⟩;have hlen:ns.length=pre.length+(post.length+1):=by rw[hv];simp
  have hg:gP ns (pre.length:Int)=some y:=by rw[hv];exact Ej pre post y
  have F5:IntKind.wrap .i64 ((b.length:Int)-(p:Int))=(b.length:Int)-(p:Int):=AY (by omega) (by omega);simp only[Gl.l6,Hy.l7,AZ (show(pre.length:Int)<(ns.length:Int) by omega),AP,hg,AQ,CB,Dc,cst,F5];by_cases hbad:(0≤y∧y≤40)∧y≤(b.length:Int)-(p:Int)
  ·obtain⟨⟨y0,y1⟩,y2⟩:=hbad
   have e1:IntKind.wrap .i64 ((p:Int)+y)=(((p+y.toNat:Nat)):Int):=by rw[AY (by omega) (by omega)];omega
   have hsl:jM (p:Int) (((p+y.toNat:Nat)):Int) b.length=true:=EF (by omega) (by omega) (by omega);have hlim:∀x:Nat×ByteArray×Unit,lim (o.length+[x].length)=true:=fun x=>Bz (by simp;omega);simp only[AZ y0,AZ y1,Bool.and_self,Bb,A8 (show ¬y>(b.length:Int)-(p:Int) by omega),Cu,AU,e1,hsl,AP,hlim,AY (x:=(pre.length:Int)+1) (by omega) (by omega)];have hsz:(yM (kP b (p:Int) (((p+y.toNat:Nat)):Int))).size≤40:=by
    rw[II];unfold kP;rw[List.length_drop,List.length_take];omega
   obtain⟨nx,ok,l,i1,i2,i3,i4⟩:=ih (pre++[y]) n n' (p+y.toNat) (o++[(0,yM (kP b (p:Int) (((p+y.toNat:Nat)):Int)),())]) (by rw[hv];simp) (by omega) (by omega) (by omega) (by simp[ho]) (by
    intro v hv';rcases List.mem_append.1 hv' with hv'|hv'
    ·exact hO v hv'
    ·rw[List.mem_singleton.1 hv'];exact⟨rfl,hsz⟩)
   rw[BJ,CQ] at i1 i2;exact⟨nx,ok,l,i1,i2,i3,fun hh=>by obtain⟨x1,x2⟩:=i4 hh;exact⟨by omega,x2⟩⟩
  ·have:(!(decide (0≤y)&&decide (y≤40))||decide (y>(b.length:Int)-(p:Int)))=true:=by
    by_cases a:0≤y<;>by_cases c:y≤40<;>by_cases d:y≤(b.length:Int)-(p:Int)<;>simp[a,c,d]
    ·exact(hbad ⟨⟨a,c⟩,d⟩).elim
    ·omega
   simp only[this,AP];exact⟨_,_,_,rfl,rfl,fun _=>⟨rfl,rfl⟩,nofun⟩
theorem PZ(hk:3000≤k)(b:List Int)(hb:b.length≤1048576)(hby:Ci b)(at_:Int):
 ∃nx ok l,Gl k b at_=some (((),nx,ok),l)∧Hy k b at_=some (((),nx,ok),l)∧
  (ok=false→nx=0∧l=[])∧(ok=true→(0≤at_∧at_≤nx∧nx≤(b.length:Int))∧l.length≤2000∧∀v,v∈l→v.1=0∧v.2.1.size≤40):=by
 obtain⟨nx,ok,r,e1,e2,e3,e4⟩:=Nk k hk b hb hby at_;unfold Gl Hy;simp only[e1,e2,AQ];cases ok with
 |false=>
  simp only[Bv,AP];exact⟨_,_,_,rfl,rfl,fun _=>⟨rfl,rfl⟩,nofun⟩
 |true=>
  obtain⟨⟨x1,x2,x3⟩,x4,x5⟩:=e4 rfl;obtain⟨p,rfl⟩:∃m:Nat,nx=m:=⟨nx.toNat,by omega⟩;obtain⟨nx',ok',l,i1,i2,i3,i4⟩:=aaH k b hb r x4 x5 r [] k k p [] rfl (by omega) (by omega) (by omega) rfl (by simp);rw[List.length_nil,show((0:Nat):Int)=0 from rfl] at i1 i2;simp only[Bb,AU,i1,i2];refine⟨_,_,_,rfl,rfl,i3,fun hh=> ?_⟩;obtain⟨y1,y2,y3,y4⟩:=i4 hh;exact⟨⟨x1,by omega,y2⟩,by omega,y4⟩
theorem ZX(end_:Int)(ns:List Int)(hns:ns.length≤2000)(vs:List AV)(hvs:vs.length=ns.length)(hI:∀y,y∈ns→Bt y)(hV:∀v,v∈vs→v.1=0∧v.2.1.size≤40):∀(post pre:List Int) (n n':Nat) (t:ByteArray) (o:List AV),ns=pre++post→post.length<n→post.length<n'→t.size≤40→o.length=pre.length→
 ∃nx ok l,GM.l10 k n end_ t (ns.length:Int) (pre.length:Int) vs o ns=some (((),nx,ok),l)∧Ie.l9 k n' end_ t (pre.length:Int) [] ns vs o=some (((),nx,ok),l)∧
  (ok=false→nx=0∧l=[])∧(ok=true→nx=end_∧l.length=ns.length):=by
 intro post
 induction post with
 |nil=>
  intro pre n n' t o hv hn hn' ht ho;obtain⟨n,rfl⟩:∃x,n=x+1:=⟨n-1,by omega⟩;obtain⟨n',rfl⟩:∃x,n'=x+1:=⟨n'-1,by omega⟩;have:ns=pre:=by simpa using hv
  subst this;simp only[GM.l10,Ie.l9,A8 (show ¬(ns.length:Int)<(ns.length:Int) by omega),AU];exact⟨_,_,_,rfl,rfl,nofun,fun _=>⟨rfl,ho⟩⟩
 |cons y post ih=>
  intro pre n n' t o hv hn hn' ht ho;simp only[Co] at hn hn';obtain⟨n,rfl⟩:∃x,n=x+1:=⟨n-1,by omega⟩;obtain⟨n',rfl⟩:∃x,n'=x+1:=⟨n'-1,by omega⟩;have hlen:ns.length=pre.length+(post.length+1):=by rw[hv];simp
  have hg:gP ns (pre.length:Int)=some y:=by rw[hv];exact Ej pre post y
  obtain⟨v,hgv,aal⟩:=FQ (xs:=vs) (i:=(pre.length:Int)) (by omega) (by omega);obtain⟨_,ada⟩:=hV v (List.mem_of_getElem? aal);have e3:IntKind.wrap .i64 ((pre.length:Int)+1)=(pre.length:Int)+1:=AY (by omega) (by omega);simp only[GM.l10,Ie.l9,AZ (show(pre.length:Int)<(ns.length:Int) by omega),AP,hg,hgv,AQ,CB,Dc,cst,e3];by_cases hin:0≤y∧y≤(t.size:Int)
  ·obtain⟨y0,y1⟩:=hin
   have hex:(ByteArray.extract t (Int.toNat 0) (Int.toNat y)).size=y.toNat:=by
    rw[ByteArray.size_extract];omega
   have Px:((ByteArray.extract t (Int.toNat 0) (Int.toNat y))++v.2.1).size=y.toNat+v.2.1.size:=by rw[ByteArray.size_append,hex]
   have ew:IntKind.wrap .i64 (y+(v.2.1.size:Int))=((y.toNat+v.2.1.size:Nat):Int):=by rw[AY (by omega) (by omega)];omega
   simp only[AZ y0,AZ y1,Bool.and_self,Bb,Cm,ew,AU,EF (show(0:Int)≤0 by decide) y0 y1,AP,hex,Px,Bz (show y.toNat+v.2.1.size≤4294967296 by omega)];by_cases hbig:((y.toNat+v.2.1.size:Nat):Int)>40
   ·simp only[AZ hbig,AP]
    exact⟨_,_,_,rfl,rfl,fun _=>⟨rfl,rfl⟩,nofun⟩
   ·have hlim:∀x:Nat×ByteArray×Unit,lim (o.length+[x].length)=true:=fun x=>Bz (by simp;omega)
    simp only[A8 hbig,AU,hlim,AP];have:=ih (pre++[y]) n n' ((ByteArray.extract t (Int.toNat 0) (Int.toNat y))++v.2.1) (o++[(0,(ByteArray.extract t (Int.toNat 0) (Int.toNat y))++v.2.1,())]) (by rw[hv];simp) (by omega) (by omega) (by rw[Px];omega) (by simp[ho]);rw[BJ,CQ] at this;exact this
  ·have:(decide (0≤y)&&decide (y≤(t.size:Int)))=false:=by
    rw[Bool.eq_false_iff];intro h;simp only[BZ,Ce] at h;exact hin h
   simp only[this,Bv,BR,AP];exact⟨_,_,_,rfl,rfl,fun _=>⟨rfl,rfl⟩,nofun⟩
theorem ZW(hk:3000≤k)(b:List Int)(hb:b.length≤1048576)(hby:Ci b)(at_:Int):
 ∃nx ok l,GM k b at_=some (((),nx,ok),l)∧Ie k b at_=some (((),nx,ok),l)∧l.length≤2000:=by
 obtain⟨nx,ok,r,e1,e2,e3,e4⟩:=Nk k hk b hb hby at_;obtain⟨qx,NJ,l2,f1,f2,f3,f4⟩:=PZ k hk b hb hby nx;unfold GM Ie;simp only[e1,e2,f1,f2,AQ,cst];cases ok with
 |false=>
  simp only[Bv,BR,AP];exact⟨_,_,_,rfl,rfl,by simp⟩
 |true=>
  obtain⟨⟨x1,x2,x3⟩,x4,x5⟩:=e4 rfl;simp only[Bb,AU,Cm];cases NJ with
  |false=>
   simp only[Bv,BR,AP];exact⟨_,_,_,rfl,rfl,by simp⟩
  |true=>
   obtain⟨_,y4,y5⟩:=f4 rfl;simp only[Bb,Cm];by_cases hl:l2.length=r.length
   ·rw[Bw (show(l2.length:Int)=(r.length:Int) by omega),Bw (show(r.length:Int)=(l2.length:Int) by omega),AU,AU]
    obtain⟨nx',ok',l,i1,i2,i3,i4⟩:=ZX k qx r x4 l2 hl x5 y5 r [] k k ⟨#[]⟩ [] rfl (by omega) (by omega) (by decide) rfl;rw[List.length_nil,show((0:Nat):Int)=0 from rfl] at i1 i2;refine⟨_,_,_,i1,i2,?_⟩;cases ok' with
    |false=>rw[(i3 rfl).2];simp
    |true=>rw[(i4 rfl).2];exact x4
   ·rw[BQ (show ¬(l2.length:Int)=(r.length:Int) by omega),BQ (show ¬(r.length:Int)=(l2.length:Int) by omega),AP,AP]
    exact⟨_,_,_,rfl,rfl,by simp⟩
end Go.Bd
end
section
namespace Go.Bd
open Go.Am Go.Fn
variable(k:Nat)
theorem ack(Li:(List Int)→Int→Int→Int→Int→Int→(List AV)→Option VR)(Ls:(List Int)→Int→Int→Int→Int→(List AV)→Option VR)(b:List Int)(hb:b.length≤1048576)(hby:Ci b)(p many wd i:Nat)(t43:Int)(hp:p+many*wd≤b.length)(hi:i<many)(hm:many≤2000)(hw:wd=4∨wd=8)(o:List AV)(ho:o.length≤2000):
 ∀(m n n' j acc:Nat),j+m=wd→m<n→m<n'→acc<2^(8*j)→
 ∃x:Int,Bt x∧
  En.l10 k Li n b (p:Int) (many:Int) (wd:Int) (i:Int) (IntKind.wrap .i64 (acc:Int)) t43 (i:Int) (wd:Int) (j:Int) o=Li b (p:Int) (many:Int) (wd:Int) t43 ((i:Int)+1) (o++[(x,⟨#[]⟩,())])∧
  Es.l10 k Ls n' b (p:Int) (many:Int) (wd:Int) (i:Int) (IntKind.wrap .i64 (acc:Int)) (j:Int) o=Ls b (p:Int) (many:Int) (wd:Int) ((i:Int)+1) (o++[(x,⟨#[]⟩,())]):=by
 intro m
 induction m with
 |zero=>
  intro n n' j acc hj hn hn' ha;obtain⟨n,rfl⟩:∃q,n=q+1:=⟨n-1,by omega⟩;obtain⟨n',rfl⟩:∃q,n'=q+1:=⟨n'-1,by omega⟩;obtain rfl:j=wd:=by omega
  have hlim:∀x:AV,lim (o.length+[x].length)=true:=fun x=>Bz (by simp;omega);have e3:IntKind.wrap .i64 ((i:Int)+1)=(i:Int)+1:=AY (by omega) (by omega);simp only[En.l10,Es.l10,A8 (show ¬(j:Int)<(j:Int) by omega),AU,IE,Es.c15,e3];rcases hw with rfl|rfl
  ·have h32:acc<4294967296:=ha
   have ew:IntKind.wrap .i64 (acc:Int)=(acc:Int):=AY (by omega) (by omega);have aao:(2:Int)^32=4294967296:=by decide
   have h2:(acc:Int)%2^32=(acc:Int):=Int.emod_eq_of_lt (by omega) (by rw[aao];omega);have aam:IntKind.wrap .i32 (acc:Int)=if(acc:Int)>2147483647 then(acc:Int)-4294967296 else(acc:Int):=by
    simp only[IntKind.wrap,IntKind.bits,IntKind.signed,h2,Er,Ce];by_cases h:(acc:Int)>2147483647
    ·rw[if_pos h,if_pos (show(acc:Int)≥2^(32-1) by omega)];omega
    ·rw[if_neg h,if_neg (show ¬(acc:Int)≥2^(32-1) by omega)]
   rw[ew];simp only[show(((4:Nat):Int)==4)=true from rfl,AP,AQ,aam];by_cases h:(acc:Int)>2147483647
   ·simp only[if_pos h,AZ h,AP,AY (x:=(acc:Int)-4294967296) (by omega) (by omega),hlim]
    exact⟨_,⟨by omega,by omega⟩,rfl,rfl⟩
   ·simp only[if_neg h,A8 h,AU,AY (x:=(acc:Int)) (by omega) (by omega),hlim,AP]
    exact⟨_,⟨by omega,by omega⟩,rfl,rfl⟩
  ·simp only[show(((8:Nat):Int)==4)=false from rfl,AU,AQ,hlim,AP]
   exact⟨_,⟨I7 _,I6 _⟩,rfl,rfl⟩
 |succ m ih=>
  intro n n' j acc hj hn hn' ha;obtain⟨n,rfl⟩:∃q,n=q+1:=⟨n-1,by omega⟩;obtain⟨n',rfl⟩:∃q,n'=q+1:=⟨n'-1,by omega⟩;have hjm:j*many+many≤many*wd:=by
   have:(j+1)*many≤wd*many:=Nat.mul_le_mul_right _ (by omega);rw[Nat.add_mul,Nat.one_mul,Nat.mul_comm wd] at this;exact this
  have ac9:j*many≤8*2000:=Nat.mul_le_mul (by omega) hm;have hix:IntKind.wrap .i64 (IntKind.wrap .i64 ((p:Int)+IntKind.wrap .i64 ((j:Int)*(many:Int)))+(i:Int))=((p+j*many+i:Nat):Int):=by
   rw[show(j:Int)*(many:Int)=((j*many:Nat):Int) by simp,AY (x:=((j*many:Nat):Int)) (by omega) (by omega),AY (x:=(p:Int)+((j*many:Nat):Int)) (by omega) (by omega),AY (by omega) (by omega)];omega
  obtain⟨y,hy,hy2⟩:=FQ (xs:=b) (i:=((p+j*many+i:Nat):Int)) (by omega) (by omega);obtain⟨y0,y1⟩:=hby y (List.mem_of_getElem? hy2);have e2:IntKind.wrap .i64 (8*(j:Int))=((8*j:Nat):Int):=by rw[AY (by omega) (by omega)];omega
  have e3:IntKind.wrap .i64 ((j:Int)+1)=((j+1:Nat):Int):=by rw[AY (by omega) (by omega)];omega
  have ec:IntKind.wrap .i64 y=((y.toNat:Nat):Int):=by rw[AY (by omega) (by omega)];omega
  have Ma:2^(8*(j+1))=256*2^(8*j):=by rw[Nat.mul_add,Nat.pow_add];simp[Nat.mul_comm]
  have hle:2^(8*(j+1))≤2^64:=Nat.pow_le_pow_right (by omega) (by omega);have hlt:acc+y.toNat*2^(8*j)<2^(8*(j+1)):=by
   rw[Ma];have:y.toNat*2^(8*j)≤255*2^(8*j):=Nat.mul_le_mul_right _ (by omega);omega
  have G9:=IM .i64 (a:=acc) (b:=y.toNat) (i:=8*j) (show 8*j≤64 by omega) ha (by show _<2^64;omega);simp only[En.l10,Es.l10,AZ (show(j:Int)<(wd:Int) by omega),AP,hix,hy,AQ,e2,AZ (show(0:Int)≤((8*j:Nat):Int) by omega),ec,G9,e3];exact ih n n' (j+1) _ (by omega) (by omega) (by omega) hlt
theorem acm(hk:3000≤k)(b:List Int)(hb:b.length≤1048576)(hby:Ci b)(p many wd:Nat)(hp:p+many*wd≤b.length)(hm:many≤2000)(hw:wd=4∨wd=8):∀(d n i:Nat) (o:List AV),i+d=many→d<n→o.length=i→
 ∃l,En.l6 k n b (p:Int) (many:Int) (wd:Int) (many:Int) (i:Int) o=some (((),((p+many*wd:Nat):Int),true),l)∧Es.l6 k n b (p:Int) (many:Int) (wd:Int) (i:Int) o=some (((),((p+many*wd:Nat):Int),true),l)∧l.length=many:=by
 have hmw:many*wd≤2000*8:=Nat.mul_le_mul hm (by omega);have e1:IntKind.wrap .i64 ((p:Int)+IntKind.wrap .i64 ((many:Int)*(wd:Int)))=((p+many*wd:Nat):Int):=by
  rw[show(many:Int)*(wd:Int)=((many*wd:Nat):Int) by simp,AY (x:=((many*wd:Nat):Int)) (by omega) (by omega),AY (by omega) (by omega)];omega
 have e2:IntKind.wrap .i64 ((p:Int)+IntKind.wrap .i64 ((wd:Int)*(many:Int)))=((p+many*wd:Nat):Int):=by
  rw[Int.mul_comm,e1]
 intro d
 induction d with
 |zero=>
  intro n i o hi hn ho;obtain⟨n,rfl⟩:∃x,n=x+1:=⟨n-1,by omega⟩;obtain rfl:i=many:=by omega
  simp only[En.l6,Es.l6,A8 (show ¬(i:Int)<(i:Int) by omega),AU,e1,e2];exact⟨o,rfl,rfl,ho⟩
 |succ d ih=>
  intro n i o hi hn ho;obtain⟨n,rfl⟩:∃x,n=x+1:=⟨n-1,by omega⟩;obtain⟨x,_,i1,s1⟩:=ack k (En.l6 k n) (Es.l6 k n) b hb hby p many wd i (many:Int) hp (by omega) hm hw o (by omega) wd k k 0 0 (by omega) (by omega) (by omega) (by simp);rw[show IntKind.wrap .i64 ((0:Nat):Int)=0 by decide,show((0:Nat):Int)=0 from rfl] at i1 s1;simp only[En.l6,Es.l6,AZ (show(i:Int)<(many:Int) by omega),AP,i1,s1];have:=ih n (i+1) (o++[(x,⟨#[]⟩,())]) (by omega) (by omega) (by simp[ho]);rw[show((i+1:Nat):Int)=(i:Int)+1 by omega] at this;exact this
theorem Qv(t:Int):∃wd:Int,Mk k t=some wd∧IW k t=some wd∧Ed k t=some wd∧(wd=0∨wd=4∨wd=8):=by
 unfold Mk IW IW.c6 Ed Ed.c6;by_cases h1:t=1
 ·subst h1;exact⟨4,rfl,rfl,rfl,by decide⟩
 by_cases h2:t=2
 ·subst h2;exact⟨8,rfl,rfl,rfl,by decide⟩
 by_cases h5:t=5
 ·subst h5;exact⟨8,rfl,rfl,rfl,by decide⟩
 ·simp only[A9 h1,A9 h2,A9 h5,AU,AQ]
  exact⟨0,rfl,rfl,rfl,by decide⟩
theorem acj(hk:3000≤k)(t:Int)(b:List Int)(hb:b.length≤1048576)(hby:Ci b)(at_ many:Int):
 ∃nx ok l,En k t b at_ many=some (((),nx,ok),l)∧Es k t b at_ many=some (((),nx,ok),l)∧l.length≤2000:=by
 obtain⟨wd,w1,w2,_,w3⟩:=Qv k t;unfold En Es;simp only[w1,w2,AQ,CB,Dc,cst];by_cases hc:wd≠0∧(0≤many∧many≤2000)∧(0≤at_∧at_≤(b.length:Int))
 ·obtain⟨c1,⟨m0,m1⟩,a0,a1⟩:=hc
  obtain⟨wd,rfl⟩:∃m:Nat,wd=m:=⟨wd.toNat,by omega⟩;obtain⟨many,rfl⟩:∃m:Nat,many=m:=⟨many.toNat,by omega⟩;obtain⟨p,rfl⟩:∃m:Nat,at_=m:=⟨at_.toNat,by omega⟩;have hmw:many*wd≤2000*8:=Nat.mul_le_mul (by omega) (by omega);have e1:IntKind.wrap .i64 ((many:Int)*(wd:Int))=((many*wd:Nat):Int):=by
   rw[show(many:Int)*(wd:Int)=((many*wd:Nat):Int) by simp,AY (by omega) (by omega)]
  have e2:IntKind.wrap .i64 ((wd:Int)*(many:Int))=((many*wd:Nat):Int):=by rw[Int.mul_comm,e1]
  have F5:IntKind.wrap .i64 ((b.length:Int)-(p:Int))=(b.length:Int)-p:=AY (by omega) (by omega);simp only[A9 (show ¬(wd:Int)=0 from c1),AZ m0,AZ m1,AZ a0,AZ a1,Bool.and_self,Bb,Cu,Cm,e1,e2,F5];by_cases hfit:((many*wd:Nat):Int)≤(b.length:Int)-p
  ·simp only[A8 (show ¬((many*wd:Nat):Int)>(b.length:Int)-p by omega),A8 (show ¬(b.length:Int)-p<((many*wd:Nat):Int) by omega),AU]
   obtain⟨l,l1,l2,l3⟩:=acm k hk b hb hby p many wd (by omega) (by omega) (by omega) many k 0 [] (by omega) (by omega) rfl;exact⟨_,_,_,l1,l2,by omega⟩
  ·simp only[AZ (show((many*wd:Nat):Int)>(b.length:Int)-p by omega),AZ (show(b.length:Int)-p<((many*wd:Nat):Int) by omega),AP]
   exact⟨_,_,_,rfl,rfl,by simp⟩
 ·have:((wd==0|| !(decide (0≤many)&&decide (many≤2000)))|| !(decide (0≤at_)&&decide (at_≤(b.length:Int))))=true:=by
   by_cases a:wd=0<;>by_cases b1:0≤many<;>by_cases c:many≤2000<;>by_cases d:0≤at_<;>by_cases e:at_≤(b.length:Int)<;>simp[a,b1,c,d,e]
   exact hc ⟨a,⟨b1,c⟩,d,e⟩
  simp only[this,BR,AP];exact⟨_,_,_,rfl,rfl,by simp⟩
theorem abz(ns:List Int)(hns:ns.length≤2000)(most nx:Int):∀(post pre:List Int) (n n':Nat),ns=pre++post→post.length<n→post.length<n'→
 ∃nx' ok l,GN.l7 k n most nx (ns.length:Int) (pre.length:Int) ns=some (((),nx',ok),l)∧Ig.l8 k n' most nx (pre.length:Int) [] ns=some (((),nx',ok),l)∧l.length≤2000:=by
 intro post
 induction post with
 |nil=>
  intro pre n n' hv hn hn';obtain⟨n,rfl⟩:∃x,n=x+1:=⟨n-1,by omega⟩;obtain⟨n',rfl⟩:∃x,n'=x+1:=⟨n'-1,by omega⟩;have:ns=pre:=by simpa using hv
  subst this;simp only[GN.l7,Ig.l8,A8 (show ¬(ns.length:Int)<(ns.length:Int) by omega),AU];exact⟨_,_,_,rfl,rfl,hns⟩
 |cons y post ih=>
  intro pre n n' hv hn hn';simp only[Co] at hn hn';obtain⟨n,rfl⟩:∃x,n=x+1:=⟨n-1,by omega⟩;obtain⟨n',rfl⟩:∃x,n'=x+1:=⟨n'-1,by omega⟩;have hlen:ns.length=pre.length+(post.length+1):=by rw[hv];simp
  have hg:gP ns (pre.length:Int)=some y:=by rw[hv];exact Ej pre post y
  have e3:IntKind.wrap .i64 ((pre.length:Int)+1)=(pre.length:Int)+1:=AY (by omega) (by omega);simp only[GN.l7,Ig.l8,AZ (show(pre.length:Int)<(ns.length:Int) by omega),AP,hg,AQ,e3];cases decide (y≥most) with
  |true=>
   simp only[AP];exact⟨_,_,_,rfl,rfl,by simp⟩
  |false=>
   simp only[AU];have:=ih (pre++[y]) n n' (by rw[hv];simp) (by omega) (by omega);rw[BJ,CQ] at this;exact this
theorem aby(hk:2000000≤k)(b:List Int)(hb:b.length≤1048576)(hby:Ci b)(at_ many most:Int):
 ∃nx ok l,GN k b at_ many most=some (((),nx,ok),l)∧Ig k b at_ many most=some (((),nx,ok),l)∧l.length≤2000:=by
 unfold GN Ig;have F5:IntKind.wrap .i64 ((b.length:Int)-1)=(b.length:Int)-1:=AY (by omega) (by omega);simp only[CB,AQ,cst,F5];by_cases hin:0≤at_∧at_<(b.length:Int)
 ·obtain⟨a0,a1⟩:=hin
  obtain⟨y,hy,hy2⟩:=FQ (xs:=b) (i:=at_) a0 a1;obtain⟨y0,y1⟩:=hby y (List.mem_of_getElem? hy2);have ey:IntKind.wrap .i64 y=y:=AY (by omega) (by omega);have ea:IntKind.wrap .i64 (at_+1)=at_+1:=AY (by omega) (by omega);simp only[AZ a0,AZ (show at_≤(b.length:Int)-1 by omega),A8 (show ¬at_<0 by omega),A8 (show ¬at_≥(b.length:Int) by omega),Bool.and_self,Bb,Cu,AU,hy,AQ,ey,ea];obtain⟨nx,ok,l,e1,e2,e3,e4⟩:=ME k hk b hb hby (at_+1) many y;by_cases L9:y>24
  ·have hok:ok=false:=by
    cases ok with
    |false=>rfl
    |true=>obtain⟨_,_,⟨_,h⟩,_⟩:=e4 rfl;omega
   subst hok;simp only[AZ L9,AP,e1,AQ,Bv];exact⟨_,_,_,rfl,rfl,by simp⟩
  ·simp only[A8 L9,AU,e1,e2,AQ]
   cases ok with
   |false=>
    simp only[Bv,AP];exact⟨_,_,_,rfl,rfl,by simp⟩
   |true=>
    obtain⟨_,⟨m0,m1⟩,_,hl,_⟩:=e4 rfl;obtain⟨nx',ok',l',p1,p2,p3⟩:=abz k l (by omega) most nx l [] k k rfl (by omega) (by omega);rw[List.length_nil,show((0:Nat):Int)=0 from rfl] at p1 p2;simp only[Bb,AU,p1,p2];exact⟨_,_,_,rfl,rfl,p3⟩
 ·have h1:(decide (0≤at_)&&decide (at_≤(b.length:Int)-1))=false:=by
   rw[Bool.eq_false_iff];intro h;simp only[BZ,Ce] at h;omega
  have h2:(decide (at_<0)||decide (at_≥(b.length:Int)))=true:=by
   simp only[Bool.or_eq_true,Ce];omega
  simp only[h1,h2,Bv,AP,AQ];exact⟨_,_,_,rfl,rfl,by simp⟩
theorem RL(CR:List AV)(hd:CR.length<1000000000)(ns:List Int)(hns:ns.length≤2000):∀(post pre:List Int) (n n':Nat) (o:List AV),ns=pre++post→post.length<n→post.length<n'→o.length=pre.length→
 ∃ok l,GL.l5 k n CR ns (ns.length:Int) (pre.length:Int) o=some (((),ok),l)∧Ic.l5 k n' CR ns (pre.length:Int) o=some (((),ok),l)∧l.length≤2000:=by
 intro post
 induction post with
 |nil=>
  intro pre n n' o hv hn hn' ho;obtain⟨n,rfl⟩:∃x,n=x+1:=⟨n-1,by omega⟩;obtain⟨n',rfl⟩:∃x,n'=x+1:=⟨n'-1,by omega⟩;have:ns=pre:=by simpa using hv
  subst this;simp only[GL.l5,Ic.l5,A8 (show ¬(ns.length:Int)<(ns.length:Int) by omega),AU];exact⟨_,_,rfl,rfl,by omega⟩
 |cons y post ih=>
  intro pre n n' o hv hn hn' ho;simp only[Co] at hn hn';obtain⟨n,rfl⟩:∃x,n=x+1:=⟨n-1,by omega⟩;obtain⟨n',rfl⟩:∃x,n'=x+1:=⟨n'-1,by omega⟩;have hlen:ns.length=pre.length+(post.length+1):=by rw[hv];simp
  have hg:gP ns (pre.length:Int)=some y:=by rw[hv];exact Ej pre post y
  have e3:IntKind.wrap .i64 ((pre.length:Int)+1)=(pre.length:Int)+1:=AY (by omega) (by omega);have F5:IntKind.wrap .i64 ((CR.length:Int)-1)=(CR.length:Int)-1:=AY (by omega) (by omega);simp only[GL.l5,Ic.l5,AZ (show(pre.length:Int)<(ns.length:Int) by omega),AP,hg,AQ,e3,CB,Dc,F5];by_cases hin:0≤y∧y≤(CR.length:Int)-1
  ·obtain⟨y0,y1⟩:=hin
   obtain⟨v,hv1,_⟩:=FQ (xs:=CR) (i:=y) y0 (by omega);simp only[AZ y0,AZ y1,Bool.and_self,Bb,AU,hv1,AQ,Bz (show o.length+[v].length≤4294967296 by simp;omega),AP];have:=ih (pre++[y]) n n' (o++[v]) (by rw[hv];simp) (by omega) (by omega) (by simp[ho]);rw[BJ,CQ] at this;exact this
  ·have:(decide (0≤y)&&decide (y≤(CR.length:Int)-1))=false:=by
    rw[Bool.eq_false_iff];intro h;simp only[BZ,Ce] at h;exact hin h
   simp only[this,Bv,AP];exact⟨_,_,rfl,rfl,by simp⟩
theorem RH(hk:3000≤k)(CR:List AV)(hd:CR.length<1000000000)(ns:List Int):∃ok l,GL k CR ns=some (((),ok),l)∧Ic k CR ns=some (((),ok),l)∧l.length≤2000:=by
 unfold GL Ic;by_cases h:(ns.length:Int)>2000
 ·simp only[AZ h,AP]
  exact⟨_,_,rfl,rfl,by simp⟩
 ·simp only[A8 h,AU]
  obtain⟨ok,l,e1,e2,e3⟩:=RL k CR hd ns (by omega) ns [] k k [] rfl (by omega) (by omega) rfl;rw[List.length_nil,show((0:Nat):Int)=0 from rfl] at e1 e2;exact⟨ok,l,e1,e2,e3⟩
abbrev K9(x:Int):AV:=(x,A7,())
theorem aaE(l:List Int)(hl:l.length<1000000000):∀(post pre:List Int) (n:Nat),l=pre++post→post.length<n→Ij.l3 k n l (pre.length:Int) (pre.map K9)=some ((),l.map K9):=by
 intro post
 induction post with
 |nil=>
  intro pre n hv hn;obtain⟨n,rfl⟩:∃x,n=x+1:=⟨n-1,by omega⟩;have:l=pre:=by simpa using hv
  subst this;simp only[Ij.l3,A8 (show ¬(l.length:Int)<(l.length:Int) by omega),AU]
 |cons v post ih=>
  intro pre n hv hn;simp only[Co] at hn;obtain⟨n,rfl⟩:∃x,n=x+1:=⟨n-1,by omega⟩;have hlen:l.length=pre.length+(post.length+1):=by rw[hv];simp
  have hg:gP l (pre.length:Int)=some v:=by rw[hv];exact Ej pre post v
  have:=ih (pre++[v]) n (by rw[hv];simp) (by omega);rw[BJ,CQ,List.map_append] at this;simp only[Ij.l3,AZ (show(pre.length:Int)<(l.length:Int) by omega),AP,hg,AQ,Bz (show(pre.map K9).length+([(v,A7,())]:List AV).length≤4294967296 by simp;omega),AY (x:=(pre.length:Int)+1) (by omega) (by omega)];exact this
theorem vals_eq(l:List Int)(hl:l.length<1000000000)(hlk:l.length<k):FO k l=some ((),l.map K9)∧Ij k l=some ((),l.map K9):=by
 have h1:=(Oj k l hl l [] k rfl hlk).1;have h2:=aaE k l hl l [] k rfl hlk;rw[List.length_nil,List.map_nil,show((0:Nat):Int)=0 from rfl] at h1 h2;exact⟨h1,h2⟩
theorem RY(e t:Int):∃b,FI k e t=some b∧Gv k e t=some b∧(b=true→e=0∨e=3∨e=5∨e=6∨e=7∨e=8∨e=9):=by
 obtain⟨wd,w1,w2,w3,w4⟩:=Qv k t;unfold FI Gv FI.c4 Gv.c6 FI.c11 Gv.c13;simp only[Lt,K5,AQ,w2,w3,cst,BV];by_cases h0:e=0
 ·subst h0
  refine⟨Di t,rfl,?_,fun _=> .inl rfl⟩;cases Di t<;>rfl
 by_cases h8:e=8
 ·subst h8
  refine⟨Di t,rfl,?_,fun _=>by simp⟩;cases Di t<;>rfl
 have ty:∀b:Bool,(b=true→Di t=true)→(cond (!Di t) (some false) (some b):Option Bool)=some b:=by
  intro b hb;cases ht:Di t with
  |true=>rfl
  |false=>
   cases b with
   |false=>rfl
   |true=>rw[ht] at hb;cases hb rfl
 by_cases h3:e=3
 ·subst h3
  refine⟨t==0,rfl,ty _ (fun hb=>by have:=eq_of_beq hb;subst this;rfl),fun _=>by simp⟩
 by_cases h5:e=5
 ·subst h5
  refine⟨t==1||t==2,rfl,ty _ (fun hb=>by rcases Bool.or_eq_true_iff.1 hb with h|h<;>(have:=eq_of_beq h;subst this;rfl)),fun _=>by simp⟩
 by_cases h6:e=6
 ·subst h6
  refine⟨t==6,rfl,ty _ (fun hb=>by have:=eq_of_beq hb;subst this;rfl),fun _=>by simp⟩
 by_cases h7:e=7
 ·subst h7
  refine⟨t==6,rfl,ty _ (fun hb=>by have:=eq_of_beq hb;subst this;rfl),fun _=>by simp⟩
 by_cases h9:e=9
 ·subst h9
  refine⟨decide (wd>0),rfl,ty _ (fun hb=> ?_),fun _=>by simp⟩;have hb:=of_decide_eq_true hb;unfold Ed Ed.c6 at w3;unfold Di;by_cases t1:t=1
  ·subst t1;rfl
  by_cases t2:t=2
  ·subst t2;rfl
  by_cases t5:t=5
  ·subst t5;rfl
  ·simp only[A9 t1,A9 t2,A9 t5,AU,Dt] at w3
   omega
 ·simp only[A9 h0,A9 h8,A9 h3,A9 h5,A9 h6,A9 h7,A9 h9,AU,D9]
  refine⟨false,rfl,?_,fun h=>by cases h⟩;cases Di t<;>rfl
theorem RZ(hk:2000000≤k)(e t:Int)(b:List Int)(hb:b.length≤1048576)(hby:Ci b)(many:Int)(CR:List AV)(hd:CR.length<1000000000):
 ∃ok l,J2 k e t b many CR=some (((),ok),l)∧MH k e t b many CR=some (((),ok),l)∧l.length≤2000∧(ok=true→l.length=many.toNat∧0≤many∧Eu t l=true):=by
 obtain⟨eo,o1,o2,o3⟩:=RY k e t;have Pw:Bt 0:=⟨by decide,by decide⟩;unfold J2 MH;simp only[o1,o2,AQ,CB,Dc,cst,BV];by_cases hc:eo=true∧0≤many∧many≤2000
 ·obtain⟨rfl,m0,m1⟩:=hc
  simp only[AZ m0,AZ m1,Bool.and_self,Bb,Cu,AU];have key:(e=8∧many=0∧b.length=0)∨(¬(e=8∧many=0∧b.length=0)∧∃nx ok l,Mm k e t b many CR=some (((),nx,ok),l)∧Lg k e t b many CR=some (((),nx,ok),l)∧l.length≤2000):=by
   by_cases hz:e=8∧many=0∧b.length=0
   ·exact .inl hz
   ·right
    refine⟨hz,?_⟩;unfold Mm Lg;rcases o3 rfl with rfl|rfl|rfl|rfl|rfl|rfl|rfl
    ·obtain⟨nx,ok,l,e1,e2,pr⟩:=Mx k (by omega) t b (by omega) hby 0 many Pw
     simp only[show((0:Int)==0)=true from rfl,AP,e1,e2,AQ];refine⟨nx,ok,l,rfl,rfl,?_⟩;cases ok with
     |true=>have:=pr.len rfl;omega
     |false=>exact pr.short rfl
    ·obtain⟨v,nx,ok,a1,a2,a3,a4,a5⟩:=Lv k (by omega) b (by omega) hby 0 Pw 4 (by decide) (by decide)
     rw[show((4:Nat):Int)=4 from rfl] at a1 a2;simp only[show((3:Int)==0)=false from rfl,show((3:Int)==3)=true from rfl,show((3:Int)==5)=false from rfl,show((3:Int)==6)=false from rfl,show((3:Int)==7)=false from rfl,show((3:Int)==9)=false from rfl,show((3:Int)==8)=false from rfl,AP,AU,a1,a2,AQ,cst];cases(!ok||v !=IntKind.wrap .i64 ((b.length:Int)-nx)) with
     |true=>
      simp only[AP];exact⟨_,_,_,rfl,rfl,by simp⟩
     |false=>
      obtain⟨nx',ok',l,r1,r2,r3,r4⟩:=ME k hk b hb hby nx many 1;have hl:l.length≤2000:=by
       cases ok' with
       |false=>rw[(r3 rfl).2];simp
       |true=>obtain⟨_,_,_,h,_⟩:=r4 rfl;omega
      obtain⟨v1,v2⟩:=vals_eq k l (by omega) (by omega);simp only[AU,r1,r2,v1,v2,AQ];exact⟨_,_,_,rfl,rfl,by simpa using hl⟩
    ·obtain⟨nx,ok,l,e1,e2,e3,e4⟩:=Nk k (by omega) b hb hby 0
     have hl:l.length≤2000:=by
      cases ok with
      |false=>rw[(e3 rfl).2];simp
      |true=>exact(e4 rfl).2.1
     obtain⟨v1,v2⟩:=vals_eq k l (by omega) (by omega);simp only[show((5:Int)==0)=false from rfl,show((5:Int)==3)=false from rfl,show((5:Int)==5)=true from rfl,AP,AU,e1,e2,v1,v2,AQ];exact⟨_,_,_,rfl,rfl,by simpa using hl⟩
    ·obtain⟨nx,ok,l,e1,e2,e3,e4⟩:=PZ k (by omega) b hb hby 0
     simp only[show((6:Int)==0)=false from rfl,show((6:Int)==3)=false from rfl,show((6:Int)==5)=false from rfl,show((6:Int)==6)=true from rfl,AP,AU,e1,e2,AQ];refine⟨_,_,_,rfl,rfl,?_⟩;cases ok with
     |false=>rw[(e3 rfl).2];simp
     |true=>exact(e4 rfl).2.1
    ·obtain⟨nx,ok,l,e1,e2,e3⟩:=ZW k (by omega) b hb hby 0
     simp only[show((7:Int)==0)=false from rfl,show((7:Int)==3)=false from rfl,show((7:Int)==5)=false from rfl,show((7:Int)==6)=false from rfl,show((7:Int)==7)=true from rfl,AP,AU,e1,e2,AQ];exact⟨_,_,_,rfl,rfl,e3⟩
    ·obtain⟨nx,ok,l,e1,e2,e3⟩:=aby k hk b hb hby 0 many (CR.length:Int)
     obtain⟨NJ,l2,d1,d2,d3⟩:=RH k (by omega) CR hd l;have hz':(many==0&&((b.length:Int)==0))=false:=by
      rw[Bool.eq_false_iff];intro h;simp only[BZ,beq_iff_eq] at h;exact hz ⟨rfl,h.1,by omega⟩
     simp only[show((8:Int)==0)=false from rfl,show((8:Int)==3)=false from rfl,show((8:Int)==5)=false from rfl,show((8:Int)==6)=false from rfl,show((8:Int)==7)=false from rfl,show((8:Int)==9)=false from rfl,show((8:Int)==8)=true from rfl,AP,AU,BV,hz',e1,e2,d1,d2,AQ];exact⟨_,_,_,rfl,rfl,d3⟩
    ·obtain⟨nx,ok,l,e1,e2,e3⟩:=acj k (by omega) t b hb hby 0 many
     simp only[show((9:Int)==0)=false from rfl,show((9:Int)==3)=false from rfl,show((9:Int)==5)=false from rfl,show((9:Int)==6)=false from rfl,show((9:Int)==7)=false from rfl,show((9:Int)==9)=true from rfl,AP,AU,e1,e2,AQ];exact⟨_,_,_,rfl,rfl,e3⟩
  rcases key with⟨rfl,rfl,hb0⟩|⟨hz,nx,ok,l,i1,s1,hl⟩
  ·have hs:Lg k 8 t b 0 CR=some (((),0,true),[]):=by
    unfold Lg;simp only[show((8:Int)==0)=false from rfl,show((8:Int)==3)=false from rfl,show((8:Int)==5)=false from rfl,show((8:Int)==6)=false from rfl,show((8:Int)==7)=false from rfl,show((8:Int)==9)=false from rfl,show((0:Int)==0)=true from rfl,AP,AU,hb0,AQ];rfl
   have hty:Di t=true:=by
    have h2:=o2;unfold Gv at h2;simp only[K5,AQ] at h2;cases ht:Di t with
    |true=>rfl
    |false=>rw[ht] at h2;cases h2
   have hvs:Eu t []=true:=I5.2 ⟨by simp,by simp,hty⟩;obtain⟨q1,q2⟩:=Om k t [] (by simp) (by simp;omega);simp only[hs,hb0,show((8:Int)==8)=true from rfl,show((0:Int)==0)=true from rfl,Bool.and_self,show(((0:Nat):Int)==0)=true from rfl,AP,AQ,Bb,show((0:Int) !=((0:Nat):Int))=false from rfl,cst,Cu,AU,List.length_nil,q2,hvs,show(((0:Nat):Int) !=0)=false from rfl];exact⟨_,_,rfl,rfl,by simp,fun _=>⟨rfl,by decide,hvs⟩⟩
  ·have hz':((e==8&&many==0)&&((b.length:Int)==0))=false:=by
    rw[Bool.eq_false_iff];intro h;simp only[BZ,beq_iff_eq] at h;exact hz ⟨h.1.1,h.1.2,by omega⟩
   obtain⟨q1,q2⟩:=Om k t l (by omega) (by omega);simp only[hz',AU,i1,s1,AQ,cst,q1,q2];cases ok with
   |false=>
    simp only[Bv,BR,AP];exact⟨_,_,rfl,rfl,by simp,nofun⟩
   |true=>
    simp only[Bb,Cm];cases h1:(nx !=(b.length:Int)) with
    |true=>
     simp only[BR,AP];exact⟨_,_,rfl,rfl,by simp,nofun⟩
    |false=>
     simp only[Cm];by_cases h2:(l.length:Int)=many
     ·rw[Bw h2]
      cases h3:Eu t l with
      |false=>exact⟨_,_,rfl,rfl,by simp,nofun⟩
      |true=>exact⟨_,_,rfl,rfl,hl,fun _=>⟨by omega,m0,h3⟩⟩
     ·rw[BQ h2]
      exact⟨_,_,rfl,rfl,by simp,nofun⟩
 ·have:(!eo|| !(decide (0≤many)&&decide (many≤2000)))=true:=by
   cases eo with
   |false=>rfl
   |true=>
    have:(decide (0≤many)&&decide (many≤2000))=false:=by
     rw[Bool.eq_false_iff];intro h;simp only[BZ,Ce] at h;exact hc ⟨rfl,h⟩
    rw[this];rfl
  simp only[this,AP];exact⟨_,_,rfl,rfl,by simp,nofun⟩
end Go.Bd
end
section
namespace Go.Bd
open Go.Am Go.Fn
variable(k:Nat)
section
variable(s:List BB)(hs:s.length≤20)(hn:∀c,c∈s→c.1.size<k∧c.1.size<1000000000∧Bt c.2.2.2.1)
include hs hn
end
end Go.Bd
end
section
namespace Go.Bd
open Go.Am Go.Fn
structure Ev where
 at_:Nat
 leaf:Bool
 rep:Int
 CE:Int
 v:AV
def zv:AV:=(0,⟨#[]⟩,())
def KF(v:AV)(most:Int):Bool:= !ig v.2.1 ⟨#[]⟩|| !(decide (0≤v.1)&&decide (v.1≤most))
theorem OZ{v:AV}{most:Int}(h:KF v most=false):0≤v.1∧v.1≤most:=by
 unfold KF at h;simp only[Bool.or_eq_false_iff,Bool.not_eq_false',BZ,Ce] at h;exact h.2
abbrev C8:=Option (List Ev×List AV)
def GH(a:C8)(f:List AV→C8):C8:=
 match a with
 |none=>none
 |some (x,V)=>match f V with
  |none=>none
  |some (y,W)=>some (x++y,W)
def jJ(F:Nat→List AV→C8)(e:Nat→Nat):Nat→Nat→List AV→C8
 |0,_,V=>some ([],V)
 |m+1,a,V=>GH (F a V) (jJ F e m (e a))
def JO(F:List AV→C8):Nat→List AV→C8
 |0,V=>some ([],V)
 |m+1,V=>GH (F V) (JO F m)
def iter(f:Nat→Nat):Nat→Nat→Nat
 |0,a=>a
 |n+1,a=>iter f n (f a)
def LM(s:List BB):Nat→Nat→Nat
 |0,a=>a
 |d+1,a=>match s[a]? with
  |none=>a+1
  |some c=>iter (LM s d) c.2.2.2.1.toNat (a+1)
def Gs(s:List BB)(rep CE:Int):Nat→Nat→List Ev
 |0,_=>[]
 |n+1,i=>(match s[i]? with
  |none=>[]
  |some c=>if c.2.1=7 then[] else[⟨i,false,rep,CE,zv⟩])++Gs s rep CE n (i+1)
def Jk(s:List BB)(C:Int→Int→Int→List AV→C8)(e a:Nat)(rep CE deep:Int)(V:List AV):C8:=
 match s[a]? with
 |none=>none
 |some c=>
  if c.2.2.1=0 then C rep CE deep V
  else match V with
   |[]=>none
   |v::V=>
    if c.2.2.1=2 then
     if KF v 20=true then none
     else if v.1=0 then some (Gs s rep CE (e-a) a,V)
     else GH (C rep (CE+1) (deep+1) V) (JO (C (deep+1) (CE+1) (deep+1)) (v.1.toNat-1))
    else
     if KF v 1=true then none
     else if v.1=0 then some (Gs s rep CE (e-a) a,V)
     else C rep (CE+1) deep V
def JN(s:List BB):Nat→Nat→Int→Int→Int→List AV→C8
 |0,_,_,_,_,_=>none
 |d+1,a,rep,CE,deep,V=>match s[a]? with
  |none=>none
  |some c=>
   if c.2.1=7 then jJ (fun a V=>Jk s (JN s d a) (LM s d a) a rep CE deep V) (LM s d) c.2.2.2.1.toNat (a+1) V
   else match V with
    |[]=>none
    |v::V=>if CK c.2.1 v=true then some ([⟨a,true,rep,CE,v⟩],V) else none
def Dz(V:List AV)(r:C8):Prop:=∀X W,r=some (X,W)→W.length≤V.length∧X.length+20*W.length≤20*V.length∧W=V.drop (V.length-W.length)
theorem O9{a:C8}{f:List AV→C8}{X:List Ev}{W:List AV}(h:GH a f=some (X,W)):∃x y V,a=some (x,V)∧f V=some (y,W)∧X=x++y:=by
 unfold GH at h;split at h
 ·cases h
 ·rename_i x V
  split at h
  ·cases h
  ·rename_i y W' hf
   simp only[Dt,Prod.mk.injEq] at h;obtain⟨rfl,rfl⟩:=h;exact⟨x,y,V,rfl,hf,rfl⟩
theorem Dz.pair{V:List AV}{a:C8}{f:List AV→C8}(h:Dz V a)(k:∀W,Dz W (f W)):Dz V (GH a f):=by
 intro X W hr;obtain⟨x,y,U,h1,h2,rfl⟩:=O9 hr;obtain⟨a1,a2,a3⟩:=h _ _ h1;obtain⟨b1,b2,b3⟩:=k U _ _ h2;refine⟨by omega,by simp;omega,?_⟩;rw[b3,a3,List.drop_drop]
 congr 1
 simp only[List.length_drop];omega
theorem Dz.nil(V:List AV):Dz V (some ([],V)):=by
 intro X W h;simp only[Dt,Prod.mk.injEq] at h;obtain⟨rfl,rfl⟩:=h;exact⟨Nat.le_refl _,by simp,by simp⟩
theorem Dz.parts{F:Nat→List AV→C8}{e:Nat→Nat}(h:∀a V,Dz V (F a V)):∀(m a:Nat) (V:List AV),Dz V (jJ F e m a V)
 |0,_,V=>Dz.nil V
 |m+1,a,V=>(h a V).pair (Dz.parts h m (e a))
theorem Dz.items{F:List AV→C8}(h:∀V,Dz V (F V)):∀(m:Nat) (V:List AV),Dz V (JO F m V)
 |0,V=>Dz.nil V
 |m+1,V=>(h V).pair (Dz.items h m)
theorem P_(s:List BB)(rep CE:Int):∀(n i:Nat),i+(Gs s rep CE n i).length≤max i s.length
 |0,i=>by simp only[Gs,List.length_nil];omega
 |n+1,i=>by
  have:=P_ s rep CE n (i+1);simp only[Gs,BJ];cases h:s[i]? with
  |none=>
   have hl:s.length≤i:=List.getElem?_eq_none_iff.1 h;simp only[List.length_nil];omega
  |some c=>
   have hl:i<s.length:=(List.getElem?_eq_some_iff.1 h).1;simp only;split<;>simp<;>omega
theorem Dz.part{s:List BB}(hs:s.length≤20){C:Int→Int→Int→List AV→C8}(h:∀r d p V,Dz V (C r d p V))(e a:Nat)(rep CE deep:Int)(V:List AV):Dz V (Jk s C e a rep CE deep V):=by
 intro X W hr;unfold Jk at hr;have hm:∀n,(Gs s rep CE n a).length≤20:=fun n=>by
  have:=P_ s rep CE n a;rcases Nat.lt_or_ge a s.length with h1|h1
  ·omega
  ·have:(Gs s rep CE n a).length=0:=by omega
   omega
 split at hr
 ·cases hr
 ·rename_i c hc
  split at hr
  ·exact h _ _ _ _ _ _ hr
  ·split at hr
   ·cases hr
   ·rename_i v V
    have lift:∀r:C8,Dz V r→r=some (X,W)→W.length≤(v::V).length∧X.length+20*W.length≤20*(v::V).length∧W=(v::V).drop ((v::V).length-W.length):=by
     intro r hg hr;obtain⟨g1,g2,g3⟩:=hg _ _ hr;refine⟨by simp;omega,by simp;omega,?_⟩;rw[Co,show V.length+1-W.length=(V.length-W.length)+1 by omega,List.drop_succ_cons];exact g3
    have ms:some (Gs s rep CE (e-a) a,V)=some (X,W)→W.length≤(v::V).length∧X.length+20*W.length≤20*(v::V).length∧W=(v::V).drop ((v::V).length-W.length):=by
     intro hr;simp only[Dt,Prod.mk.injEq] at hr;obtain⟨rfl,rfl⟩:=hr;have:=hm (e-a);refine⟨by simp,by simp;omega,by simp⟩
    split at hr
    ·split at hr
     ·cases hr
     ·split at hr
      ·exact ms hr
      ·exact lift _ ((h _ _ _ _).pair (Dz.items (h _ _ _) _)) hr
    ·split at hr
     ·cases hr
     ·split at hr
      ·exact ms hr
      ·exact lift _ (h _ _ _ _) hr
theorem O7{s:List BB}(hs:s.length≤20):∀(d a:Nat) (rep CE deep:Int) (V:List AV),Dz V (JN s d a rep CE deep V)
 |0,_,_,_,_,_=>fun X W h=>by cases h
 |d+1,a,rep,CE,deep,V=>by
  intro X W h;simp only[JN] at h;split at h
  ·cases h
  ·split at h
   ·exact Dz.parts (fun a V=>Dz.part hs (fun r d p V=>O7 hs _ a r d p V) _ a rep CE deep V) _ _ _ _ _ h
   ·split at h
    ·cases h
    ·split at h
     ·simp only[Dt,Prod.mk.injEq] at h
      obtain⟨rfl,rfl⟩:=h;refine⟨by simp,by simp;omega,by simp⟩
     ·cases h
def Fx(r:C8):Option (List AV):=match r with
 |none=>none
 |some (_,W)=>some W
theorem NP(a:C8)(f:List AV→C8):Fx (GH a f)=(Fx a).bind fun V=>Fx (f V):=by
 unfold GH Fx;cases a with
 |none=>rfl
 |some q=>
  obtain⟨x,V⟩:=q;simp only[AQ];cases f V with
  |none=>rfl
  |some q2=>rfl
def IQ(C:List AV→Option (List AV)):Nat→List AV→Option (List AV)
 |0,V=>some V
 |m+1,V=>(C V).bind (IQ C m)
theorem Qo(F:List AV→C8)(C:List AV→Option (List AV))(h:∀V,Fx (F V)=C V):∀(m:Nat) (V:List AV),Fx (JO F m V)=IQ C m V
 |0,V=>rfl
 |m+1,V=>by
  show Fx (GH (F V) (JO F m))=_;rw[NP,h V];show _=(C V).bind (IQ C m)
  congr 1
  funext W;exact Qo F C h m W
def NN(s:List BB)(C:List AV→Option (List AV))(a:Nat)(V:List AV):Option (List AV):=
 match s[a]? with
 |none=>none
 |some c=>
  if c.2.2.1=0 then C V
  else match V with
   |[]=>none
   |v::V=>if KF v (if c.2.2.1=2 then 20 else 1)=true then none else IQ C v.1.toNat V
theorem abT(s:List BB)(F:Int→Int→Int→List AV→C8)(C:List AV→Option (List AV))(h:∀r q p V,Fx (F r q p V)=C V)(e a:Nat)(rep CE deep:Int)(V:List AV):Fx (Jk s F e a rep CE deep V)=NN s C a V:=by
 unfold Jk NN;cases s[a]? with
 |none=>rfl
 |some c=>
  simp only;split
  ·exact h _ _ _ _
  ·cases V with
   |nil=>rfl
   |cons v V=>
    simp only;split
    ·rename_i h2
     split
     ·rename_i hb;rfl
     ·rename_i hb
      have hb:=OZ (by simpa using hb);split
      ·rename_i h0;rw[h0];rfl
      ·rename_i h0
       obtain⟨n,hn⟩:∃n:Nat,v.1=((n+1:Nat):Int):=⟨v.1.toNat-1,by omega⟩;rw[hn,NP,h];show _=IQ C (n+1) V;simp only[IQ]
       congr 1
       funext W;exact Qo _ C (h _ _ _) _ W
    ·rename_i h2
     split
     ·rename_i hb;rfl
     ·rename_i hb
      have hb:=OZ (by simpa using hb);split
      ·rename_i h0;rw[h0];rfl
      ·rename_i h0
       have h1:v.1=1:=by omega
       rw[h1,h];show C V=IQ C 1 V;simp only[IQ];cases C V<;>rfl
def MC(F:Nat→List AV→Option (List AV))(e:Nat→Nat):Nat→Nat→List AV→Option (List AV)
 |0,_,V=>some V
 |m+1,a,V=>(F a V).bind (MC F e m (e a))
theorem Qp(F:Nat→List AV→C8)(C:Nat→List AV→Option (List AV))(h:∀a V,Fx (F a V)=C a V)(e:Nat→Nat):∀(m a:Nat) (V:List AV),Fx (jJ F e m a V)=MC C e m a V
 |0,_,V=>rfl
 |m+1,a,V=>by
  show Fx (GH (F a V) (jJ F e m (e a)))=_;rw[NP,h a V];show _=(C a V).bind (MC C e m (e a))
  congr 1
  funext W;exact Qp F C h e m (e a) W
def rC(s:List BB):Nat→Nat→List AV→Option (List AV)
 |0,_,_=>none
 |d+1,a,V=>match s[a]? with
  |none=>none
  |some c=>
   if c.2.1=7 then MC (fun a V=>NN s (rC s d a) a V) (LM s d) c.2.2.2.1.toNat (a+1) V
   else match V with
    |[]=>none
    |v::V=>if CK c.2.1 v=true then some V else none
theorem Qn(s:List BB):∀(d a:Nat) (rep CE deep:Int) (V:List AV),Fx (JN s d a rep CE deep V)=rC s d a V
 |0,_,_,_,_,_=>rfl
 |d+1,a,rep,CE,deep,V=>by
  simp only[JN,rC];cases s[a]? with
  |none=>rfl
  |some c=>
   simp only;split
   ·exact Qp _ _ (fun a V=>abT s _ (rC s d a) (fun r q p V=>Qn s d a r q p V) _ a rep CE deep V) _ _ _ _
   ·cases V with
    |nil=>rfl
    |cons v V=>
     simp only;split<;>rfl
def RG(C:List AV→Option (List AV)):Prop:=∀V W,C V=some W→W.length≤V.length∧W=V.drop (V.length-W.length)
theorem RG.of{F:List AV→C8}{C:List AV→Option (List AV)}(h:∀V,Fx (F V)=C V)(g:∀V,Dz V (F V)):RG C:=by
 intro V W hc;rw[←h V] at hc;unfold Fx at hc;split at hc
 ·cases hc
 ·rename_i X U hf
  simp only[Dt] at hc;subst hc;obtain⟨g1,_,g3⟩:=g V X U hf;exact⟨g1,g3⟩
theorem RG.c{s:List BB}(hs:s.length≤20)(d a:Nat):RG (rC s d a):=RG.of (F:=JN s d a 0 0 0) (Qn s d a 0 0 0) (O7 hs d a 0 0 0)
theorem RG.pos{C:List AV→Option (List AV)}(g:RG C){V W:List AV}{pos:Nat}(hp:pos≤V.length)(h:C (V.drop pos)=some W):V.length-W.length≤V.length∧V.drop (V.length-W.length)=W∧pos≤V.length-W.length:=by
 obtain⟨g1,g2⟩:=g _ _ h;simp only[List.length_drop] at g1 g2;refine⟨by omega,?_,by omega⟩;rw[List.drop_drop] at g2;rw[show V.length-W.length=pos+(V.length-pos-W.length) by omega];exact g2.symm
section
variable(k:Nat)(s:List BB)(hs:s.length≤20)(hn:∀c,c∈s→c.1.size<k∧c.1.size<1000000000∧Bt c.2.2.2.1)(hk:2000000≤k)
variable(V:List AV)(hV:V.length≤1048576)
include hs hn hk hV
end
def WO.P(_:Nat)(_:Nat):Prop:=True
section
variable(k:Nat)(s:List BB)
end
section
variable(k:Nat)(s:List BB)(hs:s.length≤20)(hn:∀c,c∈s→c.1.size<k∧c.1.size<1000000000∧Bt c.2.2.2.1)(hk:2000000≤k)
include hs hn hk
end
def JP(s:List BB)(X:List Ev):Prop:=∀e,e∈X→∃c,s[e.at_]?=some c∧c.2.1≠7
theorem O8{s:List BB}{X Y:List Ev}(h1:JP s X)(h2:JP s Y):JP s (X++Y):=fun e he=>(List.mem_append.1 he).elim (h1 e) (h2 e)
def EvL(s:List BB)(r:C8):Prop:=∀X W,r=some (X,W)→JP s X
theorem EvL.pair{s:List BB}{a:C8}{f:List AV→C8}(h:EvL s a)(g:∀V,EvL s (f V)):EvL s (GH a f):=by
 intro X W he;obtain⟨x,y,V,h1,h2,rfl⟩:=O9 he;exact O8 (h _ _ h1) (g _ _ _ h2)
theorem EvL.nil(s:List BB)(V:List AV):EvL s (some ([],V)):=by
 intro X W h;simp only[Dt,Prod.mk.injEq] at h;obtain⟨rfl,rfl⟩:=h;exact fun e he=>by cases he
theorem EvL.parts{s:List BB}{F:Nat→List AV→C8}{e:Nat→Nat}(h:∀a V,EvL s (F a V)):∀(m a:Nat) (V:List AV),EvL s (jJ F e m a V)
 |0,_,V=>EvL.nil s V
 |m+1,a,V=>(h a V).pair (EvL.parts h m (e a))
theorem EvL.items{s:List BB}{F:List AV→C8}(h:∀V,EvL s (F V)):∀(m:Nat) (V:List AV),EvL s (JO F m V)
 |0,V=>EvL.nil s V
 |m+1,V=>(h V).pair (EvL.items h m)
theorem P9(s:List BB)(rep CE:Int):∀(n i:Nat),JP s (Gs s rep CE n i)
 |0,i=>fun e he=>by cases he
 |n+1,i=>by
  simp only[Gs];refine O8 ?_ (P9 s rep CE n (i+1));cases h:s[i]? with
  |none=>exact fun e he=>by cases he
  |some c=>
   simp only;split
   ·exact fun e he=>by cases he
   ·rename_i h7
    intro e he;rw[List.mem_singleton] at he;subst he;exact⟨c,h,h7⟩
theorem EvL.part{s:List BB}{C:Int→Int→Int→List AV→C8}(h:∀r d p V,EvL s (C r d p V))(e a:Nat)(rep CE deep:Int)(V:List AV):EvL s (Jk s C e a rep CE deep V):=by
 intro X W hr;unfold Jk at hr;have ms:∀U,some (Gs s rep CE (e-a) a,U)=some (X,W)→JP s X:=by
  intro U hr;simp only[Dt,Prod.mk.injEq] at hr;obtain⟨rfl,rfl⟩:=hr;exact P9 _ _ _ _ _
 split at hr
 ·cases hr
 ·split at hr
  ·exact h _ _ _ _ _ _ hr
  ·split at hr
   ·cases hr
   ·split at hr
    ·split at hr
     ·cases hr
     ·split at hr
      ·exact ms _ hr
      ·exact(EvL.pair (h _ _ _ _) (fun V=>EvL.items (h _ _ _) _ V)) _ _ hr
    ·split at hr
     ·cases hr
     ·split at hr
      ·exact ms _ hr
      ·exact h _ _ _ _ _ _ hr
def Ju(s:List BB):Nat→Nat
 |0=>0
 |a+1=>Ju s a+(match s[a]? with
  |none=>0
  |some c=>if c.2.1=7 then 0 else 1)
abbrev Kz:=List (List BL)
def Q7(T:Kz)(pos:List Nat):Prop:=pos.length=T.length∧∀(j p:Nat) (x:List BL),pos[j]?=some p→T[j]?=some x→p≤x.length
structure Lx(T:Kz)(pos q:List Nat):Prop where
 ok:Q7 T q
 le:∀(j p:Nat),pos[j]?=some p→∃p':Nat,q[j]?=some p'∧p≤p'
 sum:pos.sum≤q.sum
theorem Lx.trans{T:Kz}{a b c:List Nat}(h1:Lx T a b)(h2:Lx T b c):Lx T a c:=
 ⟨h2.ok,fun j p hp=>by
  obtain⟨p',e1,e2⟩:=h1.le j p hp;obtain⟨p'',e3,e4⟩:=h2.le j p' e1;exact⟨p'',e3,by omega⟩,Nat.le_trans h1.sum h2.sum⟩
abbrev TT:=List (List BL)
def Qw(s:List BB)(T:TT)(e:Ev):TT:=
 match T[Ju s e.at_]? with
 |none=>T
 |some x=>T.set (Ju s e.at_) (x++[(e.rep,e.CE,e.v,())])
def SP(s:List BB)(m:Nat)(T:TT):Prop:=T.length=Ju s s.length∧∀(j:Nat) (x:List BL),T[j]?=some x→x.length+m≤4294967295
theorem SP.step{s:List BB}{m:Nat}{T:TT}(h:SP s (m+1) T)(e:Ev):SP s m (Qw s T e):=by
 obtain⟨h1,h2⟩:=h;unfold Qw;split
 ·exact⟨h1,fun j x hx=>by have:=h2 j x hx;omega⟩
 ·rename_i x hx
  refine⟨by simpa using h1,fun i y hy=> ?_⟩;rw[List.getElem?_set] at hy;split at hy
  ·split at hy
   ·simp only[Dt] at hy
    subst hy;have:=h2 _ _ hx;simp;omega
   ·cases hy
  ·have:=h2 _ _ hy;omega
theorem SP.le{s:List BB}{m n:Nat}{T:TT}(h:SP s m T)(hn:n≤m):SP s n T:=⟨h.1,fun j x hx=>by have:=h.2 j x hx;omega⟩
section
variable(k:Nat)(s:List BB)(hs:s.length≤20)(hn:∀c,c∈s→c.1.size<k∧c.1.size<1000000000∧Bt c.2.2.2.1)(hk:2000000≤k)
include hs hk
variable(V:List AV)(hV:V.length≤1048576)
include hV
end
def Room(d:Nat)(vals:List AV)(pos:List Nat):Prop:=vals.length+280000+d≤1000000+7*pos.sum
theorem Room.lim{d n:Nat}{vals:List AV}{pos:List Nat}(h:Room d vals pos)(hs:pos.sum≤40000)(hn:n≤10):lim (vals.length+n)=true:=by
 unfold Room at h;exact Bz (by omega)
theorem Room.one{d:Nat}{vals:List AV}{pos:List Nat}(h:Room (d+1) vals pos)(v:AV):Room d (vals++[v]) pos:=by
 unfold Room at*;rw[BJ,CQ];omega
theorem Room.le{d e:Nat}{vals:List AV}{pos:List Nat}(h:Room d vals pos)(he:e≤d):Room e vals pos:=by
 unfold Room at*;omega
section
variable(k:Nat)(s:List BB)(hs:s.length≤20)(hn:∀c,c∈s→c.1.size<k∧c.1.size<1000000000∧Bt c.2.2.2.1)(hk:2000000≤k)
variable(T:Kz)(hT:T.length=Ju s s.length)(x_:∀x,x∈T→x.length≤2000)
include hs hn hk hT x_
end
section
variable(k:Nat)(s:List BB)(hs:s.length≤20)(hn:∀c,c∈s→c.1.size<k∧c.1.size<1000000000∧Bt c.2.2.2.1)(hk:2000000≤k)
variable(T:Kz)(hT:T.length=Ju s s.length)(x_:∀x,x∈T→x.length≤2000)
variable(nums:List Int)(hN:∀(a:Nat) (c:BB),s[a]?=some c→c.2.1≠7→gP nums (a:Int)=some (Ju s a:Int))
include hs hn hk hT x_ hN
end
section
variable(k:Nat)(s:List BB)(hS:M9 s)(hn:∀c,c∈s→c.1.size<k∧c.1.size<1000000000∧Bt c.2.2.2.1)(hk:2000000≤k)
include hS hn hk
end
section
variable(k:Nat)(s:List BB)(hn:∀c,c∈s→c.1.size<k∧c.1.size<1000000000∧Bt c.2.2.2.1)(hk:2000000≤k)
variable(hS:M9 s)(hok:Qt k s=some true)(hok2:PM k s=some true)
include hn hk hS hok hok2
end
section
variable(k:Nat)(s:List BB)(hs:s.length≤20)(hk:2000000≤k)
include hs hk
end
def Fa(x:List BL):Nat:=(x.filter fun t=>t.1==0).length
theorem Qm(t:BL)(x:List BL):Fa (t::x)=(if t.1=0 then 1 else 0)+Fa x:=by
 unfold Fa;rw[List.filter_cons];by_cases h:t.1=0
 ·rw[Bl h,if_pos h];simp;omega
 ·rw[A9 h,if_neg h];simp
theorem abS(k:Nat)(x:List BL)(hx:x.length≤1048576)(hk:2000000≤k):Gw k x=some (Fa x:Int)∧EC k x=some (Fa x:Int):=by
 have key:∀(post pre:List BL) (f n:Nat),x=pre++post→post.length<f→n≤pre.length→Gw.l3 k f x (n:Int) (pre.length:Int)=some ((n+Fa post:Nat):Int)∧EC.l3 k f (n:Int) x (x.length:Int) (pre.length:Int)=some ((n+Fa post:Nat):Int):=by
  intro post
  induction post with
  |nil=>
   intro pre f n h hf hn;obtain⟨f,rfl⟩:∃q,f=q+1:=⟨f-1,by omega⟩;rw[DU] at h;subst h;simp only[Gw.l3,EC.l3,A8 (show ¬((x.length:Int)<(x.length:Int)) by omega),AU];exact⟨rfl,rfl⟩
  |cons t post ih=>
   intro pre f n h hf hn;simp only[Co] at hf;obtain⟨f,rfl⟩:∃q,f=q+1:=⟨f-1,by omega⟩;have hlen:x.length=pre.length+(post.length+1):=by rw[h];simp
   have hg:gP x (pre.length:Int)=some t:=by rw[h];exact Ej _ _ _
   have hi1:IntKind.wrap .i64 ((pre.length:Int)+1)=((pre.length+1:Nat):Int):=by rw[AY (by omega) (by omega)];omega
   have hn1:IntKind.wrap .i64 ((n:Int)+1)=((n+1:Nat):Int):=by rw[AY (by omega) (by omega)];omega
   have hi:=fun(n:Nat) (hnn:n≤pre.length+1)=>ih (pre++[t]) f n (by rw[h];simp) (by omega) (by rw[BJ,CQ];exact hnn);rw[BJ,CQ] at hi;simp only[Gw.l3,EC.l3,AZ (show(pre.length:Int)<(x.length:Int) by omega),AP,hg,AQ,Gw.c4,EC.c7,hi1,hn1];rw[Qm];by_cases h0:t.1=0
   ·rw[Bl h0,AP,AP,if_pos h0,show n+(1+Fa post)=n+1+Fa post by omega]
    exact hi (n+1) (by omega)
   ·rw[A9 h0,AU,AU,if_neg h0,Nat.zero_add]
    exact hi n (by omega)
 have:=key x [] k 0 rfl (by omega) (by simp);rw[Nat.zero_add] at this;exact this
section
variable(k:Nat)(s:List BB)(hn:∀c,c∈s→c.1.size<k∧c.1.size<1000000000∧Bt c.2.2.2.1)(hk:2000000≤k)
variable(hS:M9 s)(hok:Qt k s=some true)(hok2:PM k s=some true)
include hn hk hS hok hok2
end
end Go.Bd
end
