/- plain laws of the claim's functions -/
import Derived.Test.YtceehofnlhfndaaGreatLawFDP2
import Derived.Test.YtceehofnlhfndaaGreatLawFDP0
import Derived.Test.YtceehofnlhfndaaGreatFDPF0
set_option linter.unnecessarySimpa false
set_option linter.unusedSimpArgs false
set_option linter.unusedVariables false
set_option linter.unusedSectionVars false
section
namespace Go.Bd
open Go.Am Go.Fn
abbrev zV:AV:=(0,A7,())
def CW:List (Int×Int)→List BL
 |[]=>[]
 |p::P=>(p.1,p.2,zV,())::CW P
def fill(d:Int):List (Int×Int)→List AV→List BL
 |[],_=>[]
 |p::P,V=>if p.2=d then(match V with
  |[]=>[]
  |v::V'=>(p.1,p.2,v,())::fill d P V') else(p.1,p.2,zV,())::fill d P V
def full(d:Int):List (Int×Int)→Nat
 |[]=>0
 |p::P=>(if p.2=d then 1 else 0)+full d P
def Pm:List (Int×Int)→Bool
 |[]=>false
 |p::_=>p.1 !=0
theorem MR:∀P,(CW P).length=P.length
 |[]=>rfl
 |p::P=>by simp[CW,MR P]
theorem Nr(d:Int):∀P,full d P≤P.length
 |[]=>Nat.le_refl _
 |p::P=>by
  have:=Nr d P;simp only[full,Co];split<;>omega
theorem Nq(d:Int):∀P V,V.length=full d P→(fill d P V).length=P.length
 |[],_,_=>rfl
 |p::P,V,h=>by
  simp only[full] at h;simp only[fill];by_cases hp:p.2=d
  ·rw[if_pos hp] at h⊢
   cases V with
   |nil=>simp at h;omega
   |cons v V=>simp only[Co] at h⊢;rw[Nq d P V (by omega)]
  ·rw[if_neg hp] at h⊢
   rw[Co,Co,Nq d P V (by omega)]
theorem ac2{R D:List Int}(h:R.length=D.length):∃P:List (Int×Int),R=P.map (·.1)∧D=P.map (·.2)∧P.length=R.length:=by
 refine⟨R.zip D,?_,?_,by simp[h]⟩
 ·rw[List.map_fst_zip (by omega)]
 ·rw[List.map_snd_zip (by omega)]
section
variable(k:Nat)(hk:2000000≤k)(lf:Bu)
include hk
theorem acM(P:List (Int×Int))(hP:P.length≤2000):EE k lf (P.map (·.1)) (P.map (·.2))=some (((),((P.length-full lf.2.2.1 P:Nat):Int)),CW P):=by
 have key:∀(post pre:List (Int×Int)) (n m:Nat),P=pre++post→post.length<n→m≤pre.length→
  EE.l4 k n (P.map (·.2)) (m:Int) (P.map (·.1)) (P.length:Int) (pre.length:Int) lf (CW pre)=some (((),((m+(post.length-full lf.2.2.1 post):Nat):Int)),CW P):=by
  intro post
  induction post with
  |nil=>
   intro pre n m h hn hm;obtain⟨n,rfl⟩:∃q,n=q+1:=⟨n-1,by omega⟩;rw[DU] at h;subst h;simp only[EE.l4,A8 (show ¬((P.length:Int)<(P.length:Int)) by omega),AU,List.length_nil,full,Nat.sub_zero,Nat.add_zero]
  |cons p post ih=>
   intro pre n m h hn hm;simp only[Co] at hn;obtain⟨n,rfl⟩:∃q,n=q+1:=⟨n-1,by omega⟩;have hlen:P.length=pre.length+(post.length+1):=by rw[h];simp
   have hg1:gP (P.map (·.1)) (pre.length:Int)=some p.1:=by rw[Cg,List.getElem?_map,h];simp
   have hg2:gP (P.map (·.2)) (pre.length:Int)=some p.2:=by rw[Cg,List.getElem?_map,h];simp
   have hi1:IntKind.wrap .i64 ((pre.length:Int)+1)=((pre.length+1:Nat):Int):=by rw[AY (by omega) (by omega)];omega
   have hm1:IntKind.wrap .i64 ((m:Int)+1)=((m+1:Nat):Int):=by rw[AY (by omega) (by omega)];omega
   have aaq:CW pre++[(p.1,p.2,(0,A7,()),())]=CW (pre++[p]):=by
    have:∀(a:List (Int×Int)),CW a++[(p.1,p.2,zV,())]=CW (a++[p]):=by
     intro a
     induction a with
     |nil=>rfl
     |cons q a ih=>simp only[CW,List.cons_append,ih]
    exact this pre
   have hfl:=Nr lf.2.2.1 post;have hi:=fun m hm=>ih (pre++[p]) n m (by rw[h];simp) (by omega) hm;rw[BJ,CQ] at hi;simp only[EE.l4,AZ (show(pre.length:Int)<(P.length:Int) by omega),AP,hg1,hg2,AQ,EE.c9,hi1,hm1,aaq];rw[Bz (by rw[MR];simp;omega),AP];simp only[full,Co];by_cases hp:p.2=lf.2.2.1
   ·rw[Bw hp,AU,if_pos hp,hi m (by omega)]
    congr 4
    omega
   ·rw[BQ hp,AP,if_neg hp,hi (m+1) (by omega)]
    congr 4
    omega
 have:=key P [] k 0 rfl (by omega) (by simp);unfold EE;rw[List.length_map];rw[Nat.zero_add] at this;exact this
theorem Ry(CR:List AV)(body:List Int)(from_:Int)(h:Bf)(P:List (Int×Int))(hP:P.length≤2000)(hm:h.2.2.1=(P.length:Int))(none:List BL):
 ∀(post pre:List (Int×Int)) (n a b:Nat),P=pre++post→post.length<n→a≤pre.length→b≤pre.length→
  Cx.Ex k n CR body from_ (a:Int) (b:Int) (pre.length:Int) lf none h (P.map (·.1)) (P.map (·.2))=
   ((cond (h.1==3)
    ((cond (((a+Fa (CW post):Nat):Int) !=h.2.2.2.2.1) (some true) (some ((IntKind.wrap .i64 (h.2.2.1-((b+full lf.2.2.1 post:Nat):Int))) !=h.2.2.2.2.2.1))).bind fun b6=>some (b6))
    (some false)).bind fun b7=>
   cond b7
    (some (((),0,4),none))
    (cond (jM from_ ((List.length body):Int) (List.length body)) (
     (MH k h.2.2.2.1 lf.1 (kP body from_ ((List.length body):Int)) ((b+full lf.2.2.1 post:Nat):Int) CR).bind fun r8=>
     cond (!r8.1.2) (some (((),0,5),none)) (Cx.Fu k k 0 0 lf h (P.map (·.1)) (P.map (·.2)) r8.2 [])) Option.none)):=by
 intro post
 induction post with
 |nil=>
  intro pre n a b he hn ha hb;obtain⟨n,rfl⟩:∃q,n=q+1:=⟨n-1,by omega⟩;rw[DU] at he;subst he;simp only[Cx.Ex,hm,A8 (show ¬((P.length:Int)<(P.length:Int)) by omega),AU,CW,Fa,List.filter_nil,List.length_nil,Nat.add_zero,full]
 |cons p post ih=>
  intro pre n a b he hn ha hb;simp only[Co] at hn;obtain⟨n,rfl⟩:∃q,n=q+1:=⟨n-1,by omega⟩;have hlen:P.length=pre.length+(post.length+1):=by rw[he];simp
  have hg1:gP (P.map (·.1)) (pre.length:Int)=some p.1:=by rw[Cg,List.getElem?_map,he];simp
  have hg2:gP (P.map (·.2)) (pre.length:Int)=some p.2:=by rw[Cg,List.getElem?_map,he];simp
  have hi1:IntKind.wrap .i64 ((pre.length:Int)+1)=((pre.length+1:Nat):Int):=by rw[AY (by omega) (by omega)];omega
  have ha1:IntKind.wrap .i64 ((a:Int)+1)=((a+1:Nat):Int):=by rw[AY (by omega) (by omega)];omega
  have hb1:IntKind.wrap .i64 ((b:Int)+1)=((b+1:Nat):Int):=by rw[AY (by omega) (by omega)];omega
  have hi:=fun a b ha hb=>ih (pre++[p]) n a b (by rw[he];simp) (by omega) ha hb;rw[BJ,CQ] at hi;have er:∀x:Nat,x+Fa (CW (p::post))=(x+(if p.1=0 then 1 else 0))+Fa (CW post):=fun x=>by
   simp only[CW];rw[Qm];show x+((if p.1=0 then 1 else 0)+Fa (CW post))=_;omega
  have ef:∀x:Nat,x+full lf.2.2.1 (p::post)=(x+(if p.2=lf.2.2.1 then 1 else 0))+full lf.2.2.1 post:=fun x=>by
   simp only[full];omega
  rw[er a,ef b];unfold Cx.Ex;rw[hm,AZ (show(pre.length:Int)<(P.length:Int) by omega),AP,hg1];simp only[AQ,Cx.c19,Cx.c16,hg2,hi1,ha1,hb1];rw[←hm];by_cases h0:p.1=0
  ·rw[Bl h0,AP,if_pos h0]
   by_cases hp:p.2=lf.2.2.1
   ·rw[Bl hp,AP,if_pos hp];exact hi (a+1) (b+1) (by omega) (by omega)
   ·rw[A9 hp,AU,if_neg hp];exact hi (a+1) b (by omega) (by omega)
  ·rw[A9 h0,AU,if_neg h0]
   by_cases hp:p.2=lf.2.2.1
   ·rw[Bl hp,AP,if_pos hp];exact hi a (b+1) (by omega) (by omega)
   ·rw[A9 hp,AU,if_neg hp];exact hi a b (by omega) (by omega)
theorem aaw(h:Bf)(P:List (Int×Int))(hP:P.length≤2000):∀(post pre:List (Int×Int)) (n:Nat) (done:List BL) (V:List AV),P=pre++post→post.length<n→done.length=pre.length→V.length=full lf.2.2.1 post→
 Dw.Ch k n V (P.length:Int) (pre.length:Int) lf h (done++CW post)=some (((),IntKind.wrap .i64 (h.2.2.2.2.2.2.2.2.2.2.2.2.1+h.2.1),0),done++fill lf.2.2.1 post V):=by
 intro post
 induction post with
 |nil=>
  intro pre n done V he hn hd hV;obtain⟨n,rfl⟩:∃q,n=q+1:=⟨n-1,by omega⟩;rw[DU] at he;subst he;simp only[Dw.Ch,A8 (show ¬((P.length:Int)<(P.length:Int)) by omega),AU,CW,fill]
 |cons p post ih=>
  intro pre n done V he hn hd hV;simp only[Co] at hn;obtain⟨n,rfl⟩:∃q,n=q+1:=⟨n-1,by omega⟩;have hlen:P.length=pre.length+(post.length+1):=by rw[he];simp
  have hi1:IntKind.wrap .i64 ((pre.length:Int)+1)=((pre.length+1:Nat):Int):=by rw[AY (by omega) (by omega)];omega
  have hg:gP (done++CW (p::post)) (pre.length:Int)=some (p.1,p.2,zV,()):=by
   rw[←hd];exact Ej _ _ _
  have hi:=fun d V hV=>ih (pre++[p]) n (done++[d]) V (by rw[he];simp) (by omega) (by simp[hd]) hV;rw[BJ,CQ] at hi;simp only[full] at hV;simp only[Dw.Ch,AZ (show(pre.length:Int)<(P.length:Int) by omega),AP,hg,AQ,Dw.c21,hi1,fill];by_cases hp:p.2=lf.2.2.1
  ·rw[if_pos hp] at hV⊢
   rw[Bl hp,AP];cases V with
   |nil=>simp at hV;omega
   |cons v V=>
    simp only[Co] at hV;rw[show gP (v::V) 0=some v from rfl];simp only[AQ];rw[EF (by omega) (by simp;omega) (Int.le_refl _),AP];have hcut:kP (v::V) 1 ((v::V).length:Int)=V:=by
     unfold kP;rw[Int.toNat_natCast,List.take_length];rfl
    have hset:List.set (done++CW (p::post)) (Int.toNat (pre.length:Int)) (p.1,p.2,v,())=(done++[(p.1,p.2,v,())])++CW post:=by
     rw[←hd];have:=abZ done (CW post) (p.1,p.2,zV,()) ((p.1,p.2,v,()):BL);rw[show done++CW (p::post)=done++(p.1,p.2,zV,())::CW post from rfl,this];simp
    rw[hcut,hset,hi (p.1,p.2,v,()) V (by omega)];simp
  ·rw[if_neg hp] at hV⊢
   rw[A9 hp,AU];have hsame:done++CW (p::post)=(done++[(p.1,p.2,zV,())])++CW post:=by simp[CW]
   rw[hsame,hi (p.1,p.2,zV,()) V (by omega)];simp
theorem ab1(h:Bf)(P:List (Int×Int))(hP:P.length≤2000)(hm:h.2.2.1=(P.length:Int))(V:List AV)(hVl:V.length≤2000):∀(post pre:List (Int×Int)) (n q:Nat) (done:List BL),P=pre++post→post.length<n→done.length=pre.length→q+full lf.2.2.1 post=V.length→
 Cx.Fu k n (q:Int) (pre.length:Int) lf h (P.map (·.1)) (P.map (·.2)) V done=some (((),IntKind.wrap .i64 (h.2.2.2.2.2.2.2.2.2.2.2.2.1+h.2.1),0),done++fill lf.2.2.1 post (V.drop q)):=by
 intro post
 induction post with
 |nil=>
  intro pre n q done he hn hd hV;obtain⟨n,rfl⟩:∃q,n=q+1:=⟨n-1,by omega⟩;rw[DU] at he;subst he;simp only[Cx.Fu,hm,A8 (show ¬((P.length:Int)<(P.length:Int)) by omega),AU,fill,DU]
 |cons p post ih=>
  intro pre n q done he hn hd hV;simp only[Co] at hn;obtain⟨n,rfl⟩:∃q,n=q+1:=⟨n-1,by omega⟩;have hlen:P.length=pre.length+(post.length+1):=by rw[he];simp
  have hg1:gP (P.map (·.1)) (pre.length:Int)=some p.1:=by rw[Cg,List.getElem?_map,he];simp
  have hg2:gP (P.map (·.2)) (pre.length:Int)=some p.2:=by rw[Cg,List.getElem?_map,he];simp
  have hi1:IntKind.wrap .i64 ((pre.length:Int)+1)=((pre.length+1:Nat):Int):=by rw[AY (by omega) (by omega)];omega
  have hi:=fun q d hV=>ih (pre++[p]) n q (done++[d]) (by rw[he];simp) (by omega) (by simp[hd]) hV;rw[BJ,CQ] at hi;simp only[full] at hV;simp only[Cx.Fu,hm,AZ (show(pre.length:Int)<(P.length:Int) by omega),AP,hg1,hg2,AQ,Cx.Ni,hi1,fill];by_cases hp:p.2=lf.2.2.1
  ·rw[if_pos hp] at hV⊢
   rw[Bl hp,AP];have PG:q<V.length:=by omega
   have hgv:gP V (q:Int)=some V[q]:=by rw[Cg];exact Jv PG
   have hq1:IntKind.wrap .i64 ((q:Int)+1)=((q+1:Nat):Int):=by rw[AY (by omega) (by omega)];omega
   rw[hgv];simp only[AQ,hq1];rw[Bz (by simp;omega),AP,hi (q+1) _ (by omega),List.drop_eq_getElem_cons PG];simp
  ·rw[if_neg hp] at hV⊢
   rw[A9 hp,AU,Bz (by simp;omega),AP,hi q _ (by omega)];simp
theorem abm(hlf:EH lf=true)(h:Bf)(hk3:h.1=0∨h.1=2∨h.1=3)(hsz:h.1=3→0≤h.2.2.2.2.2.2.1∧0≤h.2.2.2.2.2.2.2.1)(h2:h.1≠2)(hm0:0≤h.2.2.1)(hm1:h.2.2.1≤2000)(b:List Int)(hb:b.length≤1048576)(hby:Ci b):
 ∃(ok:Bool) (R D rest R' D':List Int) (f:Int),Gn k lf h b=some (((),(),rest,ok),(R,D))∧Hz k lf h b=some (((),(),f,ok),(R',D'))∧
  (ok=true→R=R'∧D=D'∧(0≤f∧f≤(b.length:Int))∧rest=kP b f (b.length:Int)∧R.length=h.2.2.1.toNat∧D.length=h.2.2.1.toNat):=by
 unfold EH at hlf;simp only[BZ,Ce] at hlf;obtain⟨_,⟨l1,l2⟩,l3⟩:=hlf;unfold Gn Hz;by_cases h0:h.1=0
 ·rw[Bl h0,AP,AP]
  obtain⟨nx,ok,R,e1,e2,e3,e4⟩:=P6 k hk b hb hby 0 h.2.2.1 lf.2.1;simp only[e1,e2,AQ];obtain⟨nx',ok',D,f1,f2,f3,f4⟩:=P6 k hk b hb hby nx h.2.2.1 lf.2.2.1;simp only[f1,f2,AQ,BV];cases ok with
  |false=>
   simp only[Bv,AP,D9];exact⟨false,_,_,_,_,_,_,rfl,rfl,fun h=>(by cases h)⟩
  |true=>
   simp only[Bb,AU,Er];cases ok' with
   |false=>
    simp only[Bv,AP];exact⟨false,_,_,_,_,_,_,rfl,rfl,fun h=>(by cases h)⟩
   |true=>
    obtain⟨⟨n0,n1⟩,n2⟩:=f3 rfl;simp only[Bb,AU];rw[EF n0 n1 (Int.le_refl _),AP];exact⟨true,_,_,_,_,_,_,rfl,rfl,fun _=>⟨rfl,rfl,⟨n0,n1⟩,rfl,(e3 rfl).2,n2⟩⟩
 ·have h3:h.1=3:=by omega
  obtain⟨s1,s2⟩:=hsz h3;rw[A9 h0];simp only[AU,cst,AQ];by_cases g1:h.2.2.2.2.2.2.2.1>(b.length:Int)
  ·simp only[AZ g1,BR,AP]
   exact⟨false,_,_,_,_,_,_,rfl,rfl,fun h=>(by cases h)⟩
  ·rw[AY (show -9223372036854775808≤(b.length:Int)-h.2.2.2.2.2.2.2.1 by omega) (by omega)]
   by_cases g2:h.2.2.2.2.2.2.1>(b.length:Int)-h.2.2.2.2.2.2.2.1
   ·simp only[AZ g2,Bool.or_true,AP]
    exact⟨false,_,_,_,_,_,_,rfl,rfl,fun h=>(by cases h)⟩
   ·have ew:IntKind.wrap .i64 (h.2.2.2.2.2.2.2.1+h.2.2.2.2.2.2.1)=h.2.2.2.2.2.2.2.1+h.2.2.2.2.2.2.1:=AY (by omega) (by omega)
    have cl:∀i j:Int,(kP b i j).length≤1048576:=fun i j=>by unfold kP;rw[List.length_drop,List.length_take];omega
    obtain⟨ok,R,e1,e2,e3⟩:=P5 k hk (kP b 0 h.2.2.2.2.2.2.2.1) (cl _ _) (KD hby _ _) h.2.2.1 lf.2.1 hm0 hm1 l1 (by omega);obtain⟨ok',D,f1,f2,f3⟩:=P5 k hk (kP b h.2.2.2.2.2.2.2.1 (h.2.2.2.2.2.2.2.1+h.2.2.2.2.2.2.1)) (cl _ _) (KD hby _ _) h.2.2.1 lf.2.2.1 hm0 hm1 (by omega) (by omega);simp only[A8 g1,A8 g2,Cu,AU,ew,Gn.d12,Gn.d13,Hz.d8,Hz.d9,BV];rw[EF (Int.le_refl 0) s2 (by omega),EF (show 0≤h.2.2.2.2.2.2.2.1 from s2) (by omega) (by omega),EF (show 0≤h.2.2.2.2.2.2.2.1+h.2.2.2.2.2.2.1 by omega) (by omega) (Int.le_refl _)];simp only[AP,e1,e2,f1,f2,AQ];refine⟨ok&&ok',_,_,_,_,_,_,rfl,rfl,fun hh=> ?_⟩;obtain⟨o1,o2⟩:=(BZ _ _).mp hh;exact⟨rfl,rfl,⟨by omega,by omega⟩,rfl,e3 o1,f3 o2⟩
theorem abo(b:List Int)(hl:b.length≤1048576)(hb:Bn b)(at_:Int)(CR:List AV)(hd:CR.length<1000000000):
 ∃r,Dw k lf b at_ CR=some r∧Cx k lf b at_ CR=some r∧r.2.length≤2000∧(r.1.2.2=0→∃h,Dh k lf b at_=some (h,0)∧(r.2.length:Int)=h.2.2.1):=by
 obtain⟨h,c,e1,e2,e3⟩:=checked_eq k hk lf b hl hb at_;unfold Dw Cx;rcases e3 with⟨c0,c3,e3⟩|⟨rfl,f1,f2,f3,f4,f5,f6,r,r1,e3⟩
 ·simp only[e2,e3,AQ,BQ c0,A9 c0,A9 c3,AP,AU,cst,BV,Cu,Bool.and_false]
  exact⟨(((),0,c),[]),rfl,rfl,by simp,fun hh=>(c0 hh).elim⟩
 ·obtain⟨g1,g2⟩:=aak e2
  have ew:IntKind.wrap .i64 (h.2.2.2.2.2.2.2.2.2.2.2.2.1+h.2.1)=h.2.2.2.2.2.2.2.2.2.2.2.2.1+h.2.1:=AY (show _≤Db h+h.2.1 by omega) (show Db h+h.2.1<_ by omega);have hsl:jM h.2.2.2.2.2.2.2.2.2.2.2.2.1 (h.2.2.2.2.2.2.2.2.2.2.2.2.1+h.2.1) b.length=true:=EF f2 (show Db h≤Db h+h.2.1 by omega) f4;simp only[e2,e3,AQ,Bw rfl,AU,BV,cst,ew,hsl,AP];by_cases hk2:h.1=2
  ·refine⟨(((),0,1),[]),?_,?_,by simp,fun hh=>(by cases hh)⟩
   ·by_cases hs:h.2.2.2.2.2.2.2.2.1=true∧r≠h.2.2.2.2.2.2.2.2.2.1
    ·rw[if_pos hs]
     simp only[Bl hk2,show((3:Int)==0)=false from rfl,show((3:Int)==3)=true from rfl,Bool.or_true,Bool.and_self,AP]
    ·rw[if_neg hs]
     simp only[Bl hk2,show((0:Int)==0)=true from rfl,BR,Bool.and_self,AP]
   ·rw[Bl hk2,AP]
  ·rw[A9 hk2]
   simp only[AU];have r1:Hw k (kP b h.2.2.2.2.2.2.2.2.2.2.2.2.1 (h.2.2.2.2.2.2.2.2.2.2.2.2.1+h.2.1))=some r:=r1;have hbl:(kP b h.2.2.2.2.2.2.2.2.2.2.2.2.1 (h.2.2.2.2.2.2.2.2.2.2.2.2.1+h.2.1)).length≤1048576:=by unfold kP;rw[List.length_drop,List.length_take];omega
   have hbb:Ci (kP b h.2.2.2.2.2.2.2.2.2.2.2.2.1 (h.2.2.2.2.2.2.2.2.2.2.2.2.1+h.2.1)):=KD hb _ _;have e3':(if h.2.2.2.2.2.2.2.2.1=true∧r≠h.2.2.2.2.2.2.2.2.2.1 then(h,([]:List Int),(3:Int)) else(h,kP b (Db h) (Db h+h.2.1),0))=(if h.2.2.2.2.2.2.2.2.1=true∧r≠h.2.2.2.2.2.2.2.2.2.1 then(h,([]:List Int),(3:Int)) else(h,kP b h.2.2.2.2.2.2.2.2.2.2.2.2.1 (h.2.2.2.2.2.2.2.2.2.2.2.2.1+h.2.1),0)):=rfl;rw[e3'];generalize hB:kP b h.2.2.2.2.2.2.2.2.2.2.2.2.1 (h.2.2.2.2.2.2.2.2.2.2.2.2.1+h.2.1)=B at r1 hbl hbb;by_cases hs:h.2.2.2.2.2.2.2.2.1=true∧r≠h.2.2.2.2.2.2.2.2.2.1
   ·rw[if_pos hs]
    refine⟨(((),0,3),[]),?_,?_,by simp,fun hh=>(by cases hh)⟩
    ·simp only[show((3:Int)==0)=false from rfl,show((3:Int)==3)=true from rfl,A9 hk2,D9,AU,show((3:Int) !=0)=true from rfl,AP]
    ·unfold Cx.d8
     rw[hs.1,r1];simp only[AP,AQ,BQ hs.2]
   ·rw[if_neg hs]
    simp only[A9 hk2,D9,AU,show((0:Int) !=0)=false from rfl];obtain⟨ok,R,D,rest,R',D',fr,p1,p2,p3⟩:=abm k hk lf f1 h g1 (fun h3=>⟨(g2 h3).2.2.1,(g2 h3).2.2.2⟩) hk2 f5 f6 B hbl hbb
    have hspec:Cx.d8 k CR B lf [] h=((cond (!ok)
     (some true)
     ((cond (decide (h.2.2.1>0)) ((gP R' 0).bind fun Gi=>some (Gi !=0)) (some false)).bind fun b16=>some (b16))).bind fun b17=>
      cond b17 (some (((),0,4),[])) (Cx.Ex k k CR B fr 0 0 0 lf [] h R' D')):=by
     unfold Cx.d8;rw[p2];cases hs1:h.2.2.2.2.2.2.2.2.1 with
     |false=>rfl
     |true=>
      have hr:r=h.2.2.2.2.2.2.2.2.2.1:=Classical.byContradiction fun hh=>hs ⟨hs1,hh⟩;rw[r1];simp only[AP,AQ,Bw hr,AU]
    rw[hspec,p1];simp only[AQ];cases ok with
    |false=>
     simp only[Bv,AP,AQ];exact⟨(((),0,4),[]),rfl,rfl,by simp,fun hh=>(by cases hh)⟩
    |true=>
     obtain⟨rfl,rfl,⟨q1,q2⟩,q3,q4,q5⟩:=p3 rfl;obtain⟨P,rfl,rfl,hP⟩:=ac2 (show R.length=D.length by omega);have JV:h.2.2.1=(P.length:Int):=by rw[hP,q4];omega
     have hP2:P.length≤2000:=by omega
     simp only[Bb,AU,List.length_map];rw[JV];have hgd:∀X:Int,(cond (decide ((P.length:Int)>0)) ((gP (P.map (·.1)) 0).bind fun y=>some (y !=0)) (some false))=some (Pm P):=fun _=>by
      cases P with
      |nil=>rfl
      |cons p P=>rw[AZ (show((p::P).length:Int)>0 by simp),AP];rfl
     rw[hgd 0];simp only[AQ];cases Pm P with
     |true=>
      simp only[AP];exact⟨(((),0,4),[]),rfl,rfl,by simp,fun hh=>(by cases hh)⟩
     |false=>
      simp only[AU,acM k hk lf P hP2,AQ];have hcl:=Ry k hk lf CR B fr h P hP2 JV [] P [] k 0 0 rfl (by omega) (by simp) (by simp);have hcl:Cx.Ex k k CR B fr 0 0 0 lf [] h (P.map (·.1)) (P.map (·.2))=_:=hcl;rw[hcl];have hfl:=Nr lf.2.2.1 P;simp only[Nat.zero_add,cst,AQ,BV,EF q1 q2 (Int.le_refl _),AP];have R4:IntKind.wrap .i64 (h.2.2.1-((full lf.2.2.1 P:Nat):Int))=((P.length-full lf.2.2.1 P:Nat):Int):=by rw[JV,AY (by omega) (by omega)];omega
      have R5:IntKind.wrap .i64 (h.2.2.1-((P.length-full lf.2.2.1 P:Nat):Int))=((full lf.2.2.1 P:Nat):Int):=by rw[JV,AY (by omega) (by omega)];omega
      obtain⟨eo,V,v1,v2,v3,v4⟩:=RZ k hk h.2.2.2.1 lf.1 rest (by rw[q3];unfold kP;rw[List.length_drop,List.length_take];omega) (by rw[q3];exact KD hbb _ _) ((full lf.2.2.1 P:Nat):Int) CR hd;have hro:EC k (CW P)=some (Fa (CW P):Int):=(abS k (CW P) (by rw[MR];omega) hk).2;rw[q3] at v1 v2;unfold Dw.d10;simp only[hro,AQ,R4,R5,q3,v1,v2,MR,cst];have fin:∃rr,(cond (!eo) (some (((),0,5),[])) (Dw.Ch k k V (P.length:Int) 0 lf h (CW P)))=some rr∧(cond (!eo) (some (((),0,5),[])) (Cx.Fu k k 0 0 lf h (P.map (·.1)) (P.map (·.2)) V []))=some rr∧rr.2.length≤2000∧(rr.1.2.2=0→∃h,Dh k lf b at_=some (h,0)∧(rr.2.length:Int)=h.2.2.1):=by
       cases eo with
       |false=>exact⟨(((),0,5),[]),rfl,rfl,by simp,fun hh=>(by cases hh)⟩
       |true=>
        obtain⟨w1,_,_⟩:=v4 rfl;have w1:V.length=full lf.2.2.1 P:=by rw[w1];simp
        have i1:=aaw k hk lf h P hP2 P [] k [] V rfl (by omega) rfl w1;have i1:Dw.Ch k k V (P.length:Int) 0 lf h (CW P)=_:=i1;have s1:=ab1 k hk lf h P hP2 JV V v3 P [] k 0 [] rfl (by omega) rfl (by omega);have s1:Cx.Fu k k 0 0 lf h (P.map (·.1)) (P.map (·.2)) V []=_:=s1;rw[i1,s1];have Pz:(([]:List BL)++fill lf.2.2.1 P V).length=P.length:=by rw[List.nil_append,Nq _ _ _ w1]
        refine⟨_,rfl,rfl,?_,fun _=>⟨h,e2,?_⟩⟩
        ·show(([]:List BL)++fill lf.2.2.1 P V).length≤2000
         rw[Pz];exact hP2
        ·show((([]:List BL)++fill lf.2.2.1 P V).length:Int)=_
         rw[Pz,JV]
      obtain⟨rr,i1,s1,hrl,PI⟩:=fin;cases h3:(h.1==3) with
      |false=>
       simp only[AU,AQ];exact⟨rr,i1,s1,hrl,fun hh=>by obtain⟨h',q1,q2⟩:=PI hh;rw[e2] at q1;exact⟨h',q1,q2⟩⟩
      |true=>
       simp only[AP,AQ];by_cases hr1:(Fa (CW P):Int)=h.2.2.2.2.1
       ·simp only[Bw hr1,AU,Cm]
        by_cases hr2:((P.length-full lf.2.2.1 P:Nat):Int)=h.2.2.2.2.2.1
        ·simp only[Bw hr2,AU]
         exact⟨rr,i1,s1,hrl,fun hh=>by obtain⟨h',q1,q2⟩:=PI hh;rw[e2] at q1;exact⟨h',q1,q2⟩⟩
        ·simp only[BQ hr2,AP]
         exact⟨(((),0,4),[]),rfl,rfl,by simp,fun hh=>(by cases hh)⟩
       ·simp only[BQ hr1,AP,BR]
        exact⟨(((),0,4),[]),rfl,rfl,by simp,fun hh=>(by cases hh)⟩
end
end Go.Bd
end
section
namespace Go.Bd
open Go.Am Go.Fn
def C7(c:B_):Prop:=0≤c.2.1∧c.2.1≤(c.1.length:Int)∧c.1.length≤1048576
variable(k:Nat)
theorem JJ(c:B_)(hc:C7 c):∃v c',FW k c=some (v,c')∧0≤v∧v<256∧C7 c':=by
 obtain⟨h0,h1,h2⟩:=hc;unfold FW FW.c6;by_cases h:c.2.1<(c.1.length:Int)
 ·obtain⟨x,hx,_⟩:=FQ h0 h
  simp only[AZ h,AP,hx,AQ];refine⟨_,_,rfl,?_,?_,?_,?_,?_⟩
  ·simp only[KC];omega
  ·simp only[KC];omega
  ·show 0≤IntKind.wrap .i64 (c.2.1+1)
   rw[AY (by omega) (by omega)];omega
  ·show IntKind.wrap .i64 (c.2.1+1)≤(c.1.length:Int)
   rw[AY (by omega) (by omega)];omega
  ·exact h2
 ·simp only[A8 h,AU]
  refine⟨_,_,rfl,?_,?_,h0,h1,h2⟩
  ·simp only[KC];omega
  ·simp only[KC];omega
theorem Fj(n:Int)(hn:n<9223372036854775808)(c:B_)(hc:C7 c):∃v c',Ez k n c=some (v,c')∧(n≤0→v=0)∧(0<n→0≤v∧v<n)∧C7 c':=by
 unfold Ez;by_cases h0:n≤0
 ·simp only[AZ h0,AP]
  exact⟨_,_,rfl,fun _=>rfl,fun h=>by omega,hc⟩
 ·have hne:decide (n≠0)=true:=AZ (by omega)
  simp only[A8 h0,AU,hne,AP];have fin:∀v:Int,0≤v→0≤Int.tmod v n∧Int.tmod v n<n:=fun v hv=>by
   rw[Int.tmod_eq_emod_of_nonneg hv];exact⟨Int.emod_nonneg _ (by omega),Int.emod_lt_of_pos _ (by omega)⟩
  by_cases Pn:n≤256
  ·simp only[AZ Pn,AP]
   obtain⟨v,c',hv,v0,v1,hc'⟩:=JJ k c hc;simp only[hv,AQ];exact⟨_,_,rfl,fun h=>by omega,fun _=>fin v v0,hc'⟩
  ·simp only[A8 Pn,AU]
   obtain⟨v1,c1,hv1,a1,b1,hc1⟩:=JJ k c hc;simp only[hv1,AQ];obtain⟨v2,c2,hv2,a2,b2,hc2⟩:=JJ k c1 hc1;simp only[hv2,AQ];obtain⟨v3,c3,hv3,a3,b3,hc3⟩:=JJ k c2 hc2;simp only[hv3,AQ];obtain⟨v4,c4,hv4,a4,b4,hc4⟩:=JJ k c3 hc3;simp only[hv4,AQ]
   rw[AY (show -9223372036854775808≤v1*16777216 by omega) (by omega),AY (show -9223372036854775808≤v2*65536 by omega) (by omega),AY (show -9223372036854775808≤v1*16777216+v2*65536 by omega) (by omega),
    AY (show -9223372036854775808≤v3*256 by omega) (by omega),AY (show -9223372036854775808≤v1*16777216+v2*65536+v3*256 by omega) (by omega),AY (show -9223372036854775808≤v1*16777216+v2*65536+v3*256+v4 by omega) (by omega)]
   exact⟨_,_,rfl,fun h=>by omega,fun _=>fin _ (by omega),hc4⟩
theorem Kc(l:List Int)(hl:0<l.length)(hl2:l.length<1000000)(c:B_)(hc:C7 c):∃v c',Ik k l c=some (v,c')∧v∈l∧C7 c':=by
 unfold Ik;obtain⟨v,c',hv,_,h1,hc'⟩:=Fj k (l.length:Int) (by omega) c hc;obtain⟨h1,h2⟩:=h1 (by omega);simp only[hv,AQ];obtain⟨x,hx,hx2⟩:=FQ h1 h2;simp only[hx,AQ];exact⟨_,_,rfl,List.mem_of_getElem? hx2,hc'⟩
theorem IL(n:Int)(hn:n<9223372036854775808)(c:B_)(hc:C7 c):∃v c',HV k n c=some (v,c')∧C7 c':=by
 unfold HV;obtain⟨v,c',hv,_,_,hc'⟩:=Fj k n hn c hc;simp only[hv,AQ];exact⟨_,_,rfl,hc'⟩
theorem Rt(t6:Int)(h6:t6≤1000000):∀(m n:Nat) (i:Int) (c:B_) (acc:List Int),C7 c→0≤i→t6-i≤m→m<n→acc.length+m≤4000000→(∀x,x∈acc→0≤x∧x<256)→
 ∃c' out,Gx.l4 k n t6 i c acc=some ((),(c',out))∧C7 c'∧out.length≤acc.length+m∧∀x,x∈out→0≤x∧x<256:=by
 intro m
 induction m with
 |zero=>
  intro n i c acc hc hi hm hn ha hb;obtain⟨n,rfl⟩:∃j,n=j+1:=⟨n-1,by omega⟩;simp only[Gx.l4,A8 (show ¬i<t6 by omega),AU];exact⟨_,_,rfl,hc,by omega,hb⟩
 |succ m ih=>
  intro n i c acc hc hi hm hn ha hb;obtain⟨n,rfl⟩:∃j,n=j+1:=⟨n-1,by omega⟩;by_cases h:i<t6
  ·obtain⟨v,c1,hv,v0,v1,hc1⟩:=JJ k c hc
   simp only[Gx.l4,AZ h,AP,hv,AQ];rw[Bz (by simp;omega),AP,w8 v0 v1,AY (by omega) (by omega)]
   obtain⟨c',out,h1,h2,h3,h4⟩:=ih n (i+1) c1 (acc++[v]) hc1 (by omega) (by omega) (by omega) (by simp;omega) (fun x hx=>by
    rcases List.mem_append.1 hx with hx|hx
    ·exact hb x hx
    ·simp at hx;subst hx;exact⟨v0,v1⟩)
   exact⟨c',out,h1,h2,by simp at h3;omega,h4⟩
  ·simp only[Gx.l4,A8 h,AU]
   exact⟨_,_,rfl,hc,by omega,hb⟩
theorem RN(most:Nat)(hm:most<900000)(hk:1000000≤k)(c:B_)(hc:C7 c):∃c' out,Gx k (most:Int) c=some ((),(c',out))∧C7 c'∧out.length≤most∧∀x,x∈out→0≤x∧x<256:=by
 unfold Gx;rw[AY (by omega) (by omega)];obtain⟨v,c1,hv,_,h1,hc1⟩:=Fj k ((most:Int)+1) (by omega) c hc;obtain⟨h1,h2⟩:=h1 (by omega);simp only[hv,AQ];obtain⟨c',out,g1,g2,g3,g4⟩:=Rt k v (by omega) most k 0 c1 [] hc1 (by omega) (by omega) (by omega) (by simp;omega) (by simp);exact⟨c',out,g1,g2,by simpa using g3,g4⟩
theorem RS(most:Nat)(hm:most<900000)(hk:1000000≤k)(c:B_)(hc:C7 c):∃v c',Ll k (most:Int) c=some (v,c')∧C7 c'∧v.size≤most:=by
 unfold Ll;obtain⟨c',out,g1,g2,g3,g4⟩:=RN k most hm hk c hc;simp only[g1,AQ];exact⟨_,_,rfl,g2,by rw[II];exact g3⟩
theorem O4(c:B_)(hc:C7 c):∃v c',Lj k c=some (v,c')∧C7 c'∧Bt v:=by
 unfold Lj;obtain⟨v1,c1,hv1,_,a1,hc1⟩:=Fj k 1000000 (by omega) c hc;have a1:=a1 (by omega);simp only[hv1,AQ];obtain⟨v2,c2,hv2,_,a2,hc2⟩:=Fj k 1000000 (by omega) c1 hc1;have a2:=a2 (by omega);simp only[hv2,AQ];obtain⟨v3,c3,hv3,_,a3,hc3⟩:=Fj k 300 (by omega) c2 hc2;have a3:=a3 (by omega);simp only[hv3,AQ];rw[AY (show -9223372036854775808≤0-v2 by omega) (by omega)];obtain⟨v,c4,hv,hm,hc4⟩:=Kc k [0,1,(-1),63,64,(-64),(-65),127,128,16383,16384,2147483647,(-2147483648),9223372036854775807,(-9223372036854775808),4611686018427387904,v1,0-v2,v3] (by simp) (by simp) c3 hc3;simp only[hv,AQ];refine⟨_,_,rfl,hc4,?_⟩;simp only[List.mem_cons,List.not_mem_nil,or_false] at hm;unfold Bt;omega
theorem aa2(t:List Int)(ht:t.length≤1048576):∀(m n:Nat) (h i:Int),0≤i→4000-i≤m→m<n→
 ∃c,Gy.l3 k n t h i=some ((),c)∧C7 c:=by
 intro m
 induction m with
 |zero=>
  intro n h i hi hm hn;obtain⟨n,rfl⟩:∃j,n=j+1:=⟨n-1,by omega⟩;simp only[Gy.l3,BV,A8 (show ¬i<4000 by omega),Bool.and_false,AQ,AU];exact⟨_,rfl,Int.le_refl _,by simp,ht⟩
 |succ m ih=>
  intro n h i hi hm hn;obtain⟨n,rfl⟩:∃j,n=j+1:=⟨n-1,by omega⟩;by_cases hb:i<(t.length:Int)∧i<4000
  ·obtain⟨x,hx,_⟩:=FQ hi hb.1
   simp only[Gy.l3,BV,AZ hb.1,AZ hb.2,Bool.and_self,AQ,AP,hx];rw[AY (show -9223372036854775808≤i+1 by omega) (by omega)];exact ih n _ (i+1) (by omega) (by omega) (by omega)
  ·have:(decide (i<(t.length:Int))&&decide (i<4000))=false:=by
    rw[Bool.eq_false_iff];intro hh;simp only[BZ,Ce] at hh;exact hb hh
   simp only[Gy.l3,BV,this,AQ,AU];exact⟨_,rfl,Int.le_refl _,by simp,ht⟩
theorem aa3(hk:1000000≤k)(t:List Int)(ht:t.length≤1048576):∃c,Gy k t=some ((),c)∧C7 c:=by
 unfold Gy;exact aa2 k t ht 4000 k _ 0 (by omega) (by omega) (by omega)
end Go.Bd
end
section
namespace Go.Bd
open Go.Am Go.Fn
variable(k:Nat)
theorem abt(l:List ByteArray)(hl:0<l.length)(hl2:l.length<1000000)(c:B_)(hc:C7 c):∃v c',MM k l c=some (v,c')∧v∈l∧C7 c':=by
 unfold MM;obtain⟨v,c',hv,_,h1,hc'⟩:=Fj k (l.length:Int) (by omega) c hc;obtain⟨h1,h2⟩:=h1 (by omega);simp only[hv,AQ];obtain⟨x,hx,hx2⟩:=FQ h1 h2;simp only[hx,AQ];exact⟨_,_,rfl,List.mem_of_getElem? hx2,hc'⟩
end Go.Bd
end
section
namespace Go.Bd
open Go.Am Go.Fn
variable(k:Nat)
def KA(v:AV):Prop:=Bt v.1∧v.2.1.size≤100
theorem PK:Bt 0:=⟨by decide,by decide⟩
theorem e0:A7.size≤100:=by decide
theorem Nl(hk:1000000≤k)(t:Int)(c:B_)(hc:C7 c):∃v c',Kl k t c=some (v,c')∧KA v∧C7 c':=by
 unfold Kl;by_cases h0:t=0
 ·rw[Bl h0,AP]
  obtain⟨v1,c1,e1,_,a1,hc1⟩:=Fj k 2 (by omega) c hc;have a1:=a1 (by omega);simp only[e1,AQ];exact⟨_,_,rfl,⟨⟨by omega,by omega⟩,e0⟩,hc1⟩
 rw[A9 h0,AU];by_cases h1:t=1
 ·rw[Bl h1,AP]
  obtain⟨v1,c1,e1,hc1⟩:=IL k 6 (by omega) c hc;simp only[e1,AQ];cases v1 with
  |true=>
   simp only[AP];obtain⟨v2,c2,e2,m2,hc2⟩:=Kc k [2147483647,(-2147483648),0] (by simp) (by simp) c1 hc1;simp only[e2,AQ];simp only[List.mem_cons,List.not_mem_nil,or_false] at m2;exact⟨_,_,rfl,⟨⟨by omega,by omega⟩,e0⟩,hc2⟩
  |false=>
   simp only[AU];obtain⟨v2,c2,e2,_,a2,hc2⟩:=Fj k 40 (by omega) c1 hc1;have a2:=a2 (by omega);simp only[e2,AQ];rw[AY (by omega) (by omega)];exact⟨_,_,rfl,⟨⟨by omega,by omega⟩,e0⟩,hc2⟩
 rw[A9 h1,AU];by_cases h6:t=6
 ·rw[Bl h6,AP]
  obtain⟨v1,c1,e1,hc1⟩:=IL k 3 (by omega) c hc;simp only[e1,AQ];cases v1 with
  |true=>
   simp only[AP];obtain⟨v2,c2,e2,m2,hc2⟩:=abt k [A7,(⟨#[97]⟩:ByteArray),(⟨#[97,98]⟩:ByteArray),(⟨#[97,98,99]⟩:ByteArray),(⟨#[97,98,100]⟩:ByteArray),(⟨#[98]⟩:ByteArray),(⟨#[97,97]⟩:ByteArray)] (by simp) (by simp) c1 hc1;simp only[e2,AQ];refine⟨_,_,rfl,⟨PK,?_⟩,hc2⟩;simp only[List.mem_cons,List.not_mem_nil,or_false] at m2;rcases m2 with rfl|rfl|rfl|rfl|rfl|rfl|rfl<;>decide
  |false=>
   simp only[AU];obtain⟨v2,c2,e2,hc2,m2⟩:=RS k 6 (by omega) hk c1 hc1;have e2:Ll k 6 c1=some (v2,c2):=e2;simp only[e2,AQ];exact⟨_,_,rfl,⟨PK,by show v2.size≤100;omega⟩,hc2⟩
 rw[A9 h6,AU];by_cases h5:t=5
 ·rw[Bl h5,AP]
  obtain⟨v1,c1,e1,_,a1,hc1⟩:=Fj k 9 (by omega) c hc;have a1:=a1 (by omega);simp only[e1,AQ];obtain⟨v2,c2,e2,hc2,i2⟩:=O4 k c1 hc1;simp only[e2,AQ];obtain⟨v3,c3,e3,m3,hc3⟩:=Kc k [0,(-9223372036854775808),4607182418800017408,(-4616189618054758400),9221120237041090560,(-2251799813685248),v1,v2] (by simp) (by simp) c2 hc2;simp only[e3,AQ];refine⟨_,_,rfl,⟨?_,e0⟩,hc3⟩;simp only[List.mem_cons,List.not_mem_nil,or_false] at m3;obtain⟨i2a,i2b⟩:=i2;exact⟨by show _≤v3;omega,by show v3<_;omega⟩
 ·rw[A9 h5,AU]
  obtain⟨v1,c1,e1,hc1⟩:=IL k 2 (by omega) c hc;simp only[e1,AQ];cases v1 with
  |true=>
   simp only[AP];obtain⟨v2,c2,e2,_,a2,hc2⟩:=Fj k 30 (by omega) c1 hc1;have a2:=a2 (by omega);simp only[e2,AQ];rw[AY (by omega) (by omega)];exact⟨_,_,rfl,⟨⟨by omega,by omega⟩,e0⟩,hc2⟩
  |false=>
   simp only[AU];obtain⟨v2,c2,e2,hc2,i2⟩:=O4 k c1 hc1;simp only[e2,AQ];exact⟨_,_,rfl,⟨i2,e0⟩,hc2⟩
end Go.Bd
end
section
namespace Go.Bd
open Go.Am Go.Fn
variable(k:Nat)
theorem O5(hk:1000000≤k)(t:Int)(c:B_)(hc:C7 c):∃v c',HY k t c=some (v,c')∧KA v∧C7 c':=by
 unfold HY HY.c7;obtain⟨v1,c1,e1,w1,hc1⟩:=Nl k hk t c hc;simp only[e1,AQ];obtain⟨v2,c2,e2,_,a2,hc2⟩:=Fj k 25 (by omega) c1 hc1;simp only[e2,AQ];by_cases h0:v2=0
 ·rw[Bl h0,AP]
  obtain⟨v3,c3,e3,m3,hc3⟩:=Kc k [2,(-1),2147483648,(-2147483649)] (by simp) (by simp) c2 hc2;simp only[e3,AQ];simp only[List.mem_cons,List.not_mem_nil,or_false] at m3;exact⟨_,_,rfl,⟨⟨by show _≤v3;omega,by show v3<_;omega⟩,w1.2⟩,hc3⟩
 rw[A9 h0,AU];by_cases h1:v2=1
 ·rw[Bl h1,AP]
  obtain⟨v3,c3,e3,_,a3,hc3⟩:=Fj k 2 (by omega) c2 hc2;have a3:=a3 (by omega);simp only[e3,AQ];rw[AY (by omega) (by omega),Kb (by omega) (by omega),AP];refine⟨_,_,rfl,⟨w1.1,?_⟩,hc3⟩;show(yM _).size≤100;rw[II,List.length_replicate];omega
 ·rw[A9 h1,AU]
  exact⟨_,_,rfl,w1,hc2⟩
def Iq(l:List AV):Prop:=∀v,v∈l→KA v
theorem Iq.snoc{l:List AV}{v:AV}(h:Iq l)(hv:KA v):Iq (l++[v]):=fun x hx=>by
 rcases List.mem_append.1 hx with hx|hx
 ·exact h x hx
 ·simp only[List.mem_singleton] at hx;rw[hx];exact hv
theorem RP(hk:1000000≤k)(t:Int)(most:Int)(aan:most≤5000):∀(m n:Nat) (i:Int) (c:B_) (o:List AV),0≤i→i≤5000→most-i≤m→m<n→C7 c→(o.length:Int)=i→Iq o→
 ∃c' o',Dn.l4 k n t most i c o=some ((),(c',o'))∧C7 c'∧Iq o'∧(o'.length:Int)≤max most i+1:=by
 intro m
 induction m with
 |zero=>
  intro n i c o hi hi5 hm hn hc ho hw;obtain⟨n,rfl⟩:∃j,n=j+1:=⟨n-1,by omega⟩;simp only[Dn.l4,A8 (show ¬i<most by omega),AU];obtain⟨v1,c1,e1,hc1⟩:=IL k 20 (by omega) c hc;simp only[e1,AQ];cases v1 with
  |true=>
   simp only[AP];obtain⟨v2,c2,e2,w2,hc2⟩:=O5 k hk t c1 hc1;simp only[e2,AQ];rw[Bz (by simp;omega),AP];exact⟨_,_,rfl,hc2,hw.snoc w2,by simp;omega⟩
  |false=>exact⟨_,_,rfl,hc1,hw,by omega⟩
 |succ m ih=>
  intro n i c o hi hi5 hm hn hc ho hw;obtain⟨n,rfl⟩:∃j,n=j+1:=⟨n-1,by omega⟩;by_cases h:i<most
  ·have hw1:IntKind.wrap .i64 (i+1)=i+1:=AY (by omega) (by omega)
   have step:∀(v:AV) (c1:B_),KA v→C7 c1→∃c' o',Dn.c5 k (Dn.l4 k n) t most i c1 (o++[v])=some ((),(c',o'))∧C7 c'∧Iq o'∧(o'.length:Int)≤max most i+1:=by
    intro v c1 hv hc1;obtain⟨c',o',q1,q2,q3,q4⟩:=ih n (i+1) c1 (o++[v]) (by omega) (by omega) (by omega) (by omega) hc1 (by simp;omega) (hw.snoc hv);refine⟨c',o',?_,q2,q3,by omega⟩;unfold Dn.c5;rw[hw1];exact q1
   have hlim:∀v:AV,lim (o.length+[v].length)=true:=fun v=>Bz (by simp;omega);simp only[Dn.l4,AZ h,AP];by_cases h0:i>0
   ·rw[AZ h0,AP]
    obtain⟨v1,c1,e1,hc1⟩:=IL k 3 (by omega) c hc;simp only[e1,AQ];cases v1 with
    |true=>
     simp only[AP];obtain⟨v2,c2,e2,_,a2,hc2⟩:=Fj k i (by omega) c1 hc1;obtain⟨a2,b2⟩:=a2 (by omega);obtain⟨x,hx,hx2⟩:=FQ (xs:=o) a2 (by omega);simp only[e2,AQ,hx,hlim,AP];exact step x c2 (hw x (List.mem_of_getElem? hx2)) hc2
    |false=>
     simp only[AU];obtain⟨v2,c2,e2,w2,hc2⟩:=Nl k hk t c1 hc1;simp only[e2,AQ,hlim,AP];exact step v2 c2 w2 hc2
   ·rw[A8 h0,AU,AU]
    obtain⟨v2,c2,e2,w2,hc2⟩:=Nl k hk t c hc;simp only[e2,AQ,hlim,AP];exact step v2 c2 w2 hc2
  ·simp only[Dn.l4,A8 h,AU]
   obtain⟨v1,c1,e1,hc1⟩:=IL k 20 (by omega) c hc;simp only[e1,AQ];cases v1 with
   |true=>
    simp only[AP];obtain⟨v2,c2,e2,w2,hc2⟩:=O5 k hk t c1 hc1;simp only[e2,AQ];rw[Bz (by simp;omega),AP];exact⟨_,_,rfl,hc2,hw.snoc w2,by simp;omega⟩
   |false=>exact⟨_,_,rfl,hc1,hw,by omega⟩
theorem RQ(hk:1000000≤k)(t most:Int)(h0:0≤most)(aan:most≤4000)(c:B_)(hc:C7 c):
 ∃c' o,Dn k t most c=some ((),(c',o))∧C7 c'∧Iq o∧(o.length:Int)≤most+1:=by
 unfold Dn;rw[AY (by omega) (by omega)];obtain⟨v,c1,e1,_,a1,hc1⟩:=Fj k (most+1) (by omega) c hc;obtain⟨a1,b1⟩:=a1 (by omega);simp only[e1,AQ];obtain⟨c',o',q1,q2,q3,q4⟩:=RP k hk t v (by omega) 5000 k 0 c1 [] (by omega) (by omega) (by omega) (by omega) hc1 rfl (fun x hx=>(List.not_mem_nil hx).elim);exact⟨c',o',q1,q2,q3,by omega⟩
end Go.Bd
end
section
namespace Go.Bd
open Go.Am Go.Fn
theorem abY(k:Nat)(l:List AV)(hl:l.length<k)(h2:l.length≤1000000):GX k l l=some true:=by
 have key:∀(post pre:List AV) (f:Nat),l=pre++post→post.length<f→GX.l4 k f l l (pre.length:Int)=some true:=by
  intro post
  induction post with
  |nil=>
   intro pre f h hf;obtain⟨f,rfl⟩:∃q,f=q+1:=⟨f-1,by omega⟩;rw[DU] at h;subst h;simp only[GX.l4,A8 (show ¬((l.length:Int)<(l.length:Int)) by omega),AU]
  |cons v post ih=>
   intro pre f h hf;simp only[Co] at hf;obtain⟨f,rfl⟩:∃q,f=q+1:=⟨f-1,by omega⟩;have hlen:l.length=pre.length+(post.length+1):=by rw[h];simp
   have hg:gP l (pre.length:Int)=some v:=by rw[h];exact Ej _ _ _
   have hi1:IntKind.wrap .i64 ((pre.length:Int)+1)=((pre.length+1:Nat):Int):=by rw[AY (by omega) (by omega)];omega
   have hi:=ih (pre++[v]) f (by rw[h];simp) (by omega);rw[BJ,CQ] at hi;have hs:ig v.2.1 v.2.1=true:=by rw[F6];exact AZ rfl
   simp only[GX.l4,AZ (show(pre.length:Int)<(l.length:Int) by omega),AP,hg,AQ,Bl rfl,hs,Bool.and_self,Bb,AU,hi1,hi]
 unfold GX;rw[Bw rfl,AU];exact key l [] k rfl hl
end Go.Bd
end
section
namespace Go.Bd
open Go.Am Go.Fn
attribute [-simp] List.length_flatten
theorem RU(k:Nat)(c:B_)(hc:C7 c):∃t c',MO k c=some (t,c')∧C7 c':=by
 unfold MO;obtain⟨v,c1,e1,hc1⟩:=IL k 25 (by omega) c hc;obtain⟨a,c2,e2,_,hc2⟩:=Kc k [3,4,7,(-1)] (by simp) (by simp) c1 hc1;obtain⟨b,c3,e3,_,hc3⟩:=Kc k [0,1,2,5,6] (by simp) (by simp) c1 hc1;simp only[e1,AQ,e2,e3];cases v with
 |true=>exact⟨_,_,rfl,hc2⟩
 |false=>exact⟨_,_,rfl,hc3⟩
theorem RO(k:Nat)(hk:1000000≤k)(code:List Int)(hc:code.length≤1048576):∃t d s,MG k code=some ((t,(),s),d)∧Iq d∧d.length≤7:=by
 obtain⟨c0,e0,h0⟩:=aa3 k hk code hc;obtain⟨t,c1,e1,h1⟩:=RU k c0 h0;obtain⟨c2,d,e2,h2,hw,hl⟩:=RQ k hk t 6 (by omega) (by omega) c1 h1;obtain⟨s,c3,e3,h3⟩:=IL k 2 (by omega) c2 h2;unfold MG;simp only[e0,AQ,e1,e2,e3];exact⟨t,d,s,rfl,hw,by omega⟩
theorem abf(n:Int)(h0:0≤n)(h1:n≤2000):Enc 11 (Fv n):=by
 have:=Nn 10 (id:=7) (c:=2) (.int (d:=9) (l:=0) (id:=1) (x:=n) (.int (d:=9) (l:=1) (id:=2) (x:=0) (.nil 2) (by omega) (by omega) (by omega) (by omega)) (by omega) (by omega) (by omega) (by omega));exact this
theorem abg(n:Int)(h0:0≤n)(h1:n≤2000):∀x,x∈Fv n→DD x:=by
 intro x hx;unfold Fv at hx;simp only[List.mem_cons,List.not_mem_nil,or_false] at hx;rcases hx with rfl|rfl|rfl
 ·exact QK ⟨by omega,by omega⟩ ⟨by omega,by omega⟩
 ·exact Kq ⟨by omega,by omega⟩ ⟨by omega,by omega⟩
 ·exact Kq ⟨by omega,by omega⟩ ⟨by omega,by omega⟩
theorem RI(k:Nat)(hk:200000≤k)(t:Int)(d:List AV)(s:Bool)(hl:d.length<1000000000)(hlk:d.length<k):
 (Eu t d=false∧KT k t d s=some (((),false),[])∧∃x,Ld k t d s=some (((),false),x))∨
 (Eu t d=true∧∃B,KT k t d s=some (((),true),B++BX t d)∧(∃x,Ld k t d s=some (((),true),x))∧B.length≤1000000∧Bn B∧1≤B.length∧
  ∀(pre r':List Int),pre.length+r'.length<4000000000000000000→Gm k (pre++(B++r')) (pre.length:Int)=some (((),((pre.length+B.length:Nat):Int),0),Dj 2 ((BX t d).length:Int) s (E5 (BX t d)) (Fv (d.length:Int)))):=by
 obtain⟨p1,p2⟩:=Qi k (by omega) t d hl hlk;unfold KT Ld;simp only[p1,p2,AQ];cases hv:Eu t d with
 |false=>exact .inl ⟨rfl,rfl,_,rfl⟩
 |true=>
  obtain⟨hv1,hl2,hty⟩:=I5.1 hv;refine .inr ⟨rfl,?_⟩;have hpl:(BX t d).length≤44*d.length:=by
   unfold BX;split
   ·have:(Fw 1 (d.map (·.1))).length=bytesOf (d.map (·.1)).length 1:=De _ _
    rw[this,List.length_map];unfold bytesOf;omega
   ·have:∀q:List AV,(∀v,v∈q→CK t v=true)→((q.map (Cw t)).flatten).length≤44*q.length:=by
     intro q
     induction q with
     |nil=>intro _;simp
     |cons v q ih=>
      intro h;have:=ih (fun x hx=>h x (by simp[hx]));have:=Mw (h v (by simp));rw[List.map_cons,List.flatten_cons,BJ,Co];omega
    exact this d hv1
  obtain⟨B,b1,⟨B',b2⟩,b3,b4,b5,b6⟩:=abn k hk 2 (BX t d) s (FC 7 2) [CL 1 (d.length:Int),CL 2 0] (by omega) (LJ t d) (by omega) (by omega) ⟨by show(5:Int)≤7;omega,by show(7:Int)≤8;omega⟩
   (abf _ (by omega) (by omega)) (abg _ (by omega) (by omega)) (by simp)
  refine⟨B,?_,?_,b3,b4,b5,b6⟩
  ·simp only[Bb,AU,Ms,AQ,if_true]
   rw[Qy k 7 [[CL 1 (d.length:Int)],[CL 2 0]] (by simp;omega) (by simp) (by simp)];simp only[AQ];have e:((12,7,0,A7,(([[CL 1 (d.length:Int)],[CL 2 0]].length:Nat):Int),())::[[CL 1 (d.length:Int)],[CL 2 0]].flatten:List AR)=[FC 7 2,CL 1 (d.length:Int),CL 2 0]:=by simp[FC]
   rw[e,b1];rfl
  ·simp only[Bb,AU,ND,AQ,if_true]
   have e:([(12,7,0,A7,2,()),CL 1 (d.length:Int),CL 2 0]:List AR)=[FC 7 2,CL 1 (d.length:Int),CL 2 0]:=rfl;rw[e,b2];exact⟨_,rfl⟩
theorem RF(a b c:List Int):kP (a++(b++c)) (a.length:Int) ((a.length+b.length:Nat):Int)=b:=by
 unfold kP;rw[Int.toNat_natCast,Int.toNat_natCast,List.drop_take,Nat.add_sub_cancel_left,List.drop_left' rfl,List.take_left' rfl]
theorem fnDictPage(x:List Int):∃k,NG k x=some true:=by
 refine⟨4000000,?_⟩;generalize hk:(4000000:Nat)=k;unfold NG NH;simp only[AQ];by_cases h:(x.length:Int)>1048576
 ·rw[AZ h,AP]
 ·rw[A8 h,AU]
  obtain⟨t,d,s,e0,hw,hl⟩:=RO k (by omega) x (by omega);simp only[e0,AQ];rcases RI k (by omega) t d s (by omega) (by omega) with⟨hv,p1,z,p2⟩|⟨hv,B,p1,⟨z,p2⟩,b3,b4,b5,b6⟩
  ·simp only[p1,p2,AQ,beq_self_eq_true,Bb,Bv,AP,AU]
   rfl
  ·obtain⟨hv1,hl2,hty⟩:=I5.1 hv
   obtain⟨_,q2,q3⟩:=abA k (by omega) t d hv (fun v hv=>(hw v hv).1) [] [] (by simp) (fun _ h=>by cases h) (fun _ h=>by cases h);simp only[List.nil_append,DU,List.length_nil,Nat.zero_add] at q2;have q2:Ef k t (BX t d) 0 (d.length:Int)=some (((),(((BX t d).length:Nat):Int),true),d):=q2;have hby:∀r,Bn r→Bn (B++(BX t d++r)):=fun r hr=>b4.app (Bn.app (fun x hx=>LJ t d x hx) hr);have hlen:∀r:List Int,(B++(BX t d++r)).length=B.length+((BX t d).length+r.length):=fun r=>by simp
   obtain⟨c0,_,c2⟩:=Nj k (by omega) (BX t d) (by omega) (by omega) (LJ t d);have hhead:∀r,Bn r→r.length≤10→Dh k (t,0,0,()) (B++(BX t d++r)) 0=some (KI ((BX t d).length:Int) (d.length:Int) (B.length:Int) s (E5 (BX t d)),0):=by
    intro r hr hr2;have ht:=b6 [] (BX t d++r) (by simp;omega);simp only[List.nil_append,List.length_nil,Nat.zero_add] at ht;have ht:=aci k (by omega) (by rw[hlen];omega) (hby r hr) ht;exact aah k (by omega) t hty _ (by rw[hlen];omega) 0 _ _ _ s _ c0 (by omega) (by omega) (by omega) (by omega) (by rw[hlen];omega) ht
   have hr1:Bn [(1:Int)]:=Bn.cons (by omega) (by omega) Bn.nil;have d1:IV k t (B++(BX t d++[1])) 0=some (((),((B.length+(BX t d).length:Nat):Int),0),d):=by
    unfold IV;have ew:IntKind.wrap .i64 ((B.length:Int)+((BX t d).length:Int))=((B.length+(BX t d).length:Nat):Int):=by rw[AY (by omega) (by omega)];omega
    have hcut:=RF B (BX t d) [1];simp only[hhead [1] hr1 (by simp),AQ,show((0:Int) !=0)=false from rfl,AU,KI,show((2:Int) !=2)=false from rfl,BV,ew,EF (show(0:Int)≤(B.length:Int) by omega) (show(B.length:Int)≤((B.length+(BX t d).length:Nat):Int) by omega) (show((B.length+(BX t d).length:Nat):Int)≤((B++(BX t d++[1])).length:Int) by rw[hlen];omega),AP,hcut,IV.d8];cases s with
    |false=>
     simp only[D9,AU,q2,AQ,Bb,Bw rfl,Cu]
    |true=>
     simp only[D9,AP,c2,AQ,if_true,Bw rfl,AU,q2,Bb,Cu]
   obtain⟨r,r1,r2,_⟩:=RJ k (by omega) t (B++(BX t d++[1])) (by rw[hlen];simp;omega) (hby _ hr1) 0;rw[d1] at r2;obtain rfl:=Option.some.inj r2;have d2:Cx k (t,0,0,()) (B++(BX t d++[])) 0 []=some (((),0,1),[]):=by
    unfold Cx;simp only[hhead [] Bn.nil (by simp),AQ,show((0:Int) !=0)=false from rfl,AU,KI,show((2:Int)==2)=true from rfl,AP]
   obtain⟨r',r1',r2',_⟩:=abo k (by omega) (t,0,0,()) (B++(BX t d++[])) (by rw[hlen];simp;omega) (hby _ Bn.nil) 0 [] (by simp);rw[d2] at r2';obtain rfl:=Option.some.inj r2';rw[DU] at r1';have hlB:(B++BX t d).length=B.length+(BX t d).length:=by simp
   have happ:[]++(B++BX t d)++[1]=B++(BX t d++[1]):=by simp
   simp only[p1,p2,AQ,beq_self_eq_true,Bb,AU];rw[Bz (by omega),AP,Bz (by simp;omega),AP,happ,r1];simp only[AQ,r1',show((0:Int)==0)=true from rfl,AP,hlB,beq_self_eq_true,abY k d (by omega) (by omega),show((1:Int)==1)=true from rfl]
end Go.Bd
end
