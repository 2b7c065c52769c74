/- plain laws of the claim's functions -/
import Derived.Test.YtceehofnlhfndaaLawMFR0
import Derived.Test.YtceehofnlhfndaaMFRF0
import Derived.KernelRfl
set_option linter.unnecessarySimpa false
set_option linter.unusedSimpArgs false
set_option linter.unusedVariables false
set_option linter.unusedSectionVars false
section
namespace Go.C7
open Go.Am Go.Fn
attribute [-simp] List.length_flatten
variable(k:Nat)
theorem Ye:∀(post pre:List (List Cu)) (n:Nat) (acc:List Cu),post.length<n→pre.length+post.length<4611686018427387904→acc.length+post.flatten.length≤4294967296→
 F_.l3 k n (pre++post) ((pre++post).length:Int) (pre.length:Int) acc=some ((),acc++post.flatten):=by
 intro post
 induction post with
 |nil=>
  intro pre n acc hn hl ha;obtain⟨n,rfl⟩:∃j,n=j+1:=⟨n-1,by omega⟩;simp only[F_.l3,DY,CK (show ¬(pre.length:Int)<(pre.length:Int) by omega),CB,List.flatten_nil]
 |cons x post ih=>
  intro pre n acc hn hl ha;obtain⟨n,rfl⟩:∃j,n=j+1:=⟨n-1,by omega⟩;simp only[D9] at hn hl;simp only[List.flatten_cons,Dq] at ha;have:=ih (pre++[x]) n (acc++x) (by omega) (by simp;omega) (by simp;omega);simp only[F_.l3,CP (show(pre.length:Int)<((pre++x::post).length:Int) by simp;omega),Cx,EY,Cy];rw[Da (by omega),Cx,CO (by omega) (by omega)];simpa using this
theorem Oc(id:Int)(parts:List (List Cu))(hk:parts.length<k)(hl:parts.flatten.length<1000000)(hp:parts.length<1000000):
 F_ k id parts=some ((),(12,id,0,⟨#[]⟩,(parts.length:Int),())::parts.flatten):=by
 unfold F_;have:=Ye k parts [] k [(12,id,0,CX,(parts.length:Int),())] hk (by simp;omega) (by simp;omega);simpa using this
theorem WV:∀(post pre:List (List Cu)) (n:Nat) (acc:List Cu),post.length<n→pre.length+post.length<4611686018427387904→acc.length+post.flatten.length≤4294967296→
 Fe.l5 k n (pre++post) ((pre++post).length:Int) (pre.length:Int) acc=some ((),acc++post.flatten):=by
 intro post
 induction post with
 |nil=>
  intro pre n acc hn hl ha;obtain⟨n,rfl⟩:∃j,n=j+1:=⟨n-1,by omega⟩;simp only[Fe.l5,DY,CK (show ¬(pre.length:Int)<(pre.length:Int) by omega),CB,List.flatten_nil]
 |cons x post ih=>
  intro pre n acc hn hl ha;obtain⟨n,rfl⟩:∃j,n=j+1:=⟨n-1,by omega⟩;simp only[D9] at hn hl;simp only[List.flatten_cons,Dq] at ha;have:=ih (pre++[x]) n (acc++x) (by omega) (by simp;omega) (by simp;omega);simp only[Fe.l5,CP (show(pre.length:Int)<((pre++x::post).length:Int) by simp;omega),Cx,EY,Cy];rw[Da (by omega),Cx,CO (by omega) (by omega)];simpa using this
theorem NI(id kind:Int)(parts:List (List Cu))(hk:parts.length<k)(hl:parts.flatten.length<1000000)(hp:parts.length<1000000)(h0:parts≠[]):
 Fe k id kind parts=some ((),(9,id,kind,⟨#[]⟩,(parts.length:Int),())::parts.flatten):=by
 unfold Fe Fe.c4
 have hne:((parts.length:Int)==0)=false:=Df (by cases parts with
  |nil=>exact absurd rfl h0
  |cons=>simp;omega)
 simp only[hne,CB];have:=WV k parts [] k [(9,id,kind,CX,(parts.length:Int),())] hk (by simp;omega) (by simp;omega);simpa using this
def Ef(i:Nat)(c:Cv):List Cu:=
 (if c.2.1=7 then[] else[(5,1,c.2.1,⟨#[]⟩,0,())])++(if 0<i then[(5,3,c.2.2.1,⟨#[]⟩,0,())] else[])++[(8,4,0,c.1,0,())]++(if c.2.1=7 then[(5,5,c.2.2.2.1,⟨#[]⟩,0,())] else[])
def GN(i:Nat)(c:Cv):List Cu:=(12,0,0,⟨#[]⟩,((Ef i c).length:Int),())::Ef i c
def Dw:Nat→List Cv→List (List Cu)
 |_,[]=>[]
 |i,c::s=>GN i c::Dw (i+1) s
theorem Kb(i:Nat)(c:Cv):1≤(Ef i c).length∧(Ef i c).length≤3:=by
 unfold Ef;by_cases h:c.2.1=7<;>by_cases h0:0<i<;>simp[h,h0]
theorem JM:∀(i:Nat) (s:List Cv),(Dw i s).length=s.length
 |_,[]=>rfl
 |i,c::s=>by simp[Dw,JM (i+1) s]
theorem Ld:∀(i:Nat) (s:List Cv),(Dw i s).flatten.length≤4*s.length
 |_,[]=>by simp[Dw]
 |i,c::s=>by
  have:=Kb i c;have:=Ld (i+1) s;simp[Dw,GN];omega
theorem XT(hk:100≤k)(s:List Cv)(hs:s.length≤20):∀(post pre:List Cv) (n:Nat) (acc:List (List Cu)),s=pre++post→post.length<n→acc.length=pre.length→acc.flatten.length≤4*pre.length→s≠[]→
 D_.l3 k n s (s.length:Int) (pre.length:Int) acc=some ((),(9,2,12,⟨#[]⟩,(s.length:Int),())::(acc++Dw pre.length post).flatten):=by
 intro post
 induction post with
 |nil=>
  intro pre n acc hsp hn ha hfl hne;obtain⟨n,rfl⟩:∃j,n=j+1:=⟨n-1,by omega⟩;have hpl:pre.length=s.length:=by rw[hsp];simp
  simp only[D_.l3,CK (show ¬(pre.length:Int)<(s.length:Int) by omega),CB];rw[NI k 2 12 acc (by omega) (by omega) (by omega) (fun h=>by rw[h] at ha;simp at ha;exact hne (List.eq_nil_of_length_eq_zero (by omega)))];simp[Dw,ha,hpl]
 |cons x post ih=>
  intro pre n acc hsp hn ha hfl hne;obtain⟨n,rfl⟩:∃j,n=j+1:=⟨n-1,by omega⟩;simp only[D9] at hn;have hlen:s.length=pre.length+(post.length+1):=by rw[hsp];simp
  have hget:h_ s (pre.length:Int)=some x:=by rw[hsp];exact EY pre post x
  have hp:=Kb pre.length x;have hpi:IntKind.wrap .i64 ((pre.length:Int)+1)=((pre.length+1:Nat):Int):=by rw[CO (by omega) (by omega)];omega
  have hi:=ih (pre++[x]) n (acc++[GN pre.length x]) (by rw[hsp];simp) (by omega) (by simp;omega) (by simp[GN];omega) hne;rw[Dq,DZ] at hi
  have fin:∀parts:List (List Cu),parts.flatten=Ef pre.length x→parts.length=(Ef pre.length x).length→
   D_.c13 k (D_.l3 k n) s (s.length:Int) (pre.length:Int) acc parts=some ((),(9,2,12,⟨#[]⟩,(s.length:Int),())::(acc++Dw pre.length (x::post)).flatten):=by
   intro parts h1 h2;unfold D_.c13;rw[Oc k 0 parts (by omega) (by rw[h1];omega) (by omega)];simp only[Cy];rw[Da (by simp;omega),Cx,hpi,h1,h2];have hc:((12,0,0,CX,((Ef pre.length x).length:Int),())::Ef pre.length x:List Cu)=GN pre.length x:=rfl;rw[hc,hi];simp[Dw]
  simp only[D_.l3,CP (show(pre.length:Int)<(s.length:Int) by omega),Cx,hget,Cy];unfold Ef at fin;by_cases h7:x.2.1=7
  ·simp only[DL h7,CB,D_.c8,D_.c10,Hr,Jt,Cy,Ez h7,Cx]
   by_cases hpos:0<pre.length
   ·simp only[CP (show(pre.length:Int)>0 by omega),Cx]
    rw[Da (by simp),Cx,Da (by simp),Cx,Da (by simp),Cx];exact fin _ (by simp[h7,hpos]) (by simp[h7,hpos])
   ·simp only[CK (show ¬(pre.length:Int)>0 by omega),CB]
    rw[Da (by simp),Cx,Da (by simp),Cx];exact fin _ (by simp[h7,hpos]) (by simp[h7,hpos])
  ·simp only[EF h7,Cx,D_.c8,D_.c10,Hr,Jt,Cy,Df h7,CB]
   rw[Da (by simp),Cx];by_cases hpos:0<pre.length
   ·simp only[CP (show(pre.length:Int)>0 by omega),Cx]
    rw[Da (by simp),Cx,Da (by simp),Cx];exact fin _ (by simp[h7,hpos]) (by simp[h7,hpos])
   ·simp only[CK (show ¬(pre.length:Int)>0 by omega),CB]
    rw[Da (by simp),Cx];exact fin _ (by simp[h7,hpos]) (by simp[h7,hpos])
theorem Lc{i:Nat}{c:Cv}(hok:Ee c=true)(hn:c.1.size≤20)(hm:c.2.2.2.1≤1000):Enc 2 (GN i c):=by
 have hc:=hok;unfold Ee at hc;simp only[Dn,Bool.or_eq_true,beq_iff_eq,DN] at hc;obtain⟨hc1,hc2,hc3⟩:=hc;have hr:∀(x id:Int),-1000000000≤x→x≤1000000000→Enc 1 [((5:Int),id,x,CX,(0:Int),())]:=fun x id h0 h1=>by
  refine⟨?_,rfl⟩;unfold FQ;simp only[reduceIte,G5,decide_true,Dn,DN,beq_iff_eq,and_true];omega
 have ht:Enc 1 [((8:Int),(4:Int),(0:Int),c.1,(0:Int),())]:=by
  refine⟨?_,rfl⟩;unfold FQ;simp only[reduceIte,if_neg (show ¬((8:Int)=5) by decide),if_neg (show ¬((8:Int)=6) by decide),Dn,DN,beq_iff_eq,and_true,true_and];omega
 have hty:c.2.1≠7→0≤c.2.1∧c.2.1≤6:=fun h=>by
  rcases hc1 with h1|h1
  ·exact absurd h1.1 h
  ·have:=h1.1
   unfold Gt at this;simp only[Bool.or_eq_true,beq_iff_eq] at this;omega
 have hma:c.2.1=7→0<c.2.2.2.1:=fun h=>by
  rcases hc1 with h1|h1
  ·exact h1.2
  ·have:=h1.1;rw[h] at this;cases this
 have Lr:∀m:Int,0≤m→FQ ((12,0,0,⟨#[]⟩,m,()):Cu)=true:=fun m h=>by
  unfold FQ;simp only[if_neg (show ¬((12:Int)=5) by decide),if_neg (show ¬((12:Int)=6) by decide),if_neg (show ¬((12:Int)=8) by decide),if_neg (show ¬((12:Int)=9) by decide),reduceIte,G5,decide_true,Dn,beq_iff_eq,DN,true_and,ge_iff_le];exact h
 refine⟨Lr _ (by omega),?_⟩;show IX (Enc 1) _ ((Ef i c).length:Int).toNat 0 (Ef i c);rw[Int.toNat_natCast];unfold Ef;by_cases h7:c.2.1=7
 ·have:=hma h7
  by_cases h0:0<i
  ·simp only[if_pos h7,if_pos h0,List.nil_append]
   exact⟨_,[],_,rfl,(fun h=>by cases h),(fun _=>⟨by simp,by simp⟩),hr _ _ (by omega) (by omega),_,[],_,rfl,(fun h=>by cases h),(fun _=>⟨by simp,by simp⟩),ht,_,[],[],rfl,(fun h=>by cases h),(fun _=>⟨by simp,by simp⟩),hr _ _ (by omega) (by omega),rfl⟩
  ·simp only[if_pos h7,if_neg h0,List.nil_append]
   exact⟨_,[],_,rfl,(fun h=>by cases h),(fun _=>⟨by simp,by simp⟩),ht,_,[],[],rfl,(fun h=>by cases h),(fun _=>⟨by simp,by simp⟩),hr _ _ (by omega) (by omega),rfl⟩
 ·have:=hty h7
  by_cases h0:0<i
  ·simp only[if_neg h7,if_pos h0,DY]
   exact⟨_,[],_,rfl,(fun h=>by cases h),(fun _=>⟨by simp,by simp⟩),hr _ _ (by omega) (by omega),_,[],_,rfl,(fun h=>by cases h),(fun _=>⟨by simp,by simp⟩),hr _ _ (by omega) (by omega),_,[],[],rfl,(fun h=>by cases h),(fun _=>⟨by simp,by simp⟩),ht,rfl⟩
  ·simp only[if_neg h7,if_neg h0,DY]
   exact⟨_,[],_,rfl,(fun h=>by cases h),(fun _=>⟨by simp,by simp⟩),hr _ _ (by omega) (by omega),_,[],[],rfl,(fun h=>by cases h),(fun _=>⟨by simp,by simp⟩),ht,rfl⟩
end Go.C7
end
section
namespace Go.C7
open Go.Am Go.Fn
def Ij(B:List Int):Prop:=∀x,x∈B→0≤x∧x<256
theorem Ij.app{A B:List Int}(h:Ij A)(h':Ij B):Ij (A++B):=fun x hx=>(List.mem_append.1 hx).elim (h x) (h' x)
theorem Ij.cons{a:Int}{B:List Int}(h0:0≤a)(h1:a<256)(h':Ij B):Ij (a::B):=fun x hx=>by
 rcases List.mem_cons.1 hx with rfl|hx
 ·exact⟨h0,h1⟩
 ·exact h' x hx
theorem Ij.nil:Ij []:=fun x hx=>(List.not_mem_nil hx).elim
end Go.C7
end
section
namespace Go.C7
open Go.Am Go.Fn
variable(k:Nat)(hk:2000≤k)
end Go.C7
end
section
namespace Go.C7
open Go.Am Go.Fn
variable(k:Nat)
end Go.C7
end
section
namespace Go.C7
open Go.Am Go.Fn
variable(k:Nat)
end Go.C7
end
section
namespace Go.C7
open Go.Am Go.Fn
variable(k:Nat)
end Go.C7
end
section
namespace Go.C7
open Go.Am Go.Fn
end Go.C7
end
section
namespace Go.C7
open Go.Am Go.Fn
theorem Ot{k id num m:Int}{t:ByteArray}(h1:CY k)(h2:CY id)(h3:CY num)(h4:CY m)(h5:t.size≤1073741824):DK (k,id,num,t,m,()):=⟨h1,h2,h3,h4,h5⟩
theorem i12:CY 12:=⟨by decide,by decide⟩
variable(k:Nat)
end Go.C7
end
section
namespace Go.C7
open Go.Am Go.Fn
variable(k:Nat)
end Go.C7
end
section
namespace Go.C7
open Go.Am Go.Fn
variable(k:Nat)
end Go.C7
end
section
namespace Go.C7
open Go.Am Go.Fn
variable(k:Nat)
end Go.C7
end
section
namespace Go.C7
open Go.Am Go.Fn
variable(k:Nat)
end Go.C7
end
section
namespace Go.C7
open Go.Am Go.Fn
variable(k:Nat)
end Go.C7
end
section
namespace Go.C7
open Go.Am Go.Fn
variable(k:Nat)
end Go.C7
end
section
namespace Go.C7
open Go.Am Go.Fn
variable(k:Nat)
end Go.C7
end
section
namespace Go.C7
open Go.Am Go.Fn
attribute [-simp] List.length_flatten
def C8(id x:Int):Cu:=(5,id,x,⟨#[]⟩,0,())
def DC(id m:Int):Cu:=(12,id,0,⟨#[]⟩,m,())
inductive Parts(E:List Cu→Prop):Nat→Int→List Cu→Prop
 |nil (l:Int):Parts E 0 l []
 |cons {c:Nat} {l:Int} {p:Cu} {Y Z:List Cu} (h1:l+1≤p.2.1) (h2:p.2.1≤1000) (hE:E (p::Y)) (h:Parts E c p.2.1 Z):Parts E (c+1) l (p::Y++Z)
theorem Parts.enc{E:List Cu→Prop}{n:Cu}(hn:n.1=12):∀{c:Nat} {l:Int} {X:List Cu},Parts E c l X→IX E n c l X
 |_,_,_,.nil _=>rfl
 |_,_,_,.cons h1 h2 hE h=>⟨_,_,_,rfl,fun h9=>by omega,fun _=>⟨h1,h2⟩,hE,h.enc hn⟩
variable(k:Nat)
theorem Lx(id x:Int):Hr k id x=some (C8 id x):=rfl
theorem Ku(id x:Int):JC k id x=some (C8 id x):=rfl
theorem Yp{id x:Int}(h0:CY id)(h1:CY x):DK (C8 id x):=Ot ⟨by omega,by omega⟩ h0 h1 ⟨by omega,by omega⟩ (by decide)
theorem Yq{id m:Int}(h0:CY id)(h1:CY m):DK (DC id m):=Ot i12 h0 ⟨by omega,by omega⟩ h1 (by decide)
end Go.C7
end
section
namespace Go.C7
open Go.Am Go.Fn
attribute [-simp] List.length_flatten
def CV(id x:Int):Cu:=(6,id,x,⟨#[]⟩,0,())
def Et(id:Int)(t:ByteArray):Cu:=(8,id,0,t,0,())
def Db(id kind:Int)(Ys:List (List Cu)):List Cu:=(9,id,if Ys.length=0 then 0 else kind,⟨#[]⟩,(Ys.length:Int),())::Ys.flatten
def Fh(id:Int)(Xs:List (List Cu)):List Cu:=DC id (Xs.length:Int)::Xs.flatten
def Ho(ty:Int)(names:List ByteArray)(c:Dg):List (List Cu):=
 [[C8 1 ty],Db 2 5 (c.2.2.2.2.2.1.map fun e=>[C8 0 e]),Db 3 8 (names.map fun t=>[Et 0 t]),[C8 4 0],[CV 5 c.2.2.2.1],[CV 6 c.2.2.2.2.1],[CV 7 c.2.2.2.2.1],[CV 9 c.2.1]]++(if c.2.2.1= -1 then[] else[[CV 11 c.2.2.1]])
def DW(k:Nat)(s:List Cv)(c:Dg):List Cu:=Fh 0 [[CV 2 c.2.1],Fh 3 (Ho (DX k s c.1) (Dh k s c.1) c)]
def F7:Int→List Dg→Int
 |a,[]=>a
 |a,c::r=>F7 (IntKind.wrap .i64 (a+c.2.2.2.2.1)) r
def DF(k:Nat)(s:List Cv)(g:CU):List Cu:=Fh 0 [Db 1 12 (g.2.1.map (DW k s)),[CV 2 (F7 0 g.2.1)],[CV 3 g.1]]
def FF(k:Nat)(s:List Cv)(rows:Int)(G:List CU):List Cu:=Fh 0 [[C8 1 1],Db 2 12 (Dw 0 s),[CV 3 rows],Db 4 12 (G.map (DF k s))]
theorem I7{α:Type}(f:α→Cu):∀(xs:List α),(xs.map fun e=>[f e]).flatten.length=xs.length
 |[]=>rfl
 |x::xs=>by simp[I7 f xs]
theorem Li{α:Type}(f:α→List Cu)(b:Nat):∀(xs:List α),(∀x,x∈xs→(f x).length≤b)→(xs.map f).flatten.length≤b*xs.length
 |[],_=>by simp
 |x::xs,h=>by
  have:=Li f b xs fun y hy=>h y (List.mem_cons_of_mem _ hy);have:=h x (List.mem_cons_self ..);simp only[List.map_cons,List.flatten_cons,Dq,D9,Nat.mul_add];omega
theorem Ka(ty:Int)(names:List ByteArray)(c:Dg):(Ho ty names c).length≤9∧(Ho ty names c).flatten.length≤9+c.2.2.2.2.2.1.length+names.length:=by
 unfold Ho Db;have h1:=I7 (C8 0) c.2.2.2.2.2.1;have h2:=I7 (Et 0) names;by_cases hdd:c.2.2.1= -1
 ·rw[if_pos hdd]
  constructor
  ·simp
  ·simp[h1,h2];omega
 ·rw[if_neg hdd]
  constructor
  ·simp
  ·simp[h1,h2];omega
section
variable(k:Nat)(hk:2000000≤k)
include hk
theorem Kv(id kind:Int)(parts:List (List Cu))(hp:parts.length<1000000)(hl:parts.flatten.length<1000000):Fe k id kind parts=some ((),Db id kind parts):=by
 cases parts with
 |nil=>
  obtain⟨k,rfl⟩:∃j,k=j+1:=⟨k-1,by omega⟩;rfl
 |cons x r=>
  rw[NI k id kind (x::r) (by omega) hl hp (by simp)];simp[Db]
theorem KO(id:Int)(parts:List (List Cu))(hp:parts.length<1000000)(hl:parts.flatten.length<1000000):F_ k id parts=some ((),Fh id parts):=
 Oc k id parts (by omega) hl hp
theorem OW(s:List Cv)(c:Dg)(E:List Int)(hE:E.length≤1000):∀(post pre:List Int) (f:Nat) (acc:List (List Cu)),E=pre++post→post.length<f→acc.length=pre.length→
 Er.l3 k f s E (E.length:Int) (pre.length:Int) c acc=(FK k s c.1).bind fun r=>Er.l9 k k s (r.2.length:Int) 0 c (acc++post.map fun e=>[C8 0 e]) [] r.2:=by
 intro post
 induction post with
 |nil=>
  intro pre f acc h' hf ha;obtain⟨f,rfl⟩:∃q,f=q+1:=⟨f-1,by omega⟩;have hlen:E.length=pre.length:=by rw[h'];simp
  simp only[Er.l3,CK (show ¬((pre.length:Int)<(E.length:Int)) by omega),CB,List.map_nil,DY]
 |cons x post ih=>
  intro pre f acc h' hf ha;simp only[D9] at hf;obtain⟨f,rfl⟩:∃q,f=q+1:=⟨f-1,by omega⟩;have hlen:E.length=pre.length+(post.length+1):=by rw[h'];simp
  have hg:h_ E (pre.length:Int)=some x:=by rw[h'];exact EY _ _ _
  have hi1:IntKind.wrap .i64 ((pre.length:Int)+1)=((pre.length+1:Nat):Int):=by rw[CO (by omega) (by omega)];omega
  have:=ih (pre++[x]) f (acc++[[C8 0 x]]) (by rw[h'];simp) (by omega) (by simp;omega);rw[Dq,DZ] at this;simp only[Er.l3,CP (show((pre.length:Int)<(E.length:Int)) by omega),Cx,hg,Cy,Lx,hi1];rw[Da (by simp;omega),Cx,this];simp only[GA,List.map_cons,List.singleton_append]
theorem OX(s:List Cv)(c:Dg)(A:List (List Cu))(N:List ByteArray)(hN:N.length≤1000):∀(post pre:List ByteArray) (f:Nat) (acc:List (List Cu)),N=pre++post→post.length<f→acc.length=pre.length→
 Er.l9 k f s (N.length:Int) (pre.length:Int) c A acc N=(I_ k s c.1).bind fun r=>Er.d14 k c A (acc++post.map fun t=>[Et 0 t]) r.1:=by
 intro post
 induction post with
 |nil=>
  intro pre f acc h' hf ha;obtain⟨f,rfl⟩:∃q,f=q+1:=⟨f-1,by omega⟩;have hlen:N.length=pre.length:=by rw[h'];simp
  simp only[Er.l9,CK (show ¬((pre.length:Int)<(N.length:Int)) by omega),CB,List.map_nil,DY]
 |cons x post ih=>
  intro pre f acc h' hf ha;simp only[D9] at hf;obtain⟨f,rfl⟩:∃q,f=q+1:=⟨f-1,by omega⟩;have hlen:N.length=pre.length+(post.length+1):=by rw[h'];simp
  have hg:h_ N (pre.length:Int)=some x:=by rw[h'];exact EY _ _ _
  have hi1:IntKind.wrap .i64 ((pre.length:Int)+1)=((pre.length+1:Nat):Int):=by rw[CO (by omega) (by omega)];omega
  have ht:Jt k 0 x=some (Et 0 x):=rfl;have:=ih (pre++[x]) f (acc++[[Et 0 x]]) (by rw[h'];simp) (by omega) (by simp;omega);rw[Dq,DZ] at this;simp only[Er.l9,CP (show((pre.length:Int)<(N.length:Int)) by omega),Cx,hg,Cy,ht,hi1];rw[Da (by simp;omega),Cx,this];simp only[GA,List.map_cons,List.singleton_append]
variable(s:List Cv)(hn:∀c,c∈s→c.1.size<k∧c.1.size<1000000000∧CY c.2.2.2.1)(hS:Fj s)(hok:EB k s=some true)(hok2:EZ k s=some true)
include hn hS hok hok2
theorem OP(c:Dg)(he:c.2.2.2.2.2.1.length≤5)(hd: -1≤c.2.2.1):Er k s c=some ((),DW k s c):=by
 obtain⟨n2,n3⟩:FK k s c.1=some ((),Dh k s c.1)∧(Dh k s c.1).length≤20:=by
  obtain⟨N,e1,e2,e3⟩:=path_eq k s hn hk hS hok hok2 c.1;have:Dh k s c.1=N:=by unfold Dh;rw[e1];rfl
  rw[this];exact⟨e2,e3⟩
 obtain⟨lf,lb,l1,l2⟩:∃lf lb,IL k s c.1=some (lf,lb)∧I_ k s c.1=some (lf,lb):=by
  obtain⟨lf,lb,e1,e2,_⟩:=JR k s hn hk hS hok hok2 c.1;exact⟨lf,lb,e1,e2⟩
 have hty:DX k s c.1=lf.1:=by unfold DX;rw[l1];rfl
 unfold Er;have h3:=OW k hk s c c.2.2.2.2.2.1 (by omega) c.2.2.2.2.2.1 [] k [] rfl (by omega) rfl;have h9:=OX k hk s c (c.2.2.2.2.2.1.map fun e=>[C8 0 e]) (Dh k s c.1) (by omega) (Dh k s c.1) [] k [] rfl (by omega) rfl;rw[List.length_nil,show((0:Nat):Int)=0 from rfl] at h3 h9;rw[h3,n2];simp only[Cy,List.nil_append] at h9⊢;rw[h9,l2];simp only[Cy];have f1:=I7 (C8 0) c.2.2.2.2.2.1;have f2:=I7 (Et 0) (Dh k s c.1);obtain⟨p1,p2⟩:=Ka (DX k s c.1) (Dh k s c.1) c;have hl:∀id x,GU k id x=some (CV id x):=fun _ _=>rfl;have fin:Er.c17 k c (Ho (DX k s c.1) (Dh k s c.1) c)=some ((),DW k s c):=by
  unfold Er.c17;simp only[hl,Cy];rw[KO k hk 3 _ (by omega) (by omega)];simp only[Cy];rw[KO k hk 0 _ (by simp) (by simp[Fh];omega)];rfl
 unfold Er.d14;simp only[Lx,hl,Cy];rw[Kv k hk 2 5 _ (by simp;omega) (by omega)];simp only[Cy];rw[Kv k hk 3 8 _ (by simp;omega) (by omega)];simp only[Cy];rw[←fin];unfold Ho;rw[hty];by_cases hdd:c.2.2.1= -1
 ·rw[DL hdd,CB,if_pos hdd,DY]
 ·rw[EF hdd,Cx,if_neg hdd,Da (by simp),Cx]
theorem MU(c:Dg)(he:c.2.2.2.2.2.1.length≤5):(DW k s c).length≤40:=by
 obtain⟨N,e1,e2,e3⟩:=path_eq k s hn hk hS hok hok2 c.1;have hN:Dh k s c.1=N:=by unfold Dh;rw[e1];rfl
 obtain⟨p1,p2⟩:=Ka (DX k s c.1) (Dh k s c.1) c;rw[hN] at p1 p2;simp[DW,Fh,hN];omega
theorem Xm(L5:List CU→Int→Int→DJ→List (List Cu)→Option ((Unit×Bool)×List Cu))(m:DJ)(hm:m.1=s)(t17:List CU)(t18 t19:Int)(Cw:List (List Cu))(g:CU)(C:List Dg)(hC:C.length≤1000)(hc:∀c,c∈C→c.2.2.2.2.2.1.length≤5∧-1≤c.2.2.1):
 ∀(post pre:List Dg) (f:Nat) (t8:Int) (acc:List (List Cu)),C=pre++post→post.length<f→acc.length=pre.length→
 Eo.l10 k L5 f t8 t17 t18 t19 C (C.length:Int) (pre.length:Int) m Cw g acc=Eo.d15 k L5 (F7 t8 post) t17 t18 t19 m Cw g (acc++post.map (DW k s)):=by
 intro post
 induction post with
 |nil=>
  intro pre f t8 acc h' hf ha;obtain⟨f,rfl⟩:∃q,f=q+1:=⟨f-1,by omega⟩;have hlen:C.length=pre.length:=by rw[h'];simp
  simp only[Eo.l10,CK (show ¬((pre.length:Int)<(C.length:Int)) by omega),CB,List.map_nil,DY,F7]
 |cons x post ih=>
  intro pre f t8 acc h' hf ha;simp only[D9] at hf;obtain⟨f,rfl⟩:∃q,f=q+1:=⟨f-1,by omega⟩;have hlen:C.length=pre.length+(post.length+1):=by rw[h'];simp
  have hg:h_ C (pre.length:Int)=some x:=by rw[h'];exact EY _ _ _
  have hi1:IntKind.wrap .i64 ((pre.length:Int)+1)=((pre.length+1:Nat):Int):=by rw[CO (by omega) (by omega)];omega
  obtain⟨c1,c2⟩:=hc x (by rw[h'];simp);have hx:=OP k hk s hn hS hok hok2 x c1 c2;have:=ih (pre++[x]) f (IntKind.wrap .i64 (t8+x.2.2.2.2.1)) (acc++[DW k s x]) (by rw[h'];simp) (by omega) (by simp;omega);rw[Dq,DZ] at this;simp only[Eo.l10,CP (show((pre.length:Int)<(C.length:Int)) by omega),Cx,hg,Cy,hm,hx,hi1];rw[Da (by simp;omega),Cx,this];simp only[GA,List.map_cons,List.singleton_append,F7]
theorem Lj(g:CU)(hC:g.2.1.length≤20)(hc:∀c,c∈g.2.1→c.2.2.2.2.2.1.length≤5):(DF k s g).length≤900∧(g.2.1.map (DW k s)).flatten.length≤800:=by
 have:=Li (DW k s) 40 g.2.1 fun c hc'=>MU k hk s hn hS hok hok2 c (hc c hc');constructor
 ·simp[DF,Fh,Db];omega
 ·omega
theorem Xn(m:DJ)(hm:m.1=s)(G:List CU)(hG:G.length≤1000)(hc:∀g,g∈G→g.2.1.length≤20∧∀c,c∈g.2.1→c.2.2.2.2.2.1.length≤5∧-1≤c.2.2.1):
 ∀(post pre:List CU) (f:Nat) (acc:List (List Cu)),G=pre++post→post.length<f→acc.length=pre.length→
 Eo.l5 k f G (G.length:Int) (pre.length:Int) m acc=Eo.d17 k m (acc++post.map (DF k s)):=by
 intro post
 induction post with
 |nil=>
  intro pre f acc h' hf ha;obtain⟨f,rfl⟩:∃q,f=q+1:=⟨f-1,by omega⟩;have hlen:G.length=pre.length:=by rw[h'];simp
  simp only[Eo.l5,CK (show ¬((pre.length:Int)<(G.length:Int)) by omega),CB,List.map_nil,DY]
 |cons x post ih=>
  intro pre f acc h' hf ha;simp only[D9] at hf;obtain⟨f,rfl⟩:∃q,f=q+1:=⟨f-1,by omega⟩;have hlen:G.length=pre.length+(post.length+1):=by rw[h'];simp
  have hg:h_ G (pre.length:Int)=some x:=by rw[h'];exact EY _ _ _
  have hi1:IntKind.wrap .i64 ((pre.length:Int)+1)=((pre.length+1:Nat):Int):=by rw[CO (by omega) (by omega)];omega
  obtain⟨c1,c2⟩:=hc x (by rw[h'];simp);obtain⟨q1,q2⟩:=Lj k hk s hn hS hok hok2 x c1 fun c hc'=>(c2 c hc').1;have h10:=Xm k hk s hn hS hok hok2 (Eo.l5 k f) m hm G (G.length:Int) (pre.length:Int) acc x x.2.1 (by omega) c2 x.2.1 [] k 0 [] rfl (by omega) rfl;rw[List.length_nil,show((0:Nat):Int)=0 from rfl,List.nil_append] at h10;have hl:∀id x,GU k id x=some (CV id x):=fun _ _=>rfl;have:=ih (pre++[x]) f (acc++[DF k s x]) (by rw[h'];simp) (by omega) (by simp;omega);rw[Dq,DZ] at this;simp only[Eo.l5,CP (show((pre.length:Int)<(G.length:Int)) by omega),Cx,hg,Cy,h10];unfold Eo.d15;rw[Kv k hk 1 12 _ (by simp;omega) (by omega)];simp only[hl,Cy];rw[KO k hk 0 _ (by simp) (by simp[Db];omega)];simp only[Cy,hi1];rw[Da (by simp;omega),Cx];have e:Fh 0 [Db 1 12 (x.2.1.map (DW k s)),[CV 2 (F7 0 x.2.1)],[CV 3 x.1]]=DF k s x:=rfl;rw[e,this];simp only[GA,List.map_cons,List.singleton_append]
theorem LG(rows:Int)(G:List CU)(hG:G.length≤40)(hc:∀g,g∈G→g.2.1.length≤20∧∀c,c∈g.2.1→c.2.2.2.2.2.1.length≤5):(FF k s rows G).length≤40000∧(G.map (DF k s)).flatten.length≤36000∧(Db 2 12 (Dw 0 s)).length≤81:=by
 have h1:=Li (DF k s) 900 G fun g hg=>(Lj k hk s hn hS hok hok2 g (hc g hg).1 (hc g hg).2).1;have h2:=Ld 0 s;have h20:=hS.2.1;refine⟨?_,by omega,?_⟩
 ·simp[FF,Fh,Db];omega
 ·simp[Db];omega
theorem Xj(rows:Int)(G:List CU)(hG:G.length≤40)(hc:∀g,g∈G→g.2.1.length≤20∧∀c,c∈g.2.1→c.2.2.2.2.2.1.length≤5∧-1≤c.2.2.1)(hm:Eg k (s,rows,G,())=some true):
 Eo k (s,rows,G,())=(Ja k (FF k s rows G)).bind fun b=>cond (!b) (some (((),false),[])) (some (((),true),FF k s rows G)):=by
 obtain⟨q1,q2,q3⟩:=LG k hk s hn hS hok hok2 rows G hG fun g hg=>⟨(hc g hg).1,fun c hc'=>((hc g hg).2 c hc').1⟩;unfold Eo;simp only[hm,Cy,C9,CB];have h5:=Xn k hk s hn hS hok hok2 (s,rows,G,()) rfl G (by omega) hc G [] k [] rfl (by omega) rfl;rw[List.length_nil,show((0:Nat):Int)=0 from rfl,List.nil_append] at h5;rw[h5];obtain⟨h2,h20,_⟩:=hS;have hne:s≠[]:=fun e=>by rw[e] at h2;simp at h2
 have hsn:=XT k (by omega) s h20 s [] k [] rfl (by omega) rfl (by simp) hne;rw[show((([]:List Cv).length:Nat):Int)=0 from rfl,List.nil_append] at hsn;have Wo:D_ k s=some ((),Db 2 12 (Dw 0 s)):=by
  unfold D_;rw[hsn];have hl:=JM 0 s;unfold Db;rw[hl,if_neg (by omega)];rfl
 have hl:∀id x,GU k id x=some (CV id x):=fun _ _=>rfl;unfold Eo.d17;simp only[Lx,Wo,hl,Cy];rw[Kv k hk 4 12 _ (by simp;omega) (by omega)];simp only[Cy];rw[KO k hk 0 _ (by simp) (by simp;simp[Db] at q3⊢;omega)];rfl
end
end Go.C7
end
section
namespace Go.C7
open Go.Am Go.Fn
attribute [-simp] List.length_flatten
variable(k:Nat)
theorem ME{l:List Cu}{af:List Int}:∀(d d' a b:Nat) (B pre post:List Cu),Sub l af d a b→l=pre++(B++post)→a=pre.length→Enc d' B→b=a+B.length
 |0,_,_,_,_,_,_,h,_,_,_=>h.elim
 |_+1,0,_,_,_,_,_,_,_,_,h=>h.elim
 |_+1,_+1,_,_,[],_,_,_,_,_,h=>h.elim
 |d+1,d'+1,a,b,m::X,pre,post,⟨n,h1,h2,h3,h4⟩,hl,ha,⟨e1,e2⟩=>by
  have hnm:n=m:=by
   rw[hl,ha,List.getElem?_append_right (Nat.le_refl _)] at h1;simpa using h1.symm
  subst hnm;have key:∀(c pos:Nat) (last last':Int) (X pre post:List Cu) (nx:Nat),F8 (Sub l af d) l n c pos last nx→IX (Enc d') n c last' X→l=pre++(X++post)→pos=pre.length→nx=pos+X.length:=by
   intro c
   induction c with
   |zero=>intro pos last last' X pre post nx hp hx _ _;have hp:pos=nx:=hp;have hx:X=[]:=hx;subst hx;simp[hp]
   |succ c ih=>
    intro pos last last' X pre post nx ⟨p,mid,_,_,_,p4,p5⟩ ⟨p',Y,Z,e,_,_,x3,x4⟩ hl' hpos;subst e;have hm:=ME d d' pos mid (p'::Y) pre (Z++post) p4 (by rw[hl'];simp) hpos x3;have:=ih mid _ _ Z (pre++(p'::Y)) post nx p5 x4 (by rw[hl'];simp) (by rw[hm,hpos];simp);rw[this,hm,Dq];omega
  have:=key _ (a+1) 0 0 X (pre++[n]) post b h3 e2 (by rw[hl];simp) (by simp[ha]);simp only[D9];omega
variable{l:List Cu}{af:List Int}
theorem MN(hk:2000≤k)(h:Ey l af){d:Nat}{pre B post:List Cu}(hl:l=pre++(B++post))(hB:Enc d B):EC k l (pre.length:Int)=some ((pre.length+B.length:Nat):Int):=by
 have hne:0<B.length:=by
  cases B with
  |nil=>cases d<;>exact hB.elim
  |cons=>simp
 obtain⟨d',nx,hd,hs,hn⟩:=h.at (i:=pre.length) (by rw[hl];simp;omega);have:=ME d' d pre.length nx B pre post hs hl rfl hB;subst this;exact h.after k hk hd hs hn
def look(id:Int):List Cu→Option Cu
 |[]=>none
 |p::r=>if p.2.1=id then some p else look id r
theorem VL(hk:2000≤k)(h:Ey l af){n:Cu}{pre post:List Cu}(id:Int):∀(rest done:List Cu) (f:Nat),(∀p,p∈rest→Enc 1 [p])→l=pre++n::(done++(rest++post))→n.2.2.2.2.1=((done.length+rest.length:Nat):Int)→rest.length<f→
 ∃v,DT.l5 k f l (pre.length:Int) id ((pre.length+1+done.length:Nat):Int) (done.length:Int)=some v∧(look id rest=none→v= -1)∧(∀p,look id rest=some p→0≤v∧h_ l v=some p):=by
 intro rest;have hlen:=h.len
 induction rest with
 |nil=>
  intro done f hp hl hm hf;obtain⟨f,rfl⟩:∃j,f=j+1:=⟨f-1,by omega⟩;have hg:h_ l (pre.length:Int)=some n:=by rw[hl];exact EY _ _ _
  simp only[List.length_nil,Nat.add_zero] at hm;simp only[DT.l5,hg,Cy,hm,CK (show ¬((done.length:Int)<(done.length:Int)) by omega),CB];exact⟨_,rfl,fun _=>rfl,fun p hp=>by cases hp⟩
 |cons x rest ih=>
  intro done f hp hl hm hf;simp only[D9] at hm hf;obtain⟨f,rfl⟩:∃j,f=j+1:=⟨f-1,by omega⟩;have hg:h_ l (pre.length:Int)=some n:=by rw[hl];exact EY _ _ _
  have hlen':l.length=pre.length+1+done.length+(rest.length+1)+post.length:=by rw[hl];simp;omega
  have hl2:l=(pre++n::done)++x::(rest++post):=by rw[hl];simp
  have hpl:(pre++n::done).length=pre.length+1+done.length:=by simp;omega
  have hx:h_ l ((pre.length+1+done.length:Nat):Int)=some x:=by
   rw[←hpl]
   conv=>lhs;rw[hl2]
   exact EY _ _ _
  simp only[DT.l5,hg,Cy,hm,CP (show((done.length:Int)<((done.length+(rest.length+1):Nat):Int)) by omega),Cx,hx];by_cases hid:x.2.1=id
  ·simp only[Ez hid,Cx]
   refine⟨_,rfl,fun hn=> ?_,fun p hp=> ?_⟩
   ·simp[look,hid] at hn
   ·simp only[look,hid,if_true,HZ] at hp
    subst hp;exact⟨by omega,hx⟩
  ·have ha:=MN k hk h (pre:=pre++n::done) (B:=[x]) (post:=rest++post) hl2 (hp x (List.mem_cons_self ..))
   rw[hpl] at ha;obtain⟨v,g1,g2,g3⟩:=ih (done++[x]) f (fun p hp'=>hp p (List.mem_cons_of_mem _ hp')) (by rw[hl];simp) (by rw[hm,Dq,DZ];omega) (by omega);rw[Dq,DZ] at g1;simp only[Df hid,CB,ha,Cy,DZ];rw[CO (by omega) (by omega)];refine⟨v,?_,?_,?_⟩
   ·rw[←g1]
    congr 1
   ·simpa[look,hid] using g2
   ·simpa[look,hid] using g3
section
variable{n:Cu}{pre post parts:List Cu}
theorem Np(hk:2000≤k)(h:Ey l af)(id:Int)(hp:∀p,p∈parts→Enc 1 [p])(hl:l=pre++n::(parts++post))(hm:n.2.2.2.2.1=(parts.length:Int))(hn:n.1=12):
 ∃v,DT k l (pre.length:Int) id=some v∧(look id parts=none→v= -1)∧(∀p,look id parts=some p→0≤v∧h_ l v=some p):=by
 have hlen:=h.len;have hlen':l.length=pre.length+1+parts.length+post.length:=by rw[hl];simp;omega
 have hg:h_ l (pre.length:Int)=some n:=by rw[hl];exact EY _ _ _
 obtain⟨v,g1,g2,g3⟩:=VL k hk h id parts [] k hp (by simpa using hl) (by simpa using hm) (by omega);refine⟨v,?_,g2,g3⟩;unfold DT;simp only[hg,Cy,DL hn,CB];rw[CO (by omega) (by omega),←g1]
 congr 1
theorem Xr(hk:2000≤k)(h:Ey l af)(id:Int)(hp:∀p,p∈parts→Enc 1 [p])(hl:l=pre++n::(parts++post))(hm:n.2.2.2.2.1=(parts.length:Int))(hn:n.1=12):
 (look id parts=none→FW k l (pre.length:Int) id=some (0,false)∧DT k l (pre.length:Int) id=some (-1))∧
 (∀p,look id parts=some p→p.1=5→FW k l (pre.length:Int) id=some (p.2.2.1,true)):=by
 obtain⟨v,g1,g2,g3⟩:=Np k hk h id hp hl hm hn;constructor
 ·intro hno
  have:=g2 hno;subst this;refine⟨?_,g1⟩;unfold FW;simp only[g1,Cy,CP (show(-1:Int)<0 by omega),Cx]
 ·intro p hp Ls
  obtain⟨q1,q2⟩:=g3 p hp;unfold FW;simp only[g1,Cy,CK (show ¬v<0 by omega),CB,q2,DL Ls]
theorem Yi(hk:2000≤k)(h:Ey l af)(id:Int)(hp:∀p,p∈parts→Enc 1 [p])(hl:l=pre++n::(parts++post))(hm:n.2.2.2.2.1=(parts.length:Int))(hn:n.1=12):
 ∀p,look id parts=some p→p.1=8→JD k l (pre.length:Int) id=some (p.2.2.2.1,true):=by
 obtain⟨v,g1,g2,g3⟩:=Np k hk h id hp hl hm hn;intro p hp Ls;obtain⟨q1,q2⟩:=g3 p hp;unfold JD;simp only[g1,Cy,CK (show ¬v<0 by omega),CB,q2,DL Ls]
end
theorem Mm{n:Cu}:∀(c:Nat) (last:Int) (X:List Cu),n.1=12→(∀p,p∈X→(p.1=5∨p.1=8))→IX (Enc 1) n c last X→∀p,p∈X→Enc 1 [p]
 |0,_,X,_,_,h=>by have h:X=[]:=h;subst h;intro p hp;cases hp
 |c+1,last,X,hn,hk,⟨p,Y,Z,e,h1,h2,h3,h4⟩=>by
  subst e;have hY:Y=[]:=by
   obtain⟨a,b⟩:=h3;have hm:p.2.2.2.2.1=0:=by
    have:=hk p (by simp);unfold FQ at a;rcases this with h5|h5<;>simp only[h5,if_neg (show ¬((8:Int)=5) by decide),if_neg (show ¬((8:Int)=6) by decide),reduceIte,Dn,beq_iff_eq] at a
    ·exact a.2
    ·exact a.2
   rw[hm] at b;exact b
  subst hY;intro q hq;rcases List.mem_append.1 hq with hq|hq
  ·simp at hq;subst hq;exact h3
  ·exact Mm c _ Z hn (fun p hp=>hk p (by simp[hp])) h4 q hq
theorem O5{i:Nat}{c:Cv}(hok:Ee c=true)(hn:c.1.size≤20)(hm:c.2.2.2.1≤1000):∀p,p∈Ef i c→Enc 1 [p]:=by
 have h:=(Lc (i:=i) hok hn hm).2;refine Mm _ _ _ rfl ?_ h;intro p hp;unfold Ef at hp;by_cases h7:c.2.1=7<;>by_cases h0:0<i<;>simp[h7,h0] at hp<;>rcases hp with rfl|hp<;>(try (rcases hp with rfl|hp))<;>(try subst hp)<;>simp
theorem O6(hk:2000≤k)(h:Ey l af){i:Nat}{c:Cv}{pre post:List Cu}(hl:l=pre++(GN i c++post))(hok:Ee c=true)(hn:c.1.size≤20)(hm:c.2.2.2.1≤1000)(hroot:i=0→c.2.2.1=0):
 ET k l (pre.length:Int) ((i:Int)==0)=some (c,true):=by
 have hp:=O5 (i:=i) hok hn hm;have hl':l=pre++(12,0,0,⟨#[]⟩,((Ef i c).length:Int),())::(Ef i c++post):=by rw[hl];rfl
 have N:=fun id=>Xr k hk h id hp hl' rfl rfl;have T:=Yi k hk h 4 hp hl' rfl rfl;obtain⟨nm,ty,rp,mn,u⟩:=c;obtain rfl:u=():=rfl;have hc:=hok;unfold Ee at hc;simp only[Dn,Bool.or_eq_true,beq_iff_eq,DN] at hc hn hm hroot;unfold ET;by_cases h7:ty=7
 ·subst h7
  by_cases h0:0<i
  ·have L:Ef i (nm,7,rp,mn,())=[(5,3,rp,⟨#[]⟩,0,()),(8,4,0,nm,0,()),(5,5,mn,⟨#[]⟩,0,())]:=by simp[Ef,h0]
   rw[L] at N T;have n1:=(N 1).1 rfl;have n3:=(N 3).2 _ rfl rfl;have n5:=(N 5).2 _ rfl rfl;have t4:=T _ rfl rfl;simp only[n1,n3,n5,t4,Cy,Df (show ¬((i:Int)=0) by omega),CB,ET.c9,ET.c12,Dt,C9,Cx,CP (show(-1:Int)<0 by omega),beq_self_eq_true];rfl
  ·obtain rfl:i=0:=by omega
   have L:Ef 0 (nm,7,rp,mn,())=[(8,4,0,nm,0,()),(5,5,mn,⟨#[]⟩,0,())]:=by simp[Ef]
   rw[L] at N T;have n1:=(N 1).1 rfl;have n3:=(N 3).1 rfl;have n5:=(N 5).2 _ rfl rfl;have t4:=T _ rfl rfl;have hr:rp=0:=hroot rfl;subst hr;simp only[n1,n3,n5,t4,Cy,Ez (show((0:Nat):Int)=0 from rfl),CB,ET.c9,ET.c12,Dt,C9,Cx,CP (show(-1:Int)<0 by omega),beq_self_eq_true];rfl
 ·have hmn:mn=0:=by
   rcases hc.1 with h1|h1
   ·exact absurd h1.1 h7
   ·exact h1.2
  subst hmn;by_cases h0:0<i
  ·have L:Ef i (nm,ty,rp,0,())=[(5,1,ty,⟨#[]⟩,0,()),(5,3,rp,⟨#[]⟩,0,()),(8,4,0,nm,0,())]:=by simp[Ef,h0,h7]
   rw[L] at N T;have n1:=(N 1).2 _ rfl rfl;have n3:=(N 3).2 _ rfl rfl;have n5:=(N 5).1 rfl;have t4:=T _ rfl rfl;simp only[n1,n3,n5,t4,Cy,Df (show ¬((i:Int)=0) by omega),CB,ET.c9,ET.c12,Dt,C9,Cx,CP (show(-1:Int)<0 by omega),beq_self_eq_true];rfl
  ·obtain rfl:i=0:=by omega
   have L:Ef 0 (nm,ty,rp,0,())=[(5,1,ty,⟨#[]⟩,0,()),(8,4,0,nm,0,())]:=by simp[Ef,h7]
   rw[L] at N T;have n1:=(N 1).2 _ rfl rfl;have n3:=(N 3).1 rfl;have n5:=(N 5).1 rfl;have t4:=T _ rfl rfl;have hr:rp=0:=hroot rfl;subst hr;simp only[n1,n3,n5,t4,Cy,Ez (show((0:Nat):Int)=0 from rfl),CB,ET.c9,ET.c12,Dt,C9,Cx,CP (show(-1:Int)<0 by omega),beq_self_eq_true];rfl
end Go.C7
end
section
namespace Go.C7
open Go.Am Go.Fn
attribute [-simp] List.length_flatten
variable(k:Nat)
theorem K5{s:List Cv}:∀(d a b:Nat),EE s d a b→∀i,a≤i→i<b→∃c,s[i]?=some c∧i+c.2.2.2.1.toNat<b
 |0,_,_,h=>h.elim
 |d+1,a,b,⟨c,h1,h2,h3,h4⟩=>by
  have key:∀(n pos:Nat) (names:List ByteArray) (nx:Nat),GJ (EE s d) s n pos names nx→∀i,pos≤i→i<nx→∃c,s[i]?=some c∧i+c.2.2.2.1.toNat<nx:=by
   intro n
   induction n with
   |zero=>intro pos names nx e i hi1 hi2;have e:pos=nx:=e;omega
   |succ n ih=>
    intro pos names nx ⟨p,mid,_,_,hs,hp⟩ i hi1 hi2;have hle:=I1 (Gw d) _ _ _ _ hp;rcases Nat.lt_or_ge i mid with h|h
    ·obtain⟨c,g1,g2⟩:=K5 d pos mid hs i hi1 h
     exact⟨c,g1,by omega⟩
    ·exact ih mid _ nx hp i h hi2
  intro i hi1 hi2;rcases Nat.lt_or_ge a i with h|h
  ·exact key _ _ _ _ h4 i (by omega) hi2
  ·obtain rfl:i=a:=by omega
   have hle:=I1 (Gw d) _ _ _ _ h4;exact⟨c,h1,by omega⟩
theorem KG{s:List Cv}(h:Fj s):∀c,c∈s→Ee c=true∧c.1.size≤20∧c.2.2.2.1≤1000:=by
 intro c hc;obtain⟨h2,h20,hS,c0,e0,e1,e2,e3⟩:=h;obtain⟨i,hi,rfl⟩:=List.mem_iff_getElem.1 hc;obtain⟨c1,g1,g2,g3⟩:=J6 6 0 s.length hS i (Nat.zero_le _) hi;obtain⟨c2,k1,k2⟩:=K5 6 0 s.length hS i (Nat.zero_le _) hi;rw[Es hi] at g1 k1;obtain rfl:=Option.some.inj g1;obtain rfl:=Option.some.inj k1;refine⟨g2,?_,by omega⟩;rcases Nat.eq_zero_or_pos i with h0|h0
 ·subst h0
  rw[Es hi] at e0;rw[Option.some.inj e0,e1];decide
 ·have:=g3 h0
  unfold Hz at this;simp only[Dn,DN] at this;omega
theorem IU{t i n m:Int}{s:ByteArray}(h1:CY t)(h2:CY i)(h3:CY n)(h4:CY m)(h5:s.size≤1073741824):DK (t,i,n,s,m,()):=⟨h1,h2,h3,h4,h5⟩
theorem Fb{x:Int}(h0: -1000000000≤x)(h1:x≤1000000000):CY x:=⟨by omega,by omega⟩
theorem O4{i:Nat}{c:Cv}(h:Ee c=true∧c.1.size≤20∧c.2.2.2.1≤1000):∀n,n∈GN i c→DK n:=by
 obtain⟨hc,hn,hm⟩:=h;unfold Ee at hc;simp only[Dn,Bool.or_eq_true,beq_iff_eq,DN] at hc;obtain⟨hc1,hc2,hc3⟩:=hc;have e0:CX.size≤1073741824:=by decide
 have hl:=Kb i c;have ht:0≤c.2.1∧c.2.1≤7:=by
  rcases hc1 with h1|h1
  ·omega
  ·have:=h1.1
   unfold Gt at this;simp only[Bool.or_eq_true,beq_iff_eq] at this;omega
 have hmm:0≤c.2.2.2.1:=by rcases hc1 with h1|h1<;>omega
 intro n hn';rcases List.mem_cons.1 hn' with rfl|hn'
 ·exact IU (Fb (by omega) (by omega)) (Fb (by omega) (by omega)) (Fb (by omega) (by omega)) (Fb (by omega) (by omega)) e0
 ·have w1:DK (5,1,c.2.1,CX,0,()):=IU (Fb (by omega) (by omega)) (Fb (by omega) (by omega)) (Fb (by omega) (by omega)) (Fb (by omega) (by omega)) e0
  have w3:DK (5,3,c.2.2.1,CX,0,()):=IU (Fb (by omega) (by omega)) (Fb (by omega) (by omega)) (Fb (by omega) (by omega)) (Fb (by omega) (by omega)) e0;have w4:DK (8,4,0,c.1,0,()):=IU (Fb (by omega) (by omega)) (Fb (by omega) (by omega)) (Fb (by omega) (by omega)) (Fb (by omega) (by omega)) (by omega);have w5:DK (5,5,c.2.2.2.1,CX,0,()):=IU (Fb (by omega) (by omega)) (Fb (by omega) (by omega)) (Fb (by omega) (by omega)) (Fb (by omega) (by omega)) e0;unfold Ef at hn';simp only[List.mem_append] at hn';rcases hn' with((h|h)|h)|h
  ·split at h
   ·cases h
   ·simp at h;subst h;exact w1
  ·split at h
   ·simp at h;subst h;exact w3
   ·cases h
  ·simp at h;subst h;exact w4
  ·split at h
   ·simp at h;subst h;exact w5
   ·cases h
theorem O7:∀(r:List Cv) (i:Nat),(∀c,c∈r→Ee c=true∧c.1.size≤20∧c.2.2.2.1≤1000)→∀n,n∈(Dw i r).flatten→DK n:=by
 intro r
 induction r with
 |nil=>intro i _ n hn;simp[Dw] at hn
 |cons c r ih=>
  intro i hr n hn;simp only[Dw,List.flatten_cons,List.mem_append] at hn;rcases hn with hn|hn
  ·exact O4 (hr c (List.mem_cons_self ..)) n hn
  ·exact ih (i+1) (fun c hc=>hr c (List.mem_cons_of_mem _ hc)) n hn
end Go.C7
end
section
namespace Go.C7
open Go.Am Go.Fn
attribute [-simp] List.length_flatten
theorem NH:∀(i:Nat) (s:List Cv),(∃c,c∈s∧c.2.1≠7)→1≤(Dk i s).length
 |_,[],⟨c,hc,_⟩=>by cases hc
 |i,c::r,⟨d,hd,h7⟩=>by
  simp only[Dk];split
  ·rename_i V6
   refine NH (i+1) r ⟨d,?_,h7⟩;rcases List.mem_cons.1 hd with rfl|hd
   ·exact absurd V6 h7
   ·exact hd
  ·simp
theorem WT{s:List Cv}(hS:Fj s):1≤(Dk 0 s).length:=by
 obtain⟨h2,h20,hs,_⟩:=hS;refine NH 0 s ?_;obtain⟨c,h1,h3⟩:=K5 6 0 s.length hs (s.length-1) (Nat.zero_le _) (by omega);obtain⟨c',h1',h4,_⟩:=J6 6 0 s.length hs (s.length-1) (Nat.zero_le _) (by omega);rw[h1] at h1';obtain rfl:=Option.some.inj h1';refine⟨c,List.mem_of_getElem? h1,fun h7=> ?_⟩;unfold Ee at h4;rw[h7,Mg] at h4;simp at h4;omega
section
variable(k:Nat)(hk:2000000≤k)
include hk
theorem WQ(s:List Cv)(hs:s.length≤20):∀(post pre:List Cv) (f:Nat) (acc:List Cu),s=pre++post→post.length<f→acc.length≤1+4*pre.length→
 Ed.l3 k f s (pre.length:Int) acc=some ((),acc++(Dw pre.length post).flatten):=by
 intro post
 induction post with
 |nil=>
  intro pre f acc hsp hf ha;obtain⟨f,rfl⟩:∃j,f=j+1:=⟨f-1,by omega⟩;have hlen:s.length=pre.length:=by rw[hsp];simp
  simp only[Ed.l3,CK (show ¬((pre.length:Int)<(s.length:Int)) by omega),CB,Dw,List.flatten_nil,DY]
 |cons x post ih=>
  intro pre f acc hsp hf ha;simp only[D9] at hf;obtain⟨f,rfl⟩:∃j,f=j+1:=⟨f-1,by omega⟩;have hlen:s.length=pre.length+(post.length+1):=by rw[hsp];simp
  have hg:h_ s (pre.length:Int)=some x:=by rw[hsp];exact EY _ _ _
  have hi1:IntKind.wrap .i64 ((pre.length:Int)+1)=((pre.length+1:Nat):Int):=by rw[CO (by omega) (by omega)];omega
  have hp:=Kb pre.length x;have hi:=ih (pre++[x]) f (acc++GN pre.length x) (by rw[hsp];simp) (by omega) (by simp[GN];omega);rw[Dq,DZ] at hi;have fin:∀X:List Cu,X=Ef pre.length x→Ed.c15 k (Ed.l3 k f) s (pre.length:Int) (acc.length:Int) (acc++(12,0,0,CX,0,())::X)=some ((),acc++(Dw pre.length (x::post)).flatten):=by
   intro X hX;subst hX;unfold Ed.c15;rw[EY];simp only[Cy,hi1];rw[X3];have e:IntKind.wrap .i64 (IntKind.wrap .i64 (((acc++(12,0,0,CX,0,())::Ef pre.length x).length:Int)-(acc.length:Int))-1)=((Ef pre.length x).length:Int):=by
    rw[Dq,D9];rw[CO (x:=((acc.length+((Ef pre.length x).length+1):Nat):Int)-(acc.length:Int)) (by omega) (by omega),CO (by omega) (by omega)];omega
   rw[e];have hc:((12,0,0,CX,((Ef pre.length x).length:Int),())::Ef pre.length x:List Cu)=GN pre.length x:=rfl;rw[hc,hi];simp[Dw]
  simp only[Ed.l3,CP (show((pre.length:Int)<(s.length:Int)) by omega),Cx,hg,Cy];rw[Da (by simp;omega),Cx];unfold Ef at fin;by_cases h7:x.2.1=7
  ·simp only[DL h7,CB,Ed.c10,Ed.c12,Ez h7,Cx]
   by_cases hpos:0<pre.length
   ·simp only[CP (show(pre.length:Int)>0 by omega),Cx]
    rw[Da (by simp;omega),Cx,Da (by simp;omega),Cx,Da (by simp;omega),Cx];refine Eq.trans ?_ (fin _ (by simp[h7,hpos];rfl));simp
   ·simp only[CK (show ¬(pre.length:Int)>0 by omega),CB]
    rw[Da (by simp;omega),Cx,Da (by simp;omega),Cx];refine Eq.trans ?_ (fin _ (by simp[h7,hpos];rfl));simp
  ·simp only[EF h7,Cx,Ed.c10,Ed.c12,Df h7,CB]
   rw[Da (by simp;omega),Cx];by_cases hpos:0<pre.length
   ·simp only[CP (show(pre.length:Int)>0 by omega),Cx]
    rw[Da (by simp;omega),Cx,Da (by simp;omega),Cx];refine Eq.trans ?_ (fin _ (by simp[h7,hpos];rfl));simp
   ·simp only[CK (show ¬(pre.length:Int)>0 by omega),CB]
    rw[Da (by simp;omega),Cx];refine Eq.trans ?_ (fin _ (by simp[h7,hpos];rfl));simp
theorem WN(s:List Cv)(h2:1≤s.length)(hs:s.length≤20):Ed k s 2=some ((),Db 2 12 (Dw 0 s)):=by
 have:=WQ k hk s hs s [] k [(9,2,12,CX,(s.length:Int),())] rfl (by omega) (by simp);have hcl:=JM 0 s;unfold Ed Db;rw[hcl,if_neg (by omega)];exact this
theorem X6(c:Dg)(N:List ByteArray)(hE:c.2.2.2.2.2.1.length≤1000):∀(post pre:List Int) (f:Nat) (acc:List Cu),c.2.2.2.2.2.1=pre++post→post.length<f→acc.length≤100+pre.length→
 Eh.l5 k f (pre.length:Int) c N acc=Eh.l10 k k 0 c N (acc++(post.map fun e=>[C8 0 e]).flatten++[(9,3,8,⟨#[]⟩,(N.length:Int),())]):=by
 intro post
 induction post with
 |nil=>
  intro pre f acc h' hf ha;obtain⟨f,rfl⟩:∃q,f=q+1:=⟨f-1,by omega⟩;have hlen:c.2.2.2.2.2.1.length=pre.length:=by rw[h'];simp
  simp only[Eh.l5,CK (show ¬((pre.length:Int)<(c.2.2.2.2.2.1.length:Int)) by omega),CB,List.map_nil,List.flatten_nil,DY];rw[Da (by simp;omega),Cx]
 |cons x post ih=>
  intro pre f acc h' hf ha;simp only[D9] at hf;obtain⟨f,rfl⟩:∃q,f=q+1:=⟨f-1,by omega⟩;have hlen:c.2.2.2.2.2.1.length=pre.length+(post.length+1):=by rw[h'];simp
  have hg:h_ c.2.2.2.2.2.1 (pre.length:Int)=some x:=by rw[h'];exact EY _ _ _
  have hi1:IntKind.wrap .i64 ((pre.length:Int)+1)=((pre.length+1:Nat):Int):=by rw[CO (by omega) (by omega)];omega
  have:=ih (pre++[x]) f (acc++[C8 0 x]) (by rw[h'];simp) (by omega) (by simp;omega);rw[Dq,DZ] at this;simp only[Eh.l5,CP (show((pre.length:Int)<(c.2.2.2.2.2.1.length:Int)) by omega),Cx,hg,Cy,Ku,hi1];rw[Da (by simp;omega),Cx,this];simp only[GA,List.map_cons,List.flatten_cons,List.singleton_append]
theorem X5(c:Dg)(N:List ByteArray)(hN:N.length≤1000):∀(post pre:List ByteArray) (f:Nat) (acc:List Cu),N=pre++post→post.length<f→acc.length≤2000+pre.length→
 Eh.l10 k f (pre.length:Int) c N acc=Eh.d13 k c (acc++(post.map fun t=>[Et 0 t]).flatten):=by
 intro post
 induction post with
 |nil=>
  intro pre f acc h' hf ha;obtain⟨f,rfl⟩:∃q,f=q+1:=⟨f-1,by omega⟩;have hlen:N.length=pre.length:=by rw[h'];simp
  simp only[Eh.l10,CK (show ¬((pre.length:Int)<(N.length:Int)) by omega),CB,List.map_nil,List.flatten_nil,DY]
 |cons x post ih=>
  intro pre f acc h' hf ha;simp only[D9] at hf;obtain⟨f,rfl⟩:∃q,f=q+1:=⟨f-1,by omega⟩;have hlen:N.length=pre.length+(post.length+1):=by rw[h'];simp
  have hg:h_ N (pre.length:Int)=some x:=by rw[h'];exact EY _ _ _
  have hi1:IntKind.wrap .i64 ((pre.length:Int)+1)=((pre.length+1:Nat):Int):=by rw[CO (by omega) (by omega)];omega
  have:=ih (pre++[x]) f (acc++[Et 0 x]) (by rw[h'];simp) (by omega) (by simp;omega);rw[Dq,DZ] at this;simp only[Eh.l10,CP (show((pre.length:Int)<(N.length:Int)) by omega),Cx,hg,Cy,hi1];have ht:((8,0,0,x,0,()):Cu)=Et 0 x:=rfl;rw[Da (by simp;omega),Cx,ht,this];simp only[GA,List.map_cons,List.flatten_cons,List.singleton_append]
variable(s:List Cv)(hn:∀c,c∈s→c.1.size<k∧c.1.size<1000000000∧CY c.2.2.2.1)(hS:Fj s)(hok:EB k s=some true)(hok2:EZ k s=some true)
include hn hS hok hok2
theorem WG(c:Dg)(j:Nat)(hc:Jj c j)(hj:j<(Dk 0 s).length):Eh k s c=some ((),DW k s c):=by
 obtain⟨N,e1,_,e3,_,e5⟩:=LX k s hn hk hS hok hok2 c.1;have hcj:=hc.leaf;have hne:N≠[]:=e5 (by rw[hcj];omega);have hN:Dh k s c.1=N:=by unfold Dh;rw[e1];rfl
 obtain⟨v1,v2⟩:=Hw k (by omega) s (by have:=hS.2.1;omega);obtain⟨L,cc,g1,g2,g3⟩:∃L cc,h_ (Dk 0 s) c.1=some L∧h_ s L=some cc∧DX k s c.1=cc.2.1:=by
  obtain⟨l,b,f1,_,f3⟩:=JR k s hn hk hS hok hok2 c.1;have hl:DX k s c.1=l.1:=by unfold DX;rw[f1];rfl
  cases b with
  |true=>
   obtain⟨L,cc,q1,q2,_,_,rfl⟩:=f3 rfl;exact⟨_,cc,q1,q2,hl⟩
  |false=>
   exfalso;have hll:=Gq 0 s;have Gl:=hS.2.1;have hlm:=LC k s hS hn hk hok hok2 c.1;unfold IL H7 at f1;rw[hok] at f1;simp only[Cy,C9,CB,v2,FE] at f1;generalize hlv:Dk 0 s=lv at hll hlm f1 hj;rw[CO (show -9223372036854775808≤(lv.length:Int)-1 by omega) (by omega)] at f1;have hw:(decide (0≤c.1)&&decide (c.1≤(lv.length:Int)-1))=true:=by rw[hcj];simp;omega
   rw[hw] at f1;rcases hlm with⟨L,cc,hg,h0,h1,_,hcc,h7,hjj,m2,m3⟩|⟨hin,_⟩
   ·simp only[C9,CB,hg,Cy,m2,m3,Dv,hcc] at f1
    cases f1
   ·omega
 have hel:=hc.el;have he:=I7 (C8 0) c.2.2.2.2.2.1;have hne':(N.map fun t=>[Et 0 t]).length≠0:=by
  rw[List.length_map];intro h0;exact hne (List.eq_nil_of_length_eq_zero h0)
 have hl:∀id x,GY k id x=some (CV id x):=fun _ _=>rfl;have h5:=X6 k hk c N (by omega) c.2.2.2.2.2.1 [] k ([DC 0 2,CV 2 c.2.1,DC 3 8]++[C8 1 cc.2.1,(9,2,5,⟨#[]⟩,(c.2.2.2.2.2.1.length:Int),())]) rfl (by omega) (by simp);have h10:=X5 k hk c N (by omega) N [] k ([DC 0 2,CV 2 c.2.1,DC 3 8]++[C8 1 cc.2.1,(9,2,5,⟨#[]⟩,(c.2.2.2.2.2.1.length:Int),())]++(c.2.2.2.2.2.1.map fun e=>[C8 0 e]).flatten++[(9,3,8,⟨#[]⟩,(N.length:Int),())]) rfl (by omega) (by simp[he];omega);rw[List.length_nil,show((0:Nat):Int)=0 from rfl] at h5 h10;unfold Eh Eh.d3;simp only[e1,hl,Cy,v2,g1,g2,Ku];rw[Da (by simp),Cx];have e0:([(12,0,0,CX,2,()),CV 2 c.2.1,(12,3,0,CX,8,())]:List Cu)=[DC 0 2,CV 2 c.2.1,DC 3 8]:=rfl;rw[e0,h5,h10];unfold Eh.d13 Eh.c17;have Ns:=I7 (Et 0) N;simp only[hl,Ku,Cy];rw[Da (by simp[he,Ns];omega),Cx];have hE0:(c.2.2.2.2.2.1.map fun e=>[C8 0 e]).length≠0:=by rw[List.length_map];omega
 have ZF:=hc.Le;unfold DW Ho Db Fh;rw[hN,g3,if_neg hE0,if_neg hne',List.length_map,List.length_map];by_cases hd:c.2.2.1= -1
 ·rw[CK (show ¬c.2.2.1≥0 by omega),CB,if_pos hd]
  simp
 ·rw[CP (show c.2.2.1≥0 by omega),Cx,if_neg hd]
  have r2:∀X:List Cu,h_ ([DC 0 2,CV 2 c.2.1,DC 3 8]++X) 2=some (DC 3 8):=fun X=>rfl;have s2:∀(X:List Cu) (y:Cu),List.set ([DC 0 2,CV 2 c.2.1,DC 3 8]++X) (Int.toNat 2) y=[DC 0 2,CV 2 c.2.1,y]++X:=fun X y=>rfl;simp only[GA];rw[r2];simp only[Cy];rw[s2,Da (by simp[he,Ns];omega),Cx];simp[DC]
theorem Yd(IZ:Int→DJ→List Cu→List Cu→Option ((Unit×Bool)×List Cu))(m:DJ)(hm:m.1=s)(t7:Int)(Cw:List Cu)(g:CU)(hC:g.2.1.length=(Dk 0 s).length):
 ∀(post pre:List Dg) (f:Nat) (t9:Int) (acc:List Cu),g.2.1=pre++post→post.length<f→IW pre.length post→acc.length≤100000+40*pre.length→
 Dz.Gp k IZ f t7 t9 (pre.length:Int) m Cw acc g=Dz.d22 k IZ t7 (F7 t9 post) m Cw (acc++(post.map (DW k s)).flatten) g:=by
 have hll:=Gq 0 s;have Gl:=hS.2.1;intro post
 induction post with
 |nil=>
  intro pre f t9 acc h' hf _ ha;obtain⟨f,rfl⟩:∃q,f=q+1:=⟨f-1,by omega⟩;have hlen:g.2.1.length=pre.length:=by rw[h'];simp
  simp only[Dz.Gp,CK (show ¬((pre.length:Int)<(g.2.1.length:Int)) by omega),CB,List.map_nil,List.flatten_nil,DY,F7]
 |cons x post ih=>
  intro pre f t9 acc h' hf ⟨hx,hr⟩ ha;simp only[D9] at hf;obtain⟨f,rfl⟩:∃q,f=q+1:=⟨f-1,by omega⟩;have hlen:g.2.1.length=pre.length+(post.length+1):=by rw[h'];simp
  have hg:h_ g.2.1 (pre.length:Int)=some x:=by rw[h'];exact EY _ _ _
  have hi1:IntKind.wrap .i64 ((pre.length:Int)+1)=((pre.length+1:Nat):Int):=by rw[CO (by omega) (by omega)];omega
  have hxe:=WG k hk s hn hS hok hok2 x pre.length hx (by omega);have hxl:=MU k hk s hn hS hok hok2 x hx.el.2;have:=ih (pre++[x]) f (IntKind.wrap .i64 (t9+x.2.2.2.2.1)) (acc++DW k s x) (by rw[h'];simp) (by omega) (by rw[Dq,DZ];exact hr) (by simp;omega);rw[Dq,DZ] at this;simp only[Dz.Gp,Dz.d20,CP (show((pre.length:Int)<(g.2.1.length:Int)) by omega),Cx,hg,Cy,hm,hxe,hi1];rw[Da (by omega),Cx,this];simp only[GA,List.map_cons,List.flatten_cons,F7]
theorem Yc(m:DJ)(hm:m.1=s)(Cw:List Cu)(hG:m.2.2.1.length≤40)(hc:∀g,g∈m.2.2.1→Iy (Dk 0 s).length g):
 ∀(post pre:List CU) (f:Nat) (acc:List Cu),m.2.2.1=pre++post→post.length<f→acc.length≤100+900*pre.length→
 Dz.C_ k f (pre.length:Int) m Cw acc=(Iq k (acc++(post.map (DF k s)).flatten)).bind fun r=>cond (!r) (some (((),false),Cw)) (some (((),true),acc++(post.map (DF k s)).flatten)):=by
 have hll:=Gq 0 s;have Gl:=hS.2.1;have hl1:=WT hS;intro post
 induction post with
 |nil=>
  intro pre f acc h' hf ha;obtain⟨f,rfl⟩:∃q,f=q+1:=⟨f-1,by omega⟩;have hlen:m.2.2.1.length=pre.length:=by rw[h'];simp
  simp only[Dz.C_,CK (show ¬((pre.length:Int)<(m.2.2.1.length:Int)) by omega),CB,List.map_nil,List.flatten_nil,DY]
 |cons x post ih=>
  intro pre f acc h' hf ha;simp only[D9] at hf;obtain⟨f,rfl⟩:∃q,f=q+1:=⟨f-1,by omega⟩;have hlen:m.2.2.1.length=pre.length+(post.length+1):=by rw[h'];simp
  have hg:h_ m.2.2.1 (pre.length:Int)=some x:=by rw[h'];exact EY _ _ _
  have hi1:IntKind.wrap .i64 ((pre.length:Int)+1)=((pre.length+1:Nat):Int):=by rw[CO (by omega) (by omega)];omega
  have hx:=hc x (by rw[h'];simp);have hxl:=hx.len;have hce:∀c,c∈x.2.1→c.2.2.2.2.2.1.length≤5:=by
   have key:∀(C:List Dg) (j:Nat),IW j C→∀c,c∈C→c.2.2.2.2.2.1.length≤5:=by
    intro C
    induction C with
    |nil=>intro j _ c hc;cases hc
    |cons y C Ww=>
     intro j ⟨h1,h2⟩ c hc;rcases List.mem_cons.1 hc with rfl|hc
     ·exact h1.el.2
     ·exact Ww (j+1) h2 c hc
   exact key x.2.1 0 hx.K9
  obtain⟨q1,q2⟩:=Lj k hk s hn hS hok hok2 x (by omega) hce;have h18:=Yd k hk s hn hS hok hok2 (Dz.C_ k f) m hm (pre.length:Int) Cw x hxl x.2.1 [] k 0 (acc++[DC 0 3,(9,1,12,⟨#[]⟩,(x.2.1.length:Int),())]) rfl (by omega) hx.K9 (by simp;omega);rw[List.length_nil,show((0:Nat):Int)=0 from rfl] at h18;have hl:∀id x,GY k id x=some (CV id x):=fun _ _=>rfl;have:=ih (pre++[x]) f (acc++DF k s x) (by rw[h'];simp) (by omega) (by simp;omega);rw[Dq,DZ] at this;have hgr:DF k s x=[DC 0 3,(9,1,12,⟨#[]⟩,(x.2.1.length:Int),())]++(x.2.1.map (DW k s)).flatten++[CV 2 (F7 0 x.2.1),CV 3 x.1]:=by
   unfold DF Fh Db;rw[if_neg (by rw[List.length_map];omega),List.length_map];simp
  simp only[Dz.C_,CP (show((pre.length:Int)<(m.2.2.1.length:Int)) by omega),Cx,hg,Cy];have e0:([(12,0,0,CX,3,()),(9,1,12,CX,(x.2.1.length:Int),())]:List Cu)=[DC 0 3,(9,1,12,⟨#[]⟩,(x.2.1.length:Int),())]:=rfl;rw[Da (by simp;omega),Cx,e0,h18];unfold Dz.d22;simp only[hl,Cy,hi1];rw[Da (by simp;omega),Cx];have e1:acc++[DC 0 3,(9,1,12,⟨#[]⟩,(x.2.1.length:Int),())]++(x.2.1.map (DW k s)).flatten++[CV 2 (F7 0 x.2.1),CV 3 x.1]=acc++DF k s x:=by rw[hgr];simp
  rw[e1,this];simp only[GA,List.map_cons,List.flatten_cons]
theorem Ya(rows:Int)(G:List CU)(hG:G.length≤40)(hc:∀g,g∈G→Iy (Dk 0 s).length g)(hm:Ea k (s,rows,G,())=some true):
 Dz k (s,rows,G,())=(Iq k (FF k s rows G)).bind fun b=>cond (!b) (some (((),false),[])) (some (((),true),FF k s rows G)):=by
 have h2:=hS.1;have h20:=hS.2.1;have h5:=WN k hk s (by omega) h20;have hl:∀id x,GY k id x=some (CV id x):=fun _ _=>rfl;have hcf:=Ld 0 s;have hll:(Db 2 12 (Dw 0 s)).length≤81:=by simp[Db];omega
 unfold Dz;simp only[hm,Cy,C9,CB,Ku,h5,hl];rw[Da (by simp;omega),Cx,Da (by simp;omega),Cx];have fin:∀kd:Int,kd=(if(G.map (DF k s)).length=0 then 0 else 12)→Dz.c10 k (s,rows,G,()) [] (([(12,0,0,CX,4,()),C8 1 1]++Db 2 12 (Dw 0 s))++[CV 3 rows]) (9,4,kd,CX,(G.length:Int),())=(Iq k (FF k s rows G)).bind fun b=>cond (!b) (some (((),false),[])) (some (((),true),FF k s rows G)):=by
  intro kd hkd;unfold Dz.c10;rw[Da (by simp;omega),Cx];have h12:=Yc k hk s hn hS hok hok2 (s,rows,G,()) rfl [] hG hc G [] k ((([(12,0,0,CX,4,()),C8 1 1]++Db 2 12 (Dw 0 s))++[CV 3 rows])++[(9,4,kd,CX,(G.length:Int),())]) rfl (by omega) (by simp;omega);rw[List.length_nil,show((0:Nat):Int)=0 from rfl] at h12;rw[h12];have e:((([(12,0,0,CX,4,()),C8 1 1]++Db 2 12 (Dw 0 s))++[CV 3 rows])++[(9,4,kd,CX,(G.length:Int),())])++(G.map (DF k s)).flatten=FF k s rows G:=by
   rw[hkd];unfold FF Fh;have:Db 4 12 (G.map (DF k s))=(9,4,if(G.map (DF k s)).length=0 then 0 else 12,⟨#[]⟩,(G.length:Int),())::(G.map (DF k s)).flatten:=by unfold Db;rw[List.length_map]
   rw[this];simp[DC]
  rw[e]
 cases G with
 |nil=>
  rw[show decide (((([]:List CU).length:Nat):Int)>0)=false from rfl,CB];exact fin 0 rfl
 |cons g G=>
  rw[CP (show(((g::G).length:Nat):Int)>0 by simp),Cx];exact fin 12 (by rw[if_neg (by simp)])
end
end Go.C7
end
section
namespace Go.C7
open Go.Am Go.Fn
def Iw(E:List Cu→Prop):Nat→List Cu→Prop
 |0,X=>X=[]
 |c+1,X=>∃Y Z,X=Y++Z∧E Y∧Iw E c Z
def Gv:Nat→List Cu→Prop
 |0,_=>False
 |_+1,[]=>False
 |d+1,n::X=>Iw (Gv d) n.2.2.2.2.1.toNat X
theorem Mq{E E':List Cu→Prop}(hE:∀B,E B→E' B):∀(c:Nat) (X:List Cu),Iw E c X→Iw E' c X
 |0,_,h=>h
 |c+1,_,⟨Y,Z,e,h1,h2⟩=>⟨Y,Z,e,hE _ h1,Mq hE c Z h2⟩
theorem Ms:∀(d:Nat) (B:List Cu),Gv d B→Gv (d+1) B
 |0,_,h=>h.elim
 |_+1,[],h=>h.elim
 |d+1,n::X,h=>Mq (Ms d) _ _ h
theorem Mr{d d':Nat}(h:d≤d'){B:List Cu}(hB:Gv d B):Gv d' B:=by
 induction h with
 |refl=>exact hB
 |step _ ih=>exact Ms _ _ ih
def WB(X:List Cu):Prop:=∃d,Gv d X
theorem Mo(d:Nat):∀(Ys:List (List Cu)),(∀Y,Y∈Ys→Gv d Y)→Iw (Gv d) Ys.length Ys.flatten
 |[],_=>rfl
 |Y::Ys,h=>⟨Y,Ys.flatten,by simp,h Y (List.mem_cons_self ..),Mo d Ys fun Z hZ=>h Z (List.mem_cons_of_mem _ hZ)⟩
theorem ML:∀(Ys:List (List Cu)),(∀Y,Y∈Ys→WB Y)→∃d,∀Y,Y∈Ys→Gv d Y
 |[],_=>⟨0,fun Y hY=>by cases hY⟩
 |Y::Ys,h=>by
  obtain⟨d,hd⟩:=ML Ys fun Z hZ=>h Z (List.mem_cons_of_mem _ hZ);obtain⟨e,he⟩:=h Y (List.mem_cons_self ..);refine⟨max d e,fun Z hZ=> ?_⟩;rcases List.mem_cons.1 hZ with rfl|hZ
  ·exact Mr (Nat.le_max_right _ _) he
  ·exact Mr (Nat.le_max_left _ _) (hd Z hZ)
theorem K7{n:Cu}{Ys:List (List Cu)}(hn:n.2.2.2.2.1=(Ys.length:Int))(h:∀Y,Y∈Ys→WB Y):WB (n::Ys.flatten):=by
 obtain⟨d,hd⟩:=ML Ys h;refine⟨d+1,?_⟩;show Iw (Gv d) n.2.2.2.2.1.toNat _;rw[hn,Int.toNat_natCast];exact Mo d Ys hd
theorem Gi{n:Cu}(hn:n.2.2.2.2.1=0):WB [n]:=K7 (Ys:=[]) hn (fun _ h=>by cases h)
theorem MF{l:List Cu}{af:List Int}:∀(d d' a b:Nat) (B pre post:List Cu),Sub l af d a b→l=pre++(B++post)→a=pre.length→Gv d' B→b=a+B.length
 |0,_,_,_,_,_,_,h,_,_,_=>h.elim
 |_+1,0,_,_,_,_,_,_,_,_,h=>h.elim
 |_+1,_+1,_,_,[],_,_,_,_,_,h=>h.elim
 |d+1,d'+1,a,b,m::X,pre,post,⟨n,h1,h2,h3,h4⟩,hl,ha,e2=>by
  have hnm:n=m:=by
   rw[hl,ha,List.getElem?_append_right (Nat.le_refl _)] at h1;simpa using h1.symm
  subst hnm;have key:∀(c pos:Nat) (last:Int) (X pre post:List Cu) (nx:Nat),F8 (Sub l af d) l n c pos last nx→Iw (Gv d') c X→l=pre++(X++post)→pos=pre.length→nx=pos+X.length:=by
   intro c
   induction c with
   |zero=>intro pos last X pre post nx hp hx _ _;have hp:pos=nx:=hp;have hx:X=[]:=hx;subst hx;simp[hp]
   |succ c ih=>
    intro pos last X pre post nx ⟨p,mid,_,_,_,p4,p5⟩ ⟨Y,Z,e,x3,x4⟩ hl' hpos;subst e;have hm:=MF d d' pos mid Y pre (Z++post) p4 (by rw[hl'];simp) hpos x3;have:=ih mid _ Z (pre++Y) post nx p5 x4 (by rw[hl'];simp) (by rw[hm,hpos];simp);rw[this,hm,Dq];omega
  have:=key _ (a+1) 0 X (pre++[n]) post b h3 e2 (by rw[hl];simp) (by simp[ha]);simp only[D9];omega
theorem MJ{B:List Cu}(h:WB B):∃x Y,B=x::Y:=by
 obtain⟨d,h⟩:=h;cases B with
 |nil=>cases d<;>exact h.elim
 |cons x Y=>exact⟨x,Y,rfl⟩
theorem MO(k:Nat){l:List Cu}{af:List Int}(hk:2000≤k)(h:Ey l af){pre B post:List Cu}(hl:l=pre++(B++post))(hB:WB B):EC k l (pre.length:Int)=some ((pre.length+B.length:Nat):Int):=by
 obtain⟨x,Y,rfl⟩:=MJ hB;obtain⟨d,hB⟩:=hB;obtain⟨d',nx,hd,hs,hn⟩:=h.at (i:=pre.length) (by rw[hl];simp);have:=MF d' d pre.length nx _ pre post hs hl rfl hB;subst this;exact h.after k hk hd hs hn
def hid(X:List Cu):Int:=match X with|n::_=>n.2.1|[]=>0
section
variable(k:Nat)(hk:2000≤k){l:List Cu}{af:List Int}(h:Ey l af)
include hk h
theorem Nn{n:Cu}{pre post:List Cu}(id:Int)(hn:n.2.2.2.2.1≤2000):∀(rest done:List (List Cu)) (f:Nat),(∀X,X∈rest→WB X)→l=pre++n::(done.flatten++(rest.flatten++post))→n.2.2.2.2.1=((done.length+rest.length:Nat):Int)→rest.length<f→
 (∀A X B,rest=A++X::B→(∀Y,Y∈A→hid Y≠id)→hid X=id→DT.l5 k f l (pre.length:Int) id ((pre.length+1+done.flatten.length:Nat):Int) (done.length:Int)=some ((pre.length+1+done.flatten.length+A.flatten.length:Nat):Int))∧
 ((∀Y,Y∈rest→hid Y≠id)→DT.l5 k f l (pre.length:Int) id ((pre.length+1+done.flatten.length:Nat):Int) (done.length:Int)=some (-1)):=by
 intro rest;have hlen:=h.len;have hg:∀{rest done:List (List Cu)},l=pre++n::(done.flatten++(rest.flatten++post))→h_ l (pre.length:Int)=some n:=fun hl=>by rw[hl];exact EY _ _ _
 induction rest with
 |nil=>
  intro done f hp hl hm hf;obtain⟨f,rfl⟩:∃j,f=j+1:=⟨f-1,by omega⟩;simp only[List.length_nil,Nat.add_zero] at hm;simp only[DT.l5,hg hl,Cy,hm,CK (show ¬((done.length:Int)<(done.length:Int)) by omega),CB];exact⟨fun A X B e=>(by simp at e),by simp⟩
 |cons X0 rest ih=>
  intro done f hp hl hm hf;simp only[D9] at hm hf;obtain⟨f,rfl⟩:∃j,f=j+1:=⟨f-1,by omega⟩;have hX:=hp X0 (List.mem_cons_self ..);obtain⟨x,Y0,rfl⟩:=MJ hX;have hl2:l=(pre++n::done.flatten)++((x::Y0)++(rest.flatten++post)):=by rw[hl];simp
  have hpl:(pre++n::done.flatten).length=pre.length+1+done.flatten.length:=by simp;omega
  have hlen':l.length=pre.length+1+done.flatten.length+((Y0.length+1)+(rest.flatten.length+post.length)):=by rw[hl2];simp;omega
  have hx:h_ l ((pre.length+1+done.flatten.length:Nat):Int)=some x:=by
   rw[←hpl]
   conv=>lhs;rw[hl2]
   exact EY _ _ _
  have ha:=MO k hk h (pre:=pre++n::done.flatten) (B:=x::Y0) (post:=rest.flatten++post) hl2 hX;rw[hpl] at ha;have hi:=ih (done++[x::Y0]) f (fun p hp'=>hp p (List.mem_cons_of_mem _ hp')) (by rw[hl];simp) (by rw[hm,Dq,DZ];omega) (by omega);have hfl:(done++[x::Y0]).flatten.length=done.flatten.length+(Y0.length+1):=by simp
  rw[Dq,DZ,hfl] at hi;have hpos:pre.length+1+(done.flatten.length+(Y0.length+1))=pre.length+1+done.flatten.length+(x::Y0).length:=by simp;omega
  rw[hpos] at hi;have step:∀v,x.2.1≠id→DT.l5 k f l (pre.length:Int) id ((pre.length+1+done.flatten.length+(x::Y0).length:Nat):Int) ((done.length+1:Nat):Int)=v→DT.l5 k (f+1) l (pre.length:Int) id ((pre.length+1+done.flatten.length:Nat):Int) (done.length:Int)=v:=by
   intro v hne hv;simp only[DT.l5,hg hl,Cy,hm,CP (show((done.length:Int)<((done.length+(rest.length+1):Nat):Int)) by omega),Cx,hx,Df hne,CB,ha];rw[CO (by omega) (by omega),←hv]
   congr 1
  constructor
  ·intro A X B e hA Nu
   cases A with
   |nil=>
    simp only[List.nil_append,List.cons.injEq] at e;obtain⟨rfl,rfl⟩:=e;have I8:x.2.1=id:=Nu;simp only[DT.l5,hg hl,Cy,hm,CP (show((done.length:Int)<((done.length+(rest.length+1):Nat):Int)) by omega),Cx,hx,Ez I8];simp
   |cons Z A=>
    simp only[List.cons_append,List.cons.injEq] at e;obtain⟨rfl,e⟩:=e;have hne:x.2.1≠id:=hA _ (List.mem_cons_self ..);refine step _ hne ((hi.1 A X B e (fun Y hY=>hA Y (List.mem_cons_of_mem _ hY)) Nu).trans ?_);simp only[List.flatten_cons,Dq,D9]
    congr 1
    congr 1
    omega
  ·intro hA
   exact step _ (hA _ (List.mem_cons_self ..)) (hi.2 fun Y hY=>hA Y (List.mem_cons_of_mem _ hY))
variable{n:Cu}{pre post:List Cu}{Xs:List (List Cu)}
theorem JO(id:Int)(hX:∀X,X∈Xs→WB X)(hl:l=pre++n::(Xs.flatten++post))(hm:n.2.2.2.2.1=(Xs.length:Int))(hn:n.1=12)(hx:Xs.length≤1500)(A:List (List Cu))(X:List Cu)(B:List (List Cu))(e:Xs=A++X::B)(hA:∀Y,Y∈A→hid Y≠id)(I8:hid X=id):
 DT k l (pre.length:Int) id=some ((pre.length+1+A.flatten.length:Nat):Int):=by
 have hlen:=h.len;have hg:h_ l (pre.length:Int)=some n:=by rw[hl];exact EY _ _ _
 have hlen':pre.length<l.length:=by rw[hl];simp
 have:=(Nn k hk h (n:=n) (pre:=pre) (post:=post) id (by omega) Xs [] k hX (by simpa using hl) (by simpa using hm) (by omega)).1 A X B e hA I8;unfold DT;simp only[hg,Cy,DL hn,CB];rw[CO (by omega) (by omega)];simpa using this
theorem VN(id:Int)(hX:∀X,X∈Xs→WB X)(hl:l=pre++n::(Xs.flatten++post))(hm:n.2.2.2.2.1=(Xs.length:Int))(hn:n.1=12)(hx:Xs.length≤1500)(hA:∀Y,Y∈Xs→hid Y≠id):
 DT k l (pre.length:Int) id=some (-1):=by
 have hlen:=h.len;have hg:h_ l (pre.length:Int)=some n:=by rw[hl];exact EY _ _ _
 have hlen':pre.length<l.length:=by rw[hl];simp
 have:=(Nn k hk h (n:=n) (pre:=pre) (post:=post) id (by omega) Xs [] k hX (by simpa using hl) (by simpa using hm) (by omega)).2 hA;unfold DT;simp only[hg,Cy,DL hn,CB];rw[CO (by omega) (by omega)];simpa using this
theorem KE{A:List (List Cu)}{x:Cu}{Y:List Cu}{B:List (List Cu)}(hl:l=pre++n::(Xs.flatten++post))(e:Xs=A++(x::Y)::B):h_ l ((pre.length+1+A.flatten.length:Nat):Int)=some x:=by
 have hl2:l=(pre++n::A.flatten)++x::(Y++(B.flatten++post)):=by rw[hl,e];simp
 have hpl:(pre++n::A.flatten).length=pre.length+1+A.flatten.length:=by simp;omega
 rw[←hpl]
 conv=>lhs;rw[hl2]
 exact EY _ _ _
theorem LM(id:Int)(hX:∀X,X∈Xs→WB X)(hl:l=pre++n::(Xs.flatten++post))(hm:n.2.2.2.2.1=(Xs.length:Int))(hn:n.1=12)(hx:Xs.length≤1500)(A:List (List Cu))(x:Cu)(B:List (List Cu))(e:Xs=A++[x]::B)(hA:∀Y,Y∈A→hid Y≠id)(I8:x.2.1=id)(JP:x.1=5∨x.1=6):
 nV k l (pre.length:Int) id=(x.2.2.1,true):=by
 have hf:=JO k hk h id hX hl hm hn hx A [x] B e hA I8;have hr:=KE k hk h hl e;have:FW k l (pre.length:Int) id=some (x.2.2.1,true):=by
  unfold FW;simp only[hf,Cy,CK (show ¬(((pre.length+1+A.flatten.length:Nat):Int)<0) by omega),CB,hr];rcases JP with h5|h6
  ·simp only[DL h5,CB,Cy]
  ·simp only[EF (show ¬x.1=5 by omega),DL h6,Cx,Cy,CB]
 unfold nV;rw[this];rfl
def F6:Nat→List (List Cu)→List Int
 |_,[]=>[]
 |p,Y::r=>(p:Int)::F6 (p+Y.length) r
theorem Xw{q:Nat}{m:Cu}(hq:h_ l (q:Int)=some m):∀(rest:List (List Cu)) (pre' post':List Cu) (f:Nat) (i:Int) (acc:List Int),(∀X,X∈rest→WB X)→l=pre'++(rest.flatten++post')→rest.length<f→m.2.2.2.2.1-i=(rest.length:Int)→0≤i→i+(rest.length:Int)≤2000→acc.length+rest.length≤4000→
 Fg.l7 k f l (q:Int) (pre'.length:Int) i acc=some (((),true),acc++F6 pre'.length rest):=by
 intro rest
 induction rest with
 |nil=>
  intro pre' post' f i acc hX hl hf hi h0 h2 ha;obtain⟨f,rfl⟩:∃j,f=j+1:=⟨f-1,by omega⟩;simp only[List.length_nil] at hi;simp only[Fg.l7,hq,Cy,CK (show ¬i<m.2.2.2.2.1 by omega),CB,F6,DY]
 |cons X rest ih=>
  intro pre' post' f i acc hX hl hf hi h0 h2 ha;simp only[D9] at hf hi h2 ha;obtain⟨f,rfl⟩:∃j,f=j+1:=⟨f-1,by omega⟩;have hd:=hX X (List.mem_cons_self ..);have hlen:=h.len;have ha':=MO k hk h (pre:=pre') (B:=X) (post:=rest.flatten++post') (by rw[hl];simp) hd;have hi':=ih (pre'++X) post' f (i+1) (acc++[(pre'.length:Int)]) (fun Y hY=>hX Y (List.mem_cons_of_mem _ hY)) (by rw[hl];simp) (by omega) (by omega) (by omega) (by omega) (by simp;omega);rw[Dq] at hi';simp only[Fg.l7,hq,Cy,CP (show i<m.2.2.2.2.1 by omega),Cx,ha'];rw[Da (by simp;omega),Cx,CO (by omega) (by omega),hi'];simp[F6]
theorem LW(id kind:Int)(hX:∀X,X∈Xs→WB X)(hl:l=pre++n::(Xs.flatten++post))(hm:n.2.2.2.2.1=(Xs.length:Int))(hn:n.1=12)(hx:Xs.length≤1500)(A:List (List Cu))(x:Cu)(Ys:List (List Cu))(B:List (List Cu))(e:Xs=A++(x::Ys.flatten)::B)(hA:∀Y,Y∈A→hid Y≠id)(I8:x.2.1=id)
 (h9:x.1=9) (hY:∀Y,Y∈Ys→WB Y) (Wm:x.2.2.2.2.1=(Ys.length:Int)) (hy:Ys.length≤1500) (hkd:Ys≠[]→x.2.2.1=kind):
 pV k l (pre.length:Int) id kind=(true,F6 (pre.length+2+A.flatten.length) Ys):=by
 have hf:=JO k hk h id hX hl hm hn hx A (x::Ys.flatten) B e hA I8;have hr:=KE k hk h hl e;have hlen:=h.len;have hl2:l=(pre++n::(A.flatten++[x]))++(Ys.flatten++(B.flatten++post)):=by rw[hl,e];simp
 have hpl:(pre++n::(A.flatten++[x])).length=pre.length+2+A.flatten.length:=by simp;omega
 have hll:pre.length+2+A.flatten.length≤l.length:=by rw[←hpl,hl2];simp
 have hloop:=Xw k hk h hr Ys (pre++n::(A.flatten++[x])) (B.flatten++post) k 0 [] hY hl2 (by omega) (by omega) (by omega) (by omega) (by simp;omega);rw[hpl,List.nil_append] at hloop;have hkind:(cond (decide (x.2.2.2.2.1>0)) ((some x).bind fun y7=>some (y7.2.2.1 !=kind)) (some false))=some false:=by
  cases Ys with
  |nil=>rw[Wm];rfl
  |cons Y r=>simp only[Cy,DL (hkd (by simp))];cases decide (x.2.2.2.2.1>0)<;>rfl
 have:Fg k l (pre.length:Int) id kind=some (((),true),F6 (pre.length+2+A.flatten.length) Ys):=by
  unfold Fg;simp only[hf,Cy,CK (show ¬(((pre.length+1+A.flatten.length:Nat):Int)<0) by omega),CB,hr,DL h9];have Nz:=hkind;simp only[Cy] at Nz;rw[Nz];simp only[Cy,CB];rw[CO (by omega) (by omega),←hloop]
  congr 1
  omega
 unfold pV;rw[this];rfl
end
end Go.C7
end
section
namespace Go.C7
open Go.Am Go.Fn
attribute [-simp] List.length_flatten
theorem Jl(id kind:Int){Ys:List (List Cu)}(h:∀Y,Y∈Ys→WB Y):WB (Db id kind Ys):=K7 rfl h
theorem J7(id:Int){Xs:List (List Cu)}(h:∀X,X∈Xs→WB X):WB (Fh id Xs):=K7 rfl h
theorem Ik{α:Type}(f:α→List Cu)(xs:List α)(h:∀x,WB (f x)):∀Y,Y∈xs.map f→WB Y:=by
 intro Y hY;obtain⟨x,_,rfl⟩:=List.mem_map.1 hY;exact h x
theorem MM(ty:Int)(names:List ByteArray)(c:Dg):∀X,X∈Ho ty names c→WB X:=by
 intro X hX;unfold Ho at hX;rcases List.mem_append.1 hX with hX|hX
 ·simp only[List.mem_cons,List.not_mem_nil,or_false] at hX
  rcases hX with rfl|rfl|rfl|rfl|rfl|rfl|rfl|rfl
  ·exact Gi rfl
  ·exact Jl _ _ (Ik _ _ fun e=>Gi rfl)
  ·exact Jl _ _ (Ik _ _ fun e=>Gi rfl)
  all_goals exact Gi rfl
 ·split at hX
  ·cases hX
  ·simp only[List.mem_cons,List.not_mem_nil,or_false] at hX
   subst hX;exact Gi rfl
theorem K6(k:Nat)(s:List Cv)(c:Dg):WB (DW k s c):=by
 refine J7 _ fun X hX=> ?_;simp only[List.mem_cons,List.not_mem_nil,or_false] at hX;rcases hX with rfl|rfl
 ·exact Gi rfl
 ·exact J7 _ (MM _ _ _)
theorem MK(k:Nat)(s:List Cv)(g:CU):WB (DF k s g):=by
 refine J7 _ fun X hX=> ?_;simp only[List.mem_cons,List.not_mem_nil,or_false] at hX;rcases hX with rfl|rfl|rfl
 ·exact Jl _ _ (Ik _ _ fun c=>K6 k s c)
 ·exact Gi rfl
 ·exact Gi rfl
theorem Ov{d:Nat}:∀{B:List Cu},Enc d B→Gv d B:=by
 induction d with
 |zero=>intro B h;exact h.elim
 |succ d ih=>
  intro B h;cases B with
  |nil=>exact h.elim
  |cons n X=>
   have key:∀(c:Nat) (last:Int) (X:List Cu),IX (Enc d) n c last X→Iw (Gv d) c X:=by
    intro c
    induction c with
    |zero=>intro last X h;exact h
    |succ c qW=>intro last X ⟨p,Y,Z,e,_,_,h1,h2⟩;exact⟨p::Y,Z,e,ih h1,qW _ _ h2⟩
   exact key _ _ _ h.2
theorem MI:∀(s:List Cv) (i:Nat),(∀c,c∈s→Ee c=true∧c.1.size≤20∧c.2.2.2.1≤1000)→∀X,X∈Dw i s→WB X
 |[],i,_,X,hX=>by simp[Dw] at hX
 |c::s,i,h,X,hX=>by
  simp only[Dw,List.mem_cons] at hX;rcases hX with rfl|hX
  ·obtain⟨h1,h2,h3⟩:=h c (List.mem_cons_self ..)
   exact⟨2,Ov (Lc h1 h2 h3)⟩
  ·exact MI s (i+1) (fun c hc=>h c (List.mem_cons_of_mem _ hc)) X hX
theorem NS:∀(p:Nat) (Ys:List (List Cu)),(F6 p Ys).length=Ys.length
 |_,[]=>rfl
 |p,Y::r=>by simp[F6,NS (p+Y.length) r]
theorem LY{α:Type}(f:α→Cu){l:List Cu}:∀(xs:List α) (pre post:List Cu),l=pre++((xs.map fun e=>[f e]).flatten++post)→(F6 pre.length (xs.map fun e=>[f e])).map (h_ l)=xs.map fun e=>some (f e)
 |[],_,_,_=>rfl
 |x::xs,pre,post,hl=>by
  have hr:h_ l (pre.length:Int)=some (f x):=by
   have hl2:l=pre++f x::((xs.map fun e=>[f e]).flatten++post):=by rw[hl];simp
   conv=>lhs;rw[hl2]
   exact EY _ _ _
  have:=LY f (l:=l) xs (pre++[f x]) post (by rw[hl];simp);rw[Dq,DZ] at this;simp only[List.map_cons,F6,DZ,hr];rw[this]
section
variable(k:Nat)(hk:2000000≤k){l:List Cu}{af:List Int}(h:Ey l af)
include hk h
theorem Lh{a:Int}{id v:Int}(hf:DT k l a id=some v):fV k l a id=v:=by unfold fV;rw[hf];rfl
theorem OQ(s:List Cv)(c:Dg)(j:Nat)(hc:Jj c j)(hN:(Dh k s (j:Int)).length≤20)(pre post:List Cu)(hl:l=pre++(DW k s c++post)):FC k l s true (pre.length:Int) (j:Int)=true∧Ep k l (pre.length:Int) (j:Int)=c:=by
 have hk2:2000≤k:=by omega
 obtain⟨c1,c2,c3,c4,c5,E,u⟩:=c;obtain⟨hj,ha0,hd0,hm0,hs0,hel,hen⟩:=hc;simp only at hj hd0 hel;subst hj;obtain rfl:u=():=rfl;generalize hc:(((j:Int),c2,c3,c4,c5,E,()):Dg)=c at hl;generalize hP:Ho (DX k s (j:Int)) (Dh k s (j:Int)) c=P;have Jr:=MM (DX k s (j:Int)) (Dh k s (j:Int)) c;rw[hP] at Jr;have hB:DW k s c=DC 0 2::([[CV 2 c2],Fh 3 P].flatten):=by rw[←hP,←hc];rfl
 have hl1:l=pre++DC 0 2::([[CV 2 c2],Fh 3 P].flatten++post):=by rw[hl,hB];rfl
 have hX:∀X,X∈[[CV 2 c2],Fh 3 P]→WB X:=by
  intro X hX;simp only[List.mem_cons,List.not_mem_nil,or_false] at hX;rcases hX with rfl|rfl
  ·exact Gi rfl
  ·exact J7 _ Jr
 have f3:=Lh k hk h (JO k hk2 h 3 hX hl1 rfl rfl (by simp) [[CV 2 c2]] (Fh 3 P) [] rfl (by intro Y hY;simp only[List.mem_cons,List.not_mem_nil,or_false] at hY;subst hY;simp[hid,CV]) rfl);have r3:h_ l ((pre.length+1+[[CV 2 c2]].flatten.length:Nat):Int)=some (DC 3 (P.length:Int)):=KE k hk2 h hl1 (A:=[[CV 2 c2]]) (B:=[]) rfl;have e2:pre.length+1+[[CV 2 c2]].flatten.length=pre.length+2:=by simp[List.length_flatten]
 rw[e2] at f3 r3;have hown:El k l (pre.length:Int)=((pre.length+2:Nat):Int):=by
  unfold El;rw[f3,if_neg (by omega),r3];rfl
 have hl2:l=(pre++[DC 0 2,CV 2 c2])++DC 3 (P.length:Int)::(P.flatten++post):=by rw[hl1];simp[Fh]
 have hpl:(pre++[DC 0 2,CV 2 c2]).length=pre.length+2:=by simp
 have ZC:P.length≤9:=by rw[←hP];exact(Ka _ _ _).1
 have GQ:P=[[C8 1 (DX k s j)],Db 2 5 (E.map fun e=>[C8 0 e]),Db 3 8 ((Dh k s j).map fun t=>[Et 0 t]),[C8 4 0],[CV 5 c4],[CV 6 c5],[CV 7 c5],[CV 9 c2]]++(if c3= -1 then[] else[[CV 11 c3]]):=by
  rw[←hP,←hc];rfl
 have num:∀(id:Int) (A:List (List Cu)) (x:Cu) (B:List (List Cu)),P=A++[x]::B→(A.all fun Y=>hid Y !=id)=true→x.2.1=id→(x.1=5∨x.1=6)→nV k l ((pre.length+2:Nat):Int) id=(x.2.2.1,true):=by
  intro id A x B e hA hx JP;have:=LM k hk2 h id Jr hl2 rfl rfl (by omega) A x B e (fun Y hY=>by have:=List.all_eq_true.1 hA Y hY;simpa using this) hx JP;rw[hpl] at this;exact this
 have prt:∀(id kind:Int) (A:List (List Cu)) (x:Cu) (Ys B:List (List Cu)),P=A++(x::Ys.flatten)::B→(A.all fun Y=>hid Y !=id)=true→x.2.1=id→x.1=9→(∀Y,Y∈Ys→WB Y)→x.2.2.2.2.1=(Ys.length:Int)→Ys.length≤1500→(Ys≠[]→x.2.2.1=kind)→
  pV k l ((pre.length+2:Nat):Int) id kind=(true,F6 (pre.length+2+2+A.flatten.length) Ys):=by
  intro id kind A x Ys B e hA hx h9 hY hm hy hkd;have:=LW k hk2 h id kind Jr hl2 rfl rfl (by omega) A x Ys B e (fun Y hY=>by have:=List.all_eq_true.1 hA Y hY;simpa using this) hx h9 hY hm hy hkd;rw[hpl] at this;exact this
 have NG:∀(Ys:List (List Cu)) (kind:Int),Ys≠[]→(if Ys.length=0 then 0 else kind)=kind:=by
  intro Ys kind hne;rw[if_neg];intro h0;exact hne (List.eq_nil_of_length_eq_zero h0)
 have t:=(if c3= -1 then[] else[[CV 11 c3]]:List (List Cu));have n1:=num 1 [] (C8 1 (DX k s j)) _ (by rw[GQ];rfl) rfl rfl (.inl rfl);have n4:=num 4 [[C8 1 (DX k s j)],Db 2 5 (E.map fun e=>[C8 0 e]),Db 3 8 ((Dh k s j).map fun t=>[Et 0 t])] (C8 4 0) _ (by rw[GQ];rfl) rfl rfl (.inl rfl);have n5:=num 5 [[C8 1 (DX k s j)],Db 2 5 (E.map fun e=>[C8 0 e]),Db 3 8 ((Dh k s j).map fun t=>[Et 0 t]),[C8 4 0]] (CV 5 c4) _ (by rw[GQ];rfl) rfl rfl (.inr rfl);have n6:=num 6 [[C8 1 (DX k s j)],Db 2 5 (E.map fun e=>[C8 0 e]),Db 3 8 ((Dh k s j).map fun t=>[Et 0 t]),[C8 4 0],[CV 5 c4]] (CV 6 c5) _ (by rw[GQ];rfl) rfl rfl (.inr rfl);have n7:=num 7 [[C8 1 (DX k s j)],Db 2 5 (E.map fun e=>[C8 0 e]),Db 3 8 ((Dh k s j).map fun t=>[Et 0 t]),[C8 4 0],[CV 5 c4],[CV 6 c5]] (CV 7 c5) _ (by rw[GQ];rfl) rfl rfl (.inr rfl);have n9:=num 9 [[C8 1 (DX k s j)],Db 2 5 (E.map fun e=>[C8 0 e]),Db 3 8 ((Dh k s j).map fun t=>[Et 0 t]),[C8 4 0],[CV 5 c4],[CV 6 c5],[CV 7 c5]] (CV 9 c2) _ (by rw[GQ];rfl) rfl rfl (.inr rfl);have p2:=prt 2 5 [[C8 1 (DX k s j)]] (9,2,if(E.map fun e=>[C8 0 e]).length=0 then 0 else 5,⟨#[]⟩,((E.map fun e=>[C8 0 e]).length:Int),()) (E.map fun e=>[C8 0 e]) _ (by rw[GQ];rfl) rfl rfl rfl (Ik _ _ fun e=>Gi rfl) rfl (by simp;omega) (NG _ 5);have p3:=prt 3 8 [[C8 1 (DX k s j)],Db 2 5 (E.map fun e=>[C8 0 e])] (9,3,if((Dh k s j).map fun t=>[Et 0 t]).length=0 then 0 else 8,⟨#[]⟩,(((Dh k s j).map fun t=>[Et 0 t]).length:Int),()) ((Dh k s j).map fun t=>[Et 0 t]) _ (by rw[GQ];rfl) rfl rfl rfl (Ik _ _ fun e=>Gi rfl) rfl (by simp;omega) (NG _ 8);have q2:(pV k l ((pre.length+2:Nat):Int) 2 5).2.map (HV l)=E:=by
  rw[p2];have hl3:l=(pre++[DC 0 2,CV 2 c2]++DC 3 (P.length:Int)::([[C8 1 (DX k s j)]].flatten++[((9,2,if(E.map fun e=>[C8 0 e]).length=0 then 0 else 5,⟨#[]⟩,((E.map fun e=>[C8 0 e]).length:Int),()):Cu)]))++((E.map fun e=>[C8 0 e]).flatten++((([Db 3 8 ((Dh k s j).map fun t=>[Et 0 t]),[C8 4 0],[CV 5 c4],[CV 6 c5],[CV 7 c5],[CV 9 c2]]++(if c3= -1 then[] else[[CV 11 c3]])).flatten++post))):=by
   rw[hl2,GQ];simp[Db]
  have hq:=LY (C8 0) E _ _ hl3;have hll:(pre++[DC 0 2,CV 2 c2]++DC 3 (P.length:Int)::([[C8 1 (DX k s j)]].flatten++[((9,2,if(E.map fun e=>[C8 0 e]).length=0 then 0 else 5,⟨#[]⟩,((E.map fun e=>[C8 0 e]).length:Int),()):Cu)])).length=pre.length+2+2+[[C8 1 (DX k s j)]].flatten.length:=by simp
  rw[hll] at hq;have hm:∀L:List Int,L.map (HV l)=(L.map (h_ l)).map (fun o:Option Cu=>(o.map (·.2.2.1)).getD 0):=fun L=>by rw[List.map_map];rfl
  rw[hm,hq,List.map_map];exact List.map_id' E
 have q3:(pV k l ((pre.length+2:Nat):Int) 3 8).2.map (GH l)=Dh k s j:=by
  rw[p3];have hl3:l=(pre++[DC 0 2,CV 2 c2]++DC 3 (P.length:Int)::([[C8 1 (DX k s j)],Db 2 5 (E.map fun e=>[C8 0 e])].flatten++[((9,3,if((Dh k s j).map fun t=>[Et 0 t]).length=0 then 0 else 8,⟨#[]⟩,(((Dh k s j).map fun t=>[Et 0 t]).length:Int),()):Cu)]))++(((Dh k s j).map fun t=>[Et 0 t]).flatten++((([[C8 4 0],[CV 5 c4],[CV 6 c5],[CV 7 c5],[CV 9 c2]]++(if c3= -1 then[] else[[CV 11 c3]])).flatten++post))):=by
   rw[hl2,GQ];simp[Db]
  have hq:=LY (Et 0) (Dh k s j) _ _ hl3;have hll:(pre++[DC 0 2,CV 2 c2]++DC 3 (P.length:Int)::([[C8 1 (DX k s j)],Db 2 5 (E.map fun e=>[C8 0 e])].flatten++[((9,3,if((Dh k s j).map fun t=>[Et 0 t]).length=0 then 0 else 8,⟨#[]⟩,(((Dh k s j).map fun t=>[Et 0 t]).length:Int),()):Cu)])).length=pre.length+2+2+[[C8 1 (DX k s j)],Db 2 5 (E.map fun e=>[C8 0 e])].flatten.length:=by simp;omega
  rw[hll] at hq;have hm:∀L:List Int,L.map (GH l)=(L.map (h_ l)).map (fun o:Option Cu=>(o.map (·.2.2.2.1)).getD ⟨#[]⟩):=fun L=>by rw[List.map_map];rfl
  rw[hm,hq,List.map_map];exact List.map_id' (Dh k s j)
 unfold FC Ep;have g0:¬(((pre.length+2:Nat):Int)<0):=by omega
 rw[hown,if_neg g0,if_neg g0,q2,q3,n1,n4,n5,n6,n7,n9,p2,p3];by_cases h11:c3= -1
 ·have f11:fV k l ((pre.length+2:Nat):Int) 11= -1:=by
   have:=Lh k hk h (VN k hk2 h 11 Jr hl2 rfl rfl (by omega) (by
    intro Y hY;rw[GQ,if_pos h11,DY] at hY;simp only[List.mem_cons,List.not_mem_nil,or_false] at hY;rcases hY with rfl|rfl|rfl|rfl|rfl|rfl|rfl|rfl<;>simp[hid,CV,C8,Db]))
   rw[hpl] at this;exact this
  rw[f11,if_pos (show(-1:Int)<0 by omega),if_pos (show(-1:Int)<0 by omega),←hc,h11];simp[C8,CV]
 ·have f11:=Lh k hk h (JO k hk2 h 11 Jr hl2 rfl rfl (by omega) [[C8 1 (DX k s j)],Db 2 5 (E.map fun e=>[C8 0 e]),Db 3 8 ((Dh k s j).map fun t=>[Et 0 t]),[C8 4 0],[CV 5 c4],[CV 6 c5],[CV 7 c5],[CV 9 c2]] [CV 11 c3] [] (by rw[GQ,if_neg h11]) (fun Y hY=>by
   simp only[List.mem_cons,List.not_mem_nil,or_false] at hY;rcases hY with rfl|rfl|rfl|rfl|rfl|rfl|rfl|rfl<;>simp[hid,CV,C8,Db]) rfl)
  have n11:=num 11 [[C8 1 (DX k s j)],Db 2 5 (E.map fun e=>[C8 0 e]),Db 3 8 ((Dh k s j).map fun t=>[Et 0 t]),[C8 4 0],[CV 5 c4],[CV 6 c5],[CV 7 c5],[CV 9 c2]] (CV 11 c3) [] (by rw[GQ,if_neg h11]) rfl rfl (.inr rfl);rw[hpl] at f11;have g1:∀x:Nat,¬((x:Int)<0):=fun x=>by omega
  rw[f11,if_neg (g1 _),if_neg (g1 _),n11,←hc];simp[C8,CV];exact CP (by omega)
theorem MV(s:List Cv)(hN:∀j:Nat,(Dh k s (j:Int)).length≤20):∀(C:List Dg) (j:Nat) (pre post:List Cu),IW j C→l=pre++((C.map (DW k s)).flatten++post)→
 EX k l s true j (F6 pre.length (C.map (DW k s)))=true∧FD k l j (F6 pre.length (C.map (DW k s)))=C
 |[],j,pre,post,_,_=>⟨rfl,rfl⟩
 |c::C,j,pre,post,⟨hc,hC⟩,hl=>by
  obtain⟨c1,c2⟩:=OQ k hk h s c j hc (hN j) pre ((C.map (DW k s)).flatten++post) (by rw[hl];simp);have:=MV s hN C (j+1) (pre++DW k s c) post hC (by rw[hl];simp);rw[Dq] at this;simp only[List.map_cons,F6,EX,FD,c1,c2,this.1,this.2,ER,and_self]
theorem VO(s:List Cv)(hN:∀j:Nat,(Dh k s (j:Int)).length≤20)(g:CU)(hg:Iy (Dk 0 s).length g)(h20:s.length≤20)(pre post:List Cu)(hl:l=pre++(DF k s g++post)):
 Il k l s (pre.length:Int)=true∧Gj k l (pre.length:Int)=g:=by
 have hk2:2000≤k:=by omega
 obtain⟨rows,C,u⟩:=g;obtain⟨hr,hlen,hC⟩:=hg;obtain rfl:u=():=rfl;simp only at hlen hC;have hll:=Gq 0 s;have hl1:l=pre++DC 0 3::([Db 1 12 (C.map (DW k s)),[CV 2 (F7 0 C)],[CV 3 rows]].flatten++post):=by rw[hl];rfl
 have hX:∀X,X∈[Db 1 12 (C.map (DW k s)),[CV 2 (F7 0 C)],[CV 3 rows]]→WB X:=by
  intro X hX;simp only[List.mem_cons,List.not_mem_nil,or_false] at hX;rcases hX with rfl|rfl|rfl
  ·exact Jl _ _ (Ik _ _ fun c=>K6 k s c)
  ·exact Gi rfl
  ·exact Gi rfl
 have n3:=LM k hk2 h 3 hX hl1 rfl rfl (by simp) [Db 1 12 (C.map (DW k s)),[CV 2 (F7 0 C)]] (CV 3 rows) [] rfl (fun Y hY=>by
  simp only[List.mem_cons,List.not_mem_nil,or_false] at hY;rcases hY with rfl|rfl<;>simp[hid,CV,Db]) rfl (.inr rfl)
 have p1:=LW k hk2 h 1 12 hX hl1 rfl rfl (by simp) [] (9,1,if(C.map (DW k s)).length=0 then 0 else 12,⟨#[]⟩,((C.map (DW k s)).length:Int),()) (C.map (DW k s)) [[CV 2 (F7 0 C)],[CV 3 rows]] rfl (fun Y hY=>by cases hY) rfl rfl (Ik _ _ fun c=>K6 k s c) rfl (by simp;omega) (fun hne=>by
  rw[if_neg];intro h0;exact hne (List.eq_nil_of_length_eq_zero h0))
 have hb:=MV k hk h s hN C 0 (pre++[DC 0 3,(9,1,if(C.map (DW k s)).length=0 then 0 else 12,⟨#[]⟩,((C.map (DW k s)).length:Int),())]) ([[CV 2 (F7 0 C)],[CV 3 rows]].flatten++post) hC (by rw[hl1];simp[Db]);have hpl:(pre++[DC 0 3,((9,1,if(C.map (DW k s)).length=0 then 0 else 12,⟨#[]⟩,((C.map (DW k s)).length:Int),()):Cu)]).length=pre.length+2+([]:List (List Cu)).flatten.length:=by simp
 rw[hpl] at hb;have hpn:=NS (pre.length+2+([]:List (List Cu)).flatten.length) (C.map (DW k s));rw[List.length_map] at hpn;unfold Il Gj;rw[n3,p1];simp only[hb.1,hb.2,hpn,ER,Bool.and_true];exact⟨CP hlen,rfl⟩
theorem groups_back(s:List Cv)(hN:∀j:Nat,(Dh k s (j:Int)).length≤20)(h20:s.length≤20):∀(G:List CU) (pre post:List Cu),(∀g,g∈G→Iy (Dk 0 s).length g)→l=pre++((G.map (DF k s)).flatten++post)→
 (F6 pre.length (G.map (DF k s))).all (Il k l s)=true∧(F6 pre.length (G.map (DF k s))).map (Gj k l)=G
 |[],pre,post,_,_=>⟨rfl,rfl⟩
 |g::G,pre,post,hG,hl=>by
  obtain⟨c1,c2⟩:=VO k hk h s hN g (hG g (List.mem_cons_self ..)) h20 pre ((G.map (DF k s)).flatten++post) (by rw[hl];simp);have:=groups_back s hN h20 G (pre++DF k s g) post (fun x hx=>hG x (List.mem_cons_of_mem _ hx)) (by rw[hl];simp);rw[Dq] at this;simp only[List.map_cons,F6,List.all_cons,c1,c2,this.1,this.2,Bool.and_self,and_self]
theorem O8(s:List Cv)(hs:s.length≤20)(q:Int)(n:Cu)(h1:h_ l q=some n)(hn:n.2.2.2.2.1=(s.length:Int))(hsp:EB k s=some true)(hroot:∀c,s[0]?=some c→c.2.2.1=0)(post:List Cu):∀(rest done:List Cv) (pre:List Cu) (f:Nat) (o:List Cv),
 s=done++rest→l=pre++((Dw done.length rest).flatten++post)→(∀c,c∈rest→Ee c=true∧c.1.size≤20∧c.2.2.2.1≤1000)→rest.length<f→
 FH.l8 k f l q (pre.length:Int) (done.length:Int) o done=some (((),true),s):=by
 have hk2:2000≤k:=by omega
 have hlen:=h.len;intro rest
 induction rest with
 |nil=>
  intro done pre f o hsd hl hc hf;obtain⟨f,rfl⟩:∃j,f=j+1:=⟨f-1,by omega⟩;have:done=s:=by rw[hsd];simp
  subst this;simp only[FH.l8,h1,Cy,hn,CK (show ¬((done.length:Int)<(done.length:Int)) by omega),CB,hsp,C9]
 |cons c rest ih=>
  intro done pre f o hsd hl hc hf;simp only[D9] at hf;obtain⟨f,rfl⟩:∃j,f=j+1:=⟨f-1,by omega⟩;have hsl:s.length=done.length+(rest.length+1):=by rw[hsd];simp
  obtain⟨c1,c2,c3⟩:=hc c (List.mem_cons_self ..);have hl':l=pre++(GN done.length c++((Dw (done.length+1) rest).flatten++post)):=by rw[hl];simp[Dw]
  have hcr:=O6 k hk2 h hl' c1 c2 c3 fun h0=>hroot c (by rw[hsd,List.getElem?_append_right (by omega),h0];rfl);have ha:=MN k hk2 h hl' (Lc c1 c2 c3);have hi:=ih (done++[c]) (pre++GN done.length c) f o (by rw[hsd];simp) (by rw[hl'];simp) (fun x hx=>hc x (List.mem_cons_of_mem _ hx)) (by omega);simp only[FH.l8,h1,Cy,hn,CP (show((done.length:Int)<(s.length:Int)) by omega),Cx,hcr,C9,CB,ha];rw[Da (by simp;omega),Cx,CO (by omega) (by omega),←hi];simp
end
theorem Xi(k:Nat)(hk:2000000≤k)(s:List Cv)(rows:Int)(G:List CU)(hS:Fj s)(hn:∀c,c∈s→c.1.size<k∧c.1.size<1000000000∧CY c.2.2.2.1)(hok:EB k s=some true)(hok2:EZ k s=some true)(hG:G.length≤40)(hg:∀g,g∈G→Iy (Dk 0 s).length g)
 (hm:Ea k (s,rows,G,())=some true) (af:List Int) (h:Ey (FF k s rows G) af) (hT:Iq k (FF k s rows G)=some true):
 E_ k (FF k s rows G)=some ((((),rows,(),()),true),(s,G)):=by
 have hk2:2000≤k:=by omega
 have h20:=hS.2.1;have hN:∀j:Nat,(Dh k s (j:Int)).length≤20:=fun j=>by
  obtain⟨N,e1,e2,e3⟩:=path_eq k s hn hk hS hok hok2 (j:Int);have:Dh k s (j:Int)=N:=by unfold Dh;rw[e1];rfl
  rw[this];exact e3
 have hcf:=JM 0 s;generalize hl:FF k s rows G=l at h hT;have Lm:∀X,X∈[[C8 1 1],Db 2 12 (Dw 0 s),[CV 3 rows],Db 4 12 (G.map (DF k s))]→WB X:=by
  intro X hX;simp only[List.mem_cons,List.not_mem_nil,or_false] at hX;rcases hX with rfl|rfl|rfl|rfl
  ·exact Gi rfl
  ·exact Jl _ _ (MI s 0 (KG hS))
  ·exact Gi rfl
  ·exact Jl _ _ (Ik _ _ fun g=>MK k s g)
 have hl1:l=[]++DC 0 4::([[C8 1 1],Db 2 12 (Dw 0 s),[CV 3 rows],Db 4 12 (G.map (DF k s))].flatten++[]):=by rw[←hl,DY];rfl
 have f2:=JO k hk2 h 2 Lm hl1 rfl rfl (by simp) [[C8 1 1]] (Db 2 12 (Dw 0 s)) [[CV 3 rows],Db 4 12 (G.map (DF k s))] rfl (fun Y hY=>by
  simp only[List.mem_cons,List.not_mem_nil,or_false] at hY;subst hY;decide) rfl
 have r2:=KE k hk2 h hl1 (A:=[[C8 1 1]]) (x:=(9,2,if(Dw 0 s).length=0 then 0 else 12,⟨#[]⟩,((Dw 0 s).length:Int),())) (Y:=(Dw 0 s).flatten) (B:=[[CV 3 rows],Db 4 12 (G.map (DF k s))]) rfl
 have n3:=LM k hk2 h 3 Lm hl1 rfl rfl (by simp) [[C8 1 1],Db 2 12 (Dw 0 s)] (CV 3 rows) [Db 4 12 (G.map (DF k s))] rfl (fun Y hY=>by
  simp only[List.mem_cons,List.not_mem_nil,or_false] at hY;rcases hY with rfl|rfl<;>simp[hid,C8,Db]) rfl (.inr rfl)
 have p4:=LW k hk2 h 4 12 Lm hl1 rfl rfl (by simp) [[C8 1 1],Db 2 12 (Dw 0 s),[CV 3 rows]] (9,4,if(G.map (DF k s)).length=0 then 0 else 12,⟨#[]⟩,((G.map (DF k s)).length:Int),()) (G.map (DF k s)) [] rfl (fun Y hY=>by
  simp only[List.mem_cons,List.not_mem_nil,or_false] at hY
  rcases hY with rfl|rfl|rfl<;>simp[hid,C8,CV,Db]) rfl rfl (Ik _ _ fun g=>MK k s g) rfl (by simp;omega) (fun hne=>by
   rw[if_neg];intro h0;exact hne (List.eq_nil_of_length_eq_zero h0))
 have V8:([]:List Cu).length+1+[[C8 1 1]].flatten.length=2:=by simp[List.length_flatten]
 rw[V8] at f2 r2;have hpos:0<l.length:=by rw[hl1];simp
 have z:((0:Nat):Int)=0:=rfl;simp only[List.length_nil,z] at f2 n3 p4
 have V7:=O8 k hk h s h20 2 _ r2 (by simp[hcf]) hok (fun c hc=>by
  obtain⟨_,_,_,c0,e0,_,e2,_⟩:=hS;rw[e0] at hc;obtain rfl:=Option.some.inj hc;exact e2) ([CV 3 rows]++Db 4 12 (G.map (DF k s))) s [] [DC 0 4,C8 1 1,(9,2,if(Dw 0 s).length=0 then 0 else 12,⟨#[]⟩,((Dw 0 s).length:Int),())] k [] rfl (by rw[hl1];simp[Db]) (KG hS) (by omega)
 have hof:FH k l 0 2=some (((),true),s):=by
  unfold FH;have e12:(if(Dw 0 s).length=0 then(0:Int) else 12)=12:=if_neg (by have:=hS.1;omega);have r2':h_ l ((2:Nat):Int)=some (9,2,12,⟨#[]⟩,((Dw 0 s).length:Int),()):=by rw[r2,e12]
  simp only[f2,Cy,CK (show ¬(((2:Nat):Int)<0) by omega),CB,r2',DL (show(9:Int)=9 from rfl),DL (show(12:Int)=12 from rfl)];exact V7
 obtain⟨n1,_⟩:=Jz k hk2 h 0 hpos 3;obtain⟨b1,_,m1,m2⟩:=HY k hk2 h 0 hpos 4 12;rw[z] at n1 b1 m1 m2;have gb:=groups_back k hk h s hN h20 G ([DC 0 4]++[[C8 1 1],Db 2 12 (Dw 0 s),[CV 3 rows]].flatten++[(9,4,if(G.map (DF k s)).length=0 then 0 else 12,⟨#[]⟩,((G.map (DF k s)).length:Int),())]) [] hg (by rw[hl1];simp[Db]);have hpl:([DC 0 4]++[[C8 1 1],Db 2 12 (Dw 0 s),[CV 3 rows]].flatten++[((9,4,if(G.map (DF k s)).length=0 then 0 else 12,⟨#[]⟩,((G.map (DF k s)).length:Int),()):Cu)]).length=0+2+[[C8 1 1],Db 2 12 (Dw 0 s),[CV 3 rows]].flatten.length:=by
  rw[Dq,Dq,DZ,DZ];omega
 rw[hpl] at gb;have hSp:=N9 k hk h s hn hS hok hok2 ((),0,(),()) (pV k l 0 4 12).2 m1 m2 ((),(nV k l 0 3).1,(),()) [] [] (pV k l 0 4 12).2 [] k [] rfl (by omega) (by simp);rw[List.length_nil,z] at hSp;unfold E_;simp only[hT,Cy,C9,CB,hof,n1,b1];rw[hSp,p4,n3];simp only[gb.1,gb.2,if_true,C9,CB,Cy,List.nil_append];have e3:(CV 3 rows).2.2.1=rows:=rfl;simp only[e3,hm,Cy,C9,CB]
end Go.C7
end
section
namespace Go.C7
open Go.Am Go.Fn
attribute [-simp] List.length_flatten
theorem KU{id x:Int}(h0:CY id)(h1:CY x):DK (C8 id x):=Yp h0 h1
theorem JE{id x:Int}(h0:CY id)(h1:CY x):DK (CV id x):=IU ⟨by omega,by omega⟩ h0 h1 ⟨by omega,by omega⟩ (by decide)
theorem Yo{id:Int}{t:ByteArray}(h0:CY id)(h1:t.size≤1073741824):DK (Et id t):=IU ⟨by omega,by omega⟩ h0 ⟨by omega,by omega⟩ ⟨by omega,by omega⟩ h1
theorem J2{id kind:Int}{Ys:List (List Cu)}(h0:CY id)(h1:CY kind)(hl:Ys.length≤1000000)(h:∀n,n∈Ys.flatten→DK n):∀n,n∈Db id kind Ys→DK n:=by
 intro n hn;rcases List.mem_cons.1 hn with rfl|hn
 ·refine IU ⟨by omega,by omega⟩ h0 ?_ ⟨by omega,by omega⟩ (by decide)
  split
  ·exact⟨by omega,by omega⟩
  ·exact h1
 ·exact h n hn
theorem KW{id:Int}{Ys:List (List Cu)}(h0:CY id)(hl:Ys.length≤1000000)(h:∀n,n∈Ys.flatten→DK n):∀n,n∈Fh id Ys→DK n:=by
 intro n hn;rcases List.mem_cons.1 hn with rfl|hn
 ·exact Yq h0 ⟨by omega,by omega⟩
 ·exact h n hn
theorem KV{α:Type}(f:α→List Cu)(xs:List α)(h:∀x,x∈xs→∀n,n∈f x→DK n):∀n,n∈(xs.map f).flatten→DK n:=by
 intro n hn;obtain⟨Y,hY,hn⟩:=List.mem_flatten.1 hn;obtain⟨x,hx,rfl⟩:=List.mem_map.1 hY;exact h x hx n hn
theorem N_:∀(C:List Dg) (a:Int),CY a→CY (F7 a C)
 |[],a,h=>h
 |c::C,a,h=>N_ C _ ⟨KS _,KR _⟩
theorem Ic{x:Int}(h0: -1000000000≤x)(h1:x≤1000000000):CY x:=Fb h0 h1
section
variable(k:Nat)(hk:2000000≤k)
variable(s:List Cv)(hn:∀c,c∈s→c.1.size<k∧c.1.size<1000000000∧CY c.2.2.2.1)(hS:Fj s)(hok:EB k s=some true)(hok2:EZ k s=some true)
include hk hn hS hok hok2
theorem WU(j:Int):CY (DX k s j):=by
 obtain⟨l,b,e1,_,e3⟩:=JR k s hn hk hS hok hok2 j;have hl:DX k s j=l.1:=by unfold DX;rw[e1];rfl
 rw[hl];cases b with
 |true=>
  obtain⟨L,c,_,hc,_,_,rfl⟩:=e3 rfl;have hcs:=(KG hS c (List.mem_of_getElem? hc)).1;unfold Ee at hcs;simp only[Dn,Bool.or_eq_true,beq_iff_eq,DN] at hcs;show CY c.2.1;rcases hcs.1 with h1|h1
  ·exact Ic (by omega) (by omega)
  ·have:=h1.1
   unfold Gt at this;simp only[Bool.or_eq_true,beq_iff_eq] at this;exact Ic (by omega) (by omega)
 |false=>
  have h2:IL k s j=some ((0,0,0,()),false):=by
   obtain⟨v1,v2⟩:=Hw k (by omega) s (by have:=hS.2.1;omega);have hll:=Gq 0 s;have Gl:=hS.2.1;have hlm:=LC k s hS hn hk hok hok2 j;have uy:=e1;unfold IL H7 at uy⊢;rw[hok] at uy⊢;simp only[Cy,C9,CB,v2,FE] at uy⊢;generalize hlv:Dk 0 s=lv at hll hlm uy⊢;rw[CO (show -9223372036854775808≤(lv.length:Int)-1 by omega) (by omega)] at uy⊢;rcases hlm with⟨L,c,hg,h0,h1,_,hc,h7,hj,m2,m3⟩|⟨hin,_⟩
   ·have hw:(decide (0≤j)&&decide (j≤(lv.length:Int)-1))=true:=by simp;omega
    rw[hw] at uy;simp only[C9,CB,hg,Cy,m2,m3,Dv,hc] at uy;cases uy
   ·have hw:(decide (0≤j)&&decide (j≤(lv.length:Int)-1))=false:=by
     rw[Bool.eq_false_iff];intro h;simp only[Dn,DN] at h;omega
    rw[hw];rfl
  rw[h2] at e1;have:=congrArg (fun o=>(o.map (fun r=>r.1.1)).getD 0) e1;simp at this;rw[←this];exact Ic (by omega) (by omega)
theorem OI(c:Dg)(j:Nat)(hc:Jj c j):∀n,n∈DW k s c→DK n:=by
 obtain⟨N,e1,e2,e3,e4,_⟩:=LX k s hn hk hS hok hok2 c.1;have hN:Dh k s c.1=N:=by unfold Dh;rw[e1];rfl
 have hty:=WU k hk s hn hS hok hok2 c.1;have ha:=hc.OD;have hd:=hc.Le;have hm:=hc.many;have hs:=hc.size;have hel:=hc.el;have hen:=hc.enc;obtain⟨p1,_⟩:=Ka (DX k s c.1) (Dh k s c.1) c;unfold DW;have i3:∀x:Int,0≤x→x≤100→CY x:=fun x h0 h1=>Ic (by omega) (by omega);refine KW (i3 0 (by omega) (by omega)) (by simp) fun n hn'=> ?_;simp only[List.flatten_cons,List.flatten_nil,DY,List.mem_append,List.mem_singleton] at hn';rcases hn' with rfl|hn'
 ·exact JE (i3 _ (by omega) (by omega)) (Ic (by omega) (by omega))
 ·refine KW (i3 3 (by omega) (by omega)) (by omega) (fun n hn'=> ?_) n hn'
  unfold Ho at hn';rw[List.flatten_append,List.mem_append] at hn';rcases hn' with hn'|hn'
  ·simp only[List.flatten_cons,List.flatten_nil,DY,List.mem_append,List.mem_singleton] at hn'
   rcases hn' with rfl|hn'|hn'|rfl|rfl|rfl|rfl|rfl
   ·exact KU (i3 _ (by omega) (by omega)) hty
   ·refine J2 (i3 2 (by omega) (by omega)) (i3 5 (by omega) (by omega)) (by simp;omega) (KV _ _ fun e he n hn'=> ?_) n hn'
    rw[List.mem_singleton] at hn';subst hn';have:=hen e he;exact KU (i3 0 (by omega) (by omega)) (Ic (by omega) (by omega))
   ·refine J2 (i3 3 (by omega) (by omega)) (i3 8 (by omega) (by omega)) (by rw[List.length_map,hN];omega) (KV _ _ fun e he n hn'=> ?_) n hn'
    rw[List.mem_singleton] at hn';subst hn';rw[hN] at he;have:=e4 e he;exact Yo (i3 0 (by omega) (by omega)) (by omega)
   ·exact KU (i3 _ (by omega) (by omega)) (i3 _ (by omega) (by omega))
   all_goals exact JE (i3 _ (by omega) (by omega)) (Ic (by omega) (by omega))
  ·split at hn'
   ·cases hn'
   ·simp only[List.flatten_cons,List.flatten_nil,DY,List.mem_singleton] at hn'
    subst hn';exact JE (i3 _ (by omega) (by omega)) (Ic (by omega) (by omega))
theorem La:∀(C:List Dg) (j:Nat),IW j C→∀c,c∈C→∃i,Jj c i
 |[],_,_,c,hc=>by cases hc
 |x::C,j,⟨h1,h2⟩,c,hc=>by
  rcases List.mem_cons.1 hc with rfl|hc
  ·exact⟨j,h1⟩
  ·exact La C (j+1) h2 c hc
theorem NJ(rows:Int)(G:List CU)(hr:0≤rows∧rows≤200)(hG:G.length≤40)(hg:∀g,g∈G→Iy (Dk 0 s).length g):∀n,n∈FF k s rows G→DK n:=by
 have i3:∀x:Int,0≤x→x≤1000→CY x:=fun x h0 h1=>Ic (by omega) (by omega);have hcl:=JM 0 s;have Gl:=hS.2.1;have hll:=Gq 0 s;unfold FF;refine KW (i3 0 (by omega) (by omega)) (by simp) fun n hn'=> ?_;simp only[List.flatten_cons,List.flatten_nil,DY,List.mem_append,List.mem_singleton] at hn';rcases hn' with rfl|hn'|rfl|hn'
 ·exact KU (i3 _ (by omega) (by omega)) (i3 _ (by omega) (by omega))
 ·exact J2 (i3 2 (by omega) (by omega)) (i3 12 (by omega) (by omega)) (by omega) (O7 s 0 (KG hS)) n hn'
 ·exact JE (i3 _ (by omega) (by omega)) (i3 _ (by omega) (by omega))
 ·refine J2 (i3 4 (by omega) (by omega)) (i3 12 (by omega) (by omega)) (by simp;omega) (KV _ _ fun g hg' n hn'=> ?_) n hn'
  obtain⟨g1,g2,g3⟩:=hg g hg';unfold DF at hn';refine KW (i3 0 (by omega) (by omega)) (by simp) (fun n hn'=> ?_) n hn';simp only[List.flatten_cons,List.flatten_nil,DY,List.mem_append,List.mem_singleton] at hn';rcases hn' with hn'|rfl|rfl
  ·refine J2 (i3 1 (by omega) (by omega)) (i3 12 (by omega) (by omega)) (by simp;omega) (KV _ _ fun c hc n hn'=> ?_) n hn'
   obtain⟨i,hi⟩:=La k hk s hn hS hok hok2 g.2.1 0 g3 c hc;exact OI k hk s hn hS hok hok2 c i hi n hn'
  ·exact JE (i3 _ (by omega) (by omega)) (N_ _ _ (i3 0 (by omega) (by omega)))
  ·exact JE (i3 _ (by omega) (by omega)) (Ic (by omega) (by omega))
end
end Go.C7
end
section
namespace Go.C7
open Go.Am Go.Fn
def Dj(c:CG):Prop:=0≤c.2.1∧c.2.1≤(c.1.length:Int)∧c.1.length≤1048576
variable(k:Nat)
theorem Jm(c:CG)(hc:Dj c):∃v c',GD k c=some (v,c')∧0≤v∧v<256∧Dj c':=by
 obtain⟨h0,h1,h2⟩:=hc;unfold GD GD.c6;by_cases h:c.2.1<(c.1.length:Int)
 ·obtain⟨x,hx,_⟩:=FT h0 h
  simp only[CP h,Cx,hx,Cy];refine⟨_,_,rfl,?_,?_,?_,?_,?_⟩
  ·simp only[J8];omega
  ·simp only[J8];omega
  ·show 0≤IntKind.wrap .i64 (c.2.1+1)
   rw[CO (by omega) (by omega)];omega
  ·show IntKind.wrap .i64 (c.2.1+1)≤(c.1.length:Int)
   rw[CO (by omega) (by omega)];omega
  ·exact h2
 ·simp only[CK h,CB]
  refine⟨_,_,rfl,?_,?_,h0,h1,h2⟩
  ·simp only[J8];omega
  ·simp only[J8];omega
theorem Ej(n:Int)(hn:n<9223372036854775808)(c:CG)(hc:Dj c):∃v c',Eb k n c=some (v,c')∧(n≤0→v=0)∧(0<n→0≤v∧v<n)∧Dj c':=by
 unfold Eb;by_cases h0:n≤0
 ·simp only[CP h0,Cx]
  exact⟨_,_,rfl,fun _=>rfl,fun h=>by omega,hc⟩
 ·have hne:decide (n≠0)=true:=CP (by omega)
  simp only[CK h0,CB,hne,Cx];have fin:∀v:Int,0≤v→0≤Int.tmod v n∧Int.tmod v n<n:=fun v hv=>by
   rw[Int.tmod_eq_emod_of_nonneg hv];exact⟨Int.emod_nonneg _ (by omega),Int.emod_lt_of_pos _ (by omega)⟩
  by_cases Nq:n≤256
  ·simp only[CP Nq,Cx]
   obtain⟨v,c',hv,v0,v1,hc'⟩:=Jm k c hc;simp only[hv,Cy];exact⟨_,_,rfl,fun h=>by omega,fun _=>fin v v0,hc'⟩
  ·simp only[CK Nq,CB]
   obtain⟨v1,c1,hv1,a1,b1,hc1⟩:=Jm k c hc;simp only[hv1,Cy];obtain⟨v2,c2,hv2,a2,b2,hc2⟩:=Jm k c1 hc1;simp only[hv2,Cy];obtain⟨v3,c3,hv3,a3,b3,hc3⟩:=Jm k c2 hc2;simp only[hv3,Cy];obtain⟨v4,c4,hv4,a4,b4,hc4⟩:=Jm k c3 hc3;simp only[hv4,Cy]
   rw[CO (show -9223372036854775808≤v1*16777216 by omega) (by omega),CO (show -9223372036854775808≤v2*65536 by omega) (by omega),CO (show -9223372036854775808≤v1*16777216+v2*65536 by omega) (by omega),
    CO (show -9223372036854775808≤v3*256 by omega) (by omega),CO (show -9223372036854775808≤v1*16777216+v2*65536+v3*256 by omega) (by omega),CO (show -9223372036854775808≤v1*16777216+v2*65536+v3*256+v4 by omega) (by omega)]
   exact⟨_,_,rfl,fun h=>by omega,fun _=>fin _ (by omega),hc4⟩
theorem Je(l:List Int)(hl:0<l.length)(hl2:l.length<1000000)(c:CG)(hc:Dj c):∃v c',Ih k l c=some (v,c')∧v∈l∧Dj c':=by
 unfold Ih;obtain⟨v,c',hv,_,h1,hc'⟩:=Ej k (l.length:Int) (by omega) c hc;obtain⟨h1,h2⟩:=h1 (by omega);simp only[hv,Cy];obtain⟨x,hx,hx2⟩:=FT h1 h2;simp only[hx,Cy];exact⟨_,_,rfl,List.mem_of_getElem? hx2,hc'⟩
theorem JU(n:Int)(hn:n<9223372036854775808)(c:CG)(hc:Dj c):∃v c',IM k n c=some (v,c')∧Dj c':=by
 unfold IM;obtain⟨v,c',hv,_,_,hc'⟩:=Ej k n hn c hc;simp only[hv,Cy];exact⟨_,_,rfl,hc'⟩
theorem OH(t6:Int)(h6:t6≤1000000):∀(m n:Nat) (i:Int) (c:CG) (acc:List Int),Dj c→0≤i→t6-i≤m→m<n→acc.length+m≤4000000→(∀x,x∈acc→0≤x∧x<256)→
 ∃c' out,He.l4 k n t6 i c acc=some ((),(c',out))∧Dj c'∧out.length≤acc.length+m∧∀x,x∈out→0≤x∧x<256:=by
 intro m
 induction m with
 |zero=>
  intro n i c acc hc hi hm hn ha hb;obtain⟨n,rfl⟩:∃j,n=j+1:=⟨n-1,by omega⟩;simp only[He.l4,CK (show ¬i<t6 by omega),CB];exact⟨_,_,rfl,hc,by omega,hb⟩
 |succ m ih=>
  intro n i c acc hc hi hm hn ha hb;obtain⟨n,rfl⟩:∃j,n=j+1:=⟨n-1,by omega⟩;by_cases h:i<t6
  ·obtain⟨v,c1,hv,v0,v1,hc1⟩:=Jm k c hc
   simp only[He.l4,CP h,Cx,hv,Cy];rw[Da (by simp;omega),Cx,w8 v0 v1,CO (by omega) (by omega)]
   obtain⟨c',out,h1,h2,h3,h4⟩:=ih n (i+1) c1 (acc++[v]) hc1 (by omega) (by omega) (by omega) (by simp;omega) (fun x hx=>by
    rcases List.mem_append.1 hx with hx|hx
    ·exact hb x hx
    ·simp at hx;subst hx;exact⟨v0,v1⟩)
   exact⟨c',out,h1,h2,by simp at h3;omega,h4⟩
  ·simp only[He.l4,CK h,CB]
   exact⟨_,_,rfl,hc,by omega,hb⟩
theorem O_(most:Nat)(hm:most<900000)(hk:1000000≤k)(c:CG)(hc:Dj c):∃c' out,He k (most:Int) c=some ((),(c',out))∧Dj c'∧out.length≤most∧∀x,x∈out→0≤x∧x<256:=by
 unfold He;rw[CO (by omega) (by omega)];obtain⟨v,c1,hv,_,h1,hc1⟩:=Ej k ((most:Int)+1) (by omega) c hc;obtain⟨h1,h2⟩:=h1 (by omega);simp only[hv,Cy];obtain⟨c',out,g1,g2,g3,g4⟩:=OH k v (by omega) most k 0 c1 [] hc1 (by omega) (by omega) (by omega) (by simp;omega) (by simp);exact⟨c',out,g1,g2,by simpa using g3,g4⟩
theorem Po(most:Nat)(hm:most<900000)(hk:1000000≤k)(c:CG)(hc:Dj c):∃v c',JW k (most:Int) c=some (v,c')∧Dj c'∧v.size≤most:=by
 unfold JW;obtain⟨c',out,g1,g2,g3,g4⟩:=O_ k most hm hk c hc;simp only[g1,Cy];exact⟨_,_,rfl,g2,by rw[Kt];exact g3⟩
theorem Pk(c:CG)(hc:Dj c):∃v c',KL k c=some (v,c')∧Dj c'∧CY v:=by
 unfold KL;obtain⟨v1,c1,hv1,_,a1,hc1⟩:=Ej k 1000000 (by omega) c hc;have a1:=a1 (by omega);simp only[hv1,Cy];obtain⟨v2,c2,hv2,_,a2,hc2⟩:=Ej k 1000000 (by omega) c1 hc1;have a2:=a2 (by omega);simp only[hv2,Cy];obtain⟨v3,c3,hv3,_,a3,hc3⟩:=Ej k 300 (by omega) c2 hc2;have a3:=a3 (by omega);simp only[hv3,Cy];rw[CO (show -9223372036854775808≤0-v2 by omega) (by omega)];obtain⟨v,c4,hv,hm,hc4⟩:=Je k [0,1,(-1),63,64,(-64),(-65),127,128,16383,16384,2147483647,(-2147483648),9223372036854775807,(-9223372036854775808),4611686018427387904,v1,0-v2,v3] (by simp) (by simp) c3 hc3;simp only[hv,Cy];refine⟨_,_,rfl,hc4,?_⟩;simp only[List.mem_cons,List.not_mem_nil,or_false] at hm;unfold CY;omega
theorem Xo(t:List Int)(ht:t.length≤1048576):∀(m n:Nat) (h i:Int),0≤i→4000-i≤m→m<n→
 ∃c,Hf.l3 k n t h i=some ((),c)∧Dj c:=by
 intro m
 induction m with
 |zero=>
  intro n h i hi hm hn;obtain⟨n,rfl⟩:∃j,n=j+1:=⟨n-1,by omega⟩;simp only[Hf.l3,E8,CK (show ¬i<4000 by omega),Bool.and_false,Cy,CB];exact⟨_,rfl,Int.le_refl _,by simp,ht⟩
 |succ m ih=>
  intro n h i hi hm hn;obtain⟨n,rfl⟩:∃j,n=j+1:=⟨n-1,by omega⟩;by_cases hb:i<(t.length:Int)∧i<4000
  ·obtain⟨x,hx,_⟩:=FT hi hb.1
   simp only[Hf.l3,E8,CP hb.1,CP hb.2,Bool.and_self,Cy,Cx,hx];rw[CO (show -9223372036854775808≤i+1 by omega) (by omega)];exact ih n _ (i+1) (by omega) (by omega) (by omega)
  ·have:(decide (i<(t.length:Int))&&decide (i<4000))=false:=by
    rw[Bool.eq_false_iff];intro hh;simp only[Dn,DN] at hh;exact hb hh
   simp only[Hf.l3,E8,this,Cy,CB];exact⟨_,rfl,Int.le_refl _,by simp,ht⟩
theorem Xp(hk:1000000≤k)(t:List Int)(ht:t.length≤1048576):∃c,Hf k t=some ((),c)∧Dj c:=by
 unfold Hf;exact Xo k t ht 4000 k _ 0 (by omega) (by omega) (by omega)
end Go.C7
end
section
namespace Go.C7
open Go.Am Go.Fn
variable(k:Nat)
theorem Xu(l:List ByteArray)(hl:0<l.length)(hl2:l.length<1000000)(c:CG)(hc:Dj c):∃v c',KJ k l c=some (v,c')∧v∈l∧Dj c':=by
 unfold KJ;obtain⟨v,c',hv,_,h1,hc'⟩:=Ej k (l.length:Int) (by omega) c hc;obtain⟨h1,h2⟩:=h1 (by omega);simp only[hv,Cy];obtain⟨x,hx,hx2⟩:=FT h1 h2;simp only[hx,Cy];exact⟨_,_,rfl,List.mem_of_getElem? hx2,hc'⟩
end Go.C7
end
section
namespace Go.C7
open Go.Am Go.Fn
variable(k:Nat)
def JH(c:Cv):Prop:=c.1.size≤100∧CY c.2.1∧CY c.2.2.1∧CY c.2.2.2.1
def Ex(l:List Cv):Prop:=∀c,c∈l→JH c
theorem Ex.app{a b:List Cv}(h:Ex a)(h':Ex b):Ex (a++b):=fun n hn=>(List.mem_append.1 hn).elim (h n) (h' n)
theorem Ex.one{n:Cv}(h:JH n):Ex [n]:=fun m hm=>by simp at hm;subst hm;exact h
theorem Ex.set{l:List Cv}{i:Nat}{n:Cv}(h:Ex l)(hn:JH n):Ex (l.set i n):=fun m hm=>by
 rcases List.mem_or_eq_of_mem_set hm with hm|rfl
 ·exact h m hm
 ·exact hn
theorem Ex.nil:Ex []:=fun m hm=>(List.not_mem_nil hm).elim
theorem Jg{t r m:Int}{s:ByteArray}(h0:s.size≤100)(h1:CY t)(h2:CY r)(h3:CY m):JH (s,t,r,m,()):=⟨h0,h1,h2,h3⟩
theorem FJ{x:Int}(h0: -1000000000≤x)(h1:x≤1000000000):CY x:=⟨by omega,by omega⟩
def Gd:Nat→Nat
 |0=>1
 |d+1=>1+3*Gd d
theorem Yh(d:Nat):0<Gd d:=by cases d<;>simp[Gd]<;>omega
theorem Yg{d:Nat}(h:d≤3):Gd d≤40:=by
 match d,h with
 |0,_=>decide
 |1,_=>decide
 |2,_=>decide
 |3,_=>decide
abbrev J4(S:ByteArray→Int→CG→List Cv→Option (Unit×CG×List Cv))(deep:Nat):Prop:=
 ∀(name:ByteArray) (c:CG) (acc:List Cv),(deep=0→iI name ⟨#[]⟩=false)→name.size≤2→Dj c→Ex acc→acc.length+Gd deep≤10000→
  ∃c' l',S name (deep:Int) c acc=some ((),(c',l'))∧Dj c'∧Ex l'∧acc.length<l'.length∧l'.length≤acc.length+Gd deep
theorem O1(S:ByteArray→Int→CG→List Cv→Option (Unit×CG×List Cv))(d:Nat)(hd:d≤3)(ih:J4 S d)(many:Int)(hm:many≤3):
 ∀(m n:Nat) (i:Int) (c:CG) (acc:List Cv),0≤i→many-i≤m→m<n→Dj c→Ex acc→acc.length+m*Gd d≤10000→
 ∃c' l',Dy.FP k S n ((d+1:Nat):Int) many i c acc=some ((),(c',l'))∧Dj c'∧Ex l'∧acc.length≤l'.length∧l'.length≤acc.length+m*Gd d:=by
 intro m
 induction m with
 |zero=>
  intro n i c acc hi nU hn hc ha hl;obtain⟨n,rfl⟩:∃j,n=j+1:=⟨n-1,by omega⟩;simp only[Dy.FP,CK (show ¬i<many by omega),CB];exact⟨_,_,rfl,hc,ha,Nat.le_refl _,by omega⟩
 |succ m I9=>
  intro n i c acc hi nU hn hc ha hl;obtain⟨n,rfl⟩:∃j,n=j+1:=⟨n-1,by omega⟩;have hsz:(m+1)*Gd d=m*Gd d+Gd d:=by rw[Nat.add_mul];simp
  by_cases h:i<many
  ·obtain⟨v,c1,e1,_,b1,hc1⟩:=Ej k 4 (by omega) c hc
   have b1:=b1 (by omega);simp only[Dy.FP,CP h,Cx,e1,Cy];have hdw:IntKind.wrap .i64 (((d+1:Nat):Int)-1)=(d:Int):=by rw[CO (by omega) (by omega)];omega
   rw[hdw];have hne:iI (zX [IntKind.wrap .u8 (IntKind.wrap .i64 (97+i)),IntKind.wrap .u8 (IntKind.wrap .i64 (97+v))]) ⟨#[]⟩=false:=by
    rw[G5];refine CK fun hh=> ?_;have:=congrArg ByteArray.size hh;rw[Kt] at this;cases this
   obtain⟨c2,l2,e2,hc2,hw2,hl2,ZG⟩:=ih _ c1 acc (fun _=>hne) (by rw[Kt];exact Nat.le_refl 2) hc1 ha (by omega);simp only[e2,Cy];rw[CO (by omega) (by omega)];obtain⟨c',l',g1,g2,g3,g4,g5⟩:=I9 n (i+1) c2 l2 (by omega) (by omega) (by omega) hc2 hw2 (by omega);exact⟨c',l',g1,g2,g3,by omega,by omega⟩
  ·simp only[Dy.FP,CK h,CB]
   exact⟨_,_,rfl,hc,ha,Nat.le_refl _,by omega⟩
theorem MZ(hk:100≤k)(deep:Nat)(GR:deep≤3)(S:ByteArray→Int→CG→List Cv→Option (Unit×CG×List Cv))(ih:∀d,d+1=deep→J4 S d):J4 (Dy.b k S) deep:=by
 intro name c acc hname hsize hc ha hl;have hp:=Yh deep;have z0:CY 0:=FJ (by omega) (by omega);have z7:CY 7:=FJ (by omega) (by omega);have hset:∀(x y:Cv),List.set (acc++[x]) (Int.toNat (acc.length:Int)) y=acc++[y]:=fun x y=>by
  rw[Int.toNat_natCast,List.set_append_right _ _ (Nat.le_refl _)];simp
 have hget:∀(x:Cv),h_ (acc++[x]) (acc.length:Int)=some x:=fun x=>by
  rw[Dv,List.getElem?_append_right (Nat.le_refl _)];simp
 have leaf:∀(c:CG) (t r:Int),Dj c→t≠7→CY t→CY r→∃c' l',Dy.c4 k S name (deep:Int) c acc (name,t,r,0,())=some ((),(c',l'))∧Dj c'∧Ex l'∧acc.length<l'.length∧l'.length≤acc.length+Gd deep:=by
  intro c t r hc ht h1 h2;unfold Dy.c4;rw[Da (by simp;omega),Cx];simp only[EF ht,Cx];exact⟨_,_,rfl,hc,ha.app (Ex.one (Jg (by omega) h1 h2 z0)),by simp,by simp;omega⟩
 have group:∀(c:CG) (r:Int),0<deep→Dj c→CY r→∃c' l',Dy.c4 k S name (deep:Int) c acc (name,7,r,0,())=some ((),(c',l'))∧Dj c'∧Ex l'∧acc.length<l'.length∧l'.length≤acc.length+Gd deep:=by
  intro c r hd0 hc h2;obtain⟨d,rfl⟩:∃d,deep=d+1:=⟨deep-1,by omega⟩;unfold Dy.c4 Dy.c12;rw[Da (by simp;omega),Cx];obtain⟨v,c1,e1,_,b1,hc1⟩:=Ej k 3 (by omega) c hc;have b1:=b1 (by omega);simp only[DL rfl,CB,e1,Cy,hget,hset];rw[CO (by omega) (by omega)];have hsz:Gd (d+1)=1+3*Gd d:=rfl;have loop:∀y:Cv,JH y→∃c' l',Dy.FP k S k ((d+1:Nat):Int) (1+v) 0 c1 (acc++[y])=some ((),(c',l'))∧Dj c'∧Ex l'∧acc.length<l'.length∧l'.length≤acc.length+Gd (d+1):=by
   intro y hy;obtain⟨c',l',g1,g2,g3,g4,g5⟩:=O1 k S d (by omega) (ih d rfl) (1+v) (by omega) 3 k 0 c1 (acc++[y]) (by omega) (by omega) (by omega) hc1 (ha.app (Ex.one hy)) (by simp;omega);simp at g4 g5;exact⟨c',l',g1,g2,g3,by omega,by omega⟩
  cases iI name ⟨#[]⟩ with
  |true=>simp only[Cx];exact loop _ (Jg (by omega) z7 z0 (FJ (by omega) (by omega)))
  |false=>simp only[CB];exact loop _ (Jg (by omega) z7 h2 (FJ (by omega) (by omega)))
 unfold Dy.b;obtain⟨t,c1,e1,m1,hc1⟩:=Je k [0,1,2,5,6] (by simp) (by simp) c hc;simp only[List.mem_cons,List.not_mem_nil,or_false] at m1;simp only[e1,Cy];obtain⟨r,c2,e2,_,b2,hc2⟩:=Ej k 3 (by omega) c1 hc1;have b2:=b2 (by omega);simp only[e2,Cy];have hI:CY t:=FJ (by omega) (by omega);have hR:CY r:=FJ (by omega) (by omega);cases hn:iI name ⟨#[]⟩ with
 |true=>
  simp only[Cx];have:0<deep:=by
   rcases Nat.eq_zero_or_pos deep with h|h
   ·rw[hname h] at hn;cases hn
   ·exact h
  exact group c2 r this hc2 hR
 |false=>
  simp only[CB];by_cases h:(deep:Int)>0
  ·simp only[CP h,Cx]
   obtain⟨b,c3,e3,hc3⟩:=JU k 3 (by omega) c2 hc2;simp only[e3,Cy];cases b with
   |true=>simp only[Cx];exact group c3 r (by omega) hc3 hR
   |false=>simp only[CB];exact leaf c3 t r hc3 (by omega) hI hR
  ·simp only[CK h,CB]
   exact leaf c2 t r hc2 (by omega) hI hR
theorem Pb(hk:100≤k):∀(deep D:Nat),deep≤3→deep<D→J4 (Dy.rec k D) deep:=by
 intro deep
 induction deep with
 |zero=>
  intro D GR hD;obtain⟨D,rfl⟩:∃j,D=j+1:=⟨D-1,by omega⟩;exact MZ k hk 0 (by omega) _ (fun d h=>by omega)
 |succ deep Lt=>
  intro D GR hD;obtain⟨D,rfl⟩:∃j,D=j+1:=⟨D-1,by omega⟩
  exact MZ k hk (deep+1) GR _ (fun d h=>by
   obtain rfl:d=deep:=by omega
   exact Lt D (by omega) (by omega))
theorem Mi(hk:1000≤k){s:List Cv}(h:Ex s):∀c,c∈s→c.1.size<k∧c.1.size<1000000000∧CY c.2.2.2.1:=fun c hc=>by
 obtain⟨h0,_,_,h3⟩:=h c hc;exact⟨by omega,by omega,h3⟩
theorem M3(hk:100≤k):EB k [(CX,7,0,1,()),((⟨#[97]⟩:ByteArray),2,1,0,())]=some true:=by
 obtain⟨K,rfl⟩:∃q,k=q+100:=⟨k-100,by omega⟩
 kernel_rfl
theorem Pm(hk:1000≤k):∀(m n:Nat) (i:Int) (c:CG),Dj c→0≤i→9-i≤m→m<n→
 ∃c' l,H8.l2 k n i c=some ((),(c',l))∧Dj c'∧Ex l∧0<l.length∧l.length≤40∧EB k l=some true:=by
 intro m
 induction m with
 |zero=>
  intro n i c hc hi hm hn;obtain⟨n,rfl⟩:∃j,n=j+1:=⟨n-1,by omega⟩;simp only[H8.l2,CK (show ¬i<9 by omega),CB];exact⟨_,_,rfl,hc,(Ex.one (Jg (by decide) (FJ (by omega) (by omega)) (FJ (by omega) (by omega)) (FJ (by omega) (by omega)))).app (Ex.one (Jg (by decide) (FJ (by omega) (by omega)) (FJ (by omega) (by omega)) (FJ (by omega) (by omega)))),by simp,by simp,M3 k (by omega)⟩
 |succ m ih=>
  intro n i c hc hi hm hn;obtain⟨n,rfl⟩:∃j,n=j+1:=⟨n-1,by omega⟩;by_cases h:i<9
  ·obtain⟨v,c1,e1,_,b1,hc1⟩:=Ej k 3 (by omega) c hc
   have b1:=b1 (by omega);simp only[H8.l2,CP h,Cx,e1,Cy];rw[CO (by omega) (by omega)];obtain⟨d,hd⟩:∃d:Nat,(d:Int)=1+v:=⟨(1+v).toNat,by omega⟩;rw[←hd];have hs:=Yg (show d≤3 by omega);obtain⟨c2,l,e2,hc2,hw,h1,h2⟩:=Pb k (by omega) d k (by omega) (by omega) ⟨#[]⟩ c1 [] (fun h=>by omega) (by decide) hc1 Ex.nil (by simp;omega);have e2:Dy k ⟨#[]⟩ (d:Int) c1 []=some ((),(c2,l)):=e2;obtain⟨b,s1,_,_⟩:=KF k (by omega) l (Mi k hk hw);simp only[e2,Cy,s1];cases b with
   |true=>
    simp only[Cx];exact⟨_,_,rfl,hc2,hw,by simpa using h1,by simp at h2;omega,s1⟩
   |false=>
    simp only[CB];rw[CO (by omega) (by omega)];exact ih n (i+1) c2 hc2 (by omega) (by omega) (by omega)
  ·simp only[H8.l2,CK h,CB]
   exact⟨_,_,rfl,hc,(Ex.one (Jg (by decide) (FJ (by omega) (by omega)) (FJ (by omega) (by omega)) (FJ (by omega) (by omega)))).app (Ex.one (Jg (by decide) (FJ (by omega) (by omega)) (FJ (by omega) (by omega)) (FJ (by omega) (by omega)))),by simp,by simp,M3 k (by omega)⟩
theorem Pd(hk:1000≤k)(c:CG)(hc:Dj c):∃c' l,H8 k c=some ((),(c',l))∧Dj c'∧Ex l∧l.length≤20∧EB k l=some true∧EZ k l=some true∧Fj l:=by
 obtain⟨c1,l,e1,hc1,hw,hl0,hl,h1⟩:=Pm k hk 9 k 0 c hc (by omega) (by omega) (by omega);obtain⟨b,s1,s2,s3⟩:=KF k (by omega) l (Mi k hk hw);rw[h1] at s1;have hb:b=true:=by simpa using s1.symm
 subst hb;exact⟨c1,l,e1,hc1,hw,(s3 rfl).1.2.1,h1,s2,(s3 rfl).1⟩
end Go.C7
end
section
namespace Go.C7
open Go.Am Go.Fn
variable(k:Nat)
def D7(l:List Cu):Prop:=∀n,n∈l→DK n
theorem D7.app{a b:List Cu}(h:D7 a)(h':D7 b):D7 (a++b):=fun n hn=>(List.mem_append.1 hn).elim (h n) (h' n)
theorem D7.one{n:Cu}(h:DK n):D7 [n]:=fun m hm=>by simp at hm;subst hm;exact h
theorem D7.set{l:List Cu}{i:Nat}{n:Cu}(h:D7 l)(hn:DK n):D7 (l.set i n):=fun m hm=>by
 rcases List.mem_or_eq_of_mem_set hm with hm|rfl
 ·exact h m hm
 ·exact hn
theorem D7.nil:D7 []:=fun m hm=>(List.not_mem_nil hm).elim
theorem Gg{t i n m:Int}{s:ByteArray}(h1:CY t)(h2:CY i)(h3:CY n)(h4:CY m)(h5:s.size≤1073741824):DK (t,i,n,s,m,()):=⟨h1,h2,h3,h4,h5⟩
def sz:Nat→Nat
 |0=>1
 |d+1=>1+18*sz d
abbrev J5(S:Int→Int→Int→CG→List Cu→Option (Unit×CG×List Cu))(deep:Nat):Prop:=
 ∀(kind id:Int) (c:CG) (acc:List Cu),CY kind→CY id→Dj c→D7 acc→acc.length+sz deep≤1000000→
  ∃c' l',S kind id (deep:Int) c acc=some ((),(c',l'))∧Dj c'∧D7 l'∧acc.length<l'.length∧l'.length≤acc.length+sz deep
theorem Fv{x:Int}(h0: -1000000000≤x)(h1:x≤1000000000):CY x:=⟨by omega,by omega⟩
theorem Pe(S:Int→Int→Int→CG→List Cu→Option (Unit×CG×List Cu))(deep:Nat)(GR:deep≤3)(many:Int)(ZH:many≤18)(hS:deep=0→many≤0)
 (ih:∀d,d+1=deep→J5 S d) (t1 item:Int) (V9:CY item):∀(m n:Nat) (next i:Int) (c:CG) (acc:List Cu),0≤i→many-i≤m→m≤18→m<n→0≤next→next≤23*i→Dj c→D7 acc→acc.length+m*sz (deep-1)≤1000000→
 ∃c' l',Di.Ie k S n t1 (deep:Int) many item next i c acc=some ((),(c',l'))∧Dj c'∧D7 l'∧acc.length≤l'.length∧l'.length≤acc.length+m*sz (deep-1):=by
 intro m
 induction m with
 |zero=>
  intro n next i c acc hi hm _ hn hx0 hx1 hc ha hl
  obtain⟨n,rfl⟩:∃j,n=j+1:=⟨n-1,by omega⟩;simp only[Di.Ie,CK (show ¬i<many by omega),CB];exact⟨_,_,rfl,hc,ha,Nat.le_refl _,by omega⟩
 |succ m I9=>
  intro n next i c acc hi hm h18 hn hx0 hx1 hc ha hl
  obtain⟨n,rfl⟩:∃j,n=j+1:=⟨n-1,by omega⟩;by_cases h:i<many
  ·obtain⟨d,hd⟩:∃d,d+1=deep:=by
    rcases Nat.eq_zero_or_pos deep with h0|h0
    ·have:=hS h0;omega
    ·exact⟨deep-1,by omega⟩
   have hS':=ih d hd;have hdw:IntKind.wrap .i64 ((deep:Int)-1)=(d:Int):=by rw[CO (by omega) (by omega)];omega
   have hdd:deep-1=d:=by omega
   rw[hdd] at hl I9⊢;have hsz:(m+1)*sz d=m*sz d+sz d:=by rw[Nat.add_mul];simp
   simp only[Di.Ie,CP h,Cx,hdw];have Ny:IntKind.wrap .i64 (i+1)=i+1:=CO (by omega) (by omega);by_cases h12:t1=12
   ·simp only[Ez h12,Cx]
    obtain⟨v1,c1,e1,m1,hc1⟩:=Je k [1,2,5,6,8,9,12] (by simp) (by simp) c hc;simp only[e1,Cy];obtain⟨v2,c2,e2,_,b2,hc2⟩:=Ej k 3 (by omega) c1 hc1;have b2:=b2 (by omega);simp only[e2,Cy];obtain⟨v3,c3,e3,_,b3,hc3⟩:=Ej k 6 (by omega) c2 hc2;have b3:=b3 (by omega);simp only[e3,Cy];have ht:Int.tdiv v3 5=v3/5:=Int.tdiv_eq_ediv_of_nonneg b3.1
    rw[ht,CO (show -9223372036854775808≤next+1 by omega) (by omega),CO (show -9223372036854775808≤next+1+v2 by omega) (by omega),CO (show -9223372036854775808≤v3/5 by omega) (by omega),
     CO (show -9223372036854775808≤v3/5*20 by omega) (by omega),CO (show -9223372036854775808≤next+1+v2+v3/5*20 by omega) (by omega)]
    have hv1:CY v1:=by simp only[List.mem_cons,List.not_mem_nil,or_false] at m1;exact Fv (by omega) (by omega)
    obtain⟨c4,l4,e4,hc4,hw4,hl4,V_⟩:=hS' v1 (next+1+v2+v3/5*20) c3 acc hv1 (Fv (by omega) (by omega)) hc3 ha (by omega);simp only[e4,Cy,Di.JJ,Ny];obtain⟨c',l',g1,g2,g3,g4,g5⟩:=I9 n (next+1+v2+v3/5*20) (i+1) c4 l4 (by omega) (by omega) (by omega) (by omega) (by omega) (by omega) hc4 hw4 (by omega);exact⟨c',l',g1,g2,g3,by omega,by omega⟩
   ·simp only[Df h12,CB]
    obtain⟨c4,l4,e4,hc4,hw4,hl4,V_⟩:=hS' item 0 c acc V9 (Fv (by omega) (by omega)) hc ha (by omega);simp only[e4,Cy,Di.JJ,Ny];obtain⟨c',l',g1,g2,g3,g4,g5⟩:=I9 n next (i+1) c4 l4 (by omega) (by omega) (by omega) (by omega) (by omega) (by omega) hc4 hw4 (by omega)
    exact⟨c',l',g1,g2,g3,by omega,by omega⟩
  ·simp only[Di.Ie,CK h,CB]
   exact⟨_,_,rfl,hc,ha,Nat.le_refl _,by omega⟩
theorem Yf(d:Nat):0<sz d:=by cases d<;>simp[sz]<;>omega
theorem Me{d:Nat}(h:d≤3):sz d≤6175:=by
 match d,h with
 |0,_=>decide
 |1,_=>decide
 |2,_=>decide
 |3,_=>decide
theorem M4(hk:1000000≤k)(deep:Nat)(GR:deep≤3)(S:Int→Int→Int→CG→List Cu→Option (Unit×CG×List Cu))(ih:∀d,d+1=deep→J5 S d):
 J5 (Di.b k S) deep:=by
 intro kind id c acc hkind hid hc ha hl;have hs0:1+18*sz (deep-1)≤200000:=by have:=Me (show deep-1≤3 by omega);omega
 have c9:∀(c:CG) (n:Cu),Dj c→DK n→∃c' l',Di.c9 k S kind (deep:Int) c acc n=some ((),(c',l'))∧Dj c'∧D7 l'∧acc.length<l'.length∧l'.length≤acc.length+sz deep:=by
  intro c n hc hn;have hp:=Yf deep;unfold Di.c9;rw[Da (by simp;omega),Cx];simp only[E8,Cy];have hset:∀(x y:Cu),List.set (acc++[x]) (Int.toNat (acc.length:Int)) y=acc++[y]:=fun x y=>by
   rw[Int.toNat_natCast,List.set_append_right _ _ (Nat.le_refl _)];simp
  have hget:∀(x:Cu),h_ (acc++[x]) (acc.length:Int)=some x:=fun x=>by
   rw[Dv,List.getElem?_append_right (Nat.le_refl _)];simp
  by_cases zB:(kind !=9&&kind !=12)=true
  ·simp only[zB,Cx]
   exact⟨_,_,rfl,hc,ha.app (D7.one hn),by simp,by simp;omega⟩
  ·simp only[Bool.eq_false_iff.2 zB,CB]
   obtain⟨v0,c0,e0,_,b0,hc0⟩:=Ej k 4 (by omega) c hc;have b0:=b0 (by omega);simp only[e0,Cy];have c18:∀(c:CG) (many:Int),Dj c→0≤many→many≤18→(deep=0→many≤0)→∃c' l',Di.c18 k S kind (deep:Int) (acc.length:Int) many c (acc++[n])=some ((),(c',l'))∧Dj c'∧D7 l'∧acc.length<l'.length∧l'.length≤acc.length+sz deep:=by
    intro c many hc hm0 hm1 hz;unfold Di.c18 Di.J9;obtain⟨v,c1,e1,m1,hc1⟩:=Je k [5,8,6,12,9] (by simp) (by simp) c hc;have hv:CY v:=by simp only[List.mem_cons,List.not_mem_nil,or_false] at m1;exact Fv (by omega) (by omega)
    simp only[e1,Cy,E8,hget,hset];have ZE:many.toNat*sz (deep-1)≤sz deep-1:=by
     rcases Nat.eq_zero_or_pos deep with h0|h0
     ·have:=hz h0
      rw[show many.toNat=0 by omega];simp
     ·obtain⟨d,rfl⟩:∃d,deep=d+1:=⟨deep-1,by omega⟩
      show many.toNat*sz d≤1+18*sz d-1;have:=Nat.mul_le_mul_right (sz d) (show many.toNat≤18 by omega);omega
    have ZL:=Me GR;have loop:∀y:Cu,DK y→∃c' l',Di.Ie k S k kind (deep:Int) many v 0 0 c1 (acc++[y])=some ((),(c',l'))∧Dj c'∧D7 l'∧acc.length<l'.length∧l'.length≤acc.length+sz deep:=by
     intro y hy;obtain⟨c',l',g1,g2,g3,g4,g5⟩:=Pe k S deep GR many hm1 hz ih kind v hv many.toNat k 0 0 c1 (acc++[y]) (by omega) (by omega) (by omega) (by omega) (by omega) (by omega) hc1 (ha.app (D7.one hy)) (by simp;omega);simp at g4 g5;exact⟨c',l',g1,g2,g3,by omega,by omega⟩
    have hw1:DK (n.1,n.2.1,n.2.2.1,n.2.2.2.1,many,()):=Gg hn.1 hn.2.1 hn.2.2.1 (Fv (by omega) (by omega)) hn.2.2.2.2;by_cases hb:(kind==9&&decide (many>0))=true
    ·simp only[hb,Cx]
     exact loop _ (Gg hn.1 hn.2.1 hv (Fv (by omega) (by omega)) hn.2.2.2.2)
    ·simp only[Bool.eq_false_iff.2 hb,CB]
     exact loop _ hw1
   have c16:∀(c:CG) (many:Int),Dj c→0≤many→many≤3→(deep=0→many≤0)→∃c' l',Di.c16 k S kind (deep:Int) (acc.length:Int) many c (acc++[n])=some ((),(c',l'))∧Dj c'∧D7 l'∧acc.length<l'.length∧l'.length≤acc.length+sz deep:=by
    intro c many hc hm0 hm1 hz;unfold Di.c16;obtain⟨v,c1,e1,hc1⟩:=JU k 20 (by omega) c hc;simp only[e1,Cy];cases v with
    |true=>
     simp only[Cx];rw[CO (by omega) (by omega)];exact c18 c1 (many*6) hc1 (by omega) (by omega) (fun h=>by have:=hz h;omega)
    |false=>
     simp only[CB];exact c18 c1 many hc1 hm0 (by omega) hz
   by_cases hd0:(deep:Int)=0
   ·simp only[Ez hd0,Cx]
    exact c16 c0 0 hc0 (by omega) (by omega) (fun _=>by omega)
   ·simp only[Df hd0,CB]
    exact c16 c0 v0 hc0 (by omega) (by omega) (fun h=>by omega)
 have z0:CY 0:=Fv (by omega) (by omega);have es:CX.size≤1073741824:=by decide
 unfold Di.b;by_cases h5:kind=5
 ·simp only[Ez h5,Cx]
  obtain⟨v,c1,e1,_,b1,hc1⟩:=Ej k 1000 (by omega) c hc;have b1:=b1 (by omega);simp only[e1,Cy];rw[CO (by omega) (by omega)];exact c9 c1 _ hc1 (Gg hkind hid (Fv (by omega) (by omega)) z0 es)
 simp only[Df h5,CB];by_cases h6:kind=6
 ·simp only[Ez h6,Cx]
  obtain⟨v,c1,e1,hc1,b1⟩:=Pk k c hc;simp only[e1,Cy];exact c9 c1 _ hc1 (Gg hkind hid b1 z0 es)
 simp only[Df h6,CB];by_cases h8:kind=8
 ·simp only[Ez h8,Cx]
  obtain⟨v,c1,e1,hc1,b1⟩:=Po k 5 (by omega) hk c hc;have e1:JW k 5 c=some (v,c1):=e1;simp only[e1,Cy];exact c9 c1 _ hc1 (Gg hkind hid z0 z0 (by omega))
 simp only[Df h8,CB];exact c9 c _ hc (Gg hkind hid z0 z0 es)
theorem Pj(hk:1000000≤k):∀(deep D:Nat),deep≤3→deep<D→J5 (Di.rec k D) deep:=by
 intro deep
 induction deep with
 |zero=>
  intro D GR hD;obtain⟨D,rfl⟩:∃j,D=j+1:=⟨D-1,by omega⟩;exact M4 k hk 0 (by omega) _ (fun d h=>by omega)
 |succ deep Lt=>
  intro D GR hD;obtain⟨D,rfl⟩:∃j,D=j+1:=⟨D-1,by omega⟩
  exact M4 k hk (deep+1) GR _ (fun d h=>by
   obtain rfl:d=deep:=by omega
   exact Lt D (by omega) (by omega))
theorem Pn(hk:1000000≤k)(c:CG)(hc:Dj c):∃c' l,KM k c=some ((),(c',l))∧Dj c'∧D7 l∧0<l.length∧l.length≤300:=by
 unfold KM;obtain⟨v,c1,e1,_,b1,hc1⟩:=Ej k 3 (by omega) c hc;have b1:=b1 (by omega);simp only[e1,Cy];rw[CO (by omega) (by omega)];obtain⟨d,hd⟩:∃d:Nat,(d:Int)=1+v:=⟨(1+v).toNat,by omega⟩;rw[←hd];have hs:=Me (show d≤3 by omega);obtain⟨c2,l,e2,hc2,hw,h1,h2⟩:=Pj k hk d k (by omega) (by omega) 12 0 c1 [] (Fv (by omega) (by omega)) (Fv (by omega) (by omega)) hc1 D7.nil (by simp;omega);have e2:Di k 12 0 (d:Int) c1 []=some ((),(c2,l)):=e2;simp only[e2,Cy];have z0:CY 0:=Fv (by omega) (by omega);by_cases h:(l.length:Int)>300
 ·simp only[CP h,Cx]
  exact⟨_,_,rfl,hc2,D7.one (Gg (Fv (by omega) (by omega)) z0 z0 z0 (by decide)),by simp,by simp⟩
 ·simp only[CK h,CB]
  exact⟨_,_,rfl,hc2,hw,by simpa using h1,by omega⟩
end Go.C7
end
section
namespace Go.C7
open Go.Am Go.Fn
variable(k:Nat)
theorem O9(hk:1000000≤k):∀(m n:Nat) (i:Int) (c:CG) (acc:List Cu),Dj c→D7 acc→0≤i→12-i≤m→m<n→acc.length+m≤100→
 ∃c' l,Ec.GX k n i c acc=some ((),(c',l))∧Dj c'∧D7 l∧l.length≤acc.length+m+1:=by
 have z0:CY 0:=Fv (by omega) (by omega);have o1:CY 1:=Fv (by omega) (by omega);have es:CX.size≤1073741824:=by decide
 intro m
 induction m with
 |zero=>
  intro n i c acc hc ha hi hm hn hl;obtain⟨n,rfl⟩:∃j,n=j+1:=⟨n-1,by omega⟩;obtain⟨v,c1,e1,_,b1,hc1⟩:=Ej k 2 (by omega) c hc;have b1:=b1 (by omega);simp only[Ec.GX,e1,Cy];rw[CO (by omega) (by omega)];simp only[CK (show ¬i<11+v by omega),CB,Ec.c23];rw[Da (by simp;omega),Cx];exact⟨_,_,rfl,hc1,ha.app (D7.one (Gg o1 o1 z0 z0 es)),by simp⟩
 |succ m ih=>
  intro n i c acc hc ha hi hm hn hl;obtain⟨n,rfl⟩:∃j,n=j+1:=⟨n-1,by omega⟩;obtain⟨v,c1,e1,_,b1,hc1⟩:=Ej k 2 (by omega) c hc;have b1:=b1 (by omega);simp only[Ec.GX,e1,Cy];rw[CO (by omega) (by omega)];by_cases h:i<11+v
  ·have hmin:∃q,KI k i 1=some q∧CY q:=by
    unfold KI;by_cases h1:i<1
    ·simp only[CP h1,Cx];exact⟨_,rfl,Fv (by omega) (by omega)⟩
    ·simp only[CK h1,CB];exact⟨_,rfl,o1⟩
   obtain⟨q,hq,hq2⟩:=hmin;simp only[CP h,Cx,hq,Cy];rw[Da (by simp;omega),Cx,CO (by omega) (by omega)];obtain⟨c',l,g1,g2,g3,g4⟩:=ih n (i+1) c1 (acc++[(12,q,0,CX,1,())]) hc1 (ha.app (D7.one (Gg (Fv (by omega) (by omega)) hq2 z0 o1 es))) (by omega) (by omega) (by omega) (by simp;omega);exact⟨c',l,g1,g2,g3,by simp at g4;omega⟩
  ·simp only[CK h,CB,Ec.c23]
   rw[Da (by simp;omega),Cx];exact⟨_,_,rfl,hc1,ha.app (D7.one (Gg o1 o1 z0 z0 es)),by simp⟩
theorem Pp(hk:1000000≤k)(c:CG)(hc:Dj c):∃c' l,Ec k c=some ((),(c',l))∧Dj c'∧D7 l∧l.length≤1000:=by
 have z0:CY 0:=Fv (by omega) (by omega);have es:CX.size≤1073741824:=by decide
 unfold Ec;obtain⟨c1,l,e1,hc1,hw,hl0,hl⟩:=Pn k hk c hc;simp only[e1,Cy];obtain⟨i,c2,e2,_,b2,hc2⟩:=Ej k (l.length:Int) (by omega) c1 hc1;obtain⟨i0,i1⟩:=b2 (by omega);simp only[e2,Cy];obtain⟨w,c3,e3,_,_,hc3⟩:=Ej k 25 (by omega) c2 hc2;simp only[e3,Cy];obtain⟨y,hy,hy2⟩:=FT i0 i1;have Fu:DK y:=hw y (List.mem_of_getElem? hy2);have hls:∀z,(List.set l i.toNat z).length≤1000:=fun z=>by simp;omega
 by_cases h0:w=0
 ·obtain⟨v,c4,e4,_,b4,hc4⟩:=Ej k 14 (by omega) c3 hc3
  have b4:=b4 (by omega);simp only[Ez h0,Cx,e4,Cy,hy,Ec.c23];exact⟨_,_,rfl,hc4,hw.set (Gg (Fv (by omega) (by omega)) Fu.2.1 Fu.2.2.1 Fu.2.2.2.1 Fu.2.2.2.2),hls _⟩
 simp only[Df h0,CB];by_cases h1:w=1
 ·obtain⟨v,c4,e4,b4,hc4⟩:=Je k [0,1,1000,1001,(-1)] (by simp) (by simp) c3 hc3
  simp only[List.mem_cons,List.not_mem_nil,or_false] at b4;simp only[Ez h1,Cx,e4,Cy,hy,Ec.c23];exact⟨_,_,rfl,hc4,hw.set (Gg Fu.1 (Fv (by omega) (by omega)) Fu.2.2.1 Fu.2.2.2.1 Fu.2.2.2.2),hls _⟩
 simp only[Df h1,CB];by_cases h2:w=2
 ·obtain⟨v,c4,e4,_,b4,hc4⟩:=Ej k 3 (by omega) c3 hc3
  simp only[Ez h2,Cx,Ec.d9,e4,Cy,hy,Ec.c23];exact⟨_,_,rfl,hc4,hw.set (Gg Fu.1 Fu.2.1 Fu.2.2.1 ⟨KS _,KR _⟩ Fu.2.2.2.2),hls _⟩
 simp only[Df h2,CB];by_cases h3:w=3
 ·obtain⟨v,c4,e4,b4,hc4⟩:=Je k [0,1,2147483648,8] (by simp) (by simp) c3 hc3
  simp only[List.mem_cons,List.not_mem_nil,or_false] at b4;simp only[Ez h3,Cx,e4,Cy,hy,Ec.c23];exact⟨_,_,rfl,hc4,hw.set (Gg Fu.1 Fu.2.1 ⟨by omega,by omega⟩ Fu.2.2.2.1 Fu.2.2.2.2),hls _⟩
 simp only[Df h3,CB];by_cases h4:w=4
 ·obtain⟨v,c4,e4,_,b4,hc4⟩:=Ej k 2 (by omega) c3 hc3
  have b4:=b4 (by omega);simp only[Ez h4,Cx,e4,Cy];rw[CO (by omega) (by omega),NQ (by omega) (by omega),Cx];simp only[Cy,hy,Ec.c23];exact⟨_,_,rfl,hc4,hw.set (Gg Fu.1 Fu.2.1 Fu.2.2.1 Fu.2.2.2.1 (by rw[Kt];simp;omega)),hls _⟩
 simp only[Df h4,CB];by_cases h5:w=5
 ·simp only[Ez h5,Cx,Ec.c23]
  rw[Da (by simp;omega),Cx];exact⟨_,_,rfl,hc3,hw.app (D7.one (Gg (Fv (by omega) (by omega)) z0 z0 z0 es)),by simp;omega⟩
 simp only[Df h5,CB];by_cases h6:w=6
 ·simp only[Ez h6,Cx]
  obtain⟨c',l',g1,g2,g3,g4⟩:=O9 k hk 12 k 0 c3 [] hc3 D7.nil (by omega) (by omega) (by omega) (by simp);exact⟨c',l',g1,g2,g3,by simp at g4;omega⟩
 simp only[Df h6,CB,Ec.c23];exact⟨_,_,rfl,hc3,hw,by omega⟩
end Go.C7
end
section
namespace Go.C7
open Go.Am Go.Fn
attribute [-simp] List.length_flatten
variable(k:Nat)
theorem Pq(L7:Int→Int→Int→CG→(Unit×Int×Unit×Unit)→(Unit×Int×Unit×Unit)→(List Cv)→(List CU)→(List Cv)→(List CU)→Option (((Unit×Int×Unit×Unit))×CG×(List Cv)×(List CU)))
 (t4 t5 t6:Int) (h4:t4≤100) (Ct Cw:Unit×Int×Unit×Unit) (Cz:Int×Unit×Unit) (CE:List Cv) (CJ:List CU) (CL:List Cv) (CW:List CU) (h6:CW.length≤1000):
 ∀(m f:Nat) (t8:Int) (c:CG) (acc:List Dg),Dj c→0≤t8→t4-t8≤m→m<f→acc.length+m≤200→(∀x,x∈acc→x.2.2.2.2.2.1.length≤5)→
 ∃c' C,D5.EA k L7 f t4 t5 t6 t8 c Ct Cw Cz CE CJ CL CW acc=L7 t4 t5 (IntKind.wrap .i64 (t6+1)) c' Ct ((),IntKind.wrap .i64 (Cw.2.1+Cz.1),(),()) CE CJ CL (CW++[(Cz.1,C,())])∧Dj c'∧C.length≤200∧∀x,x∈C→x.2.2.2.2.2.1.length≤5:=by
 intro m
 induction m with
 |zero=>
  intro f t8 c acc hc h0 hm hf ha hx;obtain⟨f,rfl⟩:∃q,f=q+1:=⟨f-1,by omega⟩;simp only[D5.EA,CK (show ¬t8<t4 by omega),CB];rw[Da (by simp;omega),Cx];exact⟨c,acc,rfl,hc,by omega,hx⟩
 |succ m ih=>
  intro f t8 c acc hc h0 hm hf ha hx;obtain⟨f,rfl⟩:∃q,f=q+1:=⟨f-1,by omega⟩;by_cases hlt:t8<t4
  ·obtain⟨v1,c1,e1,_,_,k1⟩:=Ej k 3000 (by omega) c hc
   obtain⟨v2,c2,e2,_,_,k2⟩:=Ej k 20 (by omega) c1 k1;obtain⟨v3,c3,e3,_,_,k3⟩:=Ej k 400 (by omega) c2 k2;obtain⟨v4,c4,e4,k4⟩:=JU k 3 (by omega) c3 k3;simp only[D5.EA,CP hlt,Cx,e1,e2,e3,e4,Cy];have hw:IntKind.wrap .i64 (t8+1)=t8+1:=CO (by omega) (by omega);cases v4 with
   |true=>
    obtain⟨v5,c5,e5,_,_,k5⟩:=Ej k 3000 (by omega) c4 k4;simp only[Cx,e5,Cy];unfold D5.c17;rw[Da (by simp;omega),Cx,hw]
    exact ih f (t8+1) c5 _ k5 (by omega) (by omega) (by omega) (by simp;omega) (fun x hx'=>by
     rcases List.mem_append.1 hx' with hx'|hx'
     ·exact hx x hx'
     ·rw[List.mem_singleton] at hx';subst hx';simp)
   |false=>
    simp only[CB];unfold D5.c17;rw[Da (by simp;omega),Cx,hw]
    exact ih f (t8+1) c4 _ k4 (by omega) (by omega) (by omega) (by simp;omega) (fun x hx'=>by
     rcases List.mem_append.1 hx' with hx'|hx'
     ·exact hx x hx'
     ·rw[List.mem_singleton] at hx';subst hx';simp)
  ·simp only[D5.EA,CK hlt,CB]
   rw[Da (by simp;omega),Cx];exact⟨c,acc,rfl,hc,by omega,hx⟩
def Jk(G:List CU):Prop:=∀g,g∈G→g.2.1.length≤200∧∀x,x∈g.2.1→x.2.2.2.2.2.1.length≤5
theorem Pt(hk:1000≤k)(t4 t5:Int)(h4:t4≤100)(h5:t5≤100)(Ct:Unit×Int×Unit×Unit)(Cz:List Cv)(CE:List CU)(CJ:List Cv):
 ∀(m f:Nat) (t6:Int) (c:CG) (Cw:Unit×Int×Unit×Unit) (G:List CU),Dj c→0≤t6→t5-t6≤m→m<f→G.length+m≤200→Jk G→
 ∃rr c' G',D5.l7 k f t4 t5 t6 c Ct Cw Cz CE CJ G=some (rr,(c',CJ,G'))∧Dj c'∧G'.length≤200∧Jk G':=by
 intro m
 induction m with
 |zero=>
  intro f t6 c Cw G hc h0 hm hf ha hx;obtain⟨f,rfl⟩:∃q,f=q+1:=⟨f-1,by omega⟩;simp only[D5.l7,CK (show ¬t6<t5 by omega),CB];exact⟨_,c,G,rfl,hc,by omega,hx⟩
 |succ m ih=>
  intro f t6 c Cw G hc h0 hm hf ha hx;obtain⟨f,rfl⟩:∃q,f=q+1:=⟨f-1,by omega⟩;by_cases hlt:t6<t5
  ·obtain⟨v1,c1,e1,_,_,k1⟩:=Ej k 4 (by omega) c hc
   obtain⟨c2,C,e2,k2,n1,n2⟩:=Pq k (D5.l7 k f) t4 t5 t6 h4 Ct Cw (IntKind.wrap .i64 (1+v1),(),()) Cz CE CJ G (by omega) 100 k 0 c1 [] k1 (by omega) (by omega) (by omega) (by simp) (fun x hx=>by cases hx);simp only[D5.l7,CP hlt,Cx,e1,Cy,e2];rw[CO (x:=t6+1) (by omega) (by omega)]
   exact ih f (t6+1) c2 _ _ k2 (by omega) (by omega) (by omega) (by simp;omega) (fun g hg=>by
    rcases List.mem_append.1 hg with hg|hg
    ·exact hx g hg
    ·rw[List.mem_singleton] at hg;subst hg;exact⟨n1,n2⟩)
  ·simp only[D5.l7,CK hlt,CB]
   exact⟨_,c,G,rfl,hc,by omega,hx⟩
theorem Pg(hk:2000≤k)(c:CG)(hc:Dj c):∃rr c' s G,D5 k c=some (rr,(c',s,G))∧Dj c'∧Ex s∧EB k s=some true∧EZ k s=some true∧Fj s∧G.length≤200∧Jk G:=by
 obtain⟨c1,s,e1,k1,hw,h20,o1,o2,hS⟩:=Pd k (by omega) c hc;obtain⟨_,v2⟩:=Hw k (by omega) s (by omega);have hll:=Gq 0 s;obtain⟨v3,c3,e3,z3,p3,k3⟩:=Ej k 4 (by omega) c1 k1;obtain⟨v4,c4,e4,k4⟩:=JU k 25 (by omega) c3 k3;obtain⟨q0,q1⟩:=p3 (by omega);have key:∀n:Int,n≤40→∃rr c' G,D5.c6 k ((Dk 0 s).length:Int) n c4 ((),0,(),()) ((),0,(),()) s [] [] []=some (rr,(c',s,G))∧Dj c'∧G.length≤200∧Jk G:=by
  intro n hn;unfold D5.c6;exact Pt k (by omega) ((Dk 0 s).length:Int) n (by omega) (by omega) ((),0,(),()) [] [] s 100 k 0 c4 ((),0,(),()) [] k4 (by omega) (by omega) (by omega) (by simp) (fun g hg=>by cases hg)
 unfold D5;simp only[e1,v2,e3,e4,Cy];cases v4 with
 |true=>
  obtain⟨rr,c',G,w1,w2,w3,w4⟩:=key 40 (by omega);simp only[Cx,w1];exact⟨rr,c',s,G,rfl,w2,hw,o1,o2,hS,w3,w4⟩
 |false=>
  obtain⟨rr,c',G,w1,w2,w3,w4⟩:=key v3 (by omega);simp only[CB,w1];exact⟨rr,c',s,G,rfl,w2,hw,o1,o2,hS,w3,w4⟩
theorem VK(hk:2000≤k){G:List CU}(h:Jk G):Fit k G:=fun g hg=>by
 obtain⟨h1,h2⟩:=h g hg;exact⟨by omega,by omega,fun c hc=>by have:=h2 c hc;omega⟩
theorem Ph(hk:2000000≤k)(s:List Cv)(rows:Int)(G:List CU)(hn:∀c,c∈s→c.1.size<k∧c.1.size<1000000000∧CY c.2.2.2.1)(hS:Fj s)(hok:EB k s=some true)(hok2:EZ k s=some true)(hG:G.length≤200)(hf:Jk G):
 (Dz k (s,rows,G,())=some (((),false),[]))∨(∃l,Dz k (s,rows,G,())=some (((),true),l)∧D7 l∧2≤l.length∧l.length≤1500):=by
 have Gl:=hS.2.1;obtain⟨b,m1,m2,_⟩:=LJ k (by omega) s hok hok2 (by omega) rows G (VK k (by omega) hf);cases b with
 |false=>
  refine .inl ?_;unfold Dz;rw[m1];rfl
 |true=>
  obtain⟨g1,g2,g3,_,g4⟩:=NK k (by omega) s rows G (by omega) (by omega) (fun g hg=>by
   obtain⟨h1,h2⟩:=hf g hg;exact⟨by omega,fun c hc=>by have:=h2 c hc;omega⟩) m1
  have he:=Ya k hk s hn hS hok hok2 rows G g1 g4 m1;have hwf:=NJ k hk s hn hS hok hok2 rows G ⟨g2,g3⟩ g1 g4;have hll:=Gq 0 s;obtain⟨q1,_,_⟩:=LG k hk s hn hS hok hok2 rows G g1 fun g hg=>by
   obtain⟨_,h2⟩:=hf g hg;have:=(g4 g hg).len;exact⟨by omega,h2⟩
  obtain⟨b,t1,t2⟩:=Mf k (by omega) _ hwf (by omega);rw[he,t1];simp only[Cy];rcases t2 with⟨rfl,_⟩|⟨rfl,u1,u2,_⟩
  ·exact .inl rfl
  ·refine .inr ⟨_,rfl,hwf,?_,u1⟩
   simp[FF,Fh]
theorem Yn{n:Cu}(h:DK n):(∀x,CY x→DK (n.1,n.2.1,x,n.2.2.2.1,n.2.2.2.2.1,()))∧(∀x,CY x→DK (n.1,x,n.2.2.1,n.2.2.2.1,n.2.2.2.2.1,()))∧(∀x:ByteArray,x.size≤1073741824→DK (n.1,n.2.1,n.2.2.1,x,n.2.2.2.2.1,()))∧(∀x,CY x→DK (x,n.2.1,n.2.2.1,n.2.2.2.1,n.2.2.2.2.1,())):=by
 obtain⟨h1,h2,h3,h4,h5⟩:=h;exact⟨fun x hx=>⟨h1,h2,hx,h4,h5⟩,fun x hx=>⟨h1,hx,h3,h4,h5⟩,fun x hx=>⟨h1,h2,h3,h4,hx⟩,fun x hx=>⟨hx,h2,h3,h4,h5⟩⟩
theorem KX{l:List Cu}(h:D7 l)(i:Nat){n:Cu}(hn:DK n):D7 (l.set i n):=fun m hm=>by
 rcases List.mem_or_eq_of_mem_set hm with hm|rfl
 ·exact h m hm
 ·exact hn
theorem Pf(hk:2000000≤k)(t:List Int)(ht:t.length≤1048576):∃l,FU k t=some ((),l)∧D7 l∧l.length≤1500:=by
 obtain⟨c,e0,hc⟩:=Xp k (by omega) t ht;obtain⟨rr,c1,s,G,e1,k1,hw,o1,o2,hS,hG,hf⟩:=Pg k (by omega) c hc;have hn:=Mi k (by omega) hw;unfold FU;simp only[e0,e1,Cy];rcases Ph k hk s rr.2.1 G hn hS o1 o2 hG hf with e2|⟨l,e2,hl,hl2,hl3⟩
 ·obtain⟨c2,l,e3,_,w1,w2⟩:=Pp k (by omega) c1 k1
  simp only[e2,Cy,Dt,Cx,e3];exact⟨l,rfl,w1,by omega⟩
 ·obtain⟨v3,c3,e3,k3⟩:=JU k 2 (by omega) c1 k1
  simp only[e2,Cy,C9,CB,e3];unfold FU.c16;cases v3 with
  |false=>exact⟨l,rfl,hl,hl3⟩
  |true=>
   rw[CO (show -9223372036854775808≤(l.length:Int)-1 by omega) (by omega)];obtain⟨v4,c4,e4,_,p4,k4⟩:=Ej k ((l.length:Int)-1) (by omega) c3 k3;obtain⟨a0,a1⟩:=p4 (by omega);obtain⟨v5,c5,e5,_,_,k5⟩:=Ej k 5 (by omega) c4 k4;have hi:IntKind.wrap .i64 (1+v4)=1+v4:=CO (by omega) (by omega);obtain⟨n,hr,hr2⟩:=FT (xs:=l) (i:=1+v4) (by omega) (by omega);have hnw:=hl n (List.mem_of_getElem? hr2);obtain⟨q1,q2,q3,q4⟩:=Yn hnw;simp only[Cx,e4,e5,Cy,hi,hr];by_cases h0:v5=0
   ·simp only[Ez h0,Cx]
    exact⟨_,rfl,KX hl _ (q1 _ ⟨KS _,KR _⟩),by simpa using hl3⟩
   simp only[Df h0,CB];by_cases h1:v5=1
   ·obtain⟨v6,c6,e6,_,_,_⟩:=Ej k 2 (by omega) c5 k5
    unfold FU.d11 FU.c16;simp only[Ez h1,Cx,hr,e6,Cy];exact⟨_,rfl,KX hl _ (q2 _ ⟨KS _,KR _⟩),by simpa using hl3⟩
   simp only[Df h1,CB];by_cases h2:v5=2
   ·obtain⟨x,c6,e6,hx,_⟩:=Xu k [(⟨#[97]⟩:ByteArray),CX,(⟨#[97,97]⟩:ByteArray)] (by simp) (by simp) c5 k5
    simp only[Ez h2,Cx,e6,Cy];refine⟨_,rfl,KX hl _ (q3 _ ?_),by simpa using hl3⟩;simp only[List.mem_cons,List.not_mem_nil,or_false] at hx;rcases hx with rfl|rfl|rfl<;>decide
   simp only[Df h2,CB];by_cases h3:v5=3
   ·obtain⟨x,c6,e6,hx,_⟩:=Je k [6,5] (by simp) (by simp) c5 k5
    simp only[Ez h3,Cx,e6,Cy];refine⟨_,rfl,KX hl _ (q4 _ ?_),by simpa using hl3⟩;simp only[List.mem_cons,List.not_mem_nil,or_false] at hx;rcases hx with rfl|rfl<;>exact⟨by omega,by omega⟩
   simp only[Df h3,CB];exact⟨l,rfl,hl,hl3⟩
end Go.C7
end
section
namespace Go.C7
open Go.Am Go.Fn
attribute [-simp] List.length_flatten
variable(k:Nat)
theorem XP(l:List Cv)(hl:l.length<4611686018427387904):∀(m n i:Nat),l.length-i<n→l.length=i+m→Hu.l4 k n l l (i:Int)=some true:=by
 intro m
 induction m with
 |zero=>
  intro n i hn hi;obtain⟨n,rfl⟩:∃j,n=j+1:=⟨n-1,by omega⟩;simp only[Hu.l4,CK (show ¬(i:Int)<(l.length:Int) by omega),CB]
 |succ m ih=>
  intro n i hn hi;obtain⟨n,rfl⟩:∃j,n=j+1:=⟨n-1,by omega⟩;obtain⟨x,hx1,hx2⟩:=FT (xs:=l) (i:=(i:Int)) (by omega) (by omega);have hs:iI x.1 x.1=true:=by rw[G5];simp
  simp only[Hu.l4,CP (show(i:Int)<(l.length:Int) by omega),Cx,hx1,Cy,hs,beq_self_eq_true,Bool.and_self,C9,CB];rw[CO (by omega) (by omega),show((i:Int)+1)=((i+1:Nat):Int) by omega];exact ih n (i+1) (by omega) (by omega)
theorem XQ(l:List Cv)(hl:l.length<k)(hl2:l.length<4611686018427387904):Hu k l l=some true:=by
 unfold Hu;simp only[DL rfl,CB];exact XP k l hl2 l.length k 0 (by omega) (by omega)
end Go.C7
end
section
namespace Go.C7
open Go.Am Go.Fn
theorem fnMetaFrom(x:List Int):∃k,LA k x=some true:=by
 refine⟨3000000,?_⟩;generalize hk:3000000=k;have hk':2000000≤k:=by omega
 clear hk;unfold LA LB;simp only[Cy];by_cases hbig:(x.length:Int)>1048576
 ·simp only[CP hbig,Cx]
 simp only[CK hbig,CB];obtain⟨l,e1,hw,hl⟩:=Pf k hk' x (by omega);obtain⟨r,m1,m2,m3,m4,m5,m6,m7⟩:=LH k hk' l hw (by omega);simp only[e1,m1,m2,Cy,beq_self_eq_true,C9,CB];obtain⟨⟨hd,b⟩,s,G⟩:=r;simp only at m3 m4 m5 m6 m7⊢;cases b with
 |false=>
  have e:=m3 rfl;simp only[IJ,Prod.mk.injEq] at e;obtain⟨⟨rfl,_⟩,rfl,rfl⟩:=e;rfl
 |true=>
  obtain⟨_,rows,_,_⟩:=hd;obtain⟨hS,hok,hok2,hn,JS⟩:=m7 rfl;simp only at JS;have Gl:=hS.2.1
  obtain⟨g1,g2,g3,_,g4⟩:=NK k (by omega) s rows G (by omega) (by omega) (fun g hg=>by
   obtain⟨h1,h2⟩:=m6 g hg;exact⟨by omega,fun c hc=>by have:=h2 c hc;omega⟩) JS
  have hfit:Fit k G:=fun g hg=>by
   obtain⟨h1,h2⟩:=m6 g hg;exact⟨by omega,by omega,fun c hc=>by have:=h2 c hc;omega⟩
  obtain⟨bb,o1,o2,_⟩:=LJ k (by omega) s hok hok2 (by omega) rows G hfit;rw[JS] at o1;obtain rfl:bb=true:=(Option.some.inj o1).symm;have hll:=Gq 0 s;have hch:∀g,g∈G→g.2.1.length≤20∧∀c,c∈g.2.1→c.2.2.2.2.2.1.length≤5∧-1≤c.2.2.1:=fun g hg=>by
   have hg4:=g4 g hg;have hlen:=hg4.len;refine⟨by omega,fun c hc=> ?_⟩;obtain⟨i,hi⟩:=La k hk' s hn hS hok hok2 g.2.1 0 hg4.K9 c hc;exact⟨hi.el.2,hi.Le.1⟩
  have hT:=Xj k hk' s hn hS hok hok2 rows G g1 hch o2;have hwf:=NJ k hk' s hn hS hok hok2 rows G ⟨g2,g3⟩ g1 g4;obtain⟨q1,_,_⟩:=LG k hk' s hn hS hok hok2 rows G g1 fun g hg=>⟨(hch g hg).1,fun c hc=>((hch g hg).2 c hc).1⟩;obtain⟨t,t1,t2⟩:=Mf k (by omega) _ hwf (by omega);simp only[C9,CB,hT,o2];rcases t2 with⟨rfl,y,hy⟩|⟨rfl,u1,u2,af,u3,u4,_⟩
  ·have hI:Ja k (FF k s rows G)=some false:=by unfold Ja;rw[hy];rfl
   obtain⟨r0,_,n2,_⟩:=LH k hk' [] (fun n hn=>by cases hn) (by simp);simp only[hI,Cy,Dt,Cx,n2]
  ·have hI:Ja k (FF k s rows G)=some true:=by unfold Ja;rw[u3];rfl
   have hB:=Xi k hk' s rows G hS hn hok hok2 g1 g4 JS af ⟨u1,u2,u4,hwf⟩ t1;obtain⟨r0,n1,n2,_⟩:=LH k hk' _ hwf (by omega);rw[hB] at n1;obtain rfl:=Option.some.inj n1;have hsame:=XQ k s (by omega) (by omega);simp only[hI,Cy,C9,CB,Cx,n2,beq_self_eq_true,hsame]
end Go.C7
end
