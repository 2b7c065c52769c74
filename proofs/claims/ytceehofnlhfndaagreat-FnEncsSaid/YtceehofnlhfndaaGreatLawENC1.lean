/- plain laws of the claim's functions -/
import Derived.Test.YtceehofnlhfndaaGreatLawENC0
import Derived.Test.YtceehofnlhfndaaGreatENCF0
set_option linter.unnecessarySimpa false
set_option linter.unusedSimpArgs false
set_option linter.unusedVariables false
set_option linter.unusedSectionVars false
section
namespace Go.A9
open Go.Am Go.Fn
attribute [-simp] List.length_flatten
variable(k:Nat)
theorem and_one(a:Nat)(ha:a<2^62):bits .and .i64 (a:Int) 1=((a%2:Nat):Int):=by
 simp only[bits,BitVec.ofInt_natCast,BitVec.toNat_and,BitVec.toNat_ofNat];have h1:(BitVec.ofInt IntKind.i64.bits 1).toNat=1:=by decide
 rw[h1,Nat.mod_eq_of_lt (show a<2^IntKind.i64.bits from Nat.lt_of_lt_of_le ha (by decide)),Nat.and_one_is_mod];exact AV (by omega) (by omega)
theorem Yl(v:Int)(h0:0≤v)(w:Nat)(hw:w≤62)(h1:v<2^w):∃m:Int,D5 k v=some m∧m≤(w:Int):=by
 have I1:(2:Int)^w≤2^62:=by exact_mod_cast(Nat.pow_le_pow_right (by decide) hw:(2:Nat)^w≤2^62)
 have hv:IntKind.wrap .u64 v=((v.toNat:Nat):Int):=by rw[EJ];omega
 have hwd:D5 k v=some (Ch v.toNat:Int):=by
  unfold D5;rw[hv,Jd k v.toNat (by omega)];rfl
 refine⟨_,hwd,?_⟩;have hlt:v.toNat<2^w:=by
  have:((v.toNat:Nat):Int)<((2^w:Nat):Int):=by
   rw[Int.toNat_of_nonneg h0]
   exact_mod_cast h1
  exact_mod_cast this
 have:=(IL (u:=v.toNat) (w:=w) (by omega) (by omega)).2 hlt;omega
theorem JA{v:Int}(h0:0≤v)(h1:v<2^62):u64 v=v.toNat:=by unfold u64;omega
theorem Xr(hk:3000≤k)(pre post:List Int)(x:Int)(w:Nat)(hw:w≤24)(h0:0≤x)(h1:x<2^w)(hl:pre.length+post.length<1000000000)(hb1:Bq pre)(hb2:Bq post):
 G_ k (pre++(leB (bytesOf 1 w) (u64 x)++post)) (pre.length:Int) (w:Int)=some (x,((pre.length+bytesOf 1 w:Nat):Int),true):=by
 unfold G_;rcases Nat.eq_zero_or_pos w with hz|hz
 ·subst hz
  have:x=0:=by simp at h1;omega
  subst this;rfl
 ·have VE:(2:Int)^w≤2^24:=by exact_mod_cast(Nat.pow_le_pow_right (by decide) hw:(2:Nat)^w≤2^24)
  have hb:1≤bytesOf 1 w∧bytesOf 1 w≤3:=by unfold bytesOf;omega
  have hr:=IC k (by omega) pre post (bytesOf 1 w) (u64 x) (by omega) hb.1 (by omega) hb1 hb2;have hm:u64 x%256^bytesOf 1 w=u64 x:=by
   apply Nat.mod_eq_of_lt;rw[JA h0 (by omega)];have hle:(2:Nat)^w≤256^bytesOf 1 w:=by
    rw[show(256:Nat)=2^8 by rfl,←Nat.pow_mul];exact Nat.pow_le_pow_right (by decide) (by unfold bytesOf;omega)
   have:((x.toNat:Nat):Int)<((2^w:Nat):Int):=by rw[Int.toNat_of_nonneg h0];exact_mod_cast h1
   have:x.toNat<2^w:=by exact_mod_cast this
   omega
  have hx:IntKind.wrap .i64 ((u64 x:Nat):Int)=x:=by rw[JA h0 (by omega),AV (by omega) (by omega)];omega
  rw[hm,hx] at hr;obtain⟨m,m1,m2⟩:=Yl k x h0 w (by omega) h1;simp only[A_ (show ¬(w:Int)=0 by omega),AU,(Kn k w hw).1,AR,hr,Bh,m1,AY (show ¬m>(w:Int) by omega)]
theorem Xv(hk:1000000≤k)(l:List Int)(hl:l.length≤2000)(w:Nat)(hw:w≤24)(hv:∀x,x∈l→0≤x∧x<2^w)(post:List Int)(hb2:Bq post)(hpost:post.length<10000000):∀(f n p:Nat) (pre:List Int),l.length-p≤f→f<n→p≤l.length→Bq pre→pre.length+40*(l.length-p)<10000000→
 Cb.l4 k n (pre++(Bu w f (l.drop p)++post)) (pre.length:Int) (l.length:Int) (w:Int) (l.take p)=some (((),((pre.length+(Bu w f (l.drop p)).length:Nat):Int),true),l):=by
 have VE:(2:Int)^w≤2^24:=by exact_mod_cast(Nat.pow_le_pow_right (by decide) hw:(2:Nat)^w≤2^24)
 intro f
 induction f with
 |zero=>
  intro n p pre hf hn hp hb1 hpre;obtain⟨n,rfl⟩:∃q,n=q+1:=⟨n-1,by omega⟩;have ht:l.take p=l:=List.take_of_length_le (by omega);rw[ht];simp only[Cb.l4,AY (show ¬(l.length:Int)<(l.length:Int) by omega),AU,Bu,List.length_nil,Nat.add_zero]
 |succ f ih=>
  intro n p pre hf hn hp hb1 hpre;obtain⟨n,rfl⟩:∃q,n=q+1:=⟨n-1,by omega⟩;by_cases hlt:p<l.length
  ·have hdl:(l.drop p).length=l.length-p:=List.length_drop
   have htl:(l.take p).length=p:=by rw[List.length_take];omega
   match hd:l.drop p with
   |[]=>rw[hd] at hdl;simp at hdl;omega
   |x::r=>
    rw[hd] at hdl;have hxm:x∈l:=List.mem_of_mem_drop (i:=p) (by rw[hd];simp);obtain⟨x0,x1⟩:=hv x hxm;have hal:=IG (x::r);have hdrop:∀m,l.drop (p+m)=(x::r).drop m:=fun m=>by rw[←hd,List.drop_drop]
    have Ga:IntKind.wrap .i64 ((l.length:Int)-((l.take p).length:Int))=((l.length-p:Nat):Int):=by rw[htl,AV (by omega) (by omega)];omega
    have hlen:=FL w hw (f+1) (x::r);simp only[Bu] at hlen⊢;by_cases h8:8≤Bl (x::r)
    ·rw[if_pos h8] at hlen⊢
     have hu:=CE ((2*Bl (x::r):Nat):Int);have YD:bytesOf 1 w≤3:=by unfold bytesOf;omega
     generalize hR:Bu w f ((x::r).drop (Bl (x::r)))=R at hlen⊢;have hRb:Bq R:=by rw[←hR];exact Gp w f _
     rw[A8,A8,Bt] at hlen;generalize hU:uv ((2*Bl (x::r):Nat):Int)=U at hlen hu⊢;have IZ:Bq U:=by rw[←hU];exact FY _
     have hbl:(pre++(((U++leB (bytesOf 1 w) (u64 x))++R)++post)).length=pre.length+(U.length+bytesOf 1 w+R.length+post.length):=by simp[Bt];omega
     have hg:=Kw k (by omega) (pre++(((U++leB (bytesOf 1 w) (u64 x))++R)++post)) pre.length ((2*Bl (x::r):Nat):Int) (leB (bytesOf 1 w) (u64 x)++(R++post)) (by omega) (by rw[List.drop_left' rfl,hU];simp) (by omega) (by omega);rw[hU] at hg;have hrn:=Xr k (by omega) (pre++U) (R++post) x w hw x0 x1 (by simp only[A8];omega) (CJ hb1 IZ) (CJ hRb hb2);rw[show(pre++U)++(leB (bytesOf 1 w) (u64 x)++(R++post))=pre++(((U++leB (bytesOf 1 w) (u64 x))++R)++post) by simp,A8] at hrn;have hho:IntKind.wrap .i64 (qW .u64 (IntKind.wrap .u64 ((2*Bl (x::r):Nat):Int)) 1)=((Bl (x::r):Nat):Int):=by
      rw[JZ _ ⟨by omega,by omega⟩,JA (by omega) (by omega),Int.toNat_natCast,Nat.mul_div_cancel_left _ (by decide)]
     have hev:(bits .and .i64 ((2*Bl (x::r):Nat):Int) 1==0)=true:=by
      rw[and_one _ (by omega),Nat.mul_mod_right];rfl
     have hmin:(if((l.length-p:Nat):Int)<((Bl (x::r):Nat):Int) then((l.length-p:Nat):Int) else((Bl (x::r):Nat):Int))=((Bl (x::r):Nat):Int):=if_neg (by omega);have hrep:=LB k (Cb.l4 k n) (pre++(((U++leB (bytesOf 1 w) (u64 x))++R)++post)) (l.length:Int) (w:Int) x ((pre.length+U.length+bytesOf 1 w:Nat):Int) (Bl (x::r)) (by omega) (Bl (x::r)) k 0 (l.take p) (by omega) (by omega) (by omega);rw[show((0:Nat):Int)=0 from rfl] at hrep;have htk:l.take p++List.replicate (Bl (x::r)) x=l.take (p+Bl (x::r)):=by
      rw[List.take_add,hd,M8]
     have hih:=ih n (p+Bl (x::r)) ((pre++U)++leB (bytesOf 1 w) (u64 x)) (by omega) (by omega) (by omega) (CJ (CJ hb1 IZ) (F_ _ _)) (by simp only[A8,Bt];omega);rw[hdrop,hR] at hih;rw[show((pre++U)++leB (bytesOf 1 w) (u64 x))++(R++post)=pre++(((U++leB (bytesOf 1 w) (u64 x))++R)++post) by simp] at hih;simp only[A8,Bt] at hih;simp only[Cb.l4,htl,AX (show(p:Int)<(l.length:Int) by omega),AQ,hg,AR,Bh,AU,hev,hrn,hho];rw[htl] at Ga;rw[Ga,hmin,hrep,htk,hih]
     congr 4
     simp only[A8,Bt];omega
    ·rw[if_neg h8] at hlen⊢
     have hu:=CE ((2*Bf (x::r)+1:Nat):Int);have hg2:8*Bf (x::r)<(x::r).length+8:=by
      have:=GV (x::r).length ((x::r).drop 8);rw[List.length_drop] at this;unfold Bf;simp only[Bn] at this⊢;omega
     have hg1:1≤Bf (x::r):=by unfold Bf;omega
     generalize hG:Bf (x::r)=G at*;have H_:G*w≤G*24:=Nat.mul_le_mul_left _ hw;generalize hR:Bu w f ((x::r).drop (8*G))=R at hlen⊢;have hRb:Bq R:=by rw[←hR];exact Gp w f _
     rw[A8,A8,Gh,Es,F9] at hlen;generalize hU:uv ((2*G+1:Nat):Int)=U at hlen hu⊢;have IZ:Bq U:=by rw[←hU];exact FY _
     have IY:(Bw w (pad (8*G) (x::r))).length=G*w:=by rw[Gh,Es,F9]
     have hPb:Bq (Bw w (pad (8*G) (x::r))):=F_ _ _;have hP:Bw w (pad (8*G) (x::r))=leB (G*w) (Cy w (pad (8*G) (x::r))):=by unfold Bw;rw[Es,F9]
     have hbl:(pre++(((U++Bw w (pad (8*G) (x::r)))++R)++post)).length=pre.length+(U.length+G*w+R.length+post.length):=by simp only[A8,IY]
     have hg:=Kw k (by omega) (pre++(((U++Bw w (pad (8*G) (x::r)))++R)++post)) pre.length ((2*G+1:Nat):Int) (Bw w (pad (8*G) (x::r))++(R++post)) (by omega) (by rw[List.drop_left' rfl,hU];simp) (by omega) (by omega);rw[hU] at hg;have hho:IntKind.wrap .i64 (qW .u64 (IntKind.wrap .u64 ((2*G+1:Nat):Int)) 1)=(G:Int):=by
      rw[JZ _ ⟨by omega,by omega⟩,JA (by omega) (by omega),Int.toNat_natCast]
      congr 1
      omega
     have hev:(bits .and .i64 ((2*G+1:Nat):Int) 1==0)=false:=by
      rw[and_one _ (by omega),show(2*G+1)%2=1 by omega];rfl
     have e8:IntKind.wrap .i64 (8*(G:Int))=((8*G:Nat):Int):=by rw[AV (by omega) (by omega)];omega
     have hmin:(if((l.length-p:Nat):Int)<((8*G:Nat):Int) then((l.length-p:Nat):Int) else((8*G:Nat):Int))=((min (8*G) (l.length-p):Nat):Int):=by split<;>omega
     have IU:IntKind.wrap .i64 ((G:Int)*(w:Int))=((G*w:Nat):Int):=by
      rw[show(G:Int)*(w:Int)=((G*w:Nat):Int) by simp,AV (by omega) (by omega)]
     have JQ:IntKind.wrap .i64 (((pre++(((U++Bw w (pad (8*G) (x::r)))++R)++post)).length:Int)-((pre.length+U.length:Nat):Int))=((G*w+R.length+post.length:Nat):Int):=by rw[hbl,AV (by omega) (by omega)];omega
     have IW:IntKind.wrap .i64 (((pre.length+U.length:Nat):Int)+((G*w:Nat):Int))=((pre.length+U.length+G*w:Nat):Int):=by rw[AV (by omega) (by omega)];omega
     have Vs:min (8*G) (l.length-p)*w≤8*(G*w):=by rw[←Nat.mul_assoc];exact Nat.mul_le_mul_right _ (by omega)
     have hun:=Iy k (pre++U) (R++post) (G*w) (Cy w (pad (8*G) (x::r))) w (min (8*G) (l.length-p)) (by omega) Vs (by rw[A8];omega) (by omega) (by omega) (by omega)
     rw[Ku w (pad (8*G) (x::r)) (fun v h=>by
      have hv':0≤v∧v<2^w:=by
       unfold pad at h;rcases List.mem_append.1 h with h|h
       ·exact hv v (List.mem_of_mem_drop (i:=p) (by rw[hd];exact List.mem_of_mem_take h))
       ·obtain⟨_,rfl⟩:=List.mem_replicate.1 h
        exact⟨by omega,Int.pow_pos (by decide)⟩
      refine⟨⟨by omega,by omega⟩,?_⟩;have:((u64 v:Nat):Int)=v:=by rw[E9];omega
      exact_mod_cast(show((u64 v:Nat):Int)<2^w by omega)) _ (by rw[Es];omega),←hP] at hun
     rw[show(pre++U)++(Bw w (pad (8*G) (x::r))++(R++post))=pre++(((U++Bw w (pad (8*G) (x::r)))++R)++post) by simp,A8] at hun;have htk:l.take p++(pad (8*G) (x::r)).take (min (8*G) (l.length-p))=l.take (min (p+8*G) l.length):=by
      have h1:(pad (8*G) (x::r)).take (min (8*G) (l.length-p))=(x::r).take (min (8*G) (l.length-p)):=by
       unfold pad;rw[List.take_append_of_le_length (by rw[List.length_take];omega),List.take_take]
       congr 1
       omega
      rw[h1,←hd,←List.take_add]
      congr 1
      omega
     have tQ:l.drop (min (p+8*G) l.length)=(x::r).drop (8*G):=by
      by_cases hc:p+8*G≤l.length
      ·rw[Nat.min_eq_left hc,hdrop]
      ·rw[Nat.min_eq_right (by omega),List.drop_length,List.drop_of_length_le (by omega)]
     have hih:=ih n (min (p+8*G) l.length) ((pre++U)++Bw w (pad (8*G) (x::r))) (by omega) (by omega) (by omega) (CJ (CJ hb1 IZ) hPb) (by simp only[A8,IY];omega);rw[tQ,hR] at hih;rw[show((pre++U)++Bw w (pad (8*G) (x::r)))++(R++post)=pre++(((U++Bw w (pad (8*G) (x::r)))++R)++post) by simp] at hih;simp only[A8,IY] at hih;have YF:((pad (8*G) (x::r)).take (min (8*G) (l.length-p))).length≤8*G:=by rw[List.length_take,Es];omega
     rw[htl] at Ga;simp only[Cb.l4,htl,AX (show(p:Int)<(l.length:Int) by omega),AQ,hg,AR,Bh,AU,hev,hho,AY (show ¬(G:Int)>2000 by omega),IU,JQ,AY (show ¬((G*w:Nat):Int)>((G*w+R.length+post.length:Nat):Int) by omega),e8,Ga,hmin,hun,IW];rw[Bc (by omega),AQ,htk,hih]
     congr 4
     simp only[A8,IY];omega
  ·have:p=l.length:=by omega
   subst this;rw[List.take_length,List.drop_length];simp only[Cb.l4,AY (show ¬(l.length:Int)<(l.length:Int) by omega),AU,Bu,List.length_nil,Nat.add_zero]
def D8(l:List Int)(w:Int):Bool:=decide (l.length≤2000)&&decide (0≤w)&&decide (w≤24)&&l.all (fun x=>decide (0≤x)&&decide (x<2^w.toNat))
theorem Jo{l:List Int}{w:Int}:D8 l w=true↔l.length≤2000∧0≤w∧w≤24∧∀x,x∈l→0≤x∧x<2^w.toNat:=by
 unfold D8;simp only[CO,Cz,List.all_eq_true];exact⟨fun⟨⟨⟨a,b⟩,c⟩,d⟩=>⟨a,b,c,d⟩,fun⟨a,b,c,d⟩=>⟨⟨⟨a,b⟩,c⟩,d⟩⟩
theorem Mv(hk:2000000≤k)(l:List Int)(w:Nat)(h:D8 l (w:Int)=true)(pre post:List Int)(hb1:Bq pre)(hb2:Bq post)(hl2:pre.length+post.length<900000):
 Cb k (pre++(Bu w l.length l++post)) (pre.length:Int) (l.length:Int) (w:Int)=some (((),((pre.length+(Bu w l.length l).length:Nat):Int),true),l)∧
 BG k (pre++(Bu w l.length l++post)) (pre.length:Int) (l.length:Int) (w:Int)=some (((),((pre.length+(Bu w l.length l).length:Nat):Int),true),l):=by
 obtain⟨h1,h2,h3,h4⟩:=Jo.1 h;rw[Int.toNat_natCast] at h4;have hlen:=FL w (by omega) l.length l;have hbl:(pre++(Bu w l.length l++post)).length=pre.length+((Bu w l.length l).length+post.length):=by simp
 have key:Cb k (pre++(Bu w l.length l++post)) (pre.length:Int) (l.length:Int) (w:Int)=some (((),((pre.length+(Bu w l.length l).length:Nat):Int),true),l):=by
  have:=Xv k (by omega) l h1 w (by omega) h4 post hb2 (by omega) l.length k 0 pre (by omega) (by omega) (by omega) hb1 (by omega);rw[List.drop_zero,List.take_zero] at this;have c0:(decide ((0:Int)≤(w:Int))&&decide ((w:Int)≤24))=true:=by simp;omega
  have c1:(decide ((0:Int)≤(l.length:Int))&&decide ((l.length:Int)≤2000))=true:=by simp;omega
  have c2:(decide ((0:Int)≤(pre.length:Int))&&decide ((pre.length:Int)≤((pre++(Bu w l.length l++post)).length:Int)))=true:=by rw[hbl];simp;omega
  unfold Cb;simp only[CQ,AR,c0,c1,c2,Bh,cst,AU,D6];exact this
 obtain⟨nx,ok,l',e1,e2,_⟩:=Xt k hk (pre++(Bu w l.length l++post)) (by omega) (CJ hb1 (CJ (Gp w _ _) hb2)) (pre.length:Int) (l.length:Int) (w:Int);rw[key] at e1;simp only[Eg,Prod.mk.injEq,true_and] at e1;obtain⟨⟨rfl,rfl⟩,rfl⟩:=e1;exact⟨key,e2⟩
end Go.A9
end
section
namespace Go.A9
open Go.Am Go.Fn
attribute [-simp] List.length_flatten
variable(k:Nat)
def GC(w:Nat)(x:Int):Bool:=decide (0≤x)&&decide (x<2^w)
theorem Yk(v:Int)(h0:0≤v)(hi:Be v)(w:Nat)(hw:w≤62):∃m:Int,D5 k v=some m∧(decide (m>(w:Int))= !decide (v<2^w)):=by
 have I1:(2:Int)^w≤2^62:=by exact_mod_cast(Nat.pow_le_pow_right (by decide) hw:(2:Nat)^w≤2^62)
 have hi1:=hi.2;have hv:IntKind.wrap .u64 v=((v.toNat:Nat):Int):=by rw[EJ];omega
 have hwd:D5 k v=some (Ch v.toNat:Int):=by
  unfold D5;rw[hv,Jd k v.toNat (by omega)];rfl
 refine⟨_,hwd,?_⟩;have hb:=IL (u:=v.toNat) (w:=w) (by omega) (by omega);by_cases hlt:v<2^w
 ·have:v.toNat<2^w:=by
   have:((v.toNat:Nat):Int)<((2^w:Nat):Int):=by rw[Int.toNat_of_nonneg h0];exact_mod_cast hlt
   exact_mod_cast this
  rw[AX hlt,AY (by have:=hb.2 this;omega)];rfl
 ·have:¬v.toNat<2^w:=by
   intro h;have:((v.toNat:Nat):Int)<((2^w:Nat):Int):=by exact_mod_cast h
   rw[Int.toNat_of_nonneg h0] at this;exact hlt (by exact_mod_cast this)
  rw[AY hlt,AX (by have:¬Ch v.toNat≤w:=fun h=>this (hb.1 h);omega)];rfl
theorem VI(l:List Int)(hl:l.length<1000000000)(hi:∀x,x∈l→Be x)(w:Nat)(hw:w≤62)(P:List Int)(hP:CU k l (w:Int)=some ((),P)):∀(post pre:List Int) (n:Nat),l=pre++post→post.length<n→
 ∃x,FD.l4 k n l (w:Int) l (l.length:Int) (pre.length:Int)=some (((),post.all (GC w)),x):=by
 intro post
 induction post with
 |nil=>
  intro pre n hp hn;obtain⟨n,rfl⟩:∃q,n=q+1:=⟨n-1,by omega⟩;have:l=pre:=by simpa using hp
  subst this;simp only[FD.l4,AY (show ¬(l.length:Int)<(l.length:Int) by omega),AU,hP,AR];exact⟨_,rfl⟩
 |cons y post ih=>
  intro pre n hp hn;simp only[Bn] at hn;obtain⟨n,rfl⟩:∃q,n=q+1:=⟨n-1,by omega⟩;have hlen:l.length=pre.length+(post.length+1):=by rw[hp];simp
  have hy:gP l (pre.length:Int)=some y:=by rw[hp];exact BB pre post y
  obtain⟨x,hx⟩:=ih (pre++[y]) n (by rw[hp];simp) (by omega);rw[A8,Bz] at hx;have e:IntKind.wrap .i64 ((pre.length:Int)+1)=((pre.length+1:Nat):Int):=by rw[AV (by omega) (by omega)];omega
  simp only[FD.l4,AX (show(pre.length:Int)<(l.length:Int) by omega),AQ,hy,AR,e];unfold GC at*;by_cases h0:y<0
  ·rw[AX h0,AQ]
   simp only[AR,AQ,List.all_cons,AY (show ¬0≤y by omega),Gj];exact⟨_,rfl⟩
  ·obtain⟨m,m1,m2⟩:=Yk k y (by omega) (hi y (by rw[hp];simp)) w hw
   rw[AY h0,AU,m1];simp only[AR,m2,List.all_cons,AX (show 0≤y by omega),Et];cases hlt:decide (y<2^w) with
   |true=>
    simp only[Bh,AU,Et];exact⟨_,hx⟩
   |false=>
    simp only[Dm,AQ,Gj];exact⟨_,rfl⟩
theorem Xy(l:List Int)(hl:l.length<1000000000)(w:Nat)(hw:w≤62)(fin:Option JE)(hfin:Bb.l10 k k l (w:Int) 0 []=fin):∀(post pre:List Int) (n:Nat),l=pre++post→post.length<n→
 Bb.l5 k n l (w:Int) (pre.length:Int) []=if post.all (GC w) then fin else some (((),false),[]):=by
 intro post
 induction post with
 |nil=>
  intro pre n hp hn;obtain⟨n,rfl⟩:∃q,n=q+1:=⟨n-1,by omega⟩;have:l=pre:=by simpa using hp
  subst this;simp only[Bb.l5,AY (show ¬(l.length:Int)<(l.length:Int) by omega),AU,hfin,List.all_nil,if_true]
 |cons y post ih=>
  intro pre n hp hn;simp only[Bn] at hn;obtain⟨n,rfl⟩:∃q,n=q+1:=⟨n-1,by omega⟩;have hlen:l.length=pre.length+(post.length+1):=by rw[hp];simp
  have hy:gP l (pre.length:Int)=some y:=by rw[hp];exact BB pre post y
  have hx:=ih (pre++[y]) n (by rw[hp];simp) (by omega);rw[A8,Bz] at hx;have e:IntKind.wrap .i64 ((pre.length:Int)+1)=((pre.length+1:Nat):Int):=by rw[AV (by omega) (by omega)];omega
  simp only[Bb.l5,AX (show(pre.length:Int)<(l.length:Int) by omega),AQ,hy,AR,e,AX (show(0:Int)≤(w:Int) by omega)];unfold GC at*;by_cases h0:y<0
  ·rw[AX h0,AQ]
   simp only[AR,AQ,List.all_cons,AY (show ¬0≤y by omega),Gj,Bool.false_eq_true,if_false]
  ·have hp2:(0:Int)<2^w:=Int.pow_pos (by decide)
   have hs:(qW .i64 y (w:Int) !=0)= !decide (y<2^w):=by
    rw[ED .i64 y w (show w≤64 by omega)];by_cases hlt:y<2^w
    ·rw[AX hlt,Int.ediv_eq_zero_of_lt (by omega) hlt];rfl
    ·rw[AY hlt]
     have:1≤y/2^w:=by
      have:=Int.ediv_le_ediv hp2 (show(2:Int)^w≤y by omega)
      rwa [Int.ediv_self (by omega)] at this
     exact F8 (by omega)
   rw[AY h0,AU,hs];simp only[AR,List.all_cons,AX (show 0≤y by omega),Et];cases hlt:decide (y<2^w) with
   |true=>
    simp only[Bh,AU,Et];exact hx
   |false=>
    simp only[Dm,AQ,Gj,Bool.false_eq_true,if_false]
theorem Ms(hk:2000000≤k)(l:List Int)(hi:∀x,x∈l→Be x)(hl:l.length<1000000)(w:Int):
 Dj k l w=some (((),D8 l w),if D8 l w then Bu w.toNat l.length l else[])∧Bb k l w=some (((),D8 l w),if D8 l w then Bu w.toNat l.length l else[]):=by
 unfold Dj FD Bb Iw;simp only[CQ,ES,AR,cst];by_cases h1:l.length≤2000
 ·rw[AY (show ¬(l.length:Int)>2000 by omega),EU,Bool.or_false]
  by_cases h2:0≤w∧w≤62
  ·obtain⟨w,rfl⟩:∃m:Nat,w=m:=⟨w.toNat,by omega⟩
   obtain⟨w0,w1⟩:=h2;have hpk:=Ji k l w (by omega) (by omega) (by omega) (by omega);obtain⟨x,hx⟩:=VI k l (by omega) hi w (by omega) _ hpk l [] k rfl (by omega);rw[List.length_nil,show((0:Nat):Int)=0 from rfl] at hx;simp only[AX w0,AX w1,Bool.and_self,Bh,AU,hx,AR];by_cases h3:w≤24
   ·have hr:D8 l (w:Int)=l.all (GC w):=by
     unfold D8 GC;rw[AX h1,AX w0,AX (show(w:Int)≤24 by omega),Int.toNat_natCast];rfl
    have il:=VQ k (by omega) l h1 w h3 l.length k 0 [] (by omega) (by omega) (by omega) (by simp;omega);have sl:=X3 k (by omega) l h1 w h3 l.length k 0 [] (by omega) (by omega) (by omega) (by simp;omega);rw[List.drop_zero,List.nil_append,show((0:Nat):Int)=0 from rfl] at il sl;have sc:=Xy k l (by omega) w (by omega) _ sl l [] k rfl (by omega);rw[List.length_nil,show((0:Nat):Int)=0 from rfl] at sc;simp only[AY (show ¬(w:Int)>24 by omega),AX (show(w:Int)≤24 by omega),Bool.and_self,Bh,AU,Bool.or_false,hr,sc,Int.toNat_natCast];cases l.all (GC w) with
    |true=>exact⟨il,rfl⟩
    |false=>exact⟨rfl,rfl⟩
   ·have hr:D8 l (w:Int)=false:=by
     unfold D8;rw[AY (show ¬(w:Int)≤24 by omega)];simp
    simp only[AX (show(w:Int)>24 by omega),AY (show ¬(w:Int)≤24 by omega),Bool.and_false,Dm,Bool.or_true,AQ,hr];exact⟨rfl,rfl⟩
  ·have hr:D8 l w=false:=by
    rw[Bool.eq_false_iff];intro h;obtain⟨_,a,b,_⟩:=Jo.1 h;exact h2 ⟨a,by omega⟩
   have c1:(!(decide (0≤w)&&decide (w≤62)))=true:=by
    by_cases a:0≤w<;>by_cases b:w≤62<;>simp[a,b]
    exact h2 ⟨a,b⟩
   have c2:(!(decide (0≤w)&&decide (w≤24)))=true:=by
    by_cases a:0≤w<;>by_cases b:w≤24<;>simp[a,b]
    exact h2 ⟨a,by omega⟩
   simp only[c1,c2,AQ,AR,Dm,Gl,hr];exact⟨rfl,rfl⟩
 ·have hr:D8 l w=false:=by
   unfold D8;rw[AY h1];rfl
  simp only[AX (show(l.length:Int)>2000 by omega),Gl,Bool.or_true,AQ,AR,Dm,hr];exact⟨rfl,rfl⟩
end Go.A9
end
section
namespace Go.A9
open Go.Am Go.Fn
variable(k:Nat)
end Go.A9
end
section
namespace Go.A9
open Go.Am Go.Fn
variable(k:Nat)
end Go.A9
end
section
namespace Go.A9
open Go.Am Go.Fn
variable(k:Nat)
theorem MC(t:Int):∃wd:Int,G7 k t=some wd∧EF k t=some wd∧CV k t=some wd∧(wd=0∨wd=4∨wd=8):=by
 unfold G7 EF EF.c6 CV CV.c6;by_cases h1:t=1
 ·subst h1;exact⟨4,rfl,rfl,rfl,by decide⟩
 by_cases h2:t=2
 ·subst h2;exact⟨8,rfl,rfl,rfl,by decide⟩
 by_cases h5:t=5
 ·subst h5;exact⟨8,rfl,rfl,rfl,by decide⟩
 ·simp only[A_ h1,A_ h2,A_ h5,AU,AR]
  exact⟨0,rfl,rfl,rfl,by decide⟩
abbrev Ho(x:Int):AP:=(x,Br,())
theorem VY(l:List Int)(hl:l.length<1000000000):∀(post pre:List Int) (n:Nat),l=pre++post→post.length<n→GH.l3 k n l (pre.length:Int) (pre.map Ho)=some ((),l.map Ho):=by
 intro post
 induction post with
 |nil=>
  intro pre n hv hn;obtain⟨n,rfl⟩:∃x,n=x+1:=⟨n-1,by omega⟩;have:l=pre:=by simpa using hv
  subst this;simp only[GH.l3,AY (show ¬(l.length:Int)<(l.length:Int) by omega),AU]
 |cons v post ih=>
  intro pre n hv hn;simp only[Bn] at hn;obtain⟨n,rfl⟩:∃x,n=x+1:=⟨n-1,by omega⟩;have hlen:l.length=pre.length+(post.length+1):=by rw[hv];simp
  have hg:gP l (pre.length:Int)=some v:=by rw[hv];exact BB pre post v
  have:=ih (pre++[v]) n (by rw[hv];simp) (by omega);rw[A8,Bz,List.map_append] at this;simp only[GH.l3,AX (show(pre.length:Int)<(l.length:Int) by omega),AQ,hg,AR,Bc (show(pre.map Ho).length+([(v,Br,())]:List AP).length≤4294967296 by simp;omega),AV (x:=(pre.length:Int)+1) (by omega) (by omega)];exact this
theorem vals_eq(l:List Int)(hl:l.length<1000000000)(hlk:l.length<k):Ep k l=some ((),l.map Ho)∧GH k l=some ((),l.map Ho):=by
 have h1:=(Ky k l hl l [] k rfl hlk).1;have h2:=VY k l hl l [] k rfl hlk;rw[List.length_nil,List.map_nil,show((0:Nat):Int)=0 from rfl] at h1 h2;exact⟨h1,h2⟩
theorem NS(e t:Int):∃b,DD k e t=some b∧Dq k e t=some b∧(b=true→e=0∨e=3∨e=5∨e=6∨e=7∨e=8∨e=9):=by
 obtain⟨wd,w1,w2,w3,w4⟩:=MC k t;unfold DD Dq DD.c4 Dq.c6 DD.c11 Dq.c13;simp only[Jz,I_,AR,w2,w3,cst,BZ];by_cases h0:e=0
 ·subst h0
  refine⟨CB t,rfl,?_,fun _=> .inl rfl⟩;cases CB t<;>rfl
 by_cases h8:e=8
 ·subst h8
  refine⟨CB t,rfl,?_,fun _=>by simp⟩;cases CB t<;>rfl
 have ty:∀b:Bool,(b=true→CB t=true)→(cond (!CB t) (some false) (some b):Option Bool)=some b:=by
  intro b hb;cases ht:CB t with
  |true=>rfl
  |false=>
   cases b with
   |false=>rfl
   |true=>rw[ht] at hb;cases hb rfl
 by_cases h3:e=3
 ·subst h3
  refine⟨t==0,rfl,ty _ (fun hb=>by have:=eq_of_beq hb;subst this;rfl),fun _=>by simp⟩
 by_cases h5:e=5
 ·subst h5
  refine⟨t==1||t==2,rfl,ty _ (fun hb=>by rcases Bool.or_eq_true_iff.1 hb with h|h<;>(have:=eq_of_beq h;subst this;rfl)),fun _=>by simp⟩
 by_cases h6:e=6
 ·subst h6
  refine⟨t==6,rfl,ty _ (fun hb=>by have:=eq_of_beq hb;subst this;rfl),fun _=>by simp⟩
 by_cases h7:e=7
 ·subst h7
  refine⟨t==6,rfl,ty _ (fun hb=>by have:=eq_of_beq hb;subst this;rfl),fun _=>by simp⟩
 by_cases h9:e=9
 ·subst h9
  refine⟨decide (wd>0),rfl,ty _ (fun hb=> ?_),fun _=>by simp⟩;have hb:=of_decide_eq_true hb;unfold CV CV.c6 at w3;unfold CB;by_cases t1:t=1
  ·subst t1;rfl
  by_cases t2:t=2
  ·subst t2;rfl
  by_cases t5:t=5
  ·subst t5;rfl
  ·simp only[A_ t1,A_ t2,A_ t5,AU,Eg] at w3
   omega
 ·simp only[A_ h0,A_ h8,A_ h3,A_ h5,A_ h6,A_ h7,A_ h9,AU,Gj]
  refine⟨false,rfl,?_,fun h=>by cases h⟩;cases CB t<;>rfl
end Go.A9
end
section
namespace Go.A9
open Go.Am Go.Fn
variable(k:Nat)
theorem X_:∀(f n u t:Nat),u<2^f→f<n→t+f≤62→EE.l4 k n (u:Int) (t:Int)=some ((t+Cu f u:Nat):Int):=by
 intro f
 induction f with
 |zero=>
  intro n u t hu hn ht;obtain⟨n,rfl⟩:∃q,n=q+1:=⟨n-1,by omega⟩;have:u=0:=by simpa using hu
  subst this;simp only[EE.l4,AY (show ¬(((0:Nat):Int)>0) by omega),AU,AY (show ¬((t:Int)>62) by omega),Cu,Nat.add_zero]
 |succ f ih=>
  intro n u t hu hn ht;obtain⟨n,rfl⟩:∃q,n=q+1:=⟨n-1,by omega⟩;rw[Nat.pow_succ] at hu;have hle:2^f*2≤2^62:=by rw[←Nat.pow_succ];exact Nat.pow_le_pow_right (by omega) (by omega)
  by_cases h0:u=0
  ·subst h0
   simp only[EE.l4,AY (show ¬(((0:Nat):Int)>0) by omega),AU,AY (show ¬((t:Int)>62) by omega),Cu,if_pos,Nat.add_zero]
  ·have e1:IntKind.wrap .i64 (Int.tdiv (u:Int) 2)=((u/2:Nat):Int):=by
    rw[Int.tdiv_eq_ediv_of_nonneg (by omega),AV (by omega) (by omega)];omega
   have e2:IntKind.wrap .i64 ((t:Int)+1)=((t+1:Nat):Int):=by rw[AV (by omega) (by omega)];omega
   simp only[EE.l4,AX (show(u:Int)>0 by omega),AQ,e1,e2,Cu,if_neg h0];rw[ih n (u/2) (t+1) (by omega) (by omega) (by omega)]
   congr 2
   omega
end Go.A9
end
section
namespace Go.A9
open Go.Am Go.Fn
variable(k:Nat)
theorem V9(L3:(List Int)→Int→Int→(List Int)→Option (Unit×(List Int)))(vs:List Int)(v:Int)(w i q L M0:Nat)(hw:w≤64)(hq:(i:Int)*(w:Int)=(q:Int))(GX:q+w≤8*L)(hL:L<1000000)(hi:i<1000000)(hM:M0<2^q)(hv:gP vs (i:Int)=some v):
 ∀(m n j:Nat),j+m=w→m<n→Ct.l6 k L3 n vs (w:Int) (i:Int) (j:Int) (leB L (M0+(u64 v%2^j)*2^q))=L3 vs (w:Int) ((i+1:Nat):Int) (leB L (M0+(u64 v%2^w)*2^q)):=by
 intro m
 induction m with
 |zero=>
  intro n j hj hn;obtain⟨n,rfl⟩:∃x,n=x+1:=⟨n-1,by omega⟩;obtain rfl:j=w:=by omega
  simp only[Ct.l6,AY (show ¬(j:Int)<(j:Int) by omega),AU];rw[AV (by omega) (by omega)]
  congr 1
 |succ m ih=>
  intro n j hj hn;obtain⟨n,rfl⟩:∃x,n=x+1:=⟨n-1,by omega⟩;have hp:IntKind.wrap .i64 (IntKind.wrap .i64 ((i:Int)*(w:Int))+(j:Int))=((q+j:Nat):Int):=by
   rw[hq,AV (x:=(q:Int)) (by omega) (by omega),AV (by omega) (by omega)];omega
  have hlt:=Je (u:=u64 v) (j:=j) hM;have hb:u64 v/2^j%2≤1:=by omega
  have hg:gP (leB L (M0+u64 v%2^j*2^q)) (((q+j)/8:Nat):Int)=some _:=GA (by omega);have hi:=ih n (j+1) (by omega) (by omega);rw[←Jf] at hi;simp only[Ct.l6,AX (show(j:Int)<(w:Int) by omega),AQ,hp,G5 (show q+j<1152921504606846976 by omega),GZ,hg,hv,AR,AX (show(0:Int)≤(j:Int) by omega),AX (show(0:Int)≤(((q+j)%8:Nat):Int) by omega),Jp v (show j<64 by omega),Ct.c7];rw[AV (x:=(j:Int)+1) (by omega) (by omega),show((j:Int)+1)=((j+1:Nat):Int) by omega];rcases Nat.eq_zero_or_pos (u64 v/2^j%2) with h0|h0
  ·rw[h0] at hi⊢
   rw[Fz (by rfl),AU];simpa using hi
  ·have h1:u64 v/2^j%2=1:=by omega
   have ho:=Jh hlt (show 1≤1 by omega);have hs:=Jb (L:=L) (show q+j<8*L by omega) hlt (show 1≤1 by omega);have h11:((1:Nat):Int)=1:=rfl;rw[h11] at ho;rw[h1] at hi⊢;rw[F8 (by decide),AQ,ho,Int.toNat_natCast,hs];exact hi
theorem V_(w L:Nat)(hw:w≤64)(hL:L<1000000)(hk:w<k)(vs:List Int)(hvs:vs.length<1000000)(hb:vs.length*w≤8*L):∀(post pre:List Int) (n:Nat),vs=pre++post→post.length<n→
 Ct.l3 k n vs (w:Int) (pre.length:Int) (leB L (Cy w pre))=some ((),leB L (Cy w vs)):=by
 intro post
 induction post with
 |nil=>
  intro pre n hv hn;obtain⟨n,rfl⟩:∃x,n=x+1:=⟨n-1,by omega⟩;have:vs=pre:=by simpa using hv
  subst this;simp only[Ct.l3,AY (show ¬(vs.length:Int)<(vs.length:Int) by omega),AU]
 |cons v post ih=>
  intro pre n hv hn;simp only[Bn] at hn;obtain⟨n,rfl⟩:∃x,n=x+1:=⟨n-1,by omega⟩;have hlen:vs.length=pre.length+(post.length+1):=by rw[hv];simp
  have hg:gP vs (pre.length:Int)=some v:=by rw[hv,Dc,List.getElem?_append_right (Nat.le_refl _)];simp
  have hM:=Il w (pre.map u64);rw[List.length_map] at hM;have hmul:pre.length*w+w≤vs.length*w:=by
   have:(pre.length+1)*w≤vs.length*w:=Nat.mul_le_mul_right _ (by omega);rw[Nat.add_mul,Nat.one_mul] at this;exact this
  have hi:=V9 k (Ct.l3 k n) vs v w pre.length (pre.length*w) L (Cy w pre) hw (by simp) (by omega) hL (by omega) hM hg w k 0 (by omega) hk;simp only[Nat.pow_zero,Nat.mod_one,Nat.zero_mul,Nat.add_zero] at hi;simp only[Ct.l3,AX (show(pre.length:Int)<(vs.length:Int) by omega),AQ];have h0:((0:Nat):Int)=0:=rfl;rw[h0] at hi;rw[hi];have:=ih (pre++[v]) n (by rw[hv];simp) (by omega);rw[A8,Bz] at this;rw[←this];unfold Cy;rw[List.map_append,List.map_singleton,Im,List.length_map]
theorem V5(vs:List Int)(w:Nat)(hw:w≤64)(hvs:vs.length≤100000)(hk:vs.length<k)(hk2:w<k):Ct k vs (w:Int)=some ((),Bw w vs):=by
 obtain⟨h1,h2,h3⟩:=len8 hvs hw;unfold Ct;rw[h1,Gg (by omega) (by omega),AQ,Int.toNat_natCast,←Jc];exact V_ k w _ hw h2 hk2 vs (by omega) h3 vs [] k rfl hk
end Go.A9
end
section
namespace Go.A9
open Go.Am Go.Fn
variable(k:Nat)
theorem V8:∀(f n:Nat) (u t:Nat),u<2^f→f<n→f≤63→t+f<1000→E5.l2 k n (u:Int) (t:Int)=some ((t+Cu f u:Nat):Int):=by
 intro f
 induction f with
 |zero=>
  intro n u t hu hn _ ht;obtain⟨n,rfl⟩:∃x,n=x+1:=⟨n-1,by omega⟩;have:u=0:=by simpa using hu
  subst this;simp only[E5.l2];rw[Fz (show((0:Nat):Int)=0 from rfl),AU];rfl
 |succ f ih=>
  intro n u t hu hn hf ht;obtain⟨n,rfl⟩:∃x,n=x+1:=⟨n-1,by omega⟩;rw[Nat.pow_succ] at hu;have hf2:2^f≤2^62:=Nat.pow_le_pow_right (by decide) (by omega);simp only[E5.l2,Cu];by_cases h0:u=0
  ·subst h0
   rw[Fz (show((0:Nat):Int)=0 from rfl),AU];simp
  ·have hI:Be (u:Int):=⟨by omega,by omega⟩
   have I4:u64 (u:Int)=u:=by have:=Kt (v:=(u:Int)) (by omega) (by omega);omega
   rw[F8 (show ¬(u:Int)=0 by omega),AQ,IQ k _ hI,I4];simp only[AR];rw[AV (by omega) (by omega),show((t:Int)+1)=((t+1:Nat):Int) by omega,ih n (u/2) (t+1) (by omega) (by omega) (by omega) (by omega)];simp only[h0,if_false]
   congr 2;omega
theorem V7(hk:100≤k)(v:Int)(hv:Be v):E5 k v=some (Ch (u64 v):Int):=by
 unfold E5;obtain⟨n,rfl⟩:∃x,k=x+1:=⟨k-1,by omega⟩;have hlt:=FT v;have hc:=E9 v;have hb:Ch (u64 v)=if u64 v=0 then 0 else Cu 63 (u64 v/2)+1:=rfl
 rw[hb];simp only[E5.l2];by_cases h0:v=0
 ·subst h0
  rw[Fz rfl,AU];rfl
 ·have h1:u64 v≠0:=by
   obtain⟨a,b⟩:=hv;omega
  rw[F8 h0,AQ,IQ _ v hv];simp only[AR,h1,if_false];have:=V8 (n+1) 63 n (u64 v/2) 1 (by simp;omega) (by omega) (by omega) (by omega);rw[show IntKind.wrap .i64 (0+1)=((1:Nat):Int) by decide,this]
  congr 2;omega
end Go.A9
end
section
namespace Go.A9
open Go.Am Go.Fn
variable(k:Nat)
def Dv:List Int→Int
 |[]=>0
 |x::r=>r.foldl (fun a y=>if y<a then y else a) x
theorem WA(l:List Int)(hl:l.length<1000000000):∀(post pre:List Int) (n:Nat) (a:Int),l=pre++post→post.length<n→Ej.l5 k n l a (pre.length:Int)=some (post.foldl (fun a y=>if y<a then y else a) a):=by
 intro post
 induction post with
 |nil=>
  intro pre n a hl' hn;obtain⟨n,rfl⟩:∃m,n=m+1:=⟨n-1,by omega⟩;have:l=pre:=by simpa using hl'
  subst this;simp only[Ej.l5,AY (show ¬(l.length:Int)<(l.length:Int) by omega),AU,List.foldl_nil]
 |cons x post ih=>
  intro pre n a hl' hn;simp only[Bn] at hn;obtain⟨n,rfl⟩:∃m,n=m+1:=⟨n-1,by omega⟩;have hlen:l.length=pre.length+(post.length+1):=by rw[hl'];simp
  have hg:gP l (pre.length:Int)=some x:=by rw[hl'];exact BB _ _ _
  have:=ih (pre++[x]) n (if x<a then x else a) (by rw[hl'];simp) (by omega);rw[A8,Bz] at this;simp only[Ej.l5,AX (show(pre.length:Int)<(l.length:Int) by omega),AQ,hg,AR];rw[AV (by omega) (by omega)];exact this
theorem min_eq(hk:1≤k)(l:List Int)(h0:1≤l.length)(hl:l.length<1000000000)(hlk:l.length<k):Ej k l=some (Dv l):=by
 cases l with
 |nil=>simp at h0
 |cons x r=>
  unfold Ej Ej.c3;rw[AY (show ¬(((x::r).length:Int)<1) by omega),AU];have hg:gP (x::r) 0=some x:=rfl;rw[hg];simp only[AR];exact WA k (x::r) hl r [x] k x rfl (by simp at hlk;omega)
def mv(m:Int)(md:List Int):List Int:=md.map fun d=>IntKind.wrap .i64 (d-m)
def mw(vs:List Int):Nat:=vs.foldl (fun a v=>max a (Ch (u64 v))) 0
def DK(vs:List Int):List Int:=vs++List.replicate (32-vs.length) 0
def mb(vs:List Int):List Int:=if vs=[] then[] else Bw (mw vs) (DK vs)
theorem L8(vs:List Int)(v:Int):mw (vs++[v])=max (mw vs) (Ch (u64 v)):=by simp[mw]
theorem Kb:∀(vs:List Int) (a:Nat),a≤64→vs.foldl (fun a v=>max a (Ch (u64 v))) a≤64∧a≤vs.foldl (fun a v=>max a (Ch (u64 v))) a∧∀v,v∈vs→Ch (u64 v)≤vs.foldl (fun a v=>max a (Ch (u64 v))) a
 |[],a,h=>⟨h,Nat.le_refl _,fun v hv=>(List.not_mem_nil hv).elim⟩
 |x::r,a,h=>by
  have hb:=Nk (u64 x);obtain⟨h1,h2,h3⟩:=Kb r (max a (Ch (u64 x))) (by omega);refine⟨h1,by simp only[List.foldl_cons];omega,fun v hv=> ?_⟩;rcases List.mem_cons.1 hv with rfl|hv
  ·simp only[List.foldl_cons];omega
  ·exact h3 v hv
theorem FH(vs:List Int):mw vs≤64:=(Kb vs 0 (by omega)).1
theorem WI{vs:List Int}{v:Int}(h:v∈vs):u64 v<2^mw vs:=
 Nat.lt_of_lt_of_le (JF (FT v)) (Nat.pow_le_pow_right (by decide) ((Kb vs 0 (by omega)).2.2 v h))
theorem Jj{vs:List Int}(h:vs.length≤32):(DK vs).length=32:=by simp[DK];omega
theorem Mf(w:Nat)(vs:List Int):(Bw w vs).length=bytesOf vs.length w:=Bt _ _
theorem JH{w:Nat}(h:w≤64):bytesOf 32 w=4*w:=by unfold bytesOf;omega
theorem LQ{vs:List Int}(h:vs.length≤32):(mb vs).length=if vs=[] then 0 else 4*mw vs:=by
 unfold mb;split
 ·rfl
 ·rw[Mf,Jj h,JH (FH vs)]
theorem Jg{vs:List Int}(h:vs.length≤32):(mb vs).length≤256:=by
 rw[LQ h];have:=FH vs;split<;>omega
def BP:Nat→List Int→List (List Int)
 |0,_=>[]
 |c+1,ds=>ds.take 32::BP c (ds.drop 32)
def heads(m:Int)(J_:List (List Int)):List Int:=J_.map fun md=>(mw (mv m md):Int)
def body(m:Int)(J_:List (List Int)):List Int:=(J_.map fun md=>mb (mv m md)).flatten
def EK(ds:List Int):List Int:=uv (zig (Dv ds))++(heads (Dv ds) (BP 4 ds)++body (Dv ds) (BP 4 ds))
theorem WB(hk:100≤k)(L5:(List Int)→Int→Int→(List Int)→(List Int)→Option (Unit×(List Int)))(ds:List Int)(hds:ds.length≤128)(m:Int)(j:Nat)(hj:j<4)(AO AZ:List Int)(h0:AO.length≤1000000)(h1:AZ.length≤1000000):
 ∀(post done:List Int) (n:Nat),(ds.drop (32*j)).take 32=done++post→post.length<n→
  Cq.Cc k L5 n ds m (j:Int) (done.length:Int) (mw (mv m done):Int) ((32*j+done.length:Nat):Int) (j:Int) AO AZ (mv m done++List.replicate (32-done.length) 0)=
   L5 ds m ((j+1:Nat):Int) (AO++[(mw (mv m (done++post)):Int)]) (AZ++mb (mv m (done++post))):=by
 intro post;have hw1:IntKind.wrap .i64 (((j+1:Nat):Int)*32)=((32*(j+1):Nat):Int):=by
  rw[AV (by omega) (by omega)];omega
 have hw2:IntKind.wrap .i64 ((j:Int)+1)=((j+1:Nat):Int):=by rw[AV (by omega) (by omega)];omega
 induction post with
 |nil=>
  intro done n hmd hn;obtain⟨n,rfl⟩:∃x,n=x+1:=⟨n-1,by omega⟩;simp only[C7] at hmd⊢;have hlen:=congrArg List.length hmd;rw[List.length_take,List.length_drop] at hlen;have hb:(cond (decide (((32*j+done.length:Nat):Int)<((32*(j+1):Nat):Int))) (some (decide (((32*j+done.length:Nat):Int)<(ds.length:Int)))) (some false):Option Bool)=some false:=by
   rw[BZ]
   congr 1
   rw[Bool.eq_false_iff];intro h;simp only[CO,Cz] at h;omega
  have hwl:=FH (mv m done);have hml:(mv m done).length=done.length:=by simp[mv]
  simp only[Cq.Cc,hw1,hb,AR,AU,Cq.c19,hw2];rw[Bc (by simp;omega),AQ,w8 (by omega) (by omega)];by_cases hd:done=[]
  ·subst hd
   rw[AY (by simp),AU];simp[mb,mv]
  ·have hpos:0<done.length:=List.length_pos_iff.2 hd
   have hp:mv m done++List.replicate (32-done.length) 0=DK (mv m done):=by unfold DK;rw[hml]
   have hmb:mb (mv m done)=Bw (mw (mv m done)) (DK (mv m done)):=by
    unfold mb;rw[if_neg (fun h=>by rw[h] at hml;simp at hml;omega)]
   have hpl:=Jg (vs:=mv m done) (by rw[hml];omega);rw[hmb] at hpl;rw[AX (show((done.length:Nat):Int)>0 by omega),AQ,hp,Ji k _ _ hwl (by rw[Jj (by omega)];omega) (by rw[Jj (by omega)];omega) (by omega)];simp only[AR];rw[Bc (by omega),AQ,hmb]
 |cons x post ih=>
  intro done n hmd hn;simp only[Bn] at hn;obtain⟨n,rfl⟩:∃x,n=x+1:=⟨n-1,by omega⟩;have hlen:=congrArg List.length hmd;rw[List.length_take,List.length_drop,A8,Bn] at hlen;have hb:(cond (decide (((32*j+done.length:Nat):Int)<((32*(j+1):Nat):Int))) (some (decide (((32*j+done.length:Nat):Int)<(ds.length:Int)))) (some false):Option Bool)=some true:=by
   rw[BZ]
   congr 1
   simp only[CO,Cz];omega
  have hml:(mv m done).length=done.length:=by simp[mv]
  have hg:gP ds ((32*j+done.length:Nat):Int)=some x:=by
   rw[Dc];have:((ds.drop (32*j)).take 32)[done.length]?=some x:=by rw[hmd,List.getElem?_append_right (Nat.le_refl _)];simp
   rw[List.getElem?_take,if_pos (by omega),List.getElem?_drop] at this;exact this
  have hrep:List.replicate (32-done.length) (0:Int)=0::List.replicate (32-(done.length+1)) 0:=by
   rw[←List.replicate_succ]
   congr 1
   omega
  have hi:=ih (done++[x]) n (by rw[hmd];simp) (by omega);have hmv:mv m (done++[x])=mv m done++[IntKind.wrap .i64 (x-m)]:=by simp[mv]
  rw[hmv,L8,A8,Bz] at hi;have g1:∀y:Int,gP (mv m done++y::List.replicate (32-(done.length+1)) 0) (done.length:Int)=some y:=by
   intro y;rw[←hml];exact BB _ _ _
  have g2:List.set (mv m done++0::List.replicate (32-(done.length+1)) 0) (Int.toNat (done.length:Int)) (IntKind.wrap .i64 (x-m))=mv m done++IntKind.wrap .i64 (x-m)::List.replicate (32-(done.length+1)) 0:=by
   have:=XF (mv m done) (List.replicate (32-(done.length+1)) 0) (0:Int) (IntKind.wrap .i64 (x-m));rw[hml] at this;exact this
  have hmax:(if(Ch (u64 (IntKind.wrap .i64 (x-m))):Int)>(mw (mv m done):Int) then(Ch (u64 (IntKind.wrap .i64 (x-m))):Int) else(mw (mv m done):Int))=((max (mw (mv m done)) (Ch (u64 (IntKind.wrap .i64 (x-m)))):Nat):Int):=by
   split<;>omega
  rw[hrep];simp only[Cq.Cc,hw2,hw1,hb,AR,AQ,hg,g1,g2,MK,hmax];rw[AV (x:=(done.length:Int)+1) (by omega) (by omega),AV (x:=((32*j+done.length:Nat):Int)+1) (by omega) (by omega)];rw[CP,CP] at hi;exact hi
theorem Nn(hk:100≤k)(ds:List Int)(hds:ds.length≤128)(m:Int):∀(c j n:Nat) (AO AZ:List Int),j+c=4→c<n→AO.length≤1000-100*c→AZ.length≤3000-300*c→
 Cq.l5 k n ds m (j:Int) AO AZ=some ((),(AO++heads m (BP c (ds.drop (32*j))))++(AZ++body m (BP c (ds.drop (32*j))))):=by
 intro c
 induction c with
 |zero=>
  intro j n AO AZ hj hn h0 h1;obtain⟨n,rfl⟩:∃x,n=x+1:=⟨n-1,by omega⟩;simp only[Cq.l5,AY (show ¬(j:Int)<4 by omega),AU];rw[Bc (by omega),AQ];simp[heads,body,BP]
 |succ c ih=>
  intro j n AO AZ hj hn h0 h1;obtain⟨n,rfl⟩:∃x,n=x+1:=⟨n-1,by omega⟩;have hm:=WB k hk (Cq.l5 k n) ds hds m j (by omega) AO AZ (by omega) (by omega) ((ds.drop (32*j)).take 32) [] k rfl (by rw[List.length_take];omega);have hw:IntKind.wrap .i64 ((j:Int)*32)=((32*j+0:Nat):Int):=by rw[AV (by omega) (by omega)];omega
  simp only[Cq.l5,AX (show(j:Int)<4 by omega),AQ,Gg (show(0:Int)≤32 by omega) (by omega),hw];simp only[List.length_nil,List.nil_append] at hm;have hm:Cq.Cc k (Cq.l5 k n) k ds m (j:Int) 0 0 ((32*j+0:Nat):Int) (j:Int) AO AZ (List.replicate (Int.toNat 32) 0)=_:=hm;rw[hm];have hl:=Jg (vs:=mv m ((ds.drop (32*j)).take 32)) (by simp[mv];omega);rw[ih (j+1) n _ _ (by omega) (by omega) (by simp;omega) (by rw[A8];omega)];simp only[BP,heads,body,List.map_cons,List.flatten_cons,List.drop_drop,CP,List.singleton_append];rfl
theorem Nl(hk:1000≤k)(ds:List Int)(h0:1≤ds.length)(hds:ds.length≤128)(hI:Be (Dv ds)):Cq k ds=some ((),EK ds):=by
 unfold Cq;rw[min_eq k (by omega) ds h0 (by omega) (by omega)];simp only[AR];rw[MS k (by omega) _ hI.1 hI.2];simp only[AR];have hu:=CE (zig (Dv ds));have:=Nn k (by omega) ds hds (Dv ds) 4 0 k (uv (zig (Dv ds))) [] rfl (by omega) (by omega) (by simp);rw[show((0:Nat):Int)=0 from rfl] at this;rw[this];simp[EK]
end Go.A9
end
section
namespace Go.A9
open Go.Am Go.Fn
variable(k:Nat)
theorem LF(a b:Int):GI k a b=some (if a>b then a else b):=by
 unfold GI;by_cases h:a>b
 ·rw[AX h,AQ,if_pos h]
 ·rw[AY h,AU,if_neg h]
theorem LG(a b:Int):Iq k a b=some (if a<b then a else b):=by
 unfold Iq;by_cases h:a<b
 ·rw[AX h,AQ,if_pos h]
 ·rw[AY h,AU,if_neg h]
theorem WT(L9:(List Int)→Int→Int→Int→(List Int)→(List Int)→Option (Unit×(List Int)))(ds:List Int)(m:Int)(j w:Nat)(hw:w≤64)(hk:100≤k)(AO AZ:List Int)(h1:AZ.length≤1000000):
 ∀(c n:Nat) (vs:List Int),vs.length+c=32→c<n→Bv.Cr k L9 n ds m 32 (j:Int) (w:Int) AO AZ vs=L9 ds m 32 (IntKind.wrap .i64 ((j:Int)+1)) AO (AZ++Bw w (vs++List.replicate c 0)):=by
 intro c
 induction c with
 |zero=>
  intro n vs hv hn;obtain⟨n,rfl⟩:∃x,n=x+1:=⟨n-1,by omega⟩;have hl:(Bw w vs).length≤256:=by rw[Mf,show vs.length=32 by omega,JH hw];omega
  simp only[Bv.Cr,AY (show ¬(vs.length:Int)<32 by omega),AU];rw[V5 k vs w hw (by omega) (by omega) (by omega)];simp only[AR];rw[Bc (by omega),AQ];simp[Bv.c10]
 |succ c ih=>
  intro n vs hv hn;obtain⟨n,rfl⟩:∃x,n=x+1:=⟨n-1,by omega⟩;simp only[Bv.Cr,AX (show(vs.length:Int)<32 by omega),AQ];rw[Bc (by simp;omega),AQ,ih n (vs++[0]) (by simp;omega) (by omega)];simp[List.replicate_succ]
theorem XM(hk:100≤k)(L9:(List Int)→Int→Int→Int→(List Int)→(List Int)→Option (Unit×(List Int)))(ds:List Int)(hds:ds.length≤128)(m:Int)(j:Nat)(hj:j<4)(AO AZ:List Int)(h0:AO.length≤1000000)(h1:AZ.length≤1000000):
 ∀(post done:List Int) (n:Nat),(ds.drop (32*j)).take 32=done++post→post.length<n→
  Bv.Gz k L9 n ds m 32 (j:Int) (mw (mv m done):Int) ((32*j+done.length:Nat):Int) AO AZ (mv m done)=
   L9 ds m 32 ((j+1:Nat):Int) (AO++[(mw (mv m (done++post)):Int)]) (AZ++mb (mv m (done++post))):=by
 intro post;have hw1:IntKind.wrap .i64 (((j+1:Nat):Int)*32)=((32*(j+1):Nat):Int):=by
  rw[AV (by omega) (by omega)];omega
 have hw2:IntKind.wrap .i64 ((j:Int)+1)=((j+1:Nat):Int):=by rw[AV (by omega) (by omega)];omega
 induction post with
 |nil=>
  intro done n hmd hn;obtain⟨n,rfl⟩:∃x,n=x+1:=⟨n-1,by omega⟩;simp only[C7] at hmd⊢;have hlen:=congrArg List.length hmd;rw[List.length_take,List.length_drop] at hlen;have hb:(cond (decide (((32*j+done.length:Nat):Int)<((32*(j+1):Nat):Int))) (some (decide (((32*j+done.length:Nat):Int)<(ds.length:Int)))) (some false):Option Bool)=some false:=by
   rw[BZ]
   congr 1
   rw[Bool.eq_false_iff];intro h;simp only[CO,Cz] at h;omega
  have hwl:=FH (mv m done);have hml:(mv m done).length=done.length:=by simp[mv]
  simp only[Bv.Gz,hw2,hw1,hb,AR,AU,Bv.c10];rw[Bc (by simp;omega),AQ,w8 (by omega) (by omega)];by_cases hd:done=[]
  ·subst hd
   rw[CG (by simp[mv]),AQ];simp[mb,mv]
  ·have hpos:0<done.length:=List.length_pos_iff.2 hd
   rw[A_ (show ¬((mv m done).length:Int)=0 by rw[hml];omega),AU];rw[WT k L9 ds m j _ hwl hk _ AZ h1 (32-done.length) k (mv m done) (by rw[hml];omega) (by omega),hw2];unfold mb DK;rw[if_neg (fun h=>by rw[h] at hml;simp at hml;omega),hml]
 |cons x post ih=>
  intro done n hmd hn;simp only[Bn] at hn;obtain⟨n,rfl⟩:∃x,n=x+1:=⟨n-1,by omega⟩;have hlen:=congrArg List.length hmd;rw[List.length_take,List.length_drop,A8,Bn] at hlen;have hb:(cond (decide (((32*j+done.length:Nat):Int)<((32*(j+1):Nat):Int))) (some (decide (((32*j+done.length:Nat):Int)<(ds.length:Int)))) (some false):Option Bool)=some true:=by
   rw[BZ]
   congr 1
   simp only[CO,Cz];omega
  have hml:(mv m done).length=done.length:=by simp[mv]
  have hg:gP ds ((32*j+done.length:Nat):Int)=some x:=by
   rw[Dc];have:((ds.drop (32*j)).take 32)[done.length]?=some x:=by rw[hmd,List.getElem?_append_right (Nat.le_refl _)];simp
   rw[List.getElem?_take,if_pos (by omega),List.getElem?_drop] at this;exact this
  have hi:=ih (done++[x]) n (by rw[hmd];simp) (by omega);have hmv:mv m (done++[x])=mv m done++[IntKind.wrap .i64 (x-m)]:=by simp[mv]
  rw[hmv,L8,A8,Bz] at hi;have hmax:(if(mw (mv m done):Int)>(Ch (u64 (IntKind.wrap .i64 (x-m))):Int) then(mw (mv m done):Int) else(Ch (u64 (IntKind.wrap .i64 (x-m))):Int))=((max (mw (mv m done)) (Ch (u64 (IntKind.wrap .i64 (x-m)))):Nat):Int):=by
   split<;>omega
  simp only[Bv.Gz,hw2,hw1,hb,AR,AQ,hg,V7 k hk (IntKind.wrap .i64 (x-m)) ⟨F4 _,F3 _⟩,LF,hmax];rw[Bc (by simp;omega),AQ,AV (x:=((32*j+done.length:Nat):Int)+1) (by omega) (by omega)];rw[CP] at hi;exact hi
theorem Xx(hk:100≤k)(ds:List Int)(hds:ds.length≤128)(m:Int)(hm:Be m):∀(c j n:Nat) (AO AZ:List Int),j+c=4→c<n→AO.length≤1000-100*c→AZ.length≤3000-300*c→
 Bv.l9 k n ds m 32 (j:Int) AO AZ=some ((),(uv (zig m)++(AO++heads m (BP c (ds.drop (32*j)))))++(AZ++body m (BP c (ds.drop (32*j))))):=by
 intro c
 induction c with
 |zero=>
  intro j n AO AZ hj hn h0 h1;obtain⟨n,rfl⟩:∃x,n=x+1:=⟨n-1,by omega⟩;have hu:=CE (zig m);simp only[Bv.l9,AY (show ¬(j:Int)<4 by omega),AU,ME k hk m hm,AR];rw[Bc (by omega),AQ,Bc (by simp;omega),AQ];simp[heads,body,BP]
 |succ c ih=>
  intro j n AO AZ hj hn h0 h1;obtain⟨n,rfl⟩:∃x,n=x+1:=⟨n-1,by omega⟩;have hm:=XM k hk (Bv.l9 k n) ds hds m j (by omega) AO AZ (by omega) (by omega) ((ds.drop (32*j)).take 32) [] k rfl (by rw[List.length_take];omega);have hw:IntKind.wrap .i64 ((j:Int)*32)=((32*j+0:Nat):Int):=by rw[AV (by omega) (by omega)];omega
  simp only[Bv.l9,AX (show(j:Int)<4 by omega),AQ,hw];simp only[List.length_nil,List.nil_append] at hm;have hm:Bv.Gz k (Bv.l9 k n) k ds m 32 (j:Int) 0 ((32*j+0:Nat):Int) AO AZ []=_:=hm;rw[hm];have hl:=Jg (vs:=mv m ((ds.drop (32*j)).take 32)) (by simp[mv];omega);rw[ih (j+1) n _ _ (by omega) (by omega) (by simp;omega) (by rw[A8];omega)];simp only[BP,heads,body,List.map_cons,List.flatten_cons,List.drop_drop,CP,List.singleton_append,List.cons_append];rfl
theorem XL(l:List Int)(hl:l.length<1000000000):∀(post pre:List Int) (n:Nat) (a:Int),l=pre++post→post.length<n→Bv.l3 k n l a (pre.length:Int)=Bv.l9 k k l (post.foldl (fun a y=>if y<a then y else a) a) 32 0 [] []:=by
 intro post
 induction post with
 |nil=>
  intro pre n a hl' hn;obtain⟨n,rfl⟩:∃m,n=m+1:=⟨n-1,by omega⟩;have:l=pre:=by simpa using hl'
  subst this;simp only[Bv.l3,AY (show ¬(l.length:Int)<(l.length:Int) by omega),AU,List.foldl_nil]
 |cons x post ih=>
  intro pre n a hl' hn;simp only[Bn] at hn;obtain⟨n,rfl⟩:∃m,n=m+1:=⟨n-1,by omega⟩;have hlen:l.length=pre.length+(post.length+1):=by rw[hl'];simp
  have hg:gP l (pre.length:Int)=some x:=by rw[hl'];exact BB _ _ _
  have hs:(if a<x then a else x)=(if x<a then x else a):=by split<;>split<;>omega
  have:=ih (pre++[x]) n (if x<a then x else a) (by rw[hl'];simp) (by omega);rw[A8,Bz] at this;simp only[Bv.l3,AX (show(pre.length:Int)<(l.length:Int) by omega),AQ,hg,AR,LG,hs];rw[AV (by omega) (by omega)];exact this
theorem V6(hk:1000≤k)(ds:List Int)(h0:1≤ds.length)(hds:ds.length≤128)(hI:Be (Dv ds)):Bv k ds=some ((),EK ds):=by
 cases ds with
 |nil=>simp at h0
 |cons x r=>
  unfold Bv;have hg:gP (x::r) 0=some x:=rfl;rw[hg];simp only[AR];have h1:=XL k (x::r) (by omega) r [x] k x rfl (by simp at hds;omega);rw[show(([x]:List Int).length:Int)=1 from rfl] at h1;rw[h1];have h2:=Xx k (by omega) (x::r) hds (Dv (x::r)) hI 4 0 k [] [] rfl (by omega) (by simp) (by simp);have h2:Bv.l9 k k (x::r) (Dv (x::r)) 32 0 [] []=_:=h2;have h3:Dv (x::r)=r.foldl (fun a y=>if y<a then y else a) x:=rfl;rw[h3] at h2;rw[h2];simp[EK,h3]
def Cw:Nat→List Int→List Int
 |0,_=>[]
 |f+1,ds=>if ds=[] then[] else EK (ds.take 128)++Cw f (ds.drop 128)
def dif:Int→List Int→List Int
 |_,[]=>[]
 |l,x::r=>IntKind.wrap .i64 (x-l)::dif x r
theorem E_:∀(l:Int) (r:List Int),(dif l r).length=r.length
 |_,[]=>rfl
 |l,x::r=>by simp[dif,E_ x r]
theorem JM:∀(l:Int) (r:List Int),∀d,d∈dif l r→Be d
 |_,[],d,h=>(List.not_mem_nil h).elim
 |l,x::r,d,h=>by
  rcases List.mem_cons.1 h with rfl|h
  ·exact⟨F4 _,F3 _⟩
  ·exact JM x r d h
theorem LW:∀(r:List Int) (x:Int),r.foldl (fun a y=>if y<a then y else a) x=x∨r.foldl (fun a y=>if y<a then y else a) x∈r
 |[],x=>Or.inl rfl
 |y::r,x=>by
  simp only[List.foldl_cons];rcases LW r (if y<x then y else x) with h|h
  ·by_cases c:y<x
   ·rw[if_pos c] at h⊢
    exact Or.inr (by rw[h];exact List.mem_cons_self ..)
   ·rw[if_neg c] at h⊢
    exact Or.inl h
  ·exact Or.inr (List.mem_cons_of_mem _ h)
theorem Ka{ds:List Int}(h:∀d,d∈ds→Be d):Be (Dv ds):=by
 cases ds with
 |nil=>exact⟨by decide,by decide⟩
 |cons x r=>
  rcases LW r x with e|e
  ·show Be (r.foldl _ x)
   rw[e];exact h x (List.mem_cons_self ..)
  ·exact h _ (List.mem_cons_of_mem _ e)
theorem J2(m:Int):∀(c:Nat) (ds:List Int),(heads m (BP c ds)).length=c
 |0,_=>rfl
 |c+1,ds=>by
  have:=J2 m c (ds.drop 32);simp[heads,BP] at this⊢;omega
theorem KN(m:Int):∀(c:Nat) (ds:List Int),(body m (BP c ds)).length≤256*c
 |0,_=>by simp[body,BP]
 |c+1,ds=>by
  have h1:=KN m c (ds.drop 32);have h2:=Jg (vs:=mv m (ds.take 32)) (by simp[mv];omega);unfold body at h1⊢;simp only[BP,List.map_cons,List.flatten_cons,A8];omega
theorem JG(ds:List Int):(EK ds).length≤1038:=by
 have h1:=CE (zig (Dv ds));have h2:=J2 (Dv ds) 4 ds;have h3:=KN (Dv ds) 4 ds;unfold EK;simp only[A8];omega
theorem KM:∀(f:Nat) (ds:List Int),(Cw f ds).length≤1038*f
 |0,_=>by simp[Cw]
 |f+1,ds=>by
  have h1:=KM f (ds.drop 128);have h2:=JG (ds.take 128);unfold Cw;split
  ·simp
  ·rw[A8];omega
theorem WQ(hk:1000≤k):∀(f n:Nat) (ds o:List Int),ds.length≤128*f→f<n→(∀d,d∈ds→Be d)→o.length+1038*f≤1000000→Di.l10 k n ds o=some (((),true),o++Cw f ds):=by
 intro f
 induction f with
 |zero=>
  intro n ds o hd hn _ _;obtain⟨n,rfl⟩:∃m,n=m+1:=⟨n-1,by omega⟩;simp only[Di.l10,AY (show ¬(ds.length:Int)>0 by omega),AU];simp[Cw]
 |succ f ih=>
  intro n ds o hd hn hI ho;obtain⟨n,rfl⟩:∃m,n=m+1:=⟨n-1,by omega⟩;by_cases h0:ds=[]
  ·subst h0
   simp only[Di.l10,AY (show ¬((([]:List Int).length:Int)>0) by simp),AU];simp[Cw]
  ·have hpos:0<ds.length:=List.length_pos_iff.2 h0
   have VC:(if(ds.length:Int)<128 then(ds.length:Int) else 128)=((min 128 ds.length:Nat):Int):=by split<;>omega
   have hc1:kP ds 0 ((min 128 ds.length:Nat):Int)=ds.take 128:=by
    unfold kP;rw[Int.toNat_natCast];simp only[Int.toNat_zero,List.drop_zero];rcases Nat.le_total 128 ds.length with h|h
    ·rw[Nat.min_eq_left h]
    ·rw[Nat.min_eq_right h,List.take_length,List.take_of_length_le h]
   have hc2:kP ds ((min 128 ds.length:Nat):Int) (ds.length:Int)=ds.drop 128:=by
    unfold kP;rw[Int.toNat_natCast,Int.toNat_natCast,List.take_length];rcases Nat.le_total 128 ds.length with h|h
    ·rw[Nat.min_eq_left h]
    ·rw[Nat.min_eq_right h,List.drop_length,List.drop_of_length_le h]
   have hb:=JG (ds.take 128);simp only[Di.l10,AX (show(ds.length:Int)>0 by omega),AQ,VC,hc1,hc2];rw[FF (by omega) (by omega) (by omega),AQ,Nl k hk _ (by rw[List.length_take];omega) (by rw[List.length_take];omega) (Ka fun d hd=>hI d (List.mem_of_mem_take hd))];simp only[AR];rw[Bc (by omega),AQ,FF (by omega) (by omega) (by omega),AQ,ih n _ _ (by rw[List.length_drop];omega) (by omega) (fun d hd=>hI d (List.mem_of_mem_drop hd)) (by rw[A8];omega)];simp[Cw,h0]
theorem XQ(hk:1000≤k)(ds:List Int)(hds:ds.length≤2000)(hI:∀d,d∈ds→Be d):∀(f n p:Nat) (o:List Int),(ds.drop p).length≤128*f→f<n→p≤3000→o.length+1038*f≤1000000→Dp.Cc k n (p:Int) o ds=some (((),true),o++Cw f (ds.drop p)):=by
 intro f
 induction f with
 |zero=>
  intro n p o hd hn hp ho;obtain⟨n,rfl⟩:∃m,n=m+1:=⟨n-1,by omega⟩;rw[List.length_drop] at hd;simp only[Dp.Cc,AY (show ¬(p:Int)<(ds.length:Int) by omega),AU];simp[Cw]
 |succ f ih=>
  intro n p o hd hn hp ho;obtain⟨n,rfl⟩:∃m,n=m+1:=⟨n-1,by omega⟩;rw[List.length_drop] at hd;by_cases h0:ds.length≤p
  ·simp only[Dp.Cc,AY (show ¬(p:Int)<(ds.length:Int) by omega),AU]
   rw[List.drop_of_length_le h0];simp[Cw]
  ·have hw:IntKind.wrap .i64 ((p:Int)+128)=((p+128:Nat):Int):=by rw[AV (by omega) (by omega)];omega
   have hmn:(if((p+128:Nat):Int)<(ds.length:Int) then((p+128:Nat):Int) else(ds.length:Int))=((min (p+128) ds.length:Nat):Int):=by split<;>omega
   have hc1:kP ds (p:Int) ((min (p+128) ds.length:Nat):Int)=(ds.drop p).take 128:=by
    unfold kP;rw[Int.toNat_natCast,Int.toNat_natCast,List.drop_take];rcases Nat.le_total (p+128) ds.length with h|h
    ·rw[Nat.min_eq_left h];congr 1;omega
    ·rw[Nat.min_eq_right h,List.take_of_length_le (by rw[List.length_drop];omega),List.take_of_length_le (by rw[List.length_drop];omega)]
   have hne:ds.drop p≠[]:=fun e=>by
    have:=congrArg List.length e;rw[List.length_drop] at this;simp at this;omega
   have hb:=JG ((ds.drop p).take 128);simp only[Dp.Cc,AX (show(p:Int)<(ds.length:Int) by omega),AQ,hw,LG,hmn,AR,hc1];rw[FF (by omega) (by omega) (by omega),AQ,V6 k hk _ (by rw[List.length_take,List.length_drop];omega) (by rw[List.length_take];omega) (Ka fun d hd=>hI d (List.mem_of_mem_drop (List.mem_of_mem_take hd)))];simp only[AR];rw[Bc (by omega),AQ,ih n (p+128) _ (by rw[List.length_drop];omega) (by omega) (by omega) (by rw[A8];omega)];simp[Cw,hne]
theorem ND(l:List Int)(hl:l.length≤100000):∀(post pre:List Int) (y:Int) (n:Nat) (o:List Int),l=pre++y::post→post.length<n→o.length≤pre.length→
 DX.l3 k n l ((pre.length+1:Nat):Int) o=some ((),o++dif y post)∧D_.l3 k n l ((pre.length+1:Nat):Int) o=some ((),o++dif y post):=by
 intro post
 induction post with
 |nil=>
  intro pre y n o hl' hn ho;obtain⟨n,rfl⟩:∃m,n=m+1:=⟨n-1,by omega⟩;have hlen:l.length=pre.length+1:=by rw[hl'];simp
  simp only[DX.l3,D_.l3,AY (show ¬((pre.length+1:Nat):Int)<(l.length:Int) by omega),AU];simp[dif]
 |cons x post ih=>
  intro pre y n o hl' hn ho;simp only[Bn] at hn;obtain⟨n,rfl⟩:∃m,n=m+1:=⟨n-1,by omega⟩;have hlen:l.length=pre.length+1+(post.length+1):=by rw[hl'];simp;omega
  have hg1:gP l (pre.length:Int)=some y:=by rw[hl'];exact BB _ _ _
  have hg2:gP l ((pre.length+1:Nat):Int)=some x:=by
   have:=BB (pre++[y]) post x;rw[A8,Bz] at this;rw[hl',Wz];exact this
  have hw1:IntKind.wrap .i64 (((pre.length+1:Nat):Int)-1)=(pre.length:Int):=by rw[AV (by omega) (by omega)];omega
  have hw2:IntKind.wrap .i64 (((pre.length+1:Nat):Int)+1)=((pre.length+1+1:Nat):Int):=by rw[AV (by omega) (by omega)];omega
  have hi:=ih (pre++[y]) x n (o++[IntKind.wrap .i64 (x-y)]) (by rw[hl'];simp) (by omega) (by simp;omega);rw[A8,Bz] at hi;simp only[DX.l3,D_.l3,DX.d5,D_.d5,AX (show((pre.length+1:Nat):Int)<(l.length:Int) by omega),AQ,hg1,hg2,hw1,hw2,AR];rw[Bc (by simp;omega),AQ,AQ,hi.1,hi.2];simp[dif]
def Ez:List Int→List Int
 |[]=>[]
 |x::r=>dif x r
theorem NF(l:List Int)(hl:l.length≤100000)(hk:l.length<k):DX k l=some ((),Ez l)∧D_ k l=some ((),Ez l):=by
 unfold DX D_;cases l with
 |nil=>
  obtain⟨n,rfl⟩:∃m,k=m+1:=⟨k-1,by omega⟩;exact⟨rfl,rfl⟩
 |cons x r=>
  have:=ND k (x::r) hl r [] x k [] rfl (by simp at hk;omega) (by simp);exact this
def Co(xs:List Int):List Int:=(((uv 128++uv 4)++uv (xs.length:Int))++uv (zig (xs.headD 0)))++Cw 16 (Ez xs)
theorem NG(xs:List Int):(Ez xs).length≤xs.length:=by
 cases xs with
 |nil=>exact Nat.le_refl _
 |cons x r=>simp[Ez,E_]
theorem K7(xs:List Int):∀d,d∈Ez xs→Be d:=by
 cases xs with
 |nil=>intro d hd;cases hd
 |cons x r=>exact JM x r
theorem IP(hk:3000≤k)(xs:List Int)(hI:∀x,x∈xs→Be x)(hl:xs.length≤2000):Di k xs=some (((),true),Co xs)∧Dp k xs=some (((),true),Co xs):=by
 have key:∀x0:Int,Be x0→xs.headD 0=x0→Di.c6 k xs x0=some (((),true),Co xs)∧Dp.c6 k xs x0=some (((),true),Co xs):=by
  intro x0 h0 he;have u1:=CE 128;have u2:=CE 4;have u3:=CE (xs.length:Int);have u4:=CE (zig x0);have hdl:=NG xs;obtain⟨d1,d2⟩:=NF k xs (by omega) (by omega);unfold Di.c6 Dp.c6;simp only[JB k (by omega),Hr k (by omega) 128 ⟨by decide,by decide⟩,Hr k (by omega) 4 ⟨by decide,by decide⟩,Hr k (by omega) (xs.length:Int) ⟨by omega,by omega⟩,MS k (by omega) x0 h0.1 h0.2,ME k (by omega) x0 h0,AR,d1,d2];rw[Bc (by omega),AQ,AQ,Bc (by simp;omega),AQ,AQ,Bc (by simp;omega),AQ,AQ];have p1:=WQ k (by omega) 16 k (Ez xs) (((uv 128++uv 4)++uv (xs.length:Int))++uv (zig x0)) (by omega) (by omega) (K7 xs) (by simp;omega);have p2:=XQ k (by omega) (Ez xs) (by omega) (K7 xs) 16 k 0 (((uv 128++uv 4)++uv (xs.length:Int))++uv (zig x0)) (by simp;omega) (by omega) (by omega) (by simp;omega);rw[show((0:Nat):Int)=0 from rfl,List.drop_zero] at p2;rw[p1,p2];unfold Co;rw[he];exact⟨rfl,rfl⟩
 unfold Di Dp;rw[AY (show ¬(xs.length:Int)>2000 by omega),AU,AU];cases xs with
 |nil=>exact key 0 ⟨by decide,by decide⟩ rfl
 |cons x r=>
  have hg:gP (x::r) 0=some x:=rfl;rw[AX (show(((x::r).length:Int)>0) by simp),AQ,AQ,hg];exact key x (hI x (List.mem_cons_self ..)) rfl
end Go.A9
end
section
namespace Go.A9
open Go.Am Go.Fn
attribute [-simp] List.length_flatten
variable(k:Nat)
def Ci(many:Nat):Nat:=Cu 24 (many-1)
theorem Kg(hk:100≤k)(many:Nat)(hm:many≤2000):Ci many≤24∧Ic k ((many-1:Nat):Int)=some ((Ci many:Nat):Int)∧EE k ((many-1:Nat):Int)=some ((Ci many:Nat):Int)∧many-1<2^Ci many:=by
 have hlt:many-1<2^24:=by omega
 have hs:=X_ k 24 k (many-1) 0 hlt (by omega) (by omega);have VG:u64 ((many-1:Nat):Int)=many-1:=by have:=Kt (v:=((many-1:Nat):Int)) (by omega) (by omega);omega
 have hb:Ch (many-1)=Cu 24 (many-1):=GL 24 40 _ hlt;have hle:=Gu 24 (many-1);refine⟨hle,?_,?_,?_⟩
 ·unfold Ic Ci
  simp only[MK,VG,hb,AR,cst,AY (show ¬(((many-1:Nat):Int)<0) by omega),AY (show ¬(((Cu 24 (many-1):Nat):Int)>62) by omega),D6,AU]
 ·unfold EE Ci
  rw[AY (show ¬(((many-1:Nat):Int)<0) by omega),AU];simpa using hs
 ·unfold Ci
  rw[←hb];exact JF (by omega)
def Ee(ps:List Int)(many:Nat):Bool:=ps.all fun x=>decide (0≤x)&&decide (x≤(many:Int)-1)
def Db(ps:List Int)(many:Nat):List Int:=((Ci many:Nat):Int)::Bu (Ci many) ps.length ps
theorem VP(ps:List Int)(hl:ps.length<1000000)(many:Nat)(hm:many≤2000)(fin:Option ((Unit×Bool)×List Int))
 (hfin:((Ic k (if 0>(IntKind.wrap .i64 ((many:Int)-1)) then 0 else(IntKind.wrap .i64 ((many:Int)-1)))).bind fun r3=>
  (Dj k ps r3).bind fun r4=>
  cond (!r4.1.2)
   (some (((),false),[]))
   (cond (lim (List.length [IntKind.wrap .u8 r3]+List.length r4.2)) (some (((),true),[IntKind.wrap .u8 r3]++r4.2)) none))=fin):∀(post pre:List Int) (n:Nat),ps=pre++post→post.length<n→
 Fg.l4 k n ps (many:Int) ps (ps.length:Int) (pre.length:Int)=if Ee post many then fin else some (((),false),[]):=by
 intro post
 induction post with
 |nil=>
  intro pre n hp hn;obtain⟨n,rfl⟩:∃q,n=q+1:=⟨n-1,by omega⟩;have:ps=pre:=by simpa using hp
  subst this;simp only[Fg.l4,AY (show ¬(ps.length:Int)<(ps.length:Int) by omega),AU,hfin];rfl
 |cons y post ih=>
  intro pre n hp hn;simp only[Bn] at hn;obtain⟨n,rfl⟩:∃q,n=q+1:=⟨n-1,by omega⟩;have hlen:ps.length=pre.length+(post.length+1):=by rw[hp];simp
  have hy:gP ps (pre.length:Int)=some y:=by rw[hp];exact BB pre post y
  have hx:=ih (pre++[y]) n (by rw[hp];simp) (by omega);rw[A8,Bz] at hx;have e:IntKind.wrap .i64 ((pre.length:Int)+1)=((pre.length+1:Nat):Int):=by rw[AV (by omega) (by omega)];omega
  have e2:IntKind.wrap .i64 ((many:Int)-1)=(many:Int)-1:=AV (by omega) (by omega);simp only[Fg.l4,AX (show(pre.length:Int)<(ps.length:Int) by omega),AQ,hy,AR,e,e2,CQ];unfold Ee at*;rw[List.all_cons];cases hc:(decide (0≤y)&&decide (y≤(many:Int)-1)) with
  |true=>
   rw[Bh,AU,Et];exact hx
  |false=>rfl
theorem XV(ps:List Int)(hl:ps.length<1000000)(many:Nat)(hm:many≤2000)(fin:Option ((Unit×Bool)×List Int))
 (hfin:((GI k (IntKind.wrap .i64 ((many:Int)-1)) 0).bind fun r3=>
  (EE k r3).bind fun r4=>
  (Bb k ps r4).bind fun r5=>
  cond (!r5.1.2)
   (some (((),false),[]))
   (cond (lim (List.length [IntKind.wrap .u8 r4]+List.length r5.2)) (some (((),true),[IntKind.wrap .u8 r4]++r5.2)) none))=fin):∀(post pre:List Int) (n:Nat),ps=pre++post→post.length<n→
 Fu.l4 k n ps (many:Int) (pre.length:Int)=if Ee post many then fin else some (((),false),[]):=by
 intro post
 induction post with
 |nil=>
  intro pre n hp hn;obtain⟨n,rfl⟩:∃q,n=q+1:=⟨n-1,by omega⟩;have:ps=pre:=by simpa using hp
  subst this;simp only[Fu.l4,AY (show ¬(ps.length:Int)<(ps.length:Int) by omega),AU,hfin];rfl
 |cons y post ih=>
  intro pre n hp hn;simp only[Bn] at hn;obtain⟨n,rfl⟩:∃q,n=q+1:=⟨n-1,by omega⟩;have hlen:ps.length=pre.length+(post.length+1):=by rw[hp];simp
  have hy:gP ps (pre.length:Int)=some y:=by rw[hp];exact BB pre post y
  have hx:=ih (pre++[y]) n (by rw[hp];simp) (by omega);rw[A8,Bz] at hx;have e:IntKind.wrap .i64 ((pre.length:Int)+1)=((pre.length+1:Nat):Int):=by rw[AV (by omega) (by omega)];omega
  have e2:IntKind.wrap .i64 ((many:Int)-1)=(many:Int)-1:=AV (by omega) (by omega);simp only[Fu.l4,AX (show(pre.length:Int)<(ps.length:Int) by omega),AQ,hy,AR,e,e2,ES];unfold Ee at*;rw[List.all_cons];cases hc:(decide (0≤y)&&decide (y≤(many:Int)-1)) with
  |true=>
   rw[Bh,AU,Et];exact hx
  |false=>rfl
theorem Mi{ps:List Int}{many:Nat}(hk:100≤k)(hm:many≤2000)(hl:ps.length≤2000)(h:Ee ps many=true):D8 ps ((Ci many:Nat):Int)=true:=by
 obtain⟨w1,_,_,w2⟩:=Kg k hk many hm;refine Jo.2 ⟨hl,by omega,by omega,fun x hx=> ?_⟩;unfold Ee at h;have:=List.all_eq_true.1 h x hx;simp only[CO,Cz] at this;rw[Int.toNat_natCast];have h2:((many-1:Nat):Int)<((2^Ci many:Nat):Int):=by exact_mod_cast w2
 have h3:((2^Ci many:Nat):Int)=(2:Int)^Ci many:=by simp
 refine⟨this.1,?_⟩;rw[←h3];omega
theorem Mj(hk:2000000≤k)(ps:List Int)(hi:∀x,x∈ps→Be x)(hl:ps.length≤2000)(many:Nat)(hm:many≤2000):
 Fg k ps (many:Int)=some (((),Ee ps many),if Ee ps many then Db ps many else[])∧Fu k ps (many:Int)=some (((),Ee ps many),if Ee ps many then Db ps many else[]):=by
 obtain⟨w1,w2,w3,_⟩:=Kg k (by omega) many hm;have c0:(decide ((0:Int)≤(many:Int))&&decide ((many:Int)≤2000))=true:=by simp;omega
 have e2:IntKind.wrap .i64 ((many:Int)-1)=(many:Int)-1:=AV (by omega) (by omega);have NQ:(if 0>(IntKind.wrap .i64 ((many:Int)-1)) then 0 else(IntKind.wrap .i64 ((many:Int)-1)))=((many-1:Nat):Int):=by rw[e2];split<;>omega
 have NR:GI k (IntKind.wrap .i64 ((many:Int)-1)) 0=some ((many-1:Nat):Int):=by
  rw[e2,LF]
  congr 1
  split<;>omega
 have NV:IntKind.wrap .u8 ((Ci many:Nat):Int)=((Ci many:Nat):Int):=by rw[KC];omega
 have hi2:=VP k ps (by omega) many hm _ rfl ps [] k rfl (by omega);have hs2:=XV k ps (by omega) many hm _ rfl ps [] k rfl (by omega);obtain⟨r1,r2⟩:=Ms k hk ps hi (by omega) ((Ci many:Nat):Int);rw[List.length_nil,show((0:Nat):Int)=0 from rfl] at hi2 hs2;unfold Fg Fu;simp only[CQ,ES,AR,c0,Bh,AU];rw[hi2,hs2];cases hp:Ee ps many with
 |false=>exact⟨rfl,rfl⟩
 |true=>
  have hro:=Mi k (by omega) hm hl hp;have hrl:=FL (Ci many) w1 ps.length ps;rw[hro] at r1 r2;rw[Int.toNat_natCast] at r1 r2;simp only[if_true] at r1 r2⊢;rw[NQ,NR];simp only[w2,w3,AR,r1,r2,Bh,AU,NV];rw[Bc (by simp;omega),AQ];exact⟨rfl,rfl⟩
theorem W_(ns:List Int)(hns:ns.length≤2000)(most nx:Int)(hlt:∀x,x∈ns→x<most):∀(post pre:List Int) (n:Nat),ns=pre++post→post.length<n→Fh.l7 k n most nx (ns.length:Int) (pre.length:Int) ns=some (((),nx,true),ns):=by
 intro post
 induction post with
 |nil=>
  intro pre n hv hn;obtain⟨n,rfl⟩:∃x,n=x+1:=⟨n-1,by omega⟩;have:ns=pre:=by simpa using hv
  subst this;simp only[Fh.l7,AY (show ¬(ns.length:Int)<(ns.length:Int) by omega),AU]
 |cons y post ih=>
  intro pre n hv hn;simp only[Bn] at hn;obtain⟨n,rfl⟩:∃x,n=x+1:=⟨n-1,by omega⟩;have hlen:ns.length=pre.length+(post.length+1):=by rw[hv];simp
  have hg:gP ns (pre.length:Int)=some y:=by rw[hv];exact BB pre post y
  have e3:IntKind.wrap .i64 ((pre.length:Int)+1)=((pre.length+1:Nat):Int):=by rw[AV (by omega) (by omega)];omega
  have:=ih (pre++[y]) n (by rw[hv];simp) (by omega);rw[A8,Bz] at this;have hy:=hlt y (by rw[hv];simp);simp only[Fh.l7,AX (show(pre.length:Int)<(ns.length:Int) by omega),AQ,hg,AR,e3,AY (show ¬y≥most by omega),AU];exact this
theorem Ml(ps:List Int)(many:Nat)(hm:many≤2000):(Db ps many).length≤1+40*ps.length:=by
 have:=FL (Ci many) (Gu 24 _) ps.length ps;unfold Db;simp;omega
theorem Nv(ps:List Int)(many:Nat):Bq (Db ps many):=by
 intro x hx;unfold Db at hx;rcases List.mem_cons.1 hx with rfl|hx
 ·have:=Gu 24 (many-1)
  unfold Ci;omega
 ·exact Gp _ _ _ x hx
theorem Xa(hk:2000000≤k)(ps:List Int)(hl:ps.length≤2000)(many:Nat)(hm:many≤2000)(h:Ee ps many=true)(post:List Int)(hb2:Bq post)(hp:post.length<100000):
 Fh k (Db ps many++post) 0 (ps.length:Int) (many:Int)=some (((),(((Db ps many).length:Nat):Int),true),ps):=by
 obtain⟨w1,_⟩:=Kg k (by omega) many hm;have hro:=Mi k (by omega) hm hl h;have hrl:=Ml ps many hm;have hrl2:=FL (Ci many) w1 ps.length ps;have hbl:(Db ps many++post).length=(Db ps many).length+post.length:=A8;have hpl:(Db ps many).length=(Bu (Ci many) ps.length ps).length+1:=by unfold Db;rfl
 obtain⟨rr,_⟩:=Mv k hk ps (Ci many) hro [((Ci many:Nat):Int)] post (fun x hx=>by obtain rfl:=List.mem_singleton.1 hx;omega) hb2 (by simp;omega);rw[show[((Ci many:Nat):Int)]++(Bu (Ci many) ps.length ps++post)=Db ps many++post by unfold Db;simp] at rr;rw[Bz,show((1:Nat):Int)=1 from rfl] at rr;have e:IntKind.wrap .i64 (((Db ps many++post).length:Int)-1)=(((Db ps many++post).length-1:Nat):Int):=by rw[AV (by omega) (by omega)];omega
 have c0:(decide ((0:Int)≤0)&&decide ((0:Int)≤(((Db ps many++post).length-1:Nat):Int)))=true:=by simp
 have hg:gP (Db ps many++post) 0=some ((Ci many:Nat):Int):=rfl;have ew:IntKind.wrap .i64 ((Ci many:Nat):Int)=((Ci many:Nat):Int):=AV (by omega) (by omega);have e01:IntKind.wrap .i64 (0+1)=1:=by decide
 have hc:=W_ k ps hl (many:Int) ((1+(Bu (Ci many) ps.length ps).length:Nat):Int) (fun x hx=>by
  unfold Ee at h;have:=List.all_eq_true.1 h x hx;simp only[CO,Cz] at this;omega) ps [] k rfl (by omega)
 rw[List.length_nil,show((0:Nat):Int)=0 from rfl] at hc;unfold Fh;simp only[CQ,AR,e,c0,Bh,AU,hg,ew,e01,rr,hc,hpl];rw[Nat.add_comm 1]
end Go.A9
end
section
namespace Go.A9
open Go.Am Go.Fn
attribute [-simp] List.length_flatten
variable(k:Nat)
abbrev E8:Ty:= .st (.cons (.int .i64) (.cons .str .nil))
def DN(x y:AP):Bool:=(x.1==y.1)&&ig x.2.1 y.2.1
theorem GG{x y:AP}:DN x y=true↔x=y:=by
 unfold DN;rw[CO,beq_iff_eq,Gc,Cz];exact⟨fun⟨a,b⟩=>Prod.ext a (Prod.ext b rfl),fun h=>by subst h;exact⟨rfl,rfl⟩⟩
theorem VV(x y:AP):jQ E8 x y=DN x y:=by
 show(match(match some ((x.1:Int)==y.1),(match some (ig x.2.1 y.2.1),some true with|some p,some q=>some (p&&q)|_,_=>none) with|some p,some q=>some (p&&q)|_,_=>none) with|some b=>b|none=>false)=_;simp[DN]
def idx(v:AP):List AP→Option Nat
 |[]=>none
 |x::r=>if DN x v then some 0 else(idx v r).map (·+1)
theorem I5{v:AP}:∀{l:List AP} {i:Nat},idx v l=some i→i<l.length∧l[i]?=some v
 |[],i,h=>by simp[idx] at h
 |x::r,i,h=>by
  unfold idx at h;split at h
  ·rename_i hx
   cases h;exact⟨by simp,by simp[GG.1 hx]⟩
  ·obtain⟨j,hj,rfl⟩:=Option.map_eq_some_iff.1 h
   obtain⟨a,b⟩:=I5 hj;exact⟨by simp;omega,by simpa using b⟩
theorem Gd(v:AP):∀(a b:List AP),idx v (a++b)=(idx v a).or ((idx v b).map (·+a.length))
 |[],b=>by simp[idx]
 |x::a,b=>by
  simp only[List.cons_append,idx];split
  ·simp
  ·rw[Gd v a b]
   cases idx v a with
   |some i=>simp
   |none=>
    cases idx v b with
    |some i=>simp;omega
    |none=>simp
def F6(M:List (AP×Int))(d:List AP):Prop:=∀v,bU E8 v M=(idx v d).map fun i=>(i:Int)
theorem LU(x:AP)(n:Int):∀(M:List (AP×Int)),bU E8 x M=none→∀v,bU E8 v (fV E8 x n M)=(bU E8 v M).or (if DN v x then some n else none)
 |[],_,v=>by
  simp only[fV,bU];rw[VV v x];cases DN v x<;>rfl
 |p::M,h,v=>by
  simp only[bU] at h;split at h
  ·cases h
  ·rename_i hx
   simp only[fV,hx,bU];cases hv:jQ E8 v p.1 with
   |true=>simp
   |false=>simpa using LU x n M h v
theorem F6.M5{M:List (AP×Int)}{d:List AP}(h:F6 M d)(x:AP)(hn:bU E8 x M=none):F6 (fV E8 x (d.length:Int) M) (d++[x]):=by
 intro v;rw[LU x _ M hn v,h v,Gd];cases idx v d with
 |some i=>simp
 |none=>
  simp only[Option.map_none,Option.none_or,idx];by_cases e:DN x v=true
  ·have e2:DN v x=true:=by rw[GG] at e⊢;exact e.symm
   simp[e,e2]
  ·have e2:¬DN v x=true:=by rw[GG] at e⊢;exact fun h=>e h.symm
   simp[e,e2]
theorem F6.M6{M:List (AP×Int)}{d:List AP}(h:F6 M d)(x:AP)(hn:(bU E8 x M).isSome=true):F6 M (d++[x]):=by
 intro v;rw[h v,Gd];cases hv:idx v d with
 |some i=>simp
 |none=>
  simp only[Option.map_none,Option.none_or,idx];by_cases e:DN x v=true
  ·obtain rfl:=GG.1 e
   rw[h x,hv] at hn;simp at hn
  ·simp[e]
def places(d:List AP):List AP→Option (List Int)
 |[]=>some []
 |v::r=>match idx v d,places d r with
  |some i,some l=>some ((i:Int)::l)
  |_,_=>none
theorem FK{d:List AP}:∀{l:List AP} {ps:List Int},places d l=some ps→ps.length=l.length
 |[],ps,h=>by cases h;rfl
 |v::r,ps,h=>by
  unfold places at h;split at h
  ·rename_i i l h1 h2
   cases h;simp[FK h2]
  ·cases h
theorem Jl{d:List AP}:∀{l:List AP} {ps:List Int},places d l=some ps→∀x,x∈ps→0≤x∧x<(d.length:Int)
 |[],ps,h,x,hx=>by cases h;cases hx
 |v::r,ps,h,x,hx=>by
  unfold places at h;split at h
  ·rename_i i l h1 h2
   cases h;rcases List.mem_cons.1 hx with rfl|hx
   ·have:=(I5 h1).1;omega
   ·exact Jl h2 x hx
  ·cases h
theorem Kh{d l:List AP}{ps:List Int}(h:places d l=some ps):Ee ps d.length=true:=by
 unfold Ee;rw[List.all_eq_true];intro x hx;have:=Jl h x hx;simp only[CO,Cz];omega
abbrev IE:=(Unit×Bool)×List Int
def Em(l d:List AP):IE:=match places d l with
 |some ps=>(((),true),Db ps d.length)
 |none=>(((),false),[])
theorem Hl{α:Type}{a:List α}{x:α}(h:a.length≤4000000):lim (a.length+[x].length)=true:=Bc (by simp;omega)
theorem VL(hk:2000000≤k)(l d:List AP)(hl:l.length≤2000)(hd:d.length≤2000)(M:List (AP×Int))(hM:F6 M d):∀(post pre:List AP) (n:Nat) (o:List Int),l=pre++post→post.length<n→places d pre=some o→
 CL.Cc k n d l (l.length:Int) (pre.length:Int) M o=some (Em l d):=by
 intro post
 induction post with
 |nil=>
  intro pre n o hp hn ho;obtain⟨n,rfl⟩:∃q,n=q+1:=⟨n-1,by omega⟩;have:l=pre:=by simpa using hp
  subst this;have hol:=FK ho;have hpo:=Kh ho;obtain⟨p1,_⟩:=Mj k hk o (fun x hx=>by have:=Jl ho x hx;exact⟨by omega,by omega⟩) (by omega) d.length hd;rw[hpo] at p1;simp only[CL.Cc,AY (show ¬(l.length:Int)<(l.length:Int) by omega),AU,p1,AR,if_true];unfold Em;rw[ho]
 |cons y post ih=>
  intro pre n o hp hn ho;simp only[Bn] at hn;obtain⟨n,rfl⟩:∃q,n=q+1:=⟨n-1,by omega⟩;have hlen:l.length=pre.length+(post.length+1):=by rw[hp];simp
  have hy:gP l (pre.length:Int)=some y:=by rw[hp];exact BB pre post y
  have e:IntKind.wrap .i64 ((pre.length:Int)+1)=((pre.length+1:Nat):Int):=by rw[AV (by omega) (by omega)];omega
  have hol:=FK ho;have Kc:∀(a:List AP) (o:List Int) (v:AP),places d a=some o→places d (a++[v])=(idx v d).map fun i=>o++[(i:Int)]:=by
   intro a
   induction a with
   |nil=>intro o v h;cases h;simp only[List.nil_append,places];cases idx v d<;>rfl
   |cons z a iha=>
    intro o v h;simp only[places] at h;split at h
    ·rename_i i m h1 h2
     cases h;simp only[List.cons_append,places,h1,iha m v h2];cases idx v d<;>rfl
    ·cases h
  have Ke:∀(a b:List AP) (v:AP),idx v d=none→places d (a++v::b)=none:=by
   intro a
   induction a with
   |nil=>intro b v h;simp[places,h]
   |cons z a iha=>intro b v h;simp only[List.cons_append,places,iha b v h];cases idx z d<;>rfl
  simp only[CL.Cc,AX (show(pre.length:Int)<(l.length:Int) by omega),AQ,hy,AR,e];have hm:=hM y;cases hi:idx y d with
  |none=>
   rw[hi] at hm;have hm:bU (.st (.cons (.int .i64) (.cons .str .nil))) y M=none:=hm;rw[hm];simp only[Option.isSome_none,Dm,AQ];unfold Em;rw[hp,Ke pre post y hi]
  |some i=>
   rw[hi] at hm;have hm:bU (.st (.cons (.int .i64) (.cons .str .nil))) y M=some (i:Int):=hm;rw[hm];simp only[Option.isSome_some,Bh,AU,Option.getD_some];rw[Hl (by omega),AQ];have:=ih (pre++[y]) n (o++[(i:Int)]) (by rw[hp];simp) (by omega) (by rw[Kc pre o y ho,hi];rfl);rw[A8,Bz] at this;exact this
theorem VK(hk:2000000≤k)(l d:List AP)(hl:l.length≤2000)(hd:d.length≤2000):∀(post pre:List AP) (n:Nat) (M:List (AP×Int)),d=pre++post→post.length<n→F6 M pre→
 CL.l3 k n l d d (d.length:Int) (pre.length:Int) M=some (Em l d):=by
 intro post
 induction post with
 |nil=>
  intro pre n M hp hn hM;obtain⟨n,rfl⟩:∃q,n=q+1:=⟨n-1,by omega⟩;have:d=pre:=by simpa using hp
  subst this;have:=VL k hk l d hl hd M hM l [] k [] rfl (by omega) rfl;simp only[CL.l3,AY (show ¬(d.length:Int)<(d.length:Int) by omega),AU];exact this
 |cons y post ih=>
  intro pre n M hp hn hM;simp only[Bn] at hn;obtain⟨n,rfl⟩:∃q,n=q+1:=⟨n-1,by omega⟩;have hlen:d.length=pre.length+(post.length+1):=by rw[hp];simp
  have hy:gP d (pre.length:Int)=some y:=by rw[hp];exact BB pre post y
  have e:IntKind.wrap .i64 ((pre.length:Int)+1)=((pre.length+1:Nat):Int):=by rw[AV (by omega) (by omega)];omega
  simp only[CL.l3,AX (show(pre.length:Int)<(d.length:Int) by omega),AQ,hy,AR,CL.c8,e];cases hm:(bU (.st (.cons (.int .i64) (.cons .str .nil))) y M).isSome with
  |false=>
   have hnone:bU E8 y M=none:=by simpa using hm
   have:=ih (pre++[y]) n (fV E8 y (pre.length:Int) M) (by rw[hp];simp) (by omega) (hM.M5 y hnone);rw[A8,Bz] at this;rw[Dm,AQ];exact this
  |true=>
   have:=ih (pre++[y]) n M (by rw[hp];simp) (by omega) (hM.M6 y hm);rw[A8,Bz] at this;rw[Bh,AU];exact this
theorem VJ(hk:2000000≤k)(l d:List AP)(hl:l.length≤2000)(hd:d.length≤2000):CL k l d=some (Em l d):=by
 have:=VK k hk l d hl hd d [] k [] rfl (by omega) (fun v=>rfl);unfold CL;exact this
theorem XB(Hy:(List AP)→(List AP)→Int→(List Int)→Option IE)(l d:List AP)(hd:d.length≤2000)(p:Nat)(y:AP)(hy:gP l (p:Int)=some y)(hp:p≤2000)(o:List Int)(ho:o.length≤4000):∀(post pre:List AP) (n:Nat),d=pre++post→post.length<n→idx y pre=none→
 Df.Hf k Hy n l d (p:Int) (pre.length:Int) o=match idx y d with
  |some i=>Hy l d ((p+1:Nat):Int) (o++[(i:Int)])
  |none=>some (((),false),[]):=by
 intro post
 induction post with
 |nil=>
  intro pre n hv hn hx;obtain⟨n,rfl⟩:∃q,n=q+1:=⟨n-1,by omega⟩;have:d=pre:=by simpa using hv
  subst this;rw[hx];simp only[Df.Hf,AY (show ¬(d.length:Int)<(d.length:Int) by omega),AU,AR,CG rfl,AQ]
 |cons z post ih=>
  intro pre n hv hn hx;simp only[Bn] at hn;obtain⟨n,rfl⟩:∃q,n=q+1:=⟨n-1,by omega⟩;have hlen:d.length=pre.length+(post.length+1):=by rw[hv];simp
  have hz:gP d (pre.length:Int)=some z:=by rw[hv];exact BB pre post z
  have e:IntKind.wrap .i64 ((pre.length:Int)+1)=((pre.length+1:Nat):Int):=by rw[AV (by omega) (by omega)];omega
  have e1:IntKind.wrap .i64 ((p:Int)+1)=((p+1:Nat):Int):=by rw[AV (by omega) (by omega)];omega
  have hs:(z.1==y.1&&(ig z.2.1 y.2.1&&true))=DN z y:=by unfold DN;rw[Bool.and_true]
  simp only[Df.Hf,AX (show(pre.length:Int)<(d.length:Int) by omega),AQ,hz,hy,AR,hs,e,e1];cases GY:DN z y with
  |true=>
   have hi:idx y d=some pre.length:=by
    rw[hv,Gd,hx];simp[idx,GY]
   rw[Bh,AU,A_ (show ¬(pre.length:Int)=(d.length:Int) by omega),AU,Hl (by omega),AQ,hi]
  |false=>
   have:=ih (pre++[z]) n (by rw[hv];simp) (by omega) (by rw[Gd,hx];simp[idx,GY]);rw[A8,Bz] at this;rw[Dm,AQ];exact this
theorem XC(hk:2000000≤k)(l d:List AP)(hl:l.length≤2000)(hd:d.length≤2000):∀(post pre:List AP) (n:Nat) (o:List Int),l=pre++post→post.length<n→places d pre=some o→
 Df.FW k n l d (pre.length:Int) o=some (Em l d):=by
 intro post
 induction post with
 |nil=>
  intro pre n o hp hn ho;obtain⟨n,rfl⟩:∃q,n=q+1:=⟨n-1,by omega⟩;have:l=pre:=by simpa using hp
  subst this;have hol:=FK ho;have hpo:=Kh ho;obtain⟨_,p1⟩:=Mj k hk o (fun x hx=>by have:=Jl ho x hx;exact⟨by omega,by omega⟩) (by omega) d.length hd;rw[hpo] at p1;simp only[Df.FW,AY (show ¬(l.length:Int)<(l.length:Int) by omega),AU,p1,AR,if_true];unfold Em;rw[ho]
 |cons y post ih=>
  intro pre n o hp hn ho;simp only[Bn] at hn;obtain⟨n,rfl⟩:∃q,n=q+1:=⟨n-1,by omega⟩;have hlen:l.length=pre.length+(post.length+1):=by rw[hp];simp
  have hy:gP l (pre.length:Int)=some y:=by rw[hp];exact BB pre post y
  have hol:=FK ho;have Kc:∀(a:List AP) (o:List Int) (v:AP),places d a=some o→places d (a++[v])=(idx v d).map fun i=>o++[(i:Int)]:=by
   intro a
   induction a with
   |nil=>intro o v h;cases h;simp only[List.nil_append,places];cases idx v d<;>rfl
   |cons z a iha=>
    intro o v h;simp only[places] at h;split at h
    ·rename_i i m h1 h2
     cases h;simp only[List.cons_append,places,h1,iha m v h2];cases idx v d<;>rfl
    ·cases h
  have Ke:∀(a b:List AP) (v:AP),idx v d=none→places d (a++v::b)=none:=by
   intro a
   induction a with
   |nil=>intro b v h;simp[places,h]
   |cons z a iha=>intro b v h;simp only[List.cons_append,places,iha b v h];cases idx z d<;>rfl
  have hin:=XB k (Df.FW k n) l d hd pre.length y hy (by omega) o (by omega) d [] k rfl (by omega) rfl;rw[List.length_nil,show((0:Nat):Int)=0 from rfl] at hin;simp only[Df.FW,AX (show(pre.length:Int)<(l.length:Int) by omega),AQ,hin];cases hi:idx y d with
  |none=>
   simp only;unfold Em;rw[hp,Ke pre post y hi]
  |some i=>
   simp only;have:=ih (pre++[y]) n (o++[(i:Int)]) (by rw[hp];simp) (by omega) (by rw[Kc pre o y ho,hi];rfl);rw[A8,Bz] at this;exact this
theorem XA(hk:2000000≤k)(l d:List AP)(hl:l.length≤2000)(hd:d.length≤2000):Df.FW k k l d 0 []=some (Em l d):=by
 have:=XC k hk l d hl hd l [] k [] rfl (by omega) rfl;exact this
theorem NC(l d:List AP)(hd:d.length≤2000)(ps:List Int)(hps:ps.length≤2000)(hp:places d l=some ps):∀(post pre:List Int) (lq lp:List AP) (n:Nat),ps=pre++post→l=lp++lq→lp.length=pre.length→places d lq=some post→post.length<n→
 Fe.l5 k n d ps (ps.length:Int) (pre.length:Int) lp=some (((),true),l):=by
 intro post
 induction post with
 |nil=>
  intro pre lq lp n h1 h2 h3 h4 hn;obtain⟨n,rfl⟩:∃q,n=q+1:=⟨n-1,by omega⟩;have:ps=pre:=by simpa using h1
  subst this;have hq:=FK h4;have:lq=[]:=List.eq_nil_of_length_eq_zero (by simpa using hq.symm);subst this;have:l=lp:=by simpa using h2
  subst this;simp only[Fe.l5,AY (show ¬(ps.length:Int)<(ps.length:Int) by omega),AU]
 |cons y post ih=>
  intro pre lq lp n h1 h2 h3 h4 hn;simp only[Bn] at hn;obtain⟨n,rfl⟩:∃q,n=q+1:=⟨n-1,by omega⟩;have hlen:ps.length=pre.length+(post.length+1):=by rw[h1];simp
  have hy:gP ps (pre.length:Int)=some y:=by rw[h1];exact BB pre post y
  have e:IntKind.wrap .i64 ((pre.length:Int)+1)=((pre.length+1:Nat):Int):=by rw[AV (by omega) (by omega)];omega
  have e2:IntKind.wrap .i64 ((d.length:Int)-1)=(d.length:Int)-1:=AV (by omega) (by omega);cases lq with
  |nil=>simp[places] at h4
  |cons v lq=>
   simp only[places] at h4;split at h4
   ·rename_i i m hi hm
    simp only[Eg,List.cons.injEq] at h4;obtain⟨rfl,rfl⟩:=h4;obtain⟨g1,g2⟩:=I5 hi;have hg:gP d (i:Int)=some v:=by rw[Dc];exact g2
    have c0:(decide ((0:Int)≤(i:Int))&&decide ((i:Int)≤(d.length:Int)-1))=true:=by simp;omega
    have:=ih (pre++[(i:Int)]) lq (lp++[v]) n (by rw[h1];simp) (by rw[h2];simp) (by simp[h3]) hm (by omega);rw[A8,Bz] at this;simp only[Fe.l5,AX (show(pre.length:Int)<(ps.length:Int) by omega),AQ,hy,AR,e,e2,CQ,c0,Bh,AU,hg];rw[Hl (by omega),AQ];exact this
   ·cases h4
theorem NB(l d:List AP)(hl:l.length≤2000)(hlk:l.length<k)(hd:d.length≤2000)(ps:List Int)(hp:places d l=some ps):Fe k d ps=some (((),true),l):=by
 have hq:=FK hp;have:=NC k l d hd ps (by omega) hp ps [] l [] k rfl rfl rfl hp (by omega);unfold Fe;rw[AY (show ¬(ps.length:Int)>2000 by omega),AU];exact this
end Go.A9
end
section
namespace Go.A9
open Go.Am Go.Fn
attribute [-simp] List.length_flatten
variable(k:Nat)
def FU(l:List AP)(j i:Nat):Int:=((u64 ((l[i]?.getD (0,⟨#[]⟩,())).1)/256^j%256:Nat):Int)
def Fx(l:List AP)(t:Nat):Int:=FU l (t/l.length) (t%l.length)
def C8(wd:Nat)(l:List AP):List Int:=(List.range (wd*l.length)).map (Fx l)
theorem Kq(l:List AP)(j i:Nat)(hi:i<l.length):Fx l (j*l.length+i)=FU l j i:=by
 unfold Fx;have h1:(j*l.length+i)/l.length=j:=by
  rw[Nat.mul_comm,Nat.mul_add_div (by omega),Nat.div_eq_of_lt hi,Nat.add_zero]
 have h2:(j*l.length+i)%l.length=i:=by
  rw[Nat.mul_comm,Nat.mul_add_mod,Nat.mod_eq_of_lt hi]
 rw[h1,h2]
theorem VR(L6:(List AP)→Int→Int→(List Int)→Option ((Unit×Bool)×(List Int)))(l:List AP)(hl:l.length≤2000)(wd:Int)(j:Nat)(hj:j<8):∀(d n i:Nat),i+d=l.length→d<n→
 Dk.l9 k L6 n l (j:Int) wd (j:Int) l (l.length:Int) (i:Int) ((List.range (j*l.length+i)).map (Fx l))=L6 l wd ((j+1:Nat):Int) ((List.range ((j+1)*l.length)).map (Fx l)):=by
 intro d
 induction d with
 |zero=>
  intro n i hi hn;obtain⟨n,rfl⟩:∃q,n=q+1:=⟨n-1,by omega⟩;obtain rfl:i=l.length:=by omega
  have e:IntKind.wrap .i64 ((j:Int)+1)=((j+1:Nat):Int):=by rw[AV (by omega) (by omega)];omega
  simp only[Dk.l9,AY (show ¬(l.length:Int)<(l.length:Int) by omega),AU,e];rw[show(j+1)*l.length=j*l.length+l.length by rw[Nat.add_mul,Nat.one_mul]]
 |succ d ih=>
  intro n i hi hn;obtain⟨n,rfl⟩:∃q,n=q+1:=⟨n-1,by omega⟩;have hil:i<l.length:=by omega
  have hy:gP l (i:Int)=some l[i]:=by rw[Dc,Ef hil]
  have e8:IntKind.wrap .i64 (8*(j:Int))=((8*j:Nat):Int):=by rw[AV (by omega) (by omega)];omega
  have e1:IntKind.wrap .i64 ((i:Int)+1)=((i+1:Nat):Int):=by rw[AV (by omega) (by omega)];omega
  have hb:IntKind.wrap .u8 (qW .i64 l[i].1 ((8*j:Nat):Int))=Fx l (j*l.length+i):=by
   rw[Kl _ hj,Kq l j i hil];unfold FU;rw[Ef hil];rfl
  have hmul:j*l.length≤8*2000:=Nat.mul_le_mul (by omega) hl;simp only[Dk.l9,AX (show(i:Int)<(l.length:Int) by omega),AQ,hy,AR,e8,AX (show(0:Int)≤((8*j:Nat):Int) by omega),hb,e1];rw[Bc (by simp;omega),AQ];have:=ih n (i+1) (by omega) (by omega);rw[show j*l.length+(i+1)=j*l.length+i+1 by omega,List.range_succ,List.map_append] at this;exact this
theorem VS(hk:3000≤k)(l:List AP)(hl:l.length≤2000)(wd:Nat)(hw:wd≤8):∀(d n j:Nat),j+d=wd→d<n→
 Dk.l6 k n l (wd:Int) (j:Int) ((List.range (j*l.length)).map (Fx l))=some (((),true),C8 wd l):=by
 intro d
 induction d with
 |zero=>
  intro n j hj hn;obtain⟨n,rfl⟩:∃q,n=q+1:=⟨n-1,by omega⟩;obtain rfl:j=wd:=by omega
  simp only[Dk.l6,AY (show ¬(j:Int)<(j:Int) by omega),AU];rfl
 |succ d ih=>
  intro n j hj hn;obtain⟨n,rfl⟩:∃q,n=q+1:=⟨n-1,by omega⟩;have:=VR k (Dk.l6 k n) l hl (wd:Int) j (by omega) l.length k 0 (by omega) (by omega);rw[show((0:Nat):Int)=0 from rfl,Nat.add_zero] at this;simp only[Dk.l6,AX (show(j:Int)<(wd:Int) by omega),AQ,this];exact ih n (j+1) (by omega) (by omega)
def C9(wd:Nat)(l:List AP)(i j:Nat):List Int:=
 (List.range (wd*l.length)).map fun t=>if t%l.length<i∨(t%l.length=i∧t/l.length<j) then Fx l t else 0
theorem XU(wd:Nat)(l:List AP)(i j:Nat)(hi:i<l.length)(hj:j<wd):(C9 wd l i j).set (j*l.length+i) (Fx l (j*l.length+i))=C9 wd l i (j+1):=by
 have hlt:j*l.length+i<wd*l.length:=by
  have:(j+1)*l.length≤wd*l.length:=Nat.mul_le_mul_right _ (by omega);rw[Nat.add_mul,Nat.one_mul] at this;omega
 have h1:(j*l.length+i)/l.length=j:=by
  rw[Nat.mul_comm,Nat.mul_add_div (by omega),Nat.div_eq_of_lt hi,Nat.add_zero]
 have h2:(j*l.length+i)%l.length=i:=by
  rw[Nat.mul_comm,Nat.mul_add_mod,Nat.mod_eq_of_lt hi]
 apply List.ext_getElem (by simp[C9]);intro t ht1 ht2;simp only[C9,List.length_set,List.length_map,List.length_range] at ht1;rw[List.getElem_set];by_cases e:j*l.length+i=t
 ·subst e
  rw[if_pos rfl];simp only[C9,List.getElem_map,List.getElem_range,h1,h2];rw[if_pos (by first|exact .inr ⟨rfl,by omega⟩|exact .inr ⟨trivial,by omega⟩)]
 ·rw[if_neg e]
  simp only[C9,List.getElem_map,List.getElem_range];have key:(t%l.length=i∧t/l.length=j)→False:=by
   intro⟨a,b⟩;apply e;have:=Nat.div_add_mod t l.length;rw[a,b,Nat.mul_comm] at this;exact this
  by_cases c:t%l.length<i∨(t%l.length=i∧t/l.length<j)
  ·rw[if_pos c,if_pos (c.imp id fun h=>⟨h.1,by omega⟩)]
  ·rw[if_neg c,if_neg]
   rintro(h|⟨h3,h4⟩)
   ·exact c (.inl h)
   ·exact key ⟨h3,by
     have:¬t/l.length<j:=fun h=>c (.inr ⟨h3,h⟩);omega⟩
theorem XT(wd:Nat)(l:List AP)(i:Nat)(hi:i<l.length):C9 wd l i wd=C9 wd l (i+1) 0:=by
 apply List.ext_getElem (by simp[C9]);intro t ht1 ht2;simp only[C9,List.length_map,List.length_range] at ht1;simp only[C9,List.getElem_map,List.getElem_range];have h1:t/l.length<wd:=by
  apply Nat.div_lt_of_lt_mul;rw[Nat.mul_comm];exact ht1
 by_cases c:t%l.length<i+1
 ·have:t%l.length<i∨(t%l.length=i∧t/l.length<wd):=by
   rcases Nat.lt_or_ge (t%l.length) i with h|h
   ·exact .inl h
   ·exact .inr ⟨by omega,h1⟩
  rw[if_pos this,if_pos (.inl c)]
 ·rw[if_neg (fun h=>h.elim (fun h=>c (by omega)) (fun h=>c (by omega))),if_neg (fun h=>h.elim (fun h=>c h) (fun h=>absurd h.2 (Nat.not_lt_zero _)))]
theorem X4(L7:(List AP)→Int→Int→Int→(List Int)→Option ((Unit×Bool)×(List Int)))(l:List AP)(hl:l.length≤2000)(wd:Nat)(hw:wd≤8)(i:Nat)(hi:i<l.length):∀(d n j:Nat),j+d=wd→d<n→
 Dr.l10 k L7 n l (wd:Int) (l.length:Int) (i:Int) (j:Int) (C9 wd l i j)=L7 l (wd:Int) (l.length:Int) ((i+1:Nat):Int) (C9 wd l (i+1) 0):=by
 intro d
 induction d with
 |zero=>
  intro n j hj hn;obtain⟨n,rfl⟩:∃q,n=q+1:=⟨n-1,by omega⟩;obtain rfl:j=wd:=by omega
  have e:IntKind.wrap .i64 ((i:Int)+1)=((i+1:Nat):Int):=by rw[AV (by omega) (by omega)];omega
  simp only[Dr.l10,AY (show ¬(j:Int)<(j:Int) by omega),AU,e,XT j l i hi]
 |succ d ih=>
  intro n j hj hn;obtain⟨n,rfl⟩:∃q,n=q+1:=⟨n-1,by omega⟩;have hlt:j*l.length+i<wd*l.length:=by
   have:(j+1)*l.length≤wd*l.length:=Nat.mul_le_mul_right _ (by omega);rw[Nat.add_mul,Nat.one_mul] at this;omega
  have YE:wd*l.length≤8*2000:=Nat.mul_le_mul hw hl;have hy:gP l (i:Int)=some l[i]:=by rw[Dc,Ef hi]
  have e8:IntKind.wrap .i64 (8*(j:Int))=((8*j:Nat):Int):=by rw[AV (by omega) (by omega)];omega
  have e1:IntKind.wrap .i64 ((j:Int)+1)=((j+1:Nat):Int):=by rw[AV (by omega) (by omega)];omega
  have ex:IntKind.wrap .i64 (IntKind.wrap .i64 ((j:Int)*(l.length:Int))+(i:Int))=((j*l.length+i:Nat):Int):=by
   rw[show(j:Int)*(l.length:Int)=((j*l.length:Nat):Int) by simp,AV (x:=((j*l.length:Nat):Int)) (by omega) (by omega),AV (by omega) (by omega)];omega
  have hb:IntKind.wrap .u8 (qW .i64 l[i].1 ((8*j:Nat):Int))=Fx l (j*l.length+i):=by
   rw[Kl _ (by omega),Kq l j i hi];unfold FU;rw[Ef hi];rfl
  have hlen:(C9 wd l i j).length=wd*l.length:=by simp[C9]
  obtain⟨z,hz⟩:∃z,gP (C9 wd l i j) ((j*l.length+i:Nat):Int)=some z:=⟨_,by rw[Dc,Ef (by rw[hlen];exact hlt)]⟩;simp only[Dr.l10,AX (show(j:Int)<(wd:Int) by omega),AQ,hy,AR,e8,AX (show(0:Int)≤((8*j:Nat):Int) by omega),ex,hz,hb,e1,Int.toNat_natCast];rw[XU wd l i j hi (by omega)];exact ih n (j+1) (by omega) (by omega)
theorem X5(hk:3000≤k)(l:List AP)(hl:l.length≤2000)(wd:Nat)(hw:wd≤8):∀(d n i:Nat),i+d=l.length→d<n→
 Dr.l7 k n l (wd:Int) (l.length:Int) (i:Int) (C9 wd l i 0)=some (((),true),C8 wd l):=by
 intro d
 induction d with
 |zero=>
  intro n i hi hn;obtain⟨n,rfl⟩:∃q,n=q+1:=⟨n-1,by omega⟩;obtain rfl:i=l.length:=by omega
  simp only[Dr.l7,AY (show ¬(l.length:Int)<(l.length:Int) by omega),AU]
  congr 2
  apply List.ext_getElem (by simp[C9,C8]);intro t ht1 ht2;simp only[C9,List.length_map,List.length_range] at ht1;simp only[C9,C8,List.getElem_map,List.getElem_range];have hpos:0<l.length:=by
   rcases Nat.eq_zero_or_pos l.length with h|h
   ·rw[h] at ht1;omega
   ·exact h
  rw[if_pos (.inl (Nat.mod_lt _ hpos))]
 |succ d ih=>
  intro n i hi hn;obtain⟨n,rfl⟩:∃q,n=q+1:=⟨n-1,by omega⟩;have:=X4 k (Dr.l7 k n) l hl wd hw i (by omega) wd k 0 (by omega) (by omega);rw[show((0:Nat):Int)=0 from rfl] at this;simp only[Dr.l7,AX (show(i:Int)<(l.length:Int) by omega),AQ,this];exact ih n (i+1) (by omega) (by omega)
def Bp(t:Int):Nat:=if t=1 then 4 else if t=2∨t=5 then 8 else 0
theorem Kz(t:Int):G7 k t=some ((Bp t:Nat):Int)∧EF k t=some ((Bp t:Nat):Int)∧(Bp t=0∨(Bp t=4∧t=1)∨(Bp t=8∧(t=2∨t=5))):=by
 obtain⟨wd,h1,h2,h3,h4⟩:=MC k t;have hw:CV k t=some ((Bp t:Nat):Int):=by
  unfold CV Bp;by_cases a:t=1
  ·subst a;rfl
  ·by_cases b:t=2
   ·subst b;rfl
   ·by_cases c:t=5
    ·subst c;rfl
    ·simp[CV.c6,A_ a,A_ b,A_ c,a,b,c]
 rw[hw] at h3;obtain rfl:=Option.some.inj h3;refine⟨h1,h2,?_⟩;unfold Bp;by_cases a:t=1
 ·simp[a]
 ·by_cases b:t=2∨t=5
  ·rw[if_neg a,if_pos b];exact .inr (.inr ⟨rfl,b⟩)
  ·rw[if_neg a,if_neg b];exact .inl rfl
def Fy(t:Int)(l:List AP):Bool:=decide (Bp t≠0)&&BJ t l
theorem XW(hk:3000≤k)(t:Int)(l:List AP)(hl:l.length<1000000000)(hlk:l.length<k):
 Dk k t l=some (((),Fy t l),if Fy t l then C8 (Bp t) l else[])∧Dr k t l=some (((),Fy t l),if Fy t l then C8 (Bp t) l else[]):=by
 obtain⟨o1,o2⟩:=FZ k t l hl hlk;obtain⟨w1,w2,w3⟩:=Kz k t;unfold Dk Dr Fy;simp only[w1,w2,o1,o2,AR,cst];by_cases h0:Bp t=0
 ·rw[h0]
  exact⟨rfl,rfl⟩
 ·rw[A_ (show ¬((Bp t:Nat):Int)=0 by omega),AX h0,EU,Et]
  cases hv:BJ t l with
  |false=>exact⟨rfl,rfl⟩
  |true=>
   obtain⟨_,hl2,_⟩:=EI.1 hv;have hm:Bp t*l.length≤8*2000:=Nat.mul_le_mul (by omega) hl2;have e:IntKind.wrap .i64 (((Bp t:Nat):Int)*(l.length:Int))=((Bp t*l.length:Nat):Int):=by
    rw[show((Bp t:Nat):Int)*(l.length:Int)=((Bp t*l.length:Nat):Int) by simp,AV (by omega) (by omega)]
   have h1:=VS k hk l hl2 (Bp t) (by omega) (Bp t) k 0 (by omega) (by omega);have h2:=X5 k hk l hl2 (Bp t) (by omega) l.length k 0 (by omega) (by omega);have hz:C9 (Bp t) l 0 0=List.replicate (Bp t*l.length) 0:=by
    apply List.ext_getElem (by simp[C9]);intro i a b;simp[C9]
   rw[hz] at h2;simp only[Bh,AU,if_true,e];rw[Gg (by omega) (by omega),AQ,Int.toNat_natCast];rw[Nat.zero_mul] at h1;exact⟨h1,h2⟩
end Go.A9
end
section
namespace Go.A9
open Go.Am Go.Fn
attribute [-simp] List.length_flatten
variable(k:Nat)
theorem Jw(wd:Nat)(l:List AP):(C8 wd l).length=wd*l.length:=by simp[C8]
theorem Nw(wd:Nat)(l:List AP):Bq (C8 wd l):=by
 intro x hx;unfold C8 at hx;obtain⟨t,_,rfl⟩:=List.mem_map.1 hx;unfold Fx FU;omega
theorem XR(wd:Nat)(l:List AP)(post:List Int)(j i:Nat)(hj:j<wd)(hi:i<l.length):gP (C8 wd l++post) ((j*l.length+i:Nat):Int)=some (FU l j i):=by
 have hlt:j*l.length+i<wd*l.length:=by
  have:(j+1)*l.length≤wd*l.length:=Nat.mul_le_mul_right _ (by omega);rw[Nat.add_mul,Nat.one_mul] at this;omega
 rw[Dc,List.getElem?_append_left (by rw[Jw];exact hlt)];unfold C8;rw[List.getElem?_map,List.getElem?_range hlt];simp only[Option.map_some];rw[Kq l j i hi]
theorem XY(L6:(List Int)→Int→Int→Int→Int→Int→(List AP)→Option ((Unit×Int×Bool)×(List AP)))(l:List AP)(hl:l.length≤2000)(wd:Nat)(hw:wd≤8)(post:List Int)(i:Nat)(hi:i<l.length)(o:List AP)(ho:o.length≤2000)(x:Int)
 (hx:FE k (IntKind.wrap .i64 ((u64 ((l[i]?.getD (0,⟨#[]⟩,())).1)%256^wd:Nat):Int)) (wd:Int)=some x):∀(d n j:Nat),j+d=wd→d<n→
 Dl.l10 k L6 n (C8 wd l++post) 0 (l.length:Int) (wd:Int) (i:Int) (IntKind.wrap .i64 ((u64 ((l[i]?.getD (0,⟨#[]⟩,())).1)%256^j:Nat):Int)) (l.length:Int) (i:Int) (wd:Int) (j:Int) o=L6 (C8 wd l++post) 0 (l.length:Int) (wd:Int) (l.length:Int) ((i+1:Nat):Int) (o++[(x,Br,())]):=by
 intro d
 induction d with
 |zero=>
  intro n j hj hn;obtain⟨n,rfl⟩:∃q,n=q+1:=⟨n-1,by omega⟩;obtain rfl:j=wd:=by omega
  have e:IntKind.wrap .i64 ((i:Int)+1)=((i+1:Nat):Int):=by rw[AV (by omega) (by omega)];omega
  simp only[Dl.l10,AY (show ¬(j:Int)<(j:Int) by omega),AU,hx,AR,e];rw[Bc (by simp;omega),AQ]
 |succ d ih=>
  intro n j hj hn;obtain⟨n,rfl⟩:∃q,n=q+1:=⟨n-1,by omega⟩;have hm:j*l.length≤8*2000:=Nat.mul_le_mul (by omega) hl;have e8:IntKind.wrap .i64 (8*(j:Int))=((8*j:Nat):Int):=by rw[AV (by omega) (by omega)];omega
  have e1:IntKind.wrap .i64 ((j:Int)+1)=((j+1:Nat):Int):=by rw[AV (by omega) (by omega)];omega
  have ex:IntKind.wrap .i64 (IntKind.wrap .i64 (0+IntKind.wrap .i64 ((j:Int)*(l.length:Int)))+(i:Int))=((j*l.length+i:Nat):Int):=by
   rw[show(j:Int)*(l.length:Int)=((j*l.length:Nat):Int) by simp,AV (x:=((j*l.length:Nat):Int)) (by omega) (by omega),AV (x:=0+((j*l.length:Nat):Int)) (by omega) (by omega),AV (by omega) (by omega)];omega
  have hg:=XR wd l post j i (by omega) hi;generalize hu:u64 ((l[i]?.getD (0,⟨#[]⟩,())).1)=u at*;have hba:FU l j i=((u/256^j%256:Nat):Int):=by unfold FU;rw[hu]
  have VF:u<18446744073709551616:=by rw[←hu];exact FT _
  have ey:IntKind.wrap .i64 (FU l j i)=((u/256^j%256:Nat):Int):=by rw[hba,AV (by omega) (by omega)]
  have hp:(256:Nat)^j=2^(8*j):=by rw[Nat.pow_mul]
  have hlt:u%256^j<2^(8*j):=by rw[←hp];exact Nat.mod_lt _ (Nat.pow_pos (by decide))
  have hs:u%256^j+u/256^j%256*2^(8*j)=u%256^(j+1):=by
   rw[←hp,Nat.pow_succ,Nat.mod_mul,Nat.mul_comm (256^j)]
  have hor:=GD .i64 (a:=u%256^j) (b:=u/256^j%256) (i:=8*j) (show 8*j≤64 by omega) hlt (by
   rw[hs];have h1:u%256^(j+1)≤u:=Nat.mod_le _ _;show _<2^64;omega)
  rw[hs] at hor;simp only[Dl.l10,AX (show(j:Int)<(wd:Int) by omega),AQ,ex,hg,AR,e8,AX (show(0:Int)≤((8*j:Nat):Int) by omega),ey,hor,e1];exact ih n (j+1) (by omega) (by omega)
theorem XZ(hk:3000≤k)(t:Int)(l:List AP)(hl:l.length≤2000)(hv:∀v,v∈l→BV t v=true∧Be v.1)(hw:Bp t≠0)(post:List Int):∀(d n i:Nat),i+d=l.length→d<n→
 Dl.l6 k n (C8 (Bp t) l++post) 0 (l.length:Int) ((Bp t:Nat):Int) (l.length:Int) (i:Int) (l.take i)=some (((),((Bp t*l.length:Nat):Int),true),l):=by
 obtain⟨_,_,hwc⟩:=Kz k t;intro d
 induction d with
 |zero=>
  intro n i hi hn;obtain⟨n,rfl⟩:∃q,n=q+1:=⟨n-1,by omega⟩;obtain rfl:i=l.length:=by omega
  have hm:l.length*Bp t≤2000*8:=Nat.mul_le_mul hl (by omega);have e:IntKind.wrap .i64 (0+IntKind.wrap .i64 ((l.length:Int)*((Bp t:Nat):Int)))=((Bp t*l.length:Nat):Int):=by
   rw[show(l.length:Int)*((Bp t:Nat):Int)=((l.length*Bp t:Nat):Int) by simp,AV (x:=((l.length*Bp t:Nat):Int)) (by omega) (by omega),AV (by omega) (by omega),Nat.mul_comm];omega
  simp only[Dl.l6,AY (show ¬(l.length:Int)<(l.length:Int) by omega),AU,e,List.take_length]
 |succ d ih=>
  intro n i hi hn;obtain⟨n,rfl⟩:∃q,n=q+1:=⟨n-1,by omega⟩;have hil:i<l.length:=by omega
  obtain⟨v1,v2⟩:=hv l[i] (List.getElem_mem hil);have hgt:l[i]?.getD (0,⟨#[]⟩,())=l[i]:=by rw[Ef hil];rfl
  have hval:l[i].2.1=⟨#[]⟩:=by
   rcases hwc with h|⟨_,rfl⟩|⟨_,EM⟩
   ·exact(hw h).elim
   ·rcases EH v1 with⟨h,_⟩|⟨_,_,_,h⟩|⟨h|h,_⟩|⟨h,_⟩<;>first|exact h|omega
   ·rcases EH v1 with⟨h,_⟩|⟨h,_⟩|⟨_,h⟩|⟨h,_⟩<;>first|exact h|omega
  have hsig:FE k (IntKind.wrap .i64 ((u64 ((l[i]?.getD (0,⟨#[]⟩,())).1)%256^Bp t:Nat):Int)) ((Bp t:Nat):Int)=some l[i].1:=by
   rw[hgt];unfold FE;rcases hwc with h|⟨h4,rfl⟩|⟨h8,EM⟩
   ·exact(hw h).elim
   ·have hc: -2147483648≤l[i].1∧l[i].1≤2147483647:=by
     rcases EH v1 with⟨h,_⟩|⟨_,a,b,_⟩|⟨h|h,_⟩|⟨h,_⟩<;>first|exact⟨a,b⟩|omega
    rw[h4,show(((4:Nat):Int)==4)=true from rfl,AQ];have hm:((u64 l[i].1%256^4:Nat):Int)=l[i].1%4294967296:=by unfold u64;omega
    rw[hm,AV (x:=l[i].1%4294967296) (by omega) (by omega)];have:IntKind.wrap .i32 (l[i].1%4294967296)=l[i].1:=by
     have h2:l[i].1%4294967296%2^32=l[i].1%4294967296:=Int.emod_eq_of_lt (by omega) (by omega);simp only[IntKind.wrap,IntKind.bits,IntKind.signed,h2,Et,Cz];by_cases h:l[i].1%4294967296≥2^(32-1)
     ·rw[if_pos h];omega
     ·rw[if_neg h];omega
    rw[this,AV (by omega) (by omega)]
   ·rw[h8,show(((8:Nat):Int)==4)=false from rfl,AU]
    have hm:u64 l[i].1%256^8=u64 l[i].1:=Nat.mod_eq_of_lt (by have:=FT l[i].1;omega);rw[hm,wrap_u64 v2]
  have hin:=XY k (Dl.l6 k n) l hl (Bp t) (by omega) post i hil (l.take i) (by rw[List.length_take];omega) l[i].1 hsig (Bp t) k 0 (by omega) (by omega);rw[Nat.pow_zero,Nat.mod_one,show IntKind.wrap .i64 ((0:Nat):Int)=0 by decide,show((0:Nat):Int)=0 from rfl] at hin;have htk:l.take i++[(l[i].1,Br,())]=l.take (i+1):=by
   rw[List.take_add_one,Ef hil];have:((l[i].1,Br,()):AP)=l[i]:=Gr rfl hval.symm;rw[this];rfl
  simp only[Dl.l6,AX (show(i:Int)<(l.length:Int) by omega),AQ];rw[hin,htk];exact ih n (i+1) (by omega) (by omega)
theorem XX(hk:3000≤k)(t:Int)(l:List AP)(h:Fy t l=true)(hi:∀v,v∈l→Be v.1)(post:List Int)(hp:post.length<100000):
 Dl k t (C8 (Bp t) l++post) 0 (l.length:Int)=some (((),(((C8 (Bp t) l).length:Nat):Int),true),l):=by
 unfold Fy at h;simp only[CO,Cz] at h;obtain⟨hw,hv⟩:=h;obtain⟨hv1,hl,_⟩:=EI.1 hv;obtain⟨w1,_,w3⟩:=Kz k t;have hm:l.length*Bp t≤2000*8:=Nat.mul_le_mul hl (by omega);have hbl:(C8 (Bp t) l++post).length=l.length*Bp t+post.length:=by rw[A8,Jw,Nat.mul_comm]
 have:=XZ k hk t l hl (fun v hv'=>⟨hv1 v hv',hi v hv'⟩) hw post l.length k 0 (by omega) (by omega);rw[show((0:Nat):Int)=0 from rfl,List.take_zero] at this;have c1:(decide ((0:Int)≤(l.length:Int))&&decide ((l.length:Int)≤2000))=true:=by simp;omega
 have c2:(decide ((0:Int)≤0)&&decide ((0:Int)≤((C8 (Bp t) l++post).length:Int)))=true:=by simp;omega
 have c3:decide (IntKind.wrap .i64 ((l.length:Int)*((Bp t:Nat):Int))>IntKind.wrap .i64 (((C8 (Bp t) l++post).length:Int)-0))=false:=by
  apply AY;rw[show(l.length:Int)*((Bp t:Nat):Int)=((l.length*Bp t:Nat):Int) by simp,AV (x:=((l.length*Bp t:Nat):Int)) (by omega) (by omega),AV (by omega) (by omega)];omega
 unfold Dl;simp only[w1,AR,CQ,cst,c1,c2,c3,Bh,A_ (show ¬((Bp t:Nat):Int)=0 by omega),D6,AU,Jw];exact this
end Go.A9
end
section
namespace Go.A9
open Go.Am Go.Fn
variable(k:Nat)
def Du:List UInt8→List UInt8→Nat
 |a::x,b::y=>if a=b then Du x y+1 else 0
 |_,_=>0
theorem KY:∀x y,Du x y≤x.length∧Du x y≤y.length
 |[],_=>by simp[Du]
 |_::_,[]=>by simp[Du]
 |a::x,b::y=>by
  have:=KY x y;simp only[Du];split<;>simp<;>omega
theorem KZ:∀x y:List UInt8,x.take (Du x y)=y.take (Du x y)
 |[],_=>by simp[Du]
 |_::_,[]=>by simp[Du]
 |a::x,b::y=>by
  have:=KZ x y;simp only[Du];split
  ·rename_i h;simp[h,this]
  ·simp
def comm(a b:ByteArray):Nat:=Du a.data.toList b.data.toList
theorem dl(s:ByteArray):s.data.toList.length=s.size:=by rw[Array.length_toList];rfl
theorem KP{s:ByteArray}{i:Nat}(h:i<s.size):oO s (i:Int)=some ((s.data.toList[i]'(by rw[dl];exact h)).toNat:Int):=by
 show(match s.data.toList[i]? with|some b=>some (b.toNat:Int)|none=>none)=_;rw[Ef (by rw[dl];exact h)]
theorem Ny(a b:ByteArray)(ha:a.size<1000000000):∀(m n i:Nat),i+m=a.size→m<n→i≤b.size→
 EN.l2 k n a b (i:Int)=some ((i+Du (a.data.toList.drop i) (b.data.toList.drop i):Nat):Int)∧EW.l2 k n a b (i:Int)=some ((i+Du (a.data.toList.drop i) (b.data.toList.drop i):Nat):Int):=by
 intro m
 induction m with
 |zero=>
  intro n i hi hn hb;obtain⟨n,rfl⟩:∃m,n=m+1:=⟨n-1,by omega⟩;have:a.data.toList.drop i=[]:=List.drop_of_length_le (by rw[dl];omega);rw[this];simp only[EN.l2,EW.l2,AY (show ¬(i:Int)<(a.size:Int) by omega),AU,AR,Du,Nat.add_zero];exact⟨trivial,trivial⟩
 |succ m ih=>
  intro n i hi hn hb;obtain⟨n,rfl⟩:∃m,n=m+1:=⟨n-1,by omega⟩;have hda:a.data.toList.drop i=a.data.toList[i]'(by rw[dl];omega)::a.data.toList.drop (i+1):=List.drop_eq_getElem_cons (by rw[dl];omega);by_cases hbi:i<b.size
  ·have hdb:b.data.toList.drop i=b.data.toList[i]'(by rw[dl];omega)::b.data.toList.drop (i+1):=List.drop_eq_getElem_cons (by rw[dl];omega)
   simp only[EN.l2,EW.l2,AX (show(i:Int)<(a.size:Int) by omega),AX (show(i:Int)<(b.size:Int) by omega),AQ,AR,KP (show i<a.size by omega),KP hbi];rw[hda,hdb];by_cases he:a.data.toList[i]'(by rw[dl];omega)=b.data.toList[i]'(by rw[dl];omega)
   ·have hi':=ih n (i+1) (by omega) (by omega) (by omega)
    rw[CG (by rw[he]),AQ,AQ,AV (by omega) (by omega),show((i:Int)+1)=((i+1:Nat):Int) by omega,hi'.1,hi'.2];simp only[Du,he,if_true];constructor<;>(congr 2;omega)
   ·rw[A_ (fun h=>he (by
     have h:(a.data.toList[i]'(by rw[dl];omega)).toNat=(b.data.toList[i]'(by rw[dl];omega)).toNat:=by omega
     exact UInt8.toNat_inj.1 h)),AU,AU]
    simp only[Du,he,if_false,Nat.add_zero];exact⟨trivial,trivial⟩
  ·have:b.data.toList.drop i=[]:=List.drop_of_length_le (by rw[dl];omega)
   rw[this,hda];simp only[EN.l2,EW.l2,AX (show(i:Int)<(a.size:Int) by omega),AY (show ¬(i:Int)<(b.size:Int) by omega),AQ,AU,AR,Du,Nat.add_zero];exact⟨trivial,trivial⟩
theorem comm_eq(a b:ByteArray)(ha:a.size<1000000000)(hk:a.size<k):EN k a b=some (comm a b:Int)∧EW k a b=some (comm a b:Int):=by
 have:=Ny k a b ha a.size k 0 (by omega) hk (Nat.zero_le _);simpa[EN,EW,comm] using this
theorem JK(a b:ByteArray):comm a b≤a.size∧comm a b≤b.size:=by
 have:=KY a.data.toList b.data.toList;rw[dl,dl] at this;exact this
theorem Nz(a b:ByteArray):a.extract 0 (comm a b)++b.extract (comm a b) b.size=b:=by
 apply ByteArray.ext;apply Array.ext';rw[ByteArray.data_append,Array.toList_append,ByteArray.data_extract,ByteArray.data_extract,Array.toList_extract,Array.toList_extract,List.extract_eq_take_drop,List.extract_eq_take_drop,List.drop_zero,Nat.sub_zero];have h:=KZ a.data.toList b.data.toList;show a.data.toList.take (Du _ _)++_=_;rw[h];have h2:(b.data.toList.drop (comm a b)).take (b.size-comm a b)=b.data.toList.drop (comm a b):=List.take_of_length_le (by rw[List.length_drop,dl];omega);rw[h2];exact List.take_append_drop _ _
def Da(ss:List ByteArray):List Int:=Co (ss.map fun s=>(s.size:Int))++(ss.map fH).flatten
def CX(s:ByteArray):AP:=(0,s,())
theorem Vf(ss:List ByteArray)(h:∀s,s∈ss→s.size≤40):((ss.map fH).flatten).length≤40*ss.length:=by
 induction ss with
 |nil=>simp
 |cons s ss ih=>
  have h1:=h s (List.mem_cons_self ..);have h2:=ih fun x hx=>h x (List.mem_cons_of_mem _ hx);rw[List.map_cons,List.flatten_cons,A8,vR,Bn];omega
theorem GN(xs:List Int):(Co xs).length≤20000:=by
 have u1:=CE 128;have u2:=CE 4;have u3:=CE (xs.length:Int);have u4:=CE (zig (xs.headD 0));have h:=KM 16 (Ez xs);unfold Co;simp only[A8];omega
theorem MB{ss:List ByteArray}(h:∀s,s∈ss→s.size≤40):∀x,x∈ss.map (fun s=>(s.size:Int))→Be x:=by
 intro x hx;obtain⟨s,hs,rfl⟩:=List.mem_map.1 hx;have:=h s hs;exact⟨by omega,by omega⟩
theorem Wl(hk:3000≤k)(vs:List AP)(hvs:vs.length≤2000)(hs:∀v,v∈vs→v.2.1.size≤40):∀(post pre:List AP) (n:Nat) (o:List Int),vs=pre++post→post.length<n→o.length≤40*pre.length→
 EB.l6 k n vs (vs.length:Int) (pre.length:Int) (pre.map fun v=>(v.2.1.size:Int)) o=some (((),true),Co (vs.map fun v=>(v.2.1.size:Int))++(o++(post.map fun v=>fH v.2.1).flatten)):=by
 intro post
 induction post with
 |nil=>
  intro pre n o hl' hn ho;obtain⟨n,rfl⟩:∃m,n=m+1:=⟨n-1,by omega⟩;have:vs=pre:=by simpa using hl'
  subst this
  have hd:=(IP k hk (vs.map fun v=>(v.2.1.size:Int)) (fun x hx=>by
   obtain⟨s,h',rfl⟩:=List.mem_map.1 hx;have:=hs s h';exact⟨by omega,by omega⟩) (by rw[List.length_map];exact hvs)).1
  have hl:=GN (vs.map fun v=>(v.2.1.size:Int));simp only[EB.l6,AY (show ¬(vs.length:Int)<(vs.length:Int) by omega),AU,hd,AR,Bh];rw[Bc (by omega),AQ];simp
 |cons x post ih=>
  intro pre n o hl' hn ho;simp only[Bn] at hn;obtain⟨n,rfl⟩:∃m,n=m+1:=⟨n-1,by omega⟩;have hlen:vs.length=pre.length+(post.length+1):=by rw[hl'];simp
  have hg:gP vs (pre.length:Int)=some x:=by rw[hl'];exact BB _ _ _
  have hx:=hs x (by rw[hl'];simp);have hi:=ih (pre++[x]) n (o++fH x.2.1) (by rw[hl'];simp) (by omega) (by simp[vR];omega);rw[A8,Bz,List.map_append,List.map_singleton] at hi;simp only[EB.l6,AX (show(pre.length:Int)<(vs.length:Int) by omega),AQ,hg,AR];rw[Bc (by simp;omega),AQ,Bc (by rw[vR];omega),AQ,AV (by omega) (by omega),show((pre.length:Int)+1)=((pre.length+1:Nat):Int) by omega,hi];simp
theorem GK{vs:List AP}(h:BJ 6 vs=true):vs.length≤2000∧∀v,v∈vs→v.1=0∧v.2.1.size≤40:=by
 unfold BJ at h;simp only[CO,Cz,List.all_eq_true] at h;obtain⟨h1,h2,_⟩:=h;refine⟨by omega,fun v hv=> ?_⟩;have:=h1 v hv;unfold BV at this;rw[if_neg (by decide),if_neg (by decide),if_neg (by decide),if_pos rfl] at this;simp only[CO,beq_iff_eq,Cz] at this;omega
theorem LM(hk:3000≤k)(vs:List AP)(hl:vs.length<1000000000)(hlk:vs.length<k):
 EB k vs=if BJ 6 vs then some (((),true),Da (vs.map fun v=>v.2.1)) else some (((),false),[]):=by
 unfold EB;rw[(FZ k 6 vs hl hlk).1];simp only[AR];by_cases h:BJ 6 vs=true
 ·obtain⟨h1,h2⟩:=GK h
  have:=Wl k hk vs h1 (fun v hv=>(h2 v hv).2) vs [] k [] rfl hlk (by simp);rw[if_pos h,h,Bh,AU];simp only[List.length_nil,List.map_nil] at this;have this:EB.l6 k k vs (vs.length:Int) 0 [] []=_:=this;rw[this];simp[Da,Function.comp_def]
 ·rw[if_neg h,Bool.eq_false_iff.2 h,Dm,AQ]
end Go.A9
end
section
namespace Go.A9
open Go.Am Go.Fn
variable(k:Nat)
abbrev dr(b:List Int)(p:Nat):C_:=(b,(p:Int),false,(),())
theorem H9(hk:100≤k)(b:List Int)(p:Nat)(x:Int)(rest:List Int)(hb:b.length<4611686018427387904)(hd:b.drop p=uv x++rest)(hx:Be x)(o:List Int):
 Gf k (dr b p) o=some (x,(dr b (p+(uv x).length),o)):=by
 unfold Gf;rw[Kw k hk b p x rest hb hd hx.1 hx.2];rfl
theorem Gv{b x r:List Int}{p:Nat}(h:b.drop p=x++r)(hx:0<x.length):p+x.length≤b.length:=by
 have:=congrArg List.length h;rw[List.length_drop,A8] at this;omega
theorem Fa{b x r:List Int}{p:Nat}(h:b.drop p=x++r):b.drop (p+x.length)=r:=by
 rw[←List.drop_drop,h,List.drop_left]
theorem K4(b:List Int)(p n:Nat)(h:p+n≤b.length)(hb:b.length<4611686018427387904)(o:List Int):
 Ih k (n:Int) (dr b p) o=some ((p:Int),(dr b (p+n),o)):=by
 unfold Ih;have h1:IntKind.wrap .i64 ((b.length:Int)-(p:Int))=((b.length-p:Nat):Int):=by rw[AV (by omega) (by omega)];omega
 have h2:IntKind.wrap .i64 ((p:Int)+(n:Int))=((p+n:Nat):Int):=by rw[AV (by omega) (by omega)];omega
 have h3:IntKind.wrap .i64 (((p+n:Nat):Int)-(n:Int))=(p:Int):=by rw[AV (by omega) (by omega)];omega
 simp only[AU,h1,h2,h3,AR,AY (show ¬((n:Int)>((b.length-p:Nat):Int)) by omega)]
def Er:Int→List Int→Int
 |l,[]=>l
 |_,x::r=>Er x r
theorem JN:∀(l:Int) (a b:List Int),dif l (a++b)=dif l a++dif (Er l a) b
 |_,[],_=>rfl
 |l,x::a,b=>by simp[dif,Er,JN x a b]
theorem K6(l:Int)(r:List Int)(n:Nat):(dif l r).take n=dif l (r.take n):=by
 conv=>lhs;rw[←List.take_append_drop n r,JN]
 rcases Nat.le_total n r.length with h|h
 ·rw[List.take_append_of_le_length (by rw[E_,List.length_take];omega),List.take_of_length_le (by rw[E_,List.length_take];omega)]
 ·rw[List.drop_of_length_le h]
  simp only[dif,C7];rw[List.take_of_length_le (by rw[E_,List.length_take];omega)]
theorem K5(l:Int)(r:List Int)(n:Nat):(dif l r).drop n=dif (Er l (r.take n)) (r.drop n):=by
 conv=>lhs;rw[←List.take_append_drop n r,JN]
 rcases Nat.le_total n r.length with h|h
 ·rw[List.drop_append_of_le_length (by rw[E_,List.length_take];omega),List.drop_of_length_le (by rw[E_,List.length_take];omega)]
  rfl
 ·rw[List.drop_of_length_le h]
  simp only[dif,C7];rw[List.drop_of_length_le (by rw[E_,List.length_take];omega)]
theorem J6:∀(md A:List Int) (l:Int),A.getLast?=some l→(A++md).getLast?=some (Er l md)
 |[],A,l,h=>by simpa[Er] using h
 |x::md,A,l,h=>by
  have:=J6 md (A++[x]) x (by simp);simpa[Er] using this
theorem Xn{x l m:Int}(hx:Be x):IntKind.wrap .i64 (IntKind.wrap .i64 (l+IntKind.wrap .i64 (IntKind.wrap .i64 (x-l)-m))+m)=x:=by
 obtain⟨h0,h1⟩:=hx;simp only[IntKind.wrap_i64];omega
theorem Wd{A:List Int}{l:Int}(h:A.getLast?=some l)(hA:A.length<1000000000):gP A (IntKind.wrap .i64 ((A.length:Int)-1))=some l:=by
 have hne:A≠[]:=fun e=>by rw[e] at h;cases h
 have:=List.length_pos_iff.2 hne;rw[List.getLast?_eq_getElem?] at h;rw[AV (by omega) (by omega),show((A.length:Int)-1)=((A.length-1:Nat):Int) by omega,Dc];exact h
theorem M4(o0:C_)(m:Int)(vs:List Int)(hvs:vs.length≤1000):∀(md pre A:List Int) (l:Int) (n:Nat),vs=pre++mv m (dif l md)→md.length<n→(∀x,x∈md→Be x)→A.getLast?=some l→A.length+md.length≤100000→
 De.l5 k n m (vs.length:Int) (pre.length:Int) o0 vs A=some ((),(o0,A++md)):=by
 intro md
 induction md with
 |nil=>
  intro pre A l n hv hn _ _ _;obtain⟨n,rfl⟩:∃x,n=x+1:=⟨n-1,by omega⟩;have:vs=pre:=by simpa[dif,mv] using hv
  subst this;simp only[De.l5,AY (show ¬(vs.length:Int)<(vs.length:Int) by omega),AU,C7]
 |cons x md ih=>
  intro pre A l n hv hn hI hA hl;simp only[Bn] at hn hl;obtain⟨n,rfl⟩:∃x,n=x+1:=⟨n-1,by omega⟩;have hv':vs=pre++IntKind.wrap .i64 (IntKind.wrap .i64 (x-l)-m)::mv m (dif x md):=by rw[hv];rfl
  have hlen:vs.length=pre.length+(md.length+1):=by rw[hv'];simp[mv,E_]
  have hg:gP vs (pre.length:Int)=some (IntKind.wrap .i64 (IntKind.wrap .i64 (x-l)-m)):=by rw[hv'];exact BB _ _ _
  have hi:=ih (pre++[IntKind.wrap .i64 (IntKind.wrap .i64 (x-l)-m)]) (A++[x]) x n (by rw[hv'];simp) (by omega) (fun y hy=>hI y (List.mem_cons_of_mem _ hy)) (by simp) (by simp;omega);rw[A8,Bz] at hi;simp only[De.l5,AX (show(pre.length:Int)<(vs.length:Int) by omega),AQ,hg,AR,De.d7,Wd hA (by omega),Xn (hI x (List.mem_cons_self ..))];rw[Bc (by simp;omega),AQ,AV (by omega) (by omega)];have e:((pre.length:Int)+1)=((pre.length+1:Nat):Int):=by omega
  rw[e,hi];simp
theorem WC(hk:1000≤k)(b:List Int)(at_:Nat)(m:Int)(md A:List Int)(l:Int)(left:Nat)(rest:List Int)(hmd:md.length≤32)(hm0:md≠[])(hleft:min left 32=md.length)(hI:∀x,x∈md→Be x)(hA:A.getLast?=some l)(hl:A.length≤90000)(hb:b.length<1000000000000000)
 (YC:at_≤b.length) (hd:b.drop at_=mb (mv m (dif l md))++rest):
 De k 32 (mw (mv m (dif l md)):Int) m (left:Int) (dr b at_) A=some ((),(dr b (at_+(mb (mv m (dif l md))).length),A++md)):=by
 have hvl:(mv m (dif l md)).length=md.length:=by simp[mv,E_]
 have hpos:=List.length_pos_iff.2 hm0;have hne:¬mv m (dif l md)=[]:=fun h=>by rw[h] at hvl;simp at hvl;omega
 have hmb:mb (mv m (dif l md))=Bw (mw (mv m (dif l md))) (DK (mv m (dif l md))):=by
  unfold mb;rw[if_neg hne]
 have hml:(mb (mv m (dif l md))).length=4*mw (mv m (dif l md)):=by
  rw[LQ (by omega),if_neg hne]
 have hpl:(DK (mv m (dif l md))).length=32:=Jj (by omega);have hat:at_+4*mw (mv m (dif l md))≤b.length:=by
  have:=congrArg List.length hd;rw[List.length_drop,A8,hml] at this;omega
 have hlt:∀v,v∈DK (mv m (dif l md))→Be v∧u64 v<2^mw (mv m (dif l md)):=by
  intro v hv;unfold DK at hv;rcases List.mem_append.1 hv with hv|hv
  ·refine⟨?_,WI hv⟩
   unfold mv at hv;obtain⟨d,_,rfl⟩:=List.mem_map.1 hv;exact⟨F4 _,F3 _⟩
  ·have:=List.eq_of_mem_replicate hv
   subst this;exact⟨⟨by decide,by decide⟩,by rw[MG];exact Nat.two_pow_pos _⟩
 have hbs:b=b.take at_++(leB (4*mw (mv m (dif l md))) (Cy (mw (mv m (dif l md))) (DK (mv m (dif l md))))++rest):=by
  have h1:Bw (mw (mv m (dif l md))) (DK (mv m (dif l md)))=leB (4*mw (mv m (dif l md))) (Cy (mw (mv m (dif l md))) (DK (mv m (dif l md)))):=by
   unfold Bw;rw[hpl,JH (FH _)]
  conv=>lhs;rw[←List.take_append_drop at_ b]
  rw[hd,hmb,h1]
 have htl:(b.take at_).length=at_:=by rw[List.length_take];omega
 have hun:=Iy k (b.take at_) rest (4*mw (mv m (dif l md))) (Cy (mw (mv m (dif l md))) (DK (mv m (dif l md)))) (mw (mv m (dif l md))) md.length (FH _)
  (by have:md.length*mw (mv m (dif l md))≤32*mw (mv m (dif l md)):=Nat.mul_le_mul_right _ hmd
      omega) (by rw[htl];omega) (by omega) (by have:=FH (mv m (dif l md));omega) (by omega)
 rw[←hbs,htl,Ku _ _ hlt _ (by rw[hpl];omega)] at hun;have htk:(DK (mv m (dif l md))).take md.length=mv m (dif l md):=by
  unfold DK;rw[←hvl,List.take_left]
 rw[htk] at hun;rw[hml];have hw:=FH (mv m (dif l md));have hadd:=M4 k (dr b (at_+4*mw (mv m (dif l md)))) m (mv m (dif l md)) (by omega) md [] A l k rfl (by omega) hI hA (by omega);generalize mw (mv m (dif l md))=w at*;unfold De De.c2;have e1:IntKind.wrap .i64 (Int.tdiv (IntKind.wrap .i64 (32*(w:Int))) 8)=((4*w:Nat):Int):=by
  rw[AV (x:=32*(w:Int)) (by omega) (by omega),Jy (by omega),AV (by omega) (by omega)];omega
 have e2:(if(left:Int)<32 then(left:Int) else 32)=(md.length:Int):=by split<;>omega
 rw[AY (show ¬(w:Int)>64 by omega),AU,e1,K4 k b at_ (4*w) (by omega) (by omega)];simp only[AR,AU,e2,hun];exact hadd
theorem LX:∀(c:Nat) (m:Int),body m (BP c [])=[]
 |0,_=>rfl
 |c+1,m=>by
  have:=LX c m;unfold body at this⊢;simp only[BP,List.map_cons,List.flatten_cons,List.take_nil,List.drop_nil,this];rfl
theorem WE(hk:1000≤k)(Hw:(List Int)→Int→Int→Int→C_→(List Int)→Option ((Unit×Int×Bool)×(List Int)))(b:List Int)(hb:b.length<100000000000000)(m:Int)(total t14:Nat)(r2:List Int)(ht:total≤2000):
 ∀(c j n at_:Nat) (rj A X rest:List Int) (l:Int),j+c=4→c<n→rj.length≤32*c→(r2=[]∨rj.length=32*c)→A.getLast?=some l→total=A.length+rj.length+r2.length→(∀x,x∈rj→Be x)→
  b.drop (t14+j)=heads m (BP c (dif l rj))++X→t14+4≤b.length→at_≤b.length→b.drop at_=body m (BP c (dif l rj))++rest→
  B_.Cr k Hw n b 4 (total:Int) 32 m (t14:Int) (j:Int) (dr b at_) A=Hw b 4 (total:Int) 32 (dr b (at_+(body m (BP c (dif l rj))).length)) (A++rj):=by
 intro c
 induction c with
 |zero=>
  intro j n at_ rj A X rest l hj hn hr h2 hA htot hI hh Lt hat hd;obtain⟨n,rfl⟩:∃x,n=x+1:=⟨n-1,by omega⟩;have:rj=[]:=List.eq_nil_of_length_eq_zero (by omega);subst this;simp only[B_.Cr,AY (show ¬(j:Int)<4 by omega),AU,AR,body,BP,List.map_nil,List.flatten_nil,List.length_nil,Nat.add_zero,C7]
 |succ c ih=>
  intro j n at_ rj A X rest l hj hn hr h2 hA htot hI hh Lt hat hd;obtain⟨n,rfl⟩:∃x,n=x+1:=⟨n-1,by omega⟩;by_cases h0:rj=[]
  ·subst h0
   have hr2:r2=[]:=by
    rcases h2 with h2|h2
    ·exact h2
    ·simp at h2
   subst hr2;simp only[List.length_nil,Nat.add_zero] at htot;simp only[dif,LX,List.length_nil,Nat.add_zero,C7];simp only[B_.Cr,AX (show(j:Int)<4 by omega),AQ,AU,AR,AY (show ¬(A.length:Int)<(total:Int) by omega)]
  ·have hpos:=List.length_pos_iff.2 h0
   have Vz:rj.take 32≠[]:=fun e=>by
    have:=congrArg List.length e;rw[List.length_take] at this;simp only[List.length_nil] at this;omega
   have hsplit:(dif l rj).take 32=dif l (rj.take 32):=K6 l rj 32;have J4:(dif l rj).drop 32=dif (Er l (rj.take 32)) (rj.drop 32):=K5 l rj 32;have hh':b.drop (t14+j)=(mw (mv m (dif l (rj.take 32))):Int)::(heads m (BP c (dif (Er l (rj.take 32)) (rj.drop 32)))++X):=by
    rw[hh];simp[heads,BP,hsplit,J4]
   obtain⟨q1,q2,q3⟩:=NP hh';have hd':b.drop at_=mb (mv m (dif l (rj.take 32)))++(body m (BP c (dif (Er l (rj.take 32)) (rj.drop 32)))++rest):=by
    rw[hd];simp[body,BP,hsplit,J4]
   have hg:gP b (IntKind.wrap .i64 ((t14:Int)+(j:Int)))=some (mw (mv m (dif l (rj.take 32))):Int):=by
    rw[AV (by omega) (by omega),show((t14:Int)+(j:Int))=((t14+j:Nat):Int) by omega];exact q1
   have hw:=FH (mv m (dif l (rj.take 32)));have hleft:IntKind.wrap .i64 ((total:Int)-(A.length:Int))=((total-A.length:Nat):Int):=by rw[AV (by omega) (by omega)];omega
   have hmr:=WC k hk b at_ m (rj.take 32) A l (total-A.length) _ (by rw[List.length_take];omega) Vz (by
    rw[List.length_take];rcases h2 with h2|h2
    ·subst h2;simp only[List.length_nil,Nat.add_zero] at htot;omega
    ·omega) (fun x hx=>hI x (List.mem_of_mem_take hx)) hA (by omega) (by omega) hat hd'
   have Vt:at_+(mb (mv m (dif l (rj.take 32)))).length≤b.length:=by
    have:=congrArg List.length hd';rw[List.length_drop,A8] at this;omega
   have hi:=ih (j+1) n (at_+(mb (mv m (dif l (rj.take 32)))).length) (rj.drop 32) (A++rj.take 32) X rest (Er l (rj.take 32)) (by omega) (by omega) (by rw[List.length_drop];omega)
    (by rcases h2 with h2|h2
        ·exact Or.inl h2
        ·exact Or.inr (by rw[List.length_drop];omega)) (J6 _ _ _ hA) (by rw[A8,List.length_take,List.length_drop];omega) (fun x hx=>hI x (List.mem_of_mem_drop hx)) q3 Lt Vt (Fa hd')
   simp only[B_.Cr,AX (show(j:Int)<4 by omega),AQ,AR,AX (show(A.length:Int)<(total:Int) by omega),Dm,B_.d22,hg,hleft];rw[AV (x:=((mw (mv m (dif l (rj.take 32))):Nat):Int)) (by omega) (by omega),hmr];simp only[AR];rw[AV (by omega) (by omega),show((j:Int)+1)=((j+1:Nat):Int) by omega,hi];simp only[body,BP,List.map_cons,List.flatten_cons,A8,hsplit,J4,CP,List.take_append_drop];rw[Nat.add_assoc]
theorem Np(hk:1000≤k)(b:List Int)(hb:b.length<10000000000000)(total:Nat)(ht:total≤2000):∀(f n at_:Nat) (r A rest:List Int) (l:Int),r.length≤128*f→f<n→A.getLast?=some l→total=A.length+r.length→(∀x,x∈r→Be x)→at_≤b.length→b.drop at_=Cw f (dif l r)++rest→
 B_.Fj k n b 4 (total:Int) 32 (dr b at_) A=some (((),((at_+(Cw f (dif l r)).length:Nat):Int),true),A++r):=by
 intro f
 induction f with
 |zero=>
  intro n at_ r A rest l hr hn hA htot hI hat hd;obtain⟨n,rfl⟩:∃x,n=x+1:=⟨n-1,by omega⟩;have:r=[]:=List.eq_nil_of_length_eq_zero (by omega);subst this;simp only[List.length_nil,Nat.add_zero] at htot;simp only[B_.Fj,AY (show ¬(A.length:Int)<(total:Int) by omega),AU,AR,Cw,List.length_nil,Nat.add_zero,C7]
 |succ f ih=>
  intro n at_ r A rest l hr hn hA htot hI hat hd;obtain⟨n,rfl⟩:∃x,n=x+1:=⟨n-1,by omega⟩;by_cases h0:r=[]
  ·subst h0
   simp only[List.length_nil,Nat.add_zero] at htot;simp only[B_.Fj,AY (show ¬(A.length:Int)<(total:Int) by omega),AU,AR,Cw,dif,if_true,List.length_nil,Nat.add_zero,C7]
  ·have hpos:=List.length_pos_iff.2 h0
   have hne:dif l r≠[]:=fun e=>by
    have:=congrArg List.length e;rw[E_] at this;simp only[List.length_nil] at this;omega
   have hsp1:=K6 l r 128;have hsp2:=K5 l r 128;have hbl:Cw (f+1) (dif l r)=EK (dif l (r.take 128))++Cw f (dif (Er l (r.take 128)) (r.drop 128)):=by
    simp only[Cw,hne,if_false,hsp1,hsp2]
   rw[hbl] at hd⊢;have hm:Be (Dv (dif l (r.take 128))):=Ka (JM _ _);generalize hmm:Dv (dif l (r.take 128))=m at hm;have hB:EK (dif l (r.take 128))=uv (zig m)++(heads m (BP 4 (dif l (r.take 128)))++body m (BP 4 (dif l (r.take 128)))):=by
    unfold EK;rw[hmm]
   have hd1:b.drop at_=uv (zig m)++(heads m (BP 4 (dif l (r.take 128)))++(body m (BP 4 (dif l (r.take 128)))++(Cw f (dif (Er l (r.take 128)) (r.drop 128))++rest))):=by
    rw[hd,hB];simp
   have hu:=CE (zig m);have hd2:=Fa hd1;have Lr:=J2 m 4 (dif l (r.take 128));have hp1:=Gv hd1 (by omega);have hp2:=Gv hd2 (by omega);have hd3:=Fa hd2;rw[Lr] at hd3 hp2;have Vx:=H9 k (by omega) b at_ (zig m) _ (by omega) hd1 (KE m) A;have hzz:=MR k m hm.1 hm.2;have htk:=K4 k b (at_+(uv (zig m)).length) 4 (by omega) (by omega) A;rw[show((4:Nat):Int)=4 from rfl] at htk
   have hml:=WE k hk (B_.Fj k n) b (by omega) m total (at_+(uv (zig m)).length) (r.drop 128) ht 4 0 k (at_+(uv (zig m)).length+4) (r.take 128) A _ _ l rfl (by omega) (by rw[List.length_take];omega)
    (by rw[List.length_take]
        rcases Nat.le_total 128 r.length with h|h
        ·exact Or.inr (by omega)
        ·exact Or.inl (List.drop_of_length_le h)) hA (by rw[List.length_take,List.length_drop];omega) (fun x hx=>hI x (List.mem_of_mem_take hx)) (by rw[Nat.add_zero];exact hd2) (by omega) (by omega) hd3
   rw[show((0:Nat):Int)=0 from rfl] at hml;have Vu:at_+(uv (zig m)).length+4+(body m (BP 4 (dif l (r.take 128)))).length≤b.length:=by
    have:=congrArg List.length hd3;rw[List.length_drop,A8] at this;omega
   have hi:=ih n (at_+(uv (zig m)).length+4+(body m (BP 4 (dif l (r.take 128)))).length) (r.drop 128) (A++r.take 128) rest (Er l (r.take 128)) (by rw[List.length_drop];omega) (by omega) (J6 _ _ _ hA) (by rw[A8,List.length_take,List.length_drop];omega) (fun x hx=>hI x (List.mem_of_mem_drop hx)) Vu (Fa hd3);simp only[B_.Fj,AX (show(A.length:Int)<(total:Int) by omega),AQ,Dm,AR,Vx,hzz,htk,hml,hi];rw[CP,List.take_append_drop,hB];simp only[A8,Lr]
   congr 5
   omega
theorem JL(hk:1000≤k)(b:List Int)(hb:b.length<10000000000000)(p:Nat)(xs rest:List Int)(hl:xs.length≤2000)(hI:∀x,x∈xs→Be x)(hd:b.drop p=Co xs++rest):
 B_ k b (p:Int)=some (((),((p+(Co xs).length:Nat):Int),true),xs):=by
 have u1:=CE 128;have u2:=CE 4;have u3:=CE (xs.length:Int);have u4:=CE (zig (xs.headD 0));have hx0:Be (xs.headD 0):=by
  cases xs with
  |nil=>exact⟨by decide,by decide⟩
  |cons x r=>exact hI x (List.mem_cons_self ..)
 have hd1:b.drop p=uv 128++(uv 4++(uv (xs.length:Int)++(uv (zig (xs.headD 0))++(Cw 16 (Ez xs)++rest)))):=by rw[hd];unfold Co;simp
 have hd2:=Fa hd1;have hd3:=Fa hd2;have hd4:=Fa hd3;have hd5:=Fa hd4;have p1:=Gv hd1 (by omega);have p2:=Gv hd2 (by omega);have p3:=Gv hd3 (by omega);have p4:=Gv hd4 (by omega);have r1:=H9 k (by omega) b p 128 _ (by omega) hd1 ⟨by decide,by decide⟩ [];have r2:=H9 k (by omega) b _ 4 _ (by omega) hd2 ⟨by decide,by decide⟩ [];have r3:=H9 k (by omega) b _ (xs.length:Int) _ (by omega) hd3 ⟨by omega,by omega⟩ [];have r4:=H9 k (by omega) b _ (zig (xs.headD 0)) _ (by omega) hd4 (KE _) [];have hz:=MR k (xs.headD 0) hx0.1 hx0.2;have c1:(decide ((0:Int)≤(p:Int))&&decide ((p:Int)≤(b.length:Int)))=true:=by simp;omega
 have c2:(decide ((128:Int)≤128)&&decide ((128:Int)≤1024))=true:=by decide
 have c3:(decide ((1:Int)≤4)&&decide ((4:Int)≤128))=true:=by decide
 have c4:(decide ((0:Int)≤(xs.length:Int))&&decide ((xs.length:Int)≤2000))=true:=by simp;omega
 have c5:(Int.tmod 128 128 !=0)=false:=by decide
 have c6:(Int.tmod 128 4 !=0)=false:=by decide
 have c7:(Int.tmod (IntKind.wrap .i64 (Int.tdiv 128 4)) 32 !=0)=false:=by decide
 have c8:decide ((4:Int)≠0)=true:=by decide
 have c9:IntKind.wrap .i64 (Int.tdiv 128 4)=32:=by decide
 unfold B_;simp only[CQ,c1,AR,Bh,AU,r1,r2,r3,r4,hz,c2,c3,c4,c5,c6,c7,c8,c9,AQ];cases xs with
 |nil=>
  have hb0:Cw 16 (Ez [])=[]:=by simp[Ez,Cw]
  rw[CG (by simp),AQ];unfold Co;rw[hb0];simp only[A8,List.length_nil,Nat.add_zero]
  congr 5
 |cons x r=>
  rw[A_ (by simp;omega),AU];have:=Np k hk b hb (x::r).length hl 16 k (p+(uv 128).length+(uv 4).length+(uv ((x::r).length:Int)).length+(uv (zig ((x::r).headD 0))).length) r [x] rest x (by simp at hl;omega) (by omega) rfl (by simp;omega) (fun y hy=>hI y (List.mem_cons_of_mem _ hy)) (by omega) hd5;have this:B_.Fj k k b 4 ((x::r).length:Int) 32 _ [(x::r).headD 0]=_:=this;rw[this];have e:dif x r=Ez (x::r):=rfl;rw[e];unfold Co;simp only[A8,List.singleton_append];refine congrArg (fun z:Nat=>some (((),(z:Int),true),x::r)) ?_;omega
end Go.A9
end
section
namespace Go.A9
open Go.Am Go.Fn
variable(k:Nat)
theorem VW(ss:List ByteArray)(hs:ss.length≤2000)(CK:∀s,s∈ss→s.size≤40):∀(post pre:List ByteArray) (n:Nat) (o:List Int),ss=pre++post→post.length<n→o.length≤20000+40*pre.length→
 Dw.l10 k n ss (pre.length:Int) o=some (((),true),o++(post.map fH).flatten):=by
 intro post
 induction post with
 |nil=>
  intro pre n o hl' hn ho;obtain⟨n,rfl⟩:∃m,n=m+1:=⟨n-1,by omega⟩;have:ss=pre:=by simpa using hl'
  subst this;simp only[Dw.l10,AY (show ¬(ss.length:Int)<(ss.length:Int) by omega),AU];simp
 |cons x post ih=>
  intro pre n o hl' hn ho;simp only[Bn] at hn;obtain⟨n,rfl⟩:∃m,n=m+1:=⟨n-1,by omega⟩;have hlen:ss.length=pre.length+(post.length+1):=by rw[hl'];simp
  have hg:gP ss (pre.length:Int)=some x:=by rw[hl'];exact BB _ _ _
  have hx:=CK x (by rw[hl'];simp);have hi:=ih (pre++[x]) n (o++fH x) (by rw[hl'];simp) (by omega) (by simp[vR];omega);rw[A8,Bz] at hi;simp only[Dw.l10,AX (show(pre.length:Int)<(ss.length:Int) by omega),AQ,hg,AR];rw[Bc (by rw[vR];omega),AQ,AV (by omega) (by omega),show((pre.length:Int)+1)=((pre.length+1:Nat):Int) by omega,hi];simp
theorem VX(hk:3000≤k)(ss:List ByteArray)(hs:ss.length≤2000)(CK:∀s,s∈ss→s.size≤40):∀(post pre:List ByteArray) (n:Nat),ss=pre++post→post.length<n→
 Dw.l3 k n ss (pre.length:Int) (pre.map fun s=>(s.size:Int))=some (((),true),Da ss):=by
 intro post
 induction post with
 |nil=>
  intro pre n hl' hn;obtain⟨n,rfl⟩:∃m,n=m+1:=⟨n-1,by omega⟩;have:ss=pre:=by simpa using hl'
  subst this;have hd:=(IP k hk (ss.map fun s=>(s.size:Int)) (MB CK) (by rw[List.length_map];exact hs)).2;have hl:=GN (ss.map fun s=>(s.size:Int));have hb:=VW k ss hs CK ss [] k (Co (ss.map fun s=>(s.size:Int))) rfl (by omega) (by simp;omega);rw[List.length_nil,show((0:Nat):Int)=0 from rfl] at hb;simp only[Dw.l3,AY (show ¬(ss.length:Int)<(ss.length:Int) by omega),AU,hd,AR,Bh,hb];rfl
 |cons x post ih=>
  intro pre n hl' hn;simp only[Bn] at hn;obtain⟨n,rfl⟩:∃m,n=m+1:=⟨n-1,by omega⟩;have hlen:ss.length=pre.length+(post.length+1):=by rw[hl'];simp
  have hg:gP ss (pre.length:Int)=some x:=by rw[hl'];exact BB _ _ _
  have hi:=ih (pre++[x]) n (by rw[hl'];simp) (by omega);rw[A8,Bz,List.map_append,List.map_singleton] at hi;simp only[Dw.l3,AX (show(pre.length:Int)<(ss.length:Int) by omega),AQ,hg,AR];rw[Bc (by simp;omega),AQ,AV (by omega) (by omega),show((pre.length:Int)+1)=((pre.length+1:Nat):Int) by omega,hi]
theorem LC(hk:3000≤k)(ss:List ByteArray)(hs:ss.length≤2000)(CK:∀s,s∈ss→s.size≤40):Dw k ss=some (((),true),Da ss):=by
 have:=VX k hk ss hs CK ss [] k rfl (by omega);simpa[Dw] using this
theorem Wi(b:List Int)(hb:b.length<1000000000000)(ss:List ByteArray)(hs:ss.length≤2000)(CK:∀s,s∈ss→s.size≤40)(rest:List Int):∀(post pre:List ByteArray) (n at_:Nat),ss=pre++post→post.length<n→at_≤b.length→b.drop at_=(post.map fH).flatten++rest→
 EP.l6 k n b (at_:Int) ((ss.map fun s=>(s.size:Int)).length:Int) (pre.length:Int) (pre.map CX) (ss.map fun s=>(s.size:Int))=some (((),((at_+((post.map fH).flatten).length:Nat):Int),true),ss.map CX):=by
 intro post;rw[List.length_map]
 induction post with
 |nil=>
  intro pre n at_ hl' hn hat hd;obtain⟨n,rfl⟩:∃m,n=m+1:=⟨n-1,by omega⟩;have:ss=pre:=by simpa using hl'
  subst this;simp only[EP.l6,AY (show ¬(ss.length:Int)<(ss.length:Int) by omega),AU];simp
 |cons x post ih=>
  intro pre n at_ hl' hn hat hd;simp only[Bn] at hn;obtain⟨n,rfl⟩:∃m,n=m+1:=⟨n-1,by omega⟩;have hlen:ss.length=pre.length+(post.length+1):=by rw[hl'];simp
  have hx:=CK x (by rw[hl'];simp);have hg:gP (ss.map fun s=>(s.size:Int)) (pre.length:Int)=some (x.size:Int):=by
   rw[hl',List.map_append,List.map_cons];have:=BB (pre.map fun s=>(s.size:Int)) (post.map fun s=>(s.size:Int)) (x.size:Int);rw[List.length_map] at this;exact this
  rw[List.map_cons,List.flatten_cons,CP] at hd;have hp:=congrArg List.length hd;rw[List.length_drop,A8,vR] at hp;have hd2:=Fa hd;rw[vR] at hd2;have hcut:kP b (at_:Int) ((at_+x.size:Nat):Int)=fH x:=by
   unfold kP;rw[Int.toNat_natCast,Int.toNat_natCast,List.drop_take,hd,Nat.add_sub_cancel_left,←vR x,List.take_left]
  have c1:(decide ((0:Int)≤(x.size:Int))&&decide ((x.size:Int)≤40))=true:=by simp;omega
  have w1:IntKind.wrap .i64 ((b.length:Int)-(at_:Int))=((b.length-at_:Nat):Int):=by rw[AV (by omega) (by omega)];omega
  have w2:IntKind.wrap .i64 ((at_:Int)+(x.size:Int))=((at_+x.size:Nat):Int):=by rw[AV (by omega) (by omega)];omega
  have hi:=ih (pre++[x]) n (at_+x.size) (by rw[hl'];simp) (by omega) (by omega) hd2;rw[A8,Bz,List.map_append,List.map_singleton] at hi
  simp only[EP.l6,AX (show(pre.length:Int)<(ss.length:Int) by omega),AQ,hg,AR,CQ,c1,Bh,AU,w1,w2,
   AY (show ¬((x.size:Int)>((b.length-at_:Nat):Int)) by omega),hcut,LA]
  rw[FF (by omega) (by omega) (by omega),AQ,Bc (by simp;omega),AQ,AV (by omega) (by omega),show((pre.length:Int)+1)=((pre.length+1:Nat):Int) by omega];have e:((0,x,()):AP)=CX x:=rfl;rw[e,hi,List.map_cons,List.flatten_cons,A8,vR,Nat.add_assoc]
theorem NA(xs:List Int):0<(Co xs).length:=by
 have:=CE 128;unfold Co;rw[A8,A8,A8,A8];omega
theorem LP(hk:3000≤k)(b:List Int)(hb:b.length<1000000000000)(p:Nat)(ss:List ByteArray)(rest:List Int)(hs:ss.length≤2000)(CK:∀s,s∈ss→s.size≤40)(hd:b.drop p=Da ss++rest):
 EP k b (p:Int)=some (((),((p+(Da ss).length:Nat):Int),true),ss.map CX):=by
 unfold Da at hd;rw[CP] at hd;have hr:=JL k (by omega) b (by omega) p (ss.map fun s=>(s.size:Int)) ((ss.map fH).flatten++rest) (by rw[List.length_map];exact hs) (MB CK) hd;have hd2:=Fa hd;have hp:=Gv hd (NA _);have hl:=Wi k b hb ss hs CK rest ss [] k _ rfl (by omega) hp hd2;unfold EP;simp only[hr,AR,Bh,AU];rw[List.length_nil,List.map_nil,show((0:Nat):Int)=0 from rfl] at hl;rw[hl];unfold Da;rw[A8,Nat.add_assoc]
def Ec:ByteArray→List ByteArray→List Int
 |_,[]=>[]
 |p,s::r=>(comm p s:Int)::Ec s r
def Ed:ByteArray→List ByteArray→List ByteArray
 |_,[]=>[]
 |p,s::r=>s.extract (comm p s) s.size::Ed s r
theorem JW:∀(p:ByteArray) (ss:List ByteArray),(Ec p ss).length=ss.length
 |_,[]=>rfl
 |p,s::r=>by simp[Ec,JW s r]
theorem IX:∀(p:ByteArray) (ss:List ByteArray),(Ed p ss).length=ss.length
 |_,[]=>rfl
 |p,s::r=>by simp[Ed,IX s r]
theorem Lg:∀(p:ByteArray) (ss:List ByteArray),(∀s,s∈ss→s.size≤40)→∀x,x∈Ec p ss→0≤x∧x≤40
 |_,[],_,x,hx=>(List.not_mem_nil hx).elim
 |p,s::r,h,x,hx=>by
  rcases List.mem_cons.1 hx with rfl|hx
  ·have:=JK p s
   have:=h s (List.mem_cons_self ..);omega
  ·exact Lg s r (fun y hy=>h y (List.mem_cons_of_mem _ hy)) x hx
theorem JX:∀(p:ByteArray) (ss:List ByteArray),(∀s,s∈ss→s.size≤40)→∀x,x∈Ed p ss→x.size≤40
 |_,[],_,x,hx=>(List.not_mem_nil hx).elim
 |p,s::r,h,x,hx=>by
  rcases List.mem_cons.1 hx with rfl|hx
  ·have:=h s (List.mem_cons_self ..)
   rw[ByteArray.size_extract];omega
  ·exact JX s r (fun y hy=>h y (List.mem_cons_of_mem _ hy)) x hx
def EL(ss:List ByteArray):List Int:=Co (Ec ⟨#[]⟩ ss)++Da (Ed ⟨#[]⟩ ss)
theorem J9(ss:List ByteArray)(hs:ss.length≤2000)(h:∀s,s∈ss→s.size≤40):(Da ss).length≤100000:=by
 have h1:=GN (ss.map fun s=>(s.size:Int));have h2:=Vf ss h;unfold Da;rw[A8];omega
theorem Yj{ss:List ByteArray}(hs:ss.length≤2000)(h:∀s,s∈ss→s.size≤40):BJ 6 (ss.map CX)=true:=by
 unfold BJ;simp only[CO,List.all_eq_true,Cz,List.length_map];refine⟨fun v hv=> ?_,by omega,rfl⟩;obtain⟨s,hs',rfl⟩:=List.mem_map.1 hv;have:=h s hs';unfold BV CX;rw[if_neg (by decide),if_neg (by decide),if_neg (by decide),if_pos rfl];simp;omega
theorem Vg(hk:3000≤k)(vs:List AP)(hvs:vs.length≤2000)(CK:∀v,v∈vs→v.2.1.size≤40):∀(post pre:List AP) (n:Nat) (p:ByteArray) (P:List Int) (S:List ByteArray),vs=pre++post→post.length<n→p.size≤40→P.length=pre.length→S.length=pre.length→
 (∀x,x∈P→0≤x∧x≤40)→(∀s,s∈S→s.size≤40)→
 Ff.l7 k n p vs (vs.length:Int) (pre.length:Int) P (S.map CX)=some (((),true),Co (P++Ec p (post.map fun v=>v.2.1))++Da (S++Ed p (post.map fun v=>v.2.1)))∧
 Fq.l6 k n vs p (pre.length:Int) P S=some (((),true),Co (P++Ec p (post.map fun v=>v.2.1))++Da (S++Ed p (post.map fun v=>v.2.1))):=by
 intro post
 induction post with
 |nil=>
  intro pre n p P S hl' hn hp hP hS hPb hSb;obtain⟨n,rfl⟩:∃m,n=m+1:=⟨n-1,by omega⟩;have:vs=pre:=by simpa using hl'
  subst this;obtain⟨d1,d2⟩:=IP k hk P (fun x hx=>by have:=hPb x hx;exact⟨by omega,by omega⟩) (by omega);have e1:=LM k hk (S.map CX) (by rw[List.length_map];omega) (by rw[List.length_map];omega);rw[Yj (by omega) hSb,if_pos rfl,List.map_map,show((fun v:AP=>v.2.1)∘CX)=id from rfl,List.map_id] at e1;have e2:=LC k hk S (by omega) hSb;have b1:=GN P;have b2:=J9 S (by omega) hSb;simp only[Ff.l7,Fq.l6,AY (show ¬(vs.length:Int)<(vs.length:Int) by omega),AU,d1,d2,e1,e2,AR,Bh];rw[Bc (by omega),AQ];simp[Ec,Ed]
 |cons x post ih=>
  intro pre n p P S hl' hn hp hP hS hPb hSb;simp only[Bn] at hn;obtain⟨n,rfl⟩:∃m,n=m+1:=⟨n-1,by omega⟩;have hlen:vs.length=pre.length+(post.length+1):=by rw[hl'];simp
  have hg:gP vs (pre.length:Int)=some x:=by rw[hl'];exact BB _ _ _
  have hx:=CK x (by rw[hl'];simp);obtain⟨c1,c2⟩:=comm_eq k p x.2.1 (by omega) (by omega);have hc:=JK p x.2.1
  have hi:=ih (pre++[x]) n x.2.1 (P++[(comm p x.2.1:Int)]) (S++[x.2.1.extract (comm p x.2.1) x.2.1.size]) (by rw[hl'];simp) (by omega) hx (by simp;omega) (by simp;omega)
   (fun y hy=>by
    rcases List.mem_append.1 hy with hy|hy
    ·exact hPb y hy
    ·simp at hy;omega)
   (fun y hy=>by
    rcases List.mem_append.1 hy with hy|hy
    ·exact hSb y hy
    ·simp only[List.mem_singleton] at hy
     rw[hy,ByteArray.size_extract];omega)
  rw[A8,Bz,List.map_append,List.map_singleton] at hi;simp only[Ff.l7,Fq.l6,AX (show(pre.length:Int)<(vs.length:Int) by omega),AQ,hg,AR,c1,c2,Int.toNat_natCast];rw[Bc (by simp;omega),AQ,AQ,FF (by omega) (by omega) (by omega),AQ,AQ,Bc (by simp;omega),AQ,Bc (by simp;omega),AQ,AV (by omega) (by omega),show((pre.length:Int)+1)=((pre.length+1:Nat):Int) by omega];have e:((0,x.2.1.extract (comm p x.2.1) x.2.1.size,()):AP)=CX (x.2.1.extract (comm p x.2.1) x.2.1.size):=rfl;rw[e,hi.1,hi.2];simp[Ec,Ed]
theorem Vh(hk:3000≤k)(vs:List AP)(hl:vs.length<1000000000)(hlk:vs.length<k):
 Ff k vs=(if BJ 6 vs then some (((),true),EL (vs.map fun v=>v.2.1)) else some (((),false),[]))∧
 Fq k vs=(if BJ 6 vs then some (((),true),EL (vs.map fun v=>v.2.1)) else some (((),false),[])):=by
 unfold Ff Fq;rw[(FZ k 6 vs hl hlk).1,(FZ k 6 vs hl hlk).2];simp only[AR];by_cases h:BJ 6 vs=true
 ·obtain⟨h1,h2⟩:=GK h
  have:=Vg k hk vs h1 (fun v hv=>(h2 v hv).2) vs [] k ⟨#[]⟩ [] [] rfl hlk (by decide) rfl rfl (fun x hx=>(List.not_mem_nil hx).elim) (fun x hx=>(List.not_mem_nil hx).elim);rw[List.length_nil,List.map_nil,show((0:Nat):Int)=0 from rfl,List.nil_append,List.nil_append] at this;rw[if_pos h,h,Bh,AU,AU];exact this
 ·rw[if_neg h,Bool.eq_false_iff.2 h,Dm,AQ,AQ]
  exact⟨rfl,rfl⟩
theorem Vi(hk:3000≤k)(end_:Int)(ss:List ByteArray)(hs:ss.length≤2000)(CK:∀s,s∈ss→s.size≤40):∀(post pre:List ByteArray) (n:Nat) (p:ByteArray) (P:List Int) (S:List AP),ss=pre++post→post.length<n→p.size≤40→P.length=pre.length→S.length=pre.length→
 EO.l10 k n end_ p ((ss.length:Nat):Int) (pre.length:Int) (S++(Ed p post).map CX) (pre.map CX) (P++Ec p post)=some (((),end_,true),ss.map CX):=by
 intro post
 induction post with
 |nil=>
  intro pre n p P S hl' hn hp hP hS;obtain⟨n,rfl⟩:∃m,n=m+1:=⟨n-1,by omega⟩;have:ss=pre:=by simpa using hl'
  subst this;simp only[EO.l10,AY (show ¬(ss.length:Int)<(ss.length:Int) by omega),AU]
 |cons x post ih=>
  intro pre n p P S hl' hn hp hP hS;simp only[Bn] at hn;obtain⟨n,rfl⟩:∃m,n=m+1:=⟨n-1,by omega⟩;have hlen:ss.length=pre.length+(post.length+1):=by rw[hl'];simp
  have hx:=CK x (by rw[hl'];simp);have hc:=JK p x;have hg1:gP (P++Ec p (x::post)) (pre.length:Int)=some (comm p x:Int):=by
   rw[←hP];exact BB _ _ _
  have hg2:gP (S++(Ed p (x::post)).map CX) (pre.length:Int)=some (CX (x.extract (comm p x) x.size)):=by
   rw[←hS];exact BB _ _ _
  have hi:=ih (pre++[x]) n x (P++[(comm p x:Int)]) (S++[CX (x.extract (comm p x) x.size)]) (by rw[hl'];simp) (by omega) hx (by simp;omega) (by simp;omega);rw[A8,Bz,List.map_append,List.map_singleton,CP,CP] at hi;have hi:EO.l10 k n end_ x ((ss.length:Nat):Int) ((pre.length+1:Nat):Int) (S++(Ed p (x::post)).map CX) (pre.map CX++[CX x]) (P++Ec p (x::post))=_:=hi;have c1:(decide ((0:Int)≤(comm p x:Int))&&decide ((comm p x:Int)≤(p.size:Int)))=true:=by simp;omega
  have hsz:(CX (x.extract (comm p x) x.size)).2.1.size=x.size-comm p x:=by show(x.extract (comm p x) x.size).size=_;rw[ByteArray.size_extract];omega
  have w1:IntKind.wrap .i64 ((comm p x:Int)+((x.size-comm p x:Nat):Int))=(x.size:Int):=by rw[AV (by omega) (by omega)];omega
  have hj:p.extract 0 (comm p x)++(CX (x.extract (comm p x) x.size)).2.1=x:=Nz p x;simp only[EO.l10,AX (show(pre.length:Int)<((ss.length:Nat):Int) by omega),AQ,hg1,hg2,AR,CQ,c1,Bh,AU,hsz,w1,AY (show ¬((x.size:Int)>40) by omega),Int.toNat_natCast,Int.toNat_zero,hj];rw[FF (by omega) (by omega) (by omega),AQ,Bc (by rw[ByteArray.size_extract];omega),AQ,Bc (by simp;omega),AQ,AV (by omega) (by omega),show((pre.length:Int)+1)=((pre.length+1:Nat):Int) by omega];exact hi
theorem Vj(hk:3000≤k)(b:List Int)(hb:b.length<1000000000000)(p:Nat)(ss:List ByteArray)(rest:List Int)(hs:ss.length≤2000)(CK:∀s,s∈ss→s.size≤40)(hd:b.drop p=EL ss++rest):
 EO k b (p:Int)=some (((),((p+(EL ss).length:Nat):Int),true),ss.map CX):=by
 unfold EL at hd;rw[CP] at hd;have hr:=JL k (by omega) b (by omega) p (Ec ⟨#[]⟩ ss) _ (by rw[JW];exact hs) (fun x hx=>by have:=Lg _ ss CK x hx;exact⟨by omega,by omega⟩) hd;have hd2:=Fa hd;have hl:=LP k hk b hb _ (Ed ⟨#[]⟩ ss) rest (by rw[IX];exact hs) (JX _ ss CK) hd2;have hf:=Vi k hk ((p+(Co (Ec ⟨#[]⟩ ss)).length+(Da (Ed ⟨#[]⟩ ss)).length:Nat):Int) ss hs CK ss [] k ⟨#[]⟩ [] [] rfl (by omega) (by decide) rfl rfl;rw[List.length_nil,List.map_nil,show((0:Nat):Int)=0 from rfl,List.nil_append,List.nil_append] at hf;unfold EO;simp only[hr,hl,AR,Bh,AU];rw[List.length_map,IX,JW,Fz rfl];simp only[AR,AU,hf];unfold EL;rw[A8,Nat.add_assoc]
end Go.A9
end
section
namespace Go.A9
open Go.Am Go.Fn
def EA(e t:Int):Bool:=CB t&&(e==0||e==8||(e==3&&t==0)||(e==5&&(t==1||t==2))||(e==6&&t==6)||(e==7&&t==6)||(e==9&&(t==1||t==2||t==5)))
theorem Mw(k:Nat)(e t:Int):Dq k e t=some (EA e t):=by
 unfold Dq Dq.c6 Dq.c13 EF EF.c6 EA;simp only[I_,AR,cst,BZ];cases ht:CB t with
 |false=>rfl
 |true=>
  simp only[Bh,AU,Et];by_cases h0:e=0
  ·subst h0;rfl
  by_cases h8:e=8
  ·subst h8;rfl
  by_cases h3:e=3
  ·subst h3;simp
  by_cases h5:e=5
  ·subst h5;simp
  by_cases h6:e=6
  ·subst h6;simp
  by_cases h7:e=7
  ·subst h7;simp
  by_cases h9:e=9
  ·subst h9
   by_cases t1:t=1
   ·subst t1;rfl
   by_cases t2:t=2
   ·subst t2;rfl
   by_cases t5:t=5
   ·subst t5;rfl
   simp[A_ t1,A_ t2,A_ t5,t1,t2,t5]
  simp[A_ h0,A_ h8,A_ h3,A_ h5,A_ h6,A_ h7,A_ h9,h0,h8,h3,h5,h6,h7,h9]
end Go.A9
end
section
namespace Go.A9
open Go.Am Go.Fn
attribute [-simp] List.length_flatten
variable(k:Nat)
theorem XN(l:List AP)(hl:l.length<1000000000):∀(post pre:List AP) (n:Nat),l=pre++post→post.length<n→EX.l3 k n l (pre.length:Int) (pre.map (·.1))=some ((),l.map (·.1)):=by
 intro post
 induction post with
 |nil=>
  intro pre n hp hn;obtain⟨n,rfl⟩:∃q,n=q+1:=⟨n-1,by omega⟩;have:l=pre:=by simpa using hp
  subst this;simp only[EX.l3,AY (show ¬(l.length:Int)<(l.length:Int) by omega),AU]
 |cons y post ih=>
  intro pre n hp hn;simp only[Bn] at hn;obtain⟨n,rfl⟩:∃q,n=q+1:=⟨n-1,by omega⟩;have hlen:l.length=pre.length+(post.length+1):=by rw[hp];simp
  have hy:gP l (pre.length:Int)=some y:=by rw[hp];exact BB pre post y
  have e:IntKind.wrap .i64 ((pre.length:Int)+1)=((pre.length+1:Nat):Int):=by rw[AV (by omega) (by omega)];omega
  have:=ih (pre++[y]) n (by rw[hp];simp) (by omega);rw[A8,Bz,List.map_append] at this;simp only[EX.l3,AX (show(pre.length:Int)<(l.length:Int) by omega),AQ,hy,AR,e];rw[Bc (by simp;omega),AQ];exact this
theorem X6(l:List AP)(hl:l.length<1000000000):∀(post pre:List AP) (n:Nat),l=pre++post→post.length<n→FN.l3 k n l (pre.length:Int) (pre.map fun v=>v.2.1)=some ((),l.map fun v=>v.2.1):=by
 intro post
 induction post with
 |nil=>
  intro pre n hp hn;obtain⟨n,rfl⟩:∃q,n=q+1:=⟨n-1,by omega⟩;have:l=pre:=by simpa using hp
  subst this;simp only[FN.l3,AY (show ¬(l.length:Int)<(l.length:Int) by omega),AU]
 |cons y post ih=>
  intro pre n hp hn;simp only[Bn] at hn;obtain⟨n,rfl⟩:∃q,n=q+1:=⟨n-1,by omega⟩;have hlen:l.length=pre.length+(post.length+1):=by rw[hp];simp
  have hy:gP l (pre.length:Int)=some y:=by rw[hp];exact BB pre post y
  have e:IntKind.wrap .i64 ((pre.length:Int)+1)=((pre.length+1:Nat):Int):=by rw[AV (by omega) (by omega)];omega
  have:=ih (pre++[y]) n (by rw[hp];simp) (by omega);rw[A8,Bz,List.map_append] at this;simp only[FN.l3,AX (show(pre.length:Int)<(l.length:Int) by omega),AQ,hy,AR,e];rw[Bc (by simp;omega),AQ];exact this
theorem WL(l:List AP)(hl:l.length<1000000000)(hlk:l.length<k):Eo k l=some ((),l.map (·.1))∧EX k l=some ((),l.map (·.1)):=by
 unfold Eo EX;have h1:=Mc k l hl l [] k rfl hlk;have h2:=XN k l hl l [] k rfl hlk;exact⟨h1,h2⟩
theorem XK(hk:3000≤k)(vs:List AP)(hl:vs.length<1000000000)(hlk:vs.length<k):
 Jr k vs=if BJ 6 vs then some (((),true),Da (vs.map fun v=>v.2.1)) else some (((),false),[]):=by
 unfold Jr;rw[(FZ k 6 vs hl hlk).2];simp only[AR];cases hv:BJ 6 vs with
 |false=>rfl
 |true=>
  obtain⟨h1,h2⟩:=GK hv;have ht:FN k vs=some ((),vs.map fun v=>v.2.1):=X6 k vs hl vs [] k rfl hlk
  have hp:=LC k hk (vs.map fun v=>v.2.1) (by rw[List.length_map];omega) (fun s hs=>by
   obtain⟨v,hv,rfl⟩:=List.mem_map.1 hs;exact(h2 v hv).2)
  simp only[Bh,AU,ht,AR,hp,if_true]
def BL(e t:Int)(l d:List AP):IE:=
 if e=0 then(((),true),Cf t l)
 else if e=5 then(((),true),Co (l.map (·.1)))
 else if e=6 then(((),true),Da (l.map fun v=>v.2.1))
 else if e=7 then(((),true),EL (l.map fun v=>v.2.1))
 else if e=9 then(((),true),C8 (Bp t) l)
 else if e=8 then Em l d
 else(((),true),leB 4 (u64 (((Bu 1 l.length (l.map (·.1))).length:Nat):Int))++Bu 1 l.length (l.map (·.1)))
def encR(e t:Int)(l d:List AP):IE:=if(EA e t&&BJ t l)=true then BL e t l d else(((),false),[])
theorem JU{e t:Int}(h:EA e t=true):CB t=true∧(e=0∨e=8∨(e=3∧t=0)∨(e=5∧(t=1∨t=2))∨(e=6∧t=6)∨(e=7∧t=6)∨(e=9∧(t=1∨t=2∨t=5))):=by
 unfold EA at h;simp only[CO,Bool.or_eq_true,beq_iff_eq] at h;obtain⟨h1,h2⟩:=h;refine⟨h1,?_⟩;omega
theorem JV(e t:Int):DD k e t=some (EA e t)∧Dq k e t=some (EA e t):=by
 obtain⟨b,h1,h2,_⟩:=NS k e t;have h3:=Mw k e t;rw[h2] at h3;rw[←h3];exact⟨h1,h2⟩
theorem KO{l:List AP}(h:BJ 0 l=true):D8 (l.map (·.1)) 1=true:=by
 obtain⟨h1,h2,_⟩:=EI.1 h;refine Jo.2 ⟨by rw[List.length_map];exact h2,by omega,by omega,fun x hx=> ?_⟩;obtain⟨v,hv,rfl⟩:=List.mem_map.1 hx;rcases EH (h1 v hv) with⟨_,a,b,_⟩|⟨h,_⟩|⟨h|h,_⟩|⟨h,_⟩<;>first|(refine⟨a,?_⟩;show _<(2:Int)^1;omega)|omega
theorem MJ{t:Int}(h:t=1∨t=2∨t=5):Bp t≠0:=by
 unfold Bp;rcases h with rfl|rfl|rfl<;>decide
theorem NT(hk:3000000≤k)(e t:Int)(l d:List AP)(hl:l.length<1000000)(hd:d.length≤2000)(hi:∀v,v∈l→Be v.1):
 I7 k e t l d=some (encR e t l d)∧Df k e t l d=some (encR e t l d):=by
 obtain⟨o1,o2⟩:=JV k e t;obtain⟨v1,v2⟩:=FZ k t l (by omega) (by omega);unfold I7 Df encR;simp only[o1,o2,v1,v2,AR,cst];cases ho:EA e t with
 |false=>exact⟨rfl,rfl⟩
 |true=>
  cases hv:BJ t l with
  |false=>exact⟨rfl,rfl⟩
  |true=>
   obtain⟨hv1,hl2,hty⟩:=EI.1 hv;obtain⟨n1,n2⟩:=WL k l (by omega) (by omega);have hni:∀x,x∈l.map (·.1)→Be x:=fun x hx=>by obtain⟨v,hv',rfl⟩:=List.mem_map.1 hx;exact hi v hv'
   simp only[Bh,D6,AU,Bool.and_self,if_true];unfold BL;rcases(JU ho).2 with rfl|rfl|⟨rfl,rfl⟩|⟨rfl,ht⟩|⟨rfl,rfl⟩|⟨rfl,rfl⟩|⟨rfl,ht⟩
   ·obtain⟨p1,p2⟩:=Xb k (by omega) t l (by omega) (by omega)
    rw[hv] at p1 p2;simp only[show((0:Int)==0)=true from rfl,AQ,p1,p2,AR,if_true];exact⟨trivial,trivial⟩
   ·have p1:=VJ k (by omega) l d hl2 hd
    have p2:=XA k (by omega) l d hl2 hd
    simp only[show((8:Int)==0)=false from rfl,show((8:Int)==5)=false from rfl,show((8:Int)==6)=false from rfl,show((8:Int)==7)=false from rfl,show((8:Int)==9)=false from rfl,show((8:Int)==8)=true from rfl,show((8:Int)==3)=false from rfl,AQ,AU,p1,p2,AR,
     if_neg (show ¬(8:Int)=0 by decide),if_neg (show ¬(8:Int)=5 by decide),if_neg (show ¬(8:Int)=6 by decide),if_neg (show ¬(8:Int)=7 by decide),if_neg (show ¬(8:Int)=9 by decide),if_true]
    exact⟨trivial,trivial⟩
   ·obtain⟨p1,p2⟩:=Ms k (by omega) (l.map (·.1)) hni (by rw[List.length_map];omega) 1
    rw[KO hv] at p1 p2;have hrl:=FL 1 (by omega) l.length (l.map (·.1));rw[List.length_map] at hrl p1 p2;simp only[if_true,show Int.toNat 1=1 from rfl] at p1 p2;obtain⟨w1,w2⟩:=IA k (by omega) (((Bu 1 l.length (l.map (·.1))).length:Nat):Int) 4 (by omega) (by omega);rw[show((4:Nat):Int)=4 from rfl] at w1 w2
    simp only[show((3:Int)==0)=false from rfl,show((3:Int)==5)=false from rfl,show((3:Int)==6)=false from rfl,show((3:Int)==7)=false from rfl,show((3:Int)==9)=false from rfl,show((3:Int)==8)=false from rfl,show((3:Int)==3)=true from rfl,AQ,AU,n1,n2,p1,p2,w1,w2,AR,Bh,
     if_neg (show ¬(3:Int)=0 by decide),if_neg (show ¬(3:Int)=5 by decide),if_neg (show ¬(3:Int)=6 by decide),if_neg (show ¬(3:Int)=7 by decide),if_neg (show ¬(3:Int)=9 by decide),if_neg (show ¬(3:Int)=8 by decide)]
    rw[Bc (by rw[Bt];omega),AQ];exact⟨rfl,rfl⟩
   ·obtain⟨p1,p2⟩:=IP k (by omega) (l.map (·.1)) hni (by rw[List.length_map];omega)
    simp only[show((5:Int)==0)=false from rfl,show((5:Int)==5)=true from rfl,show((5:Int)==3)=false from rfl,AQ,AU,n1,n2,p1,p2,AR,if_neg (show ¬(5:Int)=0 by decide),if_true];exact⟨trivial,trivial⟩
   ·have p1:=LM k (by omega) l (by omega) (by omega)
    have p2:=XK k (by omega) l (by omega) (by omega);rw[if_pos hv] at p1 p2;simp only[show((6:Int)==0)=false from rfl,show((6:Int)==5)=false from rfl,show((6:Int)==6)=true from rfl,show((6:Int)==3)=false from rfl,AQ,AU,p1,p2,AR,if_neg (show ¬(6:Int)=0 by decide),if_neg (show ¬(6:Int)=5 by decide),if_true];exact⟨trivial,trivial⟩
   ·obtain⟨p1,p2⟩:=Vh k (by omega) l (by omega) (by omega)
    rw[if_pos hv] at p1 p2;simp only[show((7:Int)==0)=false from rfl,show((7:Int)==5)=false from rfl,show((7:Int)==6)=false from rfl,show((7:Int)==7)=true from rfl,show((7:Int)==3)=false from rfl,AQ,AU,p1,p2,AR,if_neg (show ¬(7:Int)=0 by decide),if_neg (show ¬(7:Int)=5 by decide),if_neg (show ¬(7:Int)=6 by decide),if_true];exact⟨trivial,trivial⟩
   ·obtain⟨p1,p2⟩:=XW k (by omega) t l (by omega) (by omega)
    have hs:Fy t l=true:=by unfold Fy;rw[hv,AX (MJ ht)];rfl
    rw[hs] at p1 p2;simp only[show((9:Int)==0)=false from rfl,show((9:Int)==5)=false from rfl,show((9:Int)==6)=false from rfl,show((9:Int)==7)=false from rfl,show((9:Int)==9)=true from rfl,show((9:Int)==3)=false from rfl,AQ,AU,p1,p2,AR,if_neg (show ¬(9:Int)=0 by decide),if_neg (show ¬(9:Int)=5 by decide),if_neg (show ¬(9:Int)=6 by decide),if_neg (show ¬(9:Int)=7 by decide),if_true];exact⟨trivial,trivial⟩
theorem Ma{l:List AP}(h:∀v,v∈l→v.2.1=⟨#[]⟩):(l.map (·.1)).map Ho=l:=by
 rw[List.map_map]
 conv=>rhs;rw[←List.map_id l]
 apply List.map_congr_left;intro v hv;exact Gr rfl (h v hv).symm
theorem L_{t:Int}{l:List AP}(h:BJ t l=true)(ht:t≠6):∀v,v∈l→v.2.1=⟨#[]⟩:=by
 obtain⟨h1,_,_⟩:=EI.1 h;intro v hv;rcases EH (h1 v hv) with⟨_,_,_,h⟩|⟨_,_,_,h⟩|⟨_,h⟩|⟨h,_⟩<;>first|exact h|omega
theorem Nu(ds:List Int):Bq (EK ds):=by
 unfold EK;refine CJ (FY _) (CJ (fun x hx=> ?_) (fun x hx=> ?_))
 ·unfold heads at hx
  obtain⟨md,_,rfl⟩:=List.mem_map.1 hx;have:=FH (mv (Dv ds) md);omega
 ·unfold body at hx
  obtain⟨y,hy,hx⟩:=List.mem_flatten.1 hx;obtain⟨md,_,rfl⟩:=List.mem_map.1 hy;unfold mb at hx;split at hx
  ·cases hx
  ·exact F_ _ _ x hx
theorem KS:∀(f:Nat) (ds:List Int),Bq (Cw f ds)
 |0,_=>fun x hx=>by cases hx
 |f+1,ds=>by
  unfold Cw;split
  ·exact fun x hx=>by cases hx
  ·exact CJ (Nu _) (KS f _)
theorem JI(xs:List Int):Bq (Co xs):=by
 unfold Co;exact CJ (CJ (CJ (CJ (FY _) (FY _)) (FY _)) (FY _)) (KS _ _)
theorem KT(ss:List ByteArray):Bq (Da ss):=by
 unfold Da;refine CJ (JI _) (fun x hx=> ?_);obtain⟨y,hy,hx⟩:=List.mem_flatten.1 hx;obtain⟨s,_,rfl⟩:=List.mem_map.1 hy;exact JJ s x hx
theorem JS(e t:Int)(l d:List AP)(hv:BJ t l=true)(ho:EA e t=true)(hd:d.length≤2000):(BL e t l d).2.length≤200000∧Bq (BL e t l d).2∧(e=8→(BL e t l d).1.2=true→1≤(BL e t l d).2.length):=by
 obtain⟨hv1,hl2,hty⟩:=EI.1 hv;unfold BL;rcases(JU ho).2 with rfl|rfl|⟨rfl,rfl⟩|⟨rfl,ht⟩|⟨rfl,rfl⟩|⟨rfl,rfl⟩|⟨rfl,ht⟩
 ·rw[if_pos rfl]
  have hpl:(Cf t l).length≤44*l.length:=by
   unfold Cf;split
   ·rw[Gh,List.length_map]
    unfold bytesOf;omega
   ·have:∀q:List AP,(∀v,v∈q→BV t v=true)→((q.map (BA t)).flatten).length≤44*q.length:=by
     intro q
     induction q with
     |nil=>intro _;simp
     |cons v q ih=>
      intro h;have:=ih (fun x hx=>h x (by simp[hx]));have:=Jk (h v (by simp));rw[List.map_cons,List.flatten_cons,A8,Bn];omega
    exact this l hv1
  exact⟨by show(Cf t l).length≤_;omega,KV t l,fun h=>by cases h⟩
 ·rw[if_neg (by decide),if_neg (by decide),if_neg (by decide),if_neg (by decide),if_neg (by decide),if_pos rfl]
  unfold Em;cases hp:places d l with
  |none=>exact⟨by show([]:List Int).length≤200000;simp,fun x (hx:x∈([]:List Int))=>(List.not_mem_nil hx).elim,fun _ h=>by cases h⟩
  |some ps=>
   have h1:=Ml ps d.length hd;have h2:=FK hp;exact⟨by show(Db ps d.length).length≤_;omega,Nv ps d.length,fun _ _=>by show 1≤(Db ps d.length).length;unfold Db;simp⟩
 ·rw[if_neg (by decide),if_neg (by decide),if_neg (by decide),if_neg (by decide),if_neg (by decide),if_neg (by decide)]
  have hrl:=FL 1 (by omega) l.length (l.map (·.1));rw[List.length_map] at hrl;exact⟨by show(leB _ _++_).length≤_;rw[A8,Bt];omega,CJ (F_ _ _) (Gp _ _ _),fun h=>by cases h⟩
 ·rw[if_neg (by decide),if_pos rfl]
  have:=GN (l.map (·.1));exact⟨by show(Co _).length≤_;omega,JI _,fun h=>by cases h⟩
 ·rw[if_neg (by decide),if_neg (by decide),if_pos rfl]
  obtain⟨h1,h2⟩:=GK hv;have:=J9 (l.map fun v=>v.2.1) (by rw[List.length_map];omega) (fun s hs=>by obtain⟨v,hv',rfl⟩:=List.mem_map.1 hs;exact(h2 v hv').2);exact⟨by show(Da _).length≤_;omega,KT _,fun h=>by cases h⟩
 ·rw[if_neg (by decide),if_neg (by decide),if_neg (by decide),if_pos rfl]
  obtain⟨h1,h2⟩:=GK hv;have CK:∀s,s∈l.map (fun v=>v.2.1)→s.size≤40:=fun s hs=>by obtain⟨v,hv',rfl⟩:=List.mem_map.1 hs;exact(h2 v hv').2
  have h3:=GN (Ec ⟨#[]⟩ (l.map fun v=>v.2.1));have h4:=J9 (Ed ⟨#[]⟩ (l.map fun v=>v.2.1)) (by rw[IX,List.length_map];omega) (JX _ _ CK);exact⟨by show(EL _).length≤_;unfold EL;rw[A8];omega,CJ (JI _) (KT _),fun h=>by cases h⟩
 ·rw[if_neg (by decide),if_neg (by decide),if_neg (by decide),if_neg (by decide),if_pos rfl]
  have hw:Bp t≤8:=by unfold Bp;split<;>(try split)<;>omega
  have hm:Bp t*l.length≤8*2000:=Nat.mul_le_mul hw hl2;exact⟨by show(C8 _ _).length≤_;rw[Jw];omega,Nw _ _,fun h=>by cases h⟩
theorem La(hk:3000000≤k)(e t:Int)(l d:List AP)(hd:d.length≤2000)(hi:∀v,v∈l→Be v.1)(ho:EA e t=true)(hv:BJ t l=true)(hok:(BL e t l d).1.2=true)(post:List Int)(hb2:Bq post)(hp:post.length≤1):
 (e=3∧post≠[]∧Ii k e t ((BL e t l d).2++post) (l.length:Int) d=some (((),0,false),[]))∨
 Ii k e t ((BL e t l d).2++post) (l.length:Int) d=some (((),(((BL e t l d).2.length:Nat):Int),true),l):=by
 obtain⟨hv1,hl2,hty⟩:=EI.1 hv;have hni:∀x,x∈l.map (·.1)→Be x:=fun x hx=>by obtain⟨v,hv',rfl⟩:=List.mem_map.1 hx;exact hi v hv'
 obtain⟨hbl,hbb,_⟩:=JS e t l d hv ho hd;have uL:Bq ([]:List Int):=fun x hx=>by cases hx
 unfold Ii;rcases(JU ho).2 with rfl|rfl|⟨rfl,rfl⟩|⟨rfl,ht⟩|⟨rfl,rfl⟩|⟨rfl,rfl⟩|⟨rfl,ht⟩
 ·right
  obtain⟨r,_,_⟩:=Xd k (by omega) t l hv hi [] post (by simp;omega) uL hb2;rw[List.nil_append,List.length_nil,Nat.zero_add,show((0:Nat):Int)=0 from rfl] at r;have e0:BL 0 t l d=(((),true),Cf t l):=by unfold BL;rw[if_pos rfl]
  simp only[e0,show((0:Int)==0)=true from rfl,AQ,r,AR]
 ·right
  have e0:BL 8 t l d=Em l d:=by unfold BL;rw[if_neg (by decide),if_neg (by decide),if_neg (by decide),if_neg (by decide),if_neg (by decide),if_pos rfl]
  rw[e0] at hok⊢;unfold Em at hok⊢;cases hpl:places d l with
  |none=>rw[hpl] at hok;cases hok
  |some ps=>
   have hpn:=FK hpl;have r:=Xa k (by omega) ps (by omega) d.length hd (Kh hpl) post hb2 (by omega);have r2:=NB k l d hl2 (by omega) hd ps hpl;rw[hpn] at r;simp only[show((8:Int)==0)=false from rfl,show((8:Int)==5)=false from rfl,show((8:Int)==6)=false from rfl,show((8:Int)==7)=false from rfl,show((8:Int)==9)=false from rfl,show((8:Int)==8)=true from rfl,AQ,AU,r,r2,AR]
 ·have e0:BL 3 0 l d=(((),true),leB 4 (u64 (((Bu 1 l.length (l.map (·.1))).length:Nat):Int))++Bu 1 l.length (l.map (·.1))):=by
   unfold BL;rw[if_neg (by decide),if_neg (by decide),if_neg (by decide),if_neg (by decide),if_neg (by decide),if_neg (by decide)]
  rw[e0] at hbl hbb⊢;have hrl:=FL 1 (by omega) l.length (l.map (·.1));rw[List.length_map] at hrl;generalize hR:Bu 1 l.length (l.map (·.1))=R at hrl hbl hbb⊢;have hRb:Bq R:=by rw[←hR];exact Gp _ _ _
  have hw:=IC k (by omega) [] (R++post) 4 (u64 ((R.length:Nat):Int)) (by omega) (by omega) (by simp;omega) uL (CJ hRb hb2);have hu:u64 ((R.length:Nat):Int)=R.length:=by unfold u64;omega
  have hm:IntKind.wrap .i64 ((u64 ((R.length:Nat):Int)%256^4:Nat):Int)=(R.length:Int):=by
   rw[hu,Nat.mod_eq_of_lt (by omega)];exact AV (by omega) (by omega)
  rw[hm,List.nil_append,List.length_nil,Nat.zero_add,show((0:Nat):Int)=0 from rfl,show((4:Nat):Int)=4 from rfl,←CP] at hw;have hlen:((leB 4 (u64 ((R.length:Nat):Int))++R)++post).length=4+R.length+post.length:=by simp[Bt];omega
  have e1:IntKind.wrap .i64 ((((leB 4 (u64 ((R.length:Nat):Int))++R)++post).length:Int)-4)=((R.length+post.length:Nat):Int):=by rw[hlen,AV (by omega) (by omega)];omega
  simp only[show((3:Int)==0)=false from rfl,show((3:Int)==5)=false from rfl,show((3:Int)==6)=false from rfl,show((3:Int)==7)=false from rfl,show((3:Int)==9)=false from rfl,show((3:Int)==8)=false from rfl,AU,hw,AR,cst,Bh,EU,e1];cases post with
  |nil=>
   right;have hne:((R.length:Int) !=((R.length+0:Nat):Int))=false:=Fz (by omega);obtain⟨rr,_⟩:=Mv k (by omega) (l.map (·.1)) 1 (KO hv) (leB 4 (u64 ((R.length:Nat):Int))) [] (F_ _ _) uL (by rw[Bt];simp);rw[List.length_map,hR,Bt,C7,show((4:Nat):Int)=4 from rfl,show((1:Nat):Int)=1 from rfl] at rr;obtain⟨vv,_⟩:=vals_eq k (l.map (·.1)) (by rw[List.length_map];omega) (by rw[List.length_map];omega);rw[C7,List.length_nil,hne,AU];simp only[rr,AR,vv,Ma (L_ hv (by decide))]
   congr 4
   rw[A8,Bt]
  |cons z post=>
   left;have hne:((R.length:Int) !=((R.length+(z::post).length:Nat):Int))=true:=F8 (by simp;omega);rw[hne,AQ];refine⟨?_,by simp,rfl⟩
   first|rfl|trivial
 ·right
  have e0:BL 5 t l d=(((),true),Co (l.map (·.1))):=by unfold BL;rw[if_neg (by decide),if_pos rfl]
  rw[e0] at hbl⊢;replace hbl:(Co (l.map (·.1))).length≤200000:=hbl;have r:=JL k (by omega) (Co (l.map (·.1))++post) (by rw[A8];omega) 0 (l.map (·.1)) post (by rw[List.length_map];omega) hni (by rw[List.drop_zero]);rw[Nat.zero_add,show((0:Nat):Int)=0 from rfl] at r;obtain⟨vv,_⟩:=vals_eq k (l.map (·.1)) (by rw[List.length_map];omega) (by rw[List.length_map];omega);simp only[show((5:Int)==0)=false from rfl,show((5:Int)==5)=true from rfl,AQ,AU,r,AR,vv,Ma (L_ hv (by omega))]
 ·right
  obtain⟨h1,h2⟩:=GK hv;have CK:∀s,s∈l.map (fun v=>v.2.1)→s.size≤40:=fun s hs=>by obtain⟨v,hv',rfl⟩:=List.mem_map.1 hs;exact(h2 v hv').2
  have hback:(l.map (fun v=>v.2.1)).map CX=l:=by
   rw[List.map_map]
   conv=>rhs;rw[←List.map_id l]
   apply List.map_congr_left;intro v hv';exact Gr (h2 v hv').1.symm rfl
  have e0:BL 6 6 l d=(((),true),Da (l.map fun v=>v.2.1)):=by unfold BL;rw[if_neg (by decide),if_neg (by decide),if_pos rfl]
  rw[e0] at hbl⊢;replace hbl:(Da (l.map fun v=>v.2.1)).length≤200000:=hbl;have r:=LP k (by omega) (Da (l.map fun v=>v.2.1)++post) (by rw[A8];omega) 0 (l.map fun v=>v.2.1) post (by rw[List.length_map];omega) CK (by rw[List.drop_zero]);rw[Nat.zero_add,hback,show((0:Nat):Int)=0 from rfl] at r;simp only[show((6:Int)==0)=false from rfl,show((6:Int)==5)=false from rfl,show((6:Int)==6)=true from rfl,AQ,AU,r,AR]
 ·right
  obtain⟨h1,h2⟩:=GK hv;have CK:∀s,s∈l.map (fun v=>v.2.1)→s.size≤40:=fun s hs=>by obtain⟨v,hv',rfl⟩:=List.mem_map.1 hs;exact(h2 v hv').2
  have hback:(l.map (fun v=>v.2.1)).map CX=l:=by
   rw[List.map_map]
   conv=>rhs;rw[←List.map_id l]
   apply List.map_congr_left;intro v hv';exact Gr (h2 v hv').1.symm rfl
  have e0:BL 7 6 l d=(((),true),EL (l.map fun v=>v.2.1)):=by unfold BL;rw[if_neg (by decide),if_neg (by decide),if_neg (by decide),if_pos rfl]
  rw[e0] at hbl⊢;replace hbl:(EL (l.map fun v=>v.2.1)).length≤200000:=hbl;have r:=Vj k (by omega) (EL (l.map fun v=>v.2.1)++post) (by rw[A8];omega) 0 (l.map fun v=>v.2.1) post (by rw[List.length_map];omega) CK (by rw[List.drop_zero]);rw[Nat.zero_add,hback,show((0:Nat):Int)=0 from rfl] at r;simp only[show((7:Int)==0)=false from rfl,show((7:Int)==5)=false from rfl,show((7:Int)==6)=false from rfl,show((7:Int)==7)=true from rfl,AQ,AU,r,AR]
 ·right
  have hs:Fy t l=true:=by unfold Fy;rw[hv,AX (MJ ht)];rfl
  have e0:BL 9 t l d=(((),true),C8 (Bp t) l):=by unfold BL;rw[if_neg (by decide),if_neg (by decide),if_neg (by decide),if_neg (by decide),if_pos rfl]
  rw[e0];have r:=XX k (by omega) t l hs hi post (by omega);simp only[show((9:Int)==0)=false from rfl,show((9:Int)==5)=false from rfl,show((9:Int)==6)=false from rfl,show((9:Int)==7)=false from rfl,show((9:Int)==9)=true from rfl,AQ,AU,r,AR]
theorem NU(hk:3000000≤k)(e t:Int)(l d:List AP)(hd:d.length≤2000)(hi:∀v,v∈l→Be v.1)(ho:EA e t=true)(hv:BJ t l=true)(hok:(BL e t l d).1.2=true):
 Gy k e t (BL e t l d).2 (l.length:Int) d=some (((),true),l)∧∀z,0≤z∧z<256→Gy k e t ((BL e t l d).2++[z]) (l.length:Int) d=some (((),false),[]):=by
 obtain⟨hv1,hl2,hty⟩:=EI.1 hv;obtain⟨o1,_⟩:=JV k e t;obtain⟨v1,_⟩:=FZ k t l (by omega) (by omega);obtain⟨hbl,hbb,h8⟩:=JS e t l d hv ho hd;have c1:(decide ((0:Int)≤(l.length:Int))&&decide ((l.length:Int)≤2000))=true:=by simp;omega
 have Lu:∀post:List Int,((e==8&&((l.length:Int)==0))&&((((BL e t l d).2++post).length:Int)==0))=false:=by
  intro post;rw[Bool.eq_false_iff];intro h;simp only[CO,beq_iff_eq] at h;have:=h8 h.1.1 hok;have h3:=h.2;rw[A8] at h3;omega
 constructor
 ·have hr:=La k hk e t l d hd hi ho hv hok [] (fun x hx=>by cases hx) (by simp)
  have hz:=Lu [];rw[C7] at hr hz;rcases hr with⟨_,h,_⟩|hr
  ·exact(h rfl).elim
  ·unfold Gy
   simp only[o1,ho,CQ,AR,c1,Bh,cst,BZ,D6,AU,hz,hr,v1,hv,Fz rfl,Gj]
 ·intro z VH
  have hr:=La k hk e t l d hd hi ho hv hok [z] (fun x hx=>by obtain rfl:=List.mem_singleton.1 hx;exact VH) (by simp);have hz:=Lu [z];unfold Gy;rcases hr with⟨_,_,hr⟩|hr
  ·simp only[o1,ho,CQ,AR,c1,Bh,Dm,cst,BZ,D6,AU,hz,hr,Gl,AQ,Gj]
  ·have hne:((((BL e t l d).2.length:Nat):Int) !=(((BL e t l d).2++[z]).length:Int))=true:=F8 (by rw[A8,Bz];omega)
   simp only[o1,ho,CQ,AR,c1,Bh,cst,BZ,D6,AU,hz,hr,hne,EU,Gl,AQ,Gj]
end Go.A9
end
section
namespace Go.A9
open Go.Am Go.Fn
variable(k:Nat)
def FB:List AP→List AP→List AP
 |d,[]=>d
 |d,v::r=>FB (if(idx v d).isSome then d else d++[v]) r
theorem K3:∀(l d:List AP),(FB d l).length≤d.length+l.length
 |[],d=>by simp[FB]
 |v::r,d=>by
  have:=K3 r (if(idx v d).isSome then d else d++[v]);unfold FB;split at this<;>split<;>simp_all<;>omega
theorem Lx{v:AP}:∀{d:List AP},idx v d=none→v∉d
 |[],_=>by simp
 |x::r,h=>by
  unfold idx at h;split at h
  ·cases h
  ·rename_i hx
   have:=Lx (Option.map_eq_none_iff.1 h);intro hm;rcases List.mem_cons.1 hm with rfl|hm
   ·exact hx (GG.2 rfl)
   ·exact this hm
theorem Mk{d:List AP}(e:List AP):∀{l:List AP} {ps:List Int},places d l=some ps→places (d++e) l=some ps
 |[],ps,h=>h
 |v::r,ps,h=>by
  simp only[places] at h⊢;split at h
  ·rename_i i m h1 h2
   cases h;rw[Mk e h2,Gd,h1];rfl
  ·cases h
theorem Ki{d:List AP}:∀{a:List AP} {o:List Int} (v:AP),places d a=some o→places d (a++[v])=(idx v d).map fun i=>o++[(i:Int)]
 |[],o,v,h=>by cases h;simp only[List.nil_append,places];cases idx v d<;>rfl
 |z::a,o,v,h=>by
  simp only[places] at h;split at h
  ·rename_i i m h1 h2
   cases h;simp only[List.cons_append,places,h1,Ki v h2];cases idx v d<;>rfl
  ·cases h
abbrev MU:=(Unit×Unit×Bool)×(List AP)×(List Int)
theorem XD(L5:(List AP)→Int→(List AP)→(List Int)→Option MU)(l d:List AP)(hd:d.length≤2000)(hnd:d.Nodup)(p:Nat)(y:AP)(hy:gP l (p:Int)=some y)(hp:p≤2000)(o:List Int)(ho:o.length≤4000):∀(post pre:List AP) (n:Nat),d=pre++post→post.length<n→
 BH.l9 k L5 n l (p:Int) (match idx y pre with|some i=>(i:Int)|none=> -1) (pre.length:Int) d o=match idx y d with
  |some i=>L5 l ((p+1:Nat):Int) d (o++[(i:Int)])
  |none=>L5 l ((p+1:Nat):Int) (d++[y]) (o++[(d.length:Int)]):=by
 have e1:IntKind.wrap .i64 ((p:Int)+1)=((p+1:Nat):Int):=by rw[AV (by omega) (by omega)];omega
 intro post
 induction post with
 |nil=>
  intro pre n hv hn;obtain⟨n,rfl⟩:∃q,n=q+1:=⟨n-1,by omega⟩;have:d=pre:=by simpa using hv
  subst this;simp only[BH.l9,AY (show ¬(d.length:Int)<(d.length:Int) by omega),AU];cases hi:idx y d with
  |none=>
   simp only[show decide ((-1:Int)<0)=true from rfl,AQ,hy,AR,BH.c16];rw[Hl (by omega),AQ,Hl (by omega),AQ,e1]
  |some i=>
   simp only[AY (show ¬((i:Nat):Int)<0 by omega),AU,BH.c16];rw[Hl (by omega),AQ,e1]
 |cons z post ih=>
  intro pre n hv hn;simp only[Bn] at hn;obtain⟨n,rfl⟩:∃q,n=q+1:=⟨n-1,by omega⟩;have hlen:d.length=pre.length+(post.length+1):=by rw[hv];simp
  have hz:gP d (pre.length:Int)=some z:=by rw[hv];exact BB pre post z
  have e:IntKind.wrap .i64 ((pre.length:Int)+1)=((pre.length+1:Nat):Int):=by rw[AV (by omega) (by omega)];omega
  have hs:(z.1==y.1&&(ig z.2.1 y.2.1&&true))=DN z y:=by unfold DN;rw[Bool.and_true]
  have hih:=ih (pre++[z]) n (by rw[hv];simp) (by omega);rw[A8,Bz,Gd] at hih;simp only[BH.l9,AX (show(pre.length:Int)<(d.length:Int) by omega),AQ,hz,hy,AR,hs,BH.c10,e];cases GY:DN z y with
  |true=>
   obtain rfl:=GG.1 GY;have hn1:idx z pre=none:=by
    cases hi:idx z pre with
    |none=>rfl
    |some i=>
     obtain⟨a,b⟩:=I5 hi;have hm:z∈pre:=List.mem_of_getElem? b;rw[hv] at hnd;have:=(List.nodup_append.1 hnd).2.2 z hm z (by simp);exact(this rfl).elim
   rw[hn1] at hih;simp only[idx,GY,if_true,Option.none_or,Option.map_some,Nat.zero_add] at hih;rw[AQ];exact hih
  |false=>
   have hn2:idx y [z]=none:=by simp[idx,GY]
   rw[hn2,Option.map_none,Option.or_none] at hih;rw[AU];exact hih
theorem XE(hk:2000000≤k)(l:List AP)(hl:l.length≤2000):∀(post pre d:List AP) (n:Nat) (o:List Int),l=pre++post→post.length<n→d.Nodup→d.length≤pre.length→places d pre=some o→
 ∃ps,BH.l5 k n l (pre.length:Int) d o=some (((),(),true),(FB d post,ps))∧places (FB d post) l=some ps:=by
 intro post
 induction post with
 |nil=>
  intro pre d n o hp hn hnd hdl ho;obtain⟨n,rfl⟩:∃q,n=q+1:=⟨n-1,by omega⟩;have:l=pre:=by simpa using hp
  subst this;simp only[BH.l5,AY (show ¬(l.length:Int)<(l.length:Int) by omega),AU,FB];exact⟨o,rfl,ho⟩
 |cons y post ih=>
  intro pre d n o hp hn hnd hdl ho;simp only[Bn] at hn;obtain⟨n,rfl⟩:∃q,n=q+1:=⟨n-1,by omega⟩;have hlen:l.length=pre.length+(post.length+1):=by rw[hp];simp
  have hy:gP l (pre.length:Int)=some y:=by rw[hp];exact BB pre post y
  have hol:=FK ho;have hin:=XD k (BH.l5 k n) l d (by omega) hnd pre.length y hy (by omega) o (by omega) d [] k rfl (by omega);simp only[idx,List.length_nil] at hin;rw[show((0:Nat):Int)=0 from rfl] at hin;simp only[BH.l5,AX (show(pre.length:Int)<(l.length:Int) by omega),AQ,hin,FB];cases hi:idx y d with
  |some i=>
   simp only[Option.isSome_some,if_true];have:=ih (pre++[y]) d n (o++[(i:Int)]) (by rw[hp];simp) (by omega) hnd (by simp;omega) (by rw[Ki y ho,hi];rfl);rw[A8,Bz] at this;exact this
  |none=>
   simp only[Option.isSome_none,Bool.false_eq_true,if_false];have hnm:=Lx hi;have VD:(d++[y]).Nodup:=by
    rw[List.nodup_append];refine⟨hnd,by simp,fun a ha b hb=> ?_⟩;rw[List.mem_singleton] at hb;subst hb;exact fun e=>hnm (e▸ha)
   have hpl:places (d++[y]) (pre++[y])=some (o++[(d.length:Int)]):=by
    rw[Ki y (Mk [y] ho),Gd,hi];simp[idx,GG.2 rfl]
   have:=ih (pre++[y]) (d++[y]) n (o++[(d.length:Int)]) (by rw[hp];simp) (by omega) VD (by simp;omega) hpl;rw[A8,Bz] at this;exact this
theorem Xz(hk:2000000≤k)(t:Int)(l:List AP)(hl:l.length<1000000):(BJ t l=false∧BH k t l=some (((),(),false),([],[])))∨
 (BJ t l=true∧∃ps,BH k t l=some (((),(),true),(FB [] l,ps))∧places (FB [] l) l=some ps):=by
 obtain⟨_,v2⟩:=FZ k t l (by omega) (by omega);unfold BH;rw[v2];simp only[AR];cases hv:BJ t l with
 |false=>exact .inl ⟨rfl,rfl⟩
 |true=>
  obtain⟨_,hl2,_⟩:=EI.1 hv;obtain⟨ps,h1,h2⟩:=XE k hk l hl2 l [] [] k [] rfl (by omega) List.nodup_nil (by simp) rfl;refine .inr ⟨rfl,ps,?_,h2⟩;simp only[Bh,AU];exact h1
end Go.A9
end
section
namespace Go.A9
open Go.Am Go.Fn
def BK(c:Bd):Prop:=0≤c.2.1∧c.2.1≤(c.1.length:Int)∧c.1.length≤1048576
variable(k:Nat)
theorem GM(c:Bd)(hc:BK c):∃v c',Eu k c=some (v,c')∧0≤v∧v<256∧BK c':=by
 obtain⟨h0,h1,h2⟩:=hc;unfold Eu Eu.c6;by_cases h:c.2.1<(c.1.length:Int)
 ·obtain⟨x,hx,_⟩:=Io h0 h
  simp only[AX h,AQ,hx,AR];refine⟨_,_,rfl,?_,?_,?_,?_,?_⟩
  ·simp only[II];omega
  ·simp only[II];omega
  ·show 0≤IntKind.wrap .i64 (c.2.1+1)
   rw[AV (by omega) (by omega)];omega
  ·show IntKind.wrap .i64 (c.2.1+1)≤(c.1.length:Int)
   rw[AV (by omega) (by omega)];omega
  ·exact h2
 ·simp only[AY h,AU]
  refine⟨_,_,rfl,?_,?_,h0,h1,h2⟩
  ·simp only[II];omega
  ·simp only[II];omega
theorem DC(n:Int)(hn:n<9223372036854775808)(c:Bd)(hc:BK c):∃v c',Dt k n c=some (v,c')∧(n≤0→v=0)∧(0<n→0≤v∧v<n)∧BK c':=by
 unfold Dt;by_cases h0:n≤0
 ·simp only[AX h0,AQ]
  exact⟨_,_,rfl,fun _=>rfl,fun h=>by omega,hc⟩
 ·have hne:decide (n≠0)=true:=AX (by omega)
  simp only[AY h0,AU,hne,AQ];have fin:∀v:Int,0≤v→0≤Int.tmod v n∧Int.tmod v n<n:=fun v hv=>by
   rw[Int.tmod_eq_emod_of_nonneg hv];exact⟨Int.emod_nonneg _ (by omega),Int.emod_lt_of_pos _ (by omega)⟩
  by_cases Lj:n≤256
  ·simp only[AX Lj,AQ]
   obtain⟨v,c',hv,v0,v1,hc'⟩:=GM k c hc;simp only[hv,AR];exact⟨_,_,rfl,fun h=>by omega,fun _=>fin v v0,hc'⟩
  ·simp only[AY Lj,AU]
   obtain⟨v1,c1,hv1,a1,b1,hc1⟩:=GM k c hc;simp only[hv1,AR];obtain⟨v2,c2,hv2,a2,b2,hc2⟩:=GM k c1 hc1;simp only[hv2,AR];obtain⟨v3,c3,hv3,a3,b3,hc3⟩:=GM k c2 hc2;simp only[hv3,AR];obtain⟨v4,c4,hv4,a4,b4,hc4⟩:=GM k c3 hc3;simp only[hv4,AR]
   rw[AV (show -9223372036854775808≤v1*16777216 by omega) (by omega),AV (show -9223372036854775808≤v2*65536 by omega) (by omega),AV (show -9223372036854775808≤v1*16777216+v2*65536 by omega) (by omega),
    AV (show -9223372036854775808≤v3*256 by omega) (by omega),AV (show -9223372036854775808≤v1*16777216+v2*65536+v3*256 by omega) (by omega),AV (show -9223372036854775808≤v1*16777216+v2*65536+v3*256+v4 by omega) (by omega)]
   exact⟨_,_,rfl,fun h=>by omega,fun _=>fin _ (by omega),hc4⟩
theorem Gi(l:List Int)(hl:0<l.length)(hl2:l.length<1000000)(c:Bd)(hc:BK c):∃v c',FO k l c=some (v,c')∧v∈l∧BK c':=by
 unfold FO;obtain⟨v,c',hv,_,h1,hc'⟩:=DC k (l.length:Int) (by omega) c hc;obtain⟨h1,h2⟩:=h1 (by omega);simp only[hv,AR];obtain⟨x,hx,hx2⟩:=Io h1 h2;simp only[hx,AR];exact⟨_,_,rfl,List.mem_of_getElem? hx2,hc'⟩
theorem FJ(n:Int)(hn:n<9223372036854775808)(c:Bd)(hc:BK c):∃v c',Fw k n c=some (v,c')∧BK c':=by
 unfold Fw;obtain⟨v,c',hv,_,_,hc'⟩:=DC k n hn c hc;simp only[hv,AR];exact⟨_,_,rfl,hc'⟩
theorem Nt(t6:Int)(h6:t6≤1000000):∀(m n:Nat) (i:Int) (c:Bd) (acc:List Int),BK c→0≤i→t6-i≤m→m<n→acc.length+m≤4000000→(∀x,x∈acc→0≤x∧x<256)→
 ∃c' out,EY.l4 k n t6 i c acc=some ((),(c',out))∧BK c'∧out.length≤acc.length+m∧∀x,x∈out→0≤x∧x<256:=by
 intro m
 induction m with
 |zero=>
  intro n i c acc hc hi hm hn ha hb;obtain⟨n,rfl⟩:∃j,n=j+1:=⟨n-1,by omega⟩;simp only[EY.l4,AY (show ¬i<t6 by omega),AU];exact⟨_,_,rfl,hc,by omega,hb⟩
 |succ m ih=>
  intro n i c acc hc hi hm hn ha hb;obtain⟨n,rfl⟩:∃j,n=j+1:=⟨n-1,by omega⟩;by_cases h:i<t6
  ·obtain⟨v,c1,hv,v0,v1,hc1⟩:=GM k c hc
   simp only[EY.l4,AX h,AQ,hv,AR];rw[Bc (by simp;omega),AQ,w8 v0 v1,AV (by omega) (by omega)]
   obtain⟨c',out,h1,h2,h3,h4⟩:=ih n (i+1) c1 (acc++[v]) hc1 (by omega) (by omega) (by omega) (by simp;omega) (fun x hx=>by
    rcases List.mem_append.1 hx with hx|hx
    ·exact hb x hx
    ·simp at hx;subst hx;exact⟨v0,v1⟩)
   exact⟨c',out,h1,h2,by simp at h3;omega,h4⟩
  ·simp only[EY.l4,AY h,AU]
   exact⟨_,_,rfl,hc,by omega,hb⟩
theorem NH(most:Nat)(hm:most<900000)(hk:1000000≤k)(c:Bd)(hc:BK c):∃c' out,EY k (most:Int) c=some ((),(c',out))∧BK c'∧out.length≤most∧∀x,x∈out→0≤x∧x<256:=by
 unfold EY;rw[AV (by omega) (by omega)];obtain⟨v,c1,hv,_,h1,hc1⟩:=DC k ((most:Int)+1) (by omega) c hc;obtain⟨h1,h2⟩:=h1 (by omega);simp only[hv,AR];obtain⟨c',out,g1,g2,g3,g4⟩:=Nt k v (by omega) most k 0 c1 [] hc1 (by omega) (by omega) (by omega) (by simp;omega) (by simp);exact⟨c',out,g1,g2,by simpa using g3,g4⟩
theorem NM(most:Nat)(hm:most<900000)(hk:1000000≤k)(c:Bd)(hc:BK c):∃v c',Iu k (most:Int) c=some (v,c')∧BK c'∧v.size≤most:=by
 unfold Iu;obtain⟨c',out,g1,g2,g3,g4⟩:=NH k most hm hk c hc;simp only[g1,AR];exact⟨_,_,rfl,g2,by rw[I9];exact g3⟩
theorem K9(c:Bd)(hc:BK c):∃v c',Ir k c=some (v,c')∧BK c'∧Be v:=by
 unfold Ir;obtain⟨v1,c1,hv1,_,a1,hc1⟩:=DC k 1000000 (by omega) c hc;have a1:=a1 (by omega);simp only[hv1,AR];obtain⟨v2,c2,hv2,_,a2,hc2⟩:=DC k 1000000 (by omega) c1 hc1;have a2:=a2 (by omega);simp only[hv2,AR];obtain⟨v3,c3,hv3,_,a3,hc3⟩:=DC k 300 (by omega) c2 hc2;have a3:=a3 (by omega);simp only[hv3,AR];rw[AV (show -9223372036854775808≤0-v2 by omega) (by omega)];obtain⟨v,c4,hv,hm,hc4⟩:=Gi k [0,1,(-1),63,64,(-64),(-65),127,128,16383,16384,2147483647,(-2147483648),9223372036854775807,(-9223372036854775808),4611686018427387904,v1,0-v2,v3] (by simp) (by simp) c3 hc3;simp only[hv,AR];refine⟨_,_,rfl,hc4,?_⟩;simp only[List.mem_cons,List.not_mem_nil,or_false] at hm;unfold Be;omega
theorem WJ(t:List Int)(ht:t.length≤1048576):∀(m n:Nat) (h i:Int),0≤i→4000-i≤m→m<n→
 ∃c,EZ.l3 k n t h i=some ((),c)∧BK c:=by
 intro m
 induction m with
 |zero=>
  intro n h i hi hm hn;obtain⟨n,rfl⟩:∃j,n=j+1:=⟨n-1,by omega⟩;simp only[EZ.l3,BZ,AY (show ¬i<4000 by omega),Bool.and_false,AR,AU];exact⟨_,rfl,Int.le_refl _,by simp,ht⟩
 |succ m ih=>
  intro n h i hi hm hn;obtain⟨n,rfl⟩:∃j,n=j+1:=⟨n-1,by omega⟩;by_cases hb:i<(t.length:Int)∧i<4000
  ·obtain⟨x,hx,_⟩:=Io hi hb.1
   simp only[EZ.l3,BZ,AX hb.1,AX hb.2,Bool.and_self,AR,AQ,hx];rw[AV (show -9223372036854775808≤i+1 by omega) (by omega)];exact ih n _ (i+1) (by omega) (by omega) (by omega)
  ·have:(decide (i<(t.length:Int))&&decide (i<4000))=false:=by
    rw[Bool.eq_false_iff];intro hh;simp only[CO,Cz] at hh;exact hb hh
   simp only[EZ.l3,BZ,this,AR,AU];exact⟨_,rfl,Int.le_refl _,by simp,ht⟩
theorem WK(hk:1000000≤k)(t:List Int)(ht:t.length≤1048576):∃c,EZ k t=some ((),c)∧BK c:=by
 unfold EZ;exact WJ k t ht 4000 k _ 0 (by omega) (by omega) (by omega)
end Go.A9
end
section
namespace Go.A9
open Go.Am Go.Fn
theorem NN(k:Nat)(c:Bd)(hc:BK c):∃t c',Jv k c=some (t,c')∧BK c':=by
 unfold Jv;obtain⟨v,c1,e1,hc1⟩:=FJ k 25 (by omega) c hc;obtain⟨a,c2,e2,_,hc2⟩:=Gi k [3,4,7,(-1)] (by simp) (by simp) c1 hc1;obtain⟨b,c3,e3,_,hc3⟩:=Gi k [0,1,2,5,6] (by simp) (by simp) c1 hc1;simp only[e1,AR,e2,e3];cases v with
 |true=>exact⟨_,_,rfl,hc2⟩
 |false=>exact⟨_,_,rfl,hc3⟩
end Go.A9
end
section
namespace Go.A9
open Go.Am Go.Fn
variable(k:Nat)
end Go.A9
end
section
namespace Go.A9
open Go.Am Go.Fn
variable(k:Nat)
section
variable(s:List Cv)(hs:s.length≤20)(hn:∀c,c∈s→c.1.size<k∧c.1.size<1000000000∧Be c.2.2.2.1)
include hs hn
end
end Go.A9
end
