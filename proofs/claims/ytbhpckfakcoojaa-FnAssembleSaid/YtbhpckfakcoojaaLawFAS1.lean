/- plain laws of the claim's functions -/
import Derived.Test.YtbhpckfakcoojaaLawFAS0
import Derived.Test.YtbhpckfakcoojaaFASF0
import Derived.KernelRfl
set_option linter.unnecessarySimpa false
set_option linter.unusedSimpArgs false
set_option linter.unusedVariables false
set_option linter.unusedSectionVars false
section
namespace Go.BA
open Go.Am Go.Fn
def Lk:List Ev→List zO→Prop
 |[],[]=>True
 |e::es,t::ts=>(t.1=e.rep∧t.2.1=e.zA∧(e.leaf=true→t.2.2.1=e.v))∧Lk es ts
 |_,_=>False
theorem Lk.append:∀{es fs:List Ev} {ts us:List zO},Lk es ts→Lk fs us→Lk (es++fs) (ts++us)
 |[],fs,[],us,_,h=>h
 |e::es,fs,t::ts,us,h,g=>⟨h.1,Lk.append h.2 g⟩
 |[],_,_::_,_,h,_=>h.elim
 |_::_,_,[],_,h,_=>h.elim
theorem Lu{T:Ai}{pos q:List Nat}{j:Nat}{rep zA:Int}{v:zB}(hp:Au T pos)(h:tk T rep zA pos j=some (v,q)):∃t,cur T pos j=t::cur T q j∧t.1=rep∧t.2.1=zA∧t.2.2.1=v∧Au T q∧∀i,i≠j→cur T q i=cur T pos i:=by
 have h0:=h;unfold tk at h;split at h
 ·cases h
 ·rename_i t ht
  split at h
  ·rename_i hh
   simp only[zX,Prod.mk.injEq] at h;obtain⟨hv,_⟩:=h;obtain⟨x,p,e1,e2,e3,e4,e5,_⟩:=FW h0 hp;rw[TA] at ht;cases hc:cur T pos j with
   |nil=>rw[hc] at ht;cases ht
   |cons y r=>
    rw[hc] at ht;simp only[List.head?_cons,zX] at ht;subst ht;refine⟨y,?_,hh.1,hh.2,hv,e5.ok,fun i hi=> ?_⟩
    ·have hc1:cur T pos j=x.drop p:=by unfold cur;rw[e1,e2]
     have hc2:cur T q j=x.drop (p+1):=by
      unfold cur;rw[e1,e4,List.getElem?_set_self (List.getElem?_eq_some_iff.1 e2).1]
     rw[hc2,←List.drop_drop,←hc1,hc];rfl
    ·unfold cur
     rw[e4,List.getElem?_set_ne (fun hh=>hi hh.symm)]
  ·cases h
def EZ(s:List zC)(T:Ai)(a nx:Nat)(X:List Ev)(pos q:List Nat):Prop:=
 Au T q∧(∀L,JM s a nx L→∃ts,cur T pos (zI s L)=ts++cur T q (zI s L)∧Lk (BP L X) ts)∧Same s T pos q a nx
theorem EZ.trans{s:List zC}{T:Ai}{a nx:Nat}{X Y:List Ev}{pos p q:List Nat}(h:EZ s T a nx X pos p)(g:EZ s T a nx Y p q):EZ s T a nx (X++Y) pos q:=by
 refine⟨g.1,fun L hL=> ?_,h.2.2.trans g.2.2⟩;obtain⟨ts,t1,t2⟩:=h.2.1 L hL;obtain⟨us,u1,u2⟩:=g.2.1 L hL;exact⟨ts++us,by rw[t1,u1,BC],by rw[Ig];exact t2.append u2⟩
def H7(s:List zC)(T:Ai)(a nx:Nat)(C:List zB→Ar)(r:List Nat→AR):Prop:=∀pos Y q l W X W',r pos=some (Y,q,l)→Au T pos→C (Y++W)=some (X,W')→W'=W∧EZ s T a nx X pos q
theorem Jt{s:List zC}{T:Ai}{a nx:Nat}(hnx:nx≤s.length)(rep zA:Int):∀(n i:Nat) (pos q:List Nat),i+n=nx→a≤i→Au T pos→Dj T rep zA (zI s nx-zI s i) (zI s i) pos=some q→EZ s T i nx (AY s rep zA n i) pos q
 |0,i,pos,q,hi,ha,hp,h=>by
  obtain rfl:i=nx:=by omega
  rw[Nat.sub_self] at h;simp only[Dj,zX] at h;subst h;exact⟨hp,fun L hL=>by have:=hL.1;have:=hL.2.1;omega,fun j _=>rfl⟩
 |n+1,i,pos,q,hi,ha,hp,h=>by
  obtain⟨c,hc⟩:∃c,s[i]?=some c:=⟨s[i],Av (by omega)⟩;have hrange:∀e,e∈AY s rep zA n (i+1)→i+1≤e.at_:=by
   have:∀(n i:Nat) (e:Ev),e∈AY s rep zA n i→i≤e.at_:=by
    intro n
    induction n with
    |zero=>intro i e he;cases he
    |succ n ih=>
     intro i e he;simp only[AY] at he;rcases List.mem_append.1 he with he|he
     ·split at he
      ·cases he
      ·split at he
       ·cases he
       ·rw[List.mem_singleton] at he
        subst he;exact Nat.le_refl _
     ·have:=ih (i+1) e he
      omega
   exact this n (i+1)
  by_cases h7:c.2.1=7
  ·rw[←Fx hc h7] at h
   obtain⟨k1,k2,k3⟩:=Jt (a:=a) hnx rep zA n (i+1) pos q (by omega) (by omega) hp h;refine⟨k1,fun L hL=> ?_,k3.sub (by omega) (Nat.le_refl _)⟩;rcases Nat.eq_or_lt_of_le hL.1 with rfl|hl
   ·obtain⟨_,_,c',hc',Fu⟩:=hL
    rw[hc] at hc';cases hc';exact absurd h7 Fu
   ·obtain⟨ts,t1,t2⟩:=k2 L ⟨by omega,hL.2.1,hL.2.2⟩
    refine⟨ts,t1,?_⟩;simp only[AY,hc,h7,if_pos,List.nil_append];exact t2
  ·have hle:=EL s (show i+1≤nx by omega)
   rw[Ec hc h7] at hle;rw[show zI s nx-zI s i=(zI s nx-(zI s i+1))+1 by omega] at h;simp only[Dj] at h;split at h
   ·cases h
   ·rename_i v p hk
    obtain⟨t,t1,t2,t3,_,t5,t6⟩:=Lu hp hk;rw[←Ec hc h7] at h;obtain⟨k1,k2,k3⟩:=Jt (a:=a) hnx rep zA n (i+1) p q (by omega) (by omega) t5 h;refine⟨k1,fun L hL=> ?_,fun j hj=> ?_⟩
    ·simp only[AY,hc,if_neg h7]
     rw[Ig];rcases Nat.eq_or_lt_of_le hL.1 with rfl|hl
     ·rw[Ih (X:=AY s rep zA n (i+1)) (fun e he=>by have:=hrange e he;omega),AZ]
      refine⟨[t],?_,?_⟩
      ·rw[t1,k3.at ⟨c,hc,h7⟩ (.inl (by omega))];rfl
      ·rw[show BP i [(⟨i,false,rep,zA,zv⟩:Ev)]=[⟨i,false,rep,zA,zv⟩] by simp[BP]]
       exact⟨⟨t2,t3,fun hh=>by cases hh⟩,trivial⟩
     ·obtain⟨ts,u1,u2⟩:=k2 L ⟨by omega,hL.2.1,hL.2.2⟩
      obtain⟨_,_,c',hc',Fu⟩:=hL;refine⟨ts,?_,?_⟩
      ·rw[←u1,t6 _ (fun hh=>by have:=G7 hc' hc Fu h7 hh;omega)]
      ·rw[show BP L [(⟨i,false,rep,zA,zv⟩:Ev)]=[] from Ih (fun e he=>by rw[List.mem_singleton] at he;subst he;show i≠L;omega),List.nil_append]
       exact u2
    ·rw[k3 j (fun L hL=>hj L ⟨by have:=hL.1;omega,hL.2.1,hL.2.2⟩),t6 j (fun hh=>hj i ⟨Nat.le_refl _,by omega,c,hc,h7⟩ hh.symm)]
theorem KR{s:List zC}{T:Ai}{a nx j:Nat}{F:List zB→Ar}{C:List Nat→AR}{deep:Int}(hB:H7 s T a nx F C):∀(f n:Nat) (pos q:List Nat) (Y:List zB) (l:Bool) (W:List zB) (X:List Ev) (W':List zB),CR T j deep C f pos=some (n,Y,q,l)→Au T pos→Cb F n (Y++W)=some (X,W')→W'=W∧EZ s T a nx X pos q
 |0,n,pos,q,Y,l,W,X,W',h,hp,he=>by cases h
 |f+1,n,pos,q,Y,l,W,X,W',h,hp,he=>by
  have FX:some (0,([]:List zB),pos,false)=some (n,Y,q,l)→W'=W∧EZ s T a nx X pos q:=by
   intro h;simp only[zX,Prod.mk.injEq] at h;obtain⟨rfl,rfl,rfl,rfl⟩:=h;simp only[Cb,List.nil_append,zX,Prod.mk.injEq] at he;obtain⟨rfl,rfl⟩:=he;exact⟨rfl,hp,fun L _=>⟨[],rfl,by simp[BP,Lk]⟩,fun j _=>rfl⟩
  simp only[CR] at h;split at h
  ·exact FX h
  ·split at h
   ·split at h
    ·cases h
    ·rename_i x p l1 hx
     split at h
     ·cases h
     ·rename_i n1 y q1 m hy
      simp only[zX,Prod.mk.injEq] at h;obtain⟨rfl,rfl,rfl,rfl⟩:=h;simp only[Cb] at he;rw[BC] at he;obtain⟨x1,y1,U,g1,g2,rfl⟩:=DF he;obtain⟨rfl,k⟩:=hB pos x p l1 (y++W) x1 U hx hp g1;obtain⟨rfl,k'⟩:=KR hB f n1 p q1 y m W y1 W' hy k.1 g2;exact⟨rfl,k.trans k'⟩
   ·exact FX h
theorem TG{s:List zC}{T:Ai}{a nx:Nat}(hnx:nx≤s.length)(UE:a≤nx){C:Int→Int→Int→List zB→Ar}{A:Int→Int→Int→List Nat→AR}(hB:∀rep zA deep,H7 s T a nx (C rep zA deep) (A rep zA deep))(rep zA deep:Int):
 H7 s T a nx (AL s C nx a rep zA deep) (CJ T s A nx a rep zA deep):=by
 intro pos Y q l W X W' h hp he;unfold CJ at h;unfold AL at he;split at h
 ·cases h
 ·rename_i c hc
  rw[hc] at he;simp only at he;split at h
  ·rename_i h0
   rw[if_pos h0] at he;exact hB rep zA deep pos Y q l W X W' h hp he
  ·rename_i h0
   rw[if_neg h0] at he;split at h
   ·cases h
   ·rename_i t ht
    split at h
    ·split at h
     ·cases h
     ·rename_i q' hq
      simp only[zX,Prod.mk.injEq] at h;obtain⟨rfl,rfl,rfl⟩:=h;have Sv:BJ zv 20=false:=by simp[BJ,zv,jk]
      have hz1:BJ zv 1=false:=by simp[BJ,zv,jk]
      simp only[List.cons_append,List.nil_append,hz1,Sv,if_neg (show ¬(false=true) by decide),if_pos (show zv.1=0 from rfl),ite_self] at he;simp only[zX,Prod.mk.injEq] at he;obtain⟨rfl,rfl⟩:=he;exact⟨rfl,Jt (a:=a) hnx rep zA (nx-a) a pos q' (by omega) (Nat.le_refl _) hp hq⟩
    ·split at h
     ·rename_i h2
      split at h
      ·cases h
      ·rename_i x p l1 hx
       split at h
       ·cases h
       ·rename_i n y q1 m hy
        simp only[zX,Prod.mk.injEq] at h;obtain⟨rfl,rfl,rfl⟩:=h;simp only[List.cons_append] at he;rw[if_pos h2] at he;split at he
        ·cases he
        ·rw[if_neg (show ¬((n+1:Nat):Int)=0 by omega),show(((n+1:Nat):Int)).toNat-1=n by rw[Int.toNat_natCast];omega,BC] at he
         obtain⟨x1,y1,U,g1,g2,rfl⟩:=DF he;obtain⟨rfl,k⟩:=hB _ _ _ pos x p l1 (y++W) x1 U hx hp g1;obtain⟨rfl,k'⟩:=KR (hB _ _ _) 3000 n p q1 y m W y1 W' hy k.1 g2;exact⟨rfl,k.trans k'⟩
     ·rename_i h2
      split at h
      ·cases h
      ·rename_i x p l1 hx
       simp only[zX,Prod.mk.injEq] at h;obtain⟨rfl,rfl,rfl⟩:=h;simp only[List.cons_append] at he;rw[if_neg h2] at he;split at he
       ·cases he
       ·rw[if_neg (show ¬(1:Int)=0 by omega)] at he
        exact hB _ _ _ pos x p l1 W X W' hx hp he
theorem Kc{s:List zC}{T:Ai}:∀(d a nx:Nat),d≤6→zY s d a nx→nx≤s.length→∀(rep zA deep:Int),H7 s T a nx (Ae s d a rep zA deep) (aC T s d a rep zA deep)
 |0,_,_,_,h,_,_,_,_=>h.elim
 |d+1,a,nx,hd,h,hnx,rep,zA,deep=>by
  intro pos Y q l W X W' hr hp he;have hlt:=z_ _ _ _ h;obtain⟨c,hc,hco,_,Ad⟩:=h;simp only[Ae,hc] at he;simp only[aC,hc] at hr;split at hr
  ·rename_i h7
   rw[if_pos h7] at he
   have key:∀(m pl:Nat) (names:List ByteArray) (pos q:List Nat) (Y:List zB) (l:Bool) (W:List zB) (X:List Ev) (W':List zB),BX (zY s d) s m pl names nx→a+1≤pl→
    CY (fun a pos=>CJ T s (aC T s d a) (Aa s d a) a rep zA deep pos) (Aa s d) m pl pos=some (Y,q,l)→Au T pos→jm (fun a V=>AL s (Ae s d a) (Aa s d a) a rep zA deep V) (Aa s d) m pl (Y++W)=some (X,W')→W'=W∧EZ s T pl nx X pos q:=by
    intro m
    induction m with
    |zero=>
     intro pl names pos q Y l W X W' Ad h1 hr hp he;have Ad:pl=nx:=Ad;simp only[CY,zX,Prod.mk.injEq] at hr;obtain⟨rfl,rfl,rfl⟩:=hr;simp only[jm,List.nil_append,zX,Prod.mk.injEq] at he;obtain⟨rfl,rfl⟩:=he;exact⟨rfl,hp,fun L hL=>by have:=hL.1;have:=hL.2.1;omega,fun j _=>rfl⟩
    |succ m ih=>
     intro pl names pos q Y l W X W' Ad h1 hr hp he;have UI:=Ad;obtain⟨cp,mid,hcp,q2,q3,q4⟩:=Ad;have hmn:=CX (z_ d) _ _ _ _ q4;have hlt':=z_ _ _ _ q3;have hend:Aa s d pl=mid:=Dw d q3 d (Nat.le_refl _);simp only[CY,FI] at hr;split at hr
     ·cases hr
     ·rename_i x p l1 hx
      split at hr
      ·cases hr
      ·rename_i y q1 m1 hy
       simp only[zX,Prod.mk.injEq] at hr;obtain⟨rfl,rfl,rfl⟩:=hr;simp only[jm] at he;rw[BC] at he;obtain⟨x1,y1,U,g1,g2,rfl⟩:=DF he;rw[hend] at hx hy g1 g2;obtain⟨rfl,k⟩:=TG (T:=T) (by omega) (by omega) (C:=Ae s d pl) (A:=aC T s d pl) (fun rep zA deep=>Kc d pl mid (by omega) q3 (by omega) rep zA deep) rep zA deep pos x p l1 (y++W) x1 U hx hp g1;obtain⟨rfl,k'⟩:=ih mid _ p q1 y m1 W y1 W' q4 (by omega) hy k.1 g2;have hrange:∀e,e∈x1→pl≤e.at_∧e.at_<mid:=fun e he=>by
        obtain⟨r1,r2,_⟩:=Ii (by omega) q3 (fun rep zA deep V=>Gj d pl mid (by omega) q3 rep zA deep V) rep zA deep _ x1 _ g1 e he;exact⟨r1,r2⟩
       have Su:∀e,e∈y1→mid≤e.at_∧e.at_<nx:=TH (by omega) q4 g2;refine⟨rfl,k'.1,fun L hL=> ?_,(k.2.2.sub (Nat.le_refl _) hmn).trans (k'.2.2.sub (by omega) (Nat.le_refl _))⟩;rw[Ig];rcases Nat.lt_or_ge L mid with hl|hl
       ·obtain⟨ts,t1,t2⟩:=k.2.1 L ⟨hL.1,hl,hL.2.2⟩
        refine⟨ts,by rw[t1,k'.2.2.at hL.2.2 (.inl hl)],?_⟩;rw[Ih (X:=y1) (fun e he=>by have:=Su e he;omega),AZ];exact t2
       ·obtain⟨ts,t1,t2⟩:=k'.2.1 L ⟨hl,hL.2.1,hL.2.2⟩
        refine⟨ts,by rw[←k.2.2.at hL.2.2 (.inr hl),t1],?_⟩;rw[Ih (X:=x1) (fun e he=>by have:=hrange e he;omega),List.nil_append];exact t2
   obtain⟨r1,r2⟩:=key c.2.2.2.1.toNat (a+1) [] pos q Y l W X W' Ad (Nat.le_refl _) hr hp he;refine⟨r1,r2.1,fun L hL=> ?_,r2.2.2.sub (by omega) (Nat.le_refl _)⟩;rcases Nat.eq_or_lt_of_le hL.1 with rfl|hl
   ·obtain⟨_,_,c',hc',Fu⟩:=hL
    rw[hc] at hc';cases hc';exact absurd h7 Fu
   ·exact r2.2.1 L ⟨by omega,hL.2.1,hL.2.2⟩
  ·rename_i h7
   rw[if_neg h7] at he;split at hr
   ·cases hr
   ·rename_i v q' hq
    simp only[zX,Prod.mk.injEq] at hr;obtain⟨rfl,rfl,rfl⟩:=hr;simp only[List.cons_append,List.nil_append] at he;split at he
    ·simp only[zX,Prod.mk.injEq] at he
     obtain⟨rfl,rfl⟩:=he;have hm0:c.2.2.2.1.toNat=0:=by
      unfold AX at hco;rw[zS h7] at hco;simp at hco;omega
     rw[hm0] at Ad;have Ad:a+1=nx:=Ad;subst Ad;obtain⟨t,t1,t2,t3,t4,t5,t6⟩:=Lu hp hq;refine⟨rfl,t5,fun L hL=> ?_,fun j hj=>t6 j (fun hj2=>hj a ⟨Nat.le_refl _,by omega,c,hc,h7⟩ hj2.symm)⟩;have:L=a:=by have:=hL.1;have:=hL.2.1;omega
     subst this;refine⟨[t],t1,?_⟩;rw[show BP L [(⟨L,true,rep,zA,v⟩:Ev)]=[⟨L,true,rep,zA,v⟩] by simp[BP]];exact⟨⟨t2,t3,fun _=>t4⟩,trivial⟩
    ·cases he
abbrev ip(pos:List Nat):List Int:=pos.map fun n:Nat=>(n:Int)
theorem Et{pos:List Nat}{j p:Nat}(h:pos[j]?=some p):gI (ip pos) (j:Int)=some (p:Int):=by
 rw[Ak,List.getElem?_map,h];rfl
theorem KO(pos:List Nat)(j p:Nat):(ip pos).set j (p:Int)=ip (pos.set j p):=by
 unfold ip;rw[List.map_set]
abbrev Ab(x:List zO):zJ:=(x,())
theorem DY{T:Ai}{j:Nat}{x:List zO}(h:T[j]?=some x):gI (T.map Ab) (j:Int)=some (x,()):=by
 rw[Ak,List.getElem?_map,h];rfl
def Room(d:Nat)(vals:List zB)(pos:List Nat):Prop:=vals.length+280000+d≤1000000+7*pos.sum
theorem Lr:∀(l:List Nat) (m:Nat),(∀x,x∈l→x≤m)→l.sum≤m*l.length
 |[],m,_=>by simp
 |a::l,m,h=>by
  have h1:=h a (List.mem_cons_self ..);have h2:=Lr l m (fun x hx=>h x (List.mem_cons_of_mem _ hx));simp only[List.sum_cons,Ct,Nat.mul_add,Nat.mul_one];omega
theorem IP{T:Ai}{pos:List Nat}(hp:Au T pos)(hT:T.length≤20)(wV:∀x,x∈T→x.length≤2000):pos.sum≤40000:=by
 have h:=Lr pos 2000 (fun x hx=>by
  obtain⟨j,hj,rfl⟩:=List.getElem_of_mem hx;have hl:=hp.1;have KF:j<T.length:=by omega
  have:=hp.2 j _ _ (Av hj) (Av KF);have:=wV _ (List.getElem_mem KF);omega)
 have hl:=hp.1;have:2000*pos.length≤2000*20:=Nat.mul_le_mul_left _ (by omega);omega
theorem Room.lim{d n:Nat}{vals:List zB}{pos:List Nat}(h:Room d vals pos)(hs:pos.sum≤40000)(hn:n≤10):lim (vals.length+n)=true:=by
 unfold Room at h;exact Cm (by omega)
theorem Room.more{d m:Nat}{vals Y:List zB}{pos q:List Nat}(h:Room d vals pos)(hs:pos.sum≤q.sum)(hY:Y.length+m*pos.sum≤m*q.sum)(hm:m≤7):Room d (vals++Y) q:=by
 unfold Room at*;rw[A8];have h1:Y.length≤7*(q.sum-pos.sum):=by
  have h2:Y.length≤m*(q.sum-pos.sum):=by rw[Nat.mul_sub];omega
  exact Nat.le_trans h2 (Nat.mul_le_mul_right _ hm)
 omega
theorem Room.one{d:Nat}{vals:List zB}{pos:List Nat}(h:Room (d+1) vals pos)(v:zB):Room d (vals++[v]) pos:=by
 unfold Room at*;rw[A8,Co];omega
theorem Room.le{d e:Nat}{vals:List zB}{pos:List Nat}(h:Room d vals pos)(he:e≤d):Room e vals pos:=by
 unfold Room at*;omega
section
variable(k:Nat)(s:List zC)(hs:s.length≤20)(hn:∀c,c∈s→c.1.size<k∧c.1.size<1000000000∧AB c.2.2.2.1)(hk:2000000≤k)
variable(T:Ai)(hT:T.length=zI s s.length)(wV:∀x,x∈T→x.length≤2000)
include hs hn hk hT wV
theorem Ia:T.length≤20:=by
 have:=Ep s s.length;omega
theorem E_{pos:List Nat}(hp:Au T pos){j:Nat}(hj:j<zI s s.length):∃x p,T[j]?=some x∧pos[j]?=some p∧p≤x.length∧x.length≤2000:=by
 have h1:j<T.length:=by omega
 have h2:j<pos.length:=by have:=hp.1;omega
 exact⟨_,_,Av h1,Av h2,hp.2 j _ _ (Av h2) (Av h1),wV _ (List.getElem_mem h1)⟩
theorem Lp{pos:List Nat}(hp:Au T pos){j:Nat}(hj:j<zI s s.length)(rep zA:Int):
 Hu k (T.map Ab) (j:Int) rep zA (ip pos)=some (match tk T rep zA pos j with
  |none=>(false,ip pos)
  |some (_,q)=>(true,ip q)):=by
 obtain⟨x,p,h1,h2,h3,h4⟩:=E_ k s hs hn hk T hT wV hp hj;have hx:Bj T pos j=x[p]?:=by unfold Bj;rw[h1,h2]
 have hpw:IntKind.wrap .i64 ((p:Int)+1)=((p+1:Nat):Int):=by rw[zP (by omega) (by omega)];omega
 have hgd:pos.getD j 0=p:=by rw[List.getD_eq_getElem?_getD,h2];rfl
 unfold Hu tk;rw[hx,Et h2,DY h1];simp only[zD,hpw,hgd];by_cases hlt:p<x.length
 ·have hg:x[p]?=some x[p]:=Av hlt
  rw[zN (by omega),zG,Ak,hg];simp only[zD];by_cases c1:(x[p]).1=rep
  ·rw[Ba c1,zG]
   simp only[zD];by_cases c2:(x[p]).2.1=zA
   ·rw[Ba c2,zG,if_pos ⟨c1,c2⟩]
    simp only[zD,Int.toNat_natCast,KO]
   ·rw[Br c2,zF,if_neg (fun q=>c2 q.2)]
  ·rw[Br c1,zF,if_neg (fun q=>c1 q.1)]
   simp only[zD,zF]
 ·have hg:x[p]?=none:=List.getElem?_eq_none (by omega)
  rw[zM (by omega),zF,hg];simp only[zD,zF]
def FS(r:Option ((Unit×Bool)×(List Int)×(List zB)))(vals:List zB)(a:AR):Prop:=match a with
 |none=>∃p v,r=some (((),false),(p,v))
 |some (Y,q,_)=>r=some (((),true),(ip q,vals++Y))
theorem Ud{d a e:Nat}(h:zY s d a e)(hd:d≤6)(he:e≤s.length)(rep zA:Int)(vals:List zB):∀(n j f:Nat) (pos:List Nat),j+n=zI s e→n<f→Au T pos→
 FS (Bh.l10 k f s (a:Int) (T.map Ab) rep zA (j:Int) (ip pos) vals) vals (match Dj T rep zA n j pos with
  |none=>none
  |some q=>some ([],q,false)):=by
 have Cx:=FO k s hs hn (by omega) h hd he;have hle:=EL s he;intro n
 induction n with
 |zero=>
  intro j f pos hj hf hp;obtain⟨f,rfl⟩:∃q,f=q+1:=⟨f-1,by omega⟩;simp only[Bh.l10,Cx,zD,FV k s hs hk e he,zN (show ¬((j:Int)<(zI s e:Int)) by omega),zG,Dj,FS,AZ]
 |succ n ih=>
  intro j f pos hj hf hp;obtain⟨f,rfl⟩:∃q,f=q+1:=⟨f-1,by omega⟩;have hl:=Ep s e;have hj1:IntKind.wrap .i64 ((j:Int)+1)=((j+1:Nat):Int):=by rw[zP (by omega) (by omega)];omega
  simp only[Bh.l10,Cx,zD,FV k s hs hk e he,zM (show(j:Int)<(zI s e:Int) by omega),zF,Lp k s hs hn hk T hT wV hp (show j<zI s s.length by omega),Dj];cases htk:tk T rep zA pos j with
  |none=>exact⟨_,_,rfl⟩
  |some r=>
   obtain⟨v,q⟩:=r;obtain⟨_,_,_,_,_,_,a1,_⟩:=FW htk hp;simp only[Ah,zG,hj1];exact ih (j+1) f q (by omega) (by omega) a1.ok
theorem Uj(S:(List zC)→Int→(List zJ)→Int→Int→Int→(List Int)→(List zB)→Option ((Unit×Bool)×(List Int)×(List zB)))(a m:Nat)(hm:m≤7)(c:zC)(hc:s[a]?=some c)(h2:c.2.2.1=2)(hj:zI s a<zI s s.length)(C:List Nat→AR)(hC:∀pos,EW T (zI s a) m pos (C pos))(zA deep:Int)(hd1:IntKind.wrap .i64 (zA+1)=zA+1)
 (hS:∀pos vals,Au T pos→Room m vals pos→FS (S s (a:Int) (T.map Ab) deep (zA+1) deep (ip pos) vals) vals (C pos)) (FD:List zB):
 ∀(N f f2 n:Nat) (pos:List Nat) (Y0:List zB) (p:Nat),pos[zI s a]?=some p→2000-p≤N→p≤2000→N<f→N<f2→n+N≤100000→Au T pos→(∀cnt:Int,Room m (FD++(cnt,zR,())::Y0) pos)→
  match CR T (zI s a) deep C f2 pos with
  |none=>∃p v,Bh.EJ k S f s (a:Int) (T.map Ab) deep zA deep (zI s a:Int) (FD.length:Int) (match Bj T pos (zI s a) with|none=>false|some t=>t.1==deep) (ip pos) (FD++((n:Int),zR,())::Y0)=some (((),false),(p,v))
  |some (i,Y,q,_)=>Bh.EJ k S f s (a:Int) (T.map Ab) deep zA deep (zI s a:Int) (FD.length:Int) (match Bj T pos (zI s a) with|none=>false|some t=>t.1==deep) (ip pos) (FD++((n:Int),zR,())::Y0)=some (((),true),(ip q,FD++(((n+i:Nat):Int),zR,())::(Y0++Y))):=by
 intro N
 induction N with
 |zero=>
  intro f f2 n pos Y0 p hp hN hp2 hf hf2 Jl hpo hroom;obtain⟨f,rfl⟩:∃q,f=q+1:=⟨f-1,by omega⟩;obtain⟨f2,rfl⟩:∃q,f2=q+1:=⟨f2-1,by omega⟩;have hno:Bj T pos (zI s a)=none:=by
   obtain⟨x,p',g1,g2,g3,g4⟩:=E_ k s hs hn hk T hT wV hpo hj;rw[hp] at g2;cases g2;unfold Bj;rw[g1,hp];exact List.getElem?_eq_none (by omega)
  simp only[CR,hno,Bh.EJ,zG,AZ,Nat.add_zero]
 |succ N ih=>
  intro f f2 n pos Y0 p hp hN hp2 hf hf2 Jl hpo hroom;obtain⟨f,rfl⟩:∃q,f=q+1:=⟨f-1,by omega⟩;obtain⟨f2,rfl⟩:∃q,f2=q+1:=⟨f2-1,by omega⟩;simp only[CR];cases hno:Bj T pos (zI s a) with
  |none=>simp only[Bh.EJ,zG,AZ,Nat.add_zero]
  |some t=>
   simp only;by_cases ht:t.1=deep
   ·rw[if_pos ht,Al ht]
    have hcnt:IntKind.wrap .i64 ((n:Int)+1)=((n+1:Nat):Int):=by rw[zP (by omega) (by omega)];omega
    have hs':=hS pos (FD++(((n+1:Nat):Int),zR,())::Y0) hpo (hroom _);simp only[Bh.EJ,zF,DI,zD,Hq,hcnt,hd1];cases BQ:C pos with
    |none=>
     rw[BQ] at hs';obtain⟨p1,v1,e⟩:=hs';simp only[e,zD,Bf,zF];exact⟨_,_,rfl⟩
    |some r=>
     obtain⟨x,q,l⟩:=r;rw[BQ] at hs';have e:S s (a:Int) (T.map Ab) deep (zA+1) deep (ip pos) (FD++(((n+1:Nat):Int),zR,())::Y0)=some (((),true),(ip q,(FD++(((n+1:Nat):Int),zR,())::Y0)++x)):=hs';obtain⟨a1,a2,pa,pb,a3,a4,a5⟩:=hC pos _ _ _ BQ hpo;rw[hp] at a3;cases a3;obtain⟨xr,pb',g1,g2,g3,g4⟩:=E_ k s hs hn hk T hT wV a1.ok hj;rw[a4] at g2;cases g2;have hmore:(cond (decide ((pb:Int)<(xr.length:Int))) ((gI (T.map Ab) (zI s a:Int)).bind fun y9=>(gI (ip q) (zI s a:Int)).bind fun Gf=>(gI y9.1 Gf).bind fun FE=>some (FE.1==deep)) (some false))=some (match Bj T q (zI s a) with|none=>false|some t=>t.1==deep):=by
      have hx:Bj T q (zI s a)=xr[pb]?:=by unfold Bj;rw[g1,a4]
      rw[hx];by_cases hlt:pb<xr.length
      ·rw[zM (by omega),zF,DY g1,Et a4]
       simp only[zD,Ak,Av hlt]
      ·rw[zN (by omega),zG,List.getElem?_eq_none (by omega)]
     simp only[e,zD,Ah,zG,(show gI s (a:Int)=some c from hc),Al h2,zF,Et a4,DY g1,BC,List.cons_append];rw[DY g1,Et a4] at hmore;simp only[zD] at hmore;rw[hmore];simp only[zD]
     have hi:=ih f f2 (n+1) q (Y0++x) pb a4 (by omega) (by omega) (by omega) (by omega) (by omega) a1.ok (fun cnt=>by
      have:=Room.more (hroom cnt) a1.sum a2 hm;rw[BC,List.cons_append] at this;exact this)
     cases hrep:CR T (zI s a) deep C f2 q with
     |none=>
      rw[hrep] at hi;exact hi
     |some r2=>
      obtain⟨i,Y,q2,l2⟩:=r2;rw[hrep] at hi;simp only at hi⊢;rw[hi,BC,show n+1+i=n+(i+1) by omega]
   ·rw[if_neg ht,zS ht]
    simp only[Bh.EJ,zG,AZ,Nat.add_zero]
theorem Uf(d D a e:Nat)(hd:d≤6)(he:e≤s.length)(hsub:zY s d a e)(C:Int→Int→Int→List Nat→AR)(c:zC)(hc:s[a]?=some c)(hr:c.2.2.1=0∨c.2.2.1=1∨c.2.2.1=2)(hG:∀r q p pos,EW T (zI s a) d pos (C r q p pos))
 (hC:∀(rep zA deep:Int) (pos:List Nat) (vals:List zB),Au T pos→0≤zA→zA+d≤1001→0≤deep→deep+d≤1001→Room d vals pos→FS ((AP.rec k D).1 s (a:Int) (T.map Ab) rep zA deep (ip pos) vals) vals (C rep zA deep pos))
 (rep zA deep:Int) (pos:List Nat) (vals:List zB) (hp:Au T pos) (b0:0≤zA) (b1:zA+1+d≤1001) (b2:0≤deep) (b3:deep+1+d≤1001) (hroom:Room (d+1) vals pos):
 FS ((AP.rec k (D+1)).2 s (a:Int) (T.map Ab) rep zA deep (ip pos) vals) vals (CJ T s C e a rep zA deep pos):=by
 have hd1:IntKind.wrap .i64 (zA+1)=zA+1:=zP (by omega) (by omega);have hq1:IntKind.wrap .i64 (deep+1)=deep+1:=zP (by omega) (by omega);have hlt:=z_ _ _ _ hsub;have hlp:=G8 hsub;have hle:=EL s he;have hj:zI s a<zI s s.length:=by omega
 have hsum:=IP hp (Ia k s hs hn hk T hT wV) wV;simp only[AP.rec,Bh.b,Ak,hc,zD,CJ];by_cases h0:c.2.2.1=0
 ·rw[Al h0,zF,if_pos h0]
  have:=hC rep zA deep pos vals hp b0 (by omega) b2 (by omega) (hroom.le (by omega));cases BQ:C rep zA deep pos with
  |none=>
   rw[BQ] at this;obtain⟨p1,v1,e⟩:=this;rw[e];exact⟨_,_,rfl⟩
  |some r=>
   obtain⟨Y,q,l⟩:=r;rw[BQ] at this;have e:(AP.rec k D).1 s (a:Int) (T.map Ab) rep zA deep (ip pos) vals=some (((),true),(ip q,vals++Y)):=this;rw[e];rfl
 ·rw[zS h0,zG,if_neg h0]
  obtain⟨x,p,g1,g2,g3,g4⟩:=E_ k s hs hn hk T hT wV hp hj;have hx:Bj T pos (zI s a)=x[p]?:=by unfold Bj;rw[g1,g2]
  simp only[FV k s hs hk a (by omega),zD,Et g2,DY g1];rw[hx];by_cases hpl:p<x.length
  ·rw[zN (by omega),zG,Cm (by have:=Room.lim hroom hsum (show 1≤10 by omega);unfold lim at this;have:=Nat.le_of_ble_eq_true this;simpa using this),zF,Av hpl]
   simp only[Ak,Av hpl,zD,List.getElem?_map,g1,Option.map_some];by_cases hdf:(x[p]).2.1≤zA
   ·rw[zM hdf,zF,if_pos hdf]
    have:=Ud k s hs hn hk T hT wV hsub hd he rep zA (vals++[(0,zR,())]) (zI s e-zI s a) (zI s a) k pos (by omega) (by have:=Ep s e;omega) hp;cases xx:Dj T rep zA (zI s e-zI s a) (zI s a) pos with
    |none=>rw[xx] at this;exact this
    |some q=>
     rw[xx] at this;have this:Bh.l10 k k s (a:Int) (T.map Ab) rep zA (zI s a:Int) (ip pos) (vals++[(0,zR,())])=some (((),true),(ip q,(vals++[(0,zR,())])++[])):=this;rw[AZ] at this;exact this
   ·rw[zN hdf,zG,if_neg hdf]
    simp only[Ak,hc,zD,Bh.c17];by_cases h2:c.2.2.1=2
    ·rw[Al h2,zF,if_pos h2,hq1]
     have hs':=hC rep (zA+1) (deep+1) pos (vals++[((1:Int),zR,())]) hp (by omega) (by omega) (by omega) (by omega) (hroom.one _);have hset:∀v:zB,List.set (vals++[v]) (Int.toNat (vals.length:Int)) ((1:Int),zR,())=vals++[((1:Int),zR,())]:=fun v=>Hq vals [] v _;have hget:∀v:zB,gI (vals++[v]) (vals.length:Int)=some v:=fun v=>DI vals [] v;have h01:IntKind.wrap .i64 ((0:Int)+1)=1:=by decide
     conv=>arg 1;arg 3;rw[show k=(k-1)+1 by omega]
     simp only[Bh.EJ,zF,hget,zD,hset,h01,hd1];cases BQ:C rep (zA+1) (deep+1) pos with
     |none=>
      rw[BQ] at hs';obtain⟨p1,v1,e⟩:=hs';simp only[e,zD,Bf,zF];exact⟨_,_,rfl⟩
     |some r=>
      obtain⟨y,q,l⟩:=r;rw[BQ] at hs';have e:(AP.rec k D).1 s (a:Int) (T.map Ab) rep (zA+1) (deep+1) (ip pos) (vals++[((1:Int),zR,())])=some (((),true),(ip q,(vals++[((1:Int),zR,())])++y)):=hs';obtain⟨a1,a2,pa,pb,a3,a4,a5⟩:=hG _ _ _ pos _ _ _ BQ hp;obtain⟨xr,pb',r1,r2,r3,r4⟩:=E_ k s hs hn hk T hT wV a1.ok hj;rw[a4] at r2;cases r2;have hmore:(cond (decide ((pb:Int)<(xr.length:Int))) ((gI (T.map Ab) (zI s a:Int)).bind fun y9=>(gI (ip q) (zI s a:Int)).bind fun Gf=>(gI y9.1 Gf).bind fun FE=>some (FE.1==deep+1)) (some false))=some (match Bj T q (zI s a) with|none=>false|some t=>t.1==deep+1):=by
       have hx:Bj T q (zI s a)=xr[pb]?:=by unfold Bj;rw[r1,a4]
       rw[hx];by_cases hlt:pb<xr.length
       ·rw[zM (by omega),zF,DY r1,Et a4]
        simp only[zD,Ak,Av hlt]
       ·rw[zN (by omega),zG,List.getElem?_eq_none (by omega)]
      rw[DY r1,Et a4] at hmore;simp only[zD] at hmore;simp only[e,zD,Ah,zG,(show gI s (a:Int)=some c from hc),Al h2,zF,Et a4,DY r1];rw[hmore];simp only[zD,BC,List.singleton_append];have hroom1:∀cnt:Int,Room d (vals++(cnt,zR,())::y) q:=fun cnt=>by
       have h1:Room d (vals++[(cnt,zR,())]) pos:=hroom.one _;have h2:=Room.more h1 a1.sum a2 (by omega);rw[BC,List.singleton_append] at h2;exact h2
      have hi:=Uj k s hs hn hk T hT wV (AP.rec k D).1 a d (by omega) c hc h2 hj (C (deep+1) (zA+1) (deep+1)) (fun pos=>hG _ _ _ pos) zA (deep+1) hd1
       (fun pos vals hpo hrm=>hC _ _ _ pos vals hpo (by omega) (by omega) (by omega) (by omega) hrm) vals (2000-pb) (k-1) 3000 1 q y pb a4 (Nat.le_refl _) (by omega) (by omega) (by omega) (by omega) a1.ok hroom1
      cases hrep:CR T (zI s a) (deep+1) (C (deep+1) (zA+1) (deep+1)) 3000 q with
      |none=>
       rw[hrep] at hi;exact hi
      |some r5=>
       obtain⟨i,Y,q2,l2⟩:=r5;rw[hrep] at hi;simp only at hi⊢;show _=_;rw[show((1:Nat):Int)=1 from rfl] at hi;rw[hi,show 1+i=i+1 by omega]
    ·rw[zS h2,zG,if_neg h2]
     have hs':=hC rep (zA+1) deep pos (vals++[((1:Int),zR,())]) hp (by omega) (by omega) (by omega) (by omega) (hroom.one _);have hset:∀v:zB,List.set (vals++[v]) (Int.toNat (vals.length:Int)) ((1:Int),zR,())=vals++[((1:Int),zR,())]:=fun v=>Hq vals [] v _;have hget:∀v:zB,gI (vals++[v]) (vals.length:Int)=some v:=fun v=>DI vals [] v;have h01:IntKind.wrap .i64 ((0:Int)+1)=1:=by decide
     conv=>arg 1;arg 3;rw[show k=(k-2)+1+1 by omega]
     simp only[Bh.EJ,zF,hget,zD,hset,h01,hd1];cases BQ:C rep (zA+1) deep pos with
     |none=>
      rw[BQ] at hs';obtain⟨p1,v1,e⟩:=hs';simp only[e,zD,Bf,zF];exact⟨_,_,rfl⟩
     |some r=>
      obtain⟨y,q,l⟩:=r;rw[BQ] at hs';have e:(AP.rec k D).1 s (a:Int) (T.map Ab) rep (zA+1) deep (ip pos) (vals++[((1:Int),zR,())])=some (((),true),(ip q,(vals++[((1:Int),zR,())])++y)):=hs';simp only[e,zD,Ah,zG,Ak,hc,zS h2,zG];show _=_;simp
  ·rw[zM (by omega),zF,List.getElem?_eq_none (by omega)]
   exact⟨_,_,rfl⟩
theorem TW:∀(d D a nx:Nat),zY s d a nx→nx≤s.length→d≤6→2*d≤D→∀(rep zA deep:Int) (pos:List Nat) (vals:List zB),Au T pos→0≤zA→zA+d≤1001→0≤deep→deep+d≤1001→Room d vals pos→
 FS ((AP.rec k D).1 s (a:Int) (T.map Ab) rep zA deep (ip pos) vals) vals (aC T s d a rep zA deep pos):=by
 intro d
 induction d with
 |zero=>intro D a nx h;exact h.elim
 |succ d ih=>
  intro D a nx h hnx hd hD rep zA deep pos vals hp b0 b1 b2 b3 hroom;obtain⟨D,rfl⟩:∃q,D=q+2:=⟨D-2,by omega⟩;have hsub:=h;have hlt:=z_ _ _ _ h;obtain⟨c,hc,hco,_,Ad⟩:=h;have hcm:=(hn c (List.mem_of_getElem? hc)).2.2;have hmp:=D7 (z_ d) _ _ _ _ Ad;have ha1:IntKind.wrap .i64 ((a:Int)+1)=((a+1:Nat):Int):=by rw[zP (by omega) (by omega)];omega
  have hsum:=IP hp (Ia k s hs hn hk T hT wV) wV;rw[show D+2=(D+1)+1 from rfl];simp only[AP.rec,AP.b,Ak,hc,zD,aC];by_cases h7:c.2.1=7
  ·rw[Ba h7,zG,if_pos h7,ha1]
   have hmn:0≤c.2.2.2.1:=by
    unfold AX at hco;rw[h7,Eg] at hco;simp at hco;omega
   have key:∀(m pl:Nat) (i:Int) (names:List ByteArray) (f:Nat) (pos:List Nat) (vals:List zB),BX (zY s d) s m pl names nx→c.2.2.2.1-i=m→0≤i→m<f→Au T pos→Room (d+1) vals pos→
    FS (AP.l8 k (AP.rec k (D+1)).2 f s (a:Int) (T.map Ab) rep zA deep (pl:Int) i (ip pos) vals) vals (CY (fun a pos=>CJ T s (aC T s d a) (Aa s d a) a rep zA deep pos) (Aa s d) m pl pos):=by
    intro m
    induction m with
    |zero=>
     intro pl i names f pos vals Ad hi h0 hf hp hroom;obtain⟨f,rfl⟩:∃q,f=q+1:=⟨f-1,by omega⟩;simp only[CY,FS,AP.l8,Ak,hc,zD,zN (show ¬(i<c.2.2.2.1) by omega),zG,AZ]
    |succ m ED=>
     intro pl i names f pos vals Ad hi h0 hf hp hroom;obtain⟨q,mid,q1,q2,q3,q4⟩:=Ad;have Jk:=CX (z_ d) _ _ _ _ q4;obtain⟨f,rfl⟩:∃q,f=q+1:=⟨f-1,by omega⟩;have hi1:IntKind.wrap .i64 (i+1)=i+1:=zP (by omega) (by omega);have hend:Aa s d pl=mid:=Dw d q3 d (Nat.le_refl _);have Cx:=FO k s hs hn (by omega) q3 (show d≤6 by omega) (by omega);have hpart:FS ((AP.rec k (D+1)).2 s (pl:Int) (T.map Ab) rep zA deep (ip pos) vals) vals (CJ T s (aC T s d pl) mid pl rep zA deep pos):=by
      obtain⟨d',rfl⟩:∃q,d=q+1:=⟨d-1,by cases d with
       |zero=>exact q3.elim
       |succ d=>omega⟩
      have q3':=q3;obtain⟨c',hc',FL,_,_⟩:=q3;have hrep:c'.2.2.1=0∨c'.2.2.1=1∨c'.2.2.1=2:=by
       unfold AX at FL;simp only[BK,Cs] at FL;omega
      exact Uf k s hs hn hk T hT wV (d'+1) D pl mid (by omega) (by omega) q3' (aC T s (d'+1) pl) c' hc' hrep (fun r q p pos=>Fq _ pl mid q3' r q p pos)
       (fun rep zA deep pos vals h1 h2 h3 h4 h5 h6=>ih D pl mid q3' (by omega) (by omega) (by omega) rep zA deep pos vals h1 h2 h3 h4 h5 h6) rep zA deep pos vals hp b0 (by omega) b2 (by omega) hroom
     simp only[CY,hend];simp only[AP.l8,Ak,hc,zD,zM (show i<c.2.2.2.1 by omega),zF,hi1];cases hap:CJ T s (aC T s d pl) mid pl rep zA deep pos with
     |none=>
      rw[hap] at hpart;obtain⟨p1,v1,e⟩:=hpart;simp only[e,zD,Bf,zF,FI];exact⟨_,_,rfl⟩
     |some r=>
      obtain⟨Y,q5,l⟩:=r;rw[hap] at hpart;have e:(AP.rec k (D+1)).2 s (pl:Int) (T.map Ab) rep zA deep (ip pos) vals=some (((),true),(ip q5,vals++Y)):=hpart;obtain⟨a1,a2,_⟩:=Ib q3 (fun r q p pos=>Fq d pl mid q3 r q p pos) rep zA deep pos _ _ _ hap hp;have hi:=ED mid (i+1) _ f q5 (vals++Y) q4 (by omega) (by omega) (by omega) a1.ok (Room.more hroom a1.sum a2 (by omega));simp only[e,zD,Ah,zG,Cx,FI];cases har:CY (fun a pos=>CJ T s (aC T s d a) (Aa s d a) a rep zA deep pos) (Aa s d) m mid q5 with
      |none=>
       rw[har] at hi;exact hi
      |some r6=>
       obtain⟨Y2,q6,l6⟩:=r6;rw[har] at hi;simp only[FS] at hi⊢;rw[hi,BC]
   exact key c.2.2.2.1.toNat (a+1) 0 [] k pos vals Ad (by omega) (by omega) (by omega) hp hroom
  ·rw[Br h7,zF,if_neg h7]
   have hj:=F9 hc h7;simp only[FV k s hs hk a (by omega),zD,Lp k s hs hn hk T hT wV hp hj];cases htk:tk T rep zA pos (zI s a) with
   |none=>exact⟨_,_,rfl⟩
   |some r=>
    obtain⟨v,q⟩:=r;obtain⟨x,p,e1,e2,e3,e4,e5,e6⟩:=FW htk hp;have hq2:q[zI s a]?=some (p+1):=by
     rw[e4,List.getElem?_set_self (List.getElem?_eq_some_iff.1 e2).1]
    have hw:IntKind.wrap .i64 (((p+1:Nat):Int)-1)=(p:Int):=by
     have:=(List.getElem?_eq_some_iff.1 e3).1;have hx2:=wV x (List.mem_of_getElem? e1);rw[zP (by omega) (by omega)];omega
    simp only[Ah,zG,AP.d5,DY e1,Et hq2,zD,hw,Ak,e3];rw[Cm (by have:=Room.lim hroom hsum (show 1≤10 by omega);unfold lim at this;have:=Nat.le_of_ble_eq_true this;simpa using this),zF];rfl
end
abbrev jn(s:List zC)(T:Ai)(nums:List Int)(b l:Bool):zQ:=(s,T.map Ab,nums,(),(),b,l,())
def IM(s:List zC)(T:Ai)(nums:List Int)(r:Option (Int×zQ×(List Int)×(List zB)))(nx:Int)(l:Bool)(vals:List zB)(a:AR):Prop:=match a with
 |none=>∃nx' l' pos' v,Au T pos'∧r=some (nx',(jn s T nums true l',ip pos',v))∧vals.length≤v.length
 |some (Y,q,m)=>r=some (nx,(jn s T nums false (l||m),ip q,vals++Y))
section
variable(k:Nat)(s:List zC)(hs:s.length≤20)(hn:∀c,c∈s→c.1.size<k∧c.1.size<1000000000∧AB c.2.2.2.1)(hk:2000000≤k)
variable(T:Ai)(hT:T.length=zI s s.length)(wV:∀x,x∈T→x.length≤2000)
variable(nums:List Int)(hN:∀(a:Nat) (c:zC),s[a]?=some c→c.2.1≠7→gI nums (a:Int)=some (zI s a:Int))
include hs hn hk hT wV hN
theorem SF:∀(d a nx f:Nat),zY s d a nx→nx≤s.length→d<f→∀(b l:Bool) (pos:List Nat) (vals:List zB) (t0:zO),Au T pos→
 EG.l1 k f (a:Int) (jn s T nums b l) (ip pos) vals t0=some (match Bj T pos (zI s a) with
  |none=>(((0,0,zv,()),false),(jn s T nums b l,ip pos,vals))
  |some t=>((t,true),(jn s T nums b l,ip pos,vals))):=by
 intro d
 induction d with
 |zero=>intro a nx f h;exact h.elim
 |succ d ih=>
  intro a nx f h hnx hf b l pos vals t0 hp;obtain⟨f,rfl⟩:∃q,f=q+1:=⟨f-1,by omega⟩;have hlt:=z_ _ _ _ h;obtain⟨c,hc,hco,_,Ad⟩:=h;have ha1:IntKind.wrap .i64 ((a:Int)+1)=((a+1:Nat):Int):=by rw[zP (by omega) (by omega)];omega
  simp only[EG.l1,Ak,hc,zD];by_cases h7:c.2.1=7
  ·have hm0:0<c.2.2.2.1:=by
    unfold AX at hco;rw[h7,Eg] at hco;simp at hco;exact hco.1
   obtain⟨m,hm⟩:∃m,c.2.2.2.1.toNat=m+1:=⟨c.2.2.2.1.toNat-1,by omega⟩;rw[hm] at Ad;obtain⟨q,mid,_,_,q3,q4⟩:=Ad;have hmn:=CX (z_ d) _ _ _ _ q4;have:=ih (a+1) mid f q3 (by omega) (by omega) b l pos vals t0 hp;rw[Fx hc h7] at this;rw[Al h7,zF,ha1,this]
  ·rw[zS h7,zG,←Ak,hN a c hc h7]
   obtain⟨x,p,g1,g2,g3,g4⟩:=E_ k s hs hn hk T hT wV hp (F9 hc h7);have hx:Bj T pos (zI s a)=x[p]?:=by unfold Bj;rw[g1,g2]
   simp only[zD,Et g2,DY g1];rw[hx];by_cases hpl:p<x.length
   ·rw[zS (by omega),zG,Av hpl]
    simp only[Ak,Av hpl,zD]
   ·rw[Al (by omega),zF,List.getElem?_eq_none (by omega)]
    rfl
theorem Gt{d a nx:Nat}(h:zY s d a nx)(hd:d≤7)(hnx:nx≤s.length)(b l:Bool)(pos:List Nat)(vals:List zB)(hp:Au T pos):
 EG k (a:Int) (jn s T nums b l) (ip pos) vals=some (match Bj T pos (zI s a) with
  |none=>(((0,0,zv,()),false),(jn s T nums b l,ip pos,vals))
  |some t=>((t,true),(jn s T nums b l,ip pos,vals))):=
 SF k s hs hn hk T hT wV nums hN d a nx k h hnx (by omega) b l pos vals _ hp
theorem KQ{a:Nat}{c:zC}(hc:s[a]?=some c)(h7:c.2.1≠7){d nx:Nat}(hsub:zY s d a nx)(hd:d≤7)(hnx:nx≤s.length)(b l:Bool)(rep zA:Int)(pos:List Nat)(vals:List zB)(hp:Au T pos):
 G5 k (a:Int) rep zA (jn s T nums b l) (ip pos) vals=some (match b,tk T rep zA pos (zI s a) with
  |false,some (v,q)=>(v,(jn s T nums false l,ip q,vals))
  |_,_=>(zv,(jn s T nums true l,ip pos,vals))):=by
 have hpk:=Gt k s hs hn hk T hT wV nums hN hsub hd hnx b l pos vals hp;unfold G5;rw[hpk];obtain⟨x,p,g1,g2,g3,g4⟩:=E_ k s hs hn hk T hT wV hp (F9 hc h7);have hpw:IntKind.wrap .i64 ((p:Int)+1)=((p+1:Nat):Int):=by rw[zP (by omega) (by omega)];omega
 have hgd:pos.getD (zI s a) 0=p:=by rw[List.getD_eq_getElem?_getD,g2];rfl
 unfold tk;cases b with
 |true=>
  cases Bj T pos (zI s a) with
  |none=>rfl
  |some t=>rfl
 |false=>
  cases Bj T pos (zI s a) with
  |none=>rfl
  |some t=>
   simp only[zD,Ah,zG];by_cases c1:t.1=rep
   ·rw[Ba c1]
    simp only[zG,zD];by_cases c2:t.2.1=zA
    ·rw[Ba c2,zG,hN a c hc h7]
     simp only[zD,Et g2,hpw,Int.toNat_natCast,KO];rw[if_pos ⟨c1,c2⟩,hgd]
    ·rw[Br c2,zF,if_neg (fun q=>c2 q.2)];rfl
   ·rw[Br c1]
    simp only[zF,zD];rw[if_neg (fun q=>c1 q.1)];rfl
theorem SC{d a nx:Nat}(h:zY s d a nx)(hd:d≤6)(hnx:nx≤s.length)(rep zA:Int)(l:Bool)(vals:List zB):∀(n i f:Nat) (b:Bool) (pos:List Nat),i+n=nx→a≤i→n<f→Au T pos→
 (b=true→Cy.l3 k f rep zA (nx:Int) (i:Int) (jn s T nums b l) (ip pos) vals=some ((nx:Int),(jn s T nums true l,ip pos,vals)))∧
 (b=false→match Dj T rep zA (zI s nx-zI s i) (zI s i) pos with
  |none=>∃pos',Au T pos'∧Cy.l3 k f rep zA (nx:Int) (i:Int) (jn s T nums b l) (ip pos) vals=some ((nx:Int),(jn s T nums true l,ip pos',vals))
  |some q=>Cy.l3 k f rep zA (nx:Int) (i:Int) (jn s T nums b l) (ip pos) vals=some ((nx:Int),(jn s T nums false l,ip q,vals))):=by
 intro n
 induction n with
 |zero=>
  intro i f b pos hi ha hf hp;obtain⟨f,rfl⟩:∃q,f=q+1:=⟨f-1,by omega⟩;obtain rfl:i=nx:=by omega
  rw[Nat.sub_self];simp only[Cy.l3,zN (show ¬((i:Int)<(i:Int)) by omega),zG,Dj];exact⟨fun hb=>by rw[hb],fun hb=>by rw[hb]⟩
 |succ n ih=>
  intro i f b pos hi ha hf hp;obtain⟨f,rfl⟩:∃q,f=q+1:=⟨f-1,by omega⟩;have hc:=Av (show i<s.length by omega);generalize s[i]=c at hc;have hi1:IntKind.wrap .i64 ((i:Int)+1)=((i+1:Nat):Int):=by rw[zP (by omega) (by omega)];omega
  have hcr:gI s (i:Int)=some c:=hc;simp only[Cy.l3,zM (show(i:Int)<(nx:Int) by omega),zF,hcr,zD,Cy.c4,hi1];by_cases h7:c.2.1=7
  ·rw[Ba h7,zG,←Fx hc h7]
   exact ih (i+1) f b pos (by omega) (by omega) (by omega) hp
  ·obtain⟨nx',e1,e2⟩:=Hz d a nx h i ha (by omega)
   rw[Br h7,zF,KQ k s hs hn hk T hT wV nums hN hc h7 e1 (by omega) (by omega) b l rep zA pos vals hp];have hle:=EL s (show i+1≤nx by omega);rw[Ec hc h7] at hle;cases b with
   |true=>
    simp only[zD];refine⟨fun _=>(ih (i+1) f true pos (by omega) (by omega) (by omega) hp).1 rfl,fun hb=>by cases hb⟩
   |false=>
    refine⟨fun hb=>(by cases hb),fun _=> ?_⟩;rw[show zI s nx-zI s i=(zI s nx-(zI s i+1))+1 by omega];simp only[Dj];cases htk:tk T rep zA pos (zI s i) with
    |none=>
     simp only[zD];exact⟨pos,hp,(ih (i+1) f true pos (by omega) (by omega) (by omega) hp).1 rfl⟩
    |some r=>
     obtain⟨v,q⟩:=r;obtain⟨_,_,_,_,_,_,a1,_⟩:=FW htk hp;have hh:=(ih (i+1) f false q (by omega) (by omega) (by omega) a1.ok).2 rfl;rw[Ec hc h7] at hh;simp only[zD];exact hh
theorem KH{d a nx:Nat}(h:zY s d a nx)(hd:d≤6)(hnx:nx≤s.length)(rep zA:Int)(l:Bool)(vals:List zB)(b:Bool)(pos:List Nat)(hp:Au T pos):
 (b=true→Cy k (a:Int) rep zA (jn s T nums b l) (ip pos) vals=some ((nx:Int),(jn s T nums true l,ip pos,vals)))∧
 (b=false→match Dj T rep zA (zI s nx-zI s a) (zI s a) pos with
  |none=>∃pos',Au T pos'∧Cy k (a:Int) rep zA (jn s T nums b l) (ip pos) vals=some ((nx:Int),(jn s T nums true l,ip pos',vals))
  |some q=>Cy k (a:Int) rep zA (jn s T nums b l) (ip pos) vals=some ((nx:Int),(jn s T nums false l,ip q,vals))):=by
 have Cx:=FZ k s hs hn (by omega) h hd hnx;have hlt:=z_ _ _ _ h;have:=SC k s hs hn hk T hT wV nums hN h hd hnx rep zA l vals (nx-a) a k b pos (by omega) (Nat.le_refl _) (by omega) hp;unfold Cy;rw[Cx];exact this
theorem SG(S:Int→Int→Int→Int→zQ→(List Int)→(List zB)→Option (Int×zQ×(List Int)×(List zB)))(d a e m:Nat)(hm:m≤7)(hd:d≤6)(hsub:zY s d a e)(he:e≤s.length)(C:List Nat→AR)(hC:∀pos,EW T (zI s a) m pos (C pos))(zA deep:Int)
 (hS:∀pos vals l,Au T pos→Room m vals pos→IM s T nums (S (a:Int) deep zA deep (jn s T nums false l) (ip pos) vals) e l vals (C pos)):
 ∀(N f f2 n:Nat) (pos:List Nat) (vals:List zB) (l:Bool) (p:Nat),pos[zI s a]?=some p→2000-p≤N→p≤2000→N+1<f→N<f2→n+N≤100000→Au T pos→Room m vals pos→
  match CR T (zI s a) deep C f2 pos with
  |none=>∃n' l' pos' v,Au T pos'∧BR.l4 k S f (a:Int) zA deep (n:Int) (jn s T nums false l) (ip pos) vals=some (n',(jn s T nums true l',ip pos',v))∧vals.length≤v.length
  |some (i,Y,q,m)=>BR.l4 k S f (a:Int) zA deep (n:Int) (jn s T nums false l) (ip pos) vals=some (((n+i:Nat):Int),(jn s T nums false (l||m),ip q,vals++Y)):=by
 have hlp:=G8 hsub;have hle:=EL s he;have hj:zI s a<zI s s.length:=by omega
 intro N
 induction N with
 |zero=>
  intro f f2 n pos vals l p hp hN' hp2 hf hf2 Jl hpo hroom;obtain⟨f,rfl⟩:∃q,f=q+1:=⟨f-1,by omega⟩;obtain⟨f2,rfl⟩:∃q,f2=q+1:=⟨f2-1,by omega⟩;have hno:Bj T pos (zI s a)=none:=by
   obtain⟨x,p',g1,g2,g3,g4⟩:=E_ k s hs hn hk T hT wV hpo hj;rw[hp] at g2;cases g2;unfold Bj;rw[g1,hp];exact List.getElem?_eq_none (by omega)
  have hpk:=Gt k s hs hn hk T hT wV nums hN hsub (by omega) he false l pos vals hpo;rw[hno] at hpk;simp only[CR,hno,BR.l4,hpk,zD,Bf,zF,zG,AZ,Nat.add_zero,Bool.or_false]
 |succ N ih=>
  intro f f2 n pos vals l p hp hN' hp2 hf hf2 Jl hpo hroom;obtain⟨f,rfl⟩:∃q,f=q+1:=⟨f-1,by omega⟩;obtain⟨f2,rfl⟩:∃q,f2=q+1:=⟨f2-1,by omega⟩;have hpk:=Gt k s hs hn hk T hT wV nums hN hsub (by omega) he false l pos vals hpo;simp only[CR,BR.l4];cases hno:Bj T pos (zI s a) with
  |none=>
   rw[hno] at hpk;simp only[hpk,zD,Bf,zF,zG,AZ,Nat.add_zero,Bool.or_false]
  |some t=>
   rw[hno] at hpk;simp only[hpk,zD,Ah,zG];by_cases ht:t.1=deep
   ·rw[if_pos ht,Ba ht]
    have hcnt:IntKind.wrap .i64 ((n:Int)+1)=((n+1:Nat):Int):=by rw[zP (by omega) (by omega)];omega
    have hs':=hS pos vals l hpo hroom;simp only[zG,hcnt];cases BQ:C pos with
    |none=>
     rw[BQ] at hs';obtain⟨nx',l',pos',v,e1,e2,e3⟩:=hs';obtain⟨f,rfl⟩:∃q,f=q+1:=⟨f-1,by omega⟩;have Jm:=Gt k s hs hn hk T hT wV nums hN hsub (by omega) he true l' pos' v e1;simp only[e2,zD,BR.l4,Jm];refine⟨((n+1:Nat):Int),l',pos',v,e1,?_,e3⟩;cases Bj T pos' (zI s a)<;>rfl
    |some r=>
     obtain⟨x,q,l1⟩:=r;rw[BQ] at hs';have e1:S (a:Int) deep zA deep (jn s T nums false l) (ip pos) vals=some ((e:Int),(jn s T nums false (l||l1),ip q,vals++x)):=hs';obtain⟨a1,a2,pa,pb,a3,a4,a5⟩:=hC pos _ _ _ BQ hpo;rw[hp] at a3;cases a3;obtain⟨xr,pb',g1,g2,g3,g4⟩:=E_ k s hs hn hk T hT wV a1.ok hj;rw[a4] at g2;cases g2;simp only[e1,zD];have hi:=ih f f2 (n+1) q (vals++x) (l||l1) pb a4 (by omega) (by omega) (by omega) (by omega) (by omega) a1.ok (Room.more hroom a1.sum a2 hm);cases hrep:CR T (zI s a) deep C f2 q with
     |none=>
      rw[hrep] at hi;obtain⟨n',l',pos',v,e1,e2,e3⟩:=hi;exact⟨n',l',pos',v,e1,e2,by rw[A8] at e3;omega⟩
     |some r2=>
      obtain⟨i,Y,q2,l2⟩:=r2;rw[hrep] at hi;simp only at hi⊢;rw[hi,BC,show n+1+i=n+(i+1) by omega,Bool.or_assoc]
   ·rw[if_neg ht,Br ht]
    simp only[zF,AZ,Nat.add_zero,Bool.or_false]
theorem SE(d D a e:Nat)(hd:d≤6)(he:e≤s.length)(hsub:zY s d a e)(C:Int→Int→Int→List Nat→AR)(c:zC)(hc:s[a]?=some c)(hr:c.2.2.1=0∨c.2.2.1=1∨c.2.2.1=2)(hG:∀r q p pos,EW T (zI s a) d pos (C r q p pos))
 (hC:∀(D:Nat),3*d≤D→∀(rep zA deep:Int) (pos:List Nat) (vals:List zB) (l:Bool),Au T pos→0≤zA→zA+d≤1001→0≤deep→deep+d≤1001→Room d vals pos→IM s T nums ((zV.rec k D).1 (a:Int) rep zA deep (jn s T nums false l) (ip pos) vals) e l vals (C rep zA deep pos)) (hD:3*d+1≤D)
 (rep zA deep:Int) (pos:List Nat) (vals:List zB) (l:Bool) (hp:Au T pos) (b0:0≤zA) (b1:zA+1+d≤1001) (b2:0≤deep) (b3:deep+1+d≤1001) (hroom:Room (d+1) vals pos):
 IM s T nums ((zV.rec k (D+1)).2.1 (a:Int) rep zA deep (jn s T nums false l) (ip pos) vals) e l vals (CJ T s C e a rep zA deep pos):=by
 have hd1:IntKind.wrap .i64 (zA+1)=zA+1:=zP (by omega) (by omega);have hq1:IntKind.wrap .i64 (deep+1)=deep+1:=zP (by omega) (by omega);have hlt:=z_ _ _ _ hsub;have hlp:=G8 hsub;have hle:=EL s he;have hj:zI s a<zI s s.length:=by omega
 have hsum:=IP hp (Ia k s hs hn hk T hT wV) wV;have hcr:gI s (a:Int)=some c:=hc;have Cx:=FZ k s hs hn (by omega) hsub hd he;obtain⟨D,rfl⟩:∃q,D=q+1:=⟨D-1,by omega⟩;rw[show zV.rec k (D+1+1)=(zV.b k (zV.rec k (D+1)).1 (zV.rec k (D+1)).2.1 (zV.rec k (D+1)).2.2,BG.b k (zV.rec k (D+1)).1 (zV.rec k (D+1)).2.1 (zV.rec k (D+1)).2.2,BR.b k (zV.rec k (D+1)).1 (zV.rec k (D+1)).2.1 (zV.rec k (D+1)).2.2) from rfl];simp only[BG.b,hcr,zD,CJ,hc];by_cases h0:c.2.2.1=0
 ·rw[Al h0,zF,if_pos h0]
  have:=hC (D+1) (by omega) rep zA deep pos vals l hp b0 (by omega) b2 (by omega) (hroom.le (by omega));cases BQ:C rep zA deep pos with
  |none=>
   rw[BQ] at this;obtain⟨nx',l',pos',v,e1,e2,e3⟩:=this;rw[e2];exact⟨nx',l',pos',v,e1,rfl,e3⟩
  |some r=>
   obtain⟨Y,q,m⟩:=r;rw[BQ] at this;have e1:(zV.rec k (D+1)).1 (a:Int) rep zA deep (jn s T nums false l) (ip pos) vals=some ((e:Int),(jn s T nums false (l||m),ip q,vals++Y)):=this;rw[e1];rfl
 ·rw[zS h0,zG,if_neg h0]
  have hpk:=Gt k s hs hn hk T hT wV nums hN hsub (by omega) he false l pos vals hp;have hlim:lim (vals.length+([(0,zR,())]:List zB).length)=true:=by have:=Room.lim hroom hsum (show 1≤10 by omega);simpa using this
  rw[hpk];cases hno:Bj T pos (zI s a) with
  |none=>
   have hm:=(KH k s hs hn hk T hT wV nums hN hsub hd he rep zA l (vals++[(0,zR,())]) true pos hp).1 rfl;simp only[zD,Bf,zF,BG.c6,hlim,zM (show(0:Int)≤zA by omega)];have hm:Cy k (a:Int) rep zA (s,T.map Ab,nums,(),(),true,l,()) (ip pos) (vals++[(0,zR,())])=_:=hm;rw[hm];exact⟨_,l,pos,_,hp,rfl,by simp⟩
  |some t=>
   simp only[zD,Ah,zG,BG.c6,hlim,zF];by_cases hdf:t.2.1≤zA
   ·rw[zM hdf,zF,if_pos hdf]
    have hm:=(KH k s hs hn hk T hT wV nums hN hsub hd he rep zA l (vals++[(0,zR,())]) false pos hp).2 rfl;cases xx:Dj T rep zA (zI s e-zI s a) (zI s a) pos with
    |none=>
     rw[xx] at hm;obtain⟨pos',e1,e2⟩:=hm;rw[e2];exact⟨_,l,pos',_,e1,rfl,by simp⟩
    |some q=>
     rw[xx] at hm;simp only at hm⊢;rw[hm];show _=_;rw[Bool.or_false];rfl
   ·rw[zN hdf,zG,if_neg hdf]
    simp only[hcr,zD];have hget:∀(v:zB) (y:List zB),gI (vals++v::y) (vals.length:Int)=some v:=fun v y=>DI vals y v;by_cases h2:c.2.2.1=2
    ·rw[Al h2,zF,if_pos h2,hq1,hd1]
     have hs':=hC D (by omega) rep (zA+1) (deep+1) pos (vals++[(0,zR,())]) l hp (by omega) (by omega) (by omega) (by omega) (hroom.one _);rw[show zV.rec k (D+1)=(zV.b k (zV.rec k D).1 (zV.rec k D).2.1 (zV.rec k D).2.2,BG.b k (zV.rec k D).1 (zV.rec k D).2.1 (zV.rec k D).2.2,BR.b k (zV.rec k D).1 (zV.rec k D).2.1 (zV.rec k D).2.2) from rfl];simp only[BR.b];cases BQ:C rep (zA+1) (deep+1) pos with
     |none=>
      rw[BQ] at hs';obtain⟨nx',l',pos',v,e1,e2,e3⟩:=hs';have Jm:=Gt k s hs hn hk T hT wV nums hN hsub (by omega) he true l' pos' v e1;have e3':vals.length<v.length:=by simp at e3;omega
      have hv:gI v (vals.length:Int)=some v[vals.length]:=by rw[Ak,Av e3']
      have hl4:BR.l4 k (zV.rec k D).1 k (a:Int) (zA+1) (deep+1) 0 (jn s T nums true l') (ip pos') v=some (0,(jn s T nums true l',ip pos',v)):=by
       conv=>lhs;arg 3;rw[show k=(k-1)+1 by omega]
       simp only[BR.l4,Jm,zD];cases Bj T pos' (zI s a)<;>rfl
      simp only[e2,zD,hl4,BG.c15,hv,Cx,cst];refine⟨(e:Int),_,pos',_,e1,rfl,?_⟩;simp;omega
     |some r=>
      obtain⟨y,q,l1⟩:=r;rw[BQ] at hs';have e1:(zV.rec k D).1 (a:Int) rep (zA+1) (deep+1) (jn s T nums false l) (ip pos) (vals++[(0,zR,())])=some ((e:Int),(jn s T nums false (l||l1),ip q,(vals++[(0,zR,())])++y)):=hs';obtain⟨a1,a2,pa,pb,a3,a4,a5⟩:=hG _ _ _ pos _ _ _ BQ hp;obtain⟨xr,pb',r1,r2,r3,r4⟩:=E_ k s hs hn hk T hT wV a1.ok hj;rw[a4] at r2;cases r2;have hroom1:Room d ((vals++[(0,zR,())])++y) q:=Room.more (hroom.one _) a1.sum a2 (by omega)
      have hi:=SG k s hs hn hk T hT wV nums hN (zV.rec k D).1 d a e d (by omega) hd hsub he (C (deep+1) (zA+1) (deep+1)) (fun pos=>hG _ _ _ pos) (zA+1) (deep+1)
       (fun pos vals l hpo hrm=>hC D (by omega) _ _ _ pos vals l hpo (by omega) (by omega) (by omega) (by omega) hrm) (2000-pb) k 3000 0 q ((vals++[(0,zR,())])++y) (l||l1) pb a4 (Nat.le_refl _) (by omega) (by omega) (by omega) (by omega) a1.ok hroom1
      simp only[e1,zD];cases hrep:CR T (zI s a) (deep+1) (C (deep+1) (zA+1) (deep+1)) 3000 q with
      |none=>
       rw[hrep] at hi;obtain⟨n',l',pos',v,f1,f2,f3⟩:=hi;have f2:BR.l4 k (zV.rec k D).1 k (a:Int) (zA+1) (deep+1) 0 (jn s T nums false (l||l1)) (ip q) ((vals++[(0,zR,())])++y)=_:=f2;have f3':vals.length<v.length:=by simp at f3;omega
       have hv:gI v (vals.length:Int)=some v[vals.length]:=by rw[Ak,Av f3']
       simp only[f2,zD,BG.c15,hv,Cx,cst];refine⟨(e:Int),_,pos',_,f1,rfl,?_⟩;simp;omega
      |some r5=>
       obtain⟨i,Y,q2,l2⟩:=r5;rw[hrep] at hi;have hi:BR.l4 k (zV.rec k D).1 k (a:Int) (zA+1) (deep+1) 0 (jn s T nums false (l||l1)) (ip q) ((vals++[(0,zR,())])++y)=some (((0+i:Nat):Int),(jn s T nums false (l||l1||l2),ip q2,((vals++[(0,zR,())])++y)++Y)):=hi;have hib:i≤3000:=by
        have key:∀(f:Nat) (pos:List Nat) (n:Nat) (Y:List zB) (q:List Nat) (l:Bool),CR T (zI s a) (deep+1) (C (deep+1) (zA+1) (deep+1)) f pos=some (n,Y,q,l)→n≤f:=by
         intro f
         induction f with
         |zero=>intro pos n Y q l h;cases h
         |succ f Jn=>
          intro pos n Y q l h;simp only[CR] at h;split at h
          ·simp only[zX,Prod.mk.injEq] at h;omega
          ·split at h
           ·split at h
            ·cases h
            ·split at h
             ·cases h
             ·rename_i h2
              have:=Jn _ _ _ _ _ h2;simp only[zX,Prod.mk.injEq] at h;omega
           ·simp only[zX,Prod.mk.injEq] at h;omega
        exact key _ _ _ _ _ _ hrep
       have hcnt:IntKind.wrap .i64 (1+((0+i:Nat):Int))=((i+1:Nat):Int):=by rw[zP (by omega) (by omega)];omega
       simp only[BC,List.singleton_append,List.cons_append,List.nil_append] at hi;simp only[hi,zD,BG.c15,BC,List.singleton_append,List.cons_append,List.nil_append,hget,Cx,Hq,hcnt,cst];show _=_;have hb:((l||l1||l2)||decide (((i+1:Nat):Int)>20))=(l||(l1||l2||decide (20<i+1))):=by
        have:decide (((i+1:Nat):Int)>20)=decide (20<i+1):=by
         by_cases h:20<i+1
         ·rw[zM h,zM (by omega)]
         ·rw[zN h,zN (by omega)]
        rw[this,Bool.or_assoc,Bool.or_assoc,Bool.or_assoc]
       rw[hb]
    ·rw[zS h2,zG,if_neg h2,hd1]
     have hs':=hC (D+1) (by omega) rep (zA+1) deep pos (vals++[(0,zR,())]) l hp (by omega) (by omega) (by omega) (by omega) (hroom.one _);cases BQ:C rep (zA+1) deep pos with
     |none=>
      rw[BQ] at hs';obtain⟨nx',l',pos',v,e1,e2,e3⟩:=hs';have e3':vals.length<v.length:=by simp at e3;omega
      have hv:gI v (vals.length:Int)=some v[vals.length]:=by rw[Ak,Av e3']
      simp only[e2,zD,BG.c15,hv,Cx,cst];refine⟨(e:Int),_,pos',_,e1,rfl,?_⟩;simp;omega
     |some r=>
      obtain⟨y,q,l1⟩:=r;rw[BQ] at hs';have e1:(zV.rec k (D+1)).1 (a:Int) rep (zA+1) deep (jn s T nums false l) (ip pos) (vals++[(0,zR,())])=some ((e:Int),(jn s T nums false (l||l1),ip q,(vals++[(0,zR,())])++y)):=hs';simp only[e1,zD,BG.c15,BC,List.singleton_append,hget,Cx,Hq,cst];show _=_;rw[show decide ((1:Int)>20)=false from rfl,Bool.or_false]
theorem Sw:∀(d D a nx:Nat),zY s d a nx→nx≤s.length→d≤6→3*d≤D→∀(rep zA deep:Int) (pos:List Nat) (vals:List zB) (l:Bool),Au T pos→0≤zA→zA+d≤1001→0≤deep→deep+d≤1001→Room d vals pos→
 IM s T nums ((zV.rec k D).1 (a:Int) rep zA deep (jn s T nums false l) (ip pos) vals) nx l vals (aC T s d a rep zA deep pos):=by
 intro d
 induction d with
 |zero=>intro D a nx h;exact h.elim
 |succ d ih=>
  intro D a nx h hnx hd hD rep zA deep pos vals l hp b0 b1 b2 b3 hroom;obtain⟨D,rfl⟩:∃q,D=q+2:=⟨D-2,by omega⟩;have hsub:=h;have hlt:=z_ _ _ _ h;obtain⟨c,hc,hco,_,Ad⟩:=h;have hcm:=(hn c (List.mem_of_getElem? hc)).2.2;have hmp:=D7 (z_ d) _ _ _ _ Ad;have ha1:IntKind.wrap .i64 ((a:Int)+1)=((a+1:Nat):Int):=by rw[zP (by omega) (by omega)];omega
  have hsum:=IP hp (Ia k s hs hn hk T hT wV) wV;have hcr:gI s (a:Int)=some c:=hc;rw[show zV.rec k (D+2)=(zV.b k (zV.rec k (D+1)).1 (zV.rec k (D+1)).2.1 (zV.rec k (D+1)).2.2,BG.b k (zV.rec k (D+1)).1 (zV.rec k (D+1)).2.1 (zV.rec k (D+1)).2.2,BR.b k (zV.rec k (D+1)).1 (zV.rec k (D+1)).2.1 (zV.rec k (D+1)).2.2) from rfl];simp only[zV.b,hcr,zD,aC,hc];by_cases h7:c.2.1=7
  ·rw[Ba h7,zG,if_pos h7,ha1]
   have hmn:0≤c.2.2.2.1:=by
    unfold AX at hco;rw[h7,Eg] at hco;simp at hco;omega
   have key:∀(m pl:Nat) (i:Int) (names:List ByteArray) (f:Nat) (pos:List Nat) (vals:List zB) (l:Bool),BX (zY s d) s m pl names nx→c.2.2.2.1-i=m→0≤i→m<f→Au T pos→Room (d+1) vals pos→
    IM s T nums (zV.l7 k (zV.rec k (D+1)).2.1 f rep zA deep (pl:Int) c.2.2.2.1 i (jn s T nums false l) (ip pos) vals) nx l vals (CY (fun a pos=>CJ T s (aC T s d a) (Aa s d a) a rep zA deep pos) (Aa s d) m pl pos):=by
    intro m
    induction m with
    |zero=>
     intro pl i names f pos vals l Ad hi h0 hf hp hroom;obtain⟨f,rfl⟩:∃q,f=q+1:=⟨f-1,by omega⟩;have Ad:pl=nx:=Ad;subst Ad;simp only[CY,IM,zV.l7,zN (show ¬(i<c.2.2.2.1) by omega),zG,AZ,zV.c11,Bool.or_false]
    |succ m ED=>
     intro pl i names f pos vals l Ad hi h0 hf hp hroom;obtain⟨q,mid,q1,q2,q3,q4⟩:=Ad;have Jk:=CX (z_ d) _ _ _ _ q4;obtain⟨f,rfl⟩:∃q,f=q+1:=⟨f-1,by omega⟩;have hi1:IntKind.wrap .i64 (i+1)=i+1:=zP (by omega) (by omega);have hend:Aa s d pl=mid:=Dw d q3 d (Nat.le_refl _);have hpart:IM s T nums ((zV.rec k (D+1)).2.1 (pl:Int) rep zA deep (jn s T nums false l) (ip pos) vals) mid l vals (CJ T s (aC T s d pl) mid pl rep zA deep pos):=by
      obtain⟨d',rfl⟩:∃q,d=q+1:=⟨d-1,by cases d with
       |zero=>exact q3.elim
       |succ d=>omega⟩
      have q3':=q3;obtain⟨c',hc',FL,_,_⟩:=q3;have hrep:c'.2.2.1=0∨c'.2.2.1=1∨c'.2.2.1=2:=by
       unfold AX at FL;simp only[BK,Cs] at FL;omega
      exact SE k s hs hn hk T hT wV nums hN (d'+1) D pl mid (by omega) (by omega) q3' (aC T s (d'+1) pl) c' hc' hrep (fun r q p pos=>Fq _ pl mid q3' r q p pos)
       (fun D' hD' rep zA deep pos vals l h1 h2 h3 h4 h5 h6=>ih D' pl mid q3' (by omega) (by omega) hD' rep zA deep pos vals l h1 h2 h3 h4 h5 h6) (by omega) rep zA deep pos vals l hp b0 (by omega) b2 (by omega) hroom
     simp only[CY,hend];simp only[zV.l7,zM (show i<c.2.2.2.1 by omega),zF,zG,hi1];cases hap:CJ T s (aC T s d pl) mid pl rep zA deep pos with
     |none=>
      rw[hap] at hpart;obtain⟨nx',l',pos',v,e1,e2,e3⟩:=hpart;simp only[e2,zD,FI];obtain⟨f,rfl⟩:∃q,f=q+1:=⟨f-1,by omega⟩;refine⟨nx',l',pos',v,e1,?_,e3⟩;simp only[zV.l7,zV.c11];by_cases hlt:i+1<c.2.2.2.1
      ·rw[zM hlt];rfl
      ·rw[zN hlt];rfl
     |some r=>
      obtain⟨Y,q5,l1⟩:=r;rw[hap] at hpart;have e:(zV.rec k (D+1)).2.1 (pl:Int) rep zA deep (jn s T nums false l) (ip pos) vals=some ((mid:Int),(jn s T nums false (l||l1),ip q5,vals++Y)):=hpart;obtain⟨a1,a2,_⟩:=Ib q3 (fun r q p pos=>Fq d pl mid q3 r q p pos) rep zA deep pos _ _ _ hap hp;have hi:=ED mid (i+1) _ f q5 (vals++Y) (l||l1) q4 (by omega) (by omega) (by omega) a1.ok (Room.more hroom a1.sum a2 (by omega));simp only[e,zD,FI];cases har:CY (fun a pos=>CJ T s (aC T s d a) (Aa s d a) a rep zA deep pos) (Aa s d) m mid q5 with
      |none=>
       rw[har] at hi;obtain⟨nx',l',pos',v,e1,e2,e3⟩:=hi;exact⟨nx',l',pos',v,e1,e2,by rw[A8] at e3;omega⟩
      |some r6=>
       obtain⟨Y2,q6,l6⟩:=r6;rw[har] at hi;simp only[IM] at hi⊢;rw[hi,BC,Bool.or_assoc]
   exact key c.2.2.2.1.toNat (a+1) 0 [] k pos vals l Ad (by omega) (by omega) (by omega) hp hroom
  ·rw[Br h7,zF,if_neg h7]
   have hm0:c.2.2.2.1.toNat=0:=by
    unfold AX at hco;rw[zS h7] at hco;simp at hco;omega
   rw[hm0] at Ad;have Ad:a+1=nx:=Ad;subst Ad;rw[KQ k s hs hn hk T hT wV nums hN hc h7 hsub (by omega) hnx false l rep zA pos vals hp];have hlim:∀v:zB,lim (vals.length+[v].length)=true:=fun v=>by have:=Room.lim hroom hsum (show 1≤10 by omega);simpa using this
   cases htk:tk T rep zA pos (zI s a) with
   |none=>
    simp only[zD,hlim,zF];exact⟨_,l,pos,_,hp,rfl,by simp⟩
   |some r=>
    obtain⟨v,q⟩:=r;simp only[zD,hlim,zF,ha1];show _=_;rw[Bool.or_false]
end
def PA(C:List zB→Option (List zB))(Y:List zB)(l:Bool):Prop:=(l=false→∀W,C (Y++W)=some W)∧(l=true→∀W,C (Y++W)=none)
def H_(s:List zC)(T:Ai):Prop:=∀(a:Nat) (c:zC),s[a]?=some c→c.2.1≠7→∀x,T[zI s a]?=some x→∀t,t∈x→t.2.1=(Az s Ap 1 a:Nat)→D5 c.2.1 t.2.2.1=true
theorem Lc{T:Ai}{j m:Nat}{deep:Int}{C:List Nat→AR}{R:List zB→Option (List zB)}(hG:∀pos,EW T j m pos (C pos))(h:∀pos Y q l,Au T pos→C pos=some (Y,q,l)→PA R Y l):∀(f:Nat) (pos:List Nat) (n:Nat) (Y:List zB) (q:List Nat) (l:Bool),Au T pos→CR T j deep C f pos=some (n,Y,q,l)→PA (Cq R n) Y l
 |0,_,_,_,_,_,_,he=>by cases he
 |f+1,pos,n,Y,q,l,hp,he=>by
  have FX:some (0,([]:List zB),pos,false)=some (n,Y,q,l)→PA (Cq R n) Y l:=by
   intro he;simp only[zX,Prod.mk.injEq] at he;obtain⟨rfl,rfl,rfl,rfl⟩:=he;exact⟨fun _ W=>rfl,fun h=>by cases h⟩
  simp only[CR] at he;split at he
  ·exact FX he
  ·split at he
   ·split at he
    ·cases he
    ·rename_i x p l1 h1
     split at he
     ·cases he
     ·rename_i n2 y q2 m2 h2
      simp only[zX,Prod.mk.injEq] at he;obtain⟨rfl,rfl,rfl,rfl⟩:=he;obtain⟨a1,a2⟩:=h pos x p l1 hp h1;obtain⟨b1,b2⟩:=Lc hG h f p n2 y q2 m2 ((hG pos _ _ _ h1 hp).1.ok) h2;cases l1 with
      |true=>exact⟨fun h=>(by cases h),fun _ W=>by rw[BC];simp only[Cq];rw[a2 rfl];rfl⟩
      |false=>
       refine⟨fun hl W=> ?_,fun hl W=> ?_⟩
       ·rw[BC];simp only[Cq];rw[a1 rfl];exact b1 hl W
       ·rw[BC];simp only[Cq];rw[a1 rfl];exact b2 hl W
   ·exact FX he
theorem TE{s:List zC}{T:Ai}{d pl mid m:Nat}(hd:d≤6)(hs:zY s d pl mid){C:Int→Int→Int→List Nat→AR}{R:List zB→Option (List zB)}(hG:∀r q p pos,EW T (zI s pl) m pos (C r q p pos))(zA:Int)(hD:∀L,pl≤L→L<mid→zA+(Az s Ap pl L:Nat)=(Az s Ap 1 L:Nat))
 (hC:∀(rep dd deep:Int),(∀L,pl≤L→L<mid→dd+(Az s Ap (pl+1) L:Nat)=(Az s Ap 1 L:Nat))→∀pos Y q l,Au T pos→C rep dd deep pos=some (Y,q,l)→PA R Y l)
 (rep deep:Int) (pos:List Nat) (Y:List zB) (q:List Nat) (l:Bool) (hp:Au T pos) (he:CJ T s C mid pl rep zA deep pos=some (Y,q,l)):PA (Cz s R pl) Y l:=by
 have hend:=F3 hd hs;unfold CJ at he;split at he
 ·cases he
 ·rename_i c hc
  have up:∀dd:Int,dd=zA+(if Ap c=true then 1 else 0:Nat)→∀L,pl≤L→L<mid→dd+(Az s Ap (pl+1) L:Nat)=(Az s Ap 1 L:Nat):=by
   intro dd hdd L h1 h2;have:=II (f:=Ap) hc h1 (by rw[hend];exact h2);have h3:=hD L h1 h2;omega
  split at he
  ·rename_i h0
   have ho:Ap c=false:=by simp[Ap,h0]
   obtain⟨a1,a2⟩:=hC rep zA deep (up zA (by rw[ho];simp)) pos Y q l hp he;have e:∀V,Cz s R pl V=R V:=fun V=>by unfold Cz;rw[hc];simp only;rw[if_pos h0]
   exact⟨fun h W=>by rw[e];exact a1 h W,fun h W=>by rw[e];exact a2 h W⟩
  ·rename_i h0
   have ho:Ap c=true:=by simp[Ap,h0]
   have hup:=up (zA+1) (by rw[if_pos ho];rfl);have e:∀(v:zB) (V:List zB),Cz s R pl (v::V)=if BJ v (if c.2.2.1=2 then 20 else 1)=true then none else Cq R v.1.toNat V:=fun v V=>by
    unfold Cz;rw[hc];simp only;rw[if_neg h0]
   have hcb:∀(n most:Int),BJ (n,zR,()) most= !(decide (0≤n)&&decide (n≤most)):=fun n most=>by
    unfold BJ;have:jk zR ⟨#[]⟩=true:=by rw[Ea];exact zM rfl
    rw[this];rfl
   split at he
   ·cases he
   ·split at he
    ·split at he
     ·cases he
     ·simp only[zX,Prod.mk.injEq] at he
      obtain⟨rfl,rfl,rfl⟩:=he;refine⟨fun _ W=> ?_,fun h=>by cases h⟩;show Cz s R pl (zv::W)=some W;rw[e];unfold zv;rw[hcb];have:decide ((0:Int)≤(if c.2.2.1=2 then 20 else 1))=true:=zM (by split<;>omega);rw[this];rfl
    ·split at he
     ·rename_i h2
      split at he
      ·cases he
      ·rename_i x p l1 h1
       split at he
       ·cases he
       ·rename_i n y q1 m1 h3
        simp only[zX,Prod.mk.injEq] at he;obtain⟨rfl,rfl,rfl⟩:=he;obtain⟨a1,a2⟩:=hC _ _ _ hup pos x p l1 hp h1;obtain⟨b1,b2⟩:=Lc (fun pos=>hG _ _ _ pos) (fun pos Y q l hp h=>hC _ _ _ hup pos Y q l hp h) _ _ _ _ _ _ ((hG _ _ _ _ _ _ _ h1 hp).1.ok) h3;have e2:∀W,Cz s R pl ((((n+1:Nat):Int),zR,())::(x++y)++W)=if 20<n+1 then none else(R (x++(y++W))).bind (Cq R n):=by
         intro W;rw[List.cons_append,e,hcb,if_pos h2];rw[BC];by_cases h20:20<n+1
         ·rw[zN (show ¬(((n+1:Nat):Int)≤20) by omega),Bool.and_false,if_pos h20];rfl
         ·rw[zM (show(((n+1:Nat):Int)≤20) by omega),zM (show(0:Int)≤((n+1:Nat):Int) by omega),if_neg h20]
          show Cq R (((n+1:Nat):Int)).toNat _=_;rw[Int.toNat_natCast];rfl
        constructor
        ·intro hl W
         simp only[Bool.or_eq_false_iff,decide_eq_false_iff_not] at hl;rw[e2,if_neg hl.2,a1 hl.1.1];exact b1 hl.1.2 W
        ·intro hl W
         rw[e2];by_cases h20:20<n+1
         ·rw[if_pos h20]
         ·rw[if_neg h20]
          rw[zN h20,Bool.or_false,Bool.or_eq_true] at hl;cases l1 with
          |true=>rw[a2 rfl];rfl
          |false=>
           rw[a1 rfl];exact b2 (hl.elim (fun h=>by cases h) id) W
     ·rename_i h2
      split at he
      ·cases he
      ·rename_i x p l1 h1
       simp only[zX,Prod.mk.injEq] at he;obtain⟨rfl,rfl,rfl⟩:=he;obtain⟨a1,a2⟩:=hC _ _ _ hup pos x p l1 hp h1;have e2:∀W,Cz s R pl (((1:Int),zR,())::x++W)=R (x++W):=by
        intro W;rw[List.cons_append,e,hcb,if_neg h2];show Cq R 1 (x++W)=R (x++W);simp only[Cq];cases R (x++W)<;>rfl
       exact⟨fun h W=>by rw[e2];exact a1 h W,fun h W=>by rw[e2];exact a2 h W⟩
theorem JQ{s:List zC}{T:Ai}(hR:H_ s T):∀(d a nx:Nat),d≤6→zY s d a nx→∀(rep zA deep:Int),(∀L,a≤L→L<nx→zA+(Az s Ap (a+1) L:Nat)=(Az s Ap 1 L:Nat))→
 ∀pos Y q l,Au T pos→aC T s d a rep zA deep pos=some (Y,q,l)→PA (rC s d a) Y l
 |0,_,_,_,h,_,_,_,_,_,_,_,_,_,_=>h.elim
 |d+1,a,nx,hd,h,rep,zA,deep,hD,pos,Y,q,l,hp,he=>by
  have hlt:=z_ _ _ _ h;obtain⟨c,hc,hco,_,Ad⟩:=h;simp only[aC,hc] at he;split at he
  ·rename_i h7
   have e0:∀V,rC s (d+1) a V=Ed (fun a V=>Cz s (rC s d a) a V) (Aa s d) c.2.2.2.1.toNat (a+1) V:=fun V=>by
    simp only[rC,hc];rw[if_pos h7]
   have key:∀(m pl:Nat) (names:List ByteArray) (pos:List Nat) (Y:List zB) (q:List Nat) (l:Bool),BX (zY s d) s m pl names nx→a+1≤pl→(∀u,a+1≤u→u<pl→Bp s u≤pl)→Au T pos→CY (fun a pos=>CJ T s (aC T s d a) (Aa s d a) a rep zA deep pos) (Aa s d) m pl pos=some (Y,q,l)→
    PA (Ed (fun a V=>Cz s (rC s d a) a V) (Aa s d) m pl) Y l:=by
    intro m
    induction m with
    |zero=>
     intro pl names pos Y q l Ad h1 h2 hp he;simp only[CY,zX,Prod.mk.injEq] at he;obtain⟨rfl,rfl,rfl⟩:=he;exact⟨fun _ W=>rfl,fun h=>by cases h⟩
    |succ m ih=>
     intro pl names pos Y q l Ad h1 h2 hp he;obtain⟨_,mid,_,_,q3,q4⟩:=Ad;have hmn:=CX (z_ d) _ _ _ _ q4;have hend:Aa s d pl=mid:=Dw d q3 d (Nat.le_refl _);have hlt':=z_ _ _ _ q3;simp only[CY] at he;obtain⟨x,p,l1,y,l2,g1,g2,rfl,rfl⟩:=JU he;rw[hend] at g1 g2;have h3:∀u,a+1≤u→u<mid→Bp s u≤mid:=fun u u1 u2=>by
      rcases Nat.lt_or_ge u pl with u3|u3
      ·have:=h2 u u1 u3;omega
      ·exact(Ie (by omega) q3 u3 u2).2
     obtain⟨a1,a2⟩:=TE (R:=rC s d pl) (by omega) q3 (fun r q p pos=>Fq d pl mid q3 r q p pos) zA (fun L l1 l2=>by
      have hsk:=Js (s:=s) (f:=Ap) h1 l1 (fun u u1 u2=>by have:=h2 u u1 u2;omega);rw[←hsk];exact hD L (by omega) (by omega))
      (fun rep dd deep hdd pos Y q l hp h=>JQ hR d pl mid (by omega) q3 rep dd deep hdd pos Y q l hp h) rep deep pos x p l1 hp g1
     obtain⟨b1,b2⟩:=ih mid _ p y q l2 q4 (by omega) h3 ((Ib q3 (fun r q p pos=>Fq d pl mid q3 r q p pos) rep zA deep pos _ _ _ g1 hp).1.ok) g2;have e1:∀V,Ed (fun a V=>Cz s (rC s d a) a V) (Aa s d) (m+1) pl V=(Cz s (rC s d pl) pl V).bind (Ed (fun a V=>Cz s (rC s d a) a V) (Aa s d) m mid):=fun V=>by
      simp only[Ed,hend]
     cases l1 with
     |true=>exact⟨fun h=>(by cases h),fun _ W=>by rw[e1,BC,a2 rfl];rfl⟩
     |false=>
      refine⟨fun hl W=> ?_,fun hl W=> ?_⟩
      ·rw[e1,BC,a1 rfl];exact b1 hl W
      ·rw[e1,BC,a1 rfl];exact b2 hl W
   have:=key _ _ _ _ _ _ _ Ad (Nat.le_refl _) (fun u u1 u2=>by omega) hp he;exact⟨fun h W=>by rw[e0];exact this.1 h W,fun h W=>by rw[e0];exact this.2 h W⟩
  ·rename_i h7
   split at he
   ·cases he
   ·rename_i v q1 h1
    simp only[zX,Prod.mk.injEq] at he;obtain⟨rfl,rfl,rfl⟩:=he;obtain⟨x,p,e1,e2,e3,e4,e5,e6⟩:=FW h1 hp
    have hv:=hR a c hc h7 x e1 _ (List.mem_of_getElem? e3) (by
     have:=hD a (Nat.le_refl _) hlt;rw[KT] at this;simpa using this)
    refine⟨fun _ W=> ?_,fun h=>by cases h⟩;simp only[rC,hc,List.singleton_append];rw[if_neg h7];simp only at hv;rw[hv];rfl
theorem TL{s:List zC}{T:Ai}(hS:Ck s)(hR:H_ s T)(pos:List Nat)(Y:List zB)(q:List Nat)(l:Bool)(hp:Au T pos)(he:aC T s 6 0 0 0 0 pos=some (Y,q,l)):(A7 s Y).isSome=(!l&&decide (Y.length≤300)):=by
 obtain⟨a1,a2⟩:=JQ hR 6 0 s.length (Nat.le_refl _) hS.2.2.1 0 0 0 (fun L h1 h2=>by simp) pos Y q l hp he;unfold A7;by_cases CK:Y.length≤300
 ·rw[if_pos CK,zM CK,Bool.and_true]
  cases l with
  |false=>
   have:=a1 rfl [];rw[AZ] at this;obtain⟨X,hX⟩:=K5 this 0 0 0;rw[hX];rfl
  |true=>
   have:=a2 rfl [];rw[AZ] at this;rw[K4 this 0 0 0];rfl
 ·rw[if_neg CK,zN CK,Bool.and_false];rfl
def BL(s:List zC)(L:Nat):Nat→Nat→List Int
 |0,_=>[]
 |n+1,t=>(if L<Bp s t then[(t:Int)] else[])++BL s L n (t+1)
theorem Lv(s:List zC)(L:Nat):∀(m n t:Nat),(∀u,t≤u→u<t+m→Bp s u≤L)→BL s L (m+n) t=BL s L n (t+m)
 |0,n,t,_=>by simp
 |m+1,n,t,h=>by
  have h1:=h t (Nat.le_refl _) (by omega);have:=Lv s L m n (t+1) (fun u h2 h3=>h u (by omega) (by omega));rw[show m+1+n=(m+n)+1 by omega];simp only[BL];rw[this,show t+1+m=t+(m+1) by omega,if_neg (by omega),List.nil_append]
section
variable(k:Nat)(s:List zC)(hS:Ck s)(hn:∀c,c∈s→c.1.size<k∧c.1.size<1000000000∧AB c.2.2.2.1)(hk:2000000≤k)
include hS hn hk
theorem I9(t:Nat)(ht:t<s.length):t<Bp s t∧Bp s t≤s.length∧Bu k s (t:Int)=some (Bp s t:Int)∧Ao k s (t:Int) 1=some (Bp s t:Int):=by
 obtain⟨nx',e1,e2⟩:=Hz 6 0 s.length hS.2.2.1 t (Nat.zero_le _) ht;have e3:=F3 (Nat.le_refl _) e1;rw[e3];exact⟨z_ _ _ _ e1,e2,FO k s hS.2.1 hn (by omega) e1 (Nat.le_refl _) e2,FZ k s hS.2.1 hn (by omega) e1 (Nat.le_refl _) e2⟩
theorem Un(L:Nat)(hL:L<s.length):Dr k s (L:Int)=some ((),BL s L (L+1) 0):=by
 have Dx:=hS.2.1;have key:∀(n t f:Nat) (o:List Int),t+n=L+1→n<f→o.length≤t→Dr.l3 k f s (L:Int) (t:Int) o=some ((),o++BL s L n t):=by
  intro n
  induction n with
  |zero=>
   intro t f o h hf ho;obtain⟨f,rfl⟩:∃q,f=q+1:=⟨f-1,by omega⟩;simp only[Dr.l3,zN (show ¬((t:Int)≤(L:Int)) by omega),zG,BL,AZ]
  |succ n ih=>
   intro t f o h hf ho;obtain⟨f,rfl⟩:∃q,f=q+1:=⟨f-1,by omega⟩;obtain⟨a1,a2,a3,_⟩:=I9 k s hS hn hk t (by omega);have ht1:IntKind.wrap .i64 ((t:Int)+1)=((t+1:Nat):Int):=by rw[zP (by omega) (by omega)];omega
   simp only[Dr.l3,zM (show(t:Int)≤(L:Int) by omega),zF,a3,zD,Dr.c4,ht1,BL];by_cases h1:L<Bp s t
   ·rw[zM (show(Bp s t:Int)>(L:Int) by omega),zF,Cm (by simp;omega),zF,if_pos h1,ih (t+1) f _ (by omega) (by omega) (by simp;omega)]
    simp
   ·rw[zN (show ¬(Bp s t:Int)>(L:Int) by omega),zG,if_neg h1,ih (t+1) f _ (by omega) (by omega) (by omega)]
    simp
 have:=key (L+1) 0 k [] (by omega) (by omega) (by simp);exact this
theorem Lj(f1 f2:Int)(L:Nat)(hL:L<s.length):∀(n t f:Nat) (pre:List Int) (x y:Nat),t+n=L+1→n<f→x≤t→y≤t→pre.length≤t→
 Ci.l4 k f s (x:Int) (y:Int) (pre.length:Int) (pre++BL s L n t)=some (((x+BB s Ap L n t:Nat):Int),((y+BB s Bz L n t:Nat):Int))∧
 Cc.l6 k f s (x:Int) (y:Int) ((pre++BL s L n t).length:Int) (pre.length:Int) (pre++BL s L n t)=some (((x+BB s Ap L n t:Nat):Int),((y+BB s Bz L n t:Nat):Int)):=by
 have Dx:=hS.2.1;intro n
 induction n with
 |zero=>
  intro t f pre x y h hf hx hy hp;obtain⟨f,rfl⟩:∃q,f=q+1:=⟨f-1,by omega⟩;simp only[Ci.l4,Cc.l6,BL,AZ,zN (show ¬((pre.length:Int)<(pre.length:Int)) by omega),zG,BB,Nat.add_zero];exact⟨trivial,trivial⟩
 |succ n ih=>
  intro t f pre x y h hf hx hy hp;have hc:=Av (show t<s.length by omega);generalize s[t]=c at hc;by_cases h1:L<Bp s t
  ·obtain⟨f,rfl⟩:∃q,f=q+1:=⟨f-1,by omega⟩
   have hi1:IntKind.wrap .i64 ((pre.length:Int)+1)=((pre.length+1:Nat):Int):=by rw[zP (by omega) (by omega)];omega
   have hx1:IntKind.wrap .i64 ((x:Int)+1)=((x+1:Nat):Int):=by rw[zP (by omega) (by omega)];omega
   have hy1:IntKind.wrap .i64 ((y:Int)+1)=((y+1:Nat):Int):=by rw[zP (by omega) (by omega)];omega
   simp only[BL];rw[if_pos h1,List.singleton_append];have dT:∀g:zC→Bool,g c=true→BB s g L (n+1) t=1+BB s g L n (t+1):=fun g hg=>by simp only[BB,hc];rw[if_pos ⟨h1,hg⟩]
   have dF:∀g:zC→Bool,g c=false→BB s g L (n+1) t=BB s g L n (t+1):=fun g hg=>by simp only[BB,hc];rw[if_neg (fun q=>by rw[hg] at q;cases q.2),Nat.zero_add]
   have hg:=DI pre (BL s L n (t+1)) (t:Int);have hlt:(pre.length:Int)<((pre++(t:Int)::BL s L n (t+1)).length:Int):=by simp;omega
   simp only[Ci.l4,Cc.l6,zM hlt,zF,hg,zD,Ak,hc,Ci.c8,Cc.c10,Ci.c5,Cc.c12,hi1,hx1,hy1];have ih':=fun x y hx hy=>ih (t+1) f (pre++[(t:Int)]) x y (by omega) (by omega) hx hy (by simp;omega);simp only[BC,List.singleton_append,A8,Co] at ih';simp only[A8];by_cases ho:c.2.2.1=0
   ·have hr:¬c.2.2.1=2:=by omega
    have i1:Ap c=false:=by simp[Ap,ho]
    have i2:Bz c=false:=by simp[Bz,ho]
    rw[Ba ho,zG,zG,zS hr,zG,zG,dF _ i1,dF _ i2];exact ih' x y (by omega) (by omega)
   ·have i1:Ap c=true:=by simp[Ap,ho]
    by_cases hr:c.2.2.1=2
    ·have i2:Bz c=true:=by simp[Bz,hr]
     rw[Br ho,zF,zF,Al hr,zF,zF,dT _ i1,dT _ i2];have:=ih' (x+1) (y+1) (by omega) (by omega);rw[show x+(1+BB s Ap L n (t+1))=x+1+BB s Ap L n (t+1) by omega,show y+(1+BB s Bz L n (t+1))=y+1+BB s Bz L n (t+1) by omega];exact this
    ·have i2:Bz c=false:=by simp[Bz,hr]
     rw[Br ho,zF,zF,zS hr,zG,zG,dT _ i1,dF _ i2];have:=ih' (x+1) y (by omega) (by omega);rw[show x+(1+BB s Ap L n (t+1))=x+1+BB s Ap L n (t+1) by omega];exact this
  ·have e1:BL s L (n+1) t=BL s L n (t+1):=by simp only[BL];rw[if_neg h1,List.nil_append]
   have e2:∀g,BB s g L (n+1) t=BB s g L n (t+1):=fun g=>by simp only[BB,hc];rw[if_neg (fun q=>h1 q.1),Nat.zero_add]
   rw[e1,e2,e2];exact ih (t+1) f pre x y (by omega) (by omega) (by omega) (by omega) (by omega)
theorem SI(lv:List Int)(j:Int)(L:Nat)(hj:gI lv j=some (L:Int))(hL:L<s.length):∀(N n t f:Nat) (o:List Int),n≤N→t+n=L+1→n<f→o.length≤t→
 Eb.l6 k f s j (t:Int) lv o=some ((),o++BL s L n t):=by
 have Dx:=hS.2.1;intro N
 induction N with
 |zero=>
  intro n t f o hN h hf ho;obtain⟨f,rfl⟩:∃q,f=q+1:=⟨f-1,by omega⟩;have hn0:n=0:=by omega
  subst hn0;simp only[Eb.l6,hj,zD,zN (show ¬((t:Int)≤(L:Int)) by omega),zG,BL,AZ]
 |succ N ih=>
  intro n t f o hN h hf ho;obtain⟨f,rfl⟩:∃q,f=q+1:=⟨f-1,by omega⟩;cases n with
  |zero=>simp only[Eb.l6,hj,zD,zN (show ¬((t:Int)≤(L:Int)) by omega),zG,BL,AZ]
  |succ n=>
   obtain⟨a1,a2,_,a4⟩:=I9 k s hS hn hk t (by omega);have ht1:IntKind.wrap .i64 ((t:Int)+1)=((t+1:Nat):Int):=by rw[zP (by omega) (by omega)];omega
   simp only[Eb.l6,hj,zD,zM (show(t:Int)≤(L:Int) by omega),zF,a4,ht1];by_cases h1:L<Bp s t
   ·rw[zM (show(Bp s t:Int)>(L:Int) by omega),zF,Cm (by simp;omega),zF,ih n (t+1) f _ (by omega) (by omega) (by omega) (by simp;omega)]
    simp only[BL];rw[if_pos h1];simp
   ·rw[zN (show ¬(Bp s t:Int)>(L:Int) by omega),zG]
    obtain⟨nx',e1,e2⟩:=Hz 6 0 s.length hS.2.2.1 t (Nat.zero_le _) (by omega);have e3:=F3 (Nat.le_refl _) e1
    have hsk:=Lv s L (Bp s t-t) (n+1-(Bp s t-t)) t (fun u u1 u2=>by
     have:=(Ie (Nat.le_refl _) e1 u1 (by omega)).2;omega)
    rw[show Bp s t-t+(n+1-(Bp s t-t))=n+1 by omega,show t+(Bp s t-t)=Bp s t by omega] at hsk;rw[hsk];exact ih _ _ f o (by omega) (by omega) (by omega) (by omega)
theorem S9(hok:Cg k s=some true)(hok2:DU k s=some true)(j:Int):
 (∃L c,gI (Bd 0 s) j=some ((L:Nat):Int)∧0≤j∧j<((Bd 0 s).length:Int)∧1≤L∧s[L]?=some c∧c.2.1≠7∧j=(zI s L:Int)∧
  Cc k s j=some ((Az s Ap 1 L:Int),(Az s Bz 1 L:Int))∧Ci k s (L:Int)=some ((Az s Ap 1 L:Int),(Az s Bz 1 L:Int)))∨
 (¬(0≤j∧j<((Bd 0 s).length:Int))∧Cc k s j=some (-1,-1)):=by
 obtain⟨v1,v2⟩:=Gz k (by omega) s (by have:=hS.2.1;omega);have Dx:=hS.2.1;have hll:=G6 0 s;obtain⟨c0,hc0,Ky,_⟩:=IU hS;have xw:c0.2.2.1=0:=by
  obtain⟨_,_,_,c,e1,_,e2,_⟩:=hS;rw[hc0] at e1;cases e1;exact e2
 unfold Cc Eb GZ;rw[hok2];simp only[zD,zF,zG,Ah,v1,v2,E8,D6];generalize hlv:Bd 0 s=lv at hll;rw[zP (show -9223372036854775808≤(lv.length:Int)-1 by omega) (by omega)];by_cases hin:0≤j∧j<(lv.length:Int)
 ·left
  have hw:(decide (0≤j)&&decide (j≤(lv.length:Int)-1))=true:=by simp;omega
  obtain⟨n,rfl⟩:=Int.eq_ofNat_of_zero_le hin.1;have hnl:n<lv.length:=by omega
  obtain⟨L,e1,e2,e3,c,e4,e5⟩:=Gx s [] s rfl n _ (by rw[show([]:List zC).length=0 from rfl,hlv];exact Av hnl);have hg:gI lv (n:Int)=some (L:Int):=by rw[Ak,Av hnl,e1]
  have e3:zI s L=0+n:=e3;have hL:L<s.length:=(List.getElem?_eq_some_iff.1 e4).1;have hL1:1≤L:=by
   rcases Nat.eq_zero_or_pos L with h|h
   ·subst h
    rw[hc0] at e4;cases e4;exact absurd Ky e5
   ·exact h
  have UG:L<Bp s 0:=by rw[F3 (Nat.le_refl _) hS.2.2.1];exact hL
  have hz:∀g:zC→Bool,g c0=false→BB s g L (L+1) 0=Az s g 1 L:=fun g hg=>by
   simp only[BB,hc0];rw[if_neg (fun q=>by rw[hg] at q;cases q.2),Nat.zero_add];unfold Az;rw[show L+1-1=L by omega]
  have z1:=hz Ap (by simp[Ap,xw]);have z2:=hz Bz (by simp[Bz,xw]);have hmx:Ci k s (L:Int)=some ((Az s Ap 1 L:Int),(Az s Bz 1 L:Int)):=by
   have h1:=(Lj k s hS hn hk 0 0 L hL (L+1) 0 k [] 0 0 (by omega) (by omega) (by omega) (by omega) (by simp)).1;rw[z1,z2,Nat.zero_add,Nat.zero_add] at h1;unfold Ci;rw[Un k s hS hn hk L hL];exact h1
  refine⟨L,c,hg,hin.1,hin.2,hL1,e4,e5,by omega,?_,hmx⟩
  ·rw[hw]
   simp only[Ah,zG];have h1:=SI k s hS hn hk lv (n:Int) L hg hL L L 1 k [] (Nat.le_refl _) (by omega) (by omega) (by simp);have h1:Eb.l6 k k s (n:Int) 1 lv []=some ((),BL s L L 1):=h1;rw[h1];simp only[zD];have h2:=(Lj k s hS hn hk 0 0 L hL L 1 k [] 0 0 (by omega) (by omega) (by omega) (by omega) (by simp)).2;have hne:((BL s L L 1).length:Int)≠0:=by
    have:∀n t,t+n=L+1→0<n→0<(BL s L n t).length:=by
     intro n
     induction n with
     |zero=>intro t _ h;omega
     |succ n ih=>
      intro t h _;simp only[BL,A8];rcases Nat.eq_zero_or_pos n with h0|h0
      ·subst h0
       have:t=L:=by omega
       subst this;rw[if_pos (I9 k s hS hn hk t hL).1,Co];omega
      ·have:=ih (t+1) (by omega) h0;omega
    have:=this L 1 (by omega) (by omega);omega
   rw[zS hne,zG];have h2:Cc.l6 k k s 0 0 ((BL s L L 1).length:Int) 0 (BL s L L 1)=some (((0+BB s Ap L L 1:Nat):Int),((0+BB s Bz L L 1:Nat):Int)):=h2;rw[h2,Nat.zero_add,Nat.zero_add];unfold Az;rw[show L+1-1=L by omega]
 ·right
  have hw:(decide (0≤j)&&decide (j≤(lv.length:Int)-1))=false:=by
   rw[Bool.eq_false_iff];intro h;simp only[BK,Cs] at h;omega
  rw[hw];exact⟨hin,rfl⟩
end
section
variable(k:Nat)(s:List zC)(hn:∀c,c∈s→c.1.size<k∧c.1.size<1000000000∧AB c.2.2.2.1)(hk:2000000≤k)
variable(hS:Ck s)(hok:Cg k s=some true)(hok2:DU k s=some true)
include hn hk hS hok hok2
theorem S_(j:Int):∃l b,Hr k s j=some (l,b)∧Iw k s j=some (l,b)∧
 (b=true→∃L c,gI (Bd 0 s) j=some ((L:Nat):Int)∧s[L]?=some c∧c.2.1≠7∧j=(zI s L:Int)∧l=(c.2.1,(Az s Bz 1 L:Int),(Az s Ap 1 L:Int),())):=by
 obtain⟨v1,v2⟩:=Gz k (by omega) s (by have:=hS.2.1;omega);have hll:=G6 0 s;have Dx:=hS.2.1;have hlm:=S9 k s hS hn hk hok hok2 j;unfold Hr Iw IX GZ;rw[hok,hok2];simp only[zD,Ah,zG,v1,v2,E8,D6];generalize hlv:Bd 0 s=lv at hll hlm;rw[zP (show -9223372036854775808≤(lv.length:Int)-1 by omega) (by omega)];rcases hlm with⟨L,c,hg,h0,h1,_,hc,h7,hj,m2,m3⟩|⟨hin,_⟩
 ·have hw:(decide (0≤j)&&decide (j≤(lv.length:Int)-1))=true:=by simp;omega
  rw[hw];simp only[Ah,zG,hg,zD,m2,m3,Ak,hc];exact⟨_,_,rfl,rfl,fun _=>⟨L,c,rfl,hc,h7,hj,rfl⟩⟩
 ·have hw:(decide (0≤j)&&decide (j≤(lv.length:Int)-1))=false:=by
   rw[Bool.eq_false_iff];intro h;simp only[BK,Cs] at h;omega
  rw[hw];exact⟨_,_,rfl,rfl,fun h=>by cases h⟩
end
def C_(l:EY)(t:zO):Bool:=
 (decide (0≤t.1)&&decide (t.1≤l.2.1))&&((decide (0≤t.2.1)&&decide (t.2.1≤l.2.2.1))&&(if t.2.1=l.2.2.1 then D5 l.1 t.2.2.1 else(t.2.2.1.1==0)&&jk t.2.2.1.2.1 ⟨#[]⟩))
theorem Um(k:Nat)(l:EY)(t:zO):IY k l t=some (C_ l t):=by
 unfold IY C_;simp only[E8,zD,Lt];cases hr:(decide (0≤t.1)&&decide (t.1≤l.2.1)) with
 |false=>rfl
 |true=>
  cases hd:(decide (0≤t.2.1)&&decide (t.2.1≤l.2.2.1)) with
  |false=>rfl
  |true=>
   simp only[BK,Cs] at hd;simp only[Ah,zG,zD,Es];by_cases h:t.2.1=l.2.2.1
   ·rw[zN (by omega),zG,if_pos h]
   ·rw[zM (by omega),zF,if_neg h,Bool.and_true]
theorem SH(k:Nat)(l:EY)(t:zO):IE k l t=some (C_ l t):=by
 unfold IE C_;simp only[D6,zD,JG];cases hr:(decide (0≤t.1)&&decide (t.1≤l.2.1)) with
 |false=>rfl
 |true=>
  cases hd:(decide (0≤t.2.1)&&decide (t.2.1≤l.2.2.1)) with
  |false=>rfl
  |true=>
   simp only[Ah,zG,zD,Es];by_cases h:t.2.1=l.2.2.1
   ·rw[Al h,zF,if_pos h]
   ·rw[zS h,zG,if_neg h,Bool.and_true]
def Bb(x:List zO):Nat:=(x.filter fun t=>t.1==0).length
theorem TM(t:zO)(x:List zO):Bb (t::x)=(if t.1=0 then 1 else 0)+Bb x:=by
 unfold Bb;rw[List.filter_cons];by_cases h:t.1=0
 ·rw[Al h,if_pos h];simp;omega
 ·rw[zS h,if_neg h];simp
theorem Ld(k:Nat)(x:List zO)(hx:x.length≤1048576)(hk:2000000≤k):Di k x=some (Bb x:Int)∧Dg k x=some (Bb x:Int):=by
 have key:∀(post pre:List zO) (f n:Nat),x=pre++post→post.length<f→n≤pre.length→Di.l3 k f x (n:Int) (pre.length:Int)=some ((n+Bb post:Nat):Int)∧Dg.l3 k f (n:Int) x (x.length:Int) (pre.length:Int)=some ((n+Bb post:Nat):Int):=by
  intro post
  induction post with
  |nil=>
   intro pre f n h hf hn;obtain⟨f,rfl⟩:∃q,f=q+1:=⟨f-1,by omega⟩;rw[AZ] at h;subst h;simp only[Di.l3,Dg.l3,zN (show ¬((x.length:Int)<(x.length:Int)) by omega),zG];exact⟨rfl,rfl⟩
  |cons t post ih=>
   intro pre f n h hf hn;simp only[Ct] at hf;obtain⟨f,rfl⟩:∃q,f=q+1:=⟨f-1,by omega⟩;have hlen:x.length=pre.length+(post.length+1):=by rw[h];simp
   have hg:gI x (pre.length:Int)=some t:=by rw[h];exact DI _ _ _
   have hi1:IntKind.wrap .i64 ((pre.length:Int)+1)=((pre.length+1:Nat):Int):=by rw[zP (by omega) (by omega)];omega
   have hn1:IntKind.wrap .i64 ((n:Int)+1)=((n+1:Nat):Int):=by rw[zP (by omega) (by omega)];omega
   have hi:=fun(n:Nat) (hnn:n≤pre.length+1)=>ih (pre++[t]) f n (by rw[h];simp) (by omega) (by rw[A8,Co];exact hnn);rw[A8,Co] at hi;simp only[Di.l3,Dg.l3,zM (show(pre.length:Int)<(x.length:Int) by omega),zF,hg,zD,Di.c4,Dg.c7,hi1,hn1];rw[TM];by_cases h0:t.1=0
   ·rw[Al h0,zF,zF,if_pos h0,show n+(1+Bb post)=n+1+Bb post by omega]
    exact hi (n+1) (by omega)
   ·rw[zS h0,zG,zG,if_neg h0,Nat.zero_add]
    exact hi n (by omega)
 have:=key x [] k 0 rfl (by omega) (by simp);rw[Nat.zero_add] at this;exact this
section
variable(k:Nat)(s:List zC)(hn:∀c,c∈s→c.1.size<k∧c.1.size<1000000000∧AB c.2.2.2.1)(hk:2000000≤k)
variable(hS:Ck s)(hok:Cg k s=some true)(hok2:DU k s=some true)
include hn hk hS hok hok2
def FJ(s:List zC)(j:Nat)(x:List zO):Prop:=x.length≤2000∧(∀t r,x=t::r→t.1=0)∧∀(L:Nat) (c:zC),s[L]?=some c→c.2.1≠7→zI s L=j→∀t,t∈x→C_ (c.2.1,(Az s Bz 1 L:Int),(Az s Ap 1 L:Int),()) t=true
theorem Ur(j:Nat)(x:List zO)(hx:x.length≤1048576):∃b,Eu k s (j:Int) x=some b∧Iz k s (j:Int) x=some b∧(b=true→FJ s j x)∧(b=false→j<zI s s.length→¬FJ s j x):=by
 obtain⟨l,b,e1,e2,e3⟩:=S_ k s hn hk hS hok hok2 (j:Int);have sl:∀(post pre:List zO) (f:Nat),x=pre++post→post.length<f→Eu.l5 k f x (pre.length:Int) l=some (post.all (C_ l)):=by
  intro post
  induction post with
  |nil=>
   intro pre f h hf;obtain⟨f,rfl⟩:∃q,f=q+1:=⟨f-1,by omega⟩;rw[AZ] at h;subst h;simp only[Eu.l5,zN (show ¬((x.length:Int)<(x.length:Int)) by omega),zG];rfl
  |cons t post ih=>
   intro pre f h hf;simp only[Ct] at hf;obtain⟨f,rfl⟩:∃q,f=q+1:=⟨f-1,by omega⟩;have hlen:x.length=pre.length+(post.length+1):=by rw[h];simp
   have hg:gI x (pre.length:Int)=some t:=by rw[h];exact DI _ _ _
   have hi1:IntKind.wrap .i64 ((pre.length:Int)+1)=((pre.length+1:Nat):Int):=by rw[zP (by omega) (by omega)];omega
   have hi:=ih (pre++[t]) f (by rw[h];simp) (by omega);rw[A8,Co] at hi;simp only[Eu.l5,zM (show(pre.length:Int)<(x.length:Int) by omega),zF,hg,zD,Um,hi1,hi,List.all_cons];cases C_ l t<;>rfl
 have il:∀(post pre:List zO) (f:Nat),x=pre++post→post.length<f→EI.l2 k f x x (x.length:Int) (pre.length:Int) l=some (post.all (C_ l)&&decide (x.length≤2000)):=by
  intro post
  induction post with
  |nil=>
   intro pre f h hf;obtain⟨f,rfl⟩:∃q,f=q+1:=⟨f-1,by omega⟩;rw[AZ] at h;subst h;simp only[EI.l2,zN (show ¬((x.length:Int)<(x.length:Int)) by omega),zG,List.all_nil,Es]
   congr 1
   by_cases h:x.length≤2000
   ·rw[zM h,zM (by omega)]
   ·rw[zN h,zN (by omega)]
  |cons t post ih=>
   intro pre f h hf;simp only[Ct] at hf;obtain⟨f,rfl⟩:∃q,f=q+1:=⟨f-1,by omega⟩;have hlen:x.length=pre.length+(post.length+1):=by rw[h];simp
   have hg:gI x (pre.length:Int)=some t:=by rw[h];exact DI _ _ _
   have hi1:IntKind.wrap .i64 ((pre.length:Int)+1)=((pre.length+1:Nat):Int):=by rw[zP (by omega) (by omega)];omega
   have hi:=ih (pre++[t]) f (by rw[h];simp) (by omega);rw[A8,Co] at hi;simp only[EI.l2,zM (show(pre.length:Int)<(x.length:Int) by omega),zF,hg,zD,SH,hi1,hi,List.all_cons];cases C_ l t<;>rfl
 have sl0:Eu.l5 k k x 0 l=some (x.all (C_ l)):=sl x [] k rfl (by omega);have Sz:EI.l2 k k x x (x.length:Int) 0 l=some (x.all (C_ l)&&decide (x.length≤2000)):=il x [] k rfl (by omega);have Sg:(cond (decide ((x.length:Int)>0)) ((gI x 0).bind fun y5=>some (y5.1 !=0)) (some false))=some (match x with|[]=>false|t::_=>t.1 !=0):=by
  cases x with
  |nil=>rfl
  |cons t r=>
   rw[zM (by simp only[Ct];omega)];rfl
 have Si:(cond ((x.length:Int)==0) (some true) ((gI x 0).bind fun y5=>some (y5.1==0)))=some (match x with|[]=>true|t::_=>t.1==0):=by
  cases x with
  |nil=>rfl
  |cons t r=>
   rw[zS (by simp only[Ct];omega)];rfl
 unfold Eu Iz EI;simp only[e1,e2,zD,Sz,sl0,Sg,Si];have hall:b=true→((x.all (C_ l)=true)↔∀(L:Nat) (c:zC),s[L]?=some c→c.2.1≠7→zI s L=j→∀t,t∈x→C_ (c.2.1,(Az s Bz 1 L:Int),(Az s Ap 1 L:Int),()) t=true):=by
  intro hb;obtain⟨L,c,q1,q2,q3,q4,q5⟩:=e3 hb;rw[q5,List.all_eq_true];constructor
  ·intro h L' c' h1 h2 h3 t ht
   have:L'=L:=G7 h1 q2 h2 q3 (by omega);subst this;rw[q2] at h1;cases h1;exact h t ht
  ·intro h t ht
   exact h L c q2 q3 (by omega) t ht
 have hb0:b=false→¬j<zI s s.length:=by
  intro hb hj;have hl:=Gy s [] s rfl;have hl':(Bd 0 s).length=zI s s.length:=hl;obtain⟨v1,v2⟩:=Gz k (by omega) s (by have:=hS.2.1;omega);unfold Hr IX at e1;rw[hok] at e1;have hll:=G6 0 s;have Dx:=hS.2.1;simp only[zD,Ah,zG,v2,E8] at e1;rw[zP (show -9223372036854775808≤((Bd 0 s).length:Int)-1 by omega) (by omega),show(decide ((0:Int)≤(j:Int))&&decide ((j:Int)≤((Bd 0 s).length:Int)-1))=true by simp;omega] at e1;simp only[Ah,zG] at e1;cases h1:gI (Bd 0 s) (j:Int) with
  |none=>rw[h1] at e1;cases e1
  |some y=>
   rw[h1] at e1;simp only[zD] at e1;cases h2:Ci k s y with
   |none=>rw[h2] at e1;cases e1
   |some z=>
    rw[h2] at e1;simp only[zD] at e1;cases h3:gI s y with
    |none=>rw[h3] at e1;cases e1
    |some w=>
     rw[h3] at e1;simp only[zD,zX,Prod.mk.injEq] at e1;rw[hb] at e1;cases e1.2
 cases b with
 |false=>exact⟨false,rfl,rfl,fun h=>(by cases h),fun _ h=>absurd h (hb0 rfl)⟩
 |true=>
  have hall:=hall rfl;simp only[Ah,zG,zF,zD];by_cases GU:x.length≤2000
  ·rw[zN (show ¬((x.length:Int)>2000) by omega),zM GU,Bool.and_true]
   simp only[zG,zD];cases x with
   |nil=>
    simp only[zG,List.all_nil,zF,zD];exact⟨true,rfl,rfl,fun _=>⟨GU,fun t r h=>(by cases h),hall.1 rfl⟩,fun h=>by cases h⟩
   |cons t r=>
    simp only;by_cases h0:t.1=0
    ·rw[Ba h0,Al h0]
     simp only[zG];refine⟨(t::r).all (C_ l),rfl,?_,fun hb=>⟨GU,fun t' r' h=>(by cases h;exact h0),hall.1 hb⟩,fun hb _ hc=> ?_⟩
     ·cases(t::r).all (C_ l)<;>rfl
     ·rw[hall.2 hc.2.2] at hb;cases hb
    ·rw[Br h0,zS h0]
     simp only[zF];refine⟨false,rfl,?_,fun hb=>(by cases hb),fun _ _ hc=>h0 (hc.2.1 t r rfl)⟩;cases(t::r).all (C_ l)<;>rfl
  ·rw[zM (show((x.length:Int)>2000) by omega),zN GU,Bool.and_false]
   exact⟨false,rfl,rfl,fun h=>(by cases h),fun _ _ hc=>absurd hc.1 GU⟩
end
def DD(T:Ai)(s:List zC):Nat→List Nat→Option (List Ay×List Nat×Bool)
 |0,pos=>some ([],pos,false)
 |n+1,pos=>match aC T s 6 0 0 0 0 pos with
  |none=>none
  |some (Y,q,l)=>match DD T s n q with
   |none=>none
   |some (R,q',l')=>some ((Y,())::R,q',(l||decide (300<Y.length))||l')
def D_:Ai→List Nat→Bool
 |x::T,p::pos=>(p==x.length)&&D_ T pos
 |_,_=>true
theorem JR{T:Ai}{s:List zC}(hS:Ck s)(hR:H_ s T):∀(n:Nat) (pos:List Nat) (R:List Ay) (q:List Nat) (l:Bool),Au T pos→DD T s n pos=some (R,q,l)→
 Au T q∧R.length=n∧l= !(R.all fun r=>(A7 s r.1).isSome)
 |0,pos,R,q,l,hp,h=>by
  simp only[DD,zX,Prod.mk.injEq] at h;obtain⟨rfl,rfl,rfl⟩:=h;exact⟨hp,rfl,rfl⟩
 |n+1,pos,R,q,l,hp,h=>by
  simp only[DD] at h;split at h
  ·cases h
  ·rename_i Y q1 l1 h1
   split at h
   ·cases h
   ·rename_i R2 q2 l2 h2
    simp only[zX,Prod.mk.injEq] at h;obtain⟨rfl,rfl,rfl⟩:=h;obtain⟨a1,_,_⟩:=Fq 6 0 s.length hS.2.2.1 0 0 0 pos _ _ _ h1 hp;obtain⟨b1,b2,b3⟩:=JR hS hR n q1 R2 q2 l2 a1.ok h2;refine⟨b1,by simp[b2],?_⟩;rw[List.all_cons,TL hS hR pos Y q1 l1 hp h1,b3];have:decide (300<Y.length)= !decide (Y.length≤300):=by
     by_cases h:Y.length≤300
     ·rw[zM h,zN (by omega)];rfl
     ·rw[zN h,zM (by omega)];rfl
    rw[this];cases l1<;>cases decide (Y.length≤300)<;>simp
section
variable(k:Nat)(s:List zC)(hn:∀c,c∈s→c.1.size<k∧c.1.size<1000000000∧AB c.2.2.2.1)(hk:2000000≤k)
variable(hS:Ck s)(hok:Cg k s=some true)(hok2:DU k s=some true)
include hn hk hS hok hok2
theorem LD(T:Ai)(hT:T.length=zI s s.length)(hx:∀x,x∈T→x.length≤1048576):∀(post pre:Ai) (f:Nat),T=pre++post→post.length<f→
 ((∀(i:Nat) (x:List zO),post[i]?=some x→FJ s (pre.length+i) x)∧
  (∃f',0<f'∧Aw.l5 k f s (T.map Ab) (pre.length:Int) []=Aw.l5 k f' s (T.map Ab) (T.length:Int) [])∧
  (∃f',0<f'∧Bq.l4 k f s (T.map Ab) (T.map Ab) (T.length:Int) (pre.length:Int)=Bq.l4 k f' s (T.map Ab) (T.map Ab) (T.length:Int) (T.length:Int)))∨
 (¬(∀(i:Nat) (x:List zO),post[i]?=some x→FJ s (pre.length+i) x)∧Aw.l5 k f s (T.map Ab) (pre.length:Int) []=some (((),1),[])∧Bq.l4 k f s (T.map Ab) (T.map Ab) (T.length:Int) (pre.length:Int)=some (((),1),[])):=by
 have Fv:=Ep s s.length;have Dx:=hS.2.1;intro post
 induction post with
 |nil=>
  intro pre f h hf;rw[AZ] at h;subst h;exact .inl ⟨fun i x h=>by simp at h,⟨f,by omega,rfl⟩,⟨f,by omega,rfl⟩⟩
 |cons x post ih=>
  intro pre f h hf;simp only[Ct] at hf;obtain⟨f,rfl⟩:∃q,f=q+1:=⟨f-1,by omega⟩;have hlen:T.length=pre.length+(post.length+1):=by rw[h];simp
  have hg:gI (T.map Ab) (pre.length:Int)=some (x,()):=DY (by rw[h];simp);have hi1:IntKind.wrap .i64 ((pre.length:Int)+1)=((pre.length+1:Nat):Int):=by rw[zP (by omega) (by omega)];omega
  obtain⟨b,e1,e2,e3,e4⟩:=Ur k s hn hk hS hok hok2 pre.length x (hx x (by rw[h];simp));have hml:((T.map Ab).length:Int)=(T.length:Int):=by rw[List.length_map]
  simp only[Aw.l5,Bq.l4,hml,zM (show(pre.length:Int)<(T.length:Int) by omega),zF,hg,zD,e1,e2,hi1];cases b with
  |false=>
   simp only[Bf,zF];refine .inr ⟨fun hh=>e4 rfl (by omega) (hh 0 x rfl),trivial,trivial⟩
  |true=>
   simp only[Ah,zG];have hi:=ih (pre++[x]) f (by rw[h];simp) (by omega);rw[A8,Co] at hi;rcases hi with⟨h1,h2,h3⟩|⟨h1,h2,h3⟩
   ·refine .inl ⟨fun i y hy=> ?_,h2,h3⟩
    cases i with
    |zero=>
     simp only[List.getElem?_cons_zero,zX] at hy;subst hy;exact e3 rfl
    |succ i=>
     simp only[List.getElem?_cons_succ] at hy;have:=h1 i y hy;rw[show pre.length+(i+1)=pre.length+1+i by omega];exact this
   ·refine .inr ⟨fun hh=>h1 fun i y hy=> ?_,h2,h3⟩
    have:=hh (i+1) y (by simpa using hy);rw[show pre.length+(i+1)=pre.length+1+i by omega] at this;exact this
theorem LH(T:Ai)(hx:∀x,x∈T→x.length≤2000)(Sa:T.length≤20)(n:Nat)(hn2:n≤2000):∀(post pre:Ai) (f:Nat),T=pre++post→post.length<f→
 Aw.F8 k f s (T.map Ab) (n:Int) (pre.length:Int) []=(if(∀x,x∈post→Bb x=n)∧(post≠[]→n≤200) then Aw.E5 k k s (T.map Ab) (n:Int) 0 [] (List.replicate T.length 0) else some (((),2),[]))∧
 EH.l3 k f (n:Int) (T.map Ab) (T.length:Int) (pre.length:Int)=some (if ∀x,x∈post→Bb x=n then((n:Int),decide (n≤200)) else(0,false)):=by
 intro post
 induction post with
 |nil=>
  intro pre f h hf;obtain⟨f,rfl⟩:∃q,f=q+1:=⟨f-1,by omega⟩;rw[AZ] at h;subst h;have hml:((T.map Ab).length:Int)=(T.length:Int):=by rw[List.length_map]
  simp only[Aw.F8,EH.l3,hml,zN (show ¬((T.length:Int)<(T.length:Int)) by omega),zG];rw[IK (by omega) (by omega),zF,Int.toNat_natCast,if_pos ⟨fun x h=>by simp at h,fun h=>absurd rfl h⟩,if_pos (fun x h=>by simp at h)];refine⟨rfl,?_⟩
  congr 2
  by_cases h:n≤200
  ·rw[zM h,zM (by omega)]
  ·rw[zN h,zN (by omega)]
 |cons x post ih=>
  intro pre f h hf;simp only[Ct] at hf;obtain⟨f,rfl⟩:∃q,f=q+1:=⟨f-1,by omega⟩;have hlen:T.length=pre.length+(post.length+1):=by rw[h];simp
  have hg:gI (T.map Ab) (pre.length:Int)=some (x,()):=DY (by rw[h];simp);have hi1:IntKind.wrap .i64 ((pre.length:Int)+1)=((pre.length+1:Nat):Int):=by rw[zP (by omega) (by omega)];omega
  have hx1:=hx x (by rw[h];simp);obtain⟨r1,r2⟩:=Ld k x (by omega) hk;have hml:((T.map Ab).length:Int)=(T.length:Int):=by rw[List.length_map]
  have hi:=ih (pre++[x]) f (by rw[h];simp) (by omega);rw[A8,Co] at hi;simp only[Aw.F8,EH.l3,hml,zM (show(pre.length:Int)<(T.length:Int) by omega),zF,hg,zD,r1,r2,hi1,cst];by_cases h1:Bb x=n
  ·rw[Ba (show(Bb x:Int)=(n:Int) by omega),Fa,zG,hi.1,hi.2]
   constructor
   ·by_cases h2:n≤200
    ·rw[zN (by omega),zG]
     have:((∀y,y∈post→Bb y=n)∧(post≠[]→n≤200))↔((∀y,y∈x::post→Bb y=n)∧(x::post≠[]→n≤200)):=
      ⟨fun hh=>⟨fun y hy=>(List.mem_cons.1 hy).elim (fun e=>by rw[e];exact h1) (hh.1 y),fun _=>h2⟩,fun hh=>⟨fun y hy=>hh.1 y (List.mem_cons_of_mem _ hy),fun _=>h2⟩⟩
     simp only[this]
    ·rw[zM (by omega),zF,if_neg (fun hh=>h2 (hh.2 (by simp)))]
   ·have:(∀y,y∈post→Bb y=n)↔(∀y,y∈x::post→Bb y=n):=
     ⟨fun hh y hy=>(List.mem_cons.1 hy).elim (fun e=>by rw[e];exact h1) (hh y),fun hh y hy=>hh y (List.mem_cons_of_mem _ hy)⟩
    simp only[this]
  ·rw[Br (show ¬(Bb x:Int)=(n:Int) by omega),GA,zF,zF,if_neg (fun hh=>h1 (hh.1 x (List.mem_cons_self ..))),if_neg (fun hh=>h1 (hh x (List.mem_cons_self ..)))]
   exact⟨rfl,rfl⟩
theorem LC(T:Ai)(Sa:T.length≤20)(wV:∀x,x∈T→x.length≤2000)(nums:List Int)(l:Bool)(recs:List Ay)(pos:List Nat)(hp:Au T pos):∀(post pre:Ai) (FT Hf:List Nat) (f:Nat),T=pre++post→pos=Hf++FT→Hf.length=pre.length→post.length<f→
 Aw.FM k f s (T.map Ab) (pre.length:Int) recs (ip pos)=cond (D_ post FT) (Aw.FN k k s 0 recs) (some (((),3),[]))∧
 Eo.l2 k f (T.map Ab) (T.length:Int) (pre.length:Int) (jn s T nums false l) (ip pos)=some (D_ post FT,(jn s T nums false l,ip pos)):=by
 intro post
 induction post with
 |nil=>
  intro pre FT Hf f h hpq hpl hf;obtain⟨f,rfl⟩:∃q,f=q+1:=⟨f-1,by omega⟩;rw[AZ] at h;subst h;have hml:((T.map Ab).length:Int)=(T.length:Int):=by rw[List.length_map]
  simp only[Aw.FM,Eo.l2,hml,zN (show ¬((T.length:Int)<(T.length:Int)) by omega),zG,D_,zF];exact⟨trivial,trivial⟩
 |cons x post ih=>
  intro pre FT Hf f h hpq hpl hf;simp only[Ct] at hf;obtain⟨f,rfl⟩:∃q,f=q+1:=⟨f-1,by omega⟩;have hlen:T.length=pre.length+(post.length+1):=by rw[h];simp
  have Sq:=hp.1;cases FT with
  |nil=>
   rw[AZ] at hpq;rw[hpq] at Sq;omega
  |cons p FT=>
   have hgx:T[pre.length]?=some x:=by rw[h];simp
   have hg:gI (T.map Ab) (pre.length:Int)=some (x,()):=DY hgx;have Sk:pos[pre.length]?=some p:=by rw[hpq,←hpl];simp
   have bM:gI (ip pos) (pre.length:Int)=some (p:Int):=Et Sk;have hi1:IntKind.wrap .i64 ((pre.length:Int)+1)=((pre.length+1:Nat):Int):=by rw[zP (by omega) (by omega)];omega
   have hml:((T.map Ab).length:Int)=(T.length:Int):=by rw[List.length_map]
   have hi:=ih (pre++[x]) FT (Hf++[p]) f (by rw[h];simp) (by rw[hpq];simp) (by simp[hpl]) (by omega);rw[A8,Co] at hi;simp only[Aw.FM,Eo.l2,hml,zM (show(pre.length:Int)<(T.length:Int) by omega),zF,hg,bM,zD,hi1,D_];by_cases h1:p=x.length
   ·rw[Ba (by omega),zG,zG,hi.1,hi.2]
    have:(p==x.length)=true:=by simpa using h1
    rw[this,Es];exact⟨rfl,rfl⟩
   ·rw[Br (by omega),zF,zF]
    have:(p==x.length)=false:=by simpa using h1
    rw[this,IQ];exact⟨rfl,rfl⟩
theorem LG(R:List Ay)(hR:R.length≤200):∀(post pre:List Ay) (f:Nat),R=pre++post→post.length<f→
 Aw.FN k f s (pre.length:Int) R=some (cond (post.all (fun r=>(A7 s r.1).isSome)) (((),0),R) (((),4),[])):=by
 intro post
 induction post with
 |nil=>
  intro pre f h hf;obtain⟨f,rfl⟩:∃q,f=q+1:=⟨f-1,by omega⟩;rw[AZ] at h;subst h;simp only[Aw.FN,zN (show ¬((R.length:Int)<(R.length:Int)) by omega),zG,List.all_nil,zF]
 |cons r post ih=>
  intro pre f h hf;simp only[Ct] at hf;obtain⟨f,rfl⟩:∃q,f=q+1:=⟨f-1,by omega⟩;have hlen:R.length=pre.length+(post.length+1):=by rw[h];simp
  have hg:gI R (pre.length:Int)=some r:=by rw[h];exact DI _ _ _
  have hi1:IntKind.wrap .i64 ((pre.length:Int)+1)=((pre.length+1:Nat):Int):=by rw[zP (by omega) (by omega)];omega
  have q2:DR k s r=some (A7 s r.1).isSome:=TN k hk s hn hS hok r.1;have hi:=ih (pre++[r]) f (by rw[h];simp) (by omega);rw[A8,Co] at hi;simp only[Aw.FN,zM (show(pre.length:Int)<(R.length:Int) by omega),zF,hg,zD,q2,hi1,hi,List.all_cons];cases(A7 s r.1).isSome<;>rfl
theorem LF(T:Ai)(hT:T.length=zI s s.length)(wV:∀x,x∈T→x.length≤2000)(nums:List Int)(hN:∀(a:Nat) (c:zC),s[a]?=some c→c.2.1≠7→gI nums (a:Int)=some (zI s a:Int))(n:Nat)(Sn:n≤200):
 ∀(m i f:Nat) (recs:List Ay) (pos:List Nat) (l:Bool),n=i+m→m+1<f→recs.length≤i→Au T pos→
 match DD T s m pos with
 |none=>Aw.E5 k f s (T.map Ab) (n:Int) (i:Int) recs (ip pos)=some (((),3),[])∧Bq.Dh k f (n:Int) (i:Int) (jn s T nums false l) recs (ip pos)=some (((),3),[])
 |some (R,q,l2)=>Aw.E5 k f s (T.map Ab) (n:Int) (i:Int) recs (ip pos)=Aw.FM k k s (T.map Ab) 0 (recs++R) (ip q)∧
  Bq.Dh k f (n:Int) (i:Int) (jn s T nums false l) recs (ip pos)=((Eo k (jn s T nums false (l||l2)) (ip q)).bind fun r4=>cond (!r4.1) (some (((),3),[])) (cond r4.2.1.2.2.2.2.2.2.1 (some (((),4),[])) (some (((),0),recs++R)))):=by
 have Dx:=hS.2.1;intro m
 induction m with
 |zero=>
  intro i f recs pos l hi hf hrl hp;obtain⟨f,rfl⟩:∃q,f=q+1:=⟨f-1,by omega⟩;simp only[DD,Aw.E5,Bq.Dh,zN (show ¬((i:Int)<(n:Int)) by omega),zG,zD,AZ,Bool.or_false];exact⟨trivial,trivial⟩
 |succ m ih=>
  intro i f recs pos l hi hf hrl hp;obtain⟨f,rfl⟩:∃q,f=q+1:=⟨f-1,by omega⟩;have hi1:IntKind.wrap .i64 ((i:Int)+1)=((i+1:Nat):Int):=by rw[zP (by omega) (by omega)];omega
  have hroom:Room 6 [] pos:=by unfold Room;simp only[List.length_nil];omega
  have h1:=TW k s Dx hn hk T hT wV 6 k 0 s.length hS.2.2.1 (Nat.le_refl _) (by omega) (by omega) 0 0 0 pos [] hp (by omega) (by omega) (by omega) (by omega) hroom;have h2:=Sw k s Dx hn hk T hT wV nums hN 6 k 0 s.length hS.2.2.1 (Nat.le_refl _) (by omega) (by omega) 0 0 0 pos [] l hp (by omega) (by omega) (by omega) (by omega) hroom;have hlim:∀r:Ay,lim (recs.length+[r].length)=true:=fun r=>Cm (by simp;omega);simp only[DD,Aw.E5,Bq.Dh,zM (show(i:Int)<(n:Int) by omega),zF,hi1,zD,Bf];cases hC:aC T s 6 0 0 0 0 pos with
  |none=>
   rw[hC] at h1 h2;obtain⟨p1,v1,e1⟩:=h1;obtain⟨nx',l',pos',v,e2,e3,e4⟩:=h2;have e1:AP k s 0 (T.map Ab) 0 0 0 (ip pos) []=some (((),false),(p1,v1)):=e1;have e3:zV k 0 0 0 0 (jn s T nums false l) (ip pos) []=some (nx',(jn s T nums true l',ip pos',v)):=e3;obtain⟨f,rfl⟩:∃q,f=q+1:=⟨f-1,by omega⟩;simp only[e1,e3,zD,Bf,zF,hlim,cst,Bq.Dh,Ah,CO,Bool.and_false,zG];exact⟨trivial,trivial⟩
  |some r=>
   obtain⟨Y,q,l1⟩:=r;rw[hC] at h1 h2;have e1:AP k s 0 (T.map Ab) 0 0 0 (ip pos) []=some (((),true),(ip q,[]++Y)):=h1;have e3:zV k 0 0 0 0 (jn s T nums false l) (ip pos) []=some ((s.length:Int),(jn s T nums false (l||l1),ip q,[]++Y)):=h2;obtain⟨a1,_,_⟩:=Fq 6 0 s.length hS.2.2.1 0 0 0 pos _ _ _ hC hp;rw[List.nil_append] at e1 e3;simp only[e1,e3,zD,Ah,zG,hlim,zF,cst];have hb:decide ((Y.length:Int)>300)=decide (300<Y.length):=by
    by_cases h:300<Y.length
    ·rw[zM h,zM (by omega)]
    ·rw[zN h,zN (by omega)]
   have hii:=ih (i+1) f (recs++[(Y,())]) q (l||l1||decide ((Y.length:Int)>300)) (by omega) (by omega) (by simp;omega) a1.ok;cases hA:DD T s m q with
   |none=>
    rw[hA] at hii;exact hii
   |some r2=>
    obtain⟨R,q',l'⟩:=r2;rw[hA] at hii;simp only at hii⊢;rw[hii.1,hii.2,hb,BC,List.singleton_append];refine⟨rfl,?_⟩;rw[show(l||l1||decide (300<Y.length)||l')=(l||(l1||decide (300<Y.length)||l')) by rw[Bool.or_assoc,Bool.or_assoc,Bool.or_assoc]]
end
def JV(s:List zC)(T:Ai)(n:Nat):Int×List Ay:=match DD T s n (List.replicate T.length 0) with
 |none=>(3,[])
 |some (R,q,_)=>cond (D_ T q) (cond (R.all (fun r=>(A7 s r.1).isSome)) (0,R) (4,[])) (3,[])
section
variable(k:Nat)(s:List zC)(hn:∀c,c∈s→c.1.size<k∧c.1.size<1000000000∧AB c.2.2.2.1)(hk:2000000≤k)
include hn hk
theorem LK(T:Ai)(KD:T.length≤1048576)(hx:∀x,x∈T→x.length≤1048576):∃code out,Aw k s (T.map Ab)=some (((),code),out)∧Bq k s (T.map Ab)=some (((),code),out)∧out.length≤200∧(∀r,r∈out→r.1.length≤300)∧
 (Cg k s=some true→Ck s∧(T.length=zI s s.length→(∀(j:Nat) (x:List zO),T[j]?=some x→FJ s j x)→∀x0,T[0]?=some x0→(∀x,x∈T→Bb x=Bb x0)→Bb x0≤200→(code,out)=JV s T (Bb x0)))∧
 ((code=0→Cg k s=some true∧T.length=zI s s.length∧(∀(j:Nat) (x:List zO),T[j]?=some x→FJ s j x)∧∃n R q l,n≤200∧DD T s n (List.replicate T.length 0)=some (R,q,l)∧D_ T q=true∧out=R∧R.all (fun r=>(A7 s r.1).isSome)=true)∧(code≠0→out=[])):=by
 obtain⟨b,h1,h2,h3⟩:=Ho k (by omega) s hn;have hml:((T.map Ab).length:Int)=(T.length:Int):=by rw[List.length_map]
 unfold Aw Bq;rw[h1,h2];simp only[zD];cases b with
 |false=>exact⟨1,[],rfl,rfl,by simp,fun r h=>(by cases h),(fun h=>by cases h),⟨fun h=>absurd h (by decide),fun _=>rfl⟩⟩
 |true=>
  have hS:=(h3 rfl).1;have Dx:=hS.2.1;obtain⟨v1,v2⟩:=Gz k (by omega) s (by omega);have hl:(Bd 0 s).length=zI s s.length:=Gy s [] s rfl;have Fv:=Ep s s.length;have hpos:=G8 hS.2.2.1;simp only[Ah,zG,v1,v2,zD,hml,hl];by_cases hlen:T.length=zI s s.length
  ·rw[Ba (by omega),zG,zG]
   have hf:=LD k s hn hk hS h1 h2 T hlen hx T [] k rfl (by omega);rcases hf with⟨f1,⟨g1,UA,f2⟩,⟨g2,UB,f3⟩⟩|⟨f1,f2,f3⟩
   ·have f2:Aw.l5 k k s (T.map Ab) 0 []=_:=f2
    have f3:Bq.l4 k k s (T.map Ab) (T.map Ab) (T.length:Int) 0=_:=f3;obtain⟨g1,rfl⟩:∃q,g1=q+1:=⟨g1-1,by omega⟩;obtain⟨g2,rfl⟩:∃q,g2=q+1:=⟨g2-1,by omega⟩;rw[f2,f3];have hcr:∀(j:Nat) (x:List zO),T[j]?=some x→FJ s j x:=fun j x hj=>by
     have:=f1 j x hj;simpa using this
    have wV:∀x,x∈T→x.length≤2000:=fun x hx'=>by
     obtain⟨j,hj,rfl⟩:=List.getElem_of_mem hx';exact(hcr j _ (Av hj)).1
    obtain⟨x0,T',KC⟩:∃x0 T',T=x0::T':=by
     cases T with
     |nil=>simp at hlen;omega
     |cons x0 T'=>exact⟨x0,T',rfl⟩
    have hg0:T[0]?=some x0:=by rw[KC];rfl
    have hgc:gI (T.map Ab) 0=some (x0,()):=DY (j:=0) hg0;have hx0:=wV x0 (List.mem_of_getElem? hg0);obtain⟨r1,r2⟩:=Ld k x0 (by omega) hk;have hrn:Bb x0≤2000:=Nat.le_trans (List.length_filter_le _ _) hx0;obtain⟨w1,w2⟩:=LH k s hn hk hS h1 h2 T wV (by omega) (Bb x0) hrn T [] k rfl (by omega);have w1:Aw.F8 k k s (T.map Ab) (Bb x0:Int) 0 []=_:=w1;have w2:EH.l3 k k (Bb x0:Int) (T.map Ab) (T.length:Int) 0=_:=w2;simp only[Aw.l5,Bq.l4,hml,zN (show ¬((T.length:Int)<(T.length:Int)) by omega),zG,hgc,zD,r1,w1,EH,r2,w2];by_cases hall:∀x,x∈T→Bb x=Bb x0
    ·rw[if_pos hall]
     by_cases F4:Bb x0≤200
     ·rw[if_pos ⟨hall,fun _=>F4⟩,zM F4]
      simp only[Ah,zG];obtain⟨nums,n1,n2⟩:=KS k s Dx hk;unfold Bq.d12;rw[n1];simp only[zD,hml];rw[IK (by omega) (by omega),zF,Int.toNat_natCast];have hrep:List.replicate T.length (0:Int)=ip (List.replicate T.length 0):=by simp[ip]
      have hp0:Au T (List.replicate T.length 0):=⟨by simp,fun j p x hj _=>by
       rw[List.getElem?_replicate] at hj;split at hj
       ·cases hj;omega
       ·cases hj⟩
      have hR:H_ s T:=fun a c hc h7 x hx t ht hd=>by
       have hh:=(hcr (zI s a) x hx).2.2 a c hc h7 rfl t ht;unfold C_ at hh;simp only[BK] at hh;have:=hh.2.2;rw[if_pos hd] at this;exact this
      have hloop:=LF k s hn hk hS h1 h2 T hlen wV nums n2 (Bb x0) F4 (Bb x0) 0 k [] (List.replicate T.length 0) false (by omega) (by omega) (by simp) hp0;rw[hrep];unfold JV;cases hA:DD T s (Bb x0) (List.replicate T.length 0) with
      |none=>
       rw[hA] at hloop;have e1:Aw.E5 k k s (T.map Ab) (Bb x0:Int) 0 [] (ip (List.replicate T.length 0))=_:=hloop.1;have e2:Bq.Dh k k (Bb x0:Int) 0 (s,T.map Ab,nums,(),(),false,false,()) [] (ip (List.replicate T.length 0))=_:=hloop.2;rw[e1,e2];refine⟨3,[],rfl,rfl,by simp,fun r h=>(by cases h),(fun _=>⟨hS,fun _ _ x1 hx1 _ _=> ?_⟩),⟨fun h=>absurd h (by decide),fun _=>rfl⟩⟩;rw[hg0] at hx1;cases hx1;rw[hA]
      |some r=>
       obtain⟨R,q,l⟩:=r;rw[hA] at hloop;have e1:Aw.E5 k k s (T.map Ab) (Bb x0:Int) 0 [] (ip (List.replicate T.length 0))=_:=hloop.1;have e2:Bq.Dh k k (Bb x0:Int) 0 (s,T.map Ab,nums,(),(),false,false,()) [] (ip (List.replicate T.length 0))=_:=hloop.2;obtain⟨a1,a2,a3⟩:=JR hS hR _ _ _ _ _ hp0 hA;obtain⟨z1,z2⟩:=LC k s hn hk hS h1 h2 T (by omega) wV nums (false||l) ([]++R) q a1 T [] q [] k rfl rfl rfl (by omega);have z1:Aw.FM k k s (T.map Ab) 0 ([]++R) (ip q)=_:=z1;have z2:Eo k (jn s T nums false (false||l)) (ip q)=some (D_ T q,(jn s T nums false (false||l),ip q)):=by
        unfold Eo;simp only[List.length_map];exact z2
       rw[e1,e2,z1,z2];rw[List.nil_append,Fa];have hro:=LG k s hn hk hS h1 h2 R (by omega) R [] k rfl (by omega);have hro:Aw.FN k k s 0 R=_:=hro;rw[hro];simp only[zD];have hout:∀x1,T[0]?=some x1→x1=x0:=fun x1 hx1=>by rw[hg0] at hx1;exact(Option.some.inj hx1).symm
       cases hend:D_ T q with
       |false=>
        simp only[Bf,zF,zG];refine⟨3,[],rfl,rfl,by simp,fun r h=>(by cases h),(fun _=>⟨hS,fun _ _ x1 hx1 _ _=> ?_⟩),⟨fun h=>absurd h (by decide),fun _=>rfl⟩⟩;rw[hout x1 hx1,hA];simp only[hend,zG]
       |true=>
        simp only[Ah,zG,zF];rw[a3];cases Iu:R.all (fun r=>(A7 s r.1).isSome) with
        |false=>
         simp only[Bf,zF,zG];refine⟨4,[],rfl,rfl,by simp,fun r h=>(by cases h),(fun _=>⟨hS,fun _ _ x1 hx1 _ _=> ?_⟩),⟨fun h=>absurd h (by decide),fun _=>rfl⟩⟩;rw[hout x1 hx1,hA];simp only[hend,Iu,zG,zF]
        |true=>
         simp only[Ah,zG,zF];refine⟨0,R,rfl,rfl,by omega,fun r hr=> ?_,(fun _=>⟨hS,fun _ _ x1 hx1 _ _=> ?_⟩),⟨fun _=>⟨by first|exact h1|trivial,hlen,hcr,Bb x0,R,q,l,F4,hA,hend,rfl,Iu⟩,fun h=>absurd rfl h⟩⟩
         ·have:=List.all_eq_true.1 Iu r hr
          cases hre:A7 s r.1 with
          |none=>rw[hre] at this;cases this
          |some X=>exact(Fg hre).1
         ·rw[hout x1 hx1,hA]
          simp only[hend,Iu,zF]
     ·rw[if_neg (fun hh=>F4 (hh.2 (by rw[KC];simp))),zN F4]
      refine⟨2,[],rfl,rfl,by simp,fun r h=>(by cases h),(fun _=>⟨hS,fun _ _ x1 hx1 _ hle=> ?_⟩),⟨fun h=>absurd h (by decide),fun _=>rfl⟩⟩;rw[hg0] at hx1;cases hx1;exact absurd hle F4
    ·rw[if_neg hall,if_neg (fun hh=>hall hh.1)]
     refine⟨2,[],rfl,rfl,by simp,fun r h=>(by cases h),(fun _=>⟨hS,fun _ _ x1 hx1 hh _=> ?_⟩),⟨fun h=>absurd h (by decide),fun _=>rfl⟩⟩;rw[hg0] at hx1;cases hx1;exact absurd hh hall
   ·have f2:Aw.l5 k k s (T.map Ab) 0 []=_:=f2
    have f3:Bq.l4 k k s (T.map Ab) (T.map Ab) (T.length:Int) 0=_:=f3;rw[f2,f3];refine⟨1,[],rfl,rfl,by simp,fun r h=>(by cases h),(fun _=>⟨hS,fun _ hcr=> ?_⟩),⟨fun h=>absurd h (by decide),fun _=>rfl⟩⟩;exact absurd (fun i x hx=>by simpa using hcr i x hx) f1
  ·rw[Br (by omega),zF,zF]
   exact⟨1,[],rfl,rfl,by simp,fun r h=>(by cases h),(fun _=>⟨hS,fun h=>absurd h hlen⟩),⟨fun h=>absurd h (by decide),fun _=>rfl⟩⟩
end
def RV(s:List zC)(from_:Nat)(rep deep:Int)(e:Ev):Prop:=
 (e.rep=rep∨(deep<e.rep∧e.rep≤deep+(Az s Bz from_ e.at_:Nat)))∧(e.leaf=true→∀c,s[e.at_]?=some c→D5 c.2.1 e.v=true)∧(e.leaf=false→e.v=zv)
theorem TF{s:List zC}{d pl mid:Nat}(hd:d≤6)(hs:zY s d pl mid){C:Int→Int→Int→List zB→Ar}
 (hr:∀rep zA deep V X W,C rep zA deep V=some (X,W)→∀e,e∈X→(pl≤e.at_∧e.at_<mid)∧RV s (pl+1) rep deep e)
 (rep zA deep:Int) (V:List zB) (X:List Ev) (W:List zB) (he:AL s C mid pl rep zA deep V=some (X,W)):∀e,e∈X→RV s pl rep deep e:=by
 have hend:=F3 hd hs;have hlt:=z_ _ _ _ hs;intro e hm;unfold AL at he;split at he
 ·cases he
 ·rename_i c hc
  have up:∀(r dp:Int),(r=rep∨(deep<r∧r≤deep+(if Bz c=true then 1 else 0:Nat)))→dp=deep+(if Bz c=true then 1 else 0:Nat)→((pl≤e.at_∧e.at_<mid)∧RV s (pl+1) r dp e)→RV s pl rep deep e:=by
   rintro r dp hrr hdp ⟨⟨h1,h2⟩,h3,h4,h5⟩;have GX:=II (f:=Bz) hc h1 (by rw[hend];exact h2);refine⟨?_,h4,h5⟩;rcases h3 with h3|h3
   ·rcases hrr with hrr|hrr
    ·exact .inl (by omega)
    ·exact .inr (by omega)
   ·exact .inr (by omega)
  have ms:∀U,some (AY s rep zA (mid-pl) pl,U)=some (X,W)→RV s pl rep deep e:=by
   intro U he;simp only[zX,Prod.mk.injEq] at he;obtain⟨rfl,rfl⟩:=he;obtain⟨_,_,m3,m4,_,m6⟩:=G9 _ _ _ hm;exact⟨.inl m4,fun h=>(by rw[m3] at h;cases h),fun _=>m6⟩
  split at he
  ·rename_i h0
   have F5:Bz c=false:=by simp[Bz,h0]
   exact up rep deep (.inl rfl) (by rw[F5];simp) (hr _ _ _ _ _ _ he e hm)
  ·split at he
   ·cases he
   ·split at he
    ·rename_i h2
     have F5:Bz c=true:=by simp[Bz,h2]
     split at he
     ·cases he
     ·split at he
      ·exact ms _ he
      ·obtain⟨x,y,U,g1,g2,rfl⟩:=DF he
       rcases List.mem_append.1 hm with hm|hm
       ·exact up rep (deep+1) (.inl rfl) (by rw[if_pos F5];rfl) (hr _ _ _ _ _ _ g1 e hm)
       ·have:=Jb (P:=fun e=>(pl≤e.at_∧e.at_<mid)∧RV s (pl+1) (deep+1) (deep+1) e) (fun V X W h=>hr _ _ _ V X W h) _ _ _ _ g2 e hm
        exact up (deep+1) (deep+1) (.inr (by rw[if_pos F5];omega)) (by rw[if_pos F5];rfl) this
    ·rename_i h2
     have F5:Bz c=false:=by simp[Bz,h2]
     split at he
     ·cases he
     ·split at he
      ·exact ms _ he
      ·exact up rep deep (.inl rfl) (by rw[F5];simp) (hr _ _ _ _ _ _ he e hm)
theorem Kb{s:List zC}:∀(d a nx:Nat),d≤6→zY s d a nx→∀(rep zA deep:Int) (V:List zB) (X:List Ev) (W:List zB),Ae s d a rep zA deep V=some (X,W)→∀e,e∈X→(a≤e.at_∧e.at_<nx)∧RV s (a+1) rep deep e
 |0,_,_,_,h,_,_,_,_,_,_,_,_,_=>h.elim
 |d+1,a,nx,hd,h,rep,zA,deep,V,X,W,he,e,hm=>by
  have hlt:=z_ _ _ _ h;have hok:=Gj (d+1) a nx hd h rep zA deep V X W he e hm;refine⟨⟨hok.lo,hok.hi⟩,?_⟩;obtain⟨c,hc,hco,_,Ad⟩:=h;simp only[Ae,hc] at he;split at he
  ·rename_i h7
   have key:∀(m pl:Nat) (names:List ByteArray) (V:List zB) (X:List Ev) (W:List zB),BX (zY s d) s m pl names nx→a+1≤pl→(∀u,a+1≤u→u<pl→Bp s u≤pl)→jm (fun a V=>AL s (Ae s d a) (Aa s d a) a rep zA deep V) (Aa s d) m pl V=some (X,W)→∀e,e∈X→RV s (a+1) rep deep e:=by
    intro m
    induction m with
    |zero=>
     intro pl names V X W Ad h1 h2 he e hm;simp only[jm,zX,Prod.mk.injEq] at he;obtain⟨rfl,rfl⟩:=he;cases hm
    |succ m ih=>
     intro pl names V X W Ad h1 h2 he e hm;obtain⟨q,mid,q1,q2,q3,q4⟩:=Ad;have hmn:=CX (z_ d) _ _ _ _ q4;have hlt':=z_ _ _ _ q3;have hend:Aa s d pl=mid:=Dw d q3 d (Nat.le_refl _);simp only[jm] at he;obtain⟨x,y,U,g1,g2,rfl⟩:=DF he;rw[hend] at g1 g2;have h3:∀u,a+1≤u→u<mid→Bp s u≤mid:=fun u u1 u2=>by
      rcases Nat.lt_or_ge u pl with u3|u3
      ·have:=h2 u u1 u3;omega
      ·exact(Ie (by omega) q3 u3 u2).2
     rcases List.mem_append.1 hm with hm|hm
     ·obtain⟨p1,p2,p3⟩:=TF (by omega) q3 (fun rep zA deep V X W h=>Kb d pl mid (by omega) q3 rep zA deep V X W h) rep zA deep V x U g1 e hm
      obtain⟨r1,r2,_⟩:=Ii (by omega) q3 (fun rep zA deep V=>Gj d pl mid (by omega) q3 rep zA deep V) rep zA deep V x U g1 e hm;have hsk:=Js (s:=s) (f:=Bz) h1 r1 (fun u u1 u2=>by have:=h2 u u1 u2;omega);exact⟨by rw[hsk];exact p1,p2,p3⟩
     ·exact ih mid _ U y W q4 (by omega) h3 g2 e hm
   exact key _ _ _ _ _ _ Ad (Nat.le_refl _) (fun u u1 u2=>by omega) he e hm
  ·split at he
   ·cases he
   ·split at he
    ·rename_i hv
     simp only[zX,Prod.mk.injEq] at he;obtain⟨rfl,rfl⟩:=he;rw[List.mem_singleton] at hm;subst hm;refine⟨.inl rfl,fun _ c' hc'=> ?_,fun h=>by cases h⟩;simp only at hc';rw[hc] at hc';cases hc';exact hv
    ·cases he
def EvM(V:List zB)(r:Ar):Prop:=∀X W,r=some (X,W)→(∀e,e∈X→e.leaf=true→e.v∈V)∧∀w,w∈W→w∈V
theorem EvM.pair{V:List zB}{a:Ar}{f:List zB→Ar}(h:EvM V a)(g:∀U,EvM U (f U)):EvM V (CZ a f):=by
 intro X W he;obtain⟨x,y,U,h1,h2,rfl⟩:=DF he;obtain⟨a1,a2⟩:=h _ _ h1;obtain⟨b1,b2⟩:=g U _ _ h2;refine⟨fun e he hl=> ?_,fun w hw=>a2 w (b2 w hw)⟩;rcases List.mem_append.1 he with he|he
 ·exact a1 e he hl
 ·exact a2 _ (b1 e he hl)
theorem EvM.nil(V:List zB):EvM V (some ([],V)):=by
 intro X W h;simp only[zX,Prod.mk.injEq] at h;obtain⟨rfl,rfl⟩:=h;exact⟨fun e he=>(by cases he),fun w hw=>hw⟩
theorem EvM.parts{F:Nat→List zB→Ar}{e:Nat→Nat}(h:∀a V,EvM V (F a V)):∀(m a:Nat) (V:List zB),EvM V (jm F e m a V)
 |0,_,V=>EvM.nil V
 |m+1,a,V=>(h a V).pair (EvM.parts h m (e a))
theorem EvM.items{F:List zB→Ar}(h:∀V,EvM V (F V)):∀(m:Nat) (V:List zB),EvM V (Cb F m V)
 |0,V=>EvM.nil V
 |m+1,V=>(h V).pair (EvM.items h m)
theorem EvM.part{s:List zC}{C:Int→Int→Int→List zB→Ar}(h:∀r d p V,EvM V (C r d p V))(e a:Nat)(rep zA deep:Int)(V:List zB):EvM V (AL s C e a rep zA deep V):=by
 intro X W hr;unfold AL at hr;split at hr
 ·cases hr
 ·split at hr
  ·exact h _ _ _ _ _ _ hr
  ·split at hr
   ·cases hr
   ·rename_i v V
    have ms:some (AY s rep zA (e-a) a,V)=some (X,W)→(∀e,e∈X→e.leaf=true→e.v∈v::V)∧∀w,w∈W→w∈v::V:=by
     intro hr;simp only[zX,Prod.mk.injEq] at hr;obtain⟨rfl,rfl⟩:=hr;exact⟨fun e he hl=>(by rw[(G9 _ _ _ he).2.2.1] at hl;cases hl),fun w hw=>List.mem_cons_of_mem _ hw⟩
    have up:((∀e,e∈X→e.leaf=true→e.v∈V)∧∀w,w∈W→w∈V)→(∀e,e∈X→e.leaf=true→e.v∈v::V)∧∀w,w∈W→w∈v::V:=fun h=>⟨fun e he hl=>List.mem_cons_of_mem _ (h.1 e he hl),fun w hw=>List.mem_cons_of_mem _ (h.2 w hw)⟩;split at hr
    ·split at hr
     ·cases hr
     ·split at hr
      ·exact ms hr
      ·exact up ((EvM.pair (h _ _ _ _) (fun V=>EvM.items (h _ _ _) _ V)) _ _ hr)
    ·split at hr
     ·cases hr
     ·split at hr
      ·exact ms hr
      ·exact up (h _ _ _ _ _ _ hr)
theorem La{s:List zC}(hS:Ck s):∀(R:List Ay) (X:List Ev),Cf s R=some X→∀e,e∈X→RV s 1 0 0 e
 |[],X,h,e,he=>by
  simp only[Cf,zX] at h;subst h;cases he
 |r::R,X,h,e,he=>by
  simp only[Cf] at h;split at h
  ·cases h
  ·rename_i Y hY
   split at h
   ·cases h
   ·rename_i Z hZ
    simp only[zX] at h;subst h;rcases List.mem_append.1 he with he|he
    ·exact(Kb 6 0 s.length (Nat.le_refl _) hS.2.2.1 0 0 0 r.1 Y [] (Fg hY).2 e he).2
    ·exact La hS R Z hZ e he
theorem Lb{s:List zC}{T:Ai}(hS:Ck s):∀(n:Nat) (pos:List Nat) (R:List Ay) (q:List Nat) (l:Bool) (X:List Ev),DD T s n pos=some (R,q,l)→Au T pos→Cf s R=some X→EZ s T 0 s.length X pos q
 |0,pos,R,q,l,X,h,hp,hX=>by
  simp only[DD,zX,Prod.mk.injEq] at h;obtain⟨rfl,rfl,rfl⟩:=h;simp only[Cf,zX] at hX;subst hX;exact⟨hp,fun L _=>⟨[],rfl,by simp[BP,Lk]⟩,fun j _=>rfl⟩
 |n+1,pos,R,q,l,X,h,hp,hX=>by
  simp only[DD] at h;split at h
  ·cases h
  ·rename_i Y p l1 hy
   split at h
   ·cases h
   ·rename_i R' q' l' hr
    simp only[zX,Prod.mk.injEq] at h;obtain⟨rfl,rfl,rfl⟩:=h;simp only[Cf] at hX;split at hX
    ·cases hX
    ·rename_i Z hZ
     split at hX
     ·cases hX
     ·rename_i U hU
      simp only[zX] at hX;subst hX;have he:=(Fg hZ).2;obtain⟨_,k⟩:=Kc (T:=T) 6 0 s.length (Nat.le_refl _) hS.2.2.1 (Nat.le_refl _) 0 0 0 pos Y p l1 [] Z [] hy hp (by rw[AZ];exact he);exact k.trans (Lb hS n p R' q' l' U hr k.1 hU)
theorem J9:∀(T:Ai) (q:List Nat),D_ T q=true→∀(j:Nat) (x:List zO) (p:Nat),T[j]?=some x→q[j]?=some p→p=x.length
 |[],q,_,j,x,p,h,_=>by simp at h
 |y::T,[],_,j,x,p,_,h=>by simp at h
 |y::T,r::q,h,0,x,p,h1,h2=>by
  simp only[D_,BK,beq_iff_eq] at h;simp only[List.getElem?_cons_zero,zX] at h1 h2;subst h1;subst h2;exact h.1
 |y::T,r::q,h,j+1,x,p,h1,h2=>by
  simp only[D_,BK] at h;simp only[List.getElem?_cons_succ] at h1 h2;exact J9 T q h.2 j x p h1 h2
theorem JN{s:List zC}{L:Nat}{c:zC}(hc:s[L]?=some c):∀(es:List Ev) (ts:List zO),Lk es ts→(∀e,e∈es→(e.leaf=false→e.zA<(Az s Ap 1 L:Nat)∧e.v=zv))→(∀t,t∈ts→C_ (c.2.1,(Az s Bz 1 L:Int),(Az s Ap 1 L:Int),()) t=true)→ts=es.map HV
 |[],[],_,_,_=>rfl
 |[],_::_,h,_,_=>h.elim
 |_::_,[],h,_,_=>h.elim
 |e::es,t::ts,h,he,ht=>by
  obtain⟨⟨h1,h2,h3⟩,h4⟩:=h;rw[JN hc es ts h4 (fun x hx=>he x (List.mem_cons_of_mem _ hx)) (fun x hx=>ht x (List.mem_cons_of_mem _ hx)),List.map_cons]
  congr 1
  have hv:t.2.2.1=e.v:=by
   cases hl:e.leaf with
   |true=>exact h3 hl
   |false=>
    obtain⟨g1,g2⟩:=he e (List.mem_cons_self ..) hl;have hh:=ht t (List.mem_cons_self ..);unfold C_ at hh;simp only[BK] at hh;have hh:=hh.2.2;rw[if_neg (by omega)] at hh;simp only[BK,beq_iff_eq,Ea,Cs] at hh;rw[g2];obtain⟨a,b,v,⟨⟩⟩:=t;obtain⟨x,y,⟨⟩⟩:=v;simp only at hh;obtain⟨rfl,rfl⟩:=hh;rfl
  obtain⟨a,b,v,⟨⟩⟩:=t;simp only at h1 h2 hv;rw[h1,h2,hv]
theorem Ta{s:List zC}{j:Nat}(hj:j<zI s s.length):∃L c,s[L]?=some c∧c.2.1≠7∧zI s L=j:=by
 have hll:(Bd 0 s).length=zI s s.length:=Gy s [] s rfl;obtain⟨a,f1,_,f3,c,f4,f5⟩:=Gx s [] s rfl j _ (Av (show j<(Bd ([]:List zC).length s).length by show j<(Bd 0 s).length;omega));have f3:zI s a=0+j:=f3;exact⟨a,c,f4,f5,by omega⟩
theorem LJ{s:List zC}(hS:Ck s){T:Ai}(hT:T.length=zI s s.length)(hcr:∀(j:Nat) (x:List zO),T[j]?=some x→FJ s j x){n:Nat}{R:List Ay}{q:List Nat}{l:Bool}(h:DD T s n (List.replicate T.length 0)=some (R,q,l))(he:D_ T q=true)(ha:R.all (fun r=>(A7 s r.1).isSome)=true):shr s R=some T:=by
 have hX:∃X,Cf s R=some X:=by
  clear h
  induction R with
  |nil=>exact⟨_,rfl⟩
  |cons r R ih=>
   simp only[List.all_cons,BK] at ha;obtain⟨X,hX⟩:=ih ha.2;cases hr:A7 s r.1 with
   |none=>rw[hr] at ha;cases ha.1
   |some Y=>exact⟨Y++X,by simp only[Cf,hr,hX]⟩
 obtain⟨X,hX⟩:=hX
 have hp0:Au T (List.replicate T.length 0):=⟨by simp,fun j p x hj _=>by
  rw[List.getElem?_replicate] at hj;split at hj
  ·cases hj;omega
  ·cases hj⟩
 obtain⟨k1,k2,k3⟩:=Lb hS n _ R q l X h hp0 hX;have Sd:∀(L:Nat) (c:zC),s[L]?=some c→c.2.1≠7→∀x,T[zI s L]?=some x→x=(BP L X).map HV:=by
  intro L c hc h7 x hx;obtain⟨ts,t1,t2⟩:=k2 L ⟨Nat.zero_le _,(List.getElem?_eq_some_iff.1 hc).1,c,hc,h7⟩;have hlt:=(List.getElem?_eq_some_iff.1 hx).1;have c1:cur T (List.replicate T.length 0) (zI s L)=x:=by
   unfold cur;rw[hx,List.getElem?_replicate,if_pos hlt];rfl
  have c2:cur T q (zI s L)=[]:=by
   unfold cur;rw[hx];have hq:zI s L<q.length:=by rw[k1.1];exact hlt
   rw[Av hq];simp only;rw[J9 T q he _ x _ hx (Av hq),List.drop_length]
  rw[c1,c2,AZ] at t1;subst t1;refine JN hc _ _ t2 (fun e hm hl=> ?_) (fun t ht=>(hcr _ _ hx).2.2 L c hc h7 rfl t ht);obtain⟨hm,hat⟩:=Mm hm;have hov:=K_ hS R X hX;have cZ:=La hS R X hX e hm;refine⟨?_,cZ.2.2 hl⟩;have:=(hov.1 e hm).no hl;rw[hat] at this;simpa using this
 have Sj:∀(L:Nat) (c:zC),s[L]?=some c→c.2.1≠7→(X.foldl (A_ s) (Dn s))[zI s L]?=some ((BP L X).map HV):=by
  intro L c hc h7
  have:=I_ hc h7 X (Dn s) [] (K9 R X hX) (by
   unfold Dn;rw[List.getElem?_replicate,if_pos (F9 hc h7)])
  rw[this,List.nil_append]
 have heq:X.foldl (A_ s) (Dn s)=T:=by
  apply List.ext_getElem?
  intro j;by_cases hj:j<zI s s.length
  ·obtain⟨L,c,g1,g2,g3⟩:=Ta hj
   subst g3;rw[Sj L c g1 g2,Av (show zI s L<T.length by omega),←Sd L c g1 g2 _ (Av (show zI s L<T.length by omega))]
  ·rw[List.getElem?_eq_none (by rw[JD];simp[Dn];omega),List.getElem?_eq_none (by omega)]
 unfold shr;rw[hX];simp only[heq];rw[if_pos];unfold small;rw[List.all_eq_true];intro x hx;obtain⟨j,hj,rfl⟩:=List.getElem_of_mem hx;have:=(hcr j _ (Av hj)).1;simpa using this
end Go.BA
end
section
namespace Go.BA
open Go.Am Go.Fn
def Aj(c:zL):Prop:=0≤c.2.1∧c.2.1≤(c.1.length:Int)∧c.1.length≤1048576
variable(k:Nat)
theorem Gi(c:zL)(hc:Aj c):∃v c',DZ k c=some (v,c')∧0≤v∧v<256∧Aj c':=by
 obtain⟨h0,h1,h2⟩:=hc;unfold DZ DZ.c6;by_cases h:c.2.1<(c.1.length:Int)
 ·obtain⟨x,hx,_⟩:=FB h0 h
  simp only[zM h,zF,hx,zD];refine⟨_,_,rfl,?_,?_,?_,?_,?_⟩
  ·simp only[Ic];omega
  ·simp only[Ic];omega
  ·show 0≤IntKind.wrap .i64 (c.2.1+1)
   rw[zP (by omega) (by omega)];omega
  ·show IntKind.wrap .i64 (c.2.1+1)≤(c.1.length:Int)
   rw[zP (by omega) (by omega)];omega
  ·exact h2
 ·simp only[zN h,zG]
  refine⟨_,_,rfl,?_,?_,h0,h1,h2⟩
  ·simp only[Ic];omega
  ·simp only[Ic];omega
theorem BZ(n:Int)(hn:n<9223372036854775808)(c:zL)(hc:Aj c):∃v c',Bl k n c=some (v,c')∧(n≤0→v=0)∧(0<n→0≤v∧v<n)∧Aj c':=by
 unfold Bl;by_cases h0:n≤0
 ·simp only[zM h0,zF]
  exact⟨_,_,rfl,fun _=>rfl,fun h=>by omega,hc⟩
 ·have hne:decide (n≠0)=true:=zM (by omega)
  simp only[zN h0,zG,hne,zF];have fin:∀v:Int,0≤v→0≤Int.tmod v n∧Int.tmod v n<n:=fun v hv=>by
   rw[Int.tmod_eq_emod_of_nonneg hv];exact⟨Int.emod_nonneg _ (by omega),Int.emod_lt_of_pos _ (by omega)⟩
  by_cases Kr:n≤256
  ·simp only[zM Kr,zF]
   obtain⟨v,c',hv,v0,v1,hc'⟩:=Gi k c hc;simp only[hv,zD];exact⟨_,_,rfl,fun h=>by omega,fun _=>fin v v0,hc'⟩
  ·simp only[zN Kr,zG]
   obtain⟨v1,c1,hv1,a1,b1,hc1⟩:=Gi k c hc;simp only[hv1,zD];obtain⟨v2,c2,hv2,a2,b2,hc2⟩:=Gi k c1 hc1;simp only[hv2,zD];obtain⟨v3,c3,hv3,a3,b3,hc3⟩:=Gi k c2 hc2;simp only[hv3,zD];obtain⟨v4,c4,hv4,a4,b4,hc4⟩:=Gi k c3 hc3;simp only[hv4,zD]
   rw[zP (show -9223372036854775808≤v1*16777216 by omega) (by omega),zP (show -9223372036854775808≤v2*65536 by omega) (by omega),zP (show -9223372036854775808≤v1*16777216+v2*65536 by omega) (by omega),
    zP (show -9223372036854775808≤v3*256 by omega) (by omega),zP (show -9223372036854775808≤v1*16777216+v2*65536+v3*256 by omega) (by omega),zP (show -9223372036854775808≤v1*16777216+v2*65536+v3*256+v4 by omega) (by omega)]
   exact⟨_,_,rfl,fun h=>by omega,fun _=>fin _ (by omega),hc4⟩
theorem IL(l:List Int)(hl:0<l.length)(hl2:l.length<1000000)(c:zL)(hc:Aj c):∃v c',Ga k l c=some (v,c')∧v∈l∧Aj c':=by
 unfold Ga;obtain⟨v,c',hv,_,h1,hc'⟩:=BZ k (l.length:Int) (by omega) c hc;obtain⟨h1,h2⟩:=h1 (by omega);simp only[hv,zD];obtain⟨x,hx,hx2⟩:=FB h1 h2;simp only[hx,zD];exact⟨_,_,rfl,List.mem_of_getElem? hx2,hc'⟩
theorem FQ(n:Int)(hn:n<9223372036854775808)(c:zL)(hc:Aj c):∃v c',EO k n c=some (v,c')∧Aj c':=by
 unfold EO;obtain⟨v,c',hv,_,_,hc'⟩:=BZ k n hn c hc;simp only[hv,zD];exact⟨_,_,rfl,hc'⟩
theorem LQ(t6:Int)(h6:t6≤1000000):∀(m n:Nat) (i:Int) (c:zL) (acc:List Int),Aj c→0≤i→t6-i≤m→m<n→acc.length+m≤4000000→(∀x,x∈acc→0≤x∧x<256)→
 ∃c' out,Ex.l4 k n t6 i c acc=some ((),(c',out))∧Aj c'∧out.length≤acc.length+m∧∀x,x∈out→0≤x∧x<256:=by
 intro m
 induction m with
 |zero=>
  intro n i c acc hc hi hm hn ha hb;obtain⟨n,rfl⟩:∃j,n=j+1:=⟨n-1,by omega⟩;simp only[Ex.l4,zN (show ¬i<t6 by omega),zG];exact⟨_,_,rfl,hc,by omega,hb⟩
 |succ m ih=>
  intro n i c acc hc hi hm hn ha hb;obtain⟨n,rfl⟩:∃j,n=j+1:=⟨n-1,by omega⟩;by_cases h:i<t6
  ·obtain⟨v,c1,hv,v0,v1,hc1⟩:=Gi k c hc
   simp only[Ex.l4,zM h,zF,hv,zD];rw[Cm (by simp;omega),zF,w8 v0 v1,zP (by omega) (by omega)]
   obtain⟨c',out,h1,h2,h3,h4⟩:=ih n (i+1) c1 (acc++[v]) hc1 (by omega) (by omega) (by omega) (by simp;omega) (fun x hx=>by
    rcases List.mem_append.1 hx with hx|hx
    ·exact hb x hx
    ·simp at hx;subst hx;exact⟨v0,v1⟩)
   exact⟨c',out,h1,h2,by simp at h3;omega,h4⟩
  ·simp only[Ex.l4,zN h,zG]
   exact⟨_,_,rfl,hc,by omega,hb⟩
theorem L_(most:Nat)(hm:most<900000)(hk:1000000≤k)(c:zL)(hc:Aj c):∃c' out,Ex k (most:Int) c=some ((),(c',out))∧Aj c'∧out.length≤most∧∀x,x∈out→0≤x∧x<256:=by
 unfold Ex;rw[zP (by omega) (by omega)];obtain⟨v,c1,hv,_,h1,hc1⟩:=BZ k ((most:Int)+1) (by omega) c hc;obtain⟨h1,h2⟩:=h1 (by omega);simp only[hv,zD];obtain⟨c',out,g1,g2,g3,g4⟩:=LQ k v (by omega) most k 0 c1 [] hc1 (by omega) (by omega) (by omega) (by simp;omega) (by simp);exact⟨c',out,g1,g2,by simpa using g3,g4⟩
theorem Mk(most:Nat)(hm:most<900000)(hk:1000000≤k)(c:zL)(hc:Aj c):∃v c',Hy k (most:Int) c=some (v,c')∧Aj c'∧v.size≤most:=by
 unfold Hy;obtain⟨c',out,g1,g2,g3,g4⟩:=L_ k most hm hk c hc;simp only[g1,zD];exact⟨_,_,rfl,g2,by rw[Jp];exact g3⟩
theorem J5(c:zL)(hc:Aj c):∃v c',Hw k c=some (v,c')∧Aj c'∧AB v:=by
 unfold Hw;obtain⟨v1,c1,hv1,_,a1,hc1⟩:=BZ k 1000000 (by omega) c hc;have a1:=a1 (by omega);simp only[hv1,zD];obtain⟨v2,c2,hv2,_,a2,hc2⟩:=BZ k 1000000 (by omega) c1 hc1;have a2:=a2 (by omega);simp only[hv2,zD];obtain⟨v3,c3,hv3,_,a3,hc3⟩:=BZ k 300 (by omega) c2 hc2;have a3:=a3 (by omega);simp only[hv3,zD];rw[zP (show -9223372036854775808≤0-v2 by omega) (by omega)];obtain⟨v,c4,hv,hm,hc4⟩:=IL k [0,1,(-1),63,64,(-64),(-65),127,128,16383,16384,2147483647,(-2147483648),9223372036854775807,(-9223372036854775808),4611686018427387904,v1,0-v2,v3] (by simp) (by simp) c3 hc3;simp only[hv,zD];refine⟨_,_,rfl,hc4,?_⟩;simp only[List.mem_cons,List.not_mem_nil,or_false] at hm;unfold AB;omega
theorem Tx(t:List Int)(ht:t.length≤1048576):∀(m n:Nat) (h i:Int),0≤i→4000-i≤m→m<n→
 ∃c,Ez.l3 k n t h i=some ((),c)∧Aj c:=by
 intro m
 induction m with
 |zero=>
  intro n h i hi hm hn;obtain⟨n,rfl⟩:∃j,n=j+1:=⟨n-1,by omega⟩;simp only[Ez.l3,CO,zN (show ¬i<4000 by omega),Bool.and_false,zD,zG];exact⟨_,rfl,Int.le_refl _,by simp,ht⟩
 |succ m ih=>
  intro n h i hi hm hn;obtain⟨n,rfl⟩:∃j,n=j+1:=⟨n-1,by omega⟩;by_cases hb:i<(t.length:Int)∧i<4000
  ·obtain⟨x,hx,_⟩:=FB hi hb.1
   simp only[Ez.l3,CO,zM hb.1,zM hb.2,Bool.and_self,zD,zF,hx];rw[zP (show -9223372036854775808≤i+1 by omega) (by omega)];exact ih n _ (i+1) (by omega) (by omega) (by omega)
  ·have:(decide (i<(t.length:Int))&&decide (i<4000))=false:=by
    rw[Bool.eq_false_iff];intro hh;simp only[BK,Cs] at hh;exact hb hh
   simp only[Ez.l3,CO,this,zD,zG];exact⟨_,rfl,Int.le_refl _,by simp,ht⟩
theorem Tz(hk:1000000≤k)(t:List Int)(ht:t.length≤1048576):∃c,Ez k t=some ((),c)∧Aj c:=by
 unfold Ez;exact Tx k t ht 4000 k _ 0 (by omega) (by omega) (by omega)
end Go.BA
end
section
namespace Go.BA
open Go.Am Go.Fn
variable(k:Nat)
theorem TI(l:List ByteArray)(hl:0<l.length)(hl2:l.length<1000000)(c:zL)(hc:Aj c):∃v c',IZ k l c=some (v,c')∧v∈l∧Aj c':=by
 unfold IZ;obtain⟨v,c',hv,_,h1,hc'⟩:=BZ k (l.length:Int) (by omega) c hc;obtain⟨h1,h2⟩:=h1 (by omega);simp only[hv,zD];obtain⟨x,hx,hx2⟩:=FB h1 h2;simp only[hx,zD];exact⟨_,_,rfl,List.mem_of_getElem? hx2,hc'⟩
end Go.BA
end
section
namespace Go.BA
open Go.Am Go.Fn
variable(k:Nat)
def GD(c:zC):Prop:=c.1.size≤100∧AB c.2.1∧AB c.2.2.1∧AB c.2.2.2.1
def Bn(l:List zC):Prop:=∀c,c∈l→GD c
theorem Bn.app{a b:List zC}(h:Bn a)(h':Bn b):Bn (a++b):=fun n hn=>(List.mem_append.1 hn).elim (h n) (h' n)
theorem Bn.one{n:zC}(h:GD n):Bn [n]:=fun m hm=>by simp at hm;subst hm;exact h
theorem Bn.set{l:List zC}{i:Nat}{n:zC}(h:Bn l)(hn:GD n):Bn (l.set i n):=fun m hm=>by
 rcases List.mem_or_eq_of_mem_set hm with hm|rfl
 ·exact h m hm
 ·exact hn
theorem Bn.nil:Bn []:=fun m hm=>(List.not_mem_nil hm).elim
theorem Gd{t r m:Int}{s:ByteArray}(h0:s.size≤100)(h1:AB t)(h2:AB r)(h3:AB m):GD (s,t,r,m,()):=⟨h0,h1,h2,h3⟩
theorem Df{x:Int}(h0: -1000000000≤x)(h1:x≤1000000000):AB x:=⟨by omega,by omega⟩
def DC:Nat→Nat
 |0=>1
 |d+1=>1+3*DC d
theorem Uq(d:Nat):0<DC d:=by cases d<;>simp[DC]<;>omega
theorem Uo{d:Nat}(h:d≤3):DC d≤40:=by
 match d,h with
 |0,_=>decide
 |1,_=>decide
 |2,_=>decide
 |3,_=>decide
abbrev HZ(S:ByteArray→Int→zL→List zC→Option (Unit×zL×List zC))(deep:Nat):Prop:=
 ∀(name:ByteArray) (c:zL) (acc:List zC),(deep=0→jk name ⟨#[]⟩=false)→name.size≤2→Aj c→Bn acc→acc.length+DC deep≤10000→
  ∃c' l',S name (deep:Int) c acc=some ((),(c',l'))∧Aj c'∧Bn l'∧acc.length<l'.length∧l'.length≤acc.length+DC deep
theorem LX(S:ByteArray→Int→zL→List zC→Option (Unit×zL×List zC))(d:Nat)(hd:d≤3)(ih:HZ S d)(many:Int)(hm:many≤3):
 ∀(m n:Nat) (i:Int) (c:zL) (acc:List zC),0≤i→many-i≤m→m<n→Aj c→Bn acc→acc.length+m*DC d≤10000→
 ∃c' l',AU.Dp k S n ((d+1:Nat):Int) many i c acc=some ((),(c',l'))∧Aj c'∧Bn l'∧acc.length≤l'.length∧l'.length≤acc.length+m*DC d:=by
 intro m
 induction m with
 |zero=>
  intro n i c acc hi lV hn hc ha hl;obtain⟨n,rfl⟩:∃j,n=j+1:=⟨n-1,by omega⟩;simp only[AU.Dp,zN (show ¬i<many by omega),zG];exact⟨_,_,rfl,hc,ha,Nat.le_refl _,by omega⟩
 |succ m ED=>
  intro n i c acc hi lV hn hc ha hl;obtain⟨n,rfl⟩:∃j,n=j+1:=⟨n-1,by omega⟩;have hsz:(m+1)*DC d=m*DC d+DC d:=by rw[Nat.add_mul];simp
  by_cases h:i<many
  ·obtain⟨v,c1,e1,_,b1,hc1⟩:=BZ k 4 (by omega) c hc
   have b1:=b1 (by omega);simp only[AU.Dp,zM h,zF,e1,zD];have hdw:IntKind.wrap .i64 (((d+1:Nat):Int)-1)=(d:Int):=by rw[zP (by omega) (by omega)];omega
   rw[hdw];have hne:jk (xI [IntKind.wrap .u8 (IntKind.wrap .i64 (97+i)),IntKind.wrap .u8 (IntKind.wrap .i64 (97+v))]) ⟨#[]⟩=false:=by
    rw[Ea];refine zN fun hh=> ?_;have:=congrArg ByteArray.size hh;rw[Jp] at this;cases this
   obtain⟨c2,l2,e2,hc2,hw2,hl2,UH⟩:=ih _ c1 acc (fun _=>hne) (by rw[Jp];exact Nat.le_refl 2) hc1 ha (by omega);simp only[e2,zD];rw[zP (by omega) (by omega)];obtain⟨c',l',g1,g2,g3,g4,g5⟩:=ED n (i+1) c2 l2 (by omega) (by omega) (by omega) hc2 hw2 (by omega);exact⟨c',l',g1,g2,g3,by omega,by omega⟩
  ·simp only[AU.Dp,zN h,zG]
   exact⟨_,_,rfl,hc,ha,Nat.le_refl _,by omega⟩
theorem J2(hk:100≤k)(deep:Nat)(GY:deep≤3)(S:ByteArray→Int→zL→List zC→Option (Unit×zL×List zC))(ih:∀d,d+1=deep→HZ S d):HZ (AU.b k S) deep:=by
 intro name c acc hname hsize hc ha hl;have hp:=Uq deep;have z0:AB 0:=Df (by omega) (by omega);have z7:AB 7:=Df (by omega) (by omega);have hset:∀(x y:zC),List.set (acc++[x]) (Int.toNat (acc.length:Int)) y=acc++[y]:=fun x y=>by
  rw[Int.toNat_natCast,List.set_append_right _ _ (Nat.le_refl _)];simp
 have hget:∀(x:zC),gI (acc++[x]) (acc.length:Int)=some x:=fun x=>by
  rw[Ak,List.getElem?_append_right (Nat.le_refl _)];simp
 have leaf:∀(c:zL) (t r:Int),Aj c→t≠7→AB t→AB r→∃c' l',AU.c4 k S name (deep:Int) c acc (name,t,r,0,())=some ((),(c',l'))∧Aj c'∧Bn l'∧acc.length<l'.length∧l'.length≤acc.length+DC deep:=by
  intro c t r hc ht h1 h2;unfold AU.c4;rw[Cm (by simp;omega),zF];simp only[Br ht,zF];exact⟨_,_,rfl,hc,ha.app (Bn.one (Gd (by omega) h1 h2 z0)),by simp,by simp;omega⟩
 have group:∀(c:zL) (r:Int),0<deep→Aj c→AB r→∃c' l',AU.c4 k S name (deep:Int) c acc (name,7,r,0,())=some ((),(c',l'))∧Aj c'∧Bn l'∧acc.length<l'.length∧l'.length≤acc.length+DC deep:=by
  intro c r hd0 hc h2;obtain⟨d,rfl⟩:∃d,deep=d+1:=⟨deep-1,by omega⟩;unfold AU.c4 AU.c12;rw[Cm (by simp;omega),zF];obtain⟨v,c1,e1,_,b1,hc1⟩:=BZ k 3 (by omega) c hc;have b1:=b1 (by omega);simp only[Ba rfl,zG,e1,zD,hget,hset];rw[zP (by omega) (by omega)];have hsz:DC (d+1)=1+3*DC d:=rfl;have loop:∀y:zC,GD y→∃c' l',AU.Dp k S k ((d+1:Nat):Int) (1+v) 0 c1 (acc++[y])=some ((),(c',l'))∧Aj c'∧Bn l'∧acc.length<l'.length∧l'.length≤acc.length+DC (d+1):=by
   intro y hy;obtain⟨c',l',g1,g2,g3,g4,g5⟩:=LX k S d (by omega) (ih d rfl) (1+v) (by omega) 3 k 0 c1 (acc++[y]) (by omega) (by omega) (by omega) hc1 (ha.app (Bn.one hy)) (by simp;omega);simp at g4 g5;exact⟨c',l',g1,g2,g3,by omega,by omega⟩
  cases jk name ⟨#[]⟩ with
  |true=>simp only[zF];exact loop _ (Gd (by omega) z7 z0 (Df (by omega) (by omega)))
  |false=>simp only[zG];exact loop _ (Gd (by omega) z7 h2 (Df (by omega) (by omega)))
 unfold AU.b;obtain⟨t,c1,e1,m1,hc1⟩:=IL k [0,1,2,5,6] (by simp) (by simp) c hc;simp only[List.mem_cons,List.not_mem_nil,or_false] at m1;simp only[e1,zD];obtain⟨r,c2,e2,_,b2,hc2⟩:=BZ k 3 (by omega) c1 hc1;have b2:=b2 (by omega);simp only[e2,zD];have hI:AB t:=Df (by omega) (by omega);have hR:AB r:=Df (by omega) (by omega);cases hn:jk name ⟨#[]⟩ with
 |true=>
  simp only[zF];have:0<deep:=by
   rcases Nat.eq_zero_or_pos deep with h|h
   ·rw[hname h] at hn;cases hn
   ·exact h
  exact group c2 r this hc2 hR
 |false=>
  simp only[zG];by_cases h:(deep:Int)>0
  ·simp only[zM h,zF]
   obtain⟨b,c3,e3,hc3⟩:=FQ k 3 (by omega) c2 hc2;simp only[e3,zD];cases b with
   |true=>simp only[zF];exact group c3 r (by omega) hc3 hR
   |false=>simp only[zG];exact leaf c3 t r hc3 (by omega) hI hR
  ·simp only[zN h,zG]
   exact leaf c2 t r hc2 (by omega) hI hR
theorem Ma(hk:100≤k):∀(deep D:Nat),deep≤3→deep<D→HZ (AU.rec k D) deep:=by
 intro deep
 induction deep with
 |zero=>
  intro D GY hD;obtain⟨D,rfl⟩:∃j,D=j+1:=⟨D-1,by omega⟩;exact J2 k hk 0 (by omega) _ (fun d h=>by omega)
 |succ deep Sy=>
  intro D GY hD;obtain⟨D,rfl⟩:∃j,D=j+1:=⟨D-1,by omega⟩
  exact J2 k hk (deep+1) GY _ (fun d h=>by
   obtain rfl:d=deep:=by omega
   exact Sy D (by omega) (by omega))
theorem HY(hk:1000≤k){s:List zC}(h:Bn s):∀c,c∈s→c.1.size<k∧c.1.size<1000000000∧AB c.2.2.2.1:=fun c hc=>by
 obtain⟨h0,_,_,h3⟩:=h c hc;exact⟨by omega,by omega,h3⟩
theorem J3(hk:100≤k):Cg k [(zR,7,0,1,()),((⟨#[97]⟩:ByteArray),2,1,0,())]=some true:=by
 obtain⟨K,rfl⟩:∃q,k=q+100:=⟨k-100,by omega⟩
 kernel_rfl
theorem Mi(hk:1000≤k):∀(m n:Nat) (i:Int) (c:zL),Aj c→0≤i→9-i≤m→m<n→
 ∃c' l,EP.l2 k n i c=some ((),(c',l))∧Aj c'∧Bn l∧0<l.length∧l.length≤40∧Cg k l=some true:=by
 intro m
 induction m with
 |zero=>
  intro n i c hc hi hm hn;obtain⟨n,rfl⟩:∃j,n=j+1:=⟨n-1,by omega⟩;simp only[EP.l2,zN (show ¬i<9 by omega),zG];exact⟨_,_,rfl,hc,(Bn.one (Gd (by decide) (Df (by omega) (by omega)) (Df (by omega) (by omega)) (Df (by omega) (by omega)))).app (Bn.one (Gd (by decide) (Df (by omega) (by omega)) (Df (by omega) (by omega)) (Df (by omega) (by omega)))),by simp,by simp,J3 k (by omega)⟩
 |succ m ih=>
  intro n i c hc hi hm hn;obtain⟨n,rfl⟩:∃j,n=j+1:=⟨n-1,by omega⟩;by_cases h:i<9
  ·obtain⟨v,c1,e1,_,b1,hc1⟩:=BZ k 3 (by omega) c hc
   have b1:=b1 (by omega);simp only[EP.l2,zM h,zF,e1,zD];rw[zP (by omega) (by omega)];obtain⟨d,hd⟩:∃d:Nat,(d:Int)=1+v:=⟨(1+v).toNat,by omega⟩;rw[←hd];have hs:=Uo (show d≤3 by omega);obtain⟨c2,l,e2,hc2,hw,h1,h2⟩:=Ma k (by omega) d k (by omega) (by omega) ⟨#[]⟩ c1 [] (fun h=>by omega) (by decide) hc1 Bn.nil (by simp;omega);have e2:AU k ⟨#[]⟩ (d:Int) c1 []=some ((),(c2,l)):=e2;obtain⟨b,s1,_,_⟩:=Ho k (by omega) l (HY k hk hw);simp only[e2,zD,s1];cases b with
   |true=>
    simp only[zF];exact⟨_,_,rfl,hc2,hw,by simpa using h1,by simp at h2;omega,s1⟩
   |false=>
    simp only[zG];rw[zP (by omega) (by omega)];exact ih n (i+1) c2 hc2 (by omega) (by omega) (by omega)
  ·simp only[EP.l2,zN h,zG]
   exact⟨_,_,rfl,hc,(Bn.one (Gd (by decide) (Df (by omega) (by omega)) (Df (by omega) (by omega)) (Df (by omega) (by omega)))).app (Bn.one (Gd (by decide) (Df (by omega) (by omega)) (Df (by omega) (by omega)) (Df (by omega) (by omega)))),by simp,by simp,J3 k (by omega)⟩
theorem Me(hk:1000≤k)(c:zL)(hc:Aj c):∃c' l,EP k c=some ((),(c',l))∧Aj c'∧Bn l∧l.length≤20∧Cg k l=some true∧DU k l=some true∧Ck l:=by
 obtain⟨c1,l,e1,hc1,hw,hl0,hl,h1⟩:=Mi k hk 9 k 0 c hc (by omega) (by omega) (by omega);obtain⟨b,s1,s2,s3⟩:=Ho k (by omega) l (HY k hk hw);rw[h1] at s1;have hb:b=true:=by simpa using s1.symm
 subst hb;exact⟨c1,l,e1,hc1,hw,(s3 rfl).1.2.1,h1,s2,(s3 rfl).1⟩
end Go.BA
end
section
namespace Go.BA
open Go.Am Go.Fn
variable(k:Nat)
def I7(v:zB):Prop:=AB v.1∧v.2.1.size≤100
theorem KG:AB 0:=⟨by decide,by decide⟩
theorem e0:zR.size≤100:=by decide
theorem Mj(hk:1000000≤k)(t:Int)(c:zL)(hc:Aj c):∃v c',I1 k t c=some (v,c')∧I7 v∧Aj c':=by
 unfold I1;by_cases h0:t=0
 ·rw[Al h0,zF]
  obtain⟨v1,c1,e1,_,a1,hc1⟩:=BZ k 2 (by omega) c hc;have a1:=a1 (by omega);simp only[e1,zD];exact⟨_,_,rfl,⟨⟨by omega,by omega⟩,e0⟩,hc1⟩
 rw[zS h0,zG];by_cases h1:t=1
 ·rw[Al h1,zF]
  obtain⟨v1,c1,e1,hc1⟩:=FQ k 6 (by omega) c hc;simp only[e1,zD];cases v1 with
  |true=>
   simp only[zF];obtain⟨v2,c2,e2,m2,hc2⟩:=IL k [2147483647,(-2147483648),0] (by simp) (by simp) c1 hc1;simp only[e2,zD];simp only[List.mem_cons,List.not_mem_nil,or_false] at m2;exact⟨_,_,rfl,⟨⟨by omega,by omega⟩,e0⟩,hc2⟩
  |false=>
   simp only[zG];obtain⟨v2,c2,e2,_,a2,hc2⟩:=BZ k 40 (by omega) c1 hc1;have a2:=a2 (by omega);simp only[e2,zD];rw[zP (by omega) (by omega)];exact⟨_,_,rfl,⟨⟨by omega,by omega⟩,e0⟩,hc2⟩
 rw[zS h1,zG];by_cases h6:t=6
 ·rw[Al h6,zF]
  obtain⟨v1,c1,e1,hc1⟩:=FQ k 3 (by omega) c hc;simp only[e1,zD];cases v1 with
  |true=>
   simp only[zF];obtain⟨v2,c2,e2,m2,hc2⟩:=TI k [zR,(⟨#[97]⟩:ByteArray),(⟨#[97,98]⟩:ByteArray),(⟨#[97,98,99]⟩:ByteArray),(⟨#[97,98,100]⟩:ByteArray),(⟨#[98]⟩:ByteArray),(⟨#[97,97]⟩:ByteArray)] (by simp) (by simp) c1 hc1;simp only[e2,zD];refine⟨_,_,rfl,⟨KG,?_⟩,hc2⟩;simp only[List.mem_cons,List.not_mem_nil,or_false] at m2;rcases m2 with rfl|rfl|rfl|rfl|rfl|rfl|rfl<;>decide
  |false=>
   simp only[zG];obtain⟨v2,c2,e2,hc2,m2⟩:=Mk k 6 (by omega) hk c1 hc1;have e2:Hy k 6 c1=some (v2,c2):=e2;simp only[e2,zD];exact⟨_,_,rfl,⟨KG,by show v2.size≤100;omega⟩,hc2⟩
 rw[zS h6,zG];by_cases h5:t=5
 ·rw[Al h5,zF]
  obtain⟨v1,c1,e1,_,a1,hc1⟩:=BZ k 9 (by omega) c hc;have a1:=a1 (by omega);simp only[e1,zD];obtain⟨v2,c2,e2,hc2,i2⟩:=J5 k c1 hc1;simp only[e2,zD];obtain⟨v3,c3,e3,m3,hc3⟩:=IL k [0,(-9223372036854775808),4607182418800017408,(-4616189618054758400),9221120237041090560,(-2251799813685248),v1,v2] (by simp) (by simp) c2 hc2;simp only[e3,zD];refine⟨_,_,rfl,⟨?_,e0⟩,hc3⟩;simp only[List.mem_cons,List.not_mem_nil,or_false] at m3;obtain⟨UL,UM⟩:=i2;exact⟨by show _≤v3;omega,by show v3<_;omega⟩
 ·rw[zS h5,zG]
  obtain⟨v1,c1,e1,hc1⟩:=FQ k 2 (by omega) c hc;simp only[e1,zD];cases v1 with
  |true=>
   simp only[zF];obtain⟨v2,c2,e2,_,a2,hc2⟩:=BZ k 30 (by omega) c1 hc1;have a2:=a2 (by omega);simp only[e2,zD];rw[zP (by omega) (by omega)];exact⟨_,_,rfl,⟨⟨by omega,by omega⟩,e0⟩,hc2⟩
  |false=>
   simp only[zG];obtain⟨v2,c2,e2,hc2,i2⟩:=J5 k c1 hc1;simp only[e2,zD];exact⟨_,_,rfl,⟨i2,e0⟩,hc2⟩
end Go.BA
end
section
namespace Go.BA
open Go.Am Go.Fn
def De(s:List zC)(C:List zB)(a:Nat):List zB:=match s[a]? with
 |none=>[]
 |some c=>if c.2.2.1=0 then C else[zv]
def DT(F:Nat→List zB)(e:Nat→Nat):Nat→Nat→List zB
 |0,_=>[]
 |m+1,a=>F a++DT F e m (e a)
def Ca(s:List zC):Nat→Nat→List zB
 |0,_=>[]
 |d+1,a=>match s[a]? with
  |none=>[]
  |some c=>if c.2.1=7 then DT (fun a=>De s (Ca s d a) a) (Aa s d) c.2.2.2.1.toNat (a+1) else[zv]
def FK(s:List zC):List zB:=Ca s 6 0
theorem J8{F:Nat→List zB}{e:Nat→Nat}(h:∀a v,v∈F a→v=zv):∀(m a:Nat) (v:zB),v∈DT F e m a→v=zv
 |0,_,v,hv=>by cases hv
 |m+1,a,v,hv=>(List.mem_append.1 hv).elim (h a v) (J8 h m (e a) v)
theorem J7{s:List zC}:∀(d a:Nat) (v:zB),v∈Ca s d a→v=zv
 |0,_,v,hv=>by cases hv
 |d+1,a,v,hv=>by
  simp only[Ca] at hv;split at hv
  ·cases hv
  ·split at hv
   ·refine J8 (fun a v hv=> ?_) _ _ v hv
    unfold De at hv;split at hv
    ·cases hv
    ·split at hv
     ·exact J7 d a v hv
     ·simpa using hv
   ·simpa using hv
theorem Uu{c:zC}(hco:AX c=true)(h7:c.2.1≠7):D5 c.2.1 zv=true:=by
 unfold AX Ef at hco;unfold D5 zv;have he:jk zR ⟨#[]⟩=true:=by rw[Ea];exact zM rfl
 have hty:c.2.1=0∨c.2.1=1∨c.2.1=2∨c.2.1=5∨c.2.1=6:=by
  simp only[BK,Bool.or_eq_true,beq_iff_eq,Cs] at hco;omega
 simp only[he];rcases hty with h|h|h|h|h<;>rw[h]<;>decide
theorem Ux{s:List zC}{a e:Nat}{C:Int→Int→Int→List zB→Ar}{c:zC}(hc:s[a]?=some c)(h0:¬c.2.2.1=0)(rep zA deep:Int)(W:List zB):AL s C e a rep zA deep (zv::W)=some (AY s rep zA (e-a) a,W):=by
 unfold AL;rw[hc];simp only;have hb:∀m:Int,0≤m→BJ zv m=false:=fun m hm=>by
  unfold BJ zv;have he:jk zR ⟨#[]⟩=true:=by rw[Ea];exact zM rfl
  rw[he,zM hm];rfl
 rw[if_neg h0,hb 20 (by omega),hb 1 (by omega)];simp only[zv];split<;>rfl
theorem Ja{s:List zC}:∀(d a nx:Nat),d≤6→zY s d a nx→∀(rep zA deep:Int) (W:List zB),∃X,Ae s d a rep zA deep (Ca s d a++W)=some (X,W)∧(∀e,e∈X→e.zA=zA)∧(Ca s d a).length≤nx-a
 |0,_,_,_,h,_,_,_,_=>h.elim
 |d+1,a,nx,hd,h,rep,zA,deep,W=>by
  have hlt:=z_ _ _ _ h;obtain⟨c,hc,hco,_,Ad⟩:=h;simp only[Ca,Ae,hc];by_cases h7:c.2.1=7
  ·rw[if_pos h7,if_pos h7]
   have key:∀(m pl:Nat) (names:List ByteArray) (W:List zB),BX (zY s d) s m pl names nx→∃X,jm (fun a V=>AL s (Ae s d a) (Aa s d a) a rep zA deep V) (Aa s d) m pl (DT (fun a=>De s (Ca s d a) a) (Aa s d) m pl++W)=some (X,W)∧(∀e,e∈X→e.zA=zA)∧(DT (fun a=>De s (Ca s d a) a) (Aa s d) m pl).length≤nx-pl:=by
    intro m
    induction m with
    |zero=>intro pl names W Ad;exact⟨[],rfl,fun e he=>(by cases he),by simp[DT]⟩
    |succ m ih=>
     intro pl names W Ad;obtain⟨cp,mid,hcp,q2,q3,q4⟩:=Ad;have hmn:=CX (z_ d) _ _ _ _ q4;have hlt':=z_ _ _ _ q3;have hend:Aa s d pl=mid:=Dw d q3 d (Nat.le_refl _);obtain⟨Y,y1,y2,y3⟩:=ih mid _ W q4;have hpart:∃X,AL s (Ae s d pl) mid pl rep zA deep (De s (Ca s d pl) pl++(DT (fun a=>De s (Ca s d a) a) (Aa s d) m mid++W))=some (X,DT (fun a=>De s (Ca s d a) a) (Aa s d) m mid++W)∧(∀e,e∈X→e.zA=zA)∧(De s (Ca s d pl) pl).length≤mid-pl:=by
      unfold De;rw[hcp];simp only;by_cases h0:cp.2.2.1=0
      ·rw[if_pos h0]
       obtain⟨X,x1,x2,x3⟩:=Ja d pl mid (by omega) q3 rep zA deep (DT (fun a=>De s (Ca s d a) a) (Aa s d) m mid++W);refine⟨X,?_,x2,x3⟩;unfold AL;rw[hcp];simp only;rw[if_pos h0];exact x1
      ·rw[if_neg h0]
       refine⟨_,Ux hcp h0 rep zA deep _,fun e he=> ?_,by simp;omega⟩;exact(G9 _ _ _ he).2.2.2.2.1
     obtain⟨X,x1,x2,x3⟩:=hpart;refine⟨X++Y,?_,fun e he=>(List.mem_append.1 he).elim (x2 e) (y2 e),?_⟩
     ·simp only[jm,DT,hend,BC]
      rw[x1];simp only[CZ,y1]
     ·simp only[DT,hend,A8];omega
   obtain⟨X,x1,x2,x3⟩:=key _ _ _ W Ad;exact⟨X,x1,x2,by omega⟩
  ·rw[if_neg h7,if_neg h7]
   simp only[List.singleton_append];rw[if_pos (Uu hco h7)];exact⟨_,rfl,fun e he=>(by rw[List.mem_singleton] at he;rw[he]),by simp;omega⟩
theorem Ml{s:List zC}(hS:Ck s):∃X,A7 s (FK s)=some X∧(∀e,e∈X→e.zA=0)∧(FK s).length≤20:=by
 obtain⟨X,x1,x2,x3⟩:=Ja 6 0 s.length (Nat.le_refl _) hS.2.2.1 0 0 0 [];rw[AZ] at x1;have hs:=hS.2.1;have hl:(FK s).length≤20:=by unfold FK;omega
 refine⟨X,?_,x2,hl⟩;unfold A7;rw[if_pos (by omega)];unfold FK;rw[x1]
section
variable(k:Nat)(s:List zC)(hs:s.length≤20)(hn:∀c,c∈s→c.1.size<k∧c.1.size<1000000000∧AB c.2.2.2.1)(hk:2000000≤k)
include hs hn hk
theorem TV:∀(d D a nx:Nat),zY s d a nx→nx≤s.length→d≤6→d≤D→Ch.rec k D s (a:Int)=some ((),if decide (0<a)=true then De s (Ca s d a) a else Ca s d a):=by
 intro d
 induction d with
 |zero=>intro D a nx h;exact h.elim
 |succ d ih=>
  intro D a nx h hnx hd hD;obtain⟨D,rfl⟩:∃q,D=q+1:=⟨D-1,by omega⟩;have hsub:=h;have hlt:=z_ _ _ _ h;obtain⟨c,hc,hco,_,Ad⟩:=h;have hcr:gI s (a:Int)=some c:=hc;have hcm:=(hn c (List.mem_of_getElem? hc)).2.2;have hmp:=D7 (z_ d) _ _ _ _ Ad;have ha1:IntKind.wrap .i64 ((a:Int)+1)=((a+1:Nat):Int):=by rw[zP (by omega) (by omega)];omega
  have hb5:((cond (decide ((a:Int)>0)) ((gI s (a:Int)).bind fun y4=>some (y4.2.2.1 !=0)) (some false)):Option Bool)=some (decide (0<a)&&(c.2.2.1 !=0)):=by
   rw[hcr];by_cases h:0<a
   ·rw[zM (show(a:Int)>0 by omega),zM h];rfl
   ·rw[zN (show ¬(a:Int)>0 by omega),zN h];rfl
  have hloop:c.2.1=7→Ch.l6 k (Ch.rec k D) k s (a:Int) ((a+1:Nat):Int) 0 []=some ((),Ca s (d+1) a):=by
   intro h7;have hmn:0≤c.2.2.2.1:=by
    unfold AX at hco;rw[h7,Eg] at hco;simp at hco;omega
   have key:∀(m pl:Nat) (i:Int) (names:List ByteArray) (f:Nat) (o:List zB),BX (zY s d) s m pl names nx→c.2.2.2.1-i=m→0≤i→m<f→0<pl→o.length≤pl→
    Ch.l6 k (Ch.rec k D) f s (a:Int) (pl:Int) i o=some ((),o++DT (fun a=>De s (Ca s d a) a) (Aa s d) m pl):=by
    intro m
    induction m with
    |zero=>
     intro pl i names f o Ad hi h0 hf hpl ho;obtain⟨f,rfl⟩:∃q,f=q+1:=⟨f-1,by omega⟩;simp only[Ch.l6,hcr,zD,zN (show ¬(i<c.2.2.2.1) by omega),zG,DT,AZ]
    |succ m ED=>
     intro pl i names f o Ad hi h0 hf hpl ho;obtain⟨q,mid,q1,q2,q3,q4⟩:=Ad;have Jk:=CX (z_ d) _ _ _ _ q4;have hlt':=z_ _ _ _ q3;obtain⟨f,rfl⟩:∃q,f=q+1:=⟨f-1,by omega⟩;have hi1:IntKind.wrap .i64 (i+1)=i+1:=zP (by omega) (by omega);have hend:Aa s d pl=mid:=Dw d q3 d (Nat.le_refl _);have Cx:=FO k s hs hn (by omega) q3 (show d≤6 by omega) (by omega);have hr:=ih D pl mid q3 (by omega) (by omega) (by omega);rw[if_pos (zM hpl)] at hr;have hlen:(De s (Ca s d pl) pl).length≤mid-pl:=by
      unfold De;split
      ·simp
      ·split
       ·exact(Ja d pl mid (by omega) q3 0 0 0 []).choose_spec.2.2
       ·simp;omega
     simp only[Ch.l6,hcr,zD,zM (show i<c.2.2.2.1 by omega),zF,hr,Cx,hi1];rw[Cm (by omega),zF,ED mid (i+1) _ f _ q4 (by omega) (by omega) (by omega) (by omega) (by rw[A8];omega)];simp only[DT,hend,BC]
   have:=key c.2.2.2.1.toNat (a+1) 0 [] k [] Ad (by omega) (by omega) (by omega) (by omega) (by simp);rw[this,List.nil_append];simp only[Ca,hc];rw[if_pos h7]
  simp only[Ch.rec,Ch.b,hb5,zD,ha1];cases hz:(decide (0<a)&&(c.2.2.1 !=0)) with
  |true=>
   simp only[BK,Cs,bne_iff_ne] at hz;simp only[zF,zD];rw[if_pos (zM hz.1)];unfold De;rw[hc];simp only;rw[if_neg hz.2];rfl
  |false=>
   simp only[zG,hcr,zD];have hpc:(if decide (0<a)=true then De s (Ca s (d+1) a) a else Ca s (d+1) a)=Ca s (d+1) a:=by
    by_cases h:0<a
    ·rw[if_pos (zM h)]
     rw[zM h,Es] at hz;unfold De;rw[hc];simp only;rw[if_pos (by simpa using hz)]
    ·rw[if_neg (by simp[h])]
   rw[hpc];by_cases h7:c.2.1=7
   ·rw[Ba h7,zG,hloop h7]
   ·rw[Br h7,zF]
    simp only[Ca,hc];rw[if_neg h7];rfl
end
theorem TJ(k:Nat)(hk:2000000≤k)(s:List zC)(hn:∀c,c∈s→c.1.size<k∧c.1.size<1000000000∧AB c.2.2.2.1)(hS:Ck s):
 (IW k s=(Cg k s).bind fun r1=>cond (!r1) (some ((((),()),false),[])) (some ((((),()),true),FK s)))∧
 True∧(A7 s (FK s)).isSome=true:=by
 obtain⟨c0,hc0,Ky,_⟩:=IU hS;have h1:Ch k s 0=some ((),if decide (0<0)=true then De s (Ca s 6 0) 0 else Ca s 6 0):=TV k s hS.2.1 hn hk 6 k 0 s.length hS.2.2.1 (Nat.le_refl _) (by omega) (by omega);obtain⟨X,x1,_⟩:=Ml hS;refine⟨?_,?_,by rw[x1];rfl⟩
 ·unfold IW
  rw[h1];rfl
 ·trivial
def Dc(l:List zB):Prop:=∀v,v∈l→I7 v
theorem Dc.app{a b:List zB}(h:Dc a)(h':Dc b):Dc (a++b):=fun n hn=>(List.mem_append.1 hn).elim (h n) (h' n)
theorem Dc.one{v:zB}(h:I7 v):Dc [v]:=fun m hm=>by simp at hm;subst hm;exact h
def bnd:Nat→Nat
 |0=>1
 |d+1=>21*bnd d
theorem JX:∀d,1≤bnd d
 |0=>Nat.le_refl _
 |d+1=>by have:=JX d;simp only[bnd];omega
theorem LP(d:Nat):bnd d≤bnd (d+1):=by simp only[bnd];omega
theorem LM{d:Nat}(h:d≤6):bnd d≤85766121:=by
 have:∀d e,d≤e→bnd d≤bnd e:=by
  intro d e h
  induction h with
  |refl=>exact Nat.le_refl _
  |step _ ih=>exact Nat.le_trans ih (LP _)
 exact Nat.le_trans (this d 6 h) (by decide)
section
variable(k:Nat)(s:List zC)(hs:s.length≤20)(hn:∀c,c∈s→c.1.size<k∧c.1.size<1000000000∧AB c.2.2.2.1)(hk:2000000≤k)
include hs hn hk
def Gh(r:Option (Unit×zL×List zB))(acc:List zB)(B:Nat):Prop:=∃c' Y,r=some ((),(c',acc++Y))∧Aj c'∧Y.length≤B∧Dc Y
theorem LZ(S:List zC→Int→zL→List zB→Option (Unit×zL×List zB))(a:Nat)(B:Nat)(n:Int)(Sm:n≤20)
 (h:∀(f:Nat) (i:Int) (c:zL) (acc:List zB),i<n→0≤i→Aj c→acc.length+B≤4294967295→∃c' Y,Aj c'∧Y.length≤B∧Dc Y∧zZ.l10 k S (f+1) s (a:Int) n i c acc=zZ.l10 k S f s (a:Int) n (i+1) c' (acc++Y)):
 ∀(m:Nat) (i:Int) (f:Nat) (c:zL) (acc:List zB),n-i≤m→0≤i→m<f→Aj c→acc.length+B*m≤4294967295→Gh (zZ.l10 k S f s (a:Int) n i c acc) acc (B*m):=by
 intro m
 induction m with
 |zero=>
  intro i f c acc hi h0 hf hc ha;obtain⟨f,rfl⟩:∃q,f=q+1:=⟨f-1,by omega⟩;simp only[zZ.l10,zN (show ¬i<n by omega),zG];exact⟨c,[],by simp,hc,by simp,fun v hv=>by cases hv⟩
 |succ m ih=>
  intro i f c acc hi h0 hf hc ha;obtain⟨f,rfl⟩:∃q,f=q+1:=⟨f-1,by omega⟩;rw[Nat.mul_succ] at ha;by_cases hlt:i<n
  ·obtain⟨c',Y,q1,q2,q3,q4⟩:=h f i c acc hlt h0 hc (by omega)
   rw[q4];obtain⟨c2,Y2,r1,r2,r3,r4⟩:=ih (i+1) f c' (acc++Y) (by omega) (by omega) (by omega) q1 (by rw[A8];omega);exact⟨c2,Y++Y2,by rw[r1,BC],r2,by rw[A8,Nat.mul_succ];omega,q3.app r4⟩
  ·simp only[zZ.l10,zN hlt,zG]
   exact⟨c,[],by simp,hc,by simp,fun v hv=>by cases hv⟩
theorem L8:∀(d E a nx:Nat),zY s d a nx→nx≤s.length→d≤6→d≤E→
 (∀(n:Int) (f:Nat) (i:Int) (c:zL) (acc:List zB),n≤20→i<n→0≤i→Aj c→acc.length+bnd d*(nx-a)≤4294967295→
  ∃c' Y,Aj c'∧Y.length≤bnd d*(nx-a)∧Dc Y∧zZ.l10 k (zZ.rec k E) (f+1) s (a:Int) n i c acc=zZ.l10 k (zZ.rec k E) f s (a:Int) n (i+1) c' (acc++Y))∧
 (∀(c:zL) (acc:List zB),Aj c→acc.length+bnd (d+1)*(nx-a)≤4294967295→Gh (zZ.rec k (E+1) s (a:Int) c acc) acc (bnd (d+1)*(nx-a))):=by
 intro d
 induction d with
 |zero=>intro E a nx h;exact h.elim
 |succ d ih=>
  intro E a nx h hnx hd hE;obtain⟨E,rfl⟩:∃q,E=q+1:=⟨E-1,by omega⟩;have hlt:=z_ _ _ _ h;have hsub:=h;obtain⟨col,hc,hco,_,Ad⟩:=h;have hcr:gI s (a:Int)=some col:=hc;have hcm:=(hn col (List.mem_of_getElem? hc)).2.2;have hmp:=D7 (z_ d) _ _ _ _ Ad;have ha1:IntKind.wrap .i64 ((a:Int)+1)=((a+1:Nat):Int):=by rw[zP (by omega) (by omega)];omega
  have hbp:=JX (d+1)
  have hcont:∀(n:Int) (f:Nat) (i:Int) (c:zL) (acc:List zB),n≤20→i<n→0≤i→Aj c→acc.length+bnd (d+1)*(nx-a)≤4294967295→
   ∃c' Y,Aj c'∧Y.length≤bnd (d+1)*(nx-a)∧Dc Y∧zZ.l10 k (zZ.rec k (E+1)) (f+1) s (a:Int) n i c acc=zZ.l10 k (zZ.rec k (E+1)) f s (a:Int) n (i+1) c' (acc++Y):=by
   intro n f i c acc Sm hi h0 DJ ha;have hi1:IntKind.wrap .i64 (i+1)=i+1:=zP (by omega) (by omega);have hB1:bnd (d+1)*1≤bnd (d+1)*(nx-a):=Nat.mul_le_mul_left _ (by omega);by_cases h7:col.2.1=7
   ·have hmn:0≤col.2.2.2.1:=by
     unfold AX at hco;rw[h7,Eg] at hco;simp at hco;omega
    have key:∀(m pl:Nat) (j:Int) (names:List ByteArray) (f2:Nat) (c:zL) (acc:List zB),BX (zY s d) s m pl names nx→col.2.2.2.1-j=m→0≤j→m<f2→Aj c→acc.length+bnd (d+1)*(nx-pl)≤4294967295→
     ∃c' Y,Aj c'∧Y.length≤bnd (d+1)*(nx-pl)∧Dc Y∧zZ.Gv k (zZ.rec k (E+1)) (zZ.l10 k (zZ.rec k (E+1)) f) f2 s (a:Int) n i (pl:Int) j c acc=zZ.l10 k (zZ.rec k (E+1)) f s (a:Int) n (i+1) c' (acc++Y):=by
     intro m
     induction m with
     |zero=>
      intro pl j names f2 c acc Ad hj h0 hf DJ ha;obtain⟨f2,rfl⟩:∃q,f2=q+1:=⟨f2-1,by omega⟩;refine⟨c,[],DJ,by simp,fun v hv=>(by cases hv),?_⟩;simp only[zZ.Gv,hcr,zD,zN (show ¬(j<col.2.2.2.1) by omega),zG,zZ.c11,hi1,AZ]
     |succ m ED=>
      intro pl j names f2 c acc Ad hj h0 hf DJ ha;obtain⟨q,mid,q1,q2,q3,q4⟩:=Ad;have Jk:=CX (z_ d) _ _ _ _ q4;have hlt':=z_ _ _ _ q3;obtain⟨f2,rfl⟩:∃q,f2=q+1:=⟨f2-1,by omega⟩;have hj1:IntKind.wrap .i64 (j+1)=j+1:=zP (by omega) (by omega);have Cx:=FO k s hs hn (by omega) q3 (show d≤6 by omega) (by omega);have hsplit:bnd (d+1)*(nx-pl)=bnd (d+1)*(mid-pl)+bnd (d+1)*(nx-mid):=by rw[←Nat.mul_add];congr 1;omega
      obtain⟨c1,Y1,e1,e2,e3,e4⟩:=(ih E pl mid q3 (by omega) (by omega) (by omega)).2 c acc DJ (by omega);obtain⟨c2,Y2,g1,g2,g3,g4⟩:=ED mid (j+1) _ f2 c1 (acc++Y1) q4 (by omega) (by omega) (by omega) e2 (by rw[A8];omega);refine⟨c2,Y1++Y2,g1,by rw[A8];omega,e4.app g3,?_⟩;simp only[zZ.Gv,hcr,zD,zM (show j<col.2.2.2.1 by omega),zF,e1,Cx,hj1];rw[g4,BC]
    have hle:bnd (d+1)*(nx-(a+1))≤bnd (d+1)*(nx-a):=Nat.mul_le_mul_left _ (by omega);obtain⟨c',Y,g1,g2,g3,g4⟩:=key col.2.2.2.1.toNat (a+1) 0 [] k c acc Ad (by omega) (by omega) (by omega) DJ (by omega);refine⟨c',Y,g1,by omega,g3,?_⟩;rw[←g4];simp only[zZ.l10,zM hi,zF,hcr,zD,Ba h7,zG,ha1]
   ·obtain⟨v,c',e1,e2,e3⟩:=Mj k (by omega) col.2.1 c DJ
    refine⟨c',[v],e3,by simp only[Co];omega,Dc.one e2,?_⟩;simp only[zZ.l10,zM hi,zF,hcr,zD,Br h7,e1,zZ.c11,hi1];rw[Cm (by simp;omega),zF]
  refine⟨hcont,fun c acc DJ ha=> ?_⟩;have hb2:bnd (d+2)*(nx-a)=21*(bnd (d+1)*(nx-a)):=by simp only[bnd];rw[Nat.mul_assoc]
  have hB1:bnd (d+1)*1≤bnd (d+1)*(nx-a):=Nat.mul_le_mul_left _ (by omega);rw[hb2] at ha⊢;generalize UC:bnd (d+1)*(nx-a)=B at*;have items:∀(n:Int) (c:zL) (acc:List zB) (m:Nat),n≤m→m≤20→Aj c→acc.length+B*m≤4294967295→Gh (zZ.l10 k (zZ.rec k (E+1)) k s (a:Int) n 0 c acc) acc (B*m):=by
   intro n c acc m h1 h2 DJ ha;refine LZ k s hs hn hk (zZ.rec k (E+1)) a B n (by omega) (fun f i c acc hi h0 DJ ha=>hcont n f i c acc (by omega) hi h0 DJ ha) m 0 k c acc (by omega) (by omega) (by omega) DJ ha
  have some_:∀(n:Int) (c:zL),0≤n→n≤20→Aj c→Gh (zZ.c8 k (zZ.rec k (E+1)) s (a:Int) n c acc) acc (21*B):=by
   intro n c h0 h20 DJ;obtain⟨m,rfl⟩:=Int.eq_ofNat_of_zero_le h0;have hBm:B*m≤B*20:=Nat.mul_le_mul_left _ (by omega);unfold zZ.c8 zZ.c9;rw[Cm (by simp;omega),zF];obtain⟨c',Y,e1,e2,e3,e4⟩:=items (m:Int) c (acc++[((m:Int),zR,())]) m (by omega) (by omega) DJ (by simp;omega);refine⟨c',[((m:Int),zR,())]++Y,by rw[e1,BC],e2,by rw[A8,Co];omega,Dc.app (Dc.one ⟨⟨by omega,by omega⟩,e0⟩) e4⟩
  rw[show zZ.rec k (E+1+1)=zZ.b k (zZ.rec k (E+1)) from rfl];unfold zZ.b;have Sb:((cond (decide ((a:Int)>0)) ((gI s (a:Int)).bind fun y7=>some (y7.2.2.1 !=0)) (some false)):Option Bool)=some (decide (0<a)&&(col.2.2.1 !=0)):=by
   rw[hcr];by_cases h:0<a
   ·rw[zM (show(a:Int)>0 by omega),zM h];rfl
   ·rw[zN (show ¬(a:Int)>0 by omega),zN h];rfl
  rw[Sb];simp only[zD];cases hbb:(decide (0<a)&&(col.2.2.1 !=0)) with
  |false=>
   simp only[zG,zZ.c9];obtain⟨c',Y,e1,e2,e3,e4⟩:=items 1 c acc 1 (by omega) (by omega) DJ (by omega);exact⟨c',Y,e1,e2,by omega,e4⟩
  |true=>
   simp only[zF];obtain⟨v1,c1,e1,_,b1,hc1⟩:=BZ k 2 (by omega) c DJ;have b1:=b1 (by omega);simp only[e1,zD,hcr];by_cases h2:col.2.2.1=2
   ·rw[Al h2,zF]
    obtain⟨v2,c2,e2,_,b2,hc2⟩:=BZ k 4 (by omega) c1 hc1;have b2:=b2 (by omega);obtain⟨v3,c3,e3,hc3⟩:=FQ k 60 (by omega) c2 hc2;simp only[e2,e3,zD];cases v3 with
    |true=>exact some_ 20 c3 (by omega) (by omega) hc3
    |false=>exact some_ v2 c3 (by omega) (by omega) hc3
   ·rw[zS h2,zG]
    exact some_ v1 c1 (by omega) (by omega) hc1
end
theorem Mf(k:Nat)(hk:2000000≤k)(s:List zC)(hw:Bn s)(hS:Ck s)(hok:Cg k s=some true)(c:zL)(hc:Aj c):
 ∃c' V,FC k s c=some (((),()),(c',V))∧Aj c'∧(A7 s V).isSome=true∧Dc V:=by
 have hn:=HY k (by omega) hw;have Dx:=hS.2.1;obtain⟨k',rfl⟩:∃q,k=q+7:=⟨k-7,by omega⟩;have hb:=LM (Nat.le_refl 6);have UF:bnd 7=21*bnd 6:=rfl;have hbb:bnd 6*s.length≤85766121*20:=Nat.mul_le_mul hb Dx;have h0:=(L8 (k'+7) s Dx hn hk 6 (k'+6) 0 s.length hS.2.2.1 (Nat.le_refl _) (by omega) (by omega)).1;have hpart:Gh (zZ (k'+7) s 0 c []) [] (bnd 6*s.length):=by
  show Gh (zZ.b (k'+7) (zZ.rec (k'+7) (k'+6)) s 0 c []) [] _;unfold zZ.b zZ.c9;rw[show decide ((0:Int)>0)=false from rfl];simp only[zG,zD];obtain⟨c',Y,e1,e2,e3,e4⟩:=h0 1 (k'+6) 0 c [] (by omega) (by omega) (by omega) hc (by simp;omega);have e4:zZ.l10 (k'+7) (zZ.rec (k'+7) (k'+6)) (k'+7) s 0 1 0 c []=_:=e4;rw[e4];refine⟨c',Y,?_,e1,by simpa using e2,e3⟩;simp only[zZ.l10,zN (show ¬((0:Int)+1<1) by omega),zG]
 obtain⟨c',Y,e1,e2,e3,e4⟩:=hpart;rw[List.nil_append] at e1;unfold FC FC.c4;rw[e1];obtain⟨b,q1,_,_,q2,_⟩:=K8 (k'+7) hk s hn Y;have hbt:b=true:=by rw[hok] at q1;simpa using q1.symm
 subst hbt;simp only[zD,q2,Es];cases hr:(A7 s Y).isSome with
 |true=>
  simp only[Ah,zG];exact⟨c',Y,rfl,e2,hr,e4⟩
 |false=>
  simp only[Bf,zF];obtain⟨g1,_,g2⟩:=TJ (k'+7) hk s hn hS;rw[hok] at g1;simp only[zD,Ah,zG] at g1;rw[g1];exact⟨c',FK s,rfl,e2,g2,fun v hv=>by rw[J7 6 0 v hv];exact⟨⟨by decide,by decide⟩,by decide⟩⟩
end Go.BA
end
section
namespace Go.BA
open Go.Am Go.Fn
variable(k:Nat)
theorem Mg(hk:2000000≤k)(s:List zC)(hw:Bn s)(hS:Ck s)(hok:Cg k s=some true)(many:Int)(hm:many≤1000):∀(m f:Nat) (i:Int) (c:zL) (o:List Ay),many-i≤m→0≤i→m<f→Aj c→o.length+m≤10000→(∀r,r∈o→(A7 s r.1).isSome=true∧Dc r.1)→
 ∃c' R,Ee.l4 k f s many i c o=some ((),(c',R))∧Aj c'∧R.length≤o.length+m∧(∀r,r∈R→(A7 s r.1).isSome=true∧Dc r.1):=by
 intro m
 induction m with
 |zero=>
  intro f i c o hi h0 hf hc hl ho;obtain⟨f,rfl⟩:∃q,f=q+1:=⟨f-1,by omega⟩;simp only[Ee.l4,zN (show ¬i<many by omega),zG];exact⟨_,_,rfl,hc,by omega,ho⟩
 |succ m ih=>
  intro f i c o hi h0 hf hc hl ho;obtain⟨f,rfl⟩:∃q,f=q+1:=⟨f-1,by omega⟩;by_cases hlt:i<many
  ·obtain⟨c1,V,e1,hc1,g1,g2⟩:=Mf k hk s hw hS hok c hc
   have hi1:IntKind.wrap .i64 (i+1)=i+1:=zP (by omega) (by omega);simp only[Ee.l4,zM hlt,zF,e1,zD,hi1];rw[Cm (by simp;omega),zF]
   obtain⟨c',R,r1,r2,r3,r4⟩:=ih f (i+1) c1 (o++[(V,())]) (by omega) (by omega) (by omega) hc1 (by simp;omega) (fun r hr=>by
    rcases List.mem_append.1 hr with hr|hr
    ·exact ho r hr
    ·rw[List.mem_singleton] at hr
     subst hr;exact⟨g1,g2⟩)
   exact⟨c',R,r1,r2,by simp at r3;omega,r4⟩
  ·simp only[Ee.l4,zN hlt,zG]
   exact⟨_,_,rfl,hc,by omega,ho⟩
theorem Mh(hk:2000000≤k)(s:List zC)(hw:Bn s)(hS:Ck s)(hok:Cg k s=some true)(most:Nat)(hm:most≤500)(c:zL)(hc:Aj c):
 ∃c' R,Ee k s (most:Int) c=some ((),(c',R))∧Aj c'∧R.length≤most∧(∀r,r∈R→(A7 s r.1).isSome=true∧Dc r.1):=by
 unfold Ee;rw[zP (by omega) (by omega)];obtain⟨v,c1,e1,_,b1,hc1⟩:=BZ k ((most:Int)+1) (by omega) c hc;have b1:=b1 (by omega);simp only[e1,zD];obtain⟨m,rfl⟩:=Int.eq_ofNat_of_zero_le b1.1;obtain⟨c',R,r1,r2,r3,r4⟩:=Mg k hk s hw hS hok (m:Int) (by omega) m k 0 c1 [] (by omega) (by omega) (by omega) hc1 (by simp;omega) (fun r hr=>by cases hr);exact⟨c',R,r1,r2,by simp at r3;omega,r4⟩
end Go.BA
end
section
namespace Go.BA
open Go.Am Go.Fn
theorem Mc(k:Nat)(hk:2000000≤k)(c:zL)(hc:Aj c):∃s c' Dm,BV k c=some ((s,()),(c',Dm))∧Aj c'∧Bn s∧Dm.length≤100∧(∀x,x∈Dm→x.1.length≤3000):=by
 obtain⟨c1,s,e1,hc1,hw,hl,ok1,UN,hS⟩:=Me k (by omega) c hc;obtain⟨c2,R,e2,hc2,hR,UD⟩:=Mh k hk s hw hS ok1 5 (by omega) c1 hc1;have e2:Ee k s 5 c1=some ((),(c2,R)):=e2;have hn:=HY k (by omega) hw;obtain⟨b,h1,h2,h3,h4,_⟩:=Lh k s hn hk R;obtain⟨out,ho,hol,hox⟩:∃out:(Unit×Bool)×List zJ,CW k s R=some out∧out.2.length≤20∧∀x,x∈out.2→x.1.length≤2000:=by
  refine⟨_,h4,?_⟩;split
  ·cases hsh:shr s R with
   |none=>exact⟨by simp[F_],fun x hx=>by simp[F_] at hx⟩
   |some T=>
    obtain⟨_,_,_,q1,q2⟩:=Ua hsh;have:=Ep s s.length;have:=hS.2.1;refine⟨by simp[F_];omega,fun x hx=> ?_⟩;simp only[F_,List.mem_map] at hx;obtain⟨z,hz,rfl⟩:=hx;exact q2 z hz
  ·exact⟨by simp,fun x hx=>by simp at hx⟩
 unfold BV;simp only[e1,e2,ho,zD,zF];by_cases hz:(out.2.length:Int)=0
 ·rw[Al hz,zF]
  exact⟨_,_,_,rfl,hc2,hw,by omega,fun x hx=>by have:=hox x hx;omega⟩
 ·rw[zS hz,zG]
  obtain⟨v,c3,e3,hc3⟩:=FQ k 3 (by omega) c2 hc2;simp only[e3,zD];cases v with
  |false=>
   simp only[Bf,zF];exact⟨_,_,_,rfl,hc3,hw,by omega,fun x hx=>by have:=hox x hx;omega⟩
  |true=>
   simp only[Ah,zG];obtain⟨p,c4,e4,_,b4,hc4⟩:=BZ k (out.2.length:Int) (by omega) c3 hc3;have b4:=b4 (by omega);obtain⟨y,hy,hy'⟩:=FB (xs:=out.2) (i:=p) b4.1 b4.2;have hyl:=hox y (List.mem_of_getElem? hy');have put:∀(c:zL) (l:List zO),Aj c→l.length≤2001→∃s' c' Dm,BV.c20 k s p c out.2 l=some ((s',()),(c',Dm))∧Aj c'∧Bn s'∧Dm.length≤100∧(∀x,x∈Dm→x.1.length≤3000):=by
    intro c l hc hl;unfold BV.c20 BV.c23;obtain⟨v,c',e,hc'⟩:=FQ k 20 (by omega) c hc;simp only[hy,e,zD];have hset:∀x,x∈List.set out.2 p.toNat (l,())→x.1.length≤3000:=by
     intro x hx;rcases List.mem_or_eq_of_mem_set hx with hx|hx
     ·have:=hox x hx;omega
     ·subst hx;show l.length≤3000;omega
    cases v with
    |true=>
     rw[zF,Cm (by simp;omega),zF];refine⟨s,c',_,rfl,hc',hw,by simp;omega,fun x hx=> ?_⟩;rcases List.mem_append.1 hx with hx|hx
     ·exact hset x hx
     ·simp only[List.mem_singleton] at hx
      subst hx;simp
    |false=>
     rw[zG];exact⟨s,c',_,rfl,hc',hw,by simp;omega,hset⟩
   simp only[e4,hy,zD,List.nil_append];rw[Cm (show 0+y.1.length≤4294967296 by omega),zF];by_cases hpos:(y.1.length:Int)>0
   ·rw[zM hpos,zF]
    obtain⟨i,c5,e5,_,b5,Sc⟩:=BZ k (y.1.length:Int) (by omega) c4 hc4;have b5:=b5 (by omega);obtain⟨w,c6,e6,_,b6,hc6⟩:=BZ k 6 (by omega) c5 Sc;obtain⟨z,hz1,_⟩:=FB (xs:=y.1) (i:=i) b5.1 b5.2;simp only[e5,e6,hz1,zD];by_cases w0:w=0
    ·rw[Al w0,zF]
     obtain⟨u,c7,e7,_,_,GV⟩:=BZ k 3 (by omega) c6 hc6;simp only[e7,zD];exact put _ _ GV (by simp;omega)
    rw[zS w0,zG];by_cases w1:w=1
    ·rw[Al w1,zF]
     obtain⟨u,c7,e7,_,_,GV⟩:=BZ k 4 (by omega) c6 hc6;simp only[e7,zD];exact put _ _ GV (by simp;omega)
    rw[zS w1,zG];by_cases w2:w=2
    ·rw[Al w2,zF,zP (show -9223372036854775808≤i+1 by omega) (by omega)]
     have q1:jv 0 i y.1.length=true:=by unfold jv;simp;omega
     have q2:jv (i+1) (y.1.length:Int) y.1.length=true:=by unfold jv;simp;omega
     have q3:(j6 y.1 0 i).length+(j6 y.1 (i+1) (y.1.length:Int)).length≤2000:=by
      unfold j6;simp only[List.length_drop,List.length_take];omega
     rw[q1,q2,zF,zF,Cm (by omega),zF];exact put _ _ hc6 (by rw[A8];omega)
    rw[zS w2,zG];by_cases w3:w=3
    ·rw[Al w3,zF,Cm (by simp;omega),zF]
     exact put _ _ hc6 (by simp;omega)
    rw[zS w3,zG];by_cases w4:w=4
    ·rw[Al w4,zF]
     obtain⟨u,c7,e7,_,_,GV⟩:=BZ k 3 (by omega) c6 hc6;simp only[e7,zD];exact put _ _ GV (by simp;omega)
    rw[zS w4,zG];exact put _ _ hc6 (by omega)
   ·rw[zN hpos,zG]
    exact put _ _ hc4 (by omega)
theorem L9(k:Nat)(hk:2000000≤k)(t:List Int)(ht:t.length≤1048576):∃s Dm,EN k t=some ((s,()),Dm)∧(∀c,c∈s→c.1.size<k∧c.1.size<1000000000∧AB c.2.2.2.1)∧Dm.length≤100∧(∀x,x∈Dm→x.1.length≤3000):=by
 unfold EN;obtain⟨c,e,hc⟩:=Tz k (by omega) t ht;obtain⟨s,c1,Dm,e1,hc1,hw,hl,hx⟩:=Mc k hk c hc;obtain⟨v,c2,e2,hc2⟩:=FQ k 40 (by omega) c1 hc1;simp only[e,e1,e2,zD];cases v with
 |false=>
  rw[zG];exact⟨s,Dm,rfl,HY k (by omega) hw,hl,hx⟩
 |true=>
  rw[zF];have key:∀(m f:Nat) (i:Int) (c:zL) (S:List zC) (o:List zO),22-i≤m→0≤i→m<f→Aj c→o.length+m≤3000→∃o',EN.l7 k f i c S o=some ((S,()),[(o',())])∧o'.length≤3000:=by
   intro m
   induction m with
   |zero=>
    intro f i c S o hi h0 hf hc ho;obtain⟨f,rfl⟩:∃q,f=q+1:=⟨f-1,by omega⟩;obtain⟨v,c1,e1,_,b1,hc1⟩:=BZ k 2 (by omega) c hc;have b1:=b1 (by omega);simp only[EN.l7,e1,zD];rw[zP (show -9223372036854775808≤20+v by omega) (by omega),zN (by omega),zG];exact⟨o,rfl,by omega⟩
   |succ m ih=>
    intro f i c S o hi h0 hf hc ho;obtain⟨f,rfl⟩:∃q,f=q+1:=⟨f-1,by omega⟩;obtain⟨v,c1,e1,_,b1,hc1⟩:=BZ k 2 (by omega) c hc;have b1:=b1 (by omega);simp only[EN.l7,e1,zD];rw[zP (show -9223372036854775808≤20+v by omega) (by omega)];by_cases h:i<20+v
    ·rw[zM h,zF,Cm (by simp;omega),zF,zP (show -9223372036854775808≤i+1 by omega) (by omega)]
     exact ih f (i+1) c1 S _ (by omega) (by omega) (by omega) hc1 (by simp;omega)
    ·rw[zN h,zG]
     exact⟨o,rfl,by omega⟩
  obtain⟨o',r1,r2⟩:=key 21 k 1 c2 [(zR,7,0,1,()),((⟨#[97]⟩:ByteArray),0,2,0,())] [(0,1,(0,zR,()),())] (by omega) (by omega) (by omega) hc2 (by simp);refine⟨_,_,r1,fun c hc=> ?_,by simp,fun x hx=> ?_⟩
  ·simp only[List.mem_cons,List.not_mem_nil,or_false] at hc
   rcases hc with rfl|rfl
   ·exact⟨show 0<k by omega,show 0<1000000000 by omega,by unfold AB;simp only;omega⟩
   ·exact⟨show 1<k by omega,show 1<1000000000 by omega,by unfold AB;simp only;omega⟩
  ·simp only[List.mem_singleton] at hx
   subst hx;exact r2
theorem TP(k:Nat)(l:List zO)(hl:l.length<k)(hl2:l.length≤1048576):EK k l l=some true:=by
 unfold EK;rw[Ba rfl,zG];have key:∀(post pre:List zO) (f:Nat),l=pre++post→post.length<f→EK.l4 k f l l (pre.length:Int)=some true:=by
  intro post
  induction post with
  |nil=>
   intro pre f h hf;obtain⟨f,rfl⟩:∃q,f=q+1:=⟨f-1,by omega⟩;rw[AZ] at h;subst h;simp only[EK.l4,zN (show ¬((l.length:Int)<(l.length:Int)) by omega),zG]
  |cons y post ih=>
   intro pre f h hf;simp only[Ct] at hf;obtain⟨f,rfl⟩:∃q,f=q+1:=⟨f-1,by omega⟩;have hlen:l.length=pre.length+(post.length+1):=by rw[h];simp
   have hg:gI l (pre.length:Int)=some y:=by rw[h];exact DI _ _ _
   have hi1:IntKind.wrap .i64 ((pre.length:Int)+1)=((pre.length+1:Nat):Int):=by rw[zP (by omega) (by omega)];omega
   have:=ih (pre++[y]) f (by rw[h];simp) (by omega);rw[A8,Co] at this;have he:jk y.2.2.1.2.1 y.2.2.1.2.1=true:=by simp[jk]
   simp only[EK.l4,zM (show(pre.length:Int)<(l.length:Int) by omega),zF,hg,zD,beq_self_eq_true,he,Bool.and_self,Ah,zG,hi1,this]
 exact key l [] k rfl hl
theorem fnAssemble(t:List Int):∃k,E9 k t=some true:=by
 refine⟨3000000,?_⟩;generalize hk:3000000=k;have hk':2000000≤k:=by omega
 clear hk;unfold E9 Jr;by_cases hb:(t.length:Int)>1048576
 ·simp only[zM hb,zD,zF]
 ·obtain⟨s,Dm,e1,hn,hl,hx⟩:=L9 k hk' t (by omega)
  obtain⟨T,rfl⟩:∃T:Ai,Dm=T.map Ab:=⟨Dm.map (·.1),by
   rw[List.map_map];exact(List.map_id'' (fun x=>rfl) Dm).symm⟩
  rw[List.length_map] at hl;have hx:∀x,x∈T→x.length≤3000:=fun x hm=>hx (Ab x) (List.mem_map_of_mem hm);obtain⟨code,out,a1,a2,a3,a4,_,a6,a7⟩:=LK k s hn hk' T (by omega) (fun x hm=>by have:=hx x hm;omega);simp only[zN hb,zD,zG,e1,a1,a2,Ba rfl];by_cases hc:code=0
  ·obtain⟨ok,hT,hcr,n,R,q,l,Sn,hA,hend,rfl,hall⟩:=a6 hc
   subst hc;obtain⟨b,h1,h2,h3,h4,h5⟩:=Lh k s hn hk' out;rw[ok] at h1;obtain rfl:true=b:=Option.some.inj h1;have hS:=h3 rfl;have hs:=LJ hS hT hcr hA hend hall;rw[if_pos ⟨rfl,by omega⟩,hs] at h5;simp only[Ba rfl,zG,h5,F_,zD,Ah,List.length_map];have key:∀(post pre:Ai) (f:Nat),T=pre++post→post.length<f→E9.Bt k f (pre.length:Int) (T.map Ab) (T.map B_)=some true:=by
    intro post
    induction post with
    |nil=>
     intro pre f h hf;obtain⟨f,rfl⟩:∃q,f=q+1:=⟨f-1,by omega⟩;rw[AZ] at h;subst h;simp only[E9.Bt,List.length_map,zN (show ¬((T.length:Int)<(T.length:Int)) by omega),zG]
    |cons x post ih=>
     intro pre f h hf;simp only[Ct] at hf;obtain⟨f,rfl⟩:∃q,f=q+1:=⟨f-1,by omega⟩;have hlen:T.length=pre.length+(post.length+1):=by rw[h];simp
     have hxm:x∈T:=by rw[h];simp
     have hxl:=hx x hxm;have hg:T[pre.length]?=some x:=by rw[h];simp
     have g1:gI (T.map Ab) (pre.length:Int)=some (x,()):=by rw[Ak,List.getElem?_map,hg];rfl
     have g2:gI (T.map B_) (pre.length:Int)=some (x,()):=by rw[Ak,List.getElem?_map,hg];rfl
     have hi1:IntKind.wrap .i64 ((pre.length:Int)+1)=((pre.length+1:Nat):Int):=by rw[zP (by omega) (by omega)];omega
     have:=ih (pre++[x]) f (by rw[h];simp) (by omega);rw[A8,Co] at this;simp only[E9.Bt,List.length_map,zM (show(pre.length:Int)<(T.length:Int) by omega),zF,g1,g2,zD,TP k x (by omega) (by omega),Ah,zG,hi1,this]
   exact key T [] k rfl (by omega)
  ·rw[Br hc,zF,a7 hc]
   rfl
end Go.BA
end
