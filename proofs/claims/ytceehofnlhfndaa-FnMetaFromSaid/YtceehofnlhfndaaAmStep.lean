/- an abstract machine over the model: what it holds, how it steps, and that its steps are sound -/
import Derived.Laws.AppendOwn
import Derived.Laws.MakeOwn
import Derived.Laws.Entries
import Derived.Laws.BytesArg
set_option linter.unnecessarySimpa false
set_option linter.unusedSimpArgs false
set_option linter.unusedVariables false
set_option linter.unusedSectionVars false
section
namespace Go.Am
inductive Ty where
 |int (k:IntKind)|bool|str
 |list (e:TypeId) (t:Ty)
 |nil|cons (a b:Ty)|st (a:Ty)
 |ptr
 deriving DecidableEq,Inhabited
@[reducible] def Ty.Den:Ty→Type
 | .int _=>Int
 | .bool=>Bool
 | .str=>ByteArray
 | .list _ t=>List t.Den
 | .nil=>Unit
 | .cons a b=>a.Den×b.Den
 | .st a=>a.Den
 | .ptr=>Unit
def Ty.dflt:(t:Ty)→t.Den
 | .int _=>(0:Int)
 | .bool=>false
 | .str=>(⟨#[]⟩:ByteArray)
 | .list _ _=>[]
 | .nil=>()
 | .cons a b=>(a.dflt,b.dflt)
 | .st a=>a.dflt
 | .ptr=>()
def Ty.size:Ty→Nat
 | .int _| .bool| .str| .list _ _| .ptr=>1
 | .nil=>0
 | .cons a b=>a.size+b.size
 | .st a=>a.size
def Ty.flat:Ty→Bool
 | .int _| .bool| .str| .nil=>true
 | .list _ _| .ptr=>false
 | .cons a b=>a.flat&&b.flat
 | .st a=>a.flat
def Ty.fM:Ty→Bool
 | .ptr=>false
 | .cons a b=>a.fM&&b.fM
 | .st a=>a.fM
 |_=>true
def Ty.isAgg:Ty→Bool
 | .st _=>true
 |_=>false
def mkV(agg:Bool)(cs:List Value)(v:Value):Prop:=if agg then v= .agg cs.toArray else cs=[v]
structure DV where
 ty:Ty
 v:ty.Den
def splice(cs:List Value)(o:Nat)(vs:List Value):List Value:=cs.take o++vs++cs.drop (o+vs.length)
theorem kQ{cs vs:List Value}{o:Nat}(h:o+vs.length≤cs.length):(splice cs o vs).length=cs.length:=by
 simp[splice];omega
def aU{α:Type}(R:α→List Value→Prop):List α→List Value→Prop
 |[],f=>f=[]
 |x::xs,f=>∃c g,f=c++g∧R x c∧aU R xs g
def iD(w:World)(A:Option Addr)(f:List Value):Prop:=
 ∀j u,f[j]?=some u→∃ad,A=some ad∧w.cell? ⟨ad.block,ad.off+j,none⟩=some u
def Rd(w:World)(S:Nat→Prop):(t:Ty)→t.Den→List Value→Prop
 | .int k,x,cs=>cs=[.int k x]
 | .bool,x,cs=>cs=[.bool x]
 | .str,x,cs=>cs=[.string x]
 | .list _ t,xs,cs=>∃A n c f,cs=[.slice A n c]∧n=xs.length∧n≤c∧aU (Rd w S t) xs f∧
  (∀ad,A=some ad→0<n→ad.spot=none∧S ad.block)∧iD w A f∧(0<n→A≠none)∧(A=none→c=0)
 | .nil,_,cs=>cs=[]
 | .cons a b,x,cs=>∃c d,cs=c++d∧Rd w S a x.1 c∧Rd w S b x.2 d
 | .st a,x,cs=>Rd w S a x cs
 | .ptr,_,_=>False
def bg{α:Type}(R:α→List Value→List Nat→Prop):List α→List Value→List Nat→Prop
 |[],f,bs=>f=[]∧bs=[]
 |x::xs,f,bs=>∃c g b d,f=c++g∧bs=b++d∧R x c b∧bg R xs g d
def Ow(w:World):(t:Ty)→t.Den→List Value→List Nat→Prop
 | .int k,x,cs,bs=>cs=[.int k x]∧bs=[]
 | .bool,x,cs,bs=>cs=[.bool x]∧bs=[]
 | .str,x,cs,bs=>cs=[.string x]∧bs=[]
 | .list e t,xs,cs,bs=>∃v f nb,cs=[v]∧w.ownsRow 0 e t.size v xs.length f∧bg (Ow w t) xs f nb∧bs=v.ownBlock.toList++nb
 | .nil,_,cs,bs=>cs=[]∧bs=[]
 | .cons a b,x,cs,bs=>∃c d e g,cs=c++d∧bs=e++g∧Ow w a x.1 c e∧Ow w b x.2 d g
 | .st a,x,cs,bs=>Ow w a x cs bs
 | .ptr,_,_,_=>False
theorem fU{α:Type}{R:α→List Value→Prop}{s:Nat}(h:∀x c,R x c→c.length=s):∀(xs:List α) (f:List Value),aU R xs f→f.length=xs.length*s
 |[],f,e=>by simp[show f=[] from e]
 |x::xs,f,⟨c,g,e,hr,hg⟩=>by
  subst e;simp[h x c hr,fU h xs g hg,Nat.add_mul,Nat.add_comm]
theorem aH{w:World}{S:Nat→Prop}:∀(t:Ty) (x:t.Den) (cs:List Value),Rd w S t x cs→cs.length=t.size
 | .int _,_,_,h| .bool,_,_,h| .str,_,_,h=>by simp[show _=_ from h,Ty.size]
 | .list _ _,_,_,⟨_,_,_,_,h,_⟩=>by simp[h,Ty.size]
 | .nil,_,_,h=>by simp[show _=_ from h,Ty.size]
 | .cons a b,x,_,⟨c,d,h,h1,h2⟩=>by simp[h,Ty.size,aH a _ c h1,aH b _ d h2]
 | .st a,x,cs,h=>aH a x cs h
 | .ptr,_,_,h=>(show False from h).elim
theorem nk{α:Type}{R:α→List Value→List Nat→Prop}{s:Nat}(h:∀x c b,R x c b→c.length=s):∀(xs:List α) (f:List Value) (bs:List Nat),bg R xs f bs→f.length=xs.length*s
 |[],f,_,e=>by simp[show f=[] from e.1]
 |x::xs,f,_,⟨c,g,_,_,e,_,hr,hg⟩=>by
  subst e;simp[h x c _ hr,nk h xs g _ hg,Nat.add_mul,Nat.add_comm]
theorem dH{w:World}:∀(t:Ty) (x:t.Den) (cs:List Value) (bs:List Nat),Ow w t x cs bs→cs.length=t.size
 | .int _,_,_,_,h| .bool,_,_,_,h| .str,_,_,_,h=>by simp[h.1,Ty.size]
 | .list _ _,_,_,_,⟨_,_,_,h,_⟩=>by simp[h,Ty.size]
 | .nil,_,_,_,h=>by simp[h.1,Ty.size]
 | .cons a b,x,_,_,⟨c,d,_,_,h,_,h1,h2⟩=>by simp[h,Ty.size,dH a _ c _ h1,dH b _ d _ h2]
 | .st a,x,cs,bs,h=>dH a x cs bs h
 | .ptr,_,_,_,h=>(show False from h).elim
theorem fo{α:Type}{R R':α→List Value→Prop}(h:∀x c,R x c→R' x c):∀(xs:List α) (f:List Value),aU R xs f→aU R' xs f
 |[],_,e=>e
 |_::xs,_,⟨c,g,e,hr,hg⟩=>⟨c,g,e,h _ _ hr,fo h xs g hg⟩
theorem iD.mono{w w':World}{A:Option Addr}{f:List Value}{S:Nat→Prop}(hA:∀ad,A=some ad→(f=[]∨S ad.block))
 (hw:∀b,S b→w'.heap[b]?=w.heap[b]?) (h:iD w A f):iD w' A f:=by
 intro j u hu;obtain⟨ad,e,hc⟩:=h j u hu;refine⟨ad,e,?_⟩;rcases hA ad e with rfl|hS
 ·simp at hu
 ·rw[←hc];exact World.cell?_of_block (w:=w) (hw _ hS)
theorem aN{w w':World}{S S':Nat→Prop}(hS:∀b,S b→S' b)(hw:∀b,S b→w'.heap[b]?=w.heap[b]?):
 ∀(t:Ty) (x:t.Den) (cs:List Value),Rd w S t x cs→Rd w' S' t x cs
 | .int _,_,_,h| .bool,_,_,h| .str,_,_,h| .nil,_,_,h=>h
 | .list e t,xs,cs,⟨A,n,c,f,h1,h2,h3,h4,h5,h6,h7⟩=>by
   refine⟨A,n,c,f,h1,h2,h3,fo (aN hS hw t) xs f h4,fun ad e hn=>⟨(h5 ad e hn).1,hS _ (h5 ad e hn).2⟩,?_,h7⟩;refine h6.mono (S:=S) (fun ad e=> ?_) hw;rcases Nat.eq_zero_or_pos n with h0|h0
   ·left
    have:=fU (aH t) xs f h4;rw[←h2,h0] at this;exact List.eq_nil_of_length_eq_zero (by simpa using this)
   ·exact .inr (h5 ad e h0).2
 | .cons a b,x,_,⟨c,d,h,h1,h2⟩=>⟨c,d,h,aN hS hw a _ c h1,aN hS hw b _ d h2⟩
 | .st a,x,cs,h=>aN hS hw a x cs h
 | .ptr,_,_,h=>(show False from h).elim
theorem fV{w w':World}{S S':Nat→Prop}:∀(t:Ty),t.flat=true→∀(x:t.Den) (cs:List Value),Rd w S t x cs→Rd w' S' t x cs
 | .int _,_,_,_,h| .bool,_,_,_,h| .str,_,_,_,h| .nil,_,_,_,h=>h
 | .list _ _,hf,_,_,_=>by simp[Ty.flat] at hf
 | .cons a b,hf,x,_,⟨c,d,h,h1,h2⟩=>by
   simp[Ty.flat] at hf;exact⟨c,d,h,fV a hf.1 _ c h1,fV b hf.2 _ d h2⟩
 | .st a,hf,x,cs,h=>fV a hf x cs h
 | .ptr,_,_,_,h=>(show False from h).elim
theorem pJ{α:Type}{R R':α→List Value→List Nat→Prop}:∀(xs:List α) (f:List Value) (bs:List Nat),
 (∀x c b,(∀k,k∈b→k∈bs)→R x c b→R' x c b)→bg R xs f bs→bg R' xs f bs
 |[],_,_,_,e=>e
 |_::xs,_,_,h,⟨c,g,b,d,e,e',hr,hg⟩=>by
  subst e';exact⟨c,g,b,d,e,rfl,h _ _ _ (fun k hk=>List.mem_append.2 (.inl hk)) hr,pJ xs g d (fun x c b' hb=>h x c b' fun k hk=>List.mem_append.2 (.inr (hb k hk))) hg⟩
theorem wF{w w':World}{e:TypeId}{size n:Nat}{v:Value}{xs:List Value}(h:w.ownsRow 0 e size v n xs)
 (hw:∀k,v.ownBlock=some k→w'.heap[k]?=w.heap[k]?):w'.ownsRow 0 e size v n xs:=by
 refine⟨h.1,?_⟩;rcases h.2 with hn|⟨g,cap,cur,rfl,hb,hgg,rest⟩
 ·exact .inl hn
 ·exact .inr ⟨g,cap,cur,rfl,hb,by rw[hw g (by simp[Value.ownBlock])];exact hgg,rest⟩
theorem gL{w w':World}:∀(t:Ty) (x:t.Den) (cs:List Value) (bs:List Nat),(∀b,b∈bs→w'.heap[b]?=w.heap[b]?)→Ow w t x cs bs→Ow w' t x cs bs
 | .int _,_,_,_,_,h| .bool,_,_,_,_,h| .str,_,_,_,_,h| .nil,_,_,_,_,h=>h
 | .list e t,xs,cs,bs,hw,⟨v,f,nb,h1,h2,h3,h4⟩=>by
   subst h4;refine⟨v,f,nb,h1,wF h2 (fun k hk=>hw k (by simp[hk])),?_,rfl⟩;exact pJ xs f nb (fun x c b hb=>gL t x c b fun k hk=>hw k (List.mem_append.2 (.inr (hb k hk)))) h3
 | .cons a b,x,_,_,hw,⟨c,d,e,g,h,h',h1,h2⟩=>by
   subst h';exact⟨c,d,e,g,h,rfl,gL a _ c e (fun k hk=>hw k (List.mem_append.2 (.inl hk))) h1,gL b _ d g (fun k hk=>hw k (List.mem_append.2 (.inr hk))) h2⟩
 | .st a,x,cs,bs,hw,h=>gL a x cs bs hw h
 | .ptr,_,_,_,_,h=>(show False from h).elim
theorem ni{α:Type}{R:α→List Value→List Nat→Prop}{R':α→List Value→Prop}:∀(xs:List α) (f:List Value) (bs:List Nat),
 (∀x c b,(∀k,k∈b→k∈bs)→R x c b→R' x c)→bg R xs f bs→aU R' xs f
 |[],_,_,_,e=>e.1
 |_::xs,_,_,h,⟨c,g,b,d,e,e',hr,hg⟩=>by
  subst e';exact⟨c,g,e,h _ _ _ (fun k hk=>List.mem_append.2 (.inl hk)) hr,ni xs g d (fun x c b' hb=>h x c b' fun k hk=>List.mem_append.2 (.inr (hb k hk))) hg⟩
theorem dV{w:World}:∀(t:Ty) (x:t.Den) (cs:List Value) (bs:List Nat),Ow w t x cs bs→Rd w (·∈bs) t x cs
 | .int _,_,_,_,h| .bool,_,_,_,h| .str,_,_,_,h| .nil,_,_,_,h=>h.1
 | .list e t,xs,cs,bs,⟨v,f,nb,h1,h2,h3,h4⟩=>by
   subst h4
   have hE:aU (Rd w (·∈v.ownBlock.toList++nb) t) xs f:=ni xs f nb (fun x c b hb h=>
    aN (fun k hk=>List.mem_append.2 (.inr (hb k hk))) (fun _ _=>rfl) t x c (dV t x c b h)) h3
   have hlen:=nk (dH t) xs f nb h3;rcases h2.2 with⟨rfl,h0⟩|⟨g,cap,cur,rfl,_,hg,hnc,hcm,hcs,ht⟩
   ·refine⟨none,xs.length,0,f,by simp[h1,h0],rfl,by omega,hE,by simp,?_,by omega,fun _=>rfl⟩
    intro j u hu;rw[h0] at hlen;simp[List.eq_nil_of_length_eq_zero (show f.length=0 by simpa using hlen)] at hu
   ·refine⟨some ⟨g,0,none⟩,xs.length,cap,f,h1,rfl,hnc,hE,?_,?_,by simp,by simp⟩
    ·intro ad e
     obtain rfl:=Option.some.inj e;exact fun _=>⟨rfl,by simp[Value.ownBlock]⟩
    ·intro j u hu
     have:=h2.cells (g:=g) rfl j u hu;refine⟨_,rfl,?_⟩;have hadd:(⟨g,0,none⟩:Addr).add j=⟨g,0+j,none⟩:=by unfold Addr.add;split<;>simp_all
     rwa [hadd] at this
 | .cons a b,x,_,_,⟨c,d,e,g,h,h',h1,h2⟩=>by
   subst h'
   exact⟨c,d,h,aN (fun k hk=>List.mem_append.2 (.inl hk)) (fun _ _=>rfl) a _ c (dV a _ c e h1),
    aN (fun k hk=>List.mem_append.2 (.inr hk)) (fun _ _=>rfl) b _ d (dV b _ d g h2)⟩
 | .st a,x,cs,bs,h=>dV a x cs bs h
 | .ptr,_,_,_,h=>(show False from h).elim
theorem iC{w:World}:∀(t:Ty),t.flat=true→∀(x:t.Den) (cs:List Value) (bs:List Nat),Ow w t x cs bs→bs=[]
 | .int _,_,_,_,_,h| .bool,_,_,_,_,h| .str,_,_,_,_,h| .nil,_,_,_,_,h=>h.2
 | .list _ _,hf,_,_,_,_=>by simp[Ty.flat] at hf
 | .cons a b,hf,x,_,_,⟨c,d,e,g,_,h',h1,h2⟩=>by
   simp[Ty.flat] at hf;simp[h',iC a hf.1 _ c e h1,iC b hf.2 _ d g h2]
 | .st a,hf,x,cs,bs,h=>iC a hf x cs bs h
 | .ptr,_,_,_,_,h=>(show False from h).elim
theorem jK{w w':World}{S:Nat→Prop}:∀(t:Ty),t.flat=true→∀(x:t.Den) (cs:List Value),Rd w S t x cs→Ow w' t x cs []
 | .int _,_,_,_,h| .bool,_,_,_,h| .str,_,_,_,h| .nil,_,_,_,h=>⟨h,rfl⟩
 | .list _ _,hf,_,_,_=>by simp[Ty.flat] at hf
 | .cons a b,hf,x,_,⟨c,d,h,h1,h2⟩=>by
   simp[Ty.flat] at hf;exact⟨c,d,[],[],h,rfl,jK a hf.1 _ c h1,jK b hf.2 _ d h2⟩
 | .st a,hf,x,cs,h=>jK a hf x cs h
 | .ptr,_,_,_,h=>(show False from h).elim
theorem kY{α:Type}{R:α→List Value→Prop}{s:Nat}(hs:∀x c,R x c→c.length=s):∀(xs:List α) (f:List Value),aU R xs f→
 ∀(k:Nat) (x:α),xs[k]?=some x→∃c,R x c∧∀j,j<s→f[k*s+j]?=c[j]?
 |[],_,_,_,_,h=>by simp at h
 |y::ys,f,⟨c,g,e,hr,hg⟩,0,x,h=>by
  simp at h;subst h e;exact⟨c,hr,fun j hj=>by rw[Nat.zero_mul,Nat.zero_add,List.getElem?_append_left (by rw[hs _ _ hr];exact hj)]⟩
 |y::ys,f,⟨c,g,e,hr,hg⟩,k+1,x,h=>by
  subst e;obtain⟨c',hr',hc'⟩:=kY hs ys g hg k x (by simpa using h);refine⟨c',hr',fun j hj=> ?_⟩;rw[←hc' j hj,Nat.add_mul,Nat.one_mul,List.getElem?_append_right (by rw[hs _ _ hr];omega),hs _ _ hr]
  congr 1
  omega
end Go.Am
end
section
namespace Go.Am
inductive Md where
 |own|aV|shl
 |hole (ix:Int) (path:List Nat) (m:Nat)
inductive Cn where
 |ro (b:Option (Nat×Nat)) (d:DV)
 |bq (e:TypeId) (t:Ty)
 |h (i:Nat)
 |p (i:Nat)
 |addr (i:Nat) (k:Int) (es off:Nat) (path:List Nat) (cache:Option (Nat×DV))
 |aZ (b:Option (Nat×Nat)) (d:DV)
 |sub (i:Nat) (ix:Int) (path:List Nat) (aj:Nat) (d:DV)
 |pre (i:Nat) (aj:Nat) (e:TypeId) (t:Ty) (xs:List t.Den)
 |fn (f:FuncId) (caps:Cn)
 |b_ (c:Cn)
 |nil
 |cons (a b:Cn)
 |agg (c:Cn)
 |cst (v:Value)
 |any
 |dead
inductive Ob where
 |sl (fz:Md) (aj:Nat) (e:TypeId) (t:Ty) (xs:List t.Den)
 |box (u:Ty) (c:Cn)
 |a_ (b:Bool) (u:Ty) (c:Cn)
 |mp (u:Ty) (kk:IntKind) (l:List (u.Den×Int))
 |dead
def Ob.lay:Ob→Option Ty
 | .sl _ _ _ t _=>some t
 | .box u _=>some u
 | .a_ _ u _=>some u
 | .mp _ _ _=>none
 | .dead=>none
def Ob.bn:Ob→Bool
 | .box _ _=>true
 | .a_ _ _ _=>true
 |_=>false
structure St where
 sl:Nat→Cn
 ob:Nat→Ob
 nx:Nat
def upd{α:Type}(f:Nat→α)(k:Nat)(v:α):Nat→α:=fun n=>match Nat.beq n k with|true=>v|false=>f n
theorem upd_same{α:Type}(f:Nat→α)(k:Nat)(v:α):upd f k v k=v:=by simp[upd]
theorem aB{α:Type}(f:Nat→α)(k:Nat)(v:α)(n:Nat)(h:n≠k):upd f k v n=f n:=by
 have:Nat.beq n k=false:=by
  cases e:Nat.beq n k with
  |false=>rfl
  |true=>exact absurd (Nat.eq_of_beq_eq_true e) h
 simp only[upd,this]
theorem jD{α:Type}(f:Nat→α)(k:Nat)(v:α)(n:Nat):upd f k v n=if n=k then v else f n:=by
 by_cases h:n=k
 ·subst h;simp[upd_same]
 ·simp[aB _ _ _ _ h,h]
def Cn.isAgg:Cn→Bool
 | .ro _ d=>d.ty.isAgg
 | .sub _ _ _ _ d=>d.ty.isAgg
 | .agg _=>true
 |_=>false
structure Env where
 w:World
 Z:Nat→Prop
 af:Nat→Value
 B:Nat→List Nat
def bS:Value→Option Nat
 | .slice (some a) _ _=>if a.off=0∧a.spot=none then some a.block else none
 | .pointer (some a)=>if a.off=0∧a.spot=none then some a.block else none
 |_=>none
def fresh(ob:Nat→Ob)(i aj:Nat):Prop:=
 match ob i with
 | .sl _ v _ _ _=>v=aj
 |_=>False
def src(E:Env):Option (Nat×Nat)→Nat→Prop
 |none,b=>E.Z b
 |some (i,_),b=>b∈E.B i∨E.Z b
def live(ob:Nat→Ob):Option (Nat×Nat)→Prop
 |none=>True
 |some (i,aj)=>fresh ob i aj
def bR(ob:Nat→Ob)(nx:Nat):Option (Nat×Nat)→Prop
 |none=>True
 |some (i,aj)=>i<nx∧match ob i with
  | .sl _ v _ _ _=>aj≤v
  |_=>True
def bz(t:Ty)(d:DV):Option t.Den:=if h:d.ty=t then some (h▸d.v) else none
theorem cZ{t:Ty}{d:DV}{x:t.Den}(h:bz t d=some x):d=⟨t,x⟩:=by
 unfold bz at h;split at h
 ·rename_i e
  obtain⟨ty,v⟩:=d;subst e;simp only[Option.some.injEq] at h;subst h;rfl
 ·cases h
def Ty.at:Ty→Nat→Option (Nat×Ty)
 | .cons a _,0=>some (0,a)
 | .cons a b,n+1=>match b.at n with
   |some (o,t)=>some (a.size+o,t)
   |none=>none
 |_,_=>none
def Ty.dN:Ty→Nat→Option (Nat×Ty)
 | .st a,n=>a.at n
 |_,_=>none
def Ty.aM:Ty→List Nat→Option (Nat×Ty)
 |t,[]=>some (0,t)
 |t,f::r=>match t.dN f with
  |some (o,u)=>match u.aM r with
   |some (p,v)=>some (o+p,v)
   |none=>none
  |none=>none
def dz:(t:Ty)→Nat→t.Den→Option DV
 | .cons a _,0,x=>some ⟨a,x.1⟩
 | .cons _ b,n+1,x=>dz b n x.2
 |_,_,_=>none
def jg(d:DV)(n:Nat):Option DV:=
 match d with
 |⟨.st a,x⟩=>dz a n x
 |_=>none
def bU:DV→List Nat→Option DV
 |d,[]=>some d
 |d,f::r=>match jg d f with
  |some e=>bU e r
  |none=>none
def dZ(g:(t:Ty)→t.Den→Option t.Den):(t:Ty)→Nat→t.Den→Option t.Den
 | .cons a _,0,x=>match g a x.1 with
   |some y=>some (y,x.2)
   |none=>none
 | .cons _ b,n+1,x=>match dZ g b n x.2 with
   |some y=>some (x.1,y)
   |none=>none
 |_,_,_=>none
def Bq(g:(t:Ty)→t.Den→Option t.Den)(n:Nat):(t:Ty)→t.Den→Option t.Den
 | .st a,x=>dZ g a n x
 |_,_=>none
def bQ(d:DV):List Nat→(t:Ty)→t.Den→Option t.Den
 |[]=>fun t _=>bz t d
 |f::r=>Bq (bQ d r) f
def fP:Cn→Nat→Option Cn
 | .cons a _,0=>some a
 | .cons _ b,n+1=>fP b n
 |_,_=>none
def gF(g:Cn→Option Cn):Cn→Nat→Option Cn
 | .cons a b,0=>match g a with
   |some x=>some (.cons x b)
   |none=>none
 | .cons a b,n+1=>match gF g b n with
   |some x=>some (.cons a x)
   |none=>none
 |_,_=>none
def gU:(t:Ty)→t.Den→Cn
 | .st a,x=> .agg (gU a x)
 | .cons a b,x=> .cons (gU a x.1) (gU b x.2)
 | .nil,_=> .nil
 | .int k,x=> .ro none ⟨.int k,x⟩
 | .bool,x=> .ro none ⟨.bool,x⟩
 | .str,x=> .ro none ⟨.str,x⟩
 | .list e t,x=> .ro none ⟨.list e t,x⟩
 | .ptr,_=> .dead
def d_:Ty→Cn
 | .st a=> .agg (d_ a)
 | .cons a b=> .cons (d_ a) (d_ b)
 | .nil=> .nil
 | .int k=> .ro none ⟨.int k,(0:Int)⟩
 | .bool=> .ro none ⟨.bool,false⟩
 | .str=> .ro none ⟨.str,(⟨#[]⟩:ByteArray)⟩
 | .list e t=> .bq e t
 | .ptr=> .any
def fits:Ty→Cn→Bool
 | .st a,.agg c=>fits a c
 | .cons a b,.cons x y=>fits a x&&fits b y
 | .nil,.nil=>true
 | .ptr,.p _=>true
 | .ptr,.cst _=>true
 | .ptr,.any=>true
 | .ptr,.fn _ _=>true
 | .ptr,.aZ none _=>true
 | .list _ _,.h _=>true
 | .list _ _,.any=>true
 | .list e t,.sub _ _ _ _ ⟨.list e' t',_⟩=>decide (Ty.list e t= .list e' t')
 | .list e t,.bq e' t'=>decide (Ty.list e t= .list e' t')
 | .list e t,.ro none ⟨.list e' t',_⟩=>decide (Ty.list e t= .list e' t')
 | .int k,.ro none ⟨.int k',_⟩=>decide (k=k')
 | .bool,.ro none ⟨.bool,_⟩=>true
 | .str,.ro none ⟨.str,_⟩=>true
 |_,_=>false
def Cn.size:Cn→Nat
 | .ro _ d=>d.ty.size
 | .sub _ _ _ _ d=>d.ty.size
 | .nil=>0
 | .cons a b=>a.size+b.size
 | .agg c=>c.size
 |_=>1
def aK:Cn→Option Cn
 | .ro none d=>match d.ty.fM with
   |true=>some (gU d.ty d.v)
   |false=>none
 | .bq e t=>some (.bq e t)
 | .h i=>some (.h i)
 | .p i=>some (.p i)
 | .aZ none d=>some (.aZ none d)
 | .sub i ix path aj d=>match d.ty with
   | .list _ _=>some (.sub i ix path aj d)
   |_=>none
 | .fn f c=>some (.fn f c)
 | .nil=>some .nil
 | .cons a b=>match aK a,aK b with
   |some x,some y=>some (.cons x y)
   |_,_=>none
 | .agg c=>match aK c with
   |some x=>some (.agg x)
   |none=>none
 | .cst v=>some (.cst v)
 |_=>none
def jf:Cn→List Nat→Option Cn
 |c,[]=>some c
 | .agg fs,f::r=>match fP fs f with
   |some x=>jf x r
   |none=>none
 |_,_=>none
def iw(c:Cn):List Nat→Cn→Option Cn
 |[],_=>some c
 |f::r,.agg fs=>match gF (iw c r) fs f with
  |some x=>some (.agg x)
  |none=>none
 |_,_=>none
def lG(E:Env)(i:Nat)(t:Ty)(xs:List t.Den)(ix:Int)(path:List Nat)(d:DV)(cs:List Value):Prop:=
 ∃x g off,xs[ix.toNat]?=some x∧bU ⟨t,x⟩ path=some d∧t.aM path=some (off,d.ty)∧bS (E.af i)=some g∧(g∈E.B i∨E.Z g)∧
  ∀j v,cs[j]?=some v→E.w.cell? ⟨g,ix.toNat*t.size+off+j,none⟩=some v
def av(E:Env)(ob:Nat→Ob)(nx:Nat):Cn→Bool→List Value→Prop
 | .ro b d,_,cs=>cs.length=d.ty.size∧bR ob nx b∧(live ob b→Rd E.w (src E b) d.ty d.v cs)
 | .bq _ _,_,cs=>cs=[.slice none 0 0]
 | .h i,_,cs=>i<nx∧(E.af i).oneCell'=true∧cs=[E.af i]
 | .p i,_,cs=>i<nx∧(E.af i).oneCell'=true∧cs=[E.af i]
 | .addr i k es off path cache,_,cs=>i<nx∧0≤k∧(∃g,bS (E.af i)=some g∧cs=[.pointer (some ⟨g,k.toNat*es+off,none⟩)])∧
  (∀u,(ob i).lay=some u→∃v,u.aM path=some (off,v))∧
  (match ob i with
   | .sl _ aj _ t xs=>k.toNat<xs.length∧es=t.size∧(match cache with
     |some (v,d)=>v≤aj∧(v=aj→∃x,xs[k.toNat]?=some x∧bU ⟨t,x⟩ path=some d)
     |none=>True)
   |_=>True)∧((ob i).bn=true→es=0)
 | .aZ b d,_,cs=>bR ob nx b∧∃ad,cs=[.pointer (some ad)]∧ad.spot=none∧
  (live ob b→src E b ad.block∧∃f,Rd E.w (src E b) d.ty d.v f∧iD E.w (some ad) f)
 | .sub i ix path aj d,_,cs=>(cs.length=d.ty.size∧∀x,x∈cs→x.oneCell'=true)∧i<nx∧0≤ix∧bR ob nx (some (i,aj))∧
  (match ob i with
   | .sl _ v _ t xs=>v=aj→Rd E.w (src E (some (i,aj))) d.ty d.v cs∧lG E i t xs ix path d cs
   |_=>True)
 | .pre i aj e t ys,_,cs=>(cs.length=1∧bR ob nx (some (i,aj))∧(live ob (some (i,aj))→Rd E.w (src E (some (i,aj))) (.list e t) ys cs))∧i<nx∧
  (match ob i with
   | .sl _ v e' t' xs=>v=aj→∃A n m cap,E.af i= .slice A n cap∧cs=[.slice A m cap]∧m≤n∧(⟨.list e t,ys⟩:DV)=⟨.list e' t',xs.take m⟩
   |_=>True)
 | .fn f caps,_,cs=>∃vs,cs=[.func (.func f) #[] vs.toArray]∧av E ob nx caps true vs
 | .b_ c,_,cs=>∃vs,cs=[.tuple vs.toArray]∧av E ob nx c true vs
 | .nil,_,cs=>cs=[]
 | .cons a b,false,cs=>∃c d,cs=c++d∧av E ob nx a false c∧av E ob nx b false d
 | .cons a b,true,cs=>∃v vs c,cs=v::vs∧av E ob nx a false c∧mkV a.isAgg c v∧av E ob nx b true vs
 | .agg c,_,cs=>av E ob nx c false cs
 | .cst v,_,cs=>v.oneCell'=true∧cs=[v]
 | .any,_,cs=>∃v,v.oneCell'=true∧cs=[v]
 | .dead,_,_=>True
def ak(E:Env)(ob:Nat→Ob)(nx:Nat)(c:Cn)(v:Value):Prop:=
 match c with
 | .dead=>True
 |c=>∃cs,av E ob nx c false cs∧mkV c.isAgg cs v
def iA(E:Env)(ob:Nat→Ob)(nx i:Nat)(u:Ty)(c:Cn):Prop:=
 ∃g cs t,E.af i= .pointer (some ⟨g,0,none⟩)∧E.w.heap[g]?=some (.cells cs.toArray t (0,0))∧av E ob nx c false cs∧fits u c=true∧E.B i=[g]
def jL(w:World)(Z:Nat→Prop)(e:TypeId)(t:Ty)(xs:List t.Den)(v:Value)(bs:List Nat):Prop:=
 ∃f,w.ownsRow 0 e t.size v xs.length f∧aU (Rd w Z t) xs f∧bs=v.ownBlock.toList
def jE(w:World)(e:TypeId)(t:Ty)(xs:List t.Den)(v:Value)(p q:List Nat)(k:Nat)(path:List Nat)(s:Ty)(c:List Value):Prop:=
 ∃g cap cur x off,v= .slice (some ⟨g,0,none⟩) xs.length cap∧w.heap[g]?=some (.cells cur e (0,0))∧xs[k]?=some x∧t.aM path=some (off,s)∧g∈p∧k*t.size+off+s.size≤cur.size∧
  (∀j u,c[j]?=some u→cur[k*t.size+off+j]?=some u)∧
  ∀(w':World) (y:s.Den) (c':List Value) (bs':List Nat),w'.heap[g]?=some (.cells (splice cur.toList (k*t.size+off) c').toArray e (0,0))→
   (∀b,b∈p++q→b≠g→w'.heap[b]?=w.heap[b]?)→Ow w' s y c' bs'→
   ∃x',bQ ⟨s,y⟩ path t x=some x'∧Ow w' (.list e t) (xs.set k x') [v] (p++bs'++q)
def pE(w:World)(e:TypeId)(t:Ty)(xs:List t.Den)(v:Value)(bs:List Nat)(ix:Int)(path:List Nat)(r:Value):Prop:=
 ∃p q e' u,bs=p++q∧0≤ix∧jE w e t xs v p q ix.toNat path (.list e' u) [r]
def iR(u:Ty)(x:u.Den)(v:Value):Prop:=∃cs,(∀(w:World) (S:Nat→Prop),Rd w S u x cs)∧mkV u.isAgg cs v
def jG(u:Ty)(kk:IntKind):List (u.Den×Int)→List MapEntry→Prop
 |[],es=>es=[]
 |x::xs,es=>∃e r,es=e::r∧iR u x.1 e.key∧e.val= .int kk x.2∧jG u kk xs r
def ng(E:Env)(i:Nat)(u:Ty)(kk:IntKind)(l:List (u.Den×Int)):Prop:=
 ∃g es ck,E.af i= .map (some g)∧E.w.heap[g]?=some (.map es ck)∧jG u kk l es.toList∧E.B i=[g]
def aJ(E:Env)(ob:Nat→Ob)(nx i:Nat):Ob→Prop
 | .sl .own _ e t xs=>Ow E.w (.list e t) xs [E.af i] (E.B i)
 | .sl .aV _ e t xs=>Rd E.w E.Z (.list e t) xs [E.af i]∧E.B i=[]
 | .sl .shl _ e t xs=>jL E.w E.Z e t xs (E.af i) (E.B i)
 | .sl (.hole ix path m) _ e t xs=>m<nx∧pE E.w e t xs (E.af i) (E.B i) ix path (E.af m)
 | .box u c=>iA E ob nx i u c
 | .a_ b u c=>match b with
   |true=>iA E ob nx i u c
   |false=>E.af i= .pointer none∧E.B i=[]∧∃cs,av E ob nx c false cs
 | .mp u kk l=>ng E i u kk l
 | .dead=>E.B i=[]
structure aR(E:Env)(st:St)(tm:Array Value):Prop where
 sl:∀s,ak E st.ob st.nx (st.sl s) (tm.getD s undef)
 ob:∀i,aJ E st.ob st.nx i (st.ob i)
 lt:∀i,st.nx≤i→st.ob i= .dead
 dj:∀i j b,i≠j→b∈E.B i→b∉E.B j
 nd:∀i,(E.B i).Nodup
 bb:∀i b,b∈E.B i→b<E.w.heap.size∧¬E.Z b
 zb:∀b,E.Z b→b<E.w.heap.size
structure Fr(E E':Env):Prop where
 os:E'.w.os=E.w.os
 tape:E'.w.tape=E.w.tape
 output:E'.w.output=E.w.output
 size:E.w.heap.size≤E'.w.heap.size
 block:∀b,b<E.w.heap.size→(∀i,b∉E.B i)→E'.w.heap[b]?=E.w.heap[b]?
 own:∀i b,b∈E'.B i→(∃j,b∈E.B j)∨E.w.heap.size≤b
 z0:∀b,E.Z b→E'.Z b
 z1:∀b,E'.Z b→E.Z b∨(∃j,b∈E.B j)∨E.w.heap.size≤b
 af:∀i,i<100→E'.af i=E.af i
theorem Fr.refl(E:Env):Fr E E:=⟨rfl,rfl,rfl,Nat.le_refl _,fun _ _ _=>rfl,fun i _ h=> .inl ⟨i,h⟩,fun _ h=>h,fun _ h=> .inl h,fun _ _=>rfl⟩
theorem Fr.trans{A B C:Env}(h:Fr A B)(k:Fr B C):Fr A C where
 os:=k.os.trans h.os
 tape:=k.tape.trans h.tape
 output:=k.output.trans h.output
 size:=Nat.le_trans h.size k.size
 block:=fun b hb ho=>by
  rw[k.block b (Nat.lt_of_lt_of_le hb h.size) ?_,h.block b hb ho];intro i hi;rcases h.own i b hi with⟨j,hj⟩|h1
  ·exact ho j hj
  ·omega
 own:=fun i b hb=>by
  rcases k.own i b hb with⟨j,hj⟩|h1
  ·exact h.own j b hj
  ·exact .inr (Nat.le_trans h.size h1)
 z0:=fun b hb=>k.z0 b (h.z0 b hb)
 z1:=fun b hb=>by
  rcases k.z1 b hb with h1|⟨j,hj⟩|h1
  ·exact h.z1 b h1
  ·rcases h.own j b hj with h2|h2
   ·exact .inr (.inl h2)
   ·exact .inr (.inr h2)
  ·exact .inr (.inr (Nat.le_trans h.size h1))
 af:=fun i hi=>(k.af i hi).trans (h.af i hi)
end Go.Am
end
section
namespace Go.Am
inductive CS where
 |ro (t:Ty)|h (j:Nat)|p (j:Nat)|aZ (t:Ty)|any
 |fn (f:FuncId) (caps:CS)
 |nil|cons (a b:CS)|agg (a:CS)
 deriving DecidableEq,Inhabited
@[reducible] def CS.Den:CS→Type
 | .ro t=>t.Den
 | .h _=>Unit
 | .p _=>Unit
 | .aZ t=>t.Den
 | .any=>Unit
 | .fn _ c=>c.Den
 | .nil=>Unit
 | .cons a b=>a.Den×b.Den
 | .agg a=>a.Den
def CS.dflt:(c:CS)→c.Den
 | .ro t=>t.dflt
 | .h _=>()
 | .p _=>()
 | .aZ t=>t.dflt
 | .any=>()
 | .fn _ c=>c.dflt
 | .nil=>()
 | .cons a b=>(a.dflt,b.dflt)
 | .agg a=>a.dflt
def CS.cn:(c:CS)→c.Den→Cn
 | .ro t,x=> .ro none ⟨t,x⟩
 | .h j,_=> .h j
 | .p j,_=> .p j
 | .aZ t,x=> .aZ none ⟨t,x⟩
 | .any,_=> .any
 | .fn f c,x=> .fn f (c.cn x)
 | .nil,_=> .nil
 | .cons a b,x=> .cons (a.cn x.1) (b.cn x.2)
 | .agg a,x=> .agg (a.cn x)
def CS.caps:CS→Bool
 | .nil=>true
 | .cons _ b=>b.caps
 |_=>false
def CS.aS:CS→Bool
 | .ro t=>t.flat
 | .aZ _=>false
 | .cons a b=>a.aS&&b.aS
 | .agg a=>a.aS
 | .fn _ c=>c.aS
 |_=>true
inductive OS where
 |sl (e:TypeId) (t:Ty)
 |sh (e:TypeId) (t:Ty)
 |box (u:Ty) (c:CS)
 |a_ (u:Ty) (c:CS)
 |mp (u:Ty) (kk:IntKind)
 deriving DecidableEq,Inhabited
@[reducible] def OS.Den:OS→Type
 | .sl _ t=>List t.Den
 | .sh _ t=>List t.Den
 | .box _ c=>c.Den
 | .a_ _ c=>Bool×c.Den
 | .mp u _=>List (u.Den×Int)
def OS.ob:(o:OS)→o.Den→Ob
 | .sl e t,x=> .sl .own 0 e t x
 | .sh e t,x=> .sl .shl 0 e t x
 | .box u c,x=> .box u (c.cn x)
 | .a_ u c,x=> .a_ x.1 u (c.cn x.2)
 | .mp u kk,x=> .mp u kk x
def OS.aS:OS→Bool
 | .sl _ _=>true
 | .sh _ _=>false
 | .box _ c=>c.aS
 | .a_ _ c=>c.aS
 | .mp _ _=>true
@[reducible] def fu:List (Nat×CS)→Type
 |[]=>Unit
 |[x]=>x.2.Den
 |x::y::r=>x.2.Den×fu (y::r)
@[reducible] def gK:List (Nat×OS)→Type
 |[]=>Unit
 |[x]=>x.2.Den
 |x::y::r=>x.2.Den×gK (y::r)
structure SS where
 slots:List (Nat×CS)
 objs:List (Nat×OS)
 deriving DecidableEq,Inhabited
@[reducible] def SS.Den:SS→Type
 |⟨s,[]⟩=>fu s
 |⟨s,o::os⟩=>fu s×gK (o::os)
def bZ:(l:List (Nat×CS))→fu l→Nat→Cn
 |[],_=>fun _=> .dead
 |[x],y=>upd (fun _=> .dead) x.1 (x.2.cn y)
 |x::z::r,y=>upd (bZ (z::r) y.2) x.1 (x.2.cn y.1)
def bW:(l:List (Nat×OS))→gK l→Nat→Ob
 |[],_=>fun _=> .dead
 |[x],y=>upd (fun _=> .dead) x.1 (x.2.ob y)
 |x::z::r,y=>upd (bW (z::r) y.2) x.1 (x.2.ob y.1)
def SS.pS:(s:SS)→s.Den→fu s.slots
 |⟨_,[]⟩,x=>x
 |⟨_,_::_⟩,x=>x.1
def SS.pO:(s:SS)→s.Den→gK s.objs
 |⟨_,[]⟩,_=>()
 |⟨_,_::_⟩,x=>x.2
def SS.mk':(s:SS)→fu s.slots→gK s.objs→s.Den
 |⟨_,[]⟩,x,_=>x
 |⟨_,_::_⟩,x,y=>(x,y)
def bL:List (Nat×OS)→Nat
 |[]=>0
 |x::r=>Nat.max (x.1+1) (bL r)
def SS.st(s:SS)(x:s.Den):St:={sl:=bZ s.slots (s.pS x),ob:=bW s.objs (s.pO x),nx:=Nat.max 100 (bL s.objs)}
def SS.aS(s:SS):Bool:=s.slots.all (fun x=>x.2.aS)&&s.objs.all (fun x=>x.2.aS)
structure Mt where
 sig:List (Nat×Nat)
 fz:List Nat
 ob:Nat→Ob
 nx:Nat
def aC:List (Nat×Nat)→Nat→Option Nat
 |[],_=>none
 |x::r,j=>match Nat.beq x.1 j with
  |true=>some x.2
  |false=>aC r j
def Mt.put(m:Mt)(j i:Nat):Option Mt:=
 match aC m.sig j with
 |some i'=>match Nat.beq i i' with
  |true=>some m
  |false=>none
 |none=>some {m with sig:=(j,i)::m.sig}
def bH(tmp:Bool)(m:Mt):Cn→Option (DV×Mt)
 | .ro none d=>some (d,m)
 | .ro (some (i,aj)) d=>match m.ob i with
   | .sl _ v _ _ _=>match Nat.beq v aj with
     |true=>some (d,{m with fz:=i::m.fz})
     |false=>none
   |_=>none
 | .pre i aj e t xs=>match m.ob i with
   | .sl _ v _ _ _=>match Nat.beq v aj with
     |true=>some (⟨.list e t,xs⟩,{m with fz:=i::m.fz})
     |false=>none
   |_=>none
 | .bq e t=>some (⟨.list e t,[]⟩,m)
 | .sub i _ _ aj d=>match m.ob i with
   | .sl _ v _ _ _=>match Nat.beq v aj with
     |true=>some (d,{m with fz:=i::m.fz})
     |false=>none
   |_=>none
 | .h i=>match m.ob i with
   | .sl md _ e t xs=>match md with
     | .hole _ _ _=>none
     |_=>some (⟨.list e t,xs⟩,{m with fz:=i::m.fz})
   |_=>none
 | .nil=>some (⟨.nil,()⟩,m)
 | .cons a b=>match bH tmp m a with
   |some (x,m1)=>match bH tmp m1 b with
    |some (y,m2)=>some (⟨.cons x.ty y.ty,(x.v,y.v)⟩,m2)
    |none=>none
   |none=>none
 | .agg c=>match bH tmp m c with
   |some (x,m1)=>some (⟨.st x.ty,x.v⟩,m1)
   |none=>none
 |_=>none
def bC(tmp:Bool)(m:Mt):(c:CS)→Cn→Option (c.Den×Mt)
 | .ro t,c=>match bH tmp m c with
   |some (d,m1)=>match bz t d with
    |some x=>some (x,m1)
    |none=>none
   |none=>none
 | .h j,.h i=>match m.ob i with
   | .sl .own _ _ _ _=>match m.put j i with
     |some m1=>some ((),m1)
     |none=>none
   | .sl .shl _ _ _ _=>match m.put j i with
     |some m1=>some ((),m1)
     |none=>none
   |_=>none
 | .h j,.bq e t=>match aC m.sig j with
   |some _=>none
   |none=>some ((),{m with sig:=(j,m.nx)::m.sig,ob:=upd m.ob m.nx (.sl .own 0 e t []),nx:=m.nx+1})
 | .p j,.p i=>match m.put j i with
   |some m1=>some ((),m1)
   |none=>none
 | .p j,.cst (.pointer none)=>match aC m.sig j with
   |some _=>none
   |none=>some ((),{m with sig:=(j,m.nx)::m.sig,ob:=upd m.ob m.nx (.a_ false .nil .nil),nx:=m.nx+1})
 | .aZ t,.aZ b d=>match b with
   |none=>match bz t d with
    |some x=>some (x,m)
    |none=>none
   |some (i,aj)=>match m.ob i with
    | .sl _ v _ _ _=>match Nat.beq v aj with
      |true=>match bz t d with
       |some x=>some (x,{m with fz:=i::m.fz})
       |none=>none
      |false=>none
    |_=>none
 | .aZ t,.p i=>match m.ob i with
   | .box _ c=>match bH tmp m c with
     |some (d,m1)=>match bz t d with
      |some x=>some (x,{m1 with fz:=i::m1.fz})
      |none=>none
     |none=>none
   |_=>none
 | .fn f cs,.fn g c=>match Nat.beq f g&&cs.caps with
   |true=>bC tmp m cs c
   |false=>none
 | .nil,.nil=>some ((),m)
 | .cons a b,.cons x y=>match bC tmp m a x with
   |some (u,m1)=>match bC tmp m1 b y with
    |some (v,m2)=>some ((u,v),m2)
    |none=>none
   |none=>none
 | .any,.h _=>some ((),m)
 | .any,.bq _ _=>some ((),m)
 | .any,.any=>some ((),m)
 | .agg a,.agg x=>bC tmp m a x
 | .agg a,.ro none d=>match gU d.ty d.v with
   | .agg x=>bC tmp m a x
   |_=>none
 |_,_=>none
def kF(tmp:Bool)(m:Mt)(u:Ty)(cs:CS)(c:Cn):Option (cs.Den×Mt):=
 match bC tmp m cs c with
 |some (x,m1)=>match fits u (cs.cn x) with
  |true=>some (x,m1)
  |false=>none
 |none=>none
def dI(tmp:Bool)(m:Mt):(o:OS)→Ob→Option (o.Den×Mt)
 | .sl e t,.sl .own _ e' t' xs=>match bz (.list e t) ⟨.list e' t',xs⟩ with
   |some x=>some (x,m)
   |none=>none
 | .sh e t,.sl .shl _ e' t' xs=>match bz (.list e t) ⟨.list e' t',xs⟩ with
   |some x=>some (x,m)
   |none=>none
 | .sh e t,.sl .own _ e' t' []=>match bz (.list e t) ⟨.list e' t',[]⟩ with
   |some x=>some (x,m)
   |none=>none
 | .box u cs,.box v c=>match decide (u=v) with
   |true=>kF tmp m u cs c
   |false=>none
 | .a_ u cs,.box v c=>match decide (u=v) with
   |true=>match kF tmp m u cs c with
    |some (x,m1)=>some ((true,x),m1)
    |none=>none
   |false=>none
 | .a_ u cs,.a_ b v c=>match v with
   | .nil=>match b with
     |true=>none
     |false=>match bC tmp m cs (d_ u) with
      |some (x,m1)=>some ((false,x),m1)
      |none=>none
   |v=>match decide (u=v) with
    |true=>match kF tmp m u cs c with
     |some (x,m1)=>some ((b,x),m1)
     |none=>none
    |false=>none
 | .mp u kk,.mp u' jo l=>match bz (.list 0 (.cons u (.int kk))) ⟨.list 0 (.cons u' (.int jo)),l⟩ with
   |some x=>some (x,m)
   |none=>none
 |_,_=>none
def oh(tmp:Bool)(sl:Nat→Cn):(l:List (Nat×CS))→Mt→Option (fu l×Mt)
 |[],m=>some ((),m)
 |[x],m=>bC tmp m x.2 (sl x.1)
 |x::z::r,m=>match bC tmp m x.2 (sl x.1) with
  |some (u,m1)=>match oh tmp sl (z::r) m1 with
   |some (v,m2)=>some ((u,v),m2)
   |none=>none
  |none=>none
def tell(below:Bool)(m:Mt)(j:Nat):Option (Nat×Mt):=
 match aC m.sig j with
 |some i=>some (i,m)
 |none=>match below|| !Nat.blt j 100 with
  |true=>none
  |false=>some (j,{m with sig:=(j,j)::m.sig})
def mI(tmp below:Bool):(l:List (Nat×OS))→Mt→Option (gK l×Mt)
 |[],m=>some ((),m)
 |[x],m=>match tell below m x.1 with
  |some (i,m0)=>dI tmp m0 x.2 (m0.ob i)
  |none=>none
 |x::z::r,m=>match tell below m x.1 with
  |some (i,m0)=>match dI tmp m0 x.2 (m0.ob i) with
   |some (u,m1)=>match mI tmp below (z::r) m1 with
    |some (v,m2)=>some ((u,v),m2)
    |none=>none
   |none=>none
  |none=>none
def bN(n:Nat):List Nat→Bool
 |[]=>false
 |x::r=>match Nat.beq n x with
  |true=>true
  |false=>bN n r
def oP(ids fz:List Nat)(below:Bool):List (Nat×Nat)→Bool
 |[]=>true
 |x::r=>bN x.1 ids&&(!bN x.2 fz&&(!bN x.2 (r.map (·.2))&&(!bN x.1 (r.map (·.1))&&
   ((match below with|true=>Nat.blt x.1 100|false=>(Nat.beq x.1 x.2||Nat.ble 100 x.1))&&oP ids fz below r))))
def gy(tmp below:Bool)(s:SS)(st:St):Option (s.Den×Mt):=
 match oh tmp st.sl s.slots ⟨[],[],st.ob,st.nx⟩ with
 |some (u,m1)=>match mI tmp below s.objs m1 with
  |some (v,m2)=>match oP (s.objs.map (·.1)) m2.fz below m2.sig with
   |true=>some (s.mk' u v,m2)
   |false=>none
  |none=>none
 |none=>none
end Go.Am
end
section
namespace Go.Am
structure dm where
 aX:SS
 au:SS
 nargs:Nat
 fO:Nat
 F:aX.Den→Option au.Den
structure Ctx where
 tt:TypeId→Option Ty
 phi:FuncId→List dm
 N:Nat
 br:Nat→Bool:=fun _=>false
 mt:TypeId→Option (TypeId×TypeId):=fun _=>none
def h_{α:Type}(xs:List α)(k:Int):Option α:=
 match k with
 | .ofNat n=>xs[n]?
 | .negSucc _=>none
def qa(s:ByteArray)(k:Int):Option Int:=
 match k with
 | .ofNat n=>match s.data.toList[n]? with
   |some b=>some (b.toNat:Int)
   |none=>none
 | .negSucc _=>none
def lim(n:Nat):Bool:=Nat.ble n 4294967296
def sF(k:IntKind)(a b:Int):Int:=k.wrap (a*2^(min b.toNat k.bits))
def sG(k:IntKind)(a b:Int):Int:=a.fdiv (2^(min b.toNat k.bits))
def pX(op:BinOp)(k:IntKind)(a b:Int):Option Int:=
 match op with
 | .add=>some (k.wrap (a+b))
 | .sub=>some (k.wrap (a-b))
 | .mul=>some (k.wrap (a*b))
 | .and=>some (bits .and k a b)
 | .or=>some (bits .or k a b)
 | .xor=>some (bits .xor k a b)
 | .andNot=>some (bits .andNot k a b)
 |_=>none
def qc(op:BinOp)(a b:Int):Option Bool:=
 match op with
 | .eql=>some (a==b)
 | .neq=>some (a !=b)
 | .lss=>some (decide (a<b))
 | .leq=>some (decide (a≤b))
 | .gtr=>some (decide (a>b))
 | .geq=>some (decide (a≥b))
 |_=>none
def iI(a b:ByteArray):Bool:=a.toList==b.toList
def mH(a b:ByteArray):Bool:=Op.bytesLess a.toList b.toList
def qd(op:BinOp)(a b:ByteArray):Option Bool:=
 match op with
 | .eql=>some (iI a b)
 | .neq=>some (!iI a b)
 | .lss=>some (mH a b)
 | .leq=>some (mH a b||iI a b)
 | .gtr=>some (!(mH a b||iI a b))
 | .geq=>some (!mH a b)
 |_=>none
def bO:(t:Ty)→t.Den→t.Den→Option Bool
 | .int _,x,y=>some ((x:Int)==y)
 | .bool,x,y=>some ((x:Bool)==y)
 | .str,x,y=>some (iI x y)
 | .nil,_,_=>some true
 | .cons a b,x,y=>match bO a x.1 y.1,bO b x.2 y.2 with
   |some p,some q=>some (p&&q)
   |_,_=>none
 | .st a,x,y=>bO a x y
 | .list _ _,_,_=>none
 | .ptr,_,_=>none
def Ty.ht:Ty→Nat
 | .st a=>a.ht+1
 | .cons a b=>Nat.max a.ht b.ht
 |_=>1
def fT(s:ByteArray):List Int:=s.data.toList.map fun c=>(c.toNat:Int)
def zX(xs:List Int):ByteArray:=strOfNums xs
def nH(tt:TypeId→Option Ty)(t:TypeId):Value→Option Cn
 | .int k n=>some (.ro none ⟨.int k,n⟩)
 | .bool b=>some (.ro none ⟨.bool,b⟩)
 | .string s=>some (.ro none ⟨.str,s⟩)
 | .slice none 0 0=>match tt t with
   |some (.list e u)=>some (.bq e u)
   |_=>none
 | .pointer none=>some (.cst (.pointer none))
 |_=>none
def ev(C:Ctx)(st:St)(t:TypeId):Operand→Option Cn
 | .tmp s=>match st.sl s with
   | .dead=>none
   | .pre i aj e t xs=>some (.ro (some (i,aj)) ⟨.list e t,xs⟩)
   |c=>some c
 | .const v=>nH C.tt t v
 | .func f=>some (.fn f .nil)
 | .global _=>none
def qx(C:Ctx)(st:St)(t:TypeId):Operand→Option Cn
 | .tmp s=>match st.sl s with
   | .pre i aj e t xs=>some (.pre i aj e t xs)
   |_=>ev C st t (.tmp s)
 |x=>ev C st t x
variable{R:Type}
def az(C:Ctx)(o:Oper)(c:Cn)(st:St)(k:St→Option R):Option R:=
 match o.dst with
 |none=>k st
 |some d=>match Nat.blt d C.N with
  |true=>k {st with sl:=upd st.sl d c}
  |false=>none
def St.push(st:St)(o:Ob):St:={st with ob:=upd st.ob st.nx o,nx:=st.nx+1}
def St.set(st:St)(i:Nat)(o:Ob):St:={st with ob:=upd st.ob i o}
structure LV where
 b:Option (Nat×Nat)
 e:TypeId
 t:Ty
 xs:List t.Den
def f_(ob:Nat→Ob):Cn→Option LV
 | .ro b ⟨.list e t,xs⟩=>match b with
   |none=>some ⟨none,e,t,xs⟩
   |some (i,aj)=>match ob i with
    | .sl _ v _ _ _=>match Nat.beq v aj with
      |true=>some ⟨some (i,aj),e,t,xs⟩
      |false=>none
    |_=>none
 | .bq e t=>some ⟨none,e,t,[]⟩
 | .h i=>match ob i with
   | .sl fz v e t xs=>match fz with
     | .aV=>some ⟨none,e,t,xs⟩
     | .own=>some ⟨some (i,v),e,t,xs⟩
     | .shl=>some ⟨some (i,v),e,t,xs⟩
     | .hole _ _ _=>none
   |_=>none
 | .sub i _ _ aj ⟨.list e t,xs⟩=>match ob i with
   | .sl _ v _ _ _=>match Nat.beq v aj with
     |true=>some ⟨some (i,aj),e,t,xs⟩
     |false=>none
   |_=>none
 |_=>none
def eU(b:Option (Nat×Nat))(d:DV):Cn:=
 match d.ty.flat with
 |true=> .ro none d
 |false=> .ro b d
def jQ(C:Ctx)(o:Oper)(op:BinOp)(t:TypeId)(x y:Cn)(st:St)(k:St→Option R):Option R:=
 match x,y with
 | .ro none ⟨.int ka,a⟩,.ro none ⟨.int kb,b⟩=>
   match op with
   | .shl=>cond (decide (0≤(b:Int))) (az C o (.ro none ⟨.int ka,sF ka a b⟩) st k) none
   | .shr=>cond (decide (0≤(b:Int))) (az C o (.ro none ⟨.int ka,sG ka a b⟩) st k) none
   | .quo=>match decide (ka=kb) with
     |true=>cond (decide ((b:Int)≠0)) (az C o (.ro none ⟨.int ka,ka.wrap (Int.tdiv a b)⟩) st k) none
     |false=>none
   | .rem=>match decide (ka=kb) with
     |true=>cond (decide ((b:Int)≠0)) (az C o (.ro none ⟨.int ka,Int.tmod a b⟩) st k) none
     |false=>none
   |op=>match decide (ka=kb) with
    |true=>match pX op ka a b with
     |some r=>az C o (.ro none ⟨.int ka,r⟩) st k
     |none=>match qc op a b with
      |some r=>az C o (.ro none ⟨.bool,r⟩) st k
      |none=>none
    |false=>none
 | .ro none ⟨.str,a⟩,.ro none ⟨.str,b⟩=>
   match op with
   | .add=>cond (lim ((a:ByteArray).size+(b:ByteArray).size)) (az C o (.ro none ⟨.str,(a:ByteArray)++(b:ByteArray)⟩) st k) none
   |op=>match qd op a b with
    |some r=>az C o (.ro none ⟨.bool,r⟩) st k
    |none=>none
 | .ro none ⟨.bool,a⟩,.ro none ⟨.bool,b⟩=>
   match C.tt t with
   |some .bool=>match op with
    | .eql=>az C o (.ro none ⟨.bool,(a:Bool)==b⟩) st k
    | .neq=>az C o (.ro none ⟨.bool,!((a:Bool)==b)⟩) st k
    |_=>none
   |_=>none
 |_,_=>none
def j3(C:Ctx)(o:Oper)(op:BinOp)(t:TypeId)(x y:DV)(st:St)(k:St→Option R):Option R:=
 match(match C.tt t with|some u=>decide (u=x.ty)|none=>false)&&(x.ty.isAgg&&(x.ty.flat&&Nat.ble x.ty.ht 9999)) with
 |true=>match bz x.ty y with
  |some b=>match bO x.ty x.v b with
   |some r=>match op with
    | .eql=>az C o (.ro none ⟨.bool,r⟩) st k
    | .neq=>az C o (.ro none ⟨.bool,!r⟩) st k
    |_=>none
   |none=>none
  |none=>none
 |false=>none
def bT:Cn→Option DV
 | .ro none d=>match d.ty.flat with
   |true=>some d
   |false=>none
 | .nil=>some ⟨.nil,()⟩
 | .cons a b=>match bT a,bT b with
   |some x,some y=>some ⟨.cons x.ty y.ty,(x.v,y.v)⟩
   |_,_=>none
 | .agg c=>match bT c with
   |some x=>some ⟨.st x.ty,x.v⟩
   |none=>none
 |_=>none
def kV(C:Ctx)(o:Oper)(op:UnOp)(x:Cn)(st:St)(k:St→Option R):Option R:=
 match op,x with
 | .not,.ro none ⟨.bool,b⟩=>az C o (.ro none ⟨.bool,!(b:Bool)⟩) st k
 | .neg,.ro none ⟨.int ki,a⟩=>az C o (.ro none ⟨.int ki,ki.wrap (0-(a:Int))⟩) st k
 | .xor,.ro none ⟨.int ki,a⟩=>az C o (.ro none ⟨.int ki,bits .xor ki (if ki.signed then -1 else ki.max) a⟩) st k
 |_,_=>none
def bA(tt:TypeId→Option Ty)(t:TypeId)(u:Ty):Bool:=
 match tt t with
 |some v=>decide (v=u)
 |none=>false
def Ty.bX:Bool→Ty→Bool
 |row,.st a=> !row&&a.bX true
 |row,.cons a b=>row&&(a.bX false&&b.bX true)
 |row,.nil=>row
 |row,_=> !row
def gV(mk:List Nat→DV→Cn):(t:Ty)→t.Den→List Nat→Nat→Cn
 | .st a,x,p,_=> .agg (gV mk a x p 0)
 | .cons a b,x,p,n=> .cons (gV mk a x.1 (p++[n]) 0) (gV mk b x.2 p (n+1))
 | .nil,_,_,_=> .nil
 | .int k,x,_,_=> .ro none ⟨.int k,x⟩
 | .bool,x,_,_=> .ro none ⟨.bool,x⟩
 | .str,x,_,_=> .ro none ⟨.str,x⟩
 | .list e t,x,p,_=>mk p ⟨.list e t,x⟩
 | .ptr,_,_,_=> .dead
def jq(i:Nat)(ix:Int)(path:List Nat)(aj:Nat)(d:DV):Cn:=
 match d.ty.flat with
 |true=> .ro none d
 |false=>match d.ty.bX false with
  |true=>gV (fun p d=> .sub i ix p aj d) d.ty d.v path 0
  |false=> .sub i ix path aj d
def mF(tt:TypeId→Option Ty)(t:TypeId)(agg:Bool)(n:Nat):Bool:=
 match tt t with
 |some u=>(u.isAgg==agg)&&Nat.beq u.size n
 |none=>false
def mG(st:St):Cn→Option Cn
 | .p i=>match st.ob i with
   | .box _ c=>some c
   |_=>none
 | .addr i ix _ _ path cache=>match st.ob i with
   | .box _ c=>jf c path
   | .sl fz aj _ _ _=>match cache with
     |some (v,d)=>match Nat.beq v aj with
      |true=>match fz with
       | .own=>some (jq i ix path aj d)
       | .shl=>some (eU (some (i,aj)) d)
       |_=>none
      |false=>none
     |none=>none
   |_=>none
 | .aZ b d=>match b with
   |none=>some (.ro none d)
   |some (i,aj)=>match st.ob i with
    | .sl _ v _ _ _=>match Nat.beq v aj with
      |true=>some (eU (some (i,aj)) d)
      |false=>none
    |_=>none
 |_=>none
def dU(st:St):Cn→Option (DV×St)
 | .ro none d=>match d.ty.flat with
   |true=>some (d,st)
   |false=>none
 | .bq e t=>some (⟨.list e t,[]⟩,st)
 | .h i=>match st.ob i with
   | .sl .own _ e t xs=>some (⟨.list e t,xs⟩,st.set i .dead)
   |_=>none
 | .nil=>some (⟨.nil,()⟩,st)
 | .cons a b=>match dU st a with
   |some (x,s1)=>match dU s1 b with
    |some (y,s2)=>some (⟨.cons x.ty y.ty,(x.v,y.v)⟩,s2)
    |none=>none
   |none=>none
 | .agg c=>match dU st c with
   |some (x,s1)=>some (⟨.st x.ty,x.v⟩,s1)
   |none=>none
 |_=>none
def kL:List Nat→List Nat→Bool
 |[],[]=>true
 |x::r,y::s=>match Nat.beq x y with
  |true=>kL r s
  |false=>false
 |_,_=>false
def storeT(tt:TypeId→Option Ty)(ty:TypeId)(st:St)(i:Nat)(ix:Int)(path:List Nat)(c:Cn)(k:St→Option R):Option R:=
 match dU st c with
 |some (d,st1)=>match bA tt ty d.ty with
  |true=>match st1.ob i with
   | .sl .own aj e t xs=>(h_ xs ix).bind fun x=>match bU ⟨t,x⟩ path with
     |some d0=>match decide (d0.ty=d.ty) with
      |true=>match bQ d path t x with
       |some y=>k (st1.set i (.sl .own (aj+1) e t (xs.set ix.toNat y)))
       |none=>none
      |false=>none
     |none=>none
   | .sl (.hole ix' path' _) aj e t xs=>match kL path path' with
     |true=>cond (ix==ix') ((h_ xs ix).bind fun x=>match bU ⟨t,x⟩ path with
      |some d0=>match decide (d0.ty=d.ty) with
       |true=>match bQ d path t x with
        |some y=>k (st1.set i (.sl .own (aj+1) e t (xs.set ix.toNat y)))
        |none=>none
       |false=>none
      |none=>none) none
     |false=>none
   |_=>none
  |false=>none
 |none=>none
def qC(st:St):Cn→Option (Cn×St)
 | .ro (some (i,aj)) d=>match d.ty with
   | .list _ _=>match st.ob i with
     | .sl fz v e t xs=>match fz with
       | .own=>match Nat.beq v aj with
         |true=>some (.ro none d,st.set i (.sl .aV v e t xs))
         |false=>none
       |_=>none
     |_=>none
   |_=>none
 |_=>none
def iP(tt:TypeId→Option Ty)(ty:TypeId)(st:St)(a c:Cn)(k:St→Option R):Option R:=
 match a with
 | .p i=>match st.ob i with
   | .box u _=>match aK c with
     |some c'=>match fits u c'&&bA tt ty u with
      |true=>k (st.set i (.box u c'))
      |false=>none
     |none=>none
   |_=>none
 | .addr i ix _ _ path _=>match st.ob i with
   | .box u old=>match u.aM path with
     |some (_,v)=>match aK c with
      |some c'=>match fits v c'&&bA tt ty v with
       |true=>match iw c' path old with
        |some n=>k (st.set i (.box u n))
        |none=>none
       |false=>none
      |none=>match qC st c with
       |some (c',st')=>match fits v c'&&bA tt ty v with
        |true=>match iw c' path old with
         |some n=>k (st'.set i (.box u n))
         |none=>none
        |false=>none
       |none=>none
     |none=>none
   | .sl fz aj e t xs=>match bT c with
     |some d=>match fz with
      | .own=>match bA tt ty d.ty with
        |true=>(h_ xs ix).bind fun x=>match bQ d path t x with
         |some y=>k (st.set i (.sl .own (aj+1) e t (xs.set ix.toNat y)))
         |none=>none
        |false=>none
      |_=>none
     |none=>match fz,c with
      | .shl,.h j=>match st.ob j with
        | .sl lY v2 e2 t2 ys=>match lY with
          | .own=>match bA tt ty (.list e2 t2) with
            |true=>(h_ xs ix).bind fun x=>match bQ ⟨.list e2 t2,ys⟩ path t x with
             |some y=>k ((st.set j (.sl .aV v2 e2 t2 ys)).set i (.sl .shl (aj+1) e t (xs.set ix.toNat y)))
             |none=>none
            |false=>none
          |_=>none
        |_=>none
      |_,_=>storeT tt ty st i ix path c k
   |_=>none
 |_=>none
def qB(tt:TypeId→Option Ty)(ob:Nat→Ob)(s f:Nat):Cn→Option Cn
 | .p i=>match ob i with
   | .box u _=>match bA tt s u with
     |true=>match u.dN f with
      |some (o,_)=>some (.addr i 0 0 o [f] none)
      |none=>none
     |false=>none
   |_=>none
 | .addr i ix es off path cache=>match tt s with
   |some t=>match(match(ob i).lay with
    |some u=>(match u.aM path with
     |some (_,t')=>decide (t=t')
     |none=>false)
    |none=>false) with
    |true=>match t.dN f with
     |some (o,_)=>match cache with
      |some (v,d)=>match jg d f with
       |some e=>some (.addr i ix es (off+o) (path++[f]) (some (v,e)))
       |none=>none
      |none=>some (.addr i ix es (off+o) (path++[f]) none)
     |none=>none
    |false=>none
   |none=>none
 | .aZ b d=>match tt s with
   |some t=>match decide (d.ty=t) with
    |true=>match jg d f with
     |some e=>some (.aZ b e)
     |none=>none
    |false=>none
   |none=>none
 |_=>none
def ko(C:Ctx)(o:Oper)(ty:TypeId)(x i:Cn)(st:St)(k:St→Option R):Option R:=
 match i with
 | .ro none ⟨.int _,ix⟩=>match x with
   | .h j=>match st.ob j with
     | .sl fz aj e t xs=>match bA C.tt ty (.list e t) with
       |true=>(h_ xs ix).bind fun y=>match fz with
        | .aV=>az C o (.aZ none ⟨t,y⟩) st k
        |_=>az C o (.addr j ix t.size 0 [] (some (aj,⟨t,y⟩))) st k
       |false=>none
     |_=>none
   |x=>match f_ st.ob x with
    |some v=>match bA C.tt ty (.list v.e v.t) with
     |true=>(h_ v.xs ix).bind fun y=>az C o (.aZ v.b ⟨v.t,y⟩) st k
     |false=>none
    |none=>none
 |_=>none
def ku(C:Ctx)(o:Oper)(ty:TypeId)(x i:Cn)(st:St)(k:St→Option R):Option R:=
 match i with
 | .ro none ⟨.int _,ix⟩=>match x with
   | .ro none ⟨.str,s⟩=>match bA C.tt ty .str with
     |true=>(qa s ix).bind fun y=>az C o (.ro none ⟨.int .u8,y⟩) st k
     |false=>none
   |_=>none
 |_=>none
def kg(l h:Int)(n:Nat):Bool:=decide (0≤l)&&(decide (l≤h)&&decide (h≤n))
def lQ{α:Type}(xs:List α)(l h:Int):List α:=(xs.take h.toNat).drop l.toNat
def uw(ob:Nat→Ob)(x:Cn)(lo hi:Option Int)(v:LV)(ys:List v.t.Den):Cn:=
 match x,lo,hi with
 | .bq _ _,_,_=> .bq v.e v.t
 | .h i,none,some _=>match ob i with
   | .sl .own aj _ t _=>match t.flat with
     |true=> .pre i aj v.e v.t ys
     |false=> .ro v.b ⟨.list v.e v.t,ys⟩
   |_=> .ro v.b ⟨.list v.e v.t,ys⟩
 |_,_,_=> .ro v.b ⟨.list v.e v.t,ys⟩
def kP(C:Ctx)(o:Oper)(ty:TypeId)(x:Cn)(lo hi:Option Int)(st:St)(k:St→Option R):Option R:=
 match x with
 | .ro none ⟨.str,s⟩=>match bA C.tt ty .str with
   |true=>cond (kg (lo.getD 0) (hi.getD ((s:ByteArray).size:Int)) (s:ByteArray).size) (az C o (.ro none ⟨.str,(s:ByteArray).extract (lo.getD 0).toNat (hi.getD ((s:ByteArray).size:Int)).toNat⟩) st k) none
   |false=>none
 |x=>match f_ st.ob x with
  |some v=>match bA C.tt ty (.list v.e v.t) with
   |true=>cond (kg (lo.getD 0) (hi.getD (v.xs.length:Int)) v.xs.length)
    (az C o (uw st.ob x lo hi v (lQ v.xs (lo.getD 0) (hi.getD (v.xs.length:Int)))) st k) none
   |false=>none
  |none=>none
def kE(C:Ctx)(o:Oper)(ty:TypeId)(x:Cn)(st:St)(k:St→Option R):Option R:=
 match x with
 | .ro none ⟨.str,s⟩=>match bA C.tt ty .str with
   |true=>az C o (.ro none ⟨.int .i64,((s:ByteArray).size:Int)⟩) st k
   |false=>none
 |x=>match f_ st.ob x with
  |some v=>match bA C.tt ty (.list v.e v.t) with
   |true=>az C o (.ro none ⟨.int .i64,(v.xs.length:Int)⟩) st k
   |false=>none
  |none=>none
def jS(C:Ctx)(o:Oper)(ty:TypeId)(x:Cn)(st:St)(k:St→Option R):Option R:=
 match x with
 | .bq e t=>match bA C.tt ty (.list e t) with
   |true=>az C o (.ro none ⟨.int .i64,(0:Int)⟩) st k
   |false=>none
 |_=>none
def gP(ob:Nat→Ob)(e:TypeId)(u:Ty):Cn→Option (List u.Den×Option Nat)
 | .bq _ _=>some ([],none)
 | .h i=>match ob i with
   | .sl fz _ e' t' xs=>match fz with
     | .own=>match Nat.beq e e' with
       |true=>match bz (.list e u) ⟨.list e t',xs⟩ with
        |some ys=>some (ys,some i)
        |none=>none
       |false=>none
     |_=>none
   |_=>none
 | .pre i aj e1 t1 ys=>match ob i with
   | .sl fz v _ _ _=>match fz with
     | .own=>match Nat.beq v aj&&u.flat with
       |true=>match bz (.list e u) ⟨.list e1 t1,ys⟩ with
        |some zs=>some (zs,some i)
        |none=>none
       |false=>none
     |_=>none
   |_=>none
 |_=>none
def tY(ob:Nat→Ob)(e:TypeId)(u:Ty)(x:Cn):Option (List u.Den):=
 match f_ ob x with
 |some v=>bz (.list e u) ⟨.list e v.t,v.xs⟩
 |none=>none
def strOf:Cn→Option ByteArray
 | .ro none ⟨.str,b⟩=>some b
 |_=>none
def j6{α β:Type}:Option α→Option (α×Option β)
 |some y=>some (y,none)
 |none=>none
def pW(tt:TypeId→Option Ty)(ob:Nat→Ob)(t t2 e:TypeId)(u:Ty)(x:Cn):Option (List u.Den×Option Nat):=
 match strOf x with
 |some b=>match bA tt t2 .str with
  |true=>j6 (bz (.list e u) ⟨.list e (.int .u8),fT b⟩)
  |false=>none
 |none=>match Nat.beq t2 t with
  |true=>match u.flat with
   |true=>j6 (tY ob e u x)
   |false=>gP ob e u x
  |false=>none
def jd:Option Nat→Nat→Bool
 |none,_=>false
 |some i,j=>Nat.beq i j
def xw:Option Nat→Bool
 |none=>false
 |some _=>true
def kD(ob:Nat→Ob)(old gone:Option Nat):Nat→Ob:=fun j=>match jd old j||jd gone j with
 |true=> .dead
 |false=>ob j
def iU(C:Ctx)(pure:Bool)(o:Oper)(t t2:TypeId)(s x:Cn)(st:St)(k:St→Option R):Option R:=
 match C.tt t with
 |some (.list e u)=>match gP st.ob e u s with
  |some (xs,old)=>match pW C.tt st.ob t t2 e u x with
   |some (ys,gone)=>match(pure&&(xw old||xw gone))||(match gone with|some j=>jd old j|none=>false) with
    |true=>none
    |false=>cond (lim (xs.length+ys.length))
     (az C o (.h st.nx) ⟨st.sl,upd (kD st.ob old gone) st.nx (.sl .own 0 e u (xs++ys)),st.nx+1⟩ k) none
   |none=>none
  |none=>none
 |_=>none
def kN(ob:Nat→Ob)(e:TypeId)(u:Ty):Cn→Option (List u.Den×Option Nat)
 | .bq _ _=>some ([],none)
 | .h i=>match ob i with
   | .sl fz _ e' t' xs=>match Nat.beq e e' with
     |true=>match fz with
      | .shl=>match bz (.list e u) ⟨.list e t',xs⟩ with
        |some ys=>some (ys,some i)
        |none=>none
      | .own=>match xs with
        |[]=>match decide (u=t') with
         |true=>some ([],some i)
         |false=>none
        |_::_=>none
      |_=>none
     |false=>none
   |_=>none
 |_=>none
def vk(ob:Nat→Ob):Cn→Bool
 | .h i=>match ob i with
   | .sl .shl _ _ _ _=>true
   |_=>false
 |_=>false
def jO(C:Ctx)(o:Oper)(t t2:TypeId)(s x:Cn)(st:St)(k:St→Option R):Option R:=
 match C.tt t with
 |some (.list e u)=>match kN st.ob e u s with
  |some (xs,old)=>match kN st.ob e u x with
   |some (ys,gone)=>match(match gone with|some j=>jd old j|none=>false)|| !Nat.beq t2 t with
    |true=>none
    |false=>cond (lim (xs.length+ys.length))
     (az C o (.h st.nx) ⟨st.sl,upd (kD st.ob old gone) st.nx (.sl .shl 0 e u (xs++ys)),st.nx+1⟩ k) none
   |none=>none
  |none=>none
 |_=>none
def oG(st:St)(i:Nat)(ix:Int)(path:List Nat)(aj:Nat)(e':TypeId)(u:Ty)(ys:List u.Den):Option St:=
 match st.ob i with
 | .sl fz v e t xs=>match fz with
   | .own=>match Nat.beq v aj with
     |true=>some {st with ob:=upd (upd st.ob i (.sl (.hole ix path st.nx) (v+1) e t xs)) st.nx (.sl .own 0 e' u ys),nx:=st.nx+1}
     |false=>none
   |_=>none
 |_=>none
def jV(c:Cn)(ob:Nat→Ob):Nat→Ob:=
 match c with
 | .h i=>match ob i with
   | .sl fz v e t xs=>match fz with
     | .own=>upd ob i (.sl .shl v e t xs)
     |_=>ob
   |_=>ob
 |_=>ob
def jN(C:Ctx)(pure:Bool)(o:Oper)(t t2:TypeId)(s x:Cn)(st:St)(k:St→Option R):Option R:=
 match vk st.ob x||vk st.ob s with
 |true=>jO C o t t2 s x {st with ob:=jV x (jV s st.ob)} k
 |false=>match s with
  | .sub i ix path aj ⟨.list e u,ys⟩=>match oG st i ix path aj e u ys with
    |some st'=>iU C pure o t t2 (.h st.nx) x st' k
    |none=>none
  |s=>iU C pure o t t2 s x st k
def rR(n:Int):Bool:=decide (0≤n)&&decide (n≤4294967296)
def jr(C:Ctx)(o:Oper)(t:TypeId)(n:Int)(st:St)(k:St→Option R):Option R:=
 match C.tt t with
 |some (.list e u)=>match u.fM with
  |true=>cond (rR n) (az C o (.h st.nx) (st.push (.sl .own 0 e u (List.replicate n.toNat u.dflt))) k) none
  |false=>none
 |_=>none
def fJ(t:Ty):Nat→List (Nat×DV)→Option (List t.Den)
 |_,[]=>some []
 |i,x::r=>match Nat.beq x.1 i with
  |true=>match bz t x.2,fJ t (i+1) r with
   |some y,some l=>some (y::l)
   |_,_=>none
  |false=>none
def gT(C:Ctx)(st:St):List (Nat×Operand)→Option (List (Nat×Cn))
 |[]=>some []
 |x::r=>match ev C st 0 x.2,gT C st r with
  |some c,some l=>some ((x.1,c)::l)
  |_,_=>none
def kT(st:St):List (Nat×Cn)→Option (List (Nat×DV)×St)
 |[]=>some ([],st)
 |x::r=>match dU st x.2 with
  |some (d,s1)=>match kT s1 r with
   |some (l,s2)=>some ((x.1,d)::l,s2)
   |none=>none
  |none=>none
def eY:Cn→Option DV
 | .ro none d=>some d
 | .bq e t=>some ⟨.list e t,[]⟩
 | .nil=>some ⟨.nil,()⟩
 | .cons a b=>match eY a,eY b with
   |some x,some y=>some ⟨.cons x.ty y.ty,(x.v,y.v)⟩
   |_,_=>none
 | .agg c=>match eY c with
   |some x=>some ⟨.st x.ty,x.v⟩
   |none=>none
 |_=>none
def jC:List (Nat×Cn)→Option (List (Nat×DV))
 |[]=>some []
 |x::r=>match eY x.2,jC r with
  |some d,some l=>some ((x.1,d)::l)
  |_,_=>none
def jR(C:Ctx)(pure:Bool)(o:Oper)(t:TypeId)(len:Nat)(parts:List (Nat×Operand))(st:St)(k:St→Option R):Option R:=
 match C.tt t with
 |some (.list e u)=>match Nat.ble (len*u.size) 16777216&& !(pure&& !u.flat) with
  |true=>match gT C st parts with
   |some ps=>match kT st ps with
    |some (ds,s1)=>match fJ u 0 ds with
     |some xs=>match Nat.beq xs.length len with
      |true=>az C o (.h s1.nx) (s1.push (.sl .own 0 e u xs)) k
      |false=>none
     |none=>none
    |none=>match jC ps with
     |some ds=>match fJ u 0 ds with
      |some xs=>match Nat.beq xs.length len with
       |true=>az C o (.h st.nx) (st.push (.sl .shl 0 e u xs)) k
       |false=>none
      |none=>none
     |none=>none
   |none=>none
  |false=>none
 |_=>none
def mR:List (Nat×Cn)→Cn→Option Cn
 |[],c=>some c
 |x::r,c=>match aK x.2 with
  |some b=>match gF (fun old=>match Nat.beq b.size old.size with
   |true=>some b
   |false=>none) c x.1 with
   |some d=>mR r d
   |none=>none
  |none=>none
def qb(C:Ctx)(t:TypeId)(ps:List (Nat×Cn)):Option Cn:=
 match C.tt t with
 |some (.st fs)=>match mR ps (d_ fs) with
  |some c=>match fits fs c with
   |true=>some (.agg c)
   |false=>none
  |none=>none
 |_=>none
def dM(C:Ctx)(st:St):List Operand→List TypeId→Option (List Cn)
 |[],_=>some []
 |x::r,ts=>match ev C st (ts.headD 0) x,dM C st r ts.tail with
  |some c,some l=>some (c::l)
  |_,_=>none
def j4(C:Ctx)(st:St):List Operand→List TypeId→Option (List Cn)
 |[x,y],ts=>match qx C st (ts.headD 0) x,ev C st (ts.tail.headD 0) y with
  |some c,some d=>some [c,d]
  |_,_=>none
 |_,_=>none
def caps:List Cn→Cn
 |[]=> .nil
 |x::r=> .cons x (caps r)
def oV:Cn→Option (List Cn)
 | .nil=>some []
 | .cons a b=>match oV b with
   |some l=>some (a::l)
   |none=>none
 |_=>none
def bE:List Cn→Nat→Cn
 |[],_=> .dead
 |c::_,0=>c
 |_::r,n+1=>bE r n
def bG(f:Nat→Nat):Cn→Cn
 | .h i=> .h (f i)
 | .p i=> .p (f i)
 | .cons a b=> .cons (bG f a) (bG f b)
 | .agg a=> .agg (bG f a)
 | .fn g a=> .fn g (bG f a)
 |c=>c
def dY(f:Nat→Nat)(aj:Nat):Ob→Ob
 | .sl fz _ e t xs=> .sl fz aj e t xs
 | .box u c=> .box u (bG f c)
 | .a_ b u c=> .a_ b u (bG f c)
 | .mp u kk l=> .mp u kk l
 | .dead=> .dead
def oW:Ob→Nat
 | .sl _ v _ _ _=>v
 |_=>0
def fD:Ob→Ob
 | .sl md v e t xs=>match md with
   | .hole _ _ _=> .dead
   |_=> .sl .aV v e t xs
 |_=> .dead
def dh(m:Mt)(j:Nat):Nat:=
 match aC m.sig j with
 |some i=>i
 |none=>m.nx+j
def inv:List (Nat×Nat)→Nat→Option Nat
 |[],_=>none
 |x::r,i=>match Nat.beq x.2 i with
  |true=>some x.1
  |false=>inv r i
def bu(c:dm)(m:Mt)(y:c.au.Den)(i:Nat):Ob:=
 match Nat.blt i m.nx with
 |true=>match inv m.sig i with
  |some j=>dY (dh m) (oW (m.ob i)+1) (bW c.au.objs (c.au.pO y) j)
  |none=>match !c.au.aS&&bN i m.fz with
   |true=>fD (m.ob i)
   |false=>m.ob i
 |false=>match aC m.sig (i-m.nx) with
  |some _=> .dead
  |none=>dY (dh m) 0 (bW c.au.objs (c.au.pO y) (i-m.nx))
def dW:List (Nat×OS)→Nat→Option OS
 |[],_=>none
 |x::r,n=>match Nat.beq x.1 n with
  |true=>some x.2
  |false=>dW r n
def kindOk:OS→OS→Bool
 | .sl e t,.sl e' t'=>Nat.beq e e'&&decide (t=t')
 | .box u _,.box v _=>decide (u=v)
 | .box u _,.a_ v _=>decide (u=v)
 | .a_ u _,.box v _=>decide (u=v)
 | .a_ u _,.a_ v _=>decide (u=v)
 |_,_=>false
def jw(iK:List (Nat×OS)):List (Nat×OS)→Bool
 |[]=>true
 |x::r=>(match dW iK x.1 with
  |some o=>kindOk o x.2
  |none=>true)&&jw iK r
def mO(c:dm)(y:c.au.Den):Nat→Nat→Cn
 |0,_=> .nil
 |n+1,i=> .cons (bZ c.au.slots (c.au.pS y) i) (mO c y n (i+1))
def mP(c:dm)(m:Mt)(y:c.au.Den):Cn:=
 match c.fO with
 |1=>bG (dh m) (bZ c.au.slots (c.au.pS y) 0)
 |n=> .b_ (bG (dh m) (mO c y n 0))
def isNil{α:Type}:List α→Bool
 |[]=>true
 |_=>false
def jl:Ob→OS→Bool
 | .sl .own _ e t _,.sl e' t'=>Nat.beq e e'&&decide (t=t')
 | .box u _,.box v _=>decide (u=v)
 | .box u _,.a_ v _=>decide (u=v)
 | .a_ _ u _,.a_ v _=>decide (u=v)
 |_,_=>false
def jm(m:Mt)(objs:List (Nat×OS)):List (Nat×Nat)→Bool
 |[]=>true
 |x::r=>(match dW objs x.1 with
  |some o=>jl (m.ob x.2) o
  |none=>false)&&jm m objs r
def dQ(st:St):CS→Cn→Option (Cn×St×Nat)
 | .h _,.sub i ix path aj ⟨.list e u,ys⟩=>match oG st i ix path aj e u ys with
   |some st'=>some (.h st.nx,st',i)
   |none=>none
 | .agg a,.agg c=>match dQ st a c with
   |some (c',st',i)=>some (.agg c',st',i)
   |none=>none
 | .cons a b,.cons x y=>match dQ st a x with
   |some (x',st',i)=>some (.cons x' y,st',i)
   |none=>match dQ st b y with
    |some (y',st',i)=>some (.cons x y',st',i)
    |none=>none
 |_,_=>none
def kK:List (Nat×CS)→Nat→List Cn→St→Option (List Cn×St×Nat)
 |[],_,_,_=>none
 |_,_,[],_=>none
 |x::r,n,c::cs,st=>match Nat.beq x.1 n with
  |true=>match dQ st x.2 c with
   |some (c',st',i)=>some (c'::cs,st',i)
   |none=>match kK r (n+1) cs st with
    |some (l,st',i)=>some (c::l,st',i)
    |none=>none
  |false=>none
def lZ(m:Nat):Cn→Bool
 | .h i=>Nat.beq i m
 | .cons a b=>lZ m a||lZ m b
 | .agg a=>lZ m a
 | .b_ a=>lZ m a
 |_=>false
def iW(d:Option Nat)(i:Nat)(st:St)(k:St→Option R):Option R:=
 match st.ob i with
 | .sl (.hole ix path m) aj e t xs=>match st.ob m with
   | .sl .own _ e' u ys=>match(match d with|some d=>lZ m (st.sl d)|none=>false) with
     |true=>k st
     |false=>(h_ xs ix).bind fun x=>match bQ ⟨.list e' u,ys⟩ path t x with
      |some y=>k {st with ob:=upd (upd st.ob m .dead) i (.sl .own (aj+1) e t (xs.set ix.toNat y))}
      |none=>none
   |_=>k st
 |_=>none
def gQ(C:Ctx)(pure:Bool)(o:Oper)(args:List Cn)(st:St)(k:St→Option R):List dm→Option R
 |[]=>none
 |c::r=>match kK c.aX.slots 0 args st with
  |some (args',st',i)=>match pure with
   |true=>none
   |false=>match gy c.au.aS true c.aX ⟨bE args',st'.ob,st'.nx⟩ with
    |none=>gQ C pure o args st k r
    |some (x,m)=>match !(jw c.aX.objs c.au.objs&&(Nat.beq args'.length c.nargs&&jm m c.aX.objs m.sig)) with
     |true=>none
     |false=>(c.F x).bind fun y=>
      az C o (mP c m y) {sl:=st'.sl,ob:=bu c m y,nx:=m.nx+Nat.max 100 (bL c.au.objs)} fun st2=>iW o.dst i st2 k
  |none=>match gy c.au.aS true c.aX ⟨bE args,st.ob,st.nx⟩ with
   |none=>gQ C pure o args st k r
   |some (x,m)=>match(pure&& !(isNil m.sig&&(c.au.aS||isNil m.fz)))|| !(jw c.aX.objs c.au.objs&&(Nat.beq args.length c.nargs&&jm m c.aX.objs m.sig)) with
    |true=>none
    |false=>(c.F x).bind fun y=>
     az C o (mP c m y) {sl:=st.sl,ob:=bu c m y,nx:=m.nx+Nat.max 100 (bL c.au.objs)} k
def p8(ob:Nat→Ob)(c:Cn):Option (TypeId×List Int):=
 match f_ ob c with
 |some v=>match bz (.list v.e (.int .u8)) ⟨.list v.e v.t,v.xs⟩ with
  |some xs=>some (v.e,xs)
  |none=>none
 |none=>none
def jW(C:Ctx)(o:Oper)(ts td:TypeId)(c:Cn)(st:St)(k:St→Option R):Option R:=
 match c with
 | .ro none ⟨.int _,n⟩=>match C.tt ts,C.tt td with
   |some (.int _),some (.int kd)=>az C o (.ro none ⟨.int kd,kd.wrap n⟩) st k
   |_,_=>none
 | .ro none ⟨.str,s⟩=>match C.tt ts,C.tt td with
   |some .str,some (.list e (.int .u8))=>match bA C.tt e (.int .u8) with
    |true=>az C o (.ro none ⟨.list e (.int .u8),fT s⟩) st k
    |false=>none
   |some .str,some .str=>az C o (.ro none ⟨.str,s⟩) st k
   |_,_=>none
 |c=>match p8 st.ob c with
  |some (e,xs)=>match bA C.tt ts (.list e (.int .u8))&&(bA C.tt e (.int .u8)&&bA C.tt td .str) with
   |true=>az C o (.ro none ⟨.str,zX xs⟩) st k
   |false=>none
  |none=>none
def jX(C:Ctx)(o:Oper)(t t2:TypeId)(d x:Cn)(st:St)(k:St→Option R):Option R:=
 match d with
 | .h i=>match st.ob i with
   | .sl md aj e u xs=>match md with
     | .own=>match bA C.tt t (.list e u)&&(Nat.beq t2 t&&(u.flat&&Nat.beq u.size 1)) with
       |true=>match f_ st.ob x with
        |some v=>match bz (.list e u) ⟨.list e v.t,v.xs⟩ with
         |some ys=>az C o (.ro none ⟨.int .i64,((Nat.min (ys:List u.Den).length xs.length:Nat):Int)⟩) (st.set i (.sl .own (aj+1) e u ((ys:List u.Den).take xs.length++xs.drop (ys:List u.Den).length))) k
         |none=>none
        |none=>none
       |false=>none
     |_=>none
   |_=>none
 |_=>none
def kC(u:Ty)(x y:u.Den):Bool:=match bO u x y with
 |some b=>b
 |none=>false
def bV(u:Ty)(x:u.Den):List (u.Den×Int)→Option Int
 |[]=>none
 |p::r=>match kC u x p.1 with
  |true=>some p.2
  |false=>bV u x r
def gz(u:Ty)(x:u.Den)(n:Int):List (u.Den×Int)→List (u.Den×Int)
 |[]=>[(x,n)]
 |p::r=>match kC u x p.1 with
  |true=>(x,n)::r
  |false=>p::gz u x n r
def vK(ok:Bool)(kk:IntKind)(x:Option Int):Cn:=
 match ok with
 |true=> .b_ (.cons (.ro none ⟨.int kk,x.getD 0⟩) (.cons (.ro none ⟨.bool,x.isSome⟩) .nil))
 |false=> .ro none ⟨.int kk,x.getD 0⟩
def mK(C:Ctx)(t:TypeId):Option (TypeId×Ty×IntKind):=
 match C.mt t with
 |some (kt,et)=>match C.tt kt,C.tt et with
  |some u,some (.int kk)=>match u.isAgg&&(u.flat&&Nat.ble u.ht 9999) with
   |true=>some (kt,u,kk)
   |false=>none
  |_,_=>none
 |none=>none
def gY(C:Ctx)(st:St)(t:TypeId)(i:Nat)(c:Cn)(k:(u:Ty)→IntKind→List (u.Den×Int)→u.Den→Option R):Option R:=
 match mK C t with
 |some (_,u,kk)=>match st.ob i,bT c with
  | .mp u' jo l,some d=>match bz (.list 0 (.cons u (.int kk))) ⟨.list 0 (.cons u' (.int jo)),l⟩,bz u d with
    |some l',some x=>k u kk l' x
    |_,_=>none
  |_,_=>none
 |none=>none
def kJ(C:Ctx)(pure:Bool)(o:Oper)(st:St)(k:St→Option R):Option R:=
 match o.op with
 | .move x=>match ev C st o.type x with
   |some c=>az C o c st k
   |none=>none
 | .assign x=>match pure with
   |true=>none
   |false=>match ev C st o.type x with
    |some c=>az C o c st k
    |none=>none
 | .alloc t=>match C.tt t with
   |some u=>match fits u (d_ u) with
    |true=>az C o (.p st.nx) (st.push (.box u (d_ u))) k
    |false=>none
   |none=>none
 | .box t x=>match ev C st t x with
   |some c=>match aK c with
    |some b=>match C.tt t with
     |some u=>match fits u b with
      |true=>az C o (.p st.nx) (st.push (.box u b)) k
      |false=>none
     |none=>none
    |none=>none
   |none=>none
 | .build t ps=>match gT C st ps.toList with
   |some l=>match qb C t l with
    |some c=>az C o c st k
    |none=>none
   |none=>none
 | .buildSlice t len ps=>match pure with
   |true=>none
   |false=>jR C pure o t len ps.toList st k
 | .load t a=>match ev C st 0 a with
   |some c=>match mG st c with
    |some d=>match mF C.tt t d.isAgg d.size with
     |true=>az C o d st k
     |false=>none
    |none=>none
   |none=>none
 | .store t a x=>match pure with
   |true=>none
   |false=>match ev C st 0 a,ev C st t x with
    |some a,some c=>match o.dst with
     |none=>iP C.tt t st a c k
     |some _=>none
    |_,_=>none
 | .nilCheck x=>match ev C st 0 x with
   |some c=>match c with
    | .p i=>match st.ob i with
      | .box _ _=>az C o c st k
      | .a_ b u d=>match pure with
        |true=>none
        |false=>cond b (az C o c (st.set i (.box u d)) k) none
      |_=>none
    | .addr .. =>az C o c st k
    | .aZ .. =>az C o c st k
    | .fn .. =>az C o c st k
    |_=>none
   |none=>none
 | .binOp op xt x y yt=>match ev C st yt x,ev C st yt y with
   |some a,some b=>match a.isAgg with
    |true=>match bT a,bT b with
     |some x,some y=>j3 C o op xt x y st k
     |_,_=>none
    |false=>jQ C o op xt a b st k
   |_,_=>none
 | .unOp op _ x=>match ev C st 0 x with
   |some a=>kV C o op a st k
   |none=>none
 | .convert src dst x=>match ev C st 0 x with
   |some c=>jW C o src dst c st k
   |none=>none
 | .fieldAddr s x f=>match ev C st 0 x with
   |some c=>match qB C.tt st.ob s f c with
    |some d=>az C o d st k
    |none=>none
   |none=>none
 | .indexAddr t x i=>match ev C st 0 x,ev C st 0 i with
   |some c,some d=>ko C o t c d st k
   |_,_=>none
 | .index t x i=>match ev C st 0 x,ev C st 0 i with
   |some c,some d=>ku C o t c d st k
   |_,_=>none
 | .slice t x lo hi none=>match ev C st t x with
   |some c=>match(match lo with
    |none=>some none
    |some l=>(match ev C st 0 l with
     |some (.ro none ⟨.int _,n⟩)=>some (some n)
     |_=>none)),(match hi with
    |none=>some none
    |some l=>(match ev C st 0 l with
     |some (.ro none ⟨.int _,n⟩)=>some (some n)
     |_=>(none:Option (Option Int)))) with
    |some l,some h=>kP C o t c l h st k
    |_,_=>none
   |none=>none
 | .makeSlice t (.tmp n) (.tmp m)=>match Nat.beq n m with
   |true=>match st.sl n with
    | .ro none ⟨.int _,x⟩=>jr C o t x st k
    |_=>none
   |false=>none
 | .makeSlice t (.const (.int _ n)) (.const (.int _ m))=>match decide (n=m) with
   |true=>jr C o t n st k
   |false=>none
 | .makeFunc (.func f) fs cs=>match fs.toList with
   |[]=>match dM C st cs.toList [] with
    |some l=>az C o (.fn f (caps l)) st k
    |none=>none
   |_=>none
 | .extract x ix=>match ev C st 0 x with
   |some (.b_ c)=>match fP c ix with
    |some d=>az C o d st k
    |none=>none
   |_=>none
 | .call c=>match c.callee with
   | .value (.func g)=>match dM C st c.args.toList c.argTypes.toList with
     |some l=>gQ C pure o l st k (C.phi g)
     |none=>none
   | .value x=>match ev C st 0 x,dM C st c.args.toList c.argTypes.toList with
     |some (.fn g cs),some l=>match oV cs with
      |some r=>gQ C pure o (l++r) st k (C.phi g)
      |none=>none
     |_,_=>none
   | .builtin .len=>match dM C st c.args.toList c.argTypes.toList,c.argTypes.toList with
     |some [x],[t]=>kE C o t x st k
     |_,_=>none
   | .builtin .append=>match j4 C st c.args.toList c.argTypes.toList,c.argTypes.toList with
     |some [s,x],[t,t2]=>match pure with
      |true=>none
      |false=>jN C pure o t t2 s x st k
     |_,_=>none
   | .builtin .cap=>match dM C st c.args.toList c.argTypes.toList,c.argTypes.toList with
     |some [x],[t]=>jS C o t x st k
     |_,_=>none
   | .builtin .copy=>match dM C st c.args.toList c.argTypes.toList,c.argTypes.toList with
     |some [s,x],[t,t2]=>match pure with
      |true=>none
      |false=>jX C o t t2 s x st k
     |_,_=>none
   | .builtin .min=>match dM C st c.args.toList c.argTypes.toList with
     |some [.ro none ⟨.int ka,a⟩,.ro none ⟨.int _,b⟩]=>az C o (.ro none ⟨.int ka,(if(b:Int)<a then b else a)⟩) st k
     |_=>none
   | .builtin .max=>match dM C st c.args.toList c.argTypes.toList with
     |some [.ro none ⟨.int ka,a⟩,.ro none ⟨.int _,b⟩]=>az C o (.ro none ⟨.int ka,(if(b:Int)>a then b else a)⟩) st k
     |_=>none
   |_=>none
 | .makeMap t none=>match pure with
   |true=>none
   |false=>match mK C t with
    |some (_,u,kk)=>az C o (.p st.nx) (st.push (.mp u kk [])) k
    |none=>none
 | .lookup t x y ok=>match pure with
   |true=>none
   |false=>match ev C st 0 x,ev C st 0 y with
    |some (.p i),some c=>gY C st t i c fun u kk l x=>
     az C o (vK ok kk (bV u x l)) st k
    |_,_=>none
 | .mapUpdate t m x y=>match pure with
   |true=>none
   |false=>match ev C st 0 m,ev C st 0 x,ev C st 0 y with
    |some (.p i),some c,some (.ro none ⟨.int ky,n⟩)=>gY C st t i c fun u kk l x=>match decide (kk=ky),o.dst with
     |true,none=>k (st.set i (.mp u kk (gz u x n l)))
     |_,_=>none
    |_,_,_=>none
 |_=>none
end Go.Am
end
