/- an abstract machine over the model: what it holds, how it steps, and that its steps are sound -/
import Derived.Test.YtceehofnlhfndaaAmStep
import Derived.OrdersHeld
import Derived.Laws.OwnMore
import Derived.Laws.Tables
import Derived.Maps.AppendAt
import Derived.Lib.AppendStr
import Derived.Lib.ConvBytes
import Derived.Laws.CopyRow
import Derived.Laws.IdiomCopy
set_option linter.unnecessarySimpa false
set_option linter.unusedSimpArgs false
set_option linter.unusedVariables false
set_option linter.unusedSectionVars false
section
namespace Go.Am
def gm(all:Array Oper)(j:Nat):Option Nat:=
 match all[j]? with
 |some o=>o.dst
 |none=>none
def cK:List (Nat×Bool)→Nat→Option Bool
 |[],_=>none
 |x::r,n=>match Nat.beq x.1 n with
  |true=>some x.2
  |false=>cK r n
def oQ(s:Nat):List Oper→Option (List Oper×Oper×List Oper)
 |[]=>none
 |o::r=>match(match o.op with
   | .pick (.tmp t) _ _=>Nat.beq t s
   |_=>false) with
  |true=>some ([],o,r)
  |false=>match oQ s r with
   |some (g,p,q)=>some (o::g,p,q)
   |none=>none
def gp(C:Ctx)(st:St)(x:Operand):Option Bool:=
 match ev C st 0 x with
 |some (.ro none ⟨.bool,b⟩)=>some b
 |_=>none
def lK(o:Oper)(st:St):St:=
 match o.dst with
 |some d=>{st with sl:=upd st.sl d .dead}
 |none=>st
def cu(o:Oper)(st:St):St:=
 match o.dst with
 |some d=>{st with sl:=upd st.sl d (.b_ .nil)}
 |none=>st
def bK:List Oper→St→St
 |[],st=>st
 |o::r,st=>lK o (bK r st)
def bD:Option Nat→List (Nat×Bool)→List (Nat×Bool)
 |none,l=>l
 |some _,[]=>[]
 |some d,x::r=>match Nat.beq x.1 d with
  |true=>bD (some d) r
  |false=>x::bD (some d) r
def fQ:List Oper→List (Nat×Bool)→List (Nat×Bool)
 |[],l=>l
 |o::r,l=>bD o.dst (fQ r l)
def qX:Option Nat→Nat→Bool
 |some d,s=>Nat.beq d s
 |none,_=>false
def uu:Option Nat→List Nat→List Nat
 |some d,l=>d::l
 |none,l=>l
def iO(all:Array Oper)(s:Nat)(want:Bool):List Nat→List Oper→Bool
 |_,[]=>true
 |acc,o::r=> !qX o.dst s&&((match o.guard with
  |some (j,w)=>match gm all j with
   |some s'=>(Nat.beq s' s&&w==want)||(!Nat.beq s' s&&nJ s' acc)
   |none=>false
  |none=>false)&&iO all s want (uu o.dst acc) r)
where
 nJ (n:Nat):List Nat→Bool
  |[]=>false
  |x::r=>match Nat.beq n x with
   |true=>true
   |false=>nJ n r
def rW(all:Array Oper)(dec:List (Nat×Bool))(pk:Oper):Bool:=
 match pk.guard with
 |none=>true
 |some (j,w)=>match gm all j with
  |some s=>match cK dec s with
   |some v=>v==w
   |none=>false
  |none=>false
def wJ(dec:List (Nat×Bool))(o:Oper):Option Operand:=
 match o.op with
 | .pick (.tmp s) x y=>match cK dec s with
   |some true=>some x
   |some false=>some y
   |none=>none
 |_=>none
def dP(C:Ctx){R:Type}(pure:Bool)(dec:List (Nat×Bool))(o:Oper)(st:St)(k:St→Option R):Option R:=
 match wJ dec o with
 |some z=>match ev C st o.type z with
  |some c=>az C o c st k
  |none=>none
 |none=>kJ C pure o st k
def dD(C:Ctx)(all:Array Oper):(R:Type)→Nat→Bool→List (Nat×Bool)→List Oper→St→(St→Option R)→Option R
 |_,0,_,_,_,_,_=>none
 |_,_+1,_,_,[],st,k=>k st
 |R,n+1,pure,dec,o::r,st,k=>
  match o.guard with
  |none=>dP C pure dec o st fun s1=>dD C all R n pure (bD o.dst dec) r s1 k
  |some (j,want)=>match gm all j with
   |none=>none
   |some s=>match cK dec s with
    |some v=>match v==want with
     |true=>dP C pure dec o st fun s1=>dD C all R n pure (bD o.dst dec) r s1 k
     |false=>dD C all R n pure (bD o.dst dec) r (cu o st) k
    |none=>match st.sl s with
     | .ro none ⟨.bool,b⟩=>match C.br s with
      |true=>cond b (dD C all R n pure ((s,true)::dec) (o::r) st k) (dD C all R n pure ((s,false)::dec) (o::r) st k)
      |false=>match oQ s (o::r) with
       |some (aF,pk,rest)=>match pk.op with
        | .pick _ x y=>match pk.dst with
          |some d=>match Nat.blt d C.N&&(iO all s want [] aF&&rW all (fQ aF dec) pk) with
           |true=>
            (cond b
             (match want with
              |true=>dD C all Bool n true ((s,true)::dec) aF st fun s1=>gp C s1 x
              |false=>gp C (bK aF st) x)
             (match want with
              |true=>gp C (bK aF st) y
              |false=>dD C all Bool n true ((s,false)::dec) aF st fun s1=>gp C s1 y)).bind
            fun v=>dD C all R n pure (bD (some d) (fQ aF dec)) rest {(bK aF st) with sl:=upd (bK aF st).sl d (.ro none ⟨.bool,v⟩)} k
           |false=>none
          |none=>none
        |_=>none
       |none=>none
     | .b_ .nil=>dD C all R n pure (bD o.dst dec) r (cu o st) k
     |_=>none
def still(C:Ctx)(o:Oper):Bool:=
 match o.op with
 | .convert _ t _=>match C.tt t with
   |some (.int _)=>true
   |some .str=>true
   |_=>false
 | .move _| .assign _| .load _ _| .binOp _ _ _ _ _| .unOp _ _ _| .fieldAddr _ _ _| .indexAddr _ _ _| .index _ _ _| .slice _ _ _ _ _| .extract _ _| .nilCheck _| .build _ _| .makeFunc _ _ _=>true
 | .pick _ _ _=>true
 | .call c=>match c.callee with
   | .builtin .len| .builtin .min| .builtin .max=>true
   |_=>false
 |_=>false
def dB(o:Oper):Bool:=
 match o.op with
 | .load _ _=>true
 | .convert _ _ _=>true
 |_=>false
def wh(C:Ctx)(f:FuncId):Bool:=(C.phi f).all fun c=>isNil c.aX.objs
def fI(C:Ctx)(o:Oper):Bool:=
 match o.op with
 | .call c=>match c.callee with
   | .value (.func f)=>wh C f
   |_=>false
 | .alloc _| .box _ _| .buildSlice _ _ _| .makeSlice _ _ _=>true
 |_=>false
def mJ(C:Ctx)(o:Oper):Bool:=still C o||fI C o
def eO(n:Nat):List Nat→Bool
 |[]=>false
 |x::r=>match Nat.beq n x with
  |true=>true
  |false=>eO n r
def jZ(ops:Array Oper)(listed:Array Bool)(i:Nat):List Nat→List Nat→List Nat
 |[],acc=>acc
 |j::r,acc=>match !listed.getD j true&&(match ops[j]? with
   |some oj=>oj.after.any fun e=>Region.binds .any e&&(Nat.beq e.on i||eO e.on acc)
   |none=>false) with
  |true=>jZ ops listed i r (j::acc)
  |false=>jZ ops listed i r acc
def iY(ops:Array Oper)(listed:Array Bool)(i:Nat):List Nat:=jZ ops listed i (List.range ops.size) []
def vG(C:Ctx)(ops:Array Oper)(listed:Array Bool)(i:Nat)(U:List Nat):Bool:=
 (List.range ops.size).all fun j=>j==i||listed.getD j true||eO j U||match ops[j]? with
  |some oj=>mJ C oj
  |none=>true
def nY(C:Ctx)(ops:Array Oper)(listed:Array Bool)(i:Nat):Bool:=vG C ops listed i (iY ops listed i)
def iH(C:Ctx)(ops:Array Oper):Array Bool→List Nat→Bool
 |listed,[]=>(Region.ready .any ops listed).isEmpty
 |listed,i::r=>(match ops[i]? with
  |some o=>(still C o&&(Region.free .any ops listed i&&((Region.ready .any ops listed).contains i&&(!dB o||nY C ops listed i))))||
   (match Region.ready .any ops listed with
    |[j]=>Nat.beq j i
    |_=>false)
  |none=>false)&&iH C ops (listed.setIfInBounds i true) r
def key:Code→Nat
 | .region id _ _=>id
 | .seq a _=>key a
 | .cond _ a _=>key a
 | .block _ a=>key a
 | .loop a=>key a
 | .scope a=>key a
 |_=>0
structure Cut(R:Type) where
 s:SS
 J:s.Den→Option R
def jU(objs:List (Nat×OS)):CS→Cn→(Nat→Ob)→(Nat→Ob)
 | .h j,.h i,ob=>match dW objs j with
   |some (.sh _ _)=>jV (.h i) ob
   |_=>ob
 | .cons a b,.cons x y,ob=>jU objs b y (jU objs a x ob)
 | .agg a,.agg x,ob=>jU objs a x ob
 |_,_,ob=>ob
def qh(objs:List (Nat×OS))(sl:Nat→Cn):List (Nat×CS)→(Nat→Ob)→(Nat→Ob)
 |[],ob=>ob
 |x::r,ob=>qh objs sl r (jU objs x.2 (sl x.1) ob)
def uP:List (Nat×OS)→Bool
 |[]=>false
 |x::r=>match x.2 with
  | .sh _ _=>true
  |_=>uP r
def iX(s:SS)(sl:Nat→Cn)(st:St):St:=
 match uP s.objs with
 |true=>{st with ob:=qh s.objs sl s.slots st.ob}
 |false=>st
def Cut.go{R:Type}(c:Cut R)(st:St):Option R:=
 match gy false false c.s (iX c.s st.sl st) with
 |some (x,_)=>c.J x
 |none=>none
def nE(C:Ctx)(st:St)(x:Operand):Option Bool:=gp C st x
def stepG(C:Ctx){R:Type}(dec:List (Nat×Bool))(v want:Bool)(o:Oper)(st:St)(k:List (Nat×Bool)→St→Option R):Option R:=
 match v==want with
 |true=>dP C false dec o st (k (bD o.dst dec))
 |false=>k (bD o.dst dec) (cu o st)
def kS(C:Ctx){R:Type}(ops:Array Oper)(dec:List (Nat×Bool))(o:Oper)(st:St)(k:List (Nat×Bool)→St→Option R):Option R:=
 match o.guard with
 |none=>dP C false dec o st (k (bD o.dst dec))
 |some (j,want)=>match gm ops j with
  |none=>none
  |some s=>match cK dec s with
   |some v=>stepG C dec v want o st k
   |none=>match st.sl s with
    | .ro none ⟨.bool,b⟩=>cond b (stepG C ((s,true)::dec) true want o st k) (stepG C ((s,false)::dec) false want o st k)
    | .b_ .nil=>k (bD o.dst dec) (cu o st)
    |_=>none
def gD(C:Ctx){R:Type}(ops:Array Oper):List Nat→List (Nat×Bool)→St→(St→Option R)→Option R
 |[],_,st,k=>k st
 |i::r,dec,st,k=>match ops[i]? with
  |some o=>kS C ops dec o st fun dec' st'=>gD C ops r dec' st' k
  |none=>none
def runK(C:Ctx){R:Type}(ops:Array Oper)(ord:List Nat)(st:St)(k:St→Option R):Option R:=gD C ops ord [] st k
def oU(C:Ctx)(ops:Array Oper)(listed:Array Bool)(i:Nat):Bool:=
 match ops[i]? with
 |some o=>still C o&&(Region.free .any ops listed i&&((Region.ready .any ops listed).contains i&&(!dB o||nY C ops listed i)))
 |none=>false
def dF(i:Nat):List (List Nat)→List (List Nat)
 |(j::r)::rest=>match Nat.beq j i with
  |true=>r::dF i rest
  |false=>dF i rest
 |[]::rest=>dF i rest
 |[]=>[]
def eH(C:Ctx)(ops:Array Oper):Nat→Array Bool→List (List Nat)→Bool
 |0,listed,orders=>(Region.ready .any ops listed).isEmpty&&orders.any (·.isEmpty)
 |n+1,listed,orders=>match Region.ready .any ops listed with
  |[]=>orders.any (·.isEmpty)
  |rs=>match orders with
   |(i::_)::_=>match oU C ops listed i with
    |true=>eH C ops n (listed.setIfInBounds i true) (dF i orders)
    |false=>rs.all fun j=>eH C ops n (listed.setIfInBounds j true) (dF j orders)
   |_=>false
def exec(C:Ctx){R:Type}(cut:Nat→Option (Cut R)):Code→(St→Option R)→(Nat→St→Option R)→(St→Option R)→St→Option R
 | .skip,kn,_,_=>kn
 | .region id ops draw,kn,_,_=>fun st=>match draw with
   |false=>dD C ops R (ops.size+ops.size+1) false [] ops.toList st kn
   |true=>match cut (id+1000000) with
    |some c=>c.go st
    |none=>match Region.noSelect ops&&iH C ops (Array.replicate ops.size false) (List.range ops.size) with
     |true=>dD C ops R (ops.size+ops.size+1) false [] ops.toList st kn
     |false=>none
 | .seq a b,kn,kx,kr=>match cut (key b) with
   |some c=>exec C cut a (fun st=>c.go st) kx kr
   |none=>exec C cut a (exec C cut b kn kx kr) kx kr
 | .cond x a b,kn,kx,kr=>fun st=>match nE C st x with
   |some t=>cond t (exec C cut a kn kx kr st) (exec C cut b kn kx kr st)
   |none=>none
 | .block id a,kn,kx,kr=>exec C cut a kn (fun i=>match Nat.beq i id with|true=>kn|false=>kx i) kr
 | .loop a,_,_,_=>fun st=>match cut (key a) with
   |some c=>c.go st
   |none=>none
 | .exit id,_,kx,_=>kx id
 | .ret,_,_,kr=>kr
 |_,_,_,_=>fun _=>none
end Go.Am
end
section
namespace Go.Am
structure Ev(E:Env)(ob:Nat→Ob)(nx:Nat)(E':Env)(aG:Nat→Ob)(nx':Nat):Prop where
 le:nx≤nx'
 af:∀i,i<nx→E'.af i=E.af i
 z:∀b,E.Z b→E'.Z b
 hz:∀b,E.Z b→E'.w.heap[b]?=E.w.heap[b]?
 lay:∀i,i<nx→∀u,(aG i).lay=some u→(ob i).lay=some u
 bx:∀i,i<nx→(aG i).bn=true→(ob i).bn=true
 obs:∀i,i<nx→∀fz v e t xs,aG i= .sl fz v e t xs→∃bJ v0 aP,ob i= .sl bJ v0 e t aP∧aP.length=xs.length∧v0≤v∧
  (v0=v→aP=xs∧∀b,(b∈E.B i∨E.Z b)→E'.w.heap[b]?=E.w.heap[b]?∧(b∈E'.B i∨E'.Z b))
theorem Ev.live{E E':Env}{ob aG:Nat→Ob}{nx nx':Nat}(h:Ev E ob nx E' aG nx'){b:Option (Nat×Nat)}(hl:bR ob nx b)(k:live aG b):
 live ob b∧(∀x,src E b x→E'.w.heap[x]?=E.w.heap[x]?∧src E' b x):=by
 cases b with
 |none=>exact⟨trivial,fun x hx=>⟨h.hz x hx,h.z x hx⟩⟩
 |some p=>
  obtain⟨i,aj⟩:=p;simp only[Am.live,fresh] at k⊢;simp only[Am.bR] at hl;cases ho:aG i with
  |sl fz v e t xs=>
   simp only[ho] at k;subst k;obtain⟨bJ,v0,aP,h0,h1,h2,h3⟩:=h.obs i hl.1 fz v e t xs ho;rw[h0] at hl⊢;have hv:v0=v:=Nat.le_antisymm h2 hl.2;exact⟨hv,fun x hx=>(h3 hv).2 x hx⟩
  |box u c=>simp[ho] at k
  |a_ b u c=>simp[ho] at k
  |mp u kk l=>simp[ho] at k
  |dead=>simp[ho] at k
theorem Ev.bR{E E':Env}{ob aG:Nat→Ob}{nx nx':Nat}(h:Ev E ob nx E' aG nx'){b:Option (Nat×Nat)}(hl:bR ob nx b):bR aG nx' b:=by
 cases b with
 |none=>trivial
 |some p=>
  obtain⟨i,aj⟩:=p;simp only[Am.bR] at hl⊢;refine⟨Nat.lt_of_lt_of_le hl.1 h.le,?_⟩;cases ho:aG i with
  |sl fz v e t xs=>
   obtain⟨bJ,v0,aP,h0,h1,h2,h3⟩:=h.obs i hl.1 fz v e t xs ho;rw[h0] at hl;exact Nat.le_trans hl.2 h2
  |_=>trivial
theorem eG{E E':Env}{ob aG:Nat→Ob}{nx nx':Nat}(h:Ev E ob nx E' aG nx'):
 ∀(c:Cn) (m:Bool) (cs:List Value),av E ob nx c m cs→av E' aG nx' c m cs:=by
 intro c
 induction c with
 |ro b d=>
  intro m cs hc;simp only[av] at hc⊢;refine⟨hc.1,h.bR hc.2.1,fun hl=> ?_⟩;obtain⟨l1,l2⟩:=h.live hc.2.1 hl;exact aN (fun x hx=>(l2 x hx).2) (fun x hx=>(l2 x hx).1) _ _ _ (hc.2.2 l1)
 |bq e t=>intro m cs hc;simpa only[av] using hc
 |h i=>
  intro m cs hc;simp only[av] at hc⊢;exact⟨Nat.lt_of_lt_of_le hc.1 h.le,by rw[h.af i hc.1];exact hc.2.1,by rw[h.af i hc.1];exact hc.2.2⟩
 |p i=>
  intro m cs hc;simp only[av] at hc⊢;exact⟨Nat.lt_of_lt_of_le hc.1 h.le,by rw[h.af i hc.1];exact hc.2.1,by rw[h.af i hc.1];exact hc.2.2⟩
 |addr i k es off path cache=>
  intro m cs hc;simp only[av] at hc⊢;obtain⟨h1,h2,h3,hl,h4,hx⟩:=hc;refine⟨Nat.lt_of_lt_of_le h1 h.le,h2,by rw[h.af i h1];exact h3,fun u hu=>hl u (h.lay i h1 u hu),?_,fun e=>hx (h.bx i h1 e)⟩;cases ho:aG i with
  |sl fz v e t xs=>
   obtain⟨bJ,v0,aP,k0,k1,k2,k3⟩:=h.obs i h1 fz v e t xs ho;rw[k0] at h4;simp only at h4⊢;refine⟨by rw[←k1];exact h4.1,h4.2.1,?_⟩;have h5:=h4.2.2;cases cache with
   |none=>trivial
   |some p=>
    obtain⟨cv,d⟩:=p;simp only at h5⊢;refine⟨Nat.le_trans h5.1 k2,fun e=> ?_⟩;subst e;have hv:v0=cv:=Nat.le_antisymm k2 h5.1;obtain⟨x,hx⟩:=h5.2 hv.symm;rw[(k3 hv).1] at hx;exact⟨x,hx⟩
  |_=>trivial
 |aZ b d=>
  intro m cs hc;simp only[av] at hc⊢;obtain⟨h1,ad,h2,h3,h4⟩:=hc;refine⟨h.bR h1,ad,h2,h3,fun hl=> ?_⟩;obtain⟨l1,l2⟩:=h.live h1 hl;obtain⟨h5,f,h6,h7⟩:=h4 l1
  exact⟨(l2 _ h5).2,f,aN (fun x hx=>(l2 x hx).2) (fun x hx=>(l2 x hx).1) _ _ _ h6,
   h7.mono (S:=src E b) (fun gN e=>by obtain rfl:=Option.some.inj e;exact .inr h5) (fun x hx=>(l2 x hx).1)⟩
 |sub i ix path aj d=>
  intro m cs hc;simp only[av] at hc⊢;obtain⟨h1,h2,h3,h4,h5⟩:=hc;refine⟨h1,Nat.lt_of_lt_of_le h2 h.le,h3,h.bR h4,?_⟩;cases ho:aG i with
  |sl fz v e t xs=>
   obtain⟨bJ,v0,aP,k0,k1,k2,k3⟩:=h.obs i h2 fz v e t xs ho;simp only[Am.bR,k0] at h4;rw[k0] at h5;simp only at h5⊢;intro hv;have hv0:v0=v:=by omega
   obtain⟨m1,m2⟩:=h5 (by omega);obtain⟨rfl,k4⟩:=k3 hv0;refine⟨aN (fun b hb=>(k4 b hb).2) (fun b hb=>(k4 b hb).1) _ _ _ m1,?_⟩;obtain⟨x,g,off,n1,n2,n3,n4,n5,n6⟩:=m2;exact⟨x,g,off,n1,n2,n3,by rw[h.af i h2];exact n4,(k4 g n5).2,fun j u hu=>by rw[←n6 j u hu];exact World.cell?_of_block (w:=E.w) (k4 g n5).1⟩
  |_=>trivial
 |pre i aj e t ys=>
  intro m cs hc;simp only[av] at hc⊢;obtain⟨⟨h1,h2,h3⟩,h4,h5⟩:=hc;refine⟨⟨h1,h.bR h2,fun hl=> ?_⟩,Nat.lt_of_lt_of_le h4 h.le,?_⟩
  ·obtain⟨l1,l2⟩:=h.live h2 hl
   exact aN (fun x hx=>(l2 x hx).2) (fun x hx=>(l2 x hx).1) _ _ _ (h3 l1)
  ·cases ho:aG i with
   |sl fz v e' t' xs=>
    obtain⟨bJ,v0,aP,k0,k1,k2,k3⟩:=h.obs i h4 fz v e' t' xs ho;simp only[Am.bR,k0] at h2;rw[k0] at h5;simp only at h5⊢;intro hv;have hv0:v0=v:=by omega
    obtain⟨rfl,_⟩:=k3 hv0;rw[h.af i h4];exact h5 (by omega)
   |_=>trivial
 |fn f caps ih=>
  intro m cs hc;simp only[av] at hc⊢;obtain⟨vs,h1,h2⟩:=hc;exact⟨vs,h1,ih _ _ h2⟩
 |b_ c ih=>
  intro m cs hc;simp only[av] at hc⊢;obtain⟨vs,h1,h2⟩:=hc;exact⟨vs,h1,ih _ _ h2⟩
 |nil=>intro m cs hc;simpa only[av] using hc
 |cons a b iha ihb=>
  intro m cs hc;cases m with
  |false=>
   simp only[av] at hc⊢;obtain⟨c,d,h1,h2,h3⟩:=hc;exact⟨c,d,h1,iha _ _ h2,ihb _ _ h3⟩
  |true=>
   simp only[av] at hc⊢;obtain⟨v,vs,c,h1,h2,h3,h4⟩:=hc;exact⟨v,vs,c,h1,iha _ _ h2,h3,ihb _ _ h4⟩
 |agg c ih=>
  intro m cs hc;simp only[av] at hc⊢;exact ih _ _ hc
 |cst v=>intro m cs hc;simpa only[av] using hc
 |any=>intro m cs hc;simpa only[av] using hc
 |dead=>intro m cs hc;trivial
theorem fA{E E':Env}{ob aG:Nat→Ob}{nx nx':Nat}(h:Ev E ob nx E' aG nx'){c:Cn}{v:Value}(hv:ak E ob nx c v):ak E' aG nx' c v:=by
 cases c with
 |dead=>trivial
 |_=>
  obtain⟨cs,h1,h2⟩:=hv;exact⟨cs,eG h _ _ _ h1,h2⟩
theorem sQ{E E':Env}{ob aG:Nat→Ob}{nx nx' i:Nat}{u:Ty}{c:Cn}(h:Ev E ob nx E' aG nx')(hr:E'.af i=E.af i)(hB:E'.B i=E.B i)
 (hh:∀b,b∈E.B i→E'.w.heap[b]?=E.w.heap[b]?) (hb:iA E ob nx i u c):iA E' aG nx' i u c:=by
 obtain⟨g,cs,t,h1,h2,h3,h4,h6⟩:=hb;exact⟨g,cs,t,by rw[hr];exact h1,by rw[hh g (by rw[h6];simp)];exact h2,eG h _ _ _ h3,h4,by rw[hB];exact h6⟩
theorem lD{w:World}{Z:Nat→Prop}{e:TypeId}{t:Ty}{xs:List t.Den}{v:Value}{bs:List Nat}(h:jL w Z e t xs v bs):Rd w (fun b=>b∈bs∨Z b) (.list e t) xs [v]:=by
 obtain⟨f,h2,h3,h4⟩:=h;have hE:aU (Rd w (fun b=>b∈bs∨Z b) t) xs f:=fo (aN (fun b hb=> .inr hb) (fun _ _=>rfl) t) xs f h3;have hlen:=fU (aH t) xs f h3;rcases h2.2 with⟨rfl,h0⟩|⟨g,cap,cur,rfl,_,hg,hnc,hcm,hcs,ht⟩
 ·refine⟨none,xs.length,0,f,by simp[h0],rfl,by omega,hE,by simp,?_,by omega,fun _=>rfl⟩
  intro j u hu;rw[h0] at hlen;simp[List.eq_nil_of_length_eq_zero (show f.length=0 by simpa using hlen)] at hu
 ·refine⟨some ⟨g,0,none⟩,xs.length,cap,f,rfl,rfl,hnc,hE,?_,?_,by simp,by simp⟩
  ·intro ad e
   obtain rfl:=Option.some.inj e;exact fun _=>⟨rfl,.inl (by rw[h4];simp[Value.ownBlock])⟩
  ·intro j u hu
   have:=h2.cells (g:=g) rfl j u hu;refine⟨_,rfl,?_⟩;have hadd:(⟨g,0,none⟩:Addr).add j=⟨g,0+j,none⟩:=by unfold Addr.add;split<;>simp_all
   rwa [hadd] at this
theorem xI{w w':World}{e:TypeId}{t:Ty}{xs:List t.Den}{v:Value}{p q:List Nat}{k:Nat}{path:List Nat}{s:Ty}{c:List Value}(hh:∀b,b∈p++q→w'.heap[b]?=w.heap[b]?)
 (h:jE w e t xs v p q k path s c):jE w' e t xs v p q k path s c:=by
 obtain⟨g,cap,cur,x,off,h1,h2,h3,h4,h5,h6,h7,h8⟩:=h;refine⟨g,cap,cur,x,off,h1,by rw[hh g (List.mem_append.2 (.inl h5))];exact h2,h3,h4,h5,h6,h7,fun w2 y c' bs' k1 k2 k3=> ?_⟩;exact h8 w2 y c' bs' k1 (fun b hb hg=>by rw[k2 b hb hg,hh b hb]) k3
theorem xH{w w':World}{e:TypeId}{t:Ty}{xs:List t.Den}{v r:Value}{bs:List Nat}{ix:Int}{path:List Nat}(hh:∀b,b∈bs→w'.heap[b]?=w.heap[b]?)
 (h:pE w e t xs v bs ix path r):pE w' e t xs v bs ix path r:=by
 obtain⟨p,q,e',u,rfl,h2,h3⟩:=h;exact⟨p,q,e',u,rfl,h2,xI hh h3⟩
theorem dL{E E':Env}{ob aG:Nat→Ob}{nx nx' i:Nat}{o:Ob}(h:Ev E ob nx E' aG nx')(hr:E'.af i=E.af i)(hB:E'.B i=E.B i)
 (hh:∀b,b∈E.B i→E'.w.heap[b]?=E.w.heap[b]?) (hb:aJ E ob nx i o):aJ E' aG nx' i o:=by
 cases o with
 |sl fz aj e t xs=>
  cases fz with
  |own=>
   simp only[aJ] at hb⊢;rw[hr,hB];exact gL _ _ _ _ hh hb
  |aV=>
   simp only[aJ] at hb⊢;rw[hr,hB];exact⟨aN h.z h.hz _ _ _ hb.1,hb.2⟩
  |shl=>
   simp only[aJ] at hb⊢;rw[hr,hB];obtain⟨f,h1,h2,h3⟩:=hb;exact⟨f,wF h1 (fun k hk=>hh k (by rw[h3];simp[hk])),fo (aN h.z h.hz t) _ _ h2,h3⟩
  |hole ix path m=>
   simp only[aJ] at hb⊢;rw[hr,hB];obtain⟨hm,hb⟩:=hb;rw[h.af m hm];exact⟨Nat.lt_of_lt_of_le hm h.le,xH hh hb⟩
 |box u c=>exact sQ h hr hB hh hb
 |a_ b u c=>
  cases b with
  |true=>exact sQ h hr hB hh hb
  |false=>exact⟨by rw[hr];exact hb.1,by rw[hB];exact hb.2.1,hb.2.2.imp fun cs hc=>eG h _ _ _ hc⟩
 |mp u kk l=>
  obtain⟨g,es,ck,h1,h2,h3,h4⟩:=(show ng E i u kk l from hb);exact⟨g,es,ck,by rw[hr];exact h1,by rw[hh g (by rw[h4];simp)];exact h2,h3,by rw[hB];exact h4⟩
 |dead=>simp only[aJ] at hb⊢;rw[hB];exact hb
structure Inv(N:Nat)(E0 E:Env)(st:St)(a:Act):Prop where
 rep:aR E st a.tmps
 fr:Fr E0 E
 defers:a.defers=[]
 size:a.tmps.size=N
 nx:100≤st.nx
theorem aR.put{E:Env}{st:St}{tm:Array Value}{d:Nat}{c:Cn}{v:Value}(h:aR E st tm)(hd:d<tm.size)(hv:ak E st.ob st.nx c v):
 aR E {st with sl:=upd st.sl d c} (tm.setIfInBounds d v):=by
 refine⟨fun s=> ?_,h.ob,h.lt,h.dj,h.nd,h.bb,h.zb⟩;show ak E st.ob st.nx (upd st.sl d c s) _;by_cases e:s=d
 ·subst e
  rw[upd_same];have:(tm.setIfInBounds s v).getD s undef=v:=by simp[Array.getD,hd]
  rw[this];exact hv
 ·rw[aB _ _ _ _ e]
  have:(tm.setIfInBounds d v).getD s undef=tm.getD s undef:=by
   simp only[Array.getD_eq_getD_getElem?];rw[Array.getElem?_setIfInBounds_ne (by omega)]
  rw[this];exact h.sl s
theorem Inv.put{N:Nat}{E0 E:Env}{st:St}{a:Act}{d:Nat}{c:Cn}{v:Value}(h:Inv N E0 E st a)(hd:d<N)(hv:ak E st.ob st.nx c v):
 Inv N E0 E {st with sl:=upd st.sl d c} (a.put (some d) v):=
 ⟨h.rep.put (by rw[h.size];exact hd) hv,h.fr,h.defers,by simp[Act.put,h.size],h.nx⟩
theorem aR.dead{E:Env}{st:St}{tm:Array Value}{d:Nat}(h:aR E st tm)(v:Value):
 aR E {st with sl:=upd st.sl d .dead} (tm.setIfInBounds d v):=by
 refine⟨fun s=> ?_,h.ob,h.lt,h.dj,h.nd,h.bb,h.zb⟩;show ak E st.ob st.nx (upd st.sl d .dead s) _;by_cases e:s=d
 ·subst e;rw[upd_same];trivial
 ·rw[aB _ _ _ _ e]
  have:(tm.setIfInBounds d v).getD s undef=tm.getD s undef:=by
   simp only[Array.getD_eq_getD_getElem?];rw[Array.getElem?_setIfInBounds_ne (by omega)]
  rw[this];exact h.sl s
theorem aR.turn{E E':Env}{st st':St}{tm:Array Value}(h:aR E st tm)(hs:st'.sl=st.sl)(hev:Ev E st.ob st.nx E' st'.ob st'.nx)
 (ob:∀i,aJ E' st'.ob st'.nx i (st'.ob i)) (lt:∀i,st'.nx≤i→st'.ob i= .dead)
 (dj:∀i j b,i≠j→b∈E'.B i→b∉E'.B j) (nd:∀i,(E'.B i).Nodup)
 (bb:∀i b,b∈E'.B i→b<E'.w.heap.size∧¬E'.Z b) (zb:∀b,E'.Z b→b<E'.w.heap.size):aR E' st' tm:=
 ⟨fun s=>by rw[hs];exact fA hev (h.sl s),ob,lt,dj,nd,bb,zb⟩
end Go.Am
end
section
namespace Go.Am
structure pQ(E:Env)(w:World):Prop where
 os:w.os=E.w.os
 tape:w.tape=E.w.tape
 output:w.output=E.w.output
 size:E.w.heap.size≤w.heap.size
 block:∀b,b<E.w.heap.size→(∀i,b∉E.B i)→w.heap[b]?=E.w.heap[b]?
theorem Inv.gen{N:Nat}{E0 E E1:Env}{st st1:St}{a:Act}(h:Inv N E0 E st a)(hsl:st1.sl=st.sl)(hw:pQ E E1.w)(hZ:E1.Z=E.Z)
 (hnx:st.nx≤st1.nx) (mo:∀i,i<st.nx→E1.af i=E.af i)
 (hev:∀i,i<st.nx→∀fz v e t xs,st1.ob i= .sl fz v e t xs→∃bJ v0 aP,st.ob i= .sl bJ v0 e t aP∧aP.length=xs.length∧v0≤v∧
  (v0=v→aP=xs∧∀b,b∈E.B i→E1.w.heap[b]?=E.w.heap[b]?∧b∈E1.B i))
 (j_:∀i,i<st.nx→(∀u,(st1.ob i).lay=some u→(st.ob i).lay=some u)∧((st1.ob i).bn=true→(st.ob i).bn=true))
 (ob:Ev E st.ob st.nx E1 st1.ob st1.nx→∀i,aJ E1 st1.ob st1.nx i (st1.ob i)) (lt:∀i,st1.nx≤i→st1.ob i= .dead)
 (dj:∀i j b,i≠j→b∈E1.B i→b∉E1.B j) (nd:∀i,(E1.B i).Nodup)
 (own:∀i b,b∈E1.B i→((∃j,b∈E.B j)∨E.w.heap.size≤b)∧b<E1.w.heap.size):Inv N E0 E1 st1 a:=by
 have hz:∀b,E.Z b→E1.w.heap[b]?=E.w.heap[b]?:=fun b hb=>hw.block b (h.rep.zb b hb) fun i hi=>(h.rep.bb i b hi).2 hb
 have ev:Ev E st.ob st.nx E1 st1.ob st1.nx:=⟨hnx,mo,fun b hb=>by rw[hZ];exact hb,hz,fun i hi=>(j_ i hi).1,fun i hi=>(j_ i hi).2,fun i hi fz v e t xs ho=>by
  obtain⟨bJ,v0,aP,h0,h1,h2,h3⟩:=hev i hi fz v e t xs ho;refine⟨bJ,v0,aP,h0,h1,h2,fun e=>⟨(h3 e).1,fun b hb=> ?_⟩⟩;rcases hb with hb|hb
  ·exact⟨((h3 e).2 b hb).1,.inl ((h3 e).2 b hb).2⟩
  ·exact⟨hz b hb,.inr (by rw[hZ];exact hb)⟩⟩
 have Au:∀i b,b∈E1.B i→¬E.Z b:=fun i b hb hzb=>by
  rcases(own i b hb).1 with⟨j,hj⟩|h1
  ·exact(h.rep.bb j b hj).2 hzb
  ·have:=h.rep.zb b hzb;omega
 refine⟨h.rep.turn hsl ev (ob ev) lt dj nd (fun i b hb=>⟨(own i b hb).2,by rw[hZ];exact Au i b hb⟩) (fun b hb=> ?_),?_,h.defers,h.size,Nat.le_trans h.nx hnx⟩
 ·rw[hZ] at hb
  exact Nat.lt_of_lt_of_le (h.rep.zb b hb) hw.size
 ·exact h.fr.trans ⟨hw.os,hw.tape,hw.output,hw.size,hw.block,fun i b hb=>(own i b hb).1,fun b hb=>by rw[hZ];exact hb,fun b hb=>by rw[hZ] at hb;exact .inl hb,
   fun i hi=>mo i (Nat.lt_of_lt_of_le hi h.nx)⟩
structure aA(w w':World):Prop where
 os:w'.os=w.os
 tape:w'.tape=w.tape
 output:w'.output=w.output
 size:w.heap.size≤w'.heap.size
 block:∀b,b<w.heap.size→w'.heap[b]?=w.heap[b]?
theorem aA.refl(w:World):aA w w:=⟨rfl,rfl,rfl,Nat.le_refl _,fun _ _=>rfl⟩
theorem aA.alloc(w:World)(o:Obj):aA w (w.alloc o):=⟨rfl,rfl,rfl,by simp,fun b hb=>heap_alloc_old w o b hb⟩
theorem aA.cell{w w':World}(h:aA w w'){a:Addr}{v:Value}(hc:w.cell? a=some v):w'.cell? a=some v:=by
 by_cases hb:a.block<w.heap.size
 ·rw[World.cell?_of_block (h.block _ hb)];exact hc
 ·have:w.heap[a.block]?=none:=Array.getElem?_eq_none (Nat.le_of_not_lt hb)
  simp[World.cell?,this] at hc
theorem aA.trans{a b c:World}(h:aA a b)(k:aA b c):aA a c:=
 ⟨k.os.trans h.os,k.tape.trans h.tape,k.output.trans h.output,Nat.le_trans h.size k.size,fun i hi=>(k.block i (Nat.lt_of_lt_of_le hi h.size)).trans (h.block i hi)⟩
theorem aA.sN{E:Env}{w:World}(h:aA E.w w):pQ E w:=⟨h.os,h.tape,h.output,h.size,fun b hb _=>h.block b hb⟩
theorem Inv.grew{N:Nat}{E0 E:Env}{st:St}{a:Act}(h:Inv N E0 E st a){w:World}(hw:aA E.w w):Inv N E0 {E with w:=w} st a:=by
 refine h.gen rfl hw.sN rfl (Nat.le_refl _) (fun _ _=>rfl) ?_ (fun i hi=>⟨fun _ h=>h,fun h=>h⟩) ?_ h.rep.lt h.rep.dj h.rep.nd ?_
 ·intro i hi fz v e t xs ho
  exact⟨fz,v,xs,ho,rfl,Nat.le_refl _,fun _=>⟨rfl,fun b hb=>⟨hw.block b (h.rep.bb i b hb).1,hb⟩⟩⟩
 ·intro ev i
  exact dL ev rfl rfl (fun b hb=>hw.block b (h.rep.bb i b hb).1) (h.rep.ob i)
 ·intro i b hb
  exact⟨.inl ⟨i,hb⟩,Nat.lt_of_lt_of_le (h.rep.bb i b hb).1 hw.size⟩
theorem Inv.push{N:Nat}{E0 E:Env}{st:St}{a:Act}(h:Inv N E0 E st a){w:World}(hw:aA E.w w)(o:Ob)(v:Value)(bs:List Nat)
 (hb:∀b,b∈bs→E.w.heap.size≤b∧b<w.heap.size) (hn:bs.Nodup)
 (ho:Ev E st.ob st.nx ⟨w,E.Z,upd E.af st.nx v,upd E.B st.nx bs⟩ (st.push o).ob (st.push o).nx→aJ ⟨w,E.Z,upd E.af st.nx v,upd E.B st.nx bs⟩ (st.push o).ob (st.push o).nx st.nx o):
 Inv N E0 ⟨w,E.Z,upd E.af st.nx v,upd E.B st.nx bs⟩ (st.push o) a:=by
 refine h.gen rfl hw.sN rfl (Nat.le_succ _) (fun i hi=>aB _ _ _ _ (by omega)) ?_ (fun i hi=>by
  have:(st.push o).ob i=st.ob i:=aB _ _ _ _ (by omega);rw[this];exact⟨fun _ h=>h,fun h=>h⟩) ?_ ?_ ?_ ?_ ?_
 ·intro i hi fz v' e t xs ah
  have hne:i≠st.nx:=by omega
  simp only[St.push,aB _ _ _ _ hne] at ah;exact⟨fz,v',xs,ah,rfl,Nat.le_refl _,fun _=>⟨rfl,fun b hb=>⟨hw.block b (h.rep.bb i b hb).1,by simpa only[aB _ _ _ _ hne] using hb⟩⟩⟩
 ·intro ev i
  by_cases e:i=st.nx
  ·subst e
   have:(st.push o).ob st.nx=o:=upd_same _ _ _;rw[this];exact ho ev
  ·have:(st.push o).ob i=st.ob i:=aB _ _ _ _ e
   rw[this];exact dL ev (aB _ _ _ _ e) (aB _ _ _ _ e) (fun b hb=>hw.block b (h.rep.bb i b hb).1) (h.rep.ob i)
 ·intro i hi
  have hne:i≠st.nx:=by simp only[St.push] at hi;omega
  have:(st.push o).ob i=st.ob i:=aB _ _ _ _ hne;rw[this];exact h.rep.lt i (by simp only[St.push] at hi;omega)
 ·intro i j b hij hbi hbj
  simp only[jD] at hbi hbj;split at hbi<;>split at hbj
  ·omega
  ·exact absurd (h.rep.bb j b hbj).1 (by have:=(hb b hbi).1;omega)
  ·exact absurd (h.rep.bb i b hbi).1 (by have:=(hb b hbj).1;omega)
  ·exact h.rep.dj i j b hij hbi hbj
 ·intro i
  simp only[jD];split
  ·exact hn
  ·exact h.rep.nd i
 ·intro i b hbi
  simp only[jD] at hbi;split at hbi
  ·exact⟨.inr (hb b hbi).1,(hb b hbi).2⟩
  ·exact⟨.inl ⟨i,hbi⟩,Nat.lt_of_lt_of_le (h.rep.bb i b hbi).1 hw.size⟩
theorem Inv.touch{N:Nat}{E0 E:Env}{st:St}{a:Act}(h:Inv N E0 E st a)(i:Nat)(o:Ob){w:World}(hos:w.os=E.w.os)(zJ:w.tape=E.w.tape)(hou:w.output=E.w.output)
 (hsz:w.heap.size=E.w.heap.size) (hbl:∀b,b∉E.B i→w.heap[b]?=E.w.heap[b]?) (hi:i<st.nx)
 (zK:∀fz v e t xs,o= .sl fz v e t xs→∃bJ v0 aP,st.ob i= .sl bJ v0 e t aP∧aP.length=xs.length∧v0<v)
 (qN:(∀u,o.lay=some u→(st.ob i).lay=some u)∧(o.bn=true→(st.ob i).bn=true))
 (ho:Ev E st.ob st.nx {E with w:=w} (st.set i o).ob st.nx→aJ {E with w:=w} (st.set i o).ob st.nx i o):
 Inv N E0 {E with w:=w} (st.set i o) a:=by
 refine h.gen rfl ⟨hos,zJ,hou,Nat.le_of_eq hsz.symm,fun b _ hb=>hbl b (hb i)⟩ rfl (Nat.le_refl _) (fun _ _=>rfl) ?_ (fun j hj=>by
  by_cases hji:j=i
  ·subst hji
   have:(st.set j o).ob j=o:=upd_same _ _ _;rw[this];exact qN
  ·have:(st.set i o).ob j=st.ob j:=aB _ _ _ _ hji
   rw[this];exact⟨fun _ h=>h,fun h=>h⟩) ?_ ?_ h.rep.dj h.rep.nd ?_
 ·intro j hj fz v e t xs ah
  by_cases hji:j=i
  ·subst hji
   have h1:o= .sl fz v e t xs:=by simpa only[St.set,upd_same] using ah
   obtain⟨bJ,v0,aP,k0,k1,k2⟩:=zK fz v e t xs h1;exact⟨bJ,v0,aP,k0,k1,Nat.le_of_lt k2,fun e=>by omega⟩
  ·simp only[St.set,aB _ _ _ _ hji] at ah
   exact⟨fz,v,xs,ah,rfl,Nat.le_refl _,fun _=>⟨rfl,fun b hb=>⟨hbl b (fun hb'=>h.rep.dj j i b hji hb hb'),hb⟩⟩⟩
 ·intro ev j
  by_cases hji:j=i
  ·subst hji
   have:(st.set j o).ob j=o:=upd_same _ _ _;rw[this];exact ho ev
  ·have:(st.set i o).ob j=st.ob j:=aB _ _ _ _ hji
   rw[this];exact dL ev rfl rfl (fun b hb=>hbl b (fun hb'=>h.rep.dj j i b hji hb hb')) (h.rep.ob j)
 ·intro j hj
  have hne:j≠i:=by simp only[St.set] at hj;omega
  exact(aB _ _ _ _ hne).trans (h.rep.lt j hj)
 ·intro j b hb
  exact⟨.inl ⟨j,hb⟩,by have:=(h.rep.bb j b hb).1;show b<w.heap.size;omega⟩
theorem Inv.swap{N:Nat}{E0 E:Env}{st:St}{a:Act}(h:Inv N E0 E st a)(gone:Nat→Bool){w:World}(hw:pQ E w)
 (hbl:∀j,gone j=false→∀b,b∈E.B j→w.heap[b]?=E.w.heap[b]?)
 (o:Ob) (v:Value) (bs:List Nat)
 (hb:∀b,b∈bs→((∃j,gone j=true∧b∈E.B j)∨E.w.heap.size≤b)∧b<w.heap.size) (hn:bs.Nodup)
 (aG:Nat→Ob) (gv:∀j,aG j=if gone j then .dead else st.ob j)
 (ho:Ev E st.ob st.nx ⟨w,E.Z,upd E.af st.nx v,upd (fun j=>if gone j then[] else E.B j) st.nx bs⟩ (upd aG st.nx o) (st.nx+1)→
  aJ ⟨w,E.Z,upd E.af st.nx v,upd (fun j=>if gone j then[] else E.B j) st.nx bs⟩ (upd aG st.nx o) (st.nx+1) st.nx o):
 Inv N E0 ⟨w,E.Z,upd E.af st.nx v,upd (fun j=>if gone j then[] else E.B j) st.nx bs⟩ ⟨st.sl,upd aG st.nx o,st.nx+1⟩ a:=by
 refine h.gen rfl hw rfl (Nat.le_succ _) (fun i hi=>aB _ _ _ _ (by omega)) ?_ (fun i hi=>by
  show(∀u,(upd aG st.nx o i).lay=some u→_)∧((upd aG st.nx o i).bn=true→_);rw[aB _ _ _ _ (by omega),gv];cases hg:gone i with
  |true=>exact⟨fun _ h=>by simp[Ob.lay] at h,fun h=>by simp[Ob.bn] at h⟩
  |false=>exact⟨fun _ h=>h,fun h=>h⟩) ?_ ?_ ?_ ?_ ?_
 ·intro i hi fz v' e t xs ah
  have hne:i≠st.nx:=by omega
  simp only[aB _ _ _ _ hne,gv] at ah;cases hg:gone i with
  |true=>simp[hg] at ah
  |false=>
   simp only[hg] at ah;exact⟨fz,v',xs,by simpa using ah,rfl,Nat.le_refl _,fun _=>⟨rfl,fun b hb=>⟨hbl i hg b hb,by simp only[aB _ _ _ _ hne,hg];exact hb⟩⟩⟩
 ·intro ev i
  by_cases e:i=st.nx
  ·subst e
   show aJ _ _ _ _ (upd aG st.nx o st.nx);rw[upd_same];exact ho ev
  ·show aJ _ _ _ _ (upd aG st.nx o i)
   rw[aB _ _ _ _ e,gv];cases hg:gone i with
   |true=>simp only[aJ,if_true];simp only[aB _ _ _ _ e,hg,if_true]
   |false=>exact dL ev (aB _ _ _ _ e) (by simp only[aB _ _ _ _ e,hg];rfl) (hbl i hg) (h.rep.ob i)
 ·intro i hi
  have hi':st.nx+1≤i:=hi;have hne:i≠st.nx:=by omega
  show upd aG st.nx o i=_;rw[aB _ _ _ _ hne,gv,h.rep.lt i (by omega)];simp
 ·intro i j b hij hbi hbj
  simp only[jD] at hbi hbj;have aux:∀p,p≠st.nx→b∈bs→b∈(if gone p then[] else E.B p)→False:=by
   intro p hp h1 h2;cases hg:gone p with
   |true=>simp[hg] at h2
   |false=>
    simp only[hg] at h2;rcases(hb b h1).1 with⟨q,hq,hbq⟩|h3
    ·exact h.rep.dj q p b (fun e=>by subst e;simp[hg] at hq) hbq h2
    ·have:=(h.rep.bb p b h2).1;omega
  split at hbi<;>split at hbj
  ·omega
  ·exact aux j ‹_› hbi hbj
  ·exact aux i ‹_› hbj hbi
  ·cases hgi:gone i with
   |true=>simp[hgi] at hbi
   |false=>
    cases hgj:gone j with
    |true=>simp[hgj] at hbj
    |false=>
     simp only[hgi,hgj] at hbi hbj;exact h.rep.dj i j b hij hbi hbj
 ·intro i
  simp only[jD];split
  ·exact hn
  ·split
   ·exact List.nodup_nil
   ·exact h.rep.nd i
 ·intro i b hbi
  simp only[jD] at hbi;split at hbi
  ·obtain⟨h1,h2⟩:=hb b hbi
   refine⟨?_,h2⟩;rcases h1 with⟨j,_,hj⟩|h1
   ·exact .inl ⟨j,hj⟩
   ·exact .inr h1
  ·cases hg:gone i with
   |true=>simp[hg] at hbi
   |false=>
    simp only[hg] at hbi;exact⟨.inl ⟨i,hbi⟩,Nat.lt_of_lt_of_le (h.rep.bb i b hbi).1 hw.size⟩
end Go.Am
end
section
namespace Go.Am
def fB(P:Program)(t:TypeId)(a:Ty):Prop:=
 match P.underlying t with
 |some (.struct _)=>a.isAgg=true
 |some (.array _ _)=>False
 |some _=>a.isAgg=false
 |none=>False
def kZ(P:Program):List Field→Nat→Ty→Prop
 |[],_,.nil=>True
 |f::fs,off,.cons a b=>f.offset=off∧(∃i,P.info? f.type=some i∧i.size=a.size)∧fB P f.type a∧0<a.size∧f.name≠ "_"∧kZ P fs (off+a.size) b
 |_,_,_=>False
def ZR:Ty→List Value→Prop
 | .int k,cs=>cs=[.int k 0]
 | .bool,cs=>cs=[.bool false]
 | .str,cs=>cs=[.string ⟨#[]⟩]
 | .list _ _,cs=>cs=[.slice none 0 0]
 | .nil,cs=>cs=[]
 | .cons a b,cs=>∃c d,cs=c++d∧ZR a c∧ZR b d
 | .st a,cs=>ZR a cs
 | .ptr,cs=>∃v,cs=[v]∧v.oneCell'=true
def gJ(P:Program)(t:TypeId)(u:Ty):Prop:=
 ∃i z,P.info? t=some i∧i.size=u.size∧i.zero=some z∧ZR u z.cells.toList∧0<u.size∧i.bytes≤32768∧mkV u.isAgg z.cells.toList z∧(u= .int .u8→i.bytes=1)
structure aT(P:Program)(t:TypeId)(u:Ty):Prop where
 info:gJ P t u
 desc:match u with
  | .int k=>P.underlying t=some (.int k)
  | .bool=>P.underlying t=some .bool
  | .str=>P.underlying t=some .string
  | .list e v=>P.underlying t=some (.slice e)∧gJ P e v∧fB P e v
  | .st fs=>∃fields,P.underlying t=some (.struct fields)∧kZ P fields.toList 0 fs∧P.stoodInHeld t=false
  | .ptr=>∃d,P.underlying t=some d∧(∀fs,d≠ .struct fs)∧∀n e,d≠ .array n e
  |_=>False
theorem aT.agg{P:Program}{t:TypeId}{u:Ty}(h:aT P t u):fB P t u:=by
 have hd:=h.desc;unfold fB;cases u<;>simp only at hd<;>first|(rw[hd];rfl)|(rw[hd.1];rfl)|exact hd.elim|skip
 ·obtain⟨f,hf,_⟩:=hd;rw[hf];rfl
 ·obtain⟨d,hf,h1,h2⟩:=hd
  rw[hf];cases d<;>first|rfl|(exact absurd rfl (h1 _))|(exact absurd rfl (h2 _ _))
structure aL(P:Program)(C:Ctx)(g:Bool)(o:Oper)(a:Act)(v:Value)(w w':World):Prop where
 grew:g=true→aA w w'
 run:still C o=true→w'=w∧∀u,(dB o=false∨aA w u)→(execOp a.eval o).run P u= .ok (.value v) u
 al:fI C o=true→aA w w'
theorem aL.loud{P:Program}{C:Ctx}{g:Bool}{o:Oper}{a:Act}{v:Value}{w w':World}(h:still C o=false)(k:g=true→aA w w')(ha:fI C o=true→aA w w':=by intro hh;simp_all[fI]):aL P C g o a v w w':=⟨k,fun e=>(by rw[h] at e;cases e),ha⟩
section
variable{P:Program}{o:Oper}{a:Act}{w w':World}{K:Act→World→Prop}{Q:Exit→Act→World→Prop}
theorem eF{v:Value}(h:(execOp a.eval o).run P w= .ok (.value v) w')(hK:K (a.put o.dst v) w'):o.wp P a w K Q:=by
 unfold Oper.wp;rw[h];exact hK
theorem mW(h:(execOp a.eval o).run P w= .ok .skip w')(hK:K (a.put o.dst undef) w'):o.wp P a w K Q:=by
 unfold Oper.wp;rw[h];exact hK
end
theorem eP{R:Type}{C:Ctx}{o:Oper}{c:Cn}{st:St}{k:St→Option R}{r:R}{E0 E:Env}{a:Act}{v:Value}{G:Act→Prop}
 (hk:az C o c st k=some r) (h:Inv C.N E0 E st a) (hv:ak E st.ob st.nx c v)
 (hK:∀st',k st'=some r→Inv C.N E0 E st' (a.put o.dst v)→G (a.put o.dst v)):G (a.put o.dst v):=by
 unfold az at hk;cases hd:o.dst with
 |none=>
  rw[hd] at hk hK;exact hK st hk h
 |some d=>
  rw[hd] at hk hK;cases hb:Nat.blt d C.N with
  |true=>
   simp only[hb] at hk;exact hK _ hk (h.put (Nat.le_of_ble_eq_true hb) hv)
  |false=>simp[hb] at hk
theorem nG{R:Type}{b:Bool}{x:Option R}{r:R}(h:cond b x none=some r):b=true∧x=some r:=by
 cases b with
 |true=>exact⟨rfl,h⟩
 |false=>cases h
theorem iT{E:Env}{ob:Nat→Ob}{nx:Nat}{c:Cn}{v:Value}(cs:List Value)(h:av E ob nx c false cs)(hm:mkV c.isAgg cs v):ak E ob nx c v:=by
 cases c with
 |dead=>trivial
 |_=>exact⟨cs,h,hm⟩
theorem lH{E:Env}{ob:Nat→Ob}{nx:Nat}{d:DV}{cs:List Value}{v:Value}(h:Rd E.w E.Z d.ty d.v cs)(hm:mkV d.ty.isAgg cs v):ak E ob nx (.ro none d) v:=
 ⟨cs,⟨aH _ _ _ h,trivial,fun _=>h⟩,hm⟩
theorem cO(E:Env)(ob:Nat→Ob)(nx:Nat)(k:IntKind)(n:Int):ak E ob nx (.ro none ⟨.int k,n⟩) (.int k n):=lH (cs:=[.int k n]) rfl rfl
theorem gM(E:Env)(ob:Nat→Ob)(nx:Nat)(b:Bool):ak E ob nx (.ro none ⟨.bool,b⟩) (.bool b):=lH (cs:=[.bool b]) rfl rfl
theorem lI(E:Env)(ob:Nat→Ob)(nx:Nat)(s:ByteArray):ak E ob nx (.ro none ⟨.str,s⟩) (.string s):=lH (cs:=[.string s]) rfl rfl
theorem yE{tt:TypeId→Option Ty}{t:TypeId}{v:Value}{c:Cn}(h:nH tt t v=some c)(E:Env)(ob:Nat→Ob)(nx:Nat):ak E ob nx c v:=by
 unfold nH at h;split at h
 ·cases h;exact cO ..
 ·cases h;exact gM ..
 ·cases h;exact lI ..
 ·split at h
  ·cases h;exact⟨_,rfl,rfl⟩
  ·cases h
 ·cases h;exact⟨_,⟨rfl,rfl⟩,rfl⟩
 ·cases h
theorem aW{C:Ctx}{st:St}{t:TypeId}{x:Operand}{c:Cn}{E:Env}{a:Act}(h:ev C st t x=some c)(hr:aR E st a.tmps):ak E st.ob st.nx c (a.eval x):=by
 unfold ev at h;split at h
 ·rename_i s
  have:=hr.sl s;split at h
  ·cases h
  ·rename_i i aj e t xs hs
   cases h;rw[hs] at this;obtain⟨cs,h1,h2⟩:=this;exact⟨cs,h1.1,h2⟩
  ·rename_i hs _
   cases h;exact this
 ·exact yE h _ _ _
 ·cases h
  exact⟨[.func (.func _) #[] #[]],⟨[],rfl,rfl⟩,rfl⟩
 ·cases h
theorem yS{C:Ctx}{st:St}{t:TypeId}{x:Operand}{c:Cn}{E:Env}{a:Act}(h:qx C st t x=some c)(hr:aR E st a.tmps):ak E st.ob st.nx c (a.eval x):=by
 unfold qx at h;split at h
 ·rename_i s
  split at h
  ·rename_i i aj e t xs hs
   cases h;have:=hr.sl s;rw[hs] at this;exact this
  ·exact aW h hr
 ·exact aW h hr
theorem pM{E:Env}{ob:Nat→Ob}{nx:Nat}{d:DV}{v:Value}(h:ak E ob nx (.ro none d) v):∃cs,Rd E.w E.Z d.ty d.v cs∧mkV d.ty.isAgg cs v:=by
 obtain⟨cs,h1,h2⟩:=h;exact⟨cs,h1.2.2 trivial,h2⟩
theorem eB{E:Env}{ob:Nat→Ob}{nx:Nat}{k:IntKind}{n:Int}{v:Value}(h:ak E ob nx (.ro none ⟨.int k,n⟩) v):v= .int k n:=by
 obtain⟨cs,h1,h2⟩:=pM h;have h1:cs=[.int k n]:=h1;have h2:cs=[v]:=h2;rw[h1] at h2;simpa using h2.symm
theorem iE{E:Env}{ob:Nat→Ob}{nx:Nat}{b:Bool}{v:Value}(h:ak E ob nx (.ro none ⟨.bool,b⟩) v):v= .bool b:=by
 obtain⟨cs,h1,h2⟩:=pM h;have h1:cs=[.bool b]:=h1;have h2:cs=[v]:=h2;rw[h1] at h2;simpa using h2.symm
theorem iF{E:Env}{ob:Nat→Ob}{nx:Nat}{s:ByteArray}{v:Value}(h:ak E ob nx (.ro none ⟨.str,s⟩) v):v= .string s:=by
 obtain⟨cs,h1,h2⟩:=pM h;have h1:cs=[.string s]:=h1;have h2:cs=[v]:=h2;rw[h1] at h2;simpa using h2.symm
theorem lT{C:Ctx}{st:St}{x:Operand}{b:Bool}{E:Env}{a:Act}(h:gp C st x=some b)(hr:aR E st a.tmps):a.eval x= .bool b:=by
 unfold gp at h;split at h
 ·rename_i e
  cases h;exact iE (aW e hr)
 ·cases h
section
variable{P:Program}{w:World}
theorem Bb{t:TypeId}{op:BinOp}{k:IntKind}{x y r:Int}(h:pX op k x y=some r):(binOp op t (.int k x) (.int k y)).run P w= .ok (.int k r) w:=by
 cases op<;>simp only[pX] at h<;>first|(cases h;done)|skip
 all_goals
  obtain rfl:=Option.some.inj h;simp[binOp,Op.intArith,Op.intBits,bits]
theorem Bd{t:TypeId}{op:BinOp}{k:IntKind}{x y:Int}{r:Bool}(h:qc op x y=some r):(binOp op t (.int k x) (.int k y)).run P w= .ok (.bool r) w:=by
 cases op<;>simp only[qc] at h<;>first|(cases h;done)|skip
 all_goals
  obtain rfl:=Option.some.inj h;simp[binOp,Op.intCmp]
theorem Be{t:TypeId}{op:BinOp}{x y:ByteArray}{r:Bool}(h:qd op x y=some r):(binOp op t (.string x) (.string y)).run P w= .ok (.bool r) w:=by
 cases op<;>simp only[qd] at h<;>first|(cases h;done)|skip
 all_goals
  obtain rfl:=Option.some.inj h;simp[binOp,Op.stringOp,iI,mH]
theorem wY{t:TypeId}{k k':IntKind}{x y:Int}(h:¬y<0):(binOp .shl t (.int k x) (.int k' y)).run P w= .ok (.int k (sF k x y)) w∧
 (binOp .shr t (.int k x) (.int k' y)).run P w= .ok (.int k (sG k x y)) w:=by
 simp[binOp,Op.shift,h,sF,sG]
theorem wW{t:TypeId}{k:IntKind}{x y:Int}(h:¬y=0):(binOp .quo t (.int k x) (.int k y)).run P w= .ok (.int k (k.wrap (Int.tdiv x y))) w∧
 (binOp .rem t (.int k x) (.int k y)).run P w= .ok (.int k (Int.tmod x y)) w:=by
 simp[binOp,Op.intDiv,h]
theorem Ba{t:TypeId}{x y:ByteArray}(h:lim (x.size+y.size)=true):(binOp .add t (.string x) (.string y)).run P w= .ok (.string (x++y)) w:=by
 have:x.size+y.size≤4294967296:=Nat.le_of_ble_eq_true h;simp[binOp,Op.stringOp];have:IntKind.i64.max=9223372036854775807:=by decide
 omega
theorem run_equalIn_bool(d:Nat){t:TypeId}(hu:P.underlying t=some .bool)(x y:Bool):(Op.equalIn (d+1) t (.bool x) (.bool y)).run P w= .ok (x==y) w:=by
 unfold Op.equalIn;simp[run_underlying hu]
theorem run_eql_bool{t:TypeId}(hu:P.underlying t=some .bool)(x y:Bool):(binOp .eql t (.bool x) (.bool y)).run P w= .ok (.bool (x==y)) w∧
 (binOp .neq t (.bool x) (.bool y)).run P w= .ok (.bool (!(x==y))) w:=by
 have h:(Op.equal t (.bool x) (.bool y)).run P w= .ok (x==y) w:=run_equalIn_bool 9999 hu x y;constructor
 ·show((do pure (.bool (←Op.equal t (.bool x) (.bool y))):Sem Value)).run P w=_
  rw[Sem.run_bind,h];rfl
 ·show((do pure (.bool (!(←Op.equal t (.bool x) (.bool y)))):Sem Value)).run P w=_
  rw[Sem.run_bind,h];rfl
theorem r_{op:BinOp}{t:TypeId}{x y:Operand}{a b:Value}(h:(∃k n,a= .int k n)∨(∃s,a= .string s)∨(∃s,a= .bool s)):(eqGuard op t x y a b).run P w= .ok () w:=by
 unfold eqGuard;rcases h with⟨k,n,rfl⟩|⟨s,rfl⟩|⟨s,rfl⟩<;>cases op<;>simp
end
section
variable{P:Program}{R:Type}{C:Ctx}{o:Oper}{st:St}{k:St→Option R}{r:R}{E0 E:Env}{a:Act}{K:Act→World→Prop}{Q:Exit→Act→World→Prop}{g:Bool}
theorem aQ{c:Cn}{v:Value}(hk:az C o c st k=some r)(h:Inv C.N E0 E st a)(hrun:∀u,(dB o=false∨aA E.w u)→(execOp a.eval o).run P u= .ok (.value v) u)
 (hv:ak E st.ob st.nx c v) (hK:∀st' E' v,k st'=some r→Inv C.N E0 E' st' (a.put o.dst v)→aL P C g o a v E.w E'.w→K (a.put o.dst v) E'.w):o.wp P a E.w K Q:=
 eF (hrun E.w (.inr (aA.refl _))) (eP (G:=fun a'=>K a' E.w) hk h hv fun st' hk' hi=>hK st' E _ hk' hi ⟨fun _=>aA.refl _,fun _=>⟨rfl,hrun⟩,fun _=>aA.refl _⟩)
theorem yf(ay:∀t u,C.tt t=some u→aT P t u){op:BinOp}{t yt:TypeId}{X Y:Operand}{x y:Cn}(ho:o.op= .binOp op t X Y yt)(hk:jQ C o op t x y st k=some r)(h:Inv C.N E0 E st a)
 (hx:ak E st.ob st.nx x (a.eval X)) (hy:ak E st.ob st.nx y (a.eval Y))
 (hK:∀st' E' v,k st'=some r→Inv C.N E0 E' st' (a.put o.dst v)→aL P C g o a v E.w E'.w→K (a.put o.dst v) E'.w):o.wp P a E.w K Q:=by
 have qy:∀u v w',(eqGuard op t X Y (a.eval X) (a.eval Y)).run P u= .ok () u→(binOp op t (a.eval X) (a.eval Y)).run P u= .ok v w'→(execOp a.eval o).run P u= .ok (.value v) w':=by
  intro u v w' h1 h2;unfold execOp;simp[ho,h1,h2]
 unfold jQ at hk;split at hk
 ·have e1:=eB hx
  have e2:=eB hy;have hg:=fun u=>r_ (P:=P) (w:=u) (op:=op) (t:=t) (x:=X) (y:=Y) (a:=a.eval X) (b:=a.eval Y) (.inl ⟨_,_,e1⟩);have ex:=fun u v h2=>qy u v u (hg u) h2;rw[e1,e2] at ex;split at hk
  ·obtain⟨hb,hk⟩:=nG hk
   exact aQ hk h (fun u _=>ex u _ (wY (Int.not_lt.mpr (of_decide_eq_true hb))).1) (cO ..) hK
  ·obtain⟨hb,hk⟩:=nG hk
   exact aQ hk h (fun u _=>ex u _ (wY (Int.not_lt.mpr (of_decide_eq_true hb))).2) (cO ..) hK
  ·split at hk
   ·rename_i hkk
    obtain rfl:=of_decide_eq_true hkk;obtain⟨hb,hk⟩:=nG hk;exact aQ hk h (fun u _=>ex u _ (wW (of_decide_eq_true hb)).1) (cO ..) hK
   ·cases hk
  ·split at hk
   ·rename_i hkk
    obtain rfl:=of_decide_eq_true hkk;obtain⟨hb,hk⟩:=nG hk;exact aQ hk h (fun u _=>ex u _ (wW (of_decide_eq_true hb)).2) (cO ..) hK
   ·cases hk
  ·split at hk
   ·rename_i hkk
    obtain rfl:=of_decide_eq_true hkk;split at hk
    ·rename_i e
     exact aQ hk h (fun u _=>ex u _ (Bb e)) (cO ..) hK
    ·split at hk
     ·rename_i e
      exact aQ hk h (fun u _=>ex u _ (Bd e)) (gM ..) hK
     ·cases hk
   ·cases hk
 ·have e1:=iF hx
  have e2:=iF hy;have hg:=fun u=>r_ (P:=P) (w:=u) (op:=op) (t:=t) (x:=X) (y:=Y) (a:=a.eval X) (b:=a.eval Y) (.inr (.inl ⟨_,e1⟩));have ex:=fun u v h2=>qy u v u (hg u) h2;rw[e1,e2] at ex;split at hk
  ·rename_i aa bb _
   cases hl:lim ((aa:ByteArray).size+(bb:ByteArray).size) with
   |false=>simp[hl] at hk
   |true=>
    simp only[hl,cond_true] at hk;exact aQ hk h (fun u _=>ex u _ (Ba hl)) (lI ..) hK
  ·split at hk
   ·rename_i e
    exact aQ hk h (fun u _=>ex u _ (Be e)) (gM ..) hK
   ·cases hk
 ·have e1:=iE hx
  have e2:=iE hy;have hg:=fun u=>r_ (P:=P) (w:=u) (op:=op) (t:=t) (x:=X) (y:=Y) (a:=a.eval X) (b:=a.eval Y) (.inr (.inr ⟨_,e1⟩));have ex:=fun u v h2=>qy u v u (hg u) h2;rw[e1,e2] at ex;split at hk
  ·rename_i _ _ hT
   have hu:=(ay _ _ hT).desc;simp only at hu;split at hk
   ·exact aQ hk h (fun u _=>ex u _ (run_eql_bool hu _ _).1) (gM ..) hK
   ·exact aQ hk h (fun u _=>ex u _ (run_eql_bool hu _ _).2) (gM ..) hK
   ·cases hk
  ·cases hk
 ·cases hk
end
end Go.Am
end
section
namespace Go.Am
theorem cB{tt:TypeId→Option Ty}{t:TypeId}{u:Ty}(h:bA tt t u=true):tt t=some u:=by
 unfold bA at h;split at h
 ·rename_i v hv
  rw[hv,of_decide_eq_true h]
 ·cases h
theorem jP{E:Env}{ob:Nat→Ob}{nx:Nat}{c:Cn}{v:LV}{u:Value}(h:f_ ob c=some v)(ah:∀i,aJ E ob nx i (ob i))(hv:ak E ob nx c u):
 Rd E.w (src E v.b) (.list v.e v.t) v.xs [u]∧bR ob nx v.b∧live ob v.b:=by
 unfold f_ at h;split at h
 ·rename_i b e t xs
  obtain⟨cs,⟨h1,h2,h3⟩,h4⟩:=hv;have h4:cs=[u]:=h4;subst h4;split at h
  ·cases h
   exact⟨h3 trivial,trivial,trivial⟩
  ·rename_i i aj
   split at h
   ·rename_i ho
    split at h
    ·rename_i hb
     cases h;have hl:live ob (some (i,aj)):=by
      simp only[live,fresh,ho];exact Nat.eq_of_beq_eq_true hb
     exact⟨h3 hl,h2,hl⟩
    ·cases h
   ·cases h
 ·cases h
  obtain⟨cs,h1,h4⟩:=hv;have h4:cs=[u]:=h4;have h1:cs=[.slice none 0 0]:=h1;subst h4;refine⟨⟨none,0,0,[],h1,rfl,Nat.le_refl _,rfl,by simp,by intro j u hu;simp at hu,by simp,fun _=>rfl⟩,trivial,trivial⟩
 ·rename_i i
  obtain⟨cs,h1,h4⟩:=hv;have h4:cs=[u]:=h4;have h1:i<nx∧(E.af i).oneCell'=true∧cs=[E.af i]:=h1;subst h4;have hu:u=E.af i:=by simpa using h1.2.2
  subst hu;have hi:=ah i;split at h
  ·rename_i fz aj e t xs ho
   rw[ho] at hi;split at h
   ·cases h
    exact⟨hi.1,trivial,trivial⟩
   ·cases h
    refine⟨aN (fun b hb=> .inl hb) (fun _ _=>rfl) _ _ _ (dV _ _ _ _ hi),⟨h1.1,by rw[ho];exact Nat.le_refl _⟩,by simp only[live,fresh,ho]⟩
   ·cases h
    exact⟨lD hi,⟨h1.1,by rw[ho];exact Nat.le_refl _⟩,by simp only[live,fresh,ho]⟩
   ·cases h
  ·cases h
 ·rename_i i ix path aj e t xs
  obtain⟨cs,⟨h1,h2,h3,h5,h6⟩,h4⟩:=hv;have h4:cs=[u]:=h4;subst h4;split at h
  ·rename_i ho
   split at h
   ·rename_i hb
    cases h;have hb:=Nat.eq_of_beq_eq_true hb;rw[ho] at h6;exact⟨(h6 hb).1,h5,by simp only[live,fresh,ho];exact hb⟩
   ·cases h
  ·cases h
 ·cases h
theorem yj{s:ByteArray}{k y:Int}(h:qa s k=some y):0≤k∧∃b,s[k.toNat]?=some b∧y=(b.toNat:Int):=by
 unfold qa at h;split at h
 ·rename_i n
  split at h
  ·rename_i b hb
   obtain rfl:=Option.some.inj h;have hlt:n<s.size:=by
    rcases Nat.lt_or_ge n s.size with h1|h1
    ·exact h1
    ·rw[List.getElem?_eq_none (by simpa using h1)] at hb;cases hb
   refine⟨by simp,b,?_,rfl⟩;show s[n]?=some b;rw[getElem?_pos s n hlt];rw[List.getElem?_eq_getElem (by simpa using hlt)] at hb;exact hb
  ·cases h
 ·cases h
section
variable{P:Program}{R:Type}{C:Ctx}{o:Oper}{st:St}{k:St→Option R}{r:R}{E0 E:Env}{a:Act}{K:Act→World→Prop}{Q:Exit→Act→World→Prop}{g:Bool}
theorem vV{X:Operand}{c:Cn}(ho:o.op= .move X∨o.op= .assign X)(hk:az C o c st k=some r)(h:Inv C.N E0 E st a)
 (hx:ak E st.ob st.nx c (a.eval X)) (hK:∀st' E' v,k st'=some r→Inv C.N E0 E' st' (a.put o.dst v)→aL P C g o a v E.w E'.w→K (a.put o.dst v) E'.w):o.wp P a E.w K Q:=
 aQ hk h (by rcases ho with ho|ho<;>(unfold execOp;simp[ho])) hx hK
theorem BZ{op:UnOp}{t:TypeId}{X:Operand}{x:Cn}(ho:o.op= .unOp op t X)(hk:kV C o op x st k=some r)(h:Inv C.N E0 E st a)
 (hx:ak E st.ob st.nx x (a.eval X)) (hK:∀st' E' v,k st'=some r→Inv C.N E0 E' st' (a.put o.dst v)→aL P C g o a v E.w E'.w→K (a.put o.dst v) E'.w):o.wp P a E.w K Q:=by
 unfold kV at hk;split at hk
 ·exact aQ hk h (fun u _=>by unfold execOp;simp[ho,iE hx,Op.unary]) (gM ..) hK
 ·exact aQ hk h (fun u _=>by unfold execOp;simp[ho,eB hx,Op.unary,Op.intArith]) (cO ..) hK
 ·exact aQ hk h (fun u _=>by unfold execOp;simp[ho,eB hx,Op.unary,Op.intBits,bits]) (cO ..) hK
 ·cases hk
theorem Ac(ay:∀t u,C.tt t=some u→aT P t u){t:TypeId}{X:Operand}{x:Cn}(ho:o.op= .call {callee:= .builtin .len,args:= #[X],argTypes:= #[t]})
 (hk:kE C o t x st k=some r) (h:Inv C.N E0 E st a) (hx:ak E st.ob st.nx x (a.eval X))
 (hK:∀st' E' v,k st'=some r→Inv C.N E0 E' st' (a.put o.dst v)→aL P C g o a v E.w E'.w→K (a.put o.dst v) E'.w):o.wp P a E.w K Q:=by
 unfold kE at hk;split at hk
 ·split at hk
  ·rename_i hT
   have hu:=(ay _ _ (cB hT)).desc;simp only at hu;exact aQ hk h (fun u _=>by unfold execOp;simp[ho,resolve,invoke,builtin,Builtin.len_,iF hx,run_underlying hu,goInt]) (cO ..) hK
  ·cases hk
 ·split at hk
  ·rename_i v hv
   split at hk
   ·rename_i hT
    have hu:=(ay _ _ (cB hT)).desc;simp only at hu;obtain⟨⟨A,n,c,f,h1,h2,_⟩,_,_⟩:=jP hv h.rep.ob hx;have h1:a.eval X= .slice A n c:=by simpa using h1
    exact aQ hk h (fun u _=>by unfold execOp;simp[ho,resolve,invoke,builtin,Builtin.len_,h1,run_underlying hu.1,goInt,h2]) (cO ..) hK
   ·cases hk
  ·cases hk
theorem yz(ay:∀t u,C.tt t=some u→aT P t u){t:TypeId}{X:Operand}{x:Cn}(ho:o.op= .call {callee:= .builtin .cap,args:= #[X],argTypes:= #[t]})
 (hk:jS C o t x st k=some r) (h:Inv C.N E0 E st a) (hx:ak E st.ob st.nx x (a.eval X))
 (hK:∀st' E' v,k st'=some r→Inv C.N E0 E' st' (a.put o.dst v)→aL P C g o a v E.w E'.w→K (a.put o.dst v) E'.w):o.wp P a E.w K Q:=by
 unfold jS at hk;split at hk
 ·split at hk
  ·rename_i hT
   have hu:=(ay _ _ (cB hT)).desc;simp only at hu;obtain⟨cs,h1,h2⟩:=hx;have h1:cs=[.slice none 0 0]:=h1;have h2:cs=[a.eval X]:=h2;have hX:a.eval X= .slice none 0 0:=by rw[h1] at h2;simpa using h2.symm
   exact aQ hk h (fun u _=>by unfold execOp;simp[ho,resolve,invoke,builtin,Builtin.cap_,hX,run_underlying hu.1,goInt]) (cO ..) hK
  ·cases hk
 ·cases hk
theorem zU(ay:∀t u,C.tt t=some u→aT P t u){t:TypeId}{X I:Operand}{x i:Cn}(ho:o.op= .index t X I)
 (hk:ku C o t x i st k=some r) (h:Inv C.N E0 E st a) (hx:ak E st.ob st.nx x (a.eval X)) (hi:ak E st.ob st.nx i (a.eval I))
 (hK:∀st' E' v,k st'=some r→Inv C.N E0 E' st' (a.put o.dst v)→aL P C g o a v E.w E'.w→K (a.put o.dst v) E'.w):o.wp P a E.w K Q:=by
 unfold ku at hk;split at hk
 ·rename_i ix
  split at hk
  ·rename_i s
   split at hk
   ·rename_i hT
    have hu:=(ay _ _ (cB hT)).desc;simp only at hu;obtain⟨y,hy,hk⟩:=Option.bind_eq_some_iff.1 hk;have e1:=iF hx;have e2:=eB hi;obtain⟨h0,b,hb,rfl⟩:=yj hy;exact aQ hk h (fun u _=>by unfold execOp;simp[ho,Instr.index,e1,e2,asIntOf,run_underlying hu,h0,hb]) (cO ..) hK
   ·cases hk
  ·cases hk
 ·cases hk
theorem vU{ka kb:IntKind}{x y:Int}{X Y:Operand}{ts:Array TypeId}(mn:Bool)(ho:o.op= .call {callee:= .builtin (if mn then .min else .max),args:= #[X,Y],argTypes:=ts})
 (hk:az C o (.ro none ⟨.int ka,(if mn then(if y<x then y else x) else(if y>x then y else x):Int)⟩) st k=some r) (h:Inv C.N E0 E st a)
 (hx:ak E st.ob st.nx (.ro none ⟨.int ka,x⟩) (a.eval X)) (hy:ak E st.ob st.nx (.ro none ⟨.int kb,y⟩) (a.eval Y))
 (hK:∀st' E' v,k st'=some r→Inv C.N E0 E' st' (a.put o.dst v)→aL P C g o a v E.w E'.w→K (a.put o.dst v) E'.w):o.wp P a E.w K Q:=by
 have e1:=eB hx;have e2:=eB hy;cases mn with
 |true=>exact aQ hk h (fun u _=>by unfold execOp;simp[ho,resolve,invoke,builtin,Builtin.min_,Builtin.min2,e1,e2]) (cO ..) hK
 |false=>exact aQ hk h (fun u _=>by unfold execOp;simp[ho,resolve,invoke,builtin,Builtin.max_,Builtin.max2,e1,e2]) (cO ..) hK
end
end Go.Am
end
section
namespace Go.Am
theorem jy{α:Type}{xs:List α}{k:Int}{y:α}(h:h_ xs k=some y):0≤k∧k.toNat<xs.length∧xs[k.toNat]?=some y∧k<(xs.length:Int):=by
 unfold h_ at h;split at h
 ·rename_i n
  have hlt:n<xs.length:=by
   rcases Nat.lt_or_ge n xs.length with h1|h1
   ·exact h1
   ·rw[List.getElem?_eq_none h1] at h;cases h
  exact⟨by simp,hlt,h,by simp;exact hlt⟩
 ·cases h
theorem Addr.add_eq(a:Addr)(h:a.spot=none)(n:Nat):a.add n=⟨a.block,a.off+n,none⟩:=by
 unfold Addr.add;obtain⟨b,o,s⟩:=a;simp only at h;subst h;split<;>simp_all
theorem tO{w:World}{S:Nat→Prop}:∀(t:Ty) (n:Nat) (x:t.Den) (cs:List Value) (e:DV) (o:Nat) (u:Ty),Rd w S t x cs→dz t n x=some e→t.at n=some (o,u)→
 u=e.ty∧∃c,Rd w S e.ty e.v c∧∀j v,c[j]?=some v→cs[o+j]?=some v
 | .cons a b,0,x,cs,e,o,u,⟨c,d,h,h1,h2⟩,he,ho=>by
   simp only[dz,Ty.at,Option.some.injEq,Prod.mk.injEq] at he ho;subst he;obtain⟨rfl,rfl⟩:=ho;refine⟨rfl,c,h1,fun j v hj=> ?_⟩;have hlt:=(List.getElem?_eq_some_iff.1 hj).1;rw[h,Nat.zero_add,List.getElem?_append_left hlt];exact hj
 | .cons a b,n+1,x,cs,e,o,u,⟨c,d,h,h1,h2⟩,he,ho=>by
   simp only[dz,Ty.at] at he ho;split at ho
   ·rename_i o' u' hb
    simp only[Option.some.injEq,Prod.mk.injEq] at ho;obtain⟨rfl,rfl⟩:=ho;obtain⟨k1,c',k2,k3⟩:=tO b n x.2 d e o' u' h2 he hb;refine⟨k1,c',k2,fun j v hj=> ?_⟩;rw[h,Nat.add_assoc,List.getElem?_append_right (by rw[aH _ _ _ h1];omega),aH _ _ _ h1];have:=k3 j v hj;rw[show a.size+(o'+j)-a.size=o'+j by omega];exact this
   ·cases ho
 | .int _,0,_,_,_,_,_,_,he,_| .bool,0,_,_,_,_,_,_,he,_| .str,0,_,_,_,_,_,_,he,_| .list _ _,0,_,_,_,_,_,_,he,_| .nil,0,_,_,_,_,_,_,he,_| .st _,0,_,_,_,_,_,_,he,_| .ptr,0,_,_,_,_,_,_,he,_=>by simp[dz] at he
 | .int _,_+1,_,_,_,_,_,_,he,_| .bool,_+1,_,_,_,_,_,_,he,_| .str,_+1,_,_,_,_,_,_,he,_| .list _ _,_+1,_,_,_,_,_,_,he,_| .nil,_+1,_,_,_,_,_,_,he,_| .st _,_+1,_,_,_,_,_,_,he,_| .ptr,_+1,_,_,_,_,_,_,he,_=>by simp[dz] at he
theorem tQ{w:World}{S:Nat→Prop}{d e:DV}{n o:Nat}{u:Ty}{cs:List Value}(h:Rd w S d.ty d.v cs)(he:jg d n=some e)(ho:d.ty.dN n=some (o,u)):
 u=e.ty∧∃c,Rd w S e.ty e.v c∧∀j v,c[j]?=some v→cs[o+j]?=some v:=by
 obtain⟨ty,x⟩:=d;unfold jg at he;split at he
 ·rename_i a y heq
  cases heq;exact tO a n y cs e o u h he ho
 ·cases he
theorem tT{w:World}{S:Nat→Prop}:∀(path:List Nat) (d e:DV) (o:Nat) (u:Ty) (cs:List Value),Rd w S d.ty d.v cs→bU d path=some e→d.ty.aM path=some (o,u)→
 u=e.ty∧∃c,Rd w S e.ty e.v c∧∀j v,c[j]?=some v→cs[o+j]?=some v
 |[],d,e,o,u,cs,h,he,ho=>by
  simp only[bU,Ty.aM,Option.some.injEq,Prod.mk.injEq] at he ho;subst he;obtain⟨rfl,rfl⟩:=ho;exact⟨rfl,cs,h,fun j v hj=>by rw[Nat.zero_add];exact hj⟩
 |f::r,d,e,o,u,cs,h,he,ho=>by
  simp only[bU,Ty.aM] at he ho;split at he
  ·rename_i d1 h1
   split at ho
   ·rename_i o1 u1 k1
    split at ho
    ·rename_i o2 u2 k2
     simp only[Option.some.injEq,Prod.mk.injEq] at ho;obtain⟨rfl,rfl⟩:=ho;obtain⟨rfl,c,m1,m2⟩:=tQ h h1 k1;obtain⟨n1,c',n2,n3⟩:=tT r d1 e o2 u2 c m1 he k2;exact⟨n1,c',n2,fun j v hj=>by rw[Nat.add_assoc];exact m2 _ _ (n3 j v hj)⟩
    ·cases ho
   ·cases ho
  ·cases he
theorem Ty.rQ:∀(path:List Nat) (t:Ty) (o:Nat) (u:Ty) (f p:Nat) (v:Ty),t.aM path=some (o,u)→u.dN f=some (p,v)→t.aM (path++[f])=some (o+p,v)
 |[],t,o,u,f,p,v,h,k=>by
  simp only[Ty.aM,Option.some.injEq,Prod.mk.injEq] at h;obtain⟨rfl,rfl⟩:=h;simp[Ty.aM,k]
 |g::r,t,o,u,f,p,v,h,k=>by
  simp only[Ty.aM,List.cons_append] at h⊢;split at h
  ·rename_i o1 u1 k1
   split at h
   ·rename_i o2 u2 k2
    simp only[Option.some.injEq,Prod.mk.injEq] at h;obtain⟨rfl,rfl⟩:=h;rw[Ty.rQ r u1 o2 u2 f p v k2 k];simp[Nat.add_assoc]
   ·cases h
  ·cases h
theorem qF:∀(path:List Nat) (d e g:DV) (f:Nat),bU d path=some e→jg e f=some g→bU d (path++[f])=some g
 |[],d,e,g,f,h,k=>by
  simp only[bU,Option.some.injEq] at h;subst h;simp[bU,k]
 |a::r,d,e,g,f,h,k=>by
  simp only[bU,List.cons_append] at h⊢;split at h
  ·exact qF r _ e g f h k
  ·cases h
theorem tu{P:Program}:∀(fields:List Field) (off:Nat) (fs:Ty) (n o:Nat) (u:Ty),kZ P fields off fs→fs.at n=some (o,u)→
 ∃fl,fields[n]?=some fl∧fl.offset=off+o∧(∃i,P.info? fl.type=some i∧i.size=u.size)∧fB P fl.type u∧0<u.size
 |[],off,fs,n,o,u,h,k=>by
  cases fs<;>first|(cases n<;>simp[Ty.at] at k;done)|exact h.elim
 |f::r,off,.cons a b,0,o,u,⟨h1,h2,h3,h4,_,h5⟩,k=>by
  simp only[Ty.at,Option.some.injEq,Prod.mk.injEq] at k;obtain⟨rfl,rfl⟩:=k;exact⟨f,rfl,h1,h2,h3,h4⟩
 |f::r,off,.cons a b,n+1,o,u,⟨h1,h2,h3,h4,_,h5⟩,k=>by
  simp only[Ty.at] at k;split at k
  ·rename_i o' u' hb
   simp only[Option.some.injEq,Prod.mk.injEq] at k;obtain⟨rfl,rfl⟩:=k;obtain⟨fl,k1,k2,k3⟩:=tu r (off+a.size) b n o' u' h5 hb;exact⟨fl,by simpa using k1,by omega,k3⟩
  ·cases k
 |_::_,_,.int _,_,_,_,h,_|_::_,_,.bool,_,_,_,h,_|_::_,_,.str,_,_,_,h,_|_::_,_,.list _ _,_,_,_,h,_|_::_,_,.nil,_,_,_,h,_|_::_,_,.st _,_,_,_,h,_|_::_,_,.ptr,_,_,_,h,_=>h.elim
section
variable{P:Program}{w:World}
theorem sj{s:TypeId}{u:Ty}(h:aT P s u){f o:Nat}{v:Ty}(ho:u.dN f=some (o,v))(ad:Addr)(hs:ad.spot=none):
 (Instr.fieldAt s (.pointer (some ad)) f).run P w= .ok (.pointer (some ⟨ad.block,ad.off+o,none⟩)) w:=by
 have hd:=h.desc;cases u with
 |st fs=>
  simp only at hd;obtain⟨fields,h1,h2,_⟩:=hd;obtain⟨fl,k1,k2,⟨i,k3,k4⟩,_,k5⟩:=tu _ _ _ _ _ _ h2 ho;have k1:fields[f]?=some fl:=by rw[←Array.getElem?_toList];exact k1
  have hne:¬i.size=0:=by omega
  simp[Instr.fieldAt,run_underlying h1,k1,Instr.sureAddr,fieldPlace,sizeOf,typeInfo,k3,hne,Addr.add_eq ad hs,k2]
 |_=>simp[Ty.dN] at ho
theorem wX{t:TypeId}{u:Ty}(h:fB P t u):(isAgg t).run P w= .ok u.isAgg w:=by
 unfold fB at h;cases hu:P.underlying t with
 |none=>simp[hu] at h
 |some d=>
  rw[hu] at h;cases d<;>simp only at h<;>first|exact h.elim|simp[isAgg,run_underlying hu,h]
theorem run_load{t:TypeId}{u:Ty}(h:aT P t u)(ad:Addr)(hs:ad.spot=none)(c:List Value)(hl:c.length=u.size)
 (hc:∀j v,c[j]?=some v→w.cell? ⟨ad.block,ad.off+j,none⟩=some v):∃v,(Instr.loadAt t (.pointer (some ad))).run P w= .ok v w∧mkV u.isAgg c v:=by
 obtain⟨i,z,k1,k2,_⟩:=h.info;have ha:=wX (w:=w) h.agg;cases hg:u.isAgg with
 |true=>
  rw[hg] at ha;have hcs:=run_loadCells_list (P:=P) w ad c (fun j v hj=>by rw[Addr.add_eq ad hs];exact hc j v hj);refine⟨.agg c.toArray,?_,by simp[mkV]⟩;simp[Instr.loadAt,Instr.sureAddr,loadVar,ha,sizeOf,typeInfo,k1,k2,←hl,hcs]
 |false=>
  rw[hg] at ha;have h1:u.size=1:=by cases u<;>simp_all[Ty.size,Ty.isAgg,aT]<;>(have:=h.desc;simp at this)
  rw[h1] at hl;obtain⟨v,rfl⟩:=List.length_eq_one_iff.1 hl;have h0:=hc 0 v rfl;have:ad=⟨ad.block,ad.off+0,none⟩:=by obtain⟨b,o,s⟩:=ad;simp_all
  rw[←this] at h0;refine⟨v,?_,by simp[mkV]⟩;simp[Instr.loadAt,Instr.sureAddr,loadVar,ha,load,Sem.run,h0]
end
theorem wS{E:Env}{ob:Nat→Ob}{nx:Nat}{b:Option (Nat×Nat)}{d:DV}{cs:List Value}{v:Value}(h:Rd E.w (src E b) d.ty d.v cs)(hb:bR ob nx b)(hm:mkV d.ty.isAgg cs v):
 ak E ob nx (eU b d) v:=by
 unfold eU;split
 ·rename_i hf
  exact lH (fV _ hf _ _ h) hm
 ·exact⟨cs,⟨aH _ _ _ h,hb,fun _=>h⟩,hm⟩
theorem yZ{u:Ty}{c:Cn}(h:fits u c=true):c.isAgg=u.isAgg:=by
 unfold fits at h;split at h<;>first|rfl|(cases h;done)
theorem nO:∀{u:Ty} {c:Cn},fits u c=true→c.size=u.size
 | .st a,c,hf=>by
   cases c with
   |agg x=>
    have:=nO (u:=a) (c:=x) hf;exact this
   |_=>simp[fits] at hf
 | .cons a b,c,hf=>by
   cases c with
   |cons x y=>
    simp only[fits,Bool.and_eq_true] at hf;simp[Cn.size,Ty.size,nO hf.1,nO hf.2]
   |_=>simp[fits] at hf
 | .nil,c,hf=>by
   cases c<;>simp only[fits] at hf<;>first|(cases hf;done)|skip
   rfl
 | .ptr,c,hf=>by cases c<;>first|rfl|(simp[fits] at hf;done)
 | .list e t,c,hf=>by
   cases c with
   |ro b d=>obtain⟨ty,v⟩:=d;cases b<;>cases ty<;>simp[fits] at hf;rfl
   |h i=>rfl
   |bq e t=>rfl
   |any=>rfl
   |sub i ix p v d=>obtain⟨ty,x⟩:=d;cases ty<;>simp[fits] at hf;rfl
   |_=>simp[fits] at hf
 | .int k,c,hf=>by
   cases c with
   |ro b d=>obtain⟨ty,v⟩:=d;cases b<;>cases ty<;>simp[fits] at hf;rfl
   |_=>simp[fits] at hf
 | .bool,c,hf=>by
   cases c with
   |ro b d=>obtain⟨ty,v⟩:=d;cases b<;>cases ty<;>simp[fits] at hf;rfl
   |_=>simp[fits] at hf
 | .str,c,hf=>by
   cases c with
   |ro b d=>obtain⟨ty,v⟩:=d;cases b<;>cases ty<;>simp[fits] at hf;rfl
   |_=>simp[fits] at hf
theorem gq{E:Env}{ob:Nat→Ob}{nx:Nat}:∀(u:Ty) (c:Cn) (cs:List Value),fits u c=true→av E ob nx c false cs→cs.length=u.size
 | .st a,c,cs,hf,h=>by
   cases c<;>simp only[fits] at hf<;>first|(cases hf;done)|skip
   exact gq a _ cs hf h
 | .cons a b,c,cs,hf,h=>by
   cases c<;>simp only[fits] at hf<;>first|(cases hf;done)|skip
   rw[Bool.and_eq_true] at hf;obtain⟨c1,c2,h0,h1,h2⟩:=h;rw[h0,List.length_append,gq a _ c1 hf.1 h1,gq b _ c2 hf.2 h2];rfl
 | .nil,c,cs,hf,h=>by
   cases c<;>simp only[fits] at hf<;>first|(cases hf;done)|skip
   rw[show cs=[] from h];rfl
 | .ptr,c,cs,hf,h=>by
   cases c with
   |p i=>rw[h.2.2];rfl
   |cst v=>rw[h.2];rfl
   |any=>obtain⟨v,_,h1⟩:=h;rw[h1];rfl
   |fn f c=>obtain⟨vs,h1,_⟩:=h;rw[h1];rfl
   |aZ b d=>obtain⟨_,ad,h1,_⟩:=h;rw[h1];rfl
   |_=>simp[fits] at hf
 | .list e t,c,cs,hf,h=>by
   cases c with
   |h i=>rw[h.2.2];rfl
   |bq e t=>rw[show cs=[_] from h];rfl
   |any=>obtain⟨v,_,h1⟩:=h;rw[h1];rfl
   |sub i ix p v d=>
    rw[h.1.1];obtain⟨ty,x⟩:=d;cases ty<;>simp[fits] at hf
    rfl
   |ro b d=>
    rw[h.1];obtain⟨ty,v⟩:=d;cases b<;>cases ty<;>simp[fits] at hf
    rfl
   |_=>simp[fits] at hf
 | .int k,c,cs,hf,h=>by
   cases c with
   |ro b d=>
    rw[h.1];obtain⟨ty,v⟩:=d;cases b<;>cases ty<;>simp[fits] at hf
    rfl
   |_=>simp[fits] at hf
 | .bool,c,cs,hf,h=>by
   cases c with
   |ro b d=>
    rw[h.1];obtain⟨ty,v⟩:=d;cases b<;>cases ty<;>simp[fits] at hf
    rfl
   |_=>simp[fits] at hf
 | .str,c,cs,hf,h=>by
   cases c with
   |ro b d=>
    rw[h.1];obtain⟨ty,v⟩:=d;cases b<;>cases ty<;>simp[fits] at hf
    rfl
   |_=>simp[fits] at hf
theorem wm{E:Env}{ob:Nat→Ob}{nx:Nat}:∀(t:Ty) (c:Cn) (n:Nat) (x:Cn) (o:Nat) (v:Ty),fits t c=true→fP c n=some x→t.at n=some (o,v)→
 fits v x=true∧∀cs,av E ob nx c false cs→∃pre c' post,cs=pre++c'++post∧pre.length=o∧av E ob nx x false c'∧c'.length=v.size
 | .cons a b,.cons y z,0,x,o,v,hf,hn,ho=>by
   simp only[fits,Bool.and_eq_true] at hf;simp only[fP,Option.some.injEq] at hn;simp only[Ty.at,Option.some.injEq,Prod.mk.injEq] at ho;subst hn;obtain⟨rfl,rfl⟩:=ho;refine⟨hf.1,fun cs h=> ?_⟩;obtain⟨c1,c2,h0,h1,h2⟩:=h;exact⟨[],c1,c2,by simpa using h0,rfl,h1,gq _ _ _ hf.1 h1⟩
 | .cons a b,.cons y z,n+1,x,o,v,hf,hn,ho=>by
   simp only[fits,Bool.and_eq_true] at hf;simp only[fP] at hn;simp only[Ty.at] at ho;split at ho
   ·rename_i o' v' hb
    simp only[Option.some.injEq,Prod.mk.injEq] at ho;obtain⟨rfl,rfl⟩:=ho;obtain⟨k1,k2⟩:=wm b z n x o' v' hf.2 hn hb;refine⟨k1,fun cs h=> ?_⟩;obtain⟨c1,c2,h0,h1,h2⟩:=h;obtain⟨pre,c',post,m1,m2,m3,m4⟩:=k2 c2 h2;exact⟨c1++pre,c',post,by rw[h0,m1];simp,by rw[List.length_append,gq _ _ _ hf.1 h1,m2],m3,m4⟩
   ·cases ho
 | .cons _ _,.ro _ _,_,_,_,_,_,hn,_| .cons _ _,.bq _ _,_,_,_,_,_,hn,_| .cons _ _,.h _,_,_,_,_,_,hn,_| .cons _ _,.p _,_,_,_,_,_,hn,_
 | .cons _ _,.addr _ _ _ _ _ _,_,_,_,_,_,hn,_| .cons _ _,.aZ _ _,_,_,_,_,_,hn,_| .cons _ _,.fn _ _,_,_,_,_,_,hn,_| .cons _ _,.b_ _,_,_,_,_,_,hn,_
 | .cons _ _,.nil,_,_,_,_,_,hn,_| .cons _ _,.agg _,_,_,_,_,_,hn,_| .cons _ _,.cst _,_,_,_,_,_,hn,_| .cons _ _,.dead,_,_,_,_,_,hn,_=>by simp[fP] at hn
 | .int _,_,_,_,_,_,_,_,ho| .bool,_,_,_,_,_,_,_,ho| .str,_,_,_,_,_,_,_,ho| .list _ _,_,_,_,_,_,_,_,ho| .nil,_,_,_,_,_,_,_,ho| .st _,_,_,_,_,_,_,_,ho| .ptr,_,_,_,_,_,_,_,ho=>by
   simp[Ty.at] at ho
theorem uL{E:Env}{ob:Nat→Ob}{nx:Nat}:∀(path:List Nat) (t:Ty) (c x:Cn) (o:Nat) (v:Ty),fits t c=true→jf c path=some x→t.aM path=some (o,v)→
 fits v x=true∧∀cs,av E ob nx c false cs→∃pre c' post,cs=pre++c'++post∧pre.length=o∧av E ob nx x false c'∧c'.length=v.size
 |[],t,c,x,o,v,hf,hg,ho=>by
  simp only[Ty.aM,Option.some.injEq,Prod.mk.injEq] at ho;obtain⟨rfl,rfl⟩:=ho;have hg:some c=some x:=by cases c<;>simpa[jf] using hg
  cases hg;exact⟨hf,fun cs h=>⟨[],cs,[],by simp,rfl,h,gq _ _ _ hf h⟩⟩
 |f::r,t,c,x,o,v,hf,hg,ho=>by
  simp only[Ty.aM] at ho;split at ho
  ·rename_i o1 u1 k1
   split at ho
   ·rename_i o2 u2 k2
    simp only[Option.some.injEq,Prod.mk.injEq] at ho;obtain⟨rfl,rfl⟩:=ho;cases c with
    |agg fs=>
     simp only[jf] at hg;split at hg
     ·rename_i y hy
      cases t with
      |st ft=>
       obtain⟨m1,m2⟩:=wm (E:=E) (ob:=ob) (nx:=nx) ft fs f y o1 u1 hf hy k1;obtain⟨n1,n2⟩:=uL (E:=E) (ob:=ob) (nx:=nx) r u1 y x o2 u2 m1 hg k2;refine⟨n1,fun cs h=> ?_⟩;obtain⟨pre,c',post,p1,p2,p3,p4⟩:=m2 cs h;obtain⟨AY,c2,AX,q1,q2,q3,q4⟩:=n2 c' p3;exact⟨pre++AY,c2,AX++post,by rw[p1,q1];simp,by simp[p2,q2],q3,q4⟩
      |_=>simp[Ty.dN] at k1
     ·cases hg
    |_=>simp[jf] at hg
   ·cases ho
  ·cases ho
end Go.Am
end
section
namespace Go.Am
theorem eD{E:Env}{ob:Nat→Ob}{nx:Nat}{c:Cn}{v:Value}(h:ak E ob nx c v)(hd:c≠ .dead):∃cs,av E ob nx c false cs∧mkV c.isAgg cs v:=by
 cases c with
 |dead=>exact absurd rfl hd
 |_=>exact h
theorem AQ{E:Env}{ob:Nat→Ob}{nx i:Nat}{aj:Nat}{e:TypeId}{t:Ty}{xs:List t.Den}(h:aJ E ob nx i (.sl .own aj e t xs))(hn:0<xs.length):
 ∃g cap,E.af i= .slice (some ⟨g,0,none⟩) xs.length cap∧g∈E.B i:=by
 obtain⟨v,f,nb,h1,h2,h3,h4⟩:=h;have h1:E.af i=v:=by simpa using h1
 rcases h2.2 with⟨rfl,h0⟩|⟨g,cap,cur,rfl,_⟩
 ·omega
 ·exact⟨g,cap,h1,by rw[h4];simp[Value.ownBlock]⟩
theorem wT{E:Env}{ob:Nat→Ob}{nx i:Nat}{fz:Md}{aj:Nat}{e:TypeId}{t:Ty}{xs:List t.Den}(h:aJ E ob nx i (.sl fz aj e t xs))(hf:fz≠ .aV)(hn:0<xs.length):
 ∃g cap,E.af i= .slice (some ⟨g,0,none⟩) xs.length cap∧g∈E.B i:=by
 cases fz with
 |own=>exact AQ h hn
 |aV=>exact absurd rfl hf
 |shl=>
  obtain⟨f,h2,h3,h4⟩:=h;rcases h2.2 with⟨h5,h0⟩|⟨g,cap,cur,h5,_⟩
  ·omega
  ·exact⟨g,cap,h5,by rw[h4,h5];simp[Value.ownBlock]⟩
 |hole ix path m=>
  obtain⟨_,p,q,e',u,h1,_,g,cap,cur,x,off,h2,_,_,_,h3,_⟩:=h;exact⟨g,cap,h2,by rw[h1];exact List.mem_append.2 (.inl h3)⟩
theorem uM:∀(a:Ty) (n:Nat) (x:a.Den) (e:DV) (o:Nat) (u:Ty),dz a n x=some e→a.at n=some (o,u)→e.ty=u:=by
 intro a
 induction a with
 |cons a b _ ihb=>
  intro n x e o u hg ha;cases n with
  |zero=>
   simp only[Ty.at,Option.some.injEq,Prod.mk.injEq] at ha;simp only[dz,Option.some.injEq] at hg;rw[←hg,←ha.2]
  |succ n=>
   simp only[Ty.at] at ha;split at ha
   ·rename_i o' v' hb
    simp only[Option.some.injEq,Prod.mk.injEq] at ha;rw[←ha.2];exact ihb n x.2 e o' v' hg hb
   ·cases ha
 |_=>intro n x e o u hg ha;simp[Ty.at] at ha
theorem fZ{w:World}{S:Nat→Prop}:∀(t:Ty) (x:t.Den) (cs:List Value),Rd w S t x cs→∀v,v∈cs→v.oneCell'=true
 | .int _,_,_,h,v,hv| .bool,_,_,h,v,hv| .str,_,_,h,v,hv=>by
   rw[show _=_ from h] at hv;obtain rfl:=List.mem_singleton.1 hv;rfl
 | .list _ _,_,_,⟨_,_,_,_,h,_⟩,v,hv=>by
   rw[h] at hv;obtain rfl:=List.mem_singleton.1 hv;rfl
 | .nil,_,_,h,v,hv=>by rw[show _=_ from h] at hv;simp at hv
 | .cons a b,x,_,⟨c,d,h,h1,h2⟩,v,hv=>by
   rw[h] at hv;rcases List.mem_append.1 hv with hv|hv
   ·exact fZ a _ c h1 v hv
   ·exact fZ b _ d h2 v hv
 | .st a,x,cs,h,v,hv=>fZ a x cs h v hv
 | .ptr,_,_,h,_,_=>(show False from h).elim
theorem nM{mk:List Nat→DV→Cn}(hm:∀p d,(mk p d).size=d.ty.size):∀(t:Ty) (x:t.Den) (p:List Nat) (n:Nat),(gV mk t x p n).size=t.size
 | .st a,x,p,_=>nM hm a x p 0
 | .cons a b,x,p,n=>by
   show(gV mk a x.1 (p++[n]) 0).size+(gV mk b x.2 p (n+1)).size=_;rw[nM hm a,nM hm b];rfl
 | .nil,_,_,_=>rfl
 | .int _,_,_,_=>rfl
 | .bool,_,_,_=>rfl
 | .str,_,_,_=>rfl
 | .list e t,x,p,_=>hm p ⟨.list e t,x⟩
 | .ptr,_,_,_=>rfl
theorem Aa(i:Nat)(ix:Int)(path:List Nat)(aj:Nat)(d:DV):(jq i ix path aj d).size=d.ty.size:=by
 unfold jq;split
 ·rfl
 ·split
  ·exact nM (fun _ _=>rfl) _ _ _ _
  ·rfl
theorem vF(i:Nat)(ix:Int)(path:List Nat)(aj:Nat)(d:DV):(jq i ix path aj d).isAgg=d.ty.isAgg:=by
 obtain⟨ty,v⟩:=d;unfold jq;split
 ·rfl
 ·split
  ·cases ty<;>first|rfl|(rename_i h;simp[Ty.bX] at h)
  ·rfl
theorem yU{E:Env}{ob:Nat→Ob}{nx:Nat}{S:Nat→Prop}{mk:List Nat→DV→Cn}{L:List Nat→DV→List Value→Prop}(zB:∀p d c,L p d c→Rd E.w S d.ty d.v c→av E ob nx (mk p d) false c)
 (hstep:∀p a x cs n e o u,L p ⟨.st a,x⟩ cs→dz a n x=some e→a.at n=some (o,u)→L (p++[n]) e ((cs.drop o).take u.size)):∀(t:Ty),
 (∀(x:t.Den) (p:List Nat) (n:Nat) (cs:List Value),t.bX false=true→L p ⟨t,x⟩ cs→Rd E.w S t x cs→av E ob nx (gV mk t x p n) false cs)∧
 (∀(A:Ty) (X:A.Den) (CS:List Value) (p:List Nat) (n o:Nat) (y:t.Den) (d:List Value),t.bX true=true→L p ⟨.st A,X⟩ CS→(∀k e,dz t k y=some e→dz A (n+k) X=some e)→
  (∀k ok u,t.at k=some (ok,u)→A.at (n+k)=some (o+ok,u))→d=CS.drop o→Rd E.w S t y d→av E ob nx (gV mk t y p n) false d):=by
 intro t
 induction t with
 |st a ih=>
  refine⟨fun x p n cs ho hL hr=> ?_,fun A X CS p n o y d ho=>by simp[Ty.bX] at ho⟩;have ho:a.bX true=true:=by simpa[Ty.bX] using ho
  exact ih.2 a x cs p 0 0 x cs ho hL (fun k e h=>by rw[Nat.zero_add];exact h) (fun k ok u h=>by rw[Nat.zero_add,Nat.zero_add];exact h) (by simp) hr
 |cons a b iha ihb=>
  refine⟨fun x p n cs ho=>by simp[Ty.bX] at ho,fun A X CS p n o y d ho hL hg ha hd hr=> ?_⟩;have ho:a.bX false=true∧b.bX true=true:=by simpa[Ty.bX] using ho
  obtain⟨c,d',h0,h1,h2⟩:=hr;have hl:=aH a _ c h1;have hc:c=(CS.drop o).take a.size:=by rw[←hd,h0,←hl,List.take_left]
  have hd':d'=CS.drop (o+a.size):=by rw[←List.drop_drop,←hd,h0,←hl,List.drop_left]
  refine⟨c,d',h0,?_,?_⟩
  ·refine iha.1 y.1 (p++[n]) 0 c ho.1 ?_ h1
   have:=hstep p A X CS n ⟨a,y.1⟩ o a hL (hg 0 _ rfl) (by simpa using ha 0 0 a rfl);rw[hc];exact this
  ·refine ihb.2 A X CS p (n+1) (o+a.size) y.2 d' ho.2 hL (fun k e h=> ?_) (fun k ok u h=> ?_) hd' h2
   ·rw[Nat.add_assoc,Nat.add_comm 1 k];exact hg (k+1) e h
   ·rw[Nat.add_assoc,Nat.add_comm 1 k,ha (k+1) (a.size+ok) u (by simp only[Ty.at,h]),Nat.add_assoc]
 |nil=>
  refine⟨fun x p n cs ho=>by simp[Ty.bX] at ho,fun A X CS p n o y d ho hL hg ha hd hr=>hr⟩
 |int k=>exact⟨fun x p n cs ho hL hr=>⟨aH _ _ _ hr,trivial,fun _=>hr⟩,fun A X CS p n o y d ho=>by simp[Ty.bX] at ho⟩
 |bool=>exact⟨fun x p n cs ho hL hr=>⟨aH _ _ _ hr,trivial,fun _=>hr⟩,fun A X CS p n o y d ho=>by simp[Ty.bX] at ho⟩
 |str=>exact⟨fun x p n cs ho hL hr=>⟨aH _ _ _ hr,trivial,fun _=>hr⟩,fun A X CS p n o y d ho=>by simp[Ty.bX] at ho⟩
 |list e t _=>exact⟨fun x p n cs ho hL hr=>zB p _ cs hL hr,fun A X CS p n o y d ho=>by simp[Ty.bX] at ho⟩
 |ptr=>exact⟨fun x p n cs ho hL hr=>trivial,fun A X CS p n o y d ho=>by simp[Ty.bX] at ho⟩
theorem z_{E:Env}{ob:Nat→Ob}{nx i:Nat}{ix:Int}{path:List Nat}{aj:Nat}{d:DV}{cs:List Value}{v:Value}(hr:Rd E.w (src E (some (i,aj))) d.ty d.v cs)(hi:i<nx)(h0:0≤ix)(hs:bR ob nx (some (i,aj)))
 (hsub:∀fz v e t xs,ob i= .sl fz v e t xs→v=aj→lG E i t xs ix path d cs) (hm:mkV d.ty.isAgg cs v):ak E ob nx (jq i ix path aj d) v:=by
 refine iT cs ?_ (by rw[vF];exact hm);have leaf:∀(p:List Nat) (d:DV) (c:List Value),(∀fz v e t xs,ob i= .sl fz v e t xs→v=aj→lG E i t xs ix p d c)→Rd E.w (src E (some (i,aj))) d.ty d.v c→av E ob nx (.sub i ix p aj d) false c:=by
  intro p d c hsub hr;simp only[av];refine⟨⟨aH _ _ _ hr,fZ _ _ _ hr⟩,hi,h0,hs,?_⟩;cases ho:ob i with
  |sl fz v e t xs=>exact fun hv=>⟨hr,hsub fz v e t xs ho hv⟩
  |_=>trivial
 unfold jq;split
 ·rename_i hf
  exact⟨aH _ _ _ hr,trivial,fun _=>fV _ hf _ _ hr⟩
 ·split
  ·rename_i hok
   obtain⟨ty,x⟩:=d;refine(yU (S:=src E (some (i,aj))) (L:=fun p d c=>∀fz v e t xs,ob i= .sl fz v e t xs→v=aj→lG E i t xs ix p d c) leaf ?_ ty).1 x path 0 cs hok hsub hr;intro p a y c n e o u hL hg ha fz v e' t xs ho hv;obtain⟨z,g,off,n1,n2,n3,n4,n5,n6⟩:=hL fz v e' t xs ho hv;have hu:=uM a n y e o u hg ha;refine⟨z,g,off+o,n1,qF _ _ _ _ _ n2 hg,?_,n4,n5,fun j w hw=> ?_⟩
   ·rw[hu]
    exact Ty.rQ _ _ _ _ _ _ _ n3 ha
   ·have hlt:=(List.getElem?_eq_some_iff.1 hw).1
    rw[List.getElem?_take_of_lt (by simp at hlt;omega),List.getElem?_drop] at hw;have:=n6 (o+j) w hw;simpa[Nat.add_assoc] using this
  ·exact leaf path d cs hsub hr
section
variable{P:Program}{R:Type}{C:Ctx}{o:Oper}{st:St}{k:St→Option R}{r:R}{E0 E:Env}{a:Act}{K:Act→World→Prop}{Q:Exit→Act→World→Prop}{g:Bool}
theorem run_indexAt{t e:TypeId}{u:Ty}{w:World}(ht:P.underlying t=some (.slice e))(he:gJ P e u)(ad:Addr)(hs:ad.spot=none)(n c:Nat)(ki:IntKind)(ix:Int)
 (h0:0≤ix) (h1:ix<(n:Int)):(Instr.indexAt t (.slice (some ad) n c) (.int ki ix)).run P w= .ok (.pointer (some ⟨ad.block,ad.off+ix.toNat*u.size,none⟩)) w:=by
 obtain⟨i,z,k1,k2,_⟩:=he;simp[Instr.indexAt,asIntOf,run_underlying ht,h0,h1,sizeOf,typeInfo,k1,k2,Addr.add_eq ad hs]
theorem zS(ay:∀t u,C.tt t=some u→aT P t u){t:TypeId}{X I:Operand}{x i:Cn}(ho:o.op= .indexAddr t X I)
 (hk:ko C o t x i st k=some r) (h:Inv C.N E0 E st a) (hx:ak E st.ob st.nx x (a.eval X)) (hi:ak E st.ob st.nx i (a.eval I))
 (hK:∀st' E' v,k st'=some r→Inv C.N E0 E' st' (a.put o.dst v)→aL P C g o a v E.w E'.w→K (a.put o.dst v) E'.w):o.wp P a E.w K Q:=by
 unfold ko at hk;split at hk
 ·rename_i ki ix
  have ei:=eB hi;split at hk
  ·rename_i j
   obtain⟨cs,hc,hm⟩:=hx;have hm:cs=[a.eval X]:=hm;have hX:a.eval X=E.af j:=by have:=hc.2.2;rw[hm] at this;simpa using this
   split at hk
   ·rename_i fz aj e u xs ah
    split at hk
    ·rename_i hT
     have hd:=(ay _ _ (cB hT)).desc;simp only at hd;obtain⟨y,hy,hk⟩:=Option.bind_eq_some_iff.1 hk;obtain⟨h0,h1,h2,h3⟩:=jy hy;have hj:=h.rep.ob j;rw[ah] at hj;split at hk
     ·obtain⟨⟨A,n,c,f,k1,k2,k3,k4,k5,k6,k7⟩,_⟩:=hj
      have k1:E.af j= .slice A n c:=by simpa using k1
      have hn:0<n:=by rw[k2];omega
      obtain⟨ad,rfl⟩:=Option.ne_none_iff_exists'.1 (k7.1 hn);obtain⟨m1,m2⟩:=k5 ad rfl hn;obtain⟨c',p1,p2⟩:=kY (aH u) xs f k4 _ _ h2
      refine aQ (v:= .pointer (some ⟨ad.block,ad.off+ix.toNat*u.size,none⟩)) hk h
       (by unfold execOp;simp[ho,hX,ei,k1,run_indexAt hd.1 hd.2.1 ad m1 n c ki ix h0 (by rw[k2];exact h3)]) ?_ hK
      refine⟨_,⟨trivial,⟨ad.block,ad.off+ix.toNat*u.size,none⟩,rfl,rfl,fun _=>⟨m2,c',p1,?_⟩⟩,rfl⟩;intro jj v hv;have hlt:=(List.getElem?_eq_some_iff.1 hv).1;rw[aH _ _ _ p1] at hlt;obtain⟨gN,q1,q2⟩:=k6 _ v (by rw[p2 jj hlt];exact hv);obtain rfl:=Option.some.inj q1;exact⟨_,rfl,by rw[←q2];simp[Nat.add_assoc]⟩
     ·rename_i hfz
      obtain⟨g,cap,k1,k2⟩:=wT hj hfz (by omega)
      refine aQ (v:= .pointer (some ⟨g,0+ix.toNat*u.size,none⟩)) hk h
       (by unfold execOp;simp[ho,hX,ei,k1,run_indexAt hd.1 hd.2.1 ⟨g,0,none⟩ rfl xs.length cap ki ix h0 h3]) ?_ hK
      refine⟨_,⟨hc.1,h0,⟨g,by simp[k1,bS],by simp⟩,fun u' hu'=> ?_,?_,?_⟩,rfl⟩
      ·exact⟨u',rfl⟩
      ·rw[ah]
       exact⟨h1,rfl,Nat.le_refl _,fun _=>⟨y,h2,rfl⟩⟩
      ·rw[ah];intro hh;cases hh
    ·cases hk
   ·cases hk
  ·split at hk
   ·rename_i v hv
    split at hk
    ·rename_i hT
     have hd:=(ay _ _ (cB hT)).desc;simp only at hd;obtain⟨y,hy,hk⟩:=Option.bind_eq_some_iff.1 hk;obtain⟨h0,h1,h2,h3⟩:=jy hy;obtain⟨⟨A,n,c,f,k1,k2,k3,k4,k5,k6,k7⟩,l1,l2⟩:=jP hv h.rep.ob hx;have k1:a.eval X= .slice A n c:=by simpa using k1
     have hn:0<n:=by rw[k2];omega
     obtain⟨ad,rfl⟩:=Option.ne_none_iff_exists'.1 (k7.1 hn);obtain⟨m1,m2⟩:=k5 ad rfl hn;obtain⟨c',p1,p2⟩:=kY (aH v.t) v.xs f k4 _ _ h2
     refine aQ (v:= .pointer (some ⟨ad.block,ad.off+ix.toNat*v.t.size,none⟩)) hk h
      (by unfold execOp;simp[ho,ei,k1,run_indexAt hd.1 hd.2.1 ad m1 n c ki ix h0 (by rw[k2];exact h3)]) ?_ hK
     refine⟨_,⟨l1,⟨ad.block,ad.off+ix.toNat*v.t.size,none⟩,rfl,rfl,fun _=>⟨m2,c',p1,?_⟩⟩,rfl⟩;intro jj u hu;have hlt:=(List.getElem?_eq_some_iff.1 hu).1;rw[aH _ _ _ p1] at hlt;obtain⟨gN,q1,q2⟩:=k6 _ u (by rw[p2 jj hlt];exact hu);obtain rfl:=Option.some.inj q1;exact⟨_,rfl,by rw[←q2];simp[Nat.add_assoc]⟩
    ·cases hk
   ·cases hk
 ·cases hk
theorem y7(ay:∀t u,C.tt t=some u→aT P t u){s f:Nat}{X:Operand}{x d:Cn}(ho:o.op= .fieldAddr s X f)
 (hd:qB C.tt st.ob s f x=some d) (hk:az C o d st k=some r) (h:Inv C.N E0 E st a) (hx:ak E st.ob st.nx x (a.eval X))
 (hK:∀st' E' v,k st'=some r→Inv C.N E0 E' st' (a.put o.dst v)→aL P C g o a v E.w E'.w→K (a.put o.dst v) E'.w):o.wp P a E.w K Q:=by
 unfold qB at hd;split at hd
 ·rename_i i
  split at hd
  ·rename_i u c ah
   split at hd
   ·rename_i hT
    split at hd
    ·rename_i oo v hf
     cases hd;obtain⟨cs,hc,hm⟩:=hx;have hm:cs=[a.eval X]:=hm;have hX:a.eval X=E.af i:=by have:=hc.2.2;rw[hm] at this;simpa using this
     have hi:=h.rep.ob i;rw[ah] at hi;obtain⟨g,cs',t,k1,k2,k3,k4,k5⟩:=hi
     refine aQ (v:= .pointer (some ⟨g,0+oo,none⟩)) hk h
      (by unfold execOp;simp[ho,hX,k1,sj (ay _ _ (cB hT)) hf ⟨g,0,none⟩ rfl]) ?_ hK
     refine⟨_,⟨hc.1,Int.le_refl _,⟨g,by simp[k1,bS],by simp⟩,fun u' hu'=> ?_,?_,fun _=>rfl⟩,rfl⟩
     ·rw[ah] at hu'
      obtain rfl:=Option.some.inj hu';exact⟨v,by simp[Ty.aM,hf]⟩
     ·rw[ah];trivial
    ·cases hd
   ·cases hd
  ·cases hd
 ·rename_i i ix es off path cache
  split at hd
  ·rename_i t hT
   split at hd
   ·rename_i hl
    split at hd
    ·rename_i oo v hf
     obtain⟨cs,⟨c1,c2,⟨g,c3,c4⟩,c5,c6,c7⟩,hm⟩:=hx;have hm:cs=[a.eval X]:=hm;have hX:a.eval X= .pointer (some ⟨g,ix.toNat*es+off,none⟩):=by rw[hm] at c4;simpa using c4
     have hrun:∀u,(dB o=false∨aA E.w u)→(execOp a.eval o).run P u= .ok (.value (.pointer (some ⟨g,ix.toNat*es+off+oo,none⟩))) u:=by
      intro u _;unfold execOp;simp[ho,hX,sj (ay _ _ hT) hf ⟨g,ix.toNat*es+off,none⟩ rfl]
     have hoff:∀u,(st.ob i).lay=some u→∃v',u.aM (path++[f])=some (off+oo,v'):=by
      intro u hu;rw[hu] at hl;obtain⟨v',hv'⟩:=c5 u hu;simp only[hv'] at hl;obtain rfl:=of_decide_eq_true hl;exact⟨v,Ty.rQ _ _ _ _ _ _ _ hv' hf⟩
     split at hd
     ·rename_i cv dd
      split at hd
      ·rename_i e he
       cases hd;refine aQ hk h hrun ?_ hK;refine⟨_,⟨c1,c2,⟨g,c3,by simp[Nat.add_assoc]⟩,hoff,?_,c7⟩,rfl⟩;cases ah:st.ob i with
       |sl fz aj e' t' xs=>
        rw[ah] at c6
        exact⟨c6.1,c6.2.1,c6.2.2.1,fun ee=>by
         obtain⟨y,y1,y2⟩:=c6.2.2.2 ee;exact⟨y,y1,qF _ _ _ _ _ y2 he⟩⟩
       |_=>trivial
      ·cases hd
     ·cases hd
      refine aQ hk h hrun ?_ hK;refine⟨_,⟨c1,c2,⟨g,c3,by simp[Nat.add_assoc]⟩,hoff,?_,c7⟩,rfl⟩;cases ah:st.ob i with
      |sl fz aj e' t' xs=>
       rw[ah] at c6;exact⟨c6.1,c6.2.1,trivial⟩
      |_=>trivial
    ·cases hd
   ·cases hd
  ·cases hd
 ·rename_i b dd
  split at hd
  ·rename_i t hT
   split at hd
   ·rename_i hty
    have hty:=of_decide_eq_true hty;split at hd
    ·rename_i e he
     cases hd;obtain⟨cs,⟨l1,ad,c1,c2,c3⟩,hm⟩:=hx;have hm:cs=[a.eval X]:=hm;have hX:a.eval X= .pointer (some ad):=by rw[hm] at c1;simpa using c1
     have ⟨oo,u,hf⟩:∃oo u,dd.ty.dN f=some (oo,u):=by
      obtain⟨ty,v⟩:=dd;unfold jg at he;split at he
      ·rename_i aa y heq
       cases heq;have:∀(t:Ty) (n:Nat) (x:t.Den) (e:DV),dz t n x=some e→∃oo u,t.at n=some (oo,u):=by
        intro t
        induction t with
        |cons a b _ ihb=>
         intro n x e hh;cases n with
         |zero=>exact⟨0,a,rfl⟩
         |succ n=>
          obtain⟨oo,u,hu⟩:=ihb n x.2 e hh;exact⟨a.size+oo,u,by simp[Ty.at,hu]⟩
        |_=>intro n x e hh;cases n<;>simp[dz] at hh
       exact this aa f y e he
      ·cases he
     rw[hty] at hf
     refine aQ (v:= .pointer (some ⟨ad.block,ad.off+oo,none⟩)) hk h
      (by unfold execOp;simp[ho,hX,sj (ay _ _ hT) hf ad c2]) ?_ hK
     refine⟨_,⟨l1,⟨ad.block,ad.off+oo,none⟩,rfl,rfl,fun hl=> ?_⟩,rfl⟩;obtain⟨m1,ff,m2,m3⟩:=c3 hl;rw[←hty] at hf;obtain⟨_,c',p1,p2⟩:=tQ m2 he hf;refine⟨m1,c',p1,fun j v hv=> ?_⟩;obtain⟨gN,q1,q2⟩:=m3 _ _ (p2 j v hv);obtain rfl:=Option.some.inj q1;exact⟨_,rfl,by rw[←q2];simp[Nat.add_assoc]⟩
    ·cases hd
   ·cases hd
  ·cases hd
 ·cases hd
theorem vL(ay:∀t u,C.tt t=some u→aT P t u){t:TypeId}{xv:Value}{x d:Cn}
 (hd:mG st x=some d) (hl:mF C.tt t d.isAgg d.size=true) (h:Inv C.N E0 E st a) (hx:ak E st.ob st.nx x xv):∃v,(∀W,aA E.w W→(Instr.loadAt t xv).run P W= .ok v W)∧ak E st.ob st.nx d v:=by
 have ⟨u,hT,hag,hsz⟩:∃u,C.tt t=some u∧u.isAgg=d.isAgg∧u.size=d.size:=by
  unfold mF at hl;split at hl
  ·rename_i u hu
   rw[Bool.and_eq_true] at hl;exact⟨u,hu,by simpa using hl.1,Nat.eq_of_beq_eq_true hl.2⟩
  ·cases hl
 have hu:=ay _ _ hT
 have fin:∀(ad:Addr) (c:List Value),ad.spot=none→xv= .pointer (some ad)→c.length=d.size→(∀j v,c[j]?=some v→E.w.cell? ⟨ad.block,ad.off+j,none⟩=some v)→
  (∀v,mkV d.isAgg c v→ak E st.ob st.nx d v)→∃v,(∀W,aA E.w W→(Instr.loadAt t xv).run P W= .ok v W)∧ak E st.ob st.nx d v:=by
  intro ad c hs hX hlen hc hv;obtain⟨v,h1,h2⟩:=run_load (P:=P) (w:=E.w) hu ad hs c (by rw[hlen,hsz]) hc;refine⟨v,fun W hW=> ?_,hv v (by rw[←hag];exact h2)⟩;obtain⟨v',h1',h2'⟩:=run_load (P:=P) (w:=W) hu ad hs c (by rw[hlen,hsz]) (fun j u hj=>hW.cell (hc j u hj));have:v'=v:=by
   unfold mkV at h2 h2';split at h2
   ·rename_i hh;rw[if_pos hh] at h2';rw[h2,h2']
   ·rename_i hh;rw[if_neg hh] at h2';rw[h2] at h2';simpa using h2'.symm
  rw[hX,←this];exact h1'
 have box:∀(i:Nat) (u:Ty) (c:Cn) (path:List Nat) (off:Nat) (v:Ty),st.ob i= .box u c→jf c path=some d→u.aM path=some (off,v)→
  (∃g,bS (E.af i)=some g∧xv= .pointer (some ⟨g,off,none⟩))→∃v,(∀W,aA E.w W→(Instr.loadAt t xv).run P W= .ok v W)∧ak E st.ob st.nx d v:=by
  intro i u c path off v ah hg hof ⟨g,hbk,hX⟩;have hi:=h.rep.ob i;rw[ah] at hi;obtain⟨g',cs,t',k1,k2,k3,k4,k5⟩:=hi;have:g'=g:=by rw[k1] at hbk;simpa[bS] using hbk
  subst this;obtain⟨f1,f2⟩:=uL (E:=E) (ob:=st.ob) (nx:=st.nx) path u c d off v k4 hg hof;obtain⟨pre,c',post,p1,p2,p3,p4⟩:=f2 cs k3;have hde:d≠ .dead:=by intro e;rw[e] at f1;cases v<;>simp[fits] at f1
  refine fin ⟨g',off,none⟩ c' rfl hX ?_ ?_ ?_
  ·have:=yZ f1
   rw[p4];have hs:=nO f1;exact hs.symm
  ·intro j v hj
   have hlt:=(List.getElem?_eq_some_iff.1 hj).1;rw[cell_of_row E.w g' _ cs.toArray t' (0,0) k2];rw[p1];simp only[List.getElem?_toArray];rw[List.append_assoc,List.getElem?_append_right (by rw[p2];exact Nat.le_add_right _ _),p2,show off+j-off=j by omega,List.getElem?_append_left hlt];exact hj
  ·intro v hm
   exact iT c' p3 hm
 unfold mG at hd;split at hd
 ·rename_i i
  split at hd
  ·rename_i u' c ah
   cases hd;obtain⟨cs,hc,hm⟩:=hx;have hm:cs=[xv]:=hm;have hX:xv=E.af i:=by have:=hc.2.2;rw[hm] at this;simpa using this
   have hi:=h.rep.ob i;rw[ah] at hi;obtain⟨g',cs',t',k1,k2⟩:=hi;exact box i u' d [] 0 u' ah (by cases d<;>rfl) rfl ⟨g',by simp[k1,bS],by rw[hX,k1]⟩
  ·cases hd
 ·rename_i i ix es off path cache
  obtain⟨cs,⟨c1,c2,⟨g,c3,c4⟩,c5,c6,c7⟩,hm⟩:=hx;have hm:cs=[xv]:=hm;have hX:xv= .pointer (some ⟨g,ix.toNat*es+off,none⟩):=by rw[hm] at c4;simpa using c4
  split at hd
  ·rename_i u' c ah
   obtain⟨v,hv⟩:=c5 u' (by rw[ah];rfl);have hes:es=0:=c7 (by rw[ah];rfl);exact box i u' c path off v ah hd hv ⟨g,c3,by rw[hX,hes];simp⟩
  ·rename_i fz aj e' t' xs ah
   split at hd
   ·rename_i cv dd
    split at hd
    ·rename_i hbq
     have hcv:=Nat.eq_of_beq_eq_true hbq;rw[ah] at c6;obtain⟨d1,d2,d3,d4⟩:=c6;obtain⟨y,y1,y2⟩:=d4 hcv;have hi:=h.rep.ob i;rw[ah] at hi;have uZ:bR st.ob st.nx (some (i,aj)):=⟨c1,by rw[ah];exact Nat.le_refl _⟩;obtain⟨vv,hv⟩:=c5 t' (by rw[ah];rfl)
     have key:fz≠ .aV→Rd E.w (src E (some (i,aj))) (.list e' t') xs [E.af i]→∃c'',Rd E.w (src E (some (i,aj))) dd.ty dd.v c''∧(g∈E.B i)∧vv=dd.ty∧
      ∀j v,c''[j]?=some v→E.w.cell? ⟨g,ix.toNat*es+off+j,none⟩=some v:=by
      intro hfz hrd;obtain⟨g',cap,b1,b2⟩:=wT hi hfz (by omega);have:g'=g:=by rw[b1] at c3;simpa[bS] using c3
      subst this;obtain⟨A,n,cc,f,m1,m2,m3,m4,m5,m6,m7⟩:=hrd;have m1:E.af i= .slice A n cc:=by simpa using m1
      rw[b1] at m1;simp only[Value.slice.injEq] at m1;obtain⟨rfl,_,_⟩:=m1;obtain⟨c',p1,p2⟩:=kY (aH t') xs f m4 _ _ y1;obtain⟨q0,c'',q1,q2⟩:=tT path ⟨t',y⟩ dd off vv c' p1 y2 hv;refine⟨c'',q1,b2,q0,?_⟩;intro j v hj;have hlt:off+j<t'.size:=by
       have:=(List.getElem?_eq_some_iff.1 (q2 j v hj)).1
       rwa [aH _ _ _ p1] at this
      obtain⟨gN,r1,r2⟩:=m6 _ v (by rw[p2 _ hlt];exact q2 j v hj);obtain rfl:=Option.some.inj r1;rw[←r2,d2];simp[Nat.add_assoc]
     split at hd
     ·cases hd
      obtain⟨c'',q1,q2,q3,q4⟩:=key (by simp) (aN (fun b hb=> .inl hb) (fun _ _=>rfl) _ _ _ (dV _ _ _ _ hi));refine fin ⟨g,ix.toNat*es+off,none⟩ c'' rfl hX (by rw[aH _ _ _ q1,Aa]) q4 ?_;intro v hm;rw[vF] at hm;refine z_ q1 c1 c2 uZ ?_ hm;intro lY v2 e2 t2 dG ho2 hv2;rw[ah] at ho2;cases ho2;subst q3;exact⟨y,g,off,y1,y2,hv,c3,.inl q2,by rw[←d2];exact q4⟩
     ·cases hd
      obtain⟨c'',q1,q2,q3,q4⟩:=key (by simp) (lD hi);have hsize:(eU (some (i,aj)) dd).size=dd.ty.size:=by unfold eU;split<;>rfl
      have hagg:(eU (some (i,aj)) dd).isAgg=dd.ty.isAgg:=by unfold eU;split<;>rfl
      refine fin ⟨g,ix.toNat*es+off,none⟩ c'' rfl hX (by rw[aH _ _ _ q1,hsize]) q4 ?_;intro v hm;rw[hagg] at hm;exact wS q1 uZ hm
     ·cases hd
    ·cases hd
   ·cases hd
  ·cases hd
 ·rename_i b dd
  obtain⟨cs,⟨l1,ad,c1,c2,c3⟩,hm⟩:=hx;have hm:cs=[xv]:=hm;have hX:xv= .pointer (some ad):=by rw[hm] at c1;simpa using c1
  split at hd
  ·cases hd
   obtain⟨m1,f,m2,m3⟩:=c3 trivial;refine fin ad f c2 hX (aH _ _ _ m2) ?_ ?_
   ·intro j v hj
    obtain⟨gN,r1,r2⟩:=m3 j v hj;obtain rfl:=Option.some.inj r1;exact r2
   ·intro v hm
    exact lH m2 hm
  ·rename_i i aj
   split at hd
   ·rename_i fz v e t' xs ah
    split at hd
    ·rename_i hbq
     cases hd;have hlive:live st.ob (some (i,aj)):=by simp only[live,fresh,ah];exact Nat.eq_of_beq_eq_true hbq
     obtain⟨m1,f,m2,m3⟩:=c3 hlive;have hsize:(eU (some (i,aj)) dd).size=dd.ty.size:=by unfold eU;split<;>rfl
     have hagg:(eU (some (i,aj)) dd).isAgg=dd.ty.isAgg:=by unfold eU;split<;>rfl
     refine fin ad f c2 hX (by rw[aH _ _ _ m2,hsize]) ?_ ?_
     ·intro j v hj
      obtain⟨gN,r1,r2⟩:=m3 j v hj;obtain rfl:=Option.some.inj r1;exact r2
     ·intro v hm
      rw[hagg] at hm;exact wS m2 l1 hm
    ·cases hd
   ·cases hd
 ·cases hd
theorem Ag(ay:∀t u,C.tt t=some u→aT P t u){t:TypeId}{X:Operand}{x d:Cn}(ho:o.op= .load t X)
 (hd:mG st x=some d) (hl:mF C.tt t d.isAgg d.size=true) (hk:az C o d st k=some r) (h:Inv C.N E0 E st a) (hx:ak E st.ob st.nx x (a.eval X))
 (hK:∀st' E' v,k st'=some r→Inv C.N E0 E' st' (a.put o.dst v)→aL P C g o a v E.w E'.w→K (a.put o.dst v) E'.w):o.wp P a E.w K Q:=by
 obtain⟨v,h1,h2⟩:=vL ay hd hl h hx
 exact aQ hk h (fun u' hu'=>by
  have h1:=h1 u' (hu'.resolve_left (by simp[dB,ho]));unfold execOp;simp[ho,h1]) h2 hK
end
end Go.Am
end
section
namespace Go.Am
theorem jM:∀(u:Ty) (cs:List Value),ZR u cs→cs.length=u.size
 | .int _,_,h| .bool,_,h| .str,_,h| .list _ _,_,h| .nil,_,h=>by rw[show _=_ from h];rfl
 | .cons a b,_,⟨c,d,h,h1,h2⟩=>by rw[h,List.length_append,jM a c h1,jM b d h2];rfl
 | .st a,cs,h=>jM a cs h
 | .ptr,_,⟨v,h,_⟩=>by rw[h];rfl
theorem ny{w:World}:∀(u:Ty) (cs:List Value),u.fM=true→ZR u cs→Ow w u u.dflt cs []
 | .int _,_,_,h| .bool,_,_,h| .str,_,_,h| .nil,_,_,h=>⟨h,rfl⟩
 | .list e t,_,_,h=>⟨.slice none 0 0,[],[],h,World.ownsRow_nil w 0 e t.size,⟨rfl,rfl⟩,rfl⟩
 | .cons a b,_,hp,⟨c,d,h,h1,h2⟩=>by
   simp only[Ty.fM,Bool.and_eq_true] at hp;exact⟨c,d,[],[],h,rfl,ny a c hp.1 h1,ny b d hp.2 h2⟩
 | .st a,cs,hp,h=>ny a cs hp h
 | .ptr,_,hp,_=>by simp[Ty.fM] at hp
theorem mY{E:Env}{ob:Nat→Ob}{nx:Nat}:∀(u:Ty) (cs:List Value),ZR u cs→av E ob nx (d_ u) false cs
 | .int k,_,h=>⟨by rw[show _=_ from h];rfl,trivial,fun _=>h⟩
 | .bool,_,h=>⟨by rw[show _=_ from h];rfl,trivial,fun _=>h⟩
 | .str,_,h=>⟨by rw[show _=_ from h];rfl,trivial,fun _=>h⟩
 | .nil,_,h=>h
 | .list e t,_,h=>h
 | .cons a b,_,⟨c,d,h,h1,h2⟩=>⟨c,d,h,mY a c h1,mY b d h2⟩
 | .st a,cs,h=>mY a cs h
 | .ptr,_,⟨v,h,h1⟩=>⟨v,h1,h⟩
theorem lV{E:Env}{ob:Nat→Ob}{nx:Nat}:∀(u:Ty) (x:u.Den) (cs:List Value),Rd E.w E.Z u x cs→av E ob nx (gU u x) false cs
 | .int k,x,cs,h=>⟨aH _ _ _ h,trivial,fun _=>h⟩
 | .bool,x,cs,h=>⟨aH _ _ _ h,trivial,fun _=>h⟩
 | .str,x,cs,h=>⟨aH _ _ _ h,trivial,fun _=>h⟩
 | .list e t,x,cs,h=>⟨aH _ _ _ h,trivial,fun _=>h⟩
 | .nil,_,_,h=>h
 | .cons a b,x,_,⟨c,d,h,h1,h2⟩=>⟨c,d,h,lV a _ c h1,lV b _ d h2⟩
 | .st a,x,cs,h=>lV a x cs h
 | .ptr,_,_,h=>(show False from h).elim
theorem lC{w:World}(t:Ty)(x:t.Den)(cs:List Value)(bs:List Nat)(h:Ow w t x cs bs):∀v,v∈cs→v.oneCell'=true:=fZ t x cs (dV t x cs bs h)
theorem kG{agg:Bool}{cs:List Value}{v:Value}(h:mkV agg cs v)(h1:∀x,x∈cs→x.oneCell'=true):v.cells.toList=cs:=by
 unfold mkV at h;cases agg with
 |true=>simp only[if_true] at h;subst h;simp[Value.cells]
 |false=>
  simp only[Bool.false_eq_true,if_false] at h;subst h;have:=h1 v (by simp);cases v<;>first|rfl|(simp[Value.oneCell'] at this)
theorem yh{E:Env}{ob:Nat→Ob}{nx:Nat}:∀(c b:Cn),aK c=some b→∀(cs:List Value),av E ob nx c false cs→
 av E ob nx b false cs∧(∀x,x∈cs→x.oneCell'=true)∧b.isAgg=c.isAgg:=by
 intro c
 induction c with
 |ro b d=>
  intro b' hb cs h;cases b with
  |none=>
   simp only[aK] at hb;split at hb
   case h_2=>cases hb
   simp only[Option.some.injEq] at hb;subst hb;refine⟨lV _ _ _ (h.2.2 trivial),fZ _ _ _ (h.2.2 trivial),?_⟩;obtain⟨ty,v⟩:=d;cases ty<;>rfl
  |some p=>simp[aK] at hb
 |bq e t=>
  intro b hb cs h;simp only[aK,Option.some.injEq] at hb;subst hb;exact⟨h,fun x hx=>by rw[show cs=_ from h] at hx;obtain rfl:=List.mem_singleton.1 hx;rfl,rfl⟩
 |h i=>
  intro b hb cs h;simp only[aK,Option.some.injEq] at hb;subst hb;exact⟨h,fun x hx=>by rw[h.2.2] at hx;obtain rfl:=List.mem_singleton.1 hx;exact h.2.1,rfl⟩
 |p i=>
  intro b hb cs h;simp only[aK,Option.some.injEq] at hb;subst hb;exact⟨h,fun x hx=>by rw[h.2.2] at hx;obtain rfl:=List.mem_singleton.1 hx;exact h.2.1,rfl⟩
 |aZ b d=>
  intro b' hb cs h;cases b with
  |none=>
   simp only[aK,Option.some.injEq] at hb;subst hb;refine⟨h,fun x hx=> ?_,rfl⟩;obtain⟨_,ad,h1,_⟩:=h;rw[h1] at hx;obtain rfl:=List.mem_singleton.1 hx;rfl
  |some p=>simp[aK] at hb
 |sub i ix path aj d=>
  intro b hb cs h;simp only[aK] at hb;split at hb
  ·simp only[Option.some.injEq] at hb;subst hb
   exact⟨h,h.1.2,rfl⟩
  ·cases hb
 |fn f caps ih=>
  intro b hb cs h;simp only[aK,Option.some.injEq] at hb;subst hb;refine⟨h,fun x hx=> ?_,rfl⟩;obtain⟨vs,h1,_⟩:=h;rw[h1] at hx;obtain rfl:=List.mem_singleton.1 hx;rfl
 |nil=>
  intro b hb cs h;simp only[aK,Option.some.injEq] at hb;subst hb;exact⟨h,fun x hx=>by rw[show cs=_ from h] at hx;simp at hx,rfl⟩
 |cons a c iha qW=>
  intro b hb cs h;simp only[aK] at hb;split at hb
  ·rename_i x y hx hy
   cases hb;obtain⟨c1,c2,h0,h1,h2⟩:=h;obtain⟨k1,k2,_⟩:=iha x hx c1 h1;obtain⟨m1,m2,_⟩:=qW y hy c2 h2;refine⟨⟨c1,c2,h0,k1,m1⟩,fun v hv=> ?_,rfl⟩;rw[h0] at hv;rcases List.mem_append.1 hv with hv|hv
   ·exact k2 v hv
   ·exact m2 v hv
  ·cases hb
 |agg c ih=>
  intro b hb cs h;simp only[aK] at hb;split at hb
  ·rename_i x hx
   cases hb;obtain⟨k1,k2,_⟩:=ih x hx cs h;exact⟨k1,k2,rfl⟩
  ·cases hb
 |cst v=>
  intro b hb cs h;simp only[aK,Option.some.injEq] at hb;subst hb;exact⟨h,fun x hx=>by rw[h.2] at hx;obtain rfl:=List.mem_singleton.1 hx;exact h.1,rfl⟩
 |any=>intro b hb;simp[aK] at hb
 |pre=>intro b hb;simp[aK] at hb
 |addr=>intro b hb;simp[aK] at hb
 |b_=>intro b hb;simp[aK] at hb
 |dead=>intro b hb;simp[aK] at hb
theorem p_{E:Env}{ob:Nat→Ob}{nx:Nat}{c b:Cn}{v:Value}(hb:aK c=some b)(h:ak E ob nx c v):
 ∃cs,av E ob nx b false cs∧v.cells.toList=cs∧(∀x,x∈cs→x.oneCell'=true)∧mkV b.isAgg cs v:=by
 obtain⟨cs,h1,h2⟩:=eD h (by intro e;subst e;simp[aK] at hb);obtain⟨k1,k2,k3⟩:=yh c b hb cs h1;exact⟨cs,k1,kG h2 k2,k2,by rw[k3];exact h2⟩
section
variable{P:Program}{R:Type}{C:Ctx}{o:Oper}{st:St}{k:St→Option R}{r:R}{E0 E:Env}{a:Act}{K:Act→World→Prop}{Q:Exit→Act→World→Prop}{g:Bool}
theorem rX{w:World}{ob:Ob}{c:Cn}{v:Value}{bs:List Nat}(hst:still C o=false)(hk:az C o c (st.push ob) k=some r)(h:Inv C.N E0 E st a)
 (hrun:(execOp a.eval o).run P E.w= .ok (.value v) w) (hw:aA E.w w)
 (hb:∀b,b∈bs→E.w.heap.size≤b∧b<w.heap.size) (hn:bs.Nodup)
 (ho:Ev E st.ob st.nx ⟨w,E.Z,upd E.af st.nx v,upd E.B st.nx bs⟩ (st.push ob).ob (st.push ob).nx→aJ ⟨w,E.Z,upd E.af st.nx v,upd E.B st.nx bs⟩ (st.push ob).ob (st.push ob).nx st.nx ob)
 (hc:c= .h st.nx∨c= .p st.nx) (h1:v.oneCell'=true)
 (hK:∀st' E' v,k st'=some r→Inv C.N E0 E' st' (a.put o.dst v)→aL P C g o a v E.w E'.w→K (a.put o.dst v) E'.w):o.wp P a E.w K Q:=by
 have hi:=h.push hw ob v bs hb hn ho;refine eF hrun (eP (G:=fun a'=>K a' w) hk hi ?_ fun st' hk' hi'=>hK st' _ _ hk' hi' (.loud hst (fun _=>hw) (fun _=>hw)));have e1:(upd E.af st.nx v) st.nx=v:=upd_same _ _ _;rcases hc with rfl|rfl
 ·exact⟨[v],⟨Nat.lt_succ_self _,by simpa only[e1] using h1,by simp only[e1]⟩,rfl⟩
 ·exact⟨[v],⟨Nat.lt_succ_self _,by simpa only[e1] using h1,by simp only[e1]⟩,rfl⟩
theorem vY{u:Ty}{c:Cn}{t:TypeId}{cs:Array Value}(hst:still C o=false)(hk:az C o (.p st.nx) (st.push (.box u c)) k=some r)(h:Inv C.N E0 E st a)
 (hrun:(execOp a.eval o).run P E.w= .ok (.value (.pointer (some ⟨E.w.heap.size,0,none⟩))) (E.w.alloc (.cells cs t)))
 (hf:fits u c=true) (hc:av E st.ob st.nx c false cs.toList)
 (hK:∀st' E' v,k st'=some r→Inv C.N E0 E' st' (a.put o.dst v)→aL P C g o a v E.w E'.w→K (a.put o.dst v) E'.w):o.wp P a E.w K Q:=by
 refine rX (bs:=[E.w.heap.size]) hst hk h hrun (aA.alloc _ _) ?_ (by simp) ?_ (.inr rfl) rfl hK
 ·intro b hb
  obtain rfl:=List.mem_singleton.1 hb;exact⟨Nat.le_refl _,by simp⟩
 ·intro ev
  refine⟨E.w.heap.size,cs.toList,t,upd_same _ _ _,?_,eG ev _ _ _ hc,hf,upd_same _ _ _⟩;simpa using heap_alloc_new E.w (.cells cs t)
theorem xR(ay:∀t u,C.tt t=some u→aT P t u){t:TypeId}{u:Ty}(ho:o.op= .alloc t)(hT:C.tt t=some u)(hf:fits u (d_ u)=true)
 (hk:az C o (.p st.nx) (st.push (.box u (d_ u))) k=some r) (h:Inv C.N E0 E st a)
 (hK:∀st' E' v,k st'=some r→Inv C.N E0 E' st' (a.put o.dst v)→aL P C g o a v E.w E'.w→K (a.put o.dst v) E'.w):o.wp P a E.w K Q:=by
 obtain⟨i,z,k1,k2,k3,k4,_⟩:=(ay _ _ hT).info
 exact vY (cs:=z.cells) (t:=t) (by simp[still,ho]) hk h (by unfold execOp;simp[ho,Instr.alloc,zeroValue,typeInfo,k1,k3,newVar,newRow]) hf
  (mY _ _ k4) hK
theorem yg{t:TypeId}{u:Ty}{X:Operand}{c b:Cn}(ho:o.op= .box t X)(hb:aK c=some b)(hf:fits u b=true)
 (hk:az C o (.p st.nx) (st.push (.box u b)) k=some r) (h:Inv C.N E0 E st a) (hx:ak E st.ob st.nx c (a.eval X))
 (hK:∀st' E' v,k st'=some r→Inv C.N E0 E' st' (a.put o.dst v)→aL P C g o a v E.w E'.w→K (a.put o.dst v) E'.w):o.wp P a E.w K Q:=by
 obtain⟨cs,h1,h2,_⟩:=p_ hb hx;exact vY (cs:=(a.eval X).cells) (t:=t) (by simp[still,ho]) hk h (by unfold execOp;simp[ho,Instr.box,newVar,newRow]) hf (by rw[h2];exact h1) hK
theorem Ai(z:Array Value)(n:Nat)(hz:0<z.size):(madeCells z (n*z.size)).toList=(List.replicate n z.toList).flatten:=by
 apply List.ext_getElem?
 intro i;have hl:(List.replicate n z.toList).flatten.length=n*z.size:=by simp
 by_cases hi:i<n*z.size
 ·rw[List.getElem?_eq_getElem (by simpa[madeCells] using hi),List.getElem?_eq_getElem (by rw[hl];exact hi)]
  congr 1
  have:∀(n i:Nat) (h:i<(List.replicate n z.toList).flatten.length),(List.replicate n z.toList).flatten[i]=z[i%z.size]'(Nat.mod_lt _ hz):=by
   intro n
   induction n with
   |zero=>intro i h;simp at h
   |succ n ih=>
    intro i h;simp only[List.replicate_succ,List.flatten_cons];rw[List.getElem_append];split
    ·rename_i hlt
     simp at hlt;simp[Nat.mod_eq_of_lt hlt]
    ·rename_i hge
     simp at hge;simp only[Array.length_toList];rw[ih (i-z.size)]
     congr 1
     rw[←Nat.mod_eq_sub_mod hge]
  rw[this n i];have hlt:=Nat.mod_lt i hz;simp[madeCells,hlt]
 ·rw[List.getElem?_eq_none (by simpa[madeCells] using Nat.le_of_not_lt hi),List.getElem?_eq_none (by rw[hl];omega)]
theorem tJ{α:Type}{R:α→List Value→List Nat→Prop}{x:α}{c:List Value}(h:R x c []):∀n,bg R (List.replicate n x) (List.replicate n c).flatten []
 |0=>⟨rfl,rfl⟩
 |n+1=>⟨c,(List.replicate n c).flatten,[],[],rfl,rfl,h,tJ h n⟩
theorem vN(ay:∀t u,C.tt t=some u→aT P t u){t:TypeId}{X Y:Operand}{n:Int}{k1 k2:IntKind}(ho:o.op= .makeSlice t X Y)
 (hk:jr C o t n st k=some r) (h:Inv C.N E0 E st a) (hx:a.eval X= .int k1 n) (hy:a.eval Y= .int k2 n)
 (hK:∀st' E' v,k st'=some r→Inv C.N E0 E' st' (a.put o.dst v)→aL P C g o a v E.w E'.w→K (a.put o.dst v) E'.w):o.wp P a E.w K Q:=by
 unfold jr at hk;split at hk
 ·rename_i e u hT
  split at hk
  case h_2=>cases hk
  rename_i hp;cases hl:rR n with
  |false=>simp[hl] at hk
  |true=>
   simp only[hl,cond_true] at hk;unfold rR at hl;rw[Bool.and_eq_true] at hl;have h0:=of_decide_eq_true hl.1;have h1:=of_decide_eq_true hl.2;obtain⟨m,rfl⟩:=Int.eq_ofNat_of_zero_le h0;have hd:=(ay _ _ hT).desc;simp only at hd;obtain⟨i,z,q1,q2,q3,q4,q5,q6,_⟩:=hd.2.1;have hm:m≤4294967296:=by omega
   obtain⟨w',r1,r2,r3⟩:=run_make_full (P:=P) E.w 0 t e i z u.size hd.1 q1 q3 q2 k1 k2 m (by
    have:=Nat.mul_le_mul q6 hm;omega) (by simp only[maxLen];omega) (Nat.zero_le _)
   have hzs:z.cells.size=u.size:=by have:=jM _ _ q4;simpa using this
   refine rX (bs:=[E.w.heap.size]) (v:= .slice (some ⟨E.w.heap.size,0,none⟩) m m) (by simp[still,ho]) hk h (by unfold execOp;simp[ho,hx,hy,r1])
    ⟨r3.os,r3.tape,r3.output,r3.size,fun b hb=>r3.block b hb (by simp)⟩ ?_ (by simp) ?_ (.inl rfl) rfl hK
   ·intro b hb
    obtain rfl:=List.mem_singleton.1 hb;exact⟨Nat.le_refl _,(r2.lt _ rfl).2⟩
   ·intro ev
    have hzl:(madeCells z.cells (m*u.size)).toList=(List.replicate m z.cells.toList).flatten:=by
     rw[←hzs];exact Ai _ _ (by omega)
    refine⟨.slice (some ⟨E.w.heap.size,0,none⟩) m m,(List.replicate m z.cells.toList).flatten,[],by simp[upd_same],?_,?_,?_⟩
    ·rw[←hzl];simpa using r2
    ·exact tJ (ny u _ hp q4) _
    ·simp[upd_same,Value.ownBlock]
 ·cases hk
end
end Go.Am
end
section
namespace Go.Am
theorem uF(off:Nat):∀(vs:List Value) (k:Nat) (cells:Array Value),off+k+vs.length≤cells.size→
 ((vs.zipIdx k).foldl (fun cs x=>cs.setIfInBounds (off+x.2) x.1) cells).toList=splice cells.toList (off+k) vs
 |[],k,cells,h=>by simp[splice]
 |v::vs,k,cells,h=>by
  have h:off+k+(vs.length+1)≤cells.size:=h;simp only[List.zipIdx_cons,List.foldl_cons];rw[uF off vs (k+1) _ (by simp;omega)];simp only[splice,Array.toList_setIfInBounds,List.length_cons];have hlt:off+k<cells.toList.length:=by simp;omega
  apply List.ext_getElem?
  intro i;have e1:(cells.toList.set (off+k) v).take (off+(k+1))=cells.toList.take (off+k)++[v]:=by
   rw[show off+(k+1)=(off+k)+1 by omega,List.take_succ_eq_append_getElem (by simpa using hlt),List.take_set_of_le (Nat.le_refl _)];simp
  have e2:(cells.toList.set (off+k) v).drop (off+(k+1)+vs.length)=cells.toList.drop (off+k+(vs.length+1)):=by
   rw[List.drop_set_of_lt (by omega)]
   congr 1
   omega
  rw[e1,e2];simp
theorem uD{place:Nat→Option (Nat×Nat)}{cells:Array Value}{i off size:Nat}{v:Value}{rest:List (Nat×Value)}(hp:place i=some (off,size))
 (hs:v.cells.size=size) (hl:off+size≤cells.size):Instr.fill place cells ((i,v)::rest)=Instr.fill place (splice cells.toList off v.cells.toList).toArray rest:=by
 have h:v.cells.zipIdx.foldl (fun cs x=>cs.setIfInBounds (off+x.2) x.1) cells=(splice cells.toList off v.cells.toList).toArray:=by
  have:=uF off v.cells.toList 0 cells (by simp[hs];exact hl);rw[←Array.toList_inj];simp only[Nat.add_zero] at this;rw[←this,←Array.foldl_toList,Array.toList_zipIdx]
 conv=>lhs;unfold Instr.fill
 simp only[hp];have h2:(v.cells.size≠size||decide (off+v.cells.size>cells.size))=false:=by simp[hs];omega
 rw[if_neg (by simp[hs];omega)];rw[←h]
def jJ(E:Env)(ob:Nat→Ob)(nx:Nat)(a:Act):List (Nat×Operand)→List (Nat×Cn)→Prop
 |[],[]=>True
 |x::r,y::l=>x.1=y.1∧ak E ob nx y.2 (a.eval x.2)∧jJ E ob nx a r l
 |_,_=>False
theorem j5{C:Ctx}{st:St}{E:Env}{a:Act}(hr:aR E st a.tmps):∀(ps:List (Nat×Operand)) (l:List (Nat×Cn)),gT C st ps=some l→jJ E st.ob st.nx a ps l
 |[],l,h=>by simp only[gT,Option.some.injEq] at h;subst h;trivial
 |x::r,l,h=>by
  simp only[gT] at h;split at h
  ·rename_i c l' hc hl
   cases h;exact⟨rfl,aW hc hr,j5 hr r l' hl⟩
  ·cases h
def FR(E:Env)(ob:Nat→Ob)(nx:Nat):Ty→Cn→List Value→Prop
 | .cons a b,.cons x y,cs=>∃c d,cs=c++d∧c.length=a.size∧x.size=a.size∧av E ob nx x false c∧FR E ob nx b y d
 | .nil,.nil,cs=>cs=[]
 |_,_,_=>False
def Ty.row:Ty→Bool
 | .cons _ b=>b.row
 | .nil=>true
 |_=>false
theorem o9:∀(u:Ty),(d_ u).size=u.size
 | .int _| .bool| .str| .nil| .list _ _| .ptr=>rfl
 | .cons a b=>by simp[d_,Cn.size,Ty.size,o9 a,o9 b]
 | .st a=>o9 a
theorem tq{E:Env}{ob:Nat→Ob}{nx:Nat}:∀(u:Ty) (cs:List Value),u.row=true→ZR u cs→FR E ob nx u (d_ u) cs
 | .cons a b,_,hr,⟨c,d,h,h1,h2⟩=>⟨c,d,h,jM a c h1,o9 a,mY a c h1,tq b d hr h2⟩
 | .nil,_,_,h=>h
 | .int _,_,hr,_| .bool,_,hr,_| .str,_,hr,_| .list _ _,_,hr,_| .st _,_,hr,_| .ptr,_,hr,_=>by simp[Ty.row] at hr
theorem sW{E:Env}{ob:Nat→Ob}{nx:Nat}:∀(u:Ty) (c:Cn) (cs:List Value),FR E ob nx u c cs→av E ob nx c false cs
 | .cons a b,.cons x y,_,⟨c,d,h,_,_,h1,h2⟩=>⟨c,d,h,h1,sW b y d h2⟩
 | .nil,.nil,_,h=>h
theorem xF{E:Env}{ob:Nat→Ob}{nx:Nat}:∀(c b:Cn),aK c=some b→∀cs,av E ob nx b false cs→cs.length=b.size:=by
 have ex:∀(t:Ty) (x:t.Den) (cs:List Value),t.fM=true→av E ob nx (gU t x) false cs→cs.length=(gU t x).size:=by
  intro t
  induction t with
  |cons a b iha ihb=>
   intro x cs hp h;simp only[Ty.fM,Bool.and_eq_true] at hp;obtain⟨c1,c2,h0,h1,h2⟩:=h;rw[h0,List.length_append,iha _ _ hp.1 h1,ihb _ _ hp.2 h2];rfl
  |st a ih=>intro x cs hp h;exact ih x cs hp h
  |nil=>intro x cs hp h;rw[show cs=[] from h];rfl
  |ptr=>intro x cs hp h;simp[Ty.fM] at hp
  |int k=>intro x cs hp h;exact h.1
  |bool=>intro x cs hp h;exact h.1
  |str=>intro x cs hp h;exact h.1
  |list e t _=>intro x cs hp h;exact h.1
 intro c
 induction c with
 |ro b d=>
  intro b' hb cs h;cases b with
  |none=>
   simp only[aK] at hb;split at hb
   ·rename_i hp
    simp only[Option.some.injEq] at hb;subst hb;exact ex d.ty d.v cs hp h
   ·cases hb
  |some p=>simp[aK] at hb
 |bq e t=>intro b hb cs h;simp only[aK,Option.some.injEq] at hb;subst hb;rw[show cs=_ from h];rfl
 |h i=>intro b hb cs h;simp only[aK,Option.some.injEq] at hb;subst hb;rw[h.2.2];rfl
 |p i=>intro b hb cs h;simp only[aK,Option.some.injEq] at hb;subst hb;rw[h.2.2];rfl
 |aZ b d=>
  intro b' hb cs h;cases b with
  |none=>simp only[aK,Option.some.injEq] at hb;subst hb;obtain⟨_,ad,h1,_⟩:=h;rw[h1];rfl
  |some p=>simp[aK] at hb
 |fn f caps ih=>intro b hb cs h;simp only[aK,Option.some.injEq] at hb;subst hb;obtain⟨vs,h1,_⟩:=h;rw[h1];rfl
 |nil=>intro b hb cs h;simp only[aK,Option.some.injEq] at hb;subst hb;rw[show cs=_ from h];rfl
 |cons a c iha qW=>
  intro b hb cs h;simp only[aK] at hb;split at hb
  ·rename_i x y hx hy
   cases hb;obtain⟨c1,c2,h0,h1,h2⟩:=h;rw[h0,List.length_append,iha x hx c1 h1,qW y hy c2 h2];rfl
  ·cases hb
 |agg c ih=>
  intro b hb cs h;simp only[aK] at hb;split at hb
  ·rename_i x hx
   cases hb;exact ih x hx cs h
  ·cases hb
 |cst v=>intro b hb cs h;simp only[aK,Option.some.injEq] at hb;subst hb;rw[h.2];rfl
 |any=>intro b hb;simp[aK] at hb
 |pre=>intro b hb;simp[aK] at hb
 |addr=>intro b hb;simp[aK] at hb
 |sub i ix path aj d=>
  intro b hb cs h;simp only[aK] at hb;split at hb
  ·simp only[Option.some.injEq] at hb;subst hb
   exact h.1.1
  ·cases hb
 |b_=>intro b hb;simp[aK] at hb
 |dead=>intro b hb;simp[aK] at hb
theorem sZ{E:Env}{ob:Nat→Ob}{nx:Nat}{b:Cn}{vs:List Value}(hv:av E ob nx b false vs)(hl:vs.length=b.size):∀(u:Ty) (c d:Cn) (n:Nat) (cs:List Value),FR E ob nx u c cs→
 gF (fun old=>match Nat.beq b.size old.size with|true=>some b|false=>none) c n=some d→
 ∃o t,u.at n=some (o,t)∧vs.length=t.size∧o+t.size≤cs.length∧FR E ob nx u d (splice cs o vs)
 | .cons a ub,.cons x y,d,0,cs,⟨c1,c2,h,h1,h2,h3,h4⟩,hs=>by
   simp only[gF] at hs;split at hs
   ·rename_i z hz
    cases hs;split at hz
    ·rename_i hb
     cases hz;have hb:=Nat.eq_of_beq_eq_true hb;refine⟨0,a,rfl,by omega,by rw[h];simp;omega,vs,c2,?_,by omega,by omega,hv,h4⟩;rw[h];simp only[splice,List.take_zero,List.nil_append,Nat.zero_add];rw[List.drop_append_of_le_length (by omega),List.drop_of_length_le (by omega)];simp
    ·cases hz
   ·cases hs
 | .cons a ub,.cons x y,d,n+1,cs,⟨c1,c2,h,h1,h2,h3,h4⟩,hs=>by
   simp only[gF] at hs;split at hs
   ·rename_i z hz
    cases hs;obtain⟨o,t,k1,k2,k3,k4⟩:=sZ hv hl ub y z n c2 h4 hz;refine⟨a.size+o,t,by simp[Ty.at,k1],k2,by rw[h];simp;omega,c1,splice c2 o vs,?_,h1,h2,h3,k4⟩;rw[h];simp only[splice];rw[List.take_append,List.take_of_length_le (by omega),h1,show a.size+o-a.size=o by omega,List.drop_append,List.drop_of_length_le (by omega),h1,show a.size+o+vs.length-a.size=o+vs.length by omega];simp
   ·cases hs
 | .nil,.nil,d,n,cs,_,hs=>by cases n<;>simp[gF] at hs
theorem wL{P:Program}:∀(fields:List Field) (off:Nat) (fs:Ty),kZ P fields off fs→fs.row=true∧∃places,fields.mapM (fun f=>(P.info? f.type).map fun i=>(f.offset,i.size))=some places∧
 ∀n o t,fs.at n=some (o,t)→places[n]?=some (off+o,t.size)
 |[],off,fs,h=>by
  cases fs with
  |nil=>exact⟨rfl,[],by simp,fun n o t h=>by simp[Ty.at] at h⟩
  |_=>exact h.elim
 |f::r,off,.cons a b,⟨h1,⟨i,h2,h3⟩,_,_,_,h5⟩=>by
  obtain⟨k0,places,k1,k2⟩:=wL r (off+a.size) b h5;refine⟨k0,(off,a.size)::places,by simp[List.mapM_cons,h2,h3,h1,k1],fun n o t hn=> ?_⟩;cases n with
  |zero=>simp only[Ty.at,Option.some.injEq,Prod.mk.injEq] at hn;obtain⟨rfl,rfl⟩:=hn;rfl
  |succ n=>
   simp only[Ty.at] at hn;split at hn
   ·rename_i o' t' hb
    simp only[Option.some.injEq,Prod.mk.injEq] at hn;obtain⟨rfl,rfl⟩:=hn;have:=k2 n o' t' hb;simpa[Nat.add_assoc] using this
   ·cases hn
 |_::_,_,.int _,h|_::_,_,.bool,h|_::_,_,.str,h|_::_,_,.list _ _,h|_::_,_,.nil,h|_::_,_,.st _,h|_::_,_,.ptr,h=>h.elim
theorem uE{E:Env}{ob:Nat→Ob}{nx:Nat}{a:Act}{place:Nat→Option (Nat×Nat)}{fs:Ty}(hp:∀n o t,fs.at n=some (o,t)→place n=some (o,t.size)):
 ∀(ps:List (Nat×Operand)) (l:List (Nat×Cn)) (c d:Cn) (cells:Array Value),jJ E ob nx a ps l→mR l c=some d→FR E ob nx fs c cells.toList→
 ∃cells',Instr.fill place cells (ps.map fun(i,x)=>(i,a.eval x))=some cells'∧FR E ob nx fs d cells'.toList
 |[],[],c,d,cells,_,hs,h=>by
  simp only[mR,Option.some.injEq] at hs;subst hs;exact⟨cells,rfl,h⟩
 |x::r,y::l,c,d,cells,⟨h1,h2,h3⟩,hs,h=>by
  simp only[mR] at hs;split at hs
  ·rename_i b hb
   split at hs
   ·rename_i c' hc'
    obtain⟨vs,k1,k2,k3,_⟩:=p_ hb h2;obtain⟨o,t,m1,m2,m3,m4⟩:=sZ k1 (xF _ _ hb _ k1) fs c c' y.1 cells.toList h hc';obtain⟨cells',n1,n2⟩:=uE hp r l c' d (splice cells.toList o vs).toArray h3 hs (by simpa using m4);refine⟨cells',?_,n2⟩;obtain⟨xi,xo⟩:=x;simp only at h1 h2 k2;subst h1;simp only[List.map_cons];rw[uD (hp _ _ _ m1) (by rw[←m2,←k2];simp) (by simpa using m3),k2];exact n1
   ·cases hs
  ·cases hs
section
variable{P:Program}{R:Type}{C:Ctx}{o:Oper}{st:St}{k:St→Option R}{r:R}{E0 E:Env}{a:Act}{K:Act→World→Prop}{Q:Exit→Act→World→Prop}{g:Bool}
theorem yu(ay:∀t u,C.tt t=some u→aT P t u){t:TypeId}{ps:Array (Nat×Operand)}{l:List (Nat×Cn)}{c:Cn}(ho:o.op= .build t ps)(hl:jJ E st.ob st.nx a ps.toList l)
 (hb:qb C t l=some c) (hk:az C o c st k=some r) (h:Inv C.N E0 E st a)
 (hK:∀st' E' v,k st'=some r→Inv C.N E0 E' st' (a.put o.dst v)→aL P C g o a v E.w E'.w→K (a.put o.dst v) E'.w):o.wp P a E.w K Q:=by
 unfold qb at hb;split at hb
 ·rename_i fs hT
  split at hb
  ·rename_i c' hc'
   split at hb
   ·rename_i hf
    cases hb;have ht:=ay _ _ hT;have hd:=ht.desc;simp only at hd;obtain⟨fields,h1,h2,_⟩:=hd;obtain⟨i,z,k1,k2,k3,k4,_⟩:=ht.info;obtain⟨hrow,places,p1,p2⟩:=wL _ _ _ h2;have k4:ZR fs z.cells.toList:=k4;obtain⟨cells',q1,q2⟩:=uE (E:=E) (ob:=st.ob) (nx:=st.nx) (a:=a) (place:=fun n=>places[n]?) (fs:=fs) (fun n o t hn=>by simpa using p2 n o t hn) ps.toList l _ _ z.cells hl hc' (tq fs _ hrow k4);have hbt:P.built t (ps.map fun(i,x)=>(i,a.eval x)).toList=some cells':=by
     unfold Program.built;simp only[k1,h1,k3,p1];rw[←q1];simp
    have hv:ak E st.ob st.nx (.agg c') (.agg cells'):=⟨cells'.toList,sW fs c' _ q2,by simp[mkV,Cn.isAgg]⟩;exact aQ hk h (fun u _=>by unfold execOp;simp[ho,run_build u t _ cells' hbt]) hv hK
   ·cases hb
  ·cases hb
 ·cases hb
end
end Go.Am
end
section
open Go.Lib
namespace Go.Am
inductive Src(P:Program)(w:World)(t2:TypeId)(e:TypeId)(size:Nat)(t:TypeId):Value→Nat→List Value→Prop
 |row (ad:Addr) (m c:Nat) (news:List Value) (ht:t2=t) (hl:news.length=m*size) (hn:∀j u,news[j]?=some u→w.cell? (ad.add j)=some u) (h1:∀u,u∈news→u.oneCell'=true):
  Src P w t2 e size t (.slice (some ad) m c) m news
 |none (ht:t2=t):Src P w t2 e size t (.slice none 0 0) 0 []
 |str (s:ByteArray) (hu:P.underlying t2=some .string) (h1:size=1) (hz:∃i,P.info? e=some i∧i.zero=some (.int .u8 0)∧i.bytes=1):Src P w t2 e size t (.string s) s.size (strCells s)
theorem wU{P:Program}{w:World}{t t2 ty e:TypeId}{u:Ty}{v x:Value}{n m:Nat}{xs news:List Value}(ht:P.underlying t=some (.slice e))(hi:gJ P e u)
 (hown:w.ownsRow 0 e u.size v n xs) (hs:Src P w t2 e u.size t x m news) (hlim:n+m≤4294967296):
 ∃v' w',(Builtin.append_ #[t,t2] ty #[v,x]).run P w= .ok v' w'∧w'.ownsRow 0 e u.size v' (n+m) (xs++news)∧w.grownBy w' v.ownBlock∧
  (v'.ownBlock=v.ownBlock∨v'.ownBlock=some w.heap.size)∧v'.oneCell'=true:=by
 obtain⟨i,z,k1,k2,k3,k4,k5,k6,_⟩:=hi;have hzs:z.cells.size=u.size:=by have:=jM _ _ k4;simpa using this
 have one:∀{w':World} {v':Value} {n':Nat} {xs':List Value},w'.ownsRow 0 e u.size v' n' xs'→v'.oneCell'=true:=by
  intro w' v' n' xs' h;rcases h.2 with⟨rfl,_⟩|⟨g,cap,cur,rfl,_⟩<;>rfl
 cases hs with
 |row ad m c news ay hl hn h1=>
  subst ay
  obtain⟨v',w',r1,r2,r3,_,r5⟩:=run_append_own_at (P:=P) w 0 t2 ty e i z u.size i.bytes ht k1 k3 k2 rfl hzs k5 v n xs hown ad m c news hl hn h1
   (by simp only[maxLen];omega) (by have:=Nat.mul_le_mul hlim k6;omega) (Nat.zero_le _)
  exact⟨v',w',r1,r2,r3,r5,one r2⟩
 |none ay=>
  subst ay;exact⟨v,w,run_append_owned_none (P:=P) (w:=w) 0 t2 ty e i u.size ht k1 v n xs hown,by simpa using hown,⟨rfl,rfl,rfl,Nat.le_refl _,fun _ _ _=>rfl⟩,.inl rfl,one hown⟩
 |str s hu h1 hz=>
  obtain⟨i',q1,q2,q3⟩:=hz;rw[k1] at q1;obtain rfl:=Option.some.inj q1;rw[h1] at hown k2⊢;obtain⟨v',w',r1,r2,r3,r4⟩:=run_append_own_string (P:=P) (w:=w) (ty:=ty) 0 t t2 e i ht hu k1 q2 k2 q3 v n xs hown s (by simp only[maxLen];omega) (by omega) (Nat.zero_le _);refine⟨v',w',r1,r2,r3,?_,by rw[h1] at one;exact one r2⟩;rcases hown.2 with⟨rfl,rfl⟩|⟨g,cap,cur,rfl,hbg,hg,hnc,hcm,hcs,htake⟩
  ·by_cases hm:s.size=0
   ·have:=r4.2 ⟨rfl,hm⟩
    rw[this];exact .inl rfl
   ·right
    have hr:=run_append_nil_string (P:=P) w t t2 ty e i (.int .u8 0) ht hu k1 q2 s (by omega) (by omega) (by rw[q3];omega);rw[hr] at r1;simp only[Result.ok.injEq] at r1;rw[←r1.1];rfl
  ·by_cases hroom:n+s.size≤cap
   ·left
    have hcs':cur.size=cap:=by simpa using hcs
    have hr:=run_append_room_string (P:=P) w t t2 ty e i ht hu k1 k2 g n cap cur hg s hroom (by omega);rw[hr] at r1;simp only[Result.ok.injEq] at r1;rw[←r1.1];rfl
   ·right
    have holds:∀j u,xs[j]?=some u→w.cell? ((⟨g,0,none⟩:Addr).add j)=some u:=hown.cells (g:=g) rfl;have hr:=run_append_grow_string (P:=P) w t t2 ty e i (.int .u8 0) ht hu k1 q2 ⟨g,0,none⟩ n cap xs (by rw[k2];simpa using hown.1) holds s (by omega) (by omega) (by rw[q3];exact growslice_fits (by omega) (by omega));rw[hr] at r1;simp only[Result.ok.injEq] at r1;rw[←r1.1];rfl
theorem pI{α:Type}{R:α→List Value→List Nat→Prop}:∀(xs:List α) (f:List Value) (b:List Nat) (ys:List α) (g:List Value) (d:List Nat),bg R xs f b→bg R ys g d→bg R (xs++ys) (f++g) (b++d)
 |[],f,b,ys,g,d,h,k=>by obtain⟨rfl,rfl⟩:=h;simpa using k
 |x::xs,f,b,ys,g,d,⟨c,f',b1,b2,h1,h2,h3,h4⟩,k=>⟨c,f'++g,b1,b2++d,by rw[h1];simp,by rw[h2];simp,h3,pI xs f' b2 ys g d h4 k⟩
theorem pg{w w':World}{S:Nat→Prop}{t:Ty}(hf:t.flat=true):∀(xs:List t.Den) (f:List Value),aU (Rd w S t) xs f→bg (Ow w' t) xs f []
 |[],f,h=>⟨h,rfl⟩
 |x::xs,f,⟨c,g,h1,h2,h3⟩=>⟨c,g,[],[],h1,rfl,jK t hf x c h2,pg hf xs g h3⟩
theorem jH{w w':World}{t:Ty}{xs:List t.Den}{f:List Value}{nb:List Nat}(h:bg (Ow w t) xs f nb)(hw:∀b,b∈nb→w'.heap[b]?=w.heap[b]?):bg (Ow w' t) xs f nb:=
 pJ xs f nb (fun x c b hb k=>gL t x c b (fun kk hk=>hw kk (hb kk hk)) k) h
section
variable{P:Program}{R:Type}{C:Ctx}{o:Oper}{st:St}{k:St→Option R}{r:R}{E0 E:Env}{a:Act}{K:Act→World→Prop}{Q:Exit→Act→World→Prop}{g:Bool}
theorem x8{t t2 e:TypeId}{u:Ty}{S X:Operand}{xs ys:List u.Den}{v x:Value}{f1 f2:List Value}{gZ fK:List Nat}{old gone:Option Nat}
 (ho:o.op= .call {callee:= .builtin .append,args:= #[S,X],argTypes:= #[t,t2]}) (hgf:g=false) (hS:a.eval S=v) (hX:a.eval X=x)
 (ht:P.underlying t=some (.slice e)) (hi:gJ P e u) (h:Inv C.N E0 E st a)
 (hown:E.w.ownsRow 0 e u.size v xs.length f1) (h1:bg (Ow E.w u) xs f1 gZ) (hold:match old with|some i=>E.B i=v.ownBlock.toList++gZ|none=>v.ownBlock=none∧gZ=[])
 (hs:Src P E.w t2 e u.size t x ys.length f2) (h2:bg (Ow E.w u) ys f2 fK) (iJ:match gone with|some j=>(∃l,E.B j=l++fK)∧old≠some j|none=>fK=[])
 (hlim:lim (xs.length+ys.length)=true) (aG:Nat→Ob) (gv:∀j,aG j=if(old==some j||gone==some j) then .dead else st.ob j)
 (hk:az C o (.h st.nx) ⟨st.sl,upd aG st.nx (.sl .own 0 e u (xs++ys)),st.nx+1⟩ k=some r)
 (hK:∀st' E' v,k st'=some r→Inv C.N E0 E' st' (a.put o.dst v)→aL P C g o a v E.w E'.w→K (a.put o.dst v) E'.w):o.wp P a E.w K Q:=by
 obtain⟨v',w',r1,r2,r3,r4,r5⟩:=wU (ty:=o.type) ht hi hown hs (Nat.le_of_ble_eq_true hlim);have Aw:=hown.lt;have hvB:∀b,v.ownBlock=some b→∃i,old=some i∧b∈E.B i:=by
  intro b hb;cases hO:old with
  |none=>rw[hO] at hold;rw[hold.1] at hb;cases hb
  |some i=>rw[hO] at hold;exact⟨i,rfl,by rw[hold];simp[hb]⟩
 have hsame:∀b,b<E.w.heap.size→v.ownBlock≠some b→w'.heap[b]?=E.w.heap[b]?:=fun b hb hne=>r3.block b hb (fun e=>hne e.symm);have hn1:∀b,b∈gZ→v.ownBlock≠some b:=by
  intro b hb e;obtain⟨i,hi',hbi⟩:=hvB b e;rw[hi'] at hold;have:=h.rep.nd i;rw[hold,e] at this;simp at this;exact this.1 hb
 have hb1:∀b,b∈gZ→∃i,old=some i∧b∈E.B i:=by
  intro b hb;cases hO:old with
  |none=>rw[hO] at hold;rw[hold.2] at hb;simp at hb
  |some i=>rw[hO] at hold;exact⟨i,rfl,by rw[hold];simp[hb]⟩
 have hb2:∀b,b∈fK→∃j,gone=some j∧b∈E.B j∧old≠some j:=by
  intro b hb;cases hG:gone with
  |none=>rw[hG] at iJ;rw[iJ] at hb;simp at hb
  |some j=>rw[hG] at iJ;obtain⟨⟨l,hl⟩,hne⟩:=iJ;exact⟨j,rfl,by rw[hl];simp[hb],hne⟩
 have hn2:∀b,b∈fK→v.ownBlock≠some b:=by
  intro b hb e;obtain⟨i,hi',hbi⟩:=hvB b e;obtain⟨j,hj,hbj,hne⟩:=hb2 b hb;exact h.rep.dj i j b (fun ee=>hne (by rw[←ee];exact hi')) hbi hbj
 have hi':=h.swap (w:=w') (fun j=>old==some j||gone==some j)
  ⟨r3.os,r3.tape,r3.output,r3.size,fun b hb hno=>hsame b hb (fun e=>by obtain⟨i,_,hbi⟩:=hvB b e;exact hno i hbi)⟩
  (fun j hj b hb=>hsame b (h.rep.bb j b hb).1 (fun e=>by
   obtain⟨i,hi',hbi⟩:=hvB b e;have hne:i≠j:=fun ee=>by subst ee;simp[hi'] at hj
   exact h.rep.dj i j b hne hbi hb))
  (.sl .own 0 e u (xs++ys)) v' (v'.ownBlock.toList++(gZ++fK))
  (by
   intro b hb;rcases List.mem_append.1 hb with hb|hb
   ·have hb:v'.ownBlock=some b:=by simpa using hb
    refine⟨?_,(r2.lt b hb).2⟩;rcases r4 with h4|h4
    ·rw[h4] at hb
     obtain⟨i,hi',hbi⟩:=hvB b hb;exact .inl ⟨i,by simp[hi'],hbi⟩
    ·rw[h4] at hb
     obtain rfl:=Option.some.inj hb;exact .inr (Nat.le_refl _)
   ·rcases List.mem_append.1 hb with hb|hb
    ·obtain⟨i,hi',hbi⟩:=hb1 b hb
     exact⟨.inl ⟨i,by simp[hi'],hbi⟩,Nat.lt_of_lt_of_le (h.rep.bb i b hbi).1 r3.size⟩
    ·obtain⟨j,hj,hbj,_⟩:=hb2 b hb
     exact⟨.inl ⟨j,by simp[hj],hbj⟩,Nat.lt_of_lt_of_le (h.rep.bb j b hbj).1 r3.size⟩)
  (by
   have d1:gZ.Nodup:=by
    cases hO:old with
    |none=>rw[hO] at hold;rw[hold.2];exact List.nodup_nil
    |some i=>rw[hO] at hold;have:=h.rep.nd i;rw[hold] at this;exact(List.nodup_append.1 this).2.1
   have d2:fK.Nodup:=by
    cases hG:gone with
    |none=>rw[hG] at iJ;rw[iJ];exact List.nodup_nil
    |some j=>rw[hG] at iJ;obtain⟨⟨l,hl⟩,_⟩:=iJ;have:=h.rep.nd j;rw[hl] at this;exact(List.nodup_append.1 this).2.1
   rw[List.nodup_append,List.nodup_append];refine⟨by cases v'.ownBlock<;>simp,⟨d1,d2,?_⟩,?_⟩
   ·intro b hb c hc e
    subst e;obtain⟨i,hi',hbi⟩:=hb1 b hb;obtain⟨j,hj,hbj,hne⟩:=hb2 b hc;exact h.rep.dj i j b (fun ee=>hne (by rw[←ee];exact hi')) hbi hbj
   ·intro b hb c hc e
    subst e;have hb:v'.ownBlock=some b:=by simpa using hb
    rcases r4 with h4|h4
    ·rw[h4] at hb
     rcases List.mem_append.1 hc with hc|hc
     ·exact hn1 b hc hb
     ·exact hn2 b hc hb
    ·rw[h4] at hb
     obtain rfl:=Option.some.inj hb;rcases List.mem_append.1 hc with hc|hc
     ·obtain⟨i,_,hbi⟩:=hb1 _ hc
      have:=(h.rep.bb i _ hbi).1;omega
     ·obtain⟨j,_,hbj,_⟩:=hb2 _ hc
      have:=(h.rep.bb j _ hbj).1;omega)
  aG gv
  (by
   intro ev;refine⟨v',f1++f2,gZ++fK,by simp[upd_same],by simpa using r2,?_,by simp[upd_same]⟩;refine pI _ _ _ _ _ _ (jH h1 fun b hb=> ?_) (jH h2 fun b hb=> ?_)
   ·obtain⟨i,_,hbi⟩:=hb1 b hb
    exact hsame b (h.rep.bb i b hbi).1 (hn1 b hb)
   ·obtain⟨j,_,hbj,_⟩:=hb2 b hb
    exact hsame b (h.rep.bb j b hbj).1 (hn2 b hb))
 refine eF (v:=v') (w':=w') (by unfold execOp;simp[ho,resolve,invoke,builtin,hS,hX,r1]) (eP (G:=fun a'=>K a' w') hk hi' ?_ fun st' hk' fF=>hK st' _ _ hk' fF (.loud (by simp[still,ho]) (fun hgt=>by rw[hgf] at hgt;cases hgt)));exact⟨[v'],⟨Nat.lt_succ_self _,by simpa only[upd_same] using r5,by simp only[upd_same]⟩,rfl⟩
theorem xY{t t2 e:TypeId}{u:Ty}{S X:Operand}{xs ys:List u.Den}{v x:Value}{f1 f2:List Value}{old gone:Option Nat}
 (ho:o.op= .call {callee:= .builtin .append,args:= #[S,X],argTypes:= #[t,t2]}) (hgf:g=false) (hS:a.eval S=v) (hX:a.eval X=x)
 (ht:P.underlying t=some (.slice e)) (hi:gJ P e u) (h:Inv C.N E0 E st a)
 (hown:E.w.ownsRow 0 e u.size v xs.length f1) (h1:aU (Rd E.w E.Z u) xs f1) (hold:match old with|some i=>E.B i=v.ownBlock.toList|none=>v.ownBlock=none)
 (hs:Src P E.w t2 e u.size t x ys.length f2) (h2:aU (Rd E.w E.Z u) ys f2)
 (hlim:lim (xs.length+ys.length)=true) (aG:Nat→Ob) (gv:∀j,aG j=if(old==some j||gone==some j) then .dead else st.ob j)
 (hk:az C o (.h st.nx) ⟨st.sl,upd aG st.nx (.sl .shl 0 e u (xs++ys)),st.nx+1⟩ k=some r)
 (hK:∀st' E' v,k st'=some r→Inv C.N E0 E' st' (a.put o.dst v)→aL P C g o a v E.w E'.w→K (a.put o.dst v) E'.w):o.wp P a E.w K Q:=by
 obtain⟨v',w',r1,r2,r3,r4,r5⟩:=wU (ty:=o.type) ht hi hown hs (Nat.le_of_ble_eq_true hlim);have Aw:=hown.lt;have hvB:∀b,v.ownBlock=some b→∃i,old=some i∧b∈E.B i:=by
  intro b hb;cases hO:old with
  |none=>rw[hO] at hold;rw[hold] at hb;cases hb
  |some i=>rw[hO] at hold;exact⟨i,rfl,by rw[hold];simp[hb]⟩
 have hsame:∀b,b<E.w.heap.size→v.ownBlock≠some b→w'.heap[b]?=E.w.heap[b]?:=fun b hb hne=>r3.block b hb (fun e=>hne e.symm)
 have hzs:∀b,E.Z b→w'.heap[b]?=E.w.heap[b]?:=fun b hb=>hsame b (h.rep.zb b hb) (fun e=>by
  obtain⟨i,_,hbi⟩:=hvB b e;exact(h.rep.bb i b hbi).2 hb)
 have hi':=h.swap (w:=w') (fun j=>old==some j||gone==some j)
  ⟨r3.os,r3.tape,r3.output,r3.size,fun b hb hno=>hsame b hb (fun e=>by obtain⟨i,_,hbi⟩:=hvB b e;exact hno i hbi)⟩
  (fun j hj b hb=>hsame b (h.rep.bb j b hb).1 (fun e=>by
   obtain⟨i,hi',hbi⟩:=hvB b e;have hne:i≠j:=fun ee=>by subst ee;simp[hi'] at hj
   exact h.rep.dj i j b hne hbi hb))
  (.sl .shl 0 e u (xs++ys)) v' v'.ownBlock.toList
  (by
   intro b hb;have hb:v'.ownBlock=some b:=by simpa using hb
   refine⟨?_,(r2.lt b hb).2⟩;rcases r4 with h4|h4
   ·rw[h4] at hb
    obtain⟨i,hi',hbi⟩:=hvB b hb;exact .inl ⟨i,by simp[hi'],hbi⟩
   ·rw[h4] at hb
    obtain rfl:=Option.some.inj hb;exact .inr (Nat.le_refl _))
  (by cases v'.ownBlock<;>simp)
  aG gv
  (by
   intro ev;refine⟨f1++f2,by simp only[upd_same];simpa using r2,?_,by simp only[upd_same]⟩;have:∀(xs:List u.Den) (f:List Value) (ys:List u.Den) (g:List Value),aU (Rd E.w E.Z u) xs f→aU (Rd E.w E.Z u) ys g→aU (Rd E.w E.Z u) (xs++ys) (f++g):=by
    intro xs
    induction xs with
    |nil=>intro f ys g hf hg;rw[show f=[] from hf];exact hg
    |cons x xs ih=>
     intro f ys g hf hg;obtain⟨c,d,e1,e2,e3⟩:=hf;exact⟨c,d++g,by rw[e1];simp,e2,ih d ys g e3 hg⟩
   exact fo (aN (fun _ h=>h) hzs u) _ _ (this xs f1 ys f2 h1 h2))
 refine eF (v:=v') (w':=w') (by unfold execOp;simp[ho,resolve,invoke,builtin,hS,hX,r1]) (eP (G:=fun a'=>K a' w') hk hi' ?_ fun st' hk' fF=>hK st' _ _ hk' fF (.loud (by simp[still,ho]) (fun hgt=>by rw[hgf] at hgt;cases hgt)));exact⟨[v'],⟨Nat.lt_succ_self _,by simpa only[upd_same] using r5,by simp only[upd_same]⟩,rfl⟩
end
end Go.Am
end
section
open Go.Lib
namespace Go.Am
theorem jT{e e':TypeId}{t u:Ty}{xs:List t.Den}{ys:List u.Den}(h:bz (.list e u) ⟨.list e' t,xs⟩=some ys):e'=e∧∃h:t=u,h▸xs=ys:=by
 have:=cZ h;simp only[DV.mk.injEq,Ty.list.injEq] at this;obtain⟨⟨rfl,rfl⟩,h2⟩:=this;exact⟨rfl,rfl,eq_of_heq h2⟩
def wB(E:Env)(v:Value)(nb:List Nat):Option Nat→Prop
 |some i=>E.B i=v.ownBlock.toList++nb
 |none=>v.ownBlock=none∧nb=[]
def zg(E:Env)(nb:List Nat):Option Nat→Prop
 |some j=>∃l,E.B j=l++nb
 |none=>nb=[]
theorem tF{w:World}{t:Ty}(hf:t.flat=true):∀(xs:List t.Den) (f:List Value) (nb:List Nat),bg (Ow w t) xs f nb→nb=[]
 |[],f,nb,h=>h.2
 |x::xs,f,nb,⟨c,g,b,d,_,h2,h3,h4⟩=>by rw[h2,iC t hf x c b h3,tF hf xs g d h4];rfl
theorem pK{w:World}{t:Ty}(hf:t.flat=true):∀(n:Nat) (xs:List t.Den) (f:List Value) (nb:List Nat),bg (Ow w t) xs f nb→bg (Ow w t) (xs.take n) (f.take (n*t.size)) []
 |0,xs,f,nb,h=>by simp;exact⟨rfl,rfl⟩
 |n+1,[],f,nb,h=>by rw[h.1];simp;exact⟨rfl,rfl⟩
 |n+1,x::xs,f,nb,⟨c,g,b,d,h1,h2,h3,h4⟩=>by
  have hb:=iC t hf x c b h3;subst hb;have hl:=dH t x c _ h3;refine⟨c,g.take (n*t.size),[],[],?_,rfl,h3,pK hf n xs g d h4⟩;rw[h1,show(n+1)*t.size=t.size+n*t.size by rw[Nat.add_mul,Nat.one_mul,Nat.add_comm],List.take_append,List.take_of_length_le (by omega),hl,show t.size+n*t.size-t.size=n*t.size by omega]
theorem pV{E:Env}{st:St}{tm:Array Value}{e:TypeId}{u:Ty}{c:Cn}{xs:List u.Den}{old:Option Nat}{v:Value}(h:gP st.ob e u c=some (xs,old))(hr:aR E st tm)(hv:ak E st.ob st.nx c v):
 ∃f nb,E.w.ownsRow 0 e u.size v xs.length f∧bg (Ow E.w u) xs f nb∧wB E v nb old:=by
 cases c with
 |bq e1 t1=>
  simp only[gP,Option.some.injEq,Prod.mk.injEq] at h;obtain⟨rfl,rfl⟩:=h;obtain⟨cs,h1,h2⟩:=hv;have h1:cs=[.slice none 0 0]:=h1;have h2:cs=[v]:=h2;have hvv:v= .slice none 0 0:=by rw[h1] at h2;simpa using h2.symm
  subst hvv;exact⟨[],[],World.ownsRow_nil _ _ _ _,⟨rfl,rfl⟩,⟨rfl,rfl⟩⟩
 |h i=>
  simp only[gP] at h;obtain⟨cs,h1,h2⟩:=hv;have h2:cs=[v]:=h2;have hvv:v=E.af i:=by have:=h1.2.2;rw[h2] at this;simpa using this
  split at h
  ·rename_i fz aj e' t' ys ah
   split at h
   ·split at h
    ·rename_i hb2
     obtain rfl:=Nat.eq_of_beq_eq_true hb2;split at h
     ·rename_i zs hz
      cases h;obtain⟨_,rfl,rfl⟩:=jT hz;have hi:=hr.ob i;rw[ah] at hi;obtain⟨v',f,nb,k1,k2,k3,k4⟩:=hi;have k1:E.af i=v':=by simpa using k1
      subst hvv;rw[k1];exact⟨f,nb,k2,k3,k4⟩
     ·cases h
    ·cases h
   ·cases h
  ·cases h
 |pre i aj e1 t1 ys=>
  simp only[gP] at h;obtain⟨cs,h1,h2⟩:=hv;have h2:cs=[v]:=h2;split at h
  ·rename_i fz v0 e' t' xs' ah
   split at h
   ·split at h
    ·rename_i hb2
     rw[Bool.and_eq_true] at hb2;obtain⟨hb2,hfl⟩:=hb2;obtain rfl:=Nat.eq_of_beq_eq_true hb2;split at h
     ·rename_i zs hz
      cases h;obtain⟨rfl,rfl,rfl⟩:=jT hz;obtain⟨_,_,h3⟩:=h1;rw[ah] at h3;obtain⟨A,n,m,cap,r1,r2,r3,r4⟩:=h3 rfl;simp only[DV.mk.injEq,Ty.list.injEq] at r4;obtain⟨⟨rfl,rfl⟩,r4⟩:=r4;obtain rfl:=eq_of_heq r4;have hi:=hr.ob i;rw[ah] at hi;obtain⟨v',f,nb,k1,k2,k3,k4⟩:=hi;have k1:E.af i=v':=by simpa using k1
      rw[r1] at k1;subst k1;have hvv:v= .slice A m cap:=by rw[r2] at h2;simpa using h2.symm
      subst hvv;have hnb:=tF hfl _ _ _ k3;subst hnb;refine⟨f.take (m*t1.size),[],⟨?_,?_⟩,pK hfl m _ _ _ k3,?_⟩
      ·have:=nk (fun x c b=>dH t1 x c b) _ _ _ (pK (w:=E.w) hfl m _ _ _ k3)
       exact this
      ·rcases k2.2 with⟨q1,q2⟩|⟨g,cap',cur,q1,q2,q3,q4,q5,q6,q7⟩
       ·left
        simp only[Value.slice.injEq] at q1;obtain⟨rfl,rfl,rfl⟩:=q1;obtain rfl:m=0:=by omega
        exact⟨rfl,by simp⟩
       ·right
        simp only[Value.slice.injEq] at q1;obtain⟨rfl,rfl,rfl⟩:=q1;have hm:(List.take m xs').length=m:=by rw[List.length_take];omega
        refine⟨g,cap,cur,by rw[hm],q2,q3,by rw[hm];omega,q5,q6,?_⟩;rw[hm,←q7,List.take_take,Nat.min_eq_left (Nat.mul_le_mul_right _ r3)]
      ·rw[show wB E (.slice A m cap) [] (some i)=(E.B i=(Value.slice A m cap).ownBlock.toList++[]) from rfl,k4]
       cases A<;>rfl
     ·cases h
    ·cases h
   ·cases h
  ·cases h
 |_=>simp[gP] at h
theorem m_{w:World}{S:Nat→Prop}{t:Ty}:∀(xs:List t.Den) (f:List Value),aU (Rd w S t) xs f→∀v,v∈f→v.oneCell'=true
 |[],f,h,v,hv=>by rw[show f=[] from h] at hv;simp at hv
 |x::xs,f,⟨c,g,h1,h2,h3⟩,v,hv=>by
  rw[h1] at hv;rcases List.mem_append.1 hv with hv|hv
  ·exact fZ t x c h2 v hv
  ·exact m_ xs g h3 v hv
theorem xN{P:Program}{w:World}{S:Nat→Prop}{e t:TypeId}{u:Ty}{xs:List u.Den}{v:Value}{e0:TypeId}(h:Rd w S (.list e0 u) xs [v]):∃f,Src P w t e u.size t v xs.length f∧aU (Rd w S u) xs f:=by
 obtain⟨A,n,c,f,k1,k2,k3,k4,k5,k6,k7,k8⟩:=h;have k1:v= .slice A n c:=by simpa using k1
 subst k1;have hl:=fU (aH u) xs f k4;cases A with
 |none=>
  have hn:n=0:=by
   rcases Nat.eq_zero_or_pos n with h|h
   ·exact h
   ·exact absurd rfl (k7 h)
  have hc:=k8 rfl;subst hn hc;rw[←k2] at hl⊢;have:f=[]:=List.eq_nil_of_length_eq_zero (by simpa using hl);subst this;exact⟨[],.none rfl,k4⟩
 |some ad=>
  rw[k2];refine⟨f,.row ad xs.length c f rfl hl (fun j u hu=> ?_) (fun v hv=>m_ xs f k4 v hv),k4⟩;obtain⟨gN,q1,q2⟩:=k6 j u hu;obtain rfl:=Option.some.inj q1;have hp:0<n:=by
   rcases Nat.eq_zero_or_pos n with h|h
   ·have:=(List.getElem?_eq_some_iff.1 hu).1
    rw[hl,←k2,h] at this;omega
   ·exact h
  rw[Addr.add_eq ad (k5 ad rfl hp).1];exact q2
theorem xy(s:ByteArray):(fT s).length=s.size:=by simp[fT]
theorem BL(w:World)(s:ByteArray):bg (Ow w (.int .u8)) (fT s) (strCells s) []:=by
 unfold fT strCells
 induction s.data.toList with
 |nil=>exact⟨rfl,rfl⟩
 |cons b l ih=>exact⟨[.int .u8 b.toNat],_,[],[],rfl,rfl,⟨rfl,rfl⟩,ih⟩
theorem BP{c:Cn}{b:ByteArray}(h:strOf c=some b):c= .ro none ⟨.str,b⟩:=by
 unfold strOf at h;split at h
 ·cases h;rfl
 ·cases h
theorem uJ{α β:Type}{x:Option α}{y:α}{z:Option β}(h:j6 x=some (y,z)):x=some y∧z=none:=by
 cases x with
 |none=>simp[j6] at h
 |some v=>simp only[j6,Option.some.injEq,Prod.mk.injEq] at h;exact⟨by rw[h.1],h.2.symm⟩
theorem wE{P:Program}{w:World}{e t:TypeId}{u:Ty}{v:Value}{n:Nat}{f:List Value}(h:w.ownsRow 0 e u.size v n f)(h1:∀x,x∈f→x.oneCell'=true):Src P w t e u.size t v n f:=by
 rcases h.2 with⟨rfl,rfl⟩|⟨g,cap,cur,rfl,_⟩
 ·have:f=[]:=List.eq_nil_of_length_eq_zero (by simpa using h.1)
  subst this;exact .none rfl
 ·exact .row _ _ _ _ rfl h.1 (h.cells (g:=g) rfl) h1
theorem tH{w:World}{t:Ty}:∀(xs:List t.Den) (f:List Value) (nb:List Nat),bg (Ow w t) xs f nb→∀v,v∈f→v.oneCell'=true
 |[],f,_,h,v,hv=>by rw[h.1] at hv;simp at hv
 |x::xs,f,_,⟨c,g,b,d,h1,_,h2,h3⟩,v,hv=>by
  rw[h1] at hv;rcases List.mem_append.1 hv with hv|hv
  ·exact lC t x c b h2 v hv
  ·exact tH xs g d h3 v hv
theorem xZ{P:Program}{C:Ctx}(ay:∀t u,C.tt t=some u→aT P t u){E:Env}{st:St}{tm:Array Value}{t t2 e:TypeId}{u:Ty}{c:Cn}{ys:List u.Den}{gone:Option Nat}{v:Value}
 (h:pW C.tt st.ob t t2 e u c=some (ys,gone)) (hi:gJ P e u) (hr:aR E st tm) (hv:ak E st.ob st.nx c v):
 ∃f nb,Src P E.w t2 e u.size t v ys.length f∧bg (Ow E.w u) ys f nb∧zg E nb gone:=by
 unfold pW at h;cases hs:strOf c with
 |some b=>
  have hc:=BP hs;subst hc;clear hs
  have h':(match bA C.tt t2 .str with
   |true=>j6 (bz (.list e u) ⟨.list e (.int .u8),fT b⟩)
   |false=>none)=some (ys,gone):=h
  clear h;cases hT:bA C.tt t2 .str with
  |false=>rw[hT] at h';cases h'
  |true=>
   rw[hT] at h';obtain⟨hz,rfl⟩:=uJ h';obtain⟨_,rfl,rfl⟩:=jT hz;have hd:=(ay _ _ (cB hT)).desc;simp only at hd;obtain⟨i,z,k1,k2,k3,k4,k5,k6,k7,k8⟩:=hi;have hz1:z= .int .u8 0:=by
    have h1:z.cells.toList=[.int .u8 0]:=k4;have h2:z.cells.toList=[z]:=k7;rw[h1] at h2;simpa using h2.symm
   obtain rfl:=iF hv;show ∃f nb,Src P E.w t2 e _ t _ (fT b).length f∧_;rw[xy];exact⟨strCells b,[],.str b hd rfl ⟨i,k1,by rw[k3,hz1],k8 rfl⟩,BL _ b,rfl⟩
 |none=>
  simp only[hs] at h;cases hb:Nat.beq t2 t with
  |false=>simp[hb] at h
  |true=>
   obtain rfl:=Nat.eq_of_beq_eq_true hb;simp only[hb] at h;cases hf:u.flat with
   |true=>
    simp only[hf] at h;obtain⟨hz,rfl⟩:=uJ h;unfold tY at hz;split at hz
    ·rename_i lv hl
     obtain⟨be,ee,te,xe⟩:=lv;obtain⟨_,rfl,rfl⟩:=jT hz;obtain⟨m1,_,_⟩:=jP hl hr.ob hv;obtain⟨f,q1,q2⟩:=xN (P:=P) (e:=e) (t:=t2) m1;exact⟨f,[],q1,pg hf _ _ q2,rfl⟩
    ·cases hz
   |false=>
    simp only[hf] at h;obtain⟨f,nb,p1,p2,p3⟩:=pV h hr hv;refine⟨f,nb,wE p1 (tH _ _ _ p2),p2,?_⟩;cases gone with
    |none=>exact p3.2
    |some j=>exact⟨_,p3⟩
section
variable{P:Program}{R:Type}{C:Ctx}{o:Oper}{st:St}{k:St→Option R}{r:R}{E0 E:Env}{a:Act}{K:Act→World→Prop}{Q:Exit→Act→World→Prop}{g:Bool}
theorem qp(old:Option Nat)(j:Nat):jd old j=(old==some j):=by
 cases old with
 |none=>rfl
 |some i=>
  simp only[jd];cases h:Nat.beq i j with
  |true=>rw[Nat.eq_of_beq_eq_true h];simp
  |false=>
   have:i≠j:=fun e=>by subst e;simp at h
   simp[this]
theorem tX(ay:∀t u,C.tt t=some u→aT P t u){pure:Bool}{t t2:TypeId}{S X:Operand}{s x:Cn}(ho:o.op= .call {callee:= .builtin .append,args:= #[S,X],argTypes:= #[t,t2]})(hgf:g=false)
 (hk:iU C pure o t t2 s x st k=some r) (h:Inv C.N E0 E st a) (hs:ak E st.ob st.nx s (a.eval S)) (hx:ak E st.ob st.nx x (a.eval X))
 (hK:∀st' E' v,k st'=some r→Inv C.N E0 E' st' (a.put o.dst v)→aL P C g o a v E.w E'.w→K (a.put o.dst v) E'.w):o.wp P a E.w K Q:=by
 unfold iU at hk;split at hk
 ·rename_i e u hT
  have hd:=(ay _ _ hT).desc;simp only at hd;split at hk
  ·rename_i xs old hS
   split at hk
   ·rename_i ys gone hX
    split at hk
    ·cases hk
    ·rename_i hfl
     simp only[Bool.or_eq_false_iff] at hfl;cases hl:lim (xs.length+ys.length) with
     |false=>simp[hl] at hk
     |true=>
      simp only[hl,cond_true] at hk;obtain⟨f1,gZ,p1,p2,p3⟩:=pV hS h.rep hs;obtain⟨f2,fK,q1,q2,q3⟩:=xZ ay hX hd.2.1 h.rep hx;refine x8 (old:=old) (gone:=gone) ho hgf rfl rfl hd.1 hd.2.1 h p1 p2 (by cases old<;>exact p3) q1 q2 ?_ hl (kD st.ob old gone) ?_ hk hK
      ·cases gone with
       |none=>exact q3
       |some j=>
        refine⟨q3,fun e=> ?_⟩;have:jd old j=false:=hfl.2;rw[qp,e] at this;simp at this
      ·intro j
       simp only[kD,qp];cases(old==some j||gone==some j)<;>rfl
   ·cases hk
  ·cases hk
 ·cases hk
theorem xk{E:Env}{st:St}{tm:Array Value}{e:TypeId}{u:Ty}{c:Cn}{xs:List u.Den}{old:Option Nat}{v:Value}(h:kN st.ob e u c=some (xs,old))(hr:aR E st tm)(hv:ak E st.ob st.nx c v):
 ∃f,E.w.ownsRow 0 e u.size v xs.length f∧aU (Rd E.w E.Z u) xs f∧(match old with|some i=>E.B i=v.ownBlock.toList|none=>v.ownBlock=none):=by
 cases c with
 |bq e1 t1=>
  simp only[kN,Option.some.injEq,Prod.mk.injEq] at h;obtain⟨rfl,rfl⟩:=h;obtain⟨cs,h1,h2⟩:=hv;have h1:cs=[.slice none 0 0]:=h1;have h2:cs=[v]:=h2;have hvv:v= .slice none 0 0:=by rw[h1] at h2;simpa using h2.symm
  subst hvv;exact⟨[],World.ownsRow_nil _ _ _ _,rfl,rfl⟩
 |h i=>
  simp only[kN] at h;obtain⟨cs,h1,h2⟩:=hv;have h2:cs=[v]:=h2;have hvv:v=E.af i:=by have:=h1.2.2;rw[h2] at this;simpa using this
  split at h
  ·rename_i fz aj e' t' ys ah
   have hi:=hr.ob i;rw[ah] at hi;split at h
   ·rename_i hb
    obtain rfl:=Nat.eq_of_beq_eq_true hb;split at h
    ·split at h
     ·rename_i zs hz
      cases h;obtain⟨_,rfl,rfl⟩:=jT hz;obtain⟨f,k1,k2,k3⟩:=hi;rw[hvv];exact⟨f,k1,k2,k3⟩
     ·cases h
    ·split at h
     ·split at h
      ·rename_i hd
       obtain rfl:=of_decide_eq_true hd;cases h;obtain⟨v',f,nb,k1,k2,k3,k4⟩:=hi;have k1:E.af i=v':=by simpa using k1
       obtain⟨rfl,rfl⟩:=k3;subst hvv;rw[k1];exact⟨[],k2,rfl,by simpa using k4⟩
      ·cases h
     ·cases h
    ·cases h
   ·cases h
  ·cases h
 |_=>simp[kN] at h
theorem xX(ay:∀t u,C.tt t=some u→aT P t u){t t2:TypeId}{S X:Operand}{s x:Cn}(ho:o.op= .call {callee:= .builtin .append,args:= #[S,X],argTypes:= #[t,t2]})(hgf:g=false)
 (hk:jO C o t t2 s x st k=some r) (h:Inv C.N E0 E st a) (hs:ak E st.ob st.nx s (a.eval S)) (hx:ak E st.ob st.nx x (a.eval X))
 (hK:∀st' E' v,k st'=some r→Inv C.N E0 E' st' (a.put o.dst v)→aL P C g o a v E.w E'.w→K (a.put o.dst v) E'.w):o.wp P a E.w K Q:=by
 unfold jO at hk;split at hk
 ·rename_i e u hT
  have hd:=(ay _ _ hT).desc;simp only at hd;split at hk
  ·rename_i xs old hS
   split at hk
   ·rename_i ys gone hX
    split at hk
    ·cases hk
    ·rename_i hfl
     simp only[Bool.or_eq_false_iff,Bool.not_eq_false'] at hfl;obtain rfl:=Nat.eq_of_beq_eq_true hfl.2;cases hl:lim (xs.length+ys.length) with
     |false=>simp[hl] at hk
     |true=>
      simp only[hl,cond_true] at hk;obtain⟨f1,p1,p2,p3⟩:=xk hS h.rep hs;obtain⟨f2,q1,q2,q3⟩:=xk hX h.rep hx;refine xY (old:=old) (gone:=gone) ho hgf rfl rfl hd.1 hd.2.1 h p1 p2 (by cases old<;>exact p3) (wE q1 (m_ _ _ q2)) q2 hl (kD st.ob old gone) ?_ hk hK;intro j;simp only[kD,qp];cases(old==some j||gone==some j)<;>rfl
   ·cases hk
  ·cases hk
 ·cases hk
end
end Go.Am
end
section
namespace Go.Am
def rU(st:St)(s:Nat):St:=
 match st.sl s with
 | .pre i aj e t ys=>match st.ob i with
   | .sl fz v _ _ _=>match fz with
     | .own=>match Nat.beq v aj&&t.flat with
       |true=>⟨upd st.sl s (.h st.nx),upd (upd st.ob i .dead) st.nx (.sl .own 0 e t ys),st.nx+1⟩
       |false=>st
     |_=>st
   |_=>st
 |_=>st
theorem AP{N:Nat}{E0 E:Env}{st:St}{a:Act}(s:Nat)(h:Inv N E0 E st a):∃E',E'.w=E.w∧Inv N E0 E' (rU st s) a:=by
 unfold rU;split
 ·rename_i i aj e t ys hs
  split
  ·rename_i fz v e' t' xs ah
   split
   ·split
    ·rename_i hb
     have hv:=h.rep.sl s;rw[hs] at hv;generalize hval:a.tmps.getD s undef=val at hv;have happ:gP st.ob e t (.pre i aj e t ys)=some (ys,some i):=by
      simp only[gP,ah,hb,bz,dite_true]
     obtain⟨f,nb,p1,p2,p3⟩:=pV happ h.rep hv;have hB:E.B i=val.ownBlock.toList++nb:=p3;have how:Ow E.w (.list e t) ys [val] (E.B i):=⟨val,f,nb,rfl,p1,p2,hB⟩;obtain⟨cs,hc,hm⟩:=hv;have hi:i<st.nx:=hc.2.1;have hone:val.oneCell'=true:=lC _ _ _ _ how val (by simp);have hne:i≠st.nx:=by omega
     let E':Env:=⟨E.w,E.Z,upd E.af st.nx val,upd (upd E.B i []) st.nx (E.B i)⟩
     have kH:(upd (upd st.ob i .dead) st.nx (.sl .own 0 e t ys)) st.nx= .sl .own 0 e t ys:=upd_same _ _ _;have bF:(upd (upd st.ob i .dead) st.nx (.sl .own 0 e t ys)) i= .dead:=by rw[aB _ _ _ _ hne,upd_same]
     have aY:∀j,j≠i→j≠st.nx→(upd (upd st.ob i .dead) st.nx (.sl .own 0 e t ys)) j=st.ob j:=fun j h1 h2=>by rw[aB _ _ _ _ h2,aB _ _ _ _ h1]
     have BN:E'.B st.nx=E.B i:=upd_same _ _ _;have BI:E'.B i=[]:=by show upd (upd E.B i []) st.nx (E.B i) i=_;rw[aB _ _ _ _ hne,upd_same]
     have BO:∀j,j≠i→j≠st.nx→E'.B j=E.B j:=fun j h1 h2=>by show upd (upd E.B i []) st.nx (E.B i) j=_;rw[aB _ _ _ _ h2,aB _ _ _ _ h1]
     have iN:∀j,j<st.nx→E'.af j=E.af j:=fun j hj=>aB _ _ _ _ (by omega);have jB:E'.af st.nx=val:=upd_same _ _ _;have from_:∀j b,b∈E'.B j→(j=st.nx∧b∈E.B i)∨(j≠i∧j≠st.nx∧b∈E.B j):=by
      intro j b hb;by_cases h1:j=st.nx
      ·subst h1;rw[BN] at hb;exact .inl ⟨rfl,hb⟩
      ·by_cases h2:j=i
       ·subst h2;rw[BI] at hb;simp at hb
       ·rw[BO j h2 h1] at hb;exact .inr ⟨h2,h1,hb⟩
     have ev:Ev E st.ob st.nx E' (upd (upd st.ob i .dead) st.nx (.sl .own 0 e t ys)) (st.nx+1):=by
      refine⟨Nat.le_succ _,iN,fun b hb=>hb,fun _ _=>rfl,fun j hj u hu=> ?_,fun j hj hu=> ?_,fun j hj fz v2 e2 t2 dG ho=> ?_⟩
      ·by_cases hji:j=i
       ·subst hji;rw[bF] at hu;cases hu
       ·rw[aY j hji (by omega)] at hu;exact hu
      ·by_cases hji:j=i
       ·subst hji;rw[bF] at hu;cases hu
       ·rw[aY j hji (by omega)] at hu;exact hu
      ·by_cases hji:j=i
       ·subst hji;rw[bF] at ho;cases ho
       ·rw[aY j hji (by omega)] at ho
        exact⟨fz,v2,dG,ho,rfl,Nat.le_refl _,fun _=>⟨rfl,fun b hb=>⟨rfl,hb.imp (fun hb=>by rw[BO j hji (by omega)];exact hb) id⟩⟩⟩
     have jA:aR E' ⟨st.sl,upd (upd st.ob i .dead) st.nx (.sl .own 0 e t ys),st.nx+1⟩ a.tmps:=by
      refine h.rep.turn rfl ev ?_ ?_ ?_ ?_ ?_ h.rep.zb
      ·intro j
       show aJ _ _ _ _ (upd (upd st.ob i .dead) st.nx (.sl .own 0 e t ys) j);by_cases h1:j=st.nx
       ·subst h1
        rw[kH];show Ow E'.w (.list e t) ys [E'.af st.nx] (E'.B st.nx);rw[jB,BN];exact how
       ·by_cases h2:j=i
        ·subst h2;rw[bF];exact BI
        ·rw[aY j h2 h1]
         rcases Nat.lt_or_ge j st.nx with hj|hj
         ·exact dL ev (iN j hj) (BO j h2 h1) (fun _ _=>rfl) (h.rep.ob j)
         ·have hd:=h.rep.ob j
          rw[h.rep.lt j hj] at hd⊢;show E'.B j=[];rw[BO j h2 h1];exact hd
      ·intro j hj
       have hj:st.nx+1≤j:=hj;show upd (upd st.ob i .dead) st.nx (.sl .own 0 e t ys) j=_;rw[aY j (by omega) (by omega)];exact h.rep.lt j (by omega)
      ·intro j k b hjk h1 h2
       rcases from_ j b h1 with⟨rfl,g1⟩|⟨g1,g2,g3⟩
       ·rcases from_ k b h2 with⟨rfl,_⟩|⟨k1,k2,k3⟩
        ·exact hjk rfl
        ·exact h.rep.dj i k b (fun e=>k1 e.symm) g1 k3
       ·rcases from_ k b h2 with⟨rfl,k1⟩|⟨k1,k2,k3⟩
        ·exact h.rep.dj j i b g1 g3 k1
        ·exact h.rep.dj j k b hjk g3 k3
      ·intro j
       by_cases h1:j=st.nx
       ·subst h1;rw[BN];exact h.rep.nd i
       ·by_cases h2:j=i
        ·subst h2;rw[BI];exact List.nodup_nil
        ·rw[BO j h2 h1];exact h.rep.nd j
      ·intro j b hb
       rcases from_ j b hb with⟨_,g1⟩|⟨_,_,g3⟩
       ·exact h.rep.bb i b g1
       ·exact h.rep.bb j b g3
     refine⟨E',rfl,⟨⟨fun s'=> ?_,jA.ob,jA.lt,jA.dj,jA.nd,jA.bb,jA.zb⟩,?_,h.defers,h.size,Nat.le_trans h.nx (Nat.le_succ _)⟩⟩
     ·show ak E' _ _ (upd st.sl s (.h st.nx) s') _
      by_cases hss:s'=s
      ·subst hss
       rw[upd_same];rw[hval];exact⟨[val],⟨Nat.lt_succ_self _,by rw[jB];exact hone,by rw[jB]⟩,rfl⟩
      ·rw[aB _ _ _ _ hss]
       exact jA.sl s'
     ·refine h.fr.trans ⟨rfl,rfl,rfl,Nat.le_refl _,fun _ _ _=>rfl,fun j b hb=> ?_,fun b hb=>hb,fun b hb=> .inl hb,fun j hj=>iN j (Nat.lt_of_lt_of_le hj h.nx)⟩
      rcases from_ j b hb with⟨_,g1⟩|⟨_,_,g3⟩
      ·exact .inl ⟨i,g1⟩
      ·exact .inl ⟨j,g3⟩
    ·exact⟨E,rfl,h⟩
   ·exact⟨E,rfl,h⟩
  ·exact⟨E,rfl,h⟩
 ·exact⟨E,rfl,h⟩
end Go.Am
end
section
namespace Go.Am
structure Tk(st st1:St)(gone:List Nat):Prop where
 sl:st1.sl=st.sl
 nx:st1.nx=st.nx
 ob:∀j,st1.ob j=if j∈gone then .dead else st.ob j
 nd:gone.Nodup
 alive:∀j,j∈gone→st.ob j≠ .dead
theorem Tk.refl(st:St):Tk st st []:=⟨rfl,rfl,fun j=>by simp,List.nodup_nil,fun j hj=>by simp at hj⟩
theorem Tk.trans{a b c:St}{g h:List Nat}(k:Tk a b g)(l:Tk b c h):Tk a c (g++h) where
 sl:=l.sl.trans k.sl
 nx:=l.nx.trans k.nx
 ob:=fun j=>by
  rw[l.ob j,k.ob j];by_cases h1:j∈h<;>by_cases h2:j∈g<;>simp[h1,h2]
 nd:=by
  rw[List.nodup_append];refine⟨k.nd,l.nd,fun x hx y hy e=> ?_⟩;subst e;have:=l.alive x hy;rw[k.ob x] at this;simp[hx] at this
 alive:=fun j hj=>by
  rcases List.mem_append.1 hj with hj|hj
  ·exact k.alive j hj
  ·have:=l.alive j hj
   rw[k.ob j] at this;by_cases h2:j∈g
   ·simp[h2] at this
   ·simpa[h2] using this
def jI(E:Env)(st:St):Prop:=∀j aj e t xs,st.ob j= .sl .own aj e t xs→Ow E.w (.list e t) xs [E.af j] (E.B j)
theorem jI.tk{E:Env}{st st1:St}{g:List Nat}(h:jI E st)(k:Tk st st1 g):jI E st1:=by
 intro j aj e t xs hj;rw[k.ob j] at hj;by_cases h2:j∈g
 ·simp[h2] at hj
 ·simp only[h2,if_false] at hj
  exact h j aj e t xs hj
theorem aR.owns{E:Env}{st:St}{tm:Array Value}(h:aR E st tm):jI E st:=by
 intro j aj e t xs hj;have:=h.ob j;rw[hj] at this;exact this
theorem mV{E:Env}{jv:Nat→Ob}{nx:Nat}:∀(c:Cn) (st:St) (d:DV) (st1:St) (cs:List Value),dU st c=some (d,st1)→av E jv nx c false cs→jI E st→
 ∃gone,Tk st st1 gone∧Ow E.w d.ty d.v cs (gone.map E.B).flatten∧d.ty.isAgg=c.isAgg
 | .ro none d0,st,d,st1,cs,h,hc,ho=>by
   simp only[dU] at h;split at h
   ·rename_i hf
    simp only[Option.some.injEq,Prod.mk.injEq] at h;obtain⟨rfl,rfl⟩:=h;exact⟨[],Tk.refl _,jK _ hf _ _ (hc.2.2 trivial),rfl⟩
   ·cases h
 | .bq e t,st,d,st1,cs,h,hc,ho=>by
   simp only[dU,Option.some.injEq,Prod.mk.injEq] at h;obtain⟨rfl,rfl⟩:=h;have hc:cs=[.slice none 0 0]:=hc;exact⟨[],Tk.refl _,⟨.slice none 0 0,[],[],hc,World.ownsRow_nil _ _ _ _,⟨rfl,rfl⟩,rfl⟩,rfl⟩
 | .h i,st,d,st1,cs,h,hc,ho=>by
   simp only[dU] at h;split at h
   ·rename_i aj e t xs ah
    simp only[Option.some.injEq,Prod.mk.injEq] at h;obtain⟨rfl,rfl⟩:=h;have hc:cs=[E.af i]:=hc.2.2;subst hc;refine⟨[i],⟨rfl,rfl,fun j=> ?_,by simp,fun j hj=> ?_⟩,by simpa using ho i aj e t xs ah,rfl⟩
    ·simp only[St.set,jD,List.mem_singleton]
    ·obtain rfl:=List.mem_singleton.1 hj
     rw[ah];simp
   ·cases h
 | .nil,st,d,st1,cs,h,hc,ho=>by
   simp only[dU,Option.some.injEq,Prod.mk.injEq] at h;obtain⟨rfl,rfl⟩:=h;exact⟨[],Tk.refl _,⟨hc,rfl⟩,rfl⟩
 | .cons a b,st,d,st1,cs,h,hc,ho=>by
   simp only[dU] at h;split at h
   ·rename_i x s1 hx
    split at h
    ·rename_i y s2 hy
     simp only[Option.some.injEq,Prod.mk.injEq] at h;obtain⟨rfl,rfl⟩:=h;obtain⟨c1,c2,h0,h1,h2⟩:=hc;obtain⟨g1,k1,k2,_⟩:=mV a st x s1 c1 hx h1 ho;obtain⟨g2,m1,m2,_⟩:=mV b s1 y s2 c2 hy h2 (ho.tk k1);exact⟨g1++g2,k1.trans m1,⟨c1,c2,_,_,h0,by simp,k2,m2⟩,rfl⟩
    ·cases h
   ·cases h
 | .agg c,st,d,st1,cs,h,hc,ho=>by
   simp only[dU] at h;split at h
   ·rename_i x s1 hx
    simp only[Option.some.injEq,Prod.mk.injEq] at h;obtain⟨rfl,rfl⟩:=h;obtain⟨g1,k1,k2,_⟩:=mV c st x s1 cs hx hc ho;exact⟨g1,k1,k2,rfl⟩
   ·cases h
 | .ro (some _) _,_,_,_,_,h,_,_| .p _,_,_,_,_,h,_,_| .addr _ _ _ _ _ _,_,_,_,_,h,_,_| .aZ _ _,_,_,_,_,h,_,_| .sub _ _ _ _ _,_,_,_,_,h,_,_| .fn _ _,_,_,_,_,h,_,_| .b_ _,_,_,_,_,h,_,_
 | .cst _,_,_,_,_,h,_,_| .any,_,_,_,_,h,_,_| .dead,_,_,_,_,h,_,_=>by simp[dU] at h
theorem xz{E:Env}{jv:Nat→Ob}{nx:Nat}{a:Act}{u:Ty}:∀(ps:List (Nat×Operand)) (l:List (Nat×Cn)) (st:St) (ds:List (Nat×DV)) (st1:St) (i:Nat) (xs:List u.Den),
 jJ E jv nx a ps l→kT st l=some (ds,st1)→fJ u i ds=some xs→jI E st→
 ∃gone f,Tk st st1 gone∧bg (Ow E.w u) xs f (gone.map E.B).flatten∧(ps.map fun p=>(a.eval p.2).cells.toList).flatten=f∧
  (∀j p,ps[j]?=some p→p.1=i+j∧(a.eval p.2).cells.size=u.size)∧ps.length=xs.length
 |[],[],st,ds,st1,i,xs,_,h,hl,ho=>by
  simp only[kT,Option.some.injEq,Prod.mk.injEq] at h;obtain⟨rfl,rfl⟩:=h;simp only[fJ,Option.some.injEq] at hl;subst hl;exact⟨[],[],Tk.refl _,⟨rfl,rfl⟩,rfl,fun j p hp=>by simp at hp,rfl⟩
 |x::r,y::l,st,ds,st1,i,xs,⟨h1,h2,h3⟩,h,hl,ho=>by
  simp only[kT] at h;split at h
  ·rename_i d s1 hd
   split at h
   ·rename_i l' s2 hr
    simp only[Option.some.injEq,Prod.mk.injEq] at h;obtain⟨rfl,rfl⟩:=h;simp only[fJ] at hl;split at hl
    ·rename_i hb
     have hb:=Nat.eq_of_beq_eq_true hb;split at hl
     ·rename_i z zs hz hzs
      simp only[Option.some.injEq] at hl;subst hl;have hde:y.2≠ .dead:=by intro e;rw[e] at hd;simp[dU] at hd
      obtain⟨cs,hc,hm⟩:=eD h2 hde;obtain⟨g1,k1,k2,k3⟩:=mV y.2 st d s1 cs hd hc ho;obtain rfl:=cZ hz;have hcells:=kG hm (lC _ _ _ _ k2);obtain⟨g2,f,m1,m2,m3,m4,m5⟩:=xz r l s1 l' s2 (i+1) zs h3 hr hzs (ho.tk k1);refine⟨g1++g2,cs++f,k1.trans m1,⟨cs,f,_,_,rfl,by simp,k2,m2⟩,by simp[hcells,m3],fun j p hp=> ?_,by simp[m5]⟩;cases j with
      |zero=>
       simp at hp;subst hp;refine⟨by omega,?_⟩;have:=dH _ _ _ _ k2;rw[←hcells] at this;simpa using this
      |succ j=>
       obtain⟨q1,q2⟩:=m4 j p (by simpa using hp);exact⟨by omega,q2⟩
     ·cases hl
    ·cases hl
   ·cases h
  ·cases h
theorem oM{E:Env}{jv:Nat→Ob}{nx:Nat}:∀(c:Cn) (d:DV) (cs:List Value),eY c=some d→av E jv nx c false cs→Rd E.w E.Z d.ty d.v cs∧d.ty.isAgg=c.isAgg
 | .ro none d0,d,cs,h,hc=>by
   simp only[eY,Option.some.injEq] at h;subst h;exact⟨hc.2.2 trivial,rfl⟩
 | .bq e t,d,cs,h,hc=>by
   simp only[eY,Option.some.injEq] at h;subst h;have hc:cs=[.slice none 0 0]:=hc;refine⟨⟨none,0,0,[],hc,rfl,Nat.le_refl _,rfl,by simp,by intro j u hu;simp at hu,by simp,fun _=>rfl⟩,rfl⟩
 | .nil,d,cs,h,hc=>by
   simp only[eY,Option.some.injEq] at h;subst h;exact⟨hc,rfl⟩
 | .cons a b,d,cs,h,hc=>by
   simp only[eY] at h;split at h
   ·rename_i x y hx hy
    simp only[Option.some.injEq] at h;subst h;obtain⟨c1,c2,h0,h1,h2⟩:=hc;exact⟨⟨c1,c2,h0,(oM a x c1 hx h1).1,(oM b y c2 hy h2).1⟩,rfl⟩
   ·cases h
 | .agg c,d,cs,h,hc=>by
   simp only[eY] at h;split at h
   ·rename_i x hx
    simp only[Option.some.injEq] at h;subst h;exact⟨(oM c x cs hx hc).1,rfl⟩
   ·cases h
 | .ro (some _) _,_,_,h,_| .h _,_,_,h,_| .p _,_,_,h,_| .addr _ _ _ _ _ _,_,_,h,_| .aZ _ _,_,_,h,_| .sub _ _ _ _ _,_,_,h,_| .fn _ _,_,_,h,_| .b_ _,_,_,h,_
 | .cst _,_,_,h,_| .any,_,_,h,_| .dead,_,_,h,_=>by simp[eY] at h
theorem oN{E:Env}{jv:Nat→Ob}{nx:Nat}{a:Act}{u:Ty}:∀(ps:List (Nat×Operand)) (l:List (Nat×Cn)) (ds:List (Nat×DV)) (i:Nat) (xs:List u.Den),
 jJ E jv nx a ps l→jC l=some ds→fJ u i ds=some xs→
 ∃f,aU (Rd E.w E.Z u) xs f∧(ps.map fun p=>(a.eval p.2).cells.toList).flatten=f∧
  (∀j p,ps[j]?=some p→p.1=i+j∧(a.eval p.2).cells.size=u.size)∧ps.length=xs.length
 |[],[],ds,i,xs,_,h,hl=>by
  simp only[jC,Option.some.injEq] at h;subst h;simp only[fJ,Option.some.injEq] at hl;subst hl;exact⟨[],rfl,rfl,fun j p hp=>by simp at hp,rfl⟩
 |x::r,y::l,ds,i,xs,⟨h1,h2,h3⟩,h,hl=>by
  simp only[jC] at h;split at h
  ·rename_i d l' hd hr
   simp only[Option.some.injEq] at h;subst h;simp only[fJ] at hl;split at hl
   ·rename_i hb
    have hb:=Nat.eq_of_beq_eq_true hb;split at hl
    ·rename_i z zs hz hzs
     simp only[Option.some.injEq] at hl;subst hl;have hde:y.2≠ .dead:=by intro e;rw[e] at hd;simp[eY] at hd
     obtain⟨cs,hc,hm⟩:=eD h2 hde;obtain⟨k2,k3⟩:=oM y.2 d cs hd hc;obtain rfl:=cZ hz;have hcells:=kG hm (fZ _ _ _ k2);obtain⟨f,m2,m3,m4,m5⟩:=oN r l l' (i+1) zs h3 hr hzs;refine⟨cs++f,⟨cs,f,rfl,k2,m2⟩,by simp[hcells,m3],fun j p hp=> ?_,by simp[m5]⟩;cases j with
     |zero=>
      simp at hp;subst hp;refine⟨by omega,?_⟩;have:=aH _ _ _ k2;rw[←hcells] at this;simpa using this
     |succ j=>
      obtain⟨q1,q2⟩:=m4 j p (by simpa using hp);exact⟨by omega,q2⟩
    ·cases hl
   ·cases hl
  ·cases h
theorem uG{s:Nat}{a:Act}:∀(ps:List (Nat×Operand)) (i:Nat) (cells:Array Value),(∀j p,ps[j]?=some p→p.1=i+j∧(a.eval p.2).cells.size=s)→cells.size=(i+ps.length)*s→
 Instr.fill (fun i=>some (i*s,s)) cells (ps.map fun(i,x)=>(i,a.eval x))=some (cells.toList.take (i*s)++(ps.map fun p=>(a.eval p.2).cells.toList).flatten).toArray
 |[],i,cells,_,hs=>by
  have:cells.toList.take (i*s)=cells.toList:=List.take_of_length_le (by simp[hs]);simp[Instr.fill,this]
 |x::r,i,cells,hp,hs=>by
  obtain⟨h1,h2⟩:=hp 0 x rfl;have hx:x.1=i:=by omega
  have hs':cells.size=(i+(r.length+1))*s:=hs;have e0:(i+(r.length+1))*s=i*s+s+r.length*s:=by rw[Nat.add_mul,Nat.add_mul];omega
  simp only[List.map_cons,hx];rw[uD (i:=i) (off:=i*s) (size:=s) rfl h2 (by omega)]
  rw[uG r (i+1) _ (fun j p hj=>by
   obtain⟨q1,q2⟩:=hp (j+1) p (by simpa using hj)
   exact⟨by omega,q2⟩) (by
    have:=kQ (cs:=cells.toList) (vs:=(a.eval x.2).cells.toList) (o:=i*s) (by simp[h2];omega);rw[List.size_toArray,this,Array.length_toList,hs']
    congr 1;omega)]
  congr 2
  simp only[splice,List.flatten_cons];have l1:(cells.toList.take (i*s)).length=i*s:=by rw[List.length_take,Array.length_toList];omega
  have l2:(a.eval x.2).cells.toList.length=s:=by simpa using h2
  rw[show(i+1)*s=i*s+s by rw[Nat.add_mul,Nat.one_mul],List.take_left' (by rw[List.length_append,l1,l2])];simp
section
variable{P:Program}{R:Type}{C:Ctx}{o:Oper}{st:St}{k:St→Option R}{r:R}{E0 E:Env}{a:Act}{K:Act→World→Prop}{Q:Exit→Act→World→Prop}{g:Bool}
theorem run_buildSlice{t e:TypeId}{u:Ty}{w:World}{len:Nat}{ps:List (Nat×Operand)}(ht:P.underlying t=some (.slice e))(he:gJ P e u)(hb:len*u.size≤16777216)
 (hl:ps.length=len) (hp:∀j p,ps[j]?=some p→p.1=0+j∧(a.eval p.2).cells.size=u.size):
 (Instr.buildSlice t len (ps.map fun(i,x)=>(i,a.eval x)).toArray).run P w= .ok (.slice (some ⟨w.heap.size,0,none⟩) len len) (w.alloc (.cells (ps.map fun p=>(a.eval p.2).cells.toList).flatten.toArray e)):=by
 obtain⟨i,z,k1,k2,k3,_⟩:=he;have hf:∀zero:Array Value,Instr.fill (fun i=>some (i*u.size,u.size)) ((Array.range (len*u.size)).map (zero[·%zero.size]!)) (ps.map fun(i,x)=>(i,a.eval x))=some (ps.map fun p=>(a.eval p.2).cells.toList).flatten.toArray:=by
  intro zero;rw[uG ps 0 _ hp (by simp[hl])];simp
 have hb':¬2^24<len*u.size:=by omega
 have hz:((if len*u.size=0 then pure #[] else do pure (←zeroValue e).cells:Sem (Array Value))).run P w= .ok (if len*u.size=0 then #[] else z.cells) w:=by
  split<;>simp[zeroValue,typeInfo,k1,k3]
 unfold Instr.buildSlice;simp only[Sem.run_bind,run_underlying ht,Result.andThen_ok];simp only[sizeOf,typeInfo,k1,k2,Sem.run_bind,Sem.run_pure,Result.andThen_ok,program,Sem.run,if_neg hb',hz];have hz':(zeroValue e).run P w= .ok z w:=by simp[zeroValue,typeInfo,k1,k3]
 simp[hf,newRow,newObj,Sem.run,hz']
theorem ym(ay:∀t u,C.tt t=some u→aT P t u){pure:Bool}{t:TypeId}{len:Nat}{ps:Array (Nat×Operand)}(ho:o.op= .buildSlice t len ps)(hgf:g=false)
 (hk:jR C pure o t len ps.toList st k=some r) (h:Inv C.N E0 E st a)
 (hK:∀st' E' v,k st'=some r→Inv C.N E0 E' st' (a.put o.dst v)→aL P C g o a v E.w E'.w→K (a.put o.dst v) E'.w):o.wp P a E.w K Q:=by
 unfold jR at hk;split at hk
 ·rename_i e u hT
  have hd:=(ay _ _ hT).desc;simp only at hd;split at hk
  ·rename_i hb
   rw[Bool.and_eq_true] at hb;have hb:=Nat.le_of_ble_eq_true hb.1;split at hk
   ·rename_i l hl
    split at hk
    ·rename_i ds s1 hds
     split at hk
     ·rename_i xs hxs
      split at hk
      ·rename_i hlen
       have hlen:=Nat.eq_of_beq_eq_true hlen;obtain⟨gone,f,k1,k2,k3,k4,k5⟩:=xz (u:=u) ps.toList l st ds s1 0 xs (j5 h.rep _ _ hl) hds hxs h.rep.owns;have hrun:=run_buildSlice (P:=P) (w:=E.w) (a:=a) (len:=len) hd.1 hd.2.1 hb (by rw[k5,hlen]) k4;rw[k3] at hrun;have hfl:=nk (dH u) xs f _ k2;have hdj:∀b,b∈(gone.map E.B).flatten→∃j,j∈gone∧b∈E.B j:=by
        intro b hb;obtain⟨l,hl,hbl⟩:=List.mem_flatten.1 hb;obtain⟨j,hj,rfl⟩:=List.mem_map.1 hl;exact⟨j,hj,hbl⟩
       have hnd:∀(g:List Nat),g.Nodup→(g.map E.B).flatten.Nodup:=by
        intro g
        induction g with
        |nil=>intro _;exact List.nodup_nil
        |cons x g ih=>
         intro hg;rw[List.nodup_cons] at hg;simp only[List.map_cons,List.flatten_cons];rw[List.nodup_append];refine⟨h.rep.nd x,ih hg.2,fun b hb c hc e=> ?_⟩;subst e;obtain⟨l,hl,hbl⟩:=List.mem_flatten.1 hc;obtain⟨j,hj,rfl⟩:=List.mem_map.1 hl;exact h.rep.dj x j b (fun e=>by subst e;exact hg.1 hj) hb hbl
       have hi:=h.swap (w:=E.w.alloc (.cells f.toArray e)) (fun j=>decide (j∈gone)) (aA.sN (aA.alloc _ _))
        (fun j hj b hb=>heap_alloc_old _ _ _ (h.rep.bb j b hb).1)
        (.sl .own 0 e u xs) (.slice (some ⟨E.w.heap.size,0,none⟩) len len) (E.w.heap.size::(gone.map E.B).flatten)
        (by
         intro b hb;rcases List.mem_cons.1 hb with rfl|hb
         ·exact⟨.inr (Nat.le_refl _),by simp⟩
         ·obtain⟨j,hj,hbj⟩:=hdj b hb
          exact⟨.inl ⟨j,by simpa using hj,hbj⟩,by have:=(h.rep.bb j b hbj).1;simp;omega⟩)
        (by
         rw[List.nodup_cons];refine⟨fun hb=> ?_,hnd gone k1.nd⟩;obtain⟨j,hj,hbj⟩:=hdj _ hb;have:=(h.rep.bb j _ hbj).1;omega)
        s1.ob (fun j=>by rw[k1.ob j];simp)
        (by
         intro ev;refine⟨.slice (some ⟨E.w.heap.size,0,none⟩) len len,f,(gone.map E.B).flatten,by simp[upd_same],?_,?_,by simp[upd_same,Value.ownBlock]⟩
         ·rw[hlen]
          refine⟨by rw[hfl,hlen],.inr ⟨E.w.heap.size,len,f.toArray,rfl,Nat.zero_le _,heap_alloc_new _ _,Nat.le_refl _,?_,by simp[hfl,hlen],?_⟩⟩
          ·have hs:=hd.2.1
           obtain⟨_,_,_,_,_,_,q,_⟩:=hs;have:len≤len*u.size:=Nat.le_mul_of_pos_right _ q;simp only[maxLen];omega
          ·rw[List.take_of_length_le (by simp[hfl,hlen])]
         ·exact jH k2 fun b hb=>by
           obtain⟨j,hj,hbj⟩:=hdj b hb;exact heap_alloc_old _ _ _ (h.rep.bb j b hbj).1)
       have hk':az C o (.h st.nx) ⟨st.sl,upd s1.ob st.nx (.sl .own 0 e u xs),st.nx+1⟩ k=some r:=by
        have e1:s1.push (.sl .own 0 e u xs)=⟨st.sl,upd s1.ob st.nx (.sl .own 0 e u xs),st.nx+1⟩:=by simp[St.push,k1.sl,k1.nx]
        rw[←e1,←k1.nx];exact hk
       have hrun':(execOp a.eval o).run P E.w= .ok (.value (.slice (some ⟨E.w.heap.size,0,none⟩) len len)) (E.w.alloc (.cells f.toArray e)):=by
        have e2:((ps.toList.map fun(i,x)=>(i,a.eval x)).toArray)=ps.map fun(i,x)=>(i,a.eval x):=by
         apply Array.ext';simp
        rw[e2] at hrun;unfold execOp;simp[ho,hrun]
       refine eF hrun' (eP (G:=fun a'=>K a' _) hk' hi ?_ fun st' fG hi'=>hK st' _ _ fG hi' (.loud (by simp[still,ho]) (fun hgt=>by rw[hgf] at hgt;cases hgt) (fun _=>aA.alloc _ _)));exact⟨[.slice (some ⟨E.w.heap.size,0,none⟩) len len],⟨Nat.lt_succ_self _,by simp only[upd_same];rfl,by simp only[upd_same]⟩,rfl⟩
      ·cases hk
     ·cases hk
    ·split at hk
     ·rename_i ds hds
      split at hk
      ·rename_i xs hxs
       split at hk
       ·rename_i hlen
        have hlen:=Nat.eq_of_beq_eq_true hlen;obtain⟨f,k2,k3,k4,k5⟩:=oN (u:=u) ps.toList l ds 0 xs (j5 h.rep _ _ hl) hds hxs;have hrun:=run_buildSlice (P:=P) (w:=E.w) (a:=a) (len:=len) hd.1 hd.2.1 hb (by rw[k5,hlen]) k4;rw[k3] at hrun;have hfl:=fU (aH u) xs f k2
        have hi:=h.push (w:=E.w.alloc (.cells f.toArray e)) (aA.alloc _ _) (.sl .shl 0 e u xs) (.slice (some ⟨E.w.heap.size,0,none⟩) len len) [E.w.heap.size]
         (by intro b hb;obtain rfl:=List.mem_singleton.1 hb;exact⟨Nat.le_refl _,by simp⟩) (by simp)
         (by
          intro ev;refine⟨f,?_,fo (aN (fun _ h=>h) (fun b hb=>heap_alloc_old _ _ _ (h.rep.zb b hb)) u) _ _ k2,by simp[upd_same,Value.ownBlock]⟩;simp only[upd_same];rw[hlen];refine⟨by rw[hfl,hlen],.inr ⟨E.w.heap.size,len,f.toArray,rfl,Nat.zero_le _,heap_alloc_new _ _,Nat.le_refl _,?_,by simp[hfl,hlen],?_⟩⟩
          ·have hs:=hd.2.1
           obtain⟨_,_,_,_,_,_,q,_⟩:=hs;have:len≤len*u.size:=Nat.le_mul_of_pos_right _ q;simp only[maxLen];omega
          ·rw[List.take_of_length_le (by simp[hfl,hlen])])
        have hrun':(execOp a.eval o).run P E.w= .ok (.value (.slice (some ⟨E.w.heap.size,0,none⟩) len len)) (E.w.alloc (.cells f.toArray e)):=by
         have e2:((ps.toList.map fun(i,x)=>(i,a.eval x)).toArray)=ps.map fun(i,x)=>(i,a.eval x):=by
          apply Array.ext';simp
         rw[e2] at hrun;unfold execOp;simp[ho,hrun]
        refine eF hrun' (eP (G:=fun a'=>K a' _) hk hi ?_ fun st' fG hi'=>hK st' _ _ fG hi' (.loud (by simp[still,ho]) (fun hgt=>by rw[hgf] at hgt;cases hgt) (fun _=>aA.alloc _ _)));exact⟨[.slice (some ⟨E.w.heap.size,0,none⟩) len len],⟨Nat.lt_succ_self _,by simp only[upd_same];rfl,by simp only[upd_same]⟩,rfl⟩
       ·cases hk
      ·cases hk
     ·cases hk
   ·cases hk
  ·cases hk
 ·cases hk
end
end Go.Am
end
section
namespace Go.Am
theorem tC{α:Type}{R:α→List Value→List Nat→Prop}{s:Nat}(hs:∀x c b,R x c b→c.length=s):∀(xs:List α) (f:List Value) (bs:List Nat) (k:Nat) (x:α),bg R xs f bs→xs[k]?=some x→
 ∃f1 c f2 b1 b b2,f=f1++c++f2∧bs=b1++b++b2∧f1.length=k*s∧R x c b∧bg R (xs.take k) f1 b1∧bg R (xs.drop (k+1)) f2 b2
 |[],f,bs,k,x,h,hx=>by simp at hx
 |z::zs,f,bs,0,x,⟨c,g,b,d,h1,h2,h3,h4⟩,hx=>by
  simp at hx;subst hx;exact⟨[],c,g,[],b,d,by simpa using h1,by simpa using h2,by simp,h3,⟨rfl,rfl⟩,by simpa using h4⟩
 |z::zs,f,bs,k+1,x,⟨c,g,b,d,h1,h2,h3,h4⟩,hx=>by
  obtain⟨f1,c',f2,b1,b',b2,e1,e2,e3,e4,e5,e6⟩:=tC hs zs g d k x h4 (by simpa using hx);refine⟨c++f1,c',f2,b++b1,b',b2,by rw[h1,e1];simp,by rw[h2,e2];simp,?_,e4,⟨c,f1,b,b1,rfl,rfl,h3,e5⟩,by simpa using e6⟩;rw[List.length_append,e3,hs _ _ _ h3,Nat.add_mul,Nat.one_mul,Nat.add_comm]
theorem xJ{α:Type}{R:α→List Value→List Nat→Prop}{xs:List α}{k:Nat}{f1 c f2:List Value}{b1 b b2:List Nat}{x:α}(hk:k<xs.length)(h1:bg R (xs.take k) f1 b1)(h2:R x c b)(h3:bg R (xs.drop (k+1)) f2 b2):
 bg R (xs.set k x) (f1++c++f2) (b1++b++b2):=by
 rw[List.set_eq_take_append_cons_drop,if_pos hk,List.append_assoc,List.append_assoc];exact pI _ _ _ _ _ _ h1 ⟨c,f2,b,b2,rfl,rfl,h2,h3⟩
theorem xM{w:World}:∀(ft:Ty) (n:Nat) (x:ft.Den) (e:DV) (o:Nat) (u:Ty) (cs:List Value) (bs:List Nat),Ow w ft x cs bs→dz ft n x=some e→ft.at n=some (o,u)→
 e.ty=u∧∃c1 c c3 p b q,cs=c1++c++c3∧c1.length=o∧bs=p++b++q∧Ow w e.ty e.v c b∧
  ∀(w':World) (g:(t:Ty)→t.Den→Option t.Den) (e':e.ty.Den) (c':List Value) (b':List Nat),(∀k,k∈p++q→w'.heap[k]?=w.heap[k]?)→g e.ty e.v=some e'→Ow w' e.ty e' c' b'→
   ∃x',dZ g ft n x=some x'∧Ow w' ft x' (c1++c'++c3) (p++b'++q):=by
 intro ft
 induction ft with
 |cons a b _ ihb=>
  intro n x e o u cs bs h hg ha;obtain⟨c,d,be,bf,h0,h0',h1,h2⟩:=h;cases n with
  |zero=>
   simp only[Ty.at,Option.some.injEq,Prod.mk.injEq] at ha;obtain⟨rfl,rfl⟩:=ha;simp only[dz,Option.some.injEq] at hg;subst hg;refine⟨rfl,[],c,d,[],be,bf,by simpa using h0,rfl,by simpa using h0',h1,fun w' g e' c' b' hw hge how=> ?_⟩;have hge:g a x.1=some e':=hge;refine⟨(e',x.2),by simp only[dZ,hge],c',d,b',bf,by simp,by simp,how,gL b _ d bf (fun k hk=>hw k (by simpa using hk)) h2⟩
  |succ n=>
   simp only[Ty.at] at ha;split at ha
   ·rename_i o' v' hb
    simp only[Option.some.injEq,Prod.mk.injEq] at ha;obtain⟨rfl,rfl⟩:=ha;simp only[dz] at hg;obtain⟨r0,c1,c2,c3,p,bb,q,r1,r2,r3,r4,r5⟩:=ihb n x.2 e o' v' d bf h2 hg hb;refine⟨r0,c++c1,c2,c3,be++p,bb,q,by rw[h0,r1];simp,by rw[List.length_append,r2,dH a _ c be h1],by rw[h0',r3];simp,r4,fun w' g e' c' b' hw hge how=> ?_⟩
    obtain⟨x',s1,s2⟩:=r5 w' g e' c' b' (fun k hk=>hw k (by
     rcases List.mem_append.1 hk with hk|hk
     ·exact List.mem_append.2 (.inl (List.mem_append.2 (.inr hk)))
     ·exact List.mem_append.2 (.inr hk))) hge how
    refine⟨(x.1,x'),by simp only[dZ,s1],c,c1++c'++c3,be,p++b'++q,by simp,by simp,gL a _ c be (fun k hk=>hw k (by simp[hk])) h1,s2⟩
   ·cases ha
 |_=>intro n x e o u cs bs h hg ha;simp[Ty.at] at ha
theorem tN{w:World}{s:Ty}{y:s.Den}:∀(path:List Nat) (t:Ty) (x:t.Den) (off:Nat) (cs:List Value) (bs:List Nat),Ow w t x cs bs→bU ⟨t,x⟩ path=some ⟨s,y⟩→t.aM path=some (off,s)→
 ∃c1 c c3 p b q,cs=c1++c++c3∧c1.length=off∧bs=p++b++q∧Ow w s y c b∧
  ∀(w':World) (y':s.Den) (c':List Value) (b':List Nat),(∀k,k∈p++q→w'.heap[k]?=w.heap[k]?)→Ow w' s y' c' b'→
   ∃x',bQ ⟨s,y'⟩ path t x=some x'∧Ow w' t x' (c1++c'++c3) (p++b'++q)
 |[],t,x,off,cs,bs,h,hg,ho=>by
  simp only[bU,Option.some.injEq,DV.mk.injEq] at hg;obtain⟨rfl,hg⟩:=hg;have hg:=eq_of_heq hg;subst hg;simp only[Ty.aM,Option.some.injEq,Prod.mk.injEq] at ho;refine⟨[],cs,[],[],bs,[],by simp,ho.1,by simp,h,fun w' y' c' b' _ how=>⟨y',by simp[bQ,bz],by simpa using how⟩⟩
 |f::r,t,x,off,cs,bs,h,hg,ho=>by
  simp only[Ty.aM] at ho;split at ho
  ·rename_i o1 u1 k1
   split at ho
   ·rename_i o2 u2 k2
    simp only[Option.some.injEq,Prod.mk.injEq] at ho;obtain⟨rfl,rfl⟩:=ho;simp only[bU] at hg;split at hg
    ·rename_i e he
     cases t with
     |st ft=>
      obtain⟨r0,c1,c,c3,p,b,q,r1,r2,r3,r4,r5⟩:=xM ft f x e o1 u1 cs bs h he k1;obtain⟨ety,ev⟩:=e;simp only at r0;subst r0;obtain⟨d1,d,d3,p2,b2,q2,s1,s2,s3,s4,s5⟩:=tN r ety ev o2 c b r4 hg k2;refine⟨c1++d1,d,d3++c3,p++p2,b2,q2++q,by rw[r1,s1];simp,by rw[List.length_append,r2,s2],by rw[r3,s3];simp,s4,fun w' y' c' b' hw how=> ?_⟩
      obtain⟨x2,m1,m2⟩:=s5 w' y' c' b' (fun k hk=>hw k (by
       rcases List.mem_append.1 hk with hk|hk
       ·simp[hk]
       ·simp[hk])) how
      obtain⟨x',n1,n2⟩:=r5 w' (bQ ⟨u2,y'⟩ r) x2 (d1++c'++d3) (p2++b'++q2) (fun k hk=>hw k (by
       rcases List.mem_append.1 hk with hk|hk
       ·simp[hk]
       ·simp[hk])) m1 m2
      exact⟨x',n1,by have:=n2;simp only[List.append_assoc] at this⊢;exact this⟩
     |_=>simp[Ty.dN] at k1
    ·cases hg
   ·cases ho
  ·cases ho
theorem Bz{cs vs:List Value}{o m:Nat}(h:o+vs.length≤m)(h2:m≤cs.length):(splice cs o vs).take m=splice (cs.take m) o vs:=by
 simp only[splice];rw[List.take_append,List.take_append];simp only[List.length_append,List.length_take]
 rw[List.take_take,List.take_take,Nat.min_eq_left (by omega:o≤cs.length),Nat.min_eq_right (by omega:o≤m),Nat.min_eq_left (by omega:o≤m),
  List.take_of_length_le (by omega:vs.length≤m-o),List.drop_take]
theorem tL{w:World}{e:TypeId}{t:Ty}{xs:List t.Den}{v:Value}{bs:List Nat}(h:Ow w (.list e t) xs [v] bs)(hnd:bs.Nodup){k:Nat}{x:t.Den}{path:List Nat}{s:Ty}{y:s.Den}{off:Nat}
 (hx:xs[k]?=some x) (hg:bU ⟨t,x⟩ path=some ⟨s,y⟩) (ho:t.aM path=some (off,s)):
 ∃p b q c,bs=p++b++q∧Ow w s y c b∧jE w e t xs v p q k path s c:=by
 obtain⟨v',f,nb,hv,hrow,hels,hbs⟩:=h;obtain rfl:v=v':=by simpa using hv
 have hk:k<xs.length:=(List.getElem?_eq_some_iff.1 hx).1;rcases hrow.2 with⟨_,h0⟩|⟨g,cap,cur,rfl,hbase,hgg,hnc,hcm,hcs,htk⟩
 ·omega
 obtain⟨f1,c0,f2,b1,b0,b2,e1,e2,e3,e4,e5,e6⟩:=tC (dH t) xs f nb k x hels hx;obtain⟨c1,c,c3,p0,b,q0,d1,d2,d3,d4,d5⟩:=tN path t x off c0 b0 e4 hg ho;have hbs:bs=g::nb:=by simpa[Value.ownBlock] using hbs
 have hlc:=dH _ _ _ _ d4;have hfl:f.length=xs.length*t.size:=hrow.1;have hcap:xs.length*t.size≤cap*t.size:=Nat.mul_le_mul_right _ hnc;have hf:f=f1++c1++c++(c3++f2):=by rw[e1,d1];simp
 have hpos:(f1++c1).length=k*t.size+off:=by rw[List.length_append,e3,d2]
 have hb:k*t.size+off+s.size≤xs.length*t.size:=by
  rw[←hfl,hf,List.length_append,List.length_append,hpos,hlc];omega
 refine⟨g::(b1++p0),b,q0++b2,c,by rw[hbs,e2,d3];simp,d4,g,cap,cur,x,off,rfl,hgg,hx,ho,by simp,by omega,?_,?_⟩
 ·intro j u hu
  have hlt:=(List.getElem?_eq_some_iff.1 hu).1;have:f[k*t.size+off+j]?=some u:=by
   rw[hf,List.append_assoc,List.getElem?_append_right (by rw[hpos];omega),hpos,show k*t.size+off+j-(k*t.size+off)=j by omega,List.getElem?_append_left hlt];exact hu
  rw[←htk,List.getElem?_take_of_lt (by omega)] at this;simpa using this
 ·intro w' y' c' bs' hw1 hw2 how
  have qM:=dH _ _ _ _ how;rw[hbs,List.nodup_cons] at hnd;have zD:∀b,b∈nb→b≠g:=fun b hb ee=>hnd.1 (by rw[←ee];exact hb);have same:∀b',b'∈nb→b'∈(g::(b1++p0))++(q0++b2)→w'.heap[b']?=w.heap[b']?:=fun b' h1 h2=>hw2 b' h2 (zD b' h1)
  obtain⟨x',m1,m2⟩:=d5 w' y' c' bs' (fun kk hkk=>same kk (by
   rw[e2,d3];rcases List.mem_append.1 hkk with h|h
   ·simp[h]
   ·simp[h]) (by
   rcases List.mem_append.1 hkk with h|h
   ·simp[h]
   ·simp[h])) how
  refine⟨x',m1,.slice (some ⟨g,0,none⟩) xs.length cap,f1++(c1++c'++c3)++f2,b1++(p0++bs'++q0)++b2,rfl,⟨?_,.inr ⟨g,cap,_,by rw[List.length_set],hbase,hw1,by simpa using hnc,hcm,?_,?_⟩⟩,?_,by simp[Value.ownBlock]⟩
  ·have:f.length=(f1++(c1++c'++c3)++f2).length:=by rw[hf];simp[hlc,qM]
   rw[←this,hfl,List.length_set]
  ·rw[List.size_toArray,kQ (by simp;omega)]
   simpa using hcs
  ·rw[List.length_set,Bz (by rw[qM];omega) (by simp;omega),htk,hf]
   simp only[splice];have hl:(f1++c1).length=k*t.size+off:=hpos;rw[←hl,List.append_assoc (f1++c1),List.take_left,show(f1++c1).length+c'.length=(f1++c1++c).length by rw[List.length_append (as:=f1++c1),hlc,qM],←List.append_assoc (f1++c1),List.drop_left];simp
  ·exact xJ hk (jH e5 fun b hb=>same b (by rw[e2];simp[hb]) (by simp[hb])) m2 (jH e6 fun b hb=>same b (by rw[e2];simp[hb]) (by simp[hb]))
theorem qG:∀(path:List Nat) (t:Ty) (x:t.Den) (d:DV) (off:Nat) (v:Ty),bU ⟨t,x⟩ path=some d→t.aM path=some (off,v)→v=d.ty
 |[],t,x,d,off,v,hg,ho=>by
  simp only[bU,Option.some.injEq] at hg;simp only[Ty.aM,Option.some.injEq,Prod.mk.injEq] at ho;subst hg;exact ho.2.symm
 |f::r,t,x,d,off,v,hg,ho=>by
  simp only[Ty.aM] at ho;split at ho
  ·rename_i o1 u1 k1
   split at ho
   ·rename_i o2 u2 k2
    simp only[Option.some.injEq,Prod.mk.injEq] at ho;obtain⟨rfl,rfl⟩:=ho;simp only[bU] at hg;split at hg
    ·rename_i e he
     cases t with
     |st ft=>
      have:=uM ft f x e o1 u1 he k1;obtain⟨ety,ev⟩:=e;simp only at this;subst this;exact qG r ety ev d o2 u2 hg k2
     |_=>simp[Ty.dN] at k1
    ·cases hg
   ·cases ho
  ·cases ho
theorem wH:∀(a b:List Nat),kL a b=true→a=b
 |[],[],_=>rfl
 |[],_::_,h=>by simp[kL] at h
 |_::_,[],h=>by simp[kL] at h
 |x::r,y::s,h=>by
  simp only[kL] at h;split at h
  ·rename_i hb
   rw[Nat.eq_of_beq_eq_true hb,wH r s h]
  ·cases h
theorem uH{E:Env}{st:St}{tm:Array Value}(h:aR E st tm):∀(g:List Nat),g.Nodup→(g.map E.B).flatten.Nodup
 |[],_=>List.nodup_nil
 |x::g,hg=>by
  rw[List.nodup_cons] at hg;simp only[List.map_cons,List.flatten_cons];rw[List.nodup_append];refine⟨h.nd x,uH h g hg.2,fun b hb c hc e=> ?_⟩;subst e;obtain⟨l,hl,hbl⟩:=List.mem_flatten.1 hc;obtain⟨j,hj,rfl⟩:=List.mem_map.1 hl;exact h.dj x j b (fun e=>by subst e;exact hg.1 hj) hb hbl
theorem y5{E:Env}{g:List Nat}{b:Nat}(hb:b∈(g.map E.B).flatten):∃j,j∈g∧b∈E.B j:=by
 obtain⟨l,hl,hbl⟩:=List.mem_flatten.1 hb;obtain⟨j,hj,rfl⟩:=List.mem_map.1 hl;exact⟨j,hj,hbl⟩
def dR(E:Env)(gone:List Nat)(i g o:Nat)(cur:Array Value)(cs:List Value)(p q:List Nat):Env:=
 ⟨E.w.setRow g (splice cur.toList o cs).toArray,E.Z,E.af,fun j=>if j∈gone then[] else if j=i then p++(gone.map E.B).flatten++q else E.B j⟩
theorem Inv.part{N:Nat}{E0 E:Env}{st st1:St}{a:Act}{gone:List Nat}{i:Nat}{md:Md}{aj:Nat}{e:TypeId}{t:Ty}{xs:List t.Den}{p q:List Nat}{k:Nat}{path:List Nat}{d:DV}{c cs:List Value}{x y:t.Den}
 (h:Inv N E0 E st a) (k1:Tk st st1 gone) (ah:st.ob i= .sl md aj e t xs) (hi:i∉gone) (hil:i<st.nx) (hpq:∀b,b∈p++q→b∈E.B i) (hnd:(p++q).Nodup)
 (hl:jE E.w e t xs (E.af i) p q k path d.ty c) (how:Ow E.w d.ty d.v cs (gone.map E.B).flatten) (hx:xs[k]?=some x) (hy:bQ d path t x=some y):
 ∃g off cur,bS (E.af i)=some g∧E.w.heap[g]?=some (.cells cur e (0,0))∧t.aM path=some (off,d.ty)∧k*t.size+off+d.ty.size≤cur.size∧
  Inv N E0 (dR E gone i g (k*t.size+off) cur cs p q) (st1.set i (.sl .own (aj+1) e t (xs.set k y))) a:=by
 obtain⟨g,cap,cur,x0,off,l1,l2,l3,l4,l5,l6,l7,l8⟩:=hl;rw[hx] at l3;obtain rfl:=Option.some.inj l3;have hgi:g∈E.B i:=hpq g (List.mem_append.2 (.inl l5));refine⟨g,off,cur,by rw[l1];simp[bS],l2,l4,l6,?_⟩;have fl:=fun b (hb:b∈(gone.map E.B).flatten)=>y5 hb;have qH:∀j,j≠i→∀b,b∈E.B j→b≠g:=fun j hj b hb e=>h.rep.dj j i b hj hb (by rw[e];exact hgi);have same:∀b,b≠g→(dR E gone i g (k*t.size+off) cur cs p q).w.heap[b]?=E.w.heap[b]?:=fun b hb=>setRow_other E.w g b _ hb;have oC:∀j,j≠i→(st1.set i (.sl .own (aj+1) e t (xs.set k y))).ob j=if j∈gone then .dead else st.ob j:=fun j hj=>by
  show upd st1.ob i _ j=_;rw[aB _ _ _ _ hj,k1.ob j]
 have rP:(st1.set i (.sl .own (aj+1) e t (xs.set k y))).ob i= .sl .own (aj+1) e t (xs.set k y):=upd_same _ _ _;have Bi:(dR E gone i g (k*t.size+off) cur cs p q).B i=p++(gone.map E.B).flatten++q:=by simp only[dR,if_neg hi,if_true]
 have Bg:∀j,j∈gone→(dR E gone i g (k*t.size+off) cur cs p q).B j=[]:=fun j hj=>by simp only[dR,if_pos hj]
 have Bo:∀j,j≠i→j∉gone→(dR E gone i g (k*t.size+off) cur cs p q).B j=E.B j:=fun j hj hg=>by simp only[dR,if_neg hg,if_neg hj]
 have from_:∀j b,b∈(dR E gone i g (k*t.size+off) cur cs p q).B j→(j=i∧(b∈E.B i∨∃l,l∈gone∧b∈E.B l))∨(j≠i∧j∉gone∧b∈E.B j):=by
  intro j b hb;by_cases hg:j∈gone
  ·rw[Bg j hg] at hb;simp at hb
  ·by_cases hj:j=i
   ·subst hj
    rw[Bi] at hb;refine .inl ⟨rfl,?_⟩;rcases List.mem_append.1 hb with hb|hb
    ·rcases List.mem_append.1 hb with hb|hb
     ·exact .inl (hpq b (List.mem_append.2 (.inl hb)))
     ·exact .inr (fl b hb)
    ·exact .inl (hpq b (List.mem_append.2 (.inr hb)))
   ·rw[Bo j hj hg] at hb
    exact .inr ⟨hj,hg,hb⟩
 refine h.gen (show st1.sl=st.sl from k1.sl) ⟨rfl,rfl,rfl,by simp[dR],fun b _ hno=>same b (fun e=>hno i (by rw[e];exact hgi))⟩ rfl (Nat.le_of_eq k1.nx.symm) (fun _ _=>rfl) ?_ ?_ ?_ ?_ ?_ ?_ ?_
 ·intro j hj fz v e' t' xs' ho
  by_cases hji:j=i
  ·subst hji
   rw[rP] at ho;cases ho;exact⟨md,aj,xs,ah,by simp,Nat.le_succ _,fun e=>by omega⟩
  ·rw[oC j hji] at ho
   split at ho
   ·cases ho
   ·rename_i hg
    exact⟨fz,v,xs',ho,rfl,Nat.le_refl _,fun _=>⟨rfl,fun b hb=>⟨same b (qH j hji b hb),by rw[Bo j hji hg];exact hb⟩⟩⟩
 ·intro j hj
  by_cases hji:j=i
  ·subst hji
   rw[rP,ah];exact⟨fun u hu=>hu,fun hu=>by cases hu⟩
  ·rw[oC j hji]
   split
   ·exact⟨fun _ h=>by simp[Ob.lay] at h,fun h=>by simp[Ob.bn] at h⟩
   ·exact⟨fun _ h=>h,fun h=>h⟩
 ·intro ev j
  by_cases hji:j=i
  ·subst hji
   rw[rP]
   obtain⟨x',m1,m2⟩:=l8 (dR E gone j g (k*t.size+off) cur cs p q).w d.v cs (gone.map E.B).flatten (setRow_heap E.w g cur _ e (0,0) l2) (fun b hb hbg=>same b hbg)
    (gL _ _ _ _ (fun b hb=>same b (by
     obtain⟨l,hl1,hl2⟩:=fl b hb;exact qH l (fun e=>hi (by rw[←e];exact hl1)) b hl2)) how)
   have m1:bQ d path t x=some x':=m1;rw[hy] at m1;obtain rfl:=Option.some.inj m1;show Ow _ _ _ _ _;rw[Bi];exact m2
  ·rw[oC j hji]
   by_cases hg:j∈gone
   ·rw[if_pos hg]
    exact Bg j hg
   ·rw[if_neg hg]
    exact dL ev rfl (Bo j hji hg) (fun b hb=>same b (qH j hji b hb)) (h.rep.ob j)
 ·intro j hj
  have hj:st1.nx≤j:=hj;rw[k1.nx] at hj;rw[oC j (by omega),h.rep.lt j hj];simp
 ·intro i1 j b hij hb1 hb2
  rcases from_ i1 b hb1 with⟨rfl,h1⟩|⟨h1,h2,h3⟩<;>rcases from_ j b hb2 with⟨rfl,g1⟩|⟨g1,g2,g3⟩
  ·exact hij rfl
  ·rcases h1 with h1|⟨l,hl,h1⟩
   ·exact h.rep.dj _ _ b hij h1 g3
   ·exact h.rep.dj l j b (fun e=>g2 (by rw[←e];exact hl)) h1 g3
  ·rcases g1 with g1|⟨l,hl,g1⟩
   ·exact h.rep.dj _ _ b hij h3 g1
   ·exact h.rep.dj l i1 b (fun e=>h2 (by rw[←e];exact hl)) g1 h3
  ·exact h.rep.dj _ _ b hij h3 g3
 ·intro j
  by_cases hg:j∈gone
  ·rw[Bg j hg];exact List.nodup_nil
  ·by_cases hji:j=i
   ·subst hji
    rw[Bi];have hfn:=uH h.rep gone k1.nd;have iG:∀b,b∈p++q→b∉(gone.map E.B).flatten:=fun b hb hb'=>by
     obtain⟨l,hl1,hl2⟩:=fl b hb';exact h.rep.dj l j b (fun e=>hi (by rw[←e];exact hl1)) hl2 (hpq b hb)
    rw[List.nodup_append] at hnd;rw[List.nodup_append,List.nodup_append];refine⟨⟨hnd.1,hfn,fun b hb c hc e=> ?_⟩,hnd.2.1,fun b hb c hc e=> ?_⟩
    ·subst e;exact iG b (List.mem_append.2 (.inl hb)) hc
    ·subst e
     rcases List.mem_append.1 hb with hb|hb
     ·exact hnd.2.2 b hb b hc rfl
     ·exact iG b (List.mem_append.2 (.inr hc)) hb
   ·rw[Bo j hji hg];exact h.rep.nd j
 ·intro j b hb
  have hsz:(dR E gone i g (k*t.size+off) cur cs p q).w.heap.size=E.w.heap.size:=by simp[dR]
  rw[hsz];rcases from_ j b hb with⟨rfl,h1|⟨l,hl,h1⟩⟩|⟨h1,h2,h3⟩
  ·exact⟨.inl ⟨_,h1⟩,(h.rep.bb _ b h1).1⟩
  ·exact⟨.inl ⟨l,h1⟩,(h.rep.bb l b h1).1⟩
  ·exact⟨.inl ⟨j,h3⟩,(h.rep.bb j b h3).1⟩
theorem uI{N:Nat}{E0 E:Env}{st:St}{a:Act}{i v:Nat}{e:TypeId}{t:Ty}{xs:List t.Den}(ah:st.ob i= .sl .own v e t xs)(h:Inv N E0 E st a):
 ∃E',E'.w=E.w∧E'.af=E.af∧Inv N E0 E' (st.set i (.sl .aV v e t xs)) a∧Ev E st.ob st.nx E' (st.set i (.sl .aV v e t xs)).ob st.nx∧(∀j,j≠i→E'.B j=E.B j)∧Rd E.w E'.Z (.list e t) xs [E.af i]:=by
 have hr:=h.rep.ob i;rw[ah] at hr;have hr:Ow E.w (.list e t) xs [E.af i] (E.B i):=hr;have hil:i<st.nx:=by
  rcases Nat.lt_or_ge i st.nx with hh|hh
  ·exact hh
  ·rw[h.rep.lt i hh] at ah;cases ah
 let E':Env:=⟨E.w,fun b=>E.Z b∨b∈E.B i,E.af,upd E.B i []⟩
 have bF:(upd st.ob i (.sl .aV v e t xs)) i= .sl .aV v e t xs:=upd_same _ _ _;have aY:∀j,j≠i→(upd st.ob i (.sl .aV v e t xs)) j=st.ob j:=fun j hj=>aB _ _ _ _ hj;have BI:E'.B i=[]:=upd_same _ _ _;have BO:∀j,j≠i→E'.B j=E.B j:=fun j hj=>aB _ _ _ _ hj;have dK:∀j b,b∈E'.B j→j≠i∧b∈E.B j:=fun j b hb=>by
  by_cases hj:j=i
  ·subst hj;rw[BI] at hb;simp at hb
  ·rw[BO j hj] at hb;exact⟨hj,hb⟩
 have ev:Ev E st.ob st.nx E' (upd st.ob i (.sl .aV v e t xs)) st.nx:=by
  refine⟨Nat.le_refl _,fun _ _=>rfl,fun b hb=> .inl hb,fun _ _=>rfl,fun j hj u hu=> ?_,fun j hj hu=> ?_,fun j hj fz v2 e2 t2 dG ho=> ?_⟩
  ·by_cases hji:j=i
   ·subst hji;rw[bF] at hu;rw[ah];exact hu
   ·rw[aY j hji] at hu;exact hu
  ·by_cases hji:j=i
   ·subst hji;rw[bF] at hu;cases hu
   ·rw[aY j hji] at hu;exact hu
  ·by_cases hji:j=i
   ·subst hji
    rw[bF] at ho;cases ho;exact⟨_,_,_,ah,rfl,Nat.le_refl _,fun _=>⟨rfl,fun b hb=>⟨rfl,.inr (hb.elim .inr .inl)⟩⟩⟩
   ·rw[aY j hji] at ho
    exact⟨fz,v2,dG,ho,rfl,Nat.le_refl _,fun _=>⟨rfl,fun b hb=>⟨rfl,hb.imp (fun hb=>by rw[BO j hji];exact hb) .inl⟩⟩⟩
 refine⟨E',rfl,rfl,⟨h.rep.turn (st':=st.set i (.sl .aV v e t xs)) rfl ev ?_ ?_ ?_ ?_ ?_ ?_,?_,h.defers,h.size,h.nx⟩,ev,BO,aN (fun b hb=> .inr hb) (fun _ _=>rfl) _ _ _ (dV _ _ _ _ hr)⟩
 ·intro j
  show aJ _ _ _ _ (upd st.ob i (.sl .aV v e t xs) j);by_cases hji:j=i
  ·subst hji
   rw[bF];exact⟨aN (fun b hb=> .inr hb) (fun _ _=>rfl) _ _ _ (dV _ _ _ _ hr),BI⟩
  ·rw[aY j hji]
   exact dL ev rfl (BO j hji) (fun _ _=>rfl) (h.rep.ob j)
 ·intro j hj
  show upd st.ob i (.sl .aV v e t xs) j=_;have hj:st.nx≤j:=hj;rw[aY j (by omega)];exact h.rep.lt j hj
 ·intro i1 j b hij h1 h2
  exact h.rep.dj i1 j b hij (dK _ _ h1).2 (dK _ _ h2).2
 ·intro j
  by_cases hji:j=i
  ·subst hji;rw[BI];exact List.nodup_nil
  ·rw[BO j hji];exact h.rep.nd j
 ·intro j b hb
  obtain⟨h1,h2⟩:=dK j b hb;exact⟨(h.rep.bb j b h2).1,fun hz=>hz.elim (h.rep.bb j b h2).2 (fun hz=>h.rep.dj j i b h1 h2 hz)⟩
 ·intro b hb
  exact hb.elim (h.rep.zb b) (fun hb=>(h.rep.bb i b hb).1)
 ·exact h.fr.trans ⟨rfl,rfl,rfl,Nat.le_refl _,fun _ _ _=>rfl,fun j b hb=> .inl ⟨j,(dK j b hb).2⟩,fun b hb=> .inl hb,fun b hb=>hb.imp id (fun hb=> .inl ⟨i,hb⟩),fun _ _=>rfl⟩
theorem ze{N:Nat}{E0 E:Env}{st st':St}{a:Act}{c c':Cn}(hf:qC st c=some (c',st'))(h:Inv N E0 E st a):
 ∃E',E'.w=E.w∧E'.af=E.af∧Inv N E0 E' st' a∧Ev E st.ob st.nx E' st'.ob st'.nx∧st'.sl=st.sl∧(∀v,ak E st.ob st.nx c v→ak E' st'.ob st'.nx c' v∧∃cs,av E' st'.ob st'.nx c' false cs∧aK c'=some c')∧
  ∀j,(st.ob j).bn=true→st'.ob j=st.ob j:=by
 unfold qC at hf;split at hf
 ·rename_i i aj d
  split at hf
  ·rename_i e0 t0 hty
   split at hf
   ·rename_i fz v e t xs ah
    split at hf
    ·split at hf
     ·rename_i hb
      obtain rfl:=Nat.eq_of_beq_eq_true hb;simp only[Option.some.injEq,Prod.mk.injEq] at hf;obtain⟨rfl,rfl⟩:=hf;have hr:=h.rep.ob i;rw[ah] at hr;have hr:Ow E.w (.list e t) xs [E.af i] (E.B i):=hr;have hil:i<st.nx:=by
       rcases Nat.lt_or_ge i st.nx with hh|hh
       ·exact hh
       ·rw[h.rep.lt i hh] at ah;cases ah
      let E':Env:=⟨E.w,fun b=>E.Z b∨b∈E.B i,E.af,upd E.B i []⟩
      have bF:(upd st.ob i (.sl .aV v e t xs)) i= .sl .aV v e t xs:=upd_same _ _ _;have aY:∀j,j≠i→(upd st.ob i (.sl .aV v e t xs)) j=st.ob j:=fun j hj=>aB _ _ _ _ hj;have BI:E'.B i=[]:=upd_same _ _ _;have BO:∀j,j≠i→E'.B j=E.B j:=fun j hj=>aB _ _ _ _ hj;have dK:∀j b,b∈E'.B j→j≠i∧b∈E.B j:=fun j b hb=>by
       by_cases hj:j=i
       ·subst hj;rw[BI] at hb;simp at hb
       ·rw[BO j hj] at hb;exact⟨hj,hb⟩
      have ev:Ev E st.ob st.nx E' (upd st.ob i (.sl .aV v e t xs)) st.nx:=by
       refine⟨Nat.le_refl _,fun _ _=>rfl,fun b hb=> .inl hb,fun _ _=>rfl,fun j hj u hu=> ?_,fun j hj hu=> ?_,fun j hj fz v2 e2 t2 dG ho=> ?_⟩
       ·by_cases hji:j=i
        ·subst hji;rw[bF] at hu;rw[ah];exact hu
        ·rw[aY j hji] at hu;exact hu
       ·by_cases hji:j=i
        ·subst hji;rw[bF] at hu;cases hu
        ·rw[aY j hji] at hu;exact hu
       ·by_cases hji:j=i
        ·subst hji
         rw[bF] at ho;cases ho;exact⟨_,_,_,ah,rfl,Nat.le_refl _,fun _=>⟨rfl,fun b hb=>⟨rfl,.inr (hb.elim .inr .inl)⟩⟩⟩
        ·rw[aY j hji] at ho
         exact⟨fz,v2,dG,ho,rfl,Nat.le_refl _,fun _=>⟨rfl,fun b hb=>⟨rfl,hb.imp (fun hb=>by rw[BO j hji];exact hb) .inl⟩⟩⟩
      refine⟨E',rfl,rfl,⟨h.rep.turn (st':=st.set i (.sl .aV v e t xs)) rfl ev ?_ ?_ ?_ ?_ ?_ ?_,?_,h.defers,h.size,h.nx⟩,ev,rfl,?_,?_⟩
      ·intro j
       show aJ _ _ _ _ (upd st.ob i (.sl .aV v e t xs) j);by_cases hji:j=i
       ·subst hji
        rw[bF];exact⟨aN (fun b hb=> .inr hb) (fun _ _=>rfl) _ _ _ (dV _ _ _ _ hr),BI⟩
       ·rw[aY j hji]
        exact dL ev rfl (BO j hji) (fun _ _=>rfl) (h.rep.ob j)
      ·intro j hj
       show upd st.ob i (.sl .aV v e t xs) j=_;have hj:st.nx≤j:=hj;rw[aY j (by omega)];exact h.rep.lt j hj
      ·intro i1 j b hij h1 h2
       exact h.rep.dj i1 j b hij (dK _ _ h1).2 (dK _ _ h2).2
      ·intro j
       by_cases hji:j=i
       ·subst hji;rw[BI];exact List.nodup_nil
       ·rw[BO j hji];exact h.rep.nd j
      ·intro j b hb
       obtain⟨h1,h2⟩:=dK j b hb;exact⟨(h.rep.bb j b h2).1,fun hz=>hz.elim (h.rep.bb j b h2).2 (fun hz=>h.rep.dj j i b h1 h2 hz)⟩
      ·intro b hb
       exact hb.elim (h.rep.zb b) (fun hb=>(h.rep.bb i b hb).1)
      ·exact h.fr.trans ⟨rfl,rfl,rfl,Nat.le_refl _,fun _ _ _=>rfl,fun j b hb=> .inl ⟨j,(dK j b hb).2⟩,fun b hb=> .inl hb,fun b hb=>hb.imp id (fun hb=> .inl ⟨i,hb⟩),fun _ _=>rfl⟩
      ·intro v0 hv0
       obtain⟨cs,⟨q1,q2,q3⟩,q4⟩:=hv0;have hrd:Rd E.w (src E (some (i,v))) d.ty d.v cs:=q3 (by simp only[live,fresh,ah]);have hc:av E' (st.set i (.sl .aV v e t xs)).ob st.nx (.ro none d) false cs:=⟨q1,trivial,fun _=>aN (fun b hb=>hb.elim .inr .inl) (fun _ _=>rfl) _ _ _ hrd⟩;obtain⟨ty,x⟩:=d;simp only at hty;subst hty;exact⟨⟨cs,hc,q4⟩,cs,hc,rfl⟩
      ·intro j hj
       show upd st.ob i (.sl .aV v e t xs) j=_;refine aY j (fun e=> ?_);subst e;rw[ah] at hj;cases hj
     ·cases hf
    ·cases hf
   ·cases hf
  ·cases hf
 ·cases hf
end Go.Am
end
section
namespace Go.Am
theorem oO{P:Program}{w:World}{t:TypeId}{n:Nat}(hi:∃i,P.info? t=some i∧i.size=n){g o:Nat}{cur:Array Value}{e:TypeId}{v:Value}{vs:List Value}(hg:w.heap[g]?=some (.cells cur e (0,0)))
 (hv:v.cells.toList=vs) (hl:vs.length=n) (hf:o+n≤cur.size) (h1:∀x,x∈vs→x.oneCell'=true):
 (Instr.storeAt t (.pointer (some ⟨g,o,none⟩)) v).run P w= .ok () (w.setRow g (splice cur.toList o vs).toArray):=by
 obtain⟨i,k1,k2⟩:=hi;have hs:v.cells.size=i.size:=by rw[k2,←hl,←hv];simp
 have hst:=run_storeCells_at P g o e vs 0 cur w hg (by omega) h1;simp only[Nat.add_zero] at hst;simp[Instr.storeAt,Instr.sureAddr,storeVar,sizeOf,typeInfo,k1,hs,hv,hst,splice]
theorem qA{a b:Ty}{x y:Cn}:fits (.cons a b) (.cons x y)=(fits a x&&fits b y):=rfl
theorem Br{E:Env}{ob:Nat→Ob}{nx:Nat}{g:Cn→Option Cn}{vs:List Value}{po:Nat}{pv:Ty}(hg:∀(x y:Cn),fits pv x=true→g x=some y→fits pv y=true∧
 ∀cs,av E ob nx x false cs→po+vs.length≤cs.length∧av E ob nx y false (splice cs po vs)):
 ∀(t:Ty) (c d:Cn) (n o:Nat) (v:Ty),fits t c=true→t.at n=some (o,v)→v=pv→gF g c n=some d→fits t d=true∧
  ∀cs,av E ob nx c false cs→o+po+vs.length≤cs.length∧av E ob nx d false (splice cs (o+po) vs):=by
 intro t
 induction t with
 |cons a b _ ihb=>
  intro c d n o v hf ha hv hs;cases c with
  |cons x y=>
   rw[qA,Bool.and_eq_true] at hf;cases n with
   |zero=>
    simp only[Ty.at,Option.some.injEq,Prod.mk.injEq] at ha;obtain⟨rfl,rfl⟩:=ha;simp only[gF] at hs;split at hs
    ·rename_i z hz
     cases hs;subst hv;obtain⟨k1,k2⟩:=hg x z hf.1 hz;refine⟨by rw[qA,k1,hf.2];rfl,fun cs h=> ?_⟩;obtain⟨c1,c2,h0,h1,h2⟩:=h;obtain⟨m1,m2⟩:=k2 c1 h1;refine⟨by rw[h0];simp;omega,splice c1 po vs,c2,?_,m2,h2⟩;rw[h0,Nat.zero_add];simp only[splice];rw[List.take_append_of_le_length (by omega),List.drop_append_of_le_length (by omega)];simp
    ·cases hs
   |succ n=>
    simp only[Ty.at] at ha;split at ha
    ·rename_i o' v' hb
     simp only[Option.some.injEq,Prod.mk.injEq] at ha;obtain⟨rfl,rfl⟩:=ha;simp only[gF] at hs;split at hs
     ·rename_i z hz
      cases hs;obtain⟨k1,k2⟩:=ihb y z n o' v' hf.2 hb hv hz;refine⟨by rw[qA,hf.1,k1];rfl,fun cs h=> ?_⟩;obtain⟨c1,c2,h0,h1,h2⟩:=h;obtain⟨m1,m2⟩:=k2 c2 h2;have hl:=gq a x c1 hf.1 h1;refine⟨by rw[h0];simp;omega,c1,splice c2 (o'+po) vs,?_,h1,m2⟩;rw[h0];simp only[splice];rw[List.take_append,List.take_of_length_le (by omega),show a.size+o'+po-c1.length=o'+po by omega,List.drop_append,List.drop_of_length_le (by omega),show a.size+o'+po+vs.length-c1.length=o'+po+vs.length by omega];simp
     ·cases hs
    ·cases ha
  |_=>simp[fits] at hf
 |_=>intro c d n o v hf ha;simp[Ty.at] at ha
theorem w9{E:Env}{ob:Nat→Ob}{nx:Nat}{c':Cn}{vs:List Value}(hc:av E ob nx c' false vs):∀(path:List Nat) (t:Ty) (c d:Cn) (o:Nat) (v:Ty),fits t c=true→t.aM path=some (o,v)→fits v c'=true→
 iw c' path c=some d→fits t d=true∧∀cs,av E ob nx c false cs→o+vs.length≤cs.length∧av E ob nx d false (splice cs o vs)
 |[],t,c,d,o,v,hf,ho,hv,hs=>by
  simp only[Ty.aM,Option.some.injEq,Prod.mk.injEq] at ho;obtain⟨rfl,rfl⟩:=ho;have hs:some c'=some d:=by cases c<;>simpa[iw] using hs
  cases hs;refine⟨hv,fun cs h=> ?_⟩;have l1:=gq _ _ _ hf h;have l2:=gq _ _ _ hv hc;refine⟨by omega,?_⟩;simp only[splice,List.take_zero,List.nil_append,Nat.zero_add];rw[List.drop_of_length_le (by omega)];simpa using hc
 |f::r,t,c,d,o,v,hf,ho,hv,hs=>by
  simp only[Ty.aM] at ho;split at ho
  ·rename_i o1 u1 k1
   split at ho
   ·rename_i o2 u2 k2
    simp only[Option.some.injEq,Prod.mk.injEq] at ho;obtain⟨rfl,rfl⟩:=ho;cases c with
    |agg fs=>
     simp only[iw] at hs;split at hs
     ·rename_i x hx
      cases hs;cases t with
      |st ft=>
       have:=Br (E:=E) (ob:=ob) (nx:=nx) (g:=iw c' r) (vs:=vs) (po:=o2) (pv:=u1) (fun x y hfx hy=>w9 hc r u1 x y o2 u2 hfx k2 hv hy) ft fs x f o1 u1 hf k1 rfl hx;exact this
      |_=>simp[Ty.dN] at k1
     ·cases hs
    |_=>simp[iw] at hs
   ·cases ho
  ·cases ho
theorem Bl{w:World}{g:(t:Ty)→t.Den→Option t.Den}{vs:List Value}{po:Nat}{pv:Ty}
 (hg:∀(x y:pv.Den),g pv x=some y→∀cs bs,Ow w pv x cs bs→po+vs.length≤cs.length∧Ow w pv y (splice cs po vs) bs):
 ∀(t:Ty) (n:Nat) (x y:t.Den) (o:Nat) (v:Ty),t.at n=some (o,v)→v=pv→dZ g t n x=some y→∀cs bs,Ow w t x cs bs→o+po+vs.length≤cs.length∧Ow w t y (splice cs (o+po) vs) bs:=by
 intro t
 induction t with
 |cons a b _ ihb=>
  intro n x y o v ha hv hs cs bs h;obtain⟨c,d,e,f,h0,h0',h1,h2⟩:=h;cases n with
  |zero=>
   simp only[Ty.at,Option.some.injEq,Prod.mk.injEq] at ha;obtain⟨rfl,rfl⟩:=ha;subst hv;simp only[dZ] at hs;split at hs
   ·rename_i z hz
    cases hs;obtain⟨m1,m2⟩:=hg _ _ hz c e h1;refine⟨by rw[h0];simp;omega,splice c po vs,d,e,f,?_,h0',m2,h2⟩;rw[h0,Nat.zero_add];simp only[splice];rw[List.take_append_of_le_length (by omega),List.drop_append_of_le_length (by omega)];simp
   ·cases hs
  |succ n=>
   simp only[Ty.at] at ha;split at ha
   ·rename_i o' v' hb
    simp only[Option.some.injEq,Prod.mk.injEq] at ha;obtain⟨rfl,rfl⟩:=ha;simp only[dZ] at hs;split at hs
    ·rename_i z hz
     cases hs;obtain⟨m1,m2⟩:=ihb n _ _ o' v' hb hv hz d f h2;have hl:=dH a _ c e h1;refine⟨by rw[h0];simp;omega,c,splice d (o'+po) vs,e,f,?_,h0',h1,m2⟩;rw[h0];simp only[splice];rw[List.take_append,List.take_of_length_le (by omega),show a.size+o'+po-c.length=o'+po by omega,List.drop_append,List.drop_of_length_le (by omega),show a.size+o'+po+vs.length-c.length=o'+po+vs.length by omega];simp
    ·cases hs
   ·cases ha
 |_=>intro n x y o v ha;simp[Ty.at] at ha
theorem Bn{w:World}{S:Nat→Prop}{g:(t:Ty)→t.Den→Option t.Den}{vs:List Value}{po:Nat}{pv:Ty}
 (hg:∀(x y:pv.Den),g pv x=some y→∀cs,Rd w S pv x cs→po+vs.length≤cs.length∧Rd w S pv y (splice cs po vs)):
 ∀(t:Ty) (n:Nat) (x y:t.Den) (o:Nat) (v:Ty),t.at n=some (o,v)→v=pv→dZ g t n x=some y→∀cs,Rd w S t x cs→o+po+vs.length≤cs.length∧Rd w S t y (splice cs (o+po) vs):=by
 intro t
 induction t with
 |cons a b _ ihb=>
  intro n x y o v ha hv hs cs h;obtain⟨c,d,h0,h1,h2⟩:=h;cases n with
  |zero=>
   simp only[Ty.at,Option.some.injEq,Prod.mk.injEq] at ha;obtain⟨rfl,rfl⟩:=ha;subst hv;simp only[dZ] at hs;split at hs
   ·rename_i z hz
    cases hs;obtain⟨m1,m2⟩:=hg _ _ hz c h1;refine⟨by rw[h0];simp;omega,splice c po vs,d,?_,m2,h2⟩;rw[h0,Nat.zero_add];simp only[splice];rw[List.take_append_of_le_length (by omega),List.drop_append_of_le_length (by omega)];simp
   ·cases hs
  |succ n=>
   simp only[Ty.at] at ha;split at ha
   ·rename_i o' v' hb
    simp only[Option.some.injEq,Prod.mk.injEq] at ha;obtain⟨rfl,rfl⟩:=ha;simp only[dZ] at hs;split at hs
    ·rename_i z hz
     cases hs;obtain⟨m1,m2⟩:=ihb n _ _ o' v' hb hv hz d h2;have hl:=aH a _ c h1;refine⟨by rw[h0];simp;omega,c,splice d (o'+po) vs,?_,h1,m2⟩;rw[h0];simp only[splice];rw[List.take_append,List.take_of_length_le (by omega),show a.size+o'+po-c.length=o'+po by omega,List.drop_append,List.drop_of_length_le (by omega),show a.size+o'+po+vs.length-c.length=o'+po+vs.length by omega];simp
    ·cases hs
   ·cases ha
 |_=>intro n x y o v ha;simp[Ty.at] at ha
theorem xg{w:World}{S:Nat→Prop}{d:DV}{vs:List Value}(hd:Rd w S d.ty d.v vs):∀(path:List Nat) (t:Ty) (x y:t.Den) (o:Nat) (v:Ty),t.aM path=some (o,v)→bQ d path t x=some y→
 ∀cs,Rd w S t x cs→o+vs.length≤cs.length∧Rd w S t y (splice cs o vs)
 |[],t,x,y,o,v,ho,hs,cs,h=>by
  simp only[Ty.aM,Option.some.injEq,Prod.mk.injEq] at ho;obtain⟨rfl,rfl⟩:=ho;obtain rfl:=cZ (show bz t d=some y from hs);have l1:=aH _ _ _ h;have l2:=aH _ _ _ hd;refine⟨by simp only at l2;omega,?_⟩;simp only[splice,List.take_zero,List.nil_append,Nat.zero_add];rw[List.drop_of_length_le (by simp only at l2;omega),List.append_nil];exact hd
 |f::r,t,x,y,o,v,ho,hs,cs,h=>by
  simp only[Ty.aM] at ho;split at ho
  ·rename_i o1 u1 k1
   split at ho
   ·rename_i o2 u2 k2
    simp only[Option.some.injEq,Prod.mk.injEq] at ho;obtain⟨rfl,rfl⟩:=ho;cases t with
    |st ft=>
     exact Bn (w:=w) (S:=S) (g:=bQ d r) (vs:=vs) (po:=o2) (pv:=u1) (fun x y hy cs hx=>xg hd r u1 x y o2 u2 k2 hy cs hx) ft f x y o1 u1 k1 rfl hs cs h
    |_=>simp[Ty.dN] at k1
   ·cases ho
  ·cases ho
theorem sV{α:Type}{R:α→List Value→Prop}{s:Nat}(hs:∀x c,R x c→c.length=s){y:α}{vs:List Value}{po:Nat}:∀(xs:List α) (f:List Value) (k:Nat) (x:α),aU R xs f→xs[k]?=some x→
 (∀c,R x c→po+vs.length≤c.length∧R y (splice c po vs))→k*s+po+vs.length≤f.length∧aU R (xs.set k y) (splice f (k*s+po) vs)
 |[],f,k,x,h,hx,_=>by simp at hx
 |z::zs,f,0,x,⟨c,g,h1,h3,h4⟩,hx,hy=>by
  simp at hx;subst hx;obtain⟨m1,m2⟩:=hy c h3;refine⟨by rw[h1];simp;omega,splice c po vs,g,?_,m2,h4⟩;rw[h1,Nat.zero_mul,Nat.zero_add];simp only[splice];rw[List.take_append_of_le_length (by omega),List.drop_append_of_le_length (by omega)];simp
 |z::zs,f,k+1,x,⟨c,g,h1,h3,h4⟩,hx,hy=>by
  obtain⟨m1,m2⟩:=sV hs zs g k x h4 (by simpa using hx) hy;have hl:=hs _ _ h3;have e0:(k+1)*s=s+k*s:=by rw[Nat.add_mul,Nat.one_mul,Nat.add_comm]
  refine⟨by rw[h1,e0];simp;omega,c,splice g (k*s+po) vs,?_,h3,m2⟩;rw[h1,e0];simp only[splice];rw[List.take_append,List.take_of_length_le (by omega),show s+k*s+po-c.length=k*s+po by omega,List.drop_append,List.drop_of_length_le (by omega),show s+k*s+po+vs.length-c.length=k*s+po+vs.length by omega];simp
theorem w_{w:World}{d:DV}{vs:List Value}(hd:Rd w (fun _=>False) d.ty d.v vs)(hf:d.ty.flat=true):∀(path:List Nat) (t:Ty) (x y:t.Den) (o:Nat) (v:Ty),t.aM path=some (o,v)→bQ d path t x=some y→
 ∀cs bs,Ow w t x cs bs→o+vs.length≤cs.length∧Ow w t y (splice cs o vs) bs
 |[],t,x,y,o,v,ho,hs,cs,bs,h=>by
  simp only[Ty.aM,Option.some.injEq,Prod.mk.injEq] at ho;obtain⟨rfl,rfl⟩:=ho;obtain rfl:=cZ (show bz t d=some y from hs);have l1:=dH _ _ _ _ h;have l2:=aH _ _ _ hd;have hb:=iC t hf x cs bs h;refine⟨by simp only at l2;omega,?_⟩;simp only[splice,List.take_zero,List.nil_append,Nat.zero_add];rw[List.drop_of_length_le (by simp only at l2;omega),List.append_nil,hb];exact jK t hf y vs hd
 |f::r,t,x,y,o,v,ho,hs,cs,bs,h=>by
  simp only[Ty.aM] at ho;split at ho
  ·rename_i o1 u1 k1
   split at ho
   ·rename_i o2 u2 k2
    simp only[Option.some.injEq,Prod.mk.injEq] at ho;obtain⟨rfl,rfl⟩:=ho;cases t with
    |st ft=>
     exact Bl (w:=w) (g:=bQ d r) (vs:=vs) (po:=o2) (pv:=u1) (fun x y hy cs bs hx=>w_ hd hf r u1 x y o2 u2 k2 hy cs bs hx) ft f x y o1 u1 k1 rfl hs cs bs h
    |_=>simp[Ty.dN] at k1
   ·cases ho
  ·cases ho
theorem tK{α:Type}{R:α→List Value→List Nat→Prop}{s:Nat}(hs:∀x c b,R x c b→c.length=s){y:α}{vs:List Value}{po:Nat}:∀(xs:List α) (f:List Value) (bs:List Nat) (k:Nat) (x:α),bg R xs f bs→xs[k]?=some x→
 (∀c b,R x c b→po+vs.length≤c.length∧R y (splice c po vs) b)→k*s+po+vs.length≤f.length∧bg R (xs.set k y) (splice f (k*s+po) vs) bs
 |[],f,bs,k,x,h,hx,_=>by simp at hx
 |z::zs,f,bs,0,x,⟨c,g,b,d,h1,h2,h3,h4⟩,hx,hy=>by
  simp at hx;subst hx;obtain⟨m1,m2⟩:=hy c b h3;refine⟨by rw[h1];simp;omega,splice c po vs,g,b,d,?_,h2,m2,h4⟩;rw[h1,Nat.zero_mul,Nat.zero_add];simp only[splice];rw[List.take_append_of_le_length (by omega),List.drop_append_of_le_length (by omega)];simp
 |z::zs,f,bs,k+1,x,⟨c,g,b,d,h1,h2,h3,h4⟩,hx,hy=>by
  obtain⟨m1,m2⟩:=tK hs zs g d k x h4 (by simpa using hx) hy;have hl:=hs _ _ _ h3;have e0:(k+1)*s=s+k*s:=by rw[Nat.add_mul,Nat.one_mul,Nat.add_comm]
  refine⟨by rw[h1,e0];simp;omega,c,splice g (k*s+po) vs,b,d,?_,h2,h3,m2⟩;rw[h1,e0];simp only[splice];rw[List.take_append,List.take_of_length_le (by omega),show s+k*s+po-c.length=k*s+po by omega,List.drop_append,List.drop_of_length_le (by omega),show s+k*s+po+vs.length-c.length=k*s+po+vs.length by omega];simp
theorem je{E:Env}{ob:Nat→Ob}{nx:Nat}:∀(c:Cn) (d:DV) (cs:List Value),bT c=some d→av E ob nx c false cs→Rd E.w (fun _=>False) d.ty d.v cs∧d.ty.flat=true∧d.ty.isAgg=c.isAgg
 | .ro none d0,d,cs,h,hc=>by
   simp only[bT] at h;split at h
   ·rename_i hf
    cases h;exact⟨fV _ hf _ _ (hc.2.2 trivial),hf,rfl⟩
   ·cases h
 | .nil,d,cs,h,hc=>by simp only[bT,Option.some.injEq] at h;subst h;exact⟨hc,rfl,rfl⟩
 | .cons a b,d,cs,h,hc=>by
   simp only[bT] at h;split at h
   ·rename_i x y hx hy
    cases h;obtain⟨c1,c2,h0,h1,h2⟩:=hc;obtain⟨k1,k2,_⟩:=je a x c1 hx h1;obtain⟨m1,m2,_⟩:=je b y c2 hy h2;exact⟨⟨c1,c2,h0,k1,m1⟩,by simp[Ty.flat,k2,m2],rfl⟩
   ·cases h
 | .agg c,d,cs,h,hc=>by
   simp only[bT] at h;split at h
   ·rename_i x hx
    cases h;obtain⟨k1,k2,_⟩:=je c x cs hx hc;exact⟨k1,k2,rfl⟩
   ·cases h
 | .ro (some _) _,_,_,h,_| .bq _ _,_,_,h,_| .h _,_,_,h,_| .p _,_,_,h,_| .addr _ _ _ _ _ _,_,_,h,_| .aZ _ _,_,_,h,_| .sub _ _ _ _ _,_,_,h,_| .fn _ _,_,_,h,_| .b_ _,_,_,h,_
 | .cst _,_,_,h,_| .any,_,_,h,_| .dead,_,_,h,_=>by simp[bT] at h
section
variable{P:Program}{R:Type}{C:Ctx}{o:Oper}{st:St}{k:St→Option R}{r:R}{E0 E:Env}{a:Act}{K:Act→World→Prop}{Q:Exit→Act→World→Prop}{g:Bool}
theorem nT{w:World}{g:Nat}{cur cs:Array Value}{t:TypeId}(hg:w.heap[g]?=some (.cells cur t (0,0))):(w.setRow g cs).heap[g]?=some (.cells cs t (0,0)):=setRow_heap w g cur cs t (0,0) hg
theorem p9(ay:∀t u,C.tt t=some u→aT P t u){ty:TypeId}{A X:Operand}{c c' n old:Cn}{i off:Nat}{u v:Ty}{path:List Nat}(ho:o.op= .store ty A X)(hgf:g=false)(hd:o.dst=none)
 (ah:st.ob i= .box u old) (hof:u.aM path=some (off,v)) (hb:aK c=some c') (hf:fits v c'=true) (hT:bA C.tt ty v=true) (hn:iw c' path old=some n)
 (hA:∃g,bS (E.af i)=some g∧a.eval A= .pointer (some ⟨g,off,none⟩)) (hi:i<st.nx)
 (hk:k (st.set i (.box u n))=some r) (h:Inv C.N E0 E st a) (hx:ak E st.ob st.nx c (a.eval X))
 (hK:∀st' E' v,k st'=some r→Inv C.N E0 E' st' (a.put o.dst v)→aL P C g o a v E.w E'.w→K (a.put o.dst v) E'.w):o.wp P a E.w K Q:=by
 obtain⟨g,hbk,hA⟩:=hA;have hbx:=h.rep.ob i;rw[ah] at hbx;obtain⟨g',cs,t,k1,k2,k3,k4,k5⟩:=hbx;have:g'=g:=by rw[k1] at hbk;simpa[bS] using hbk
 subst this;obtain⟨vs,m1,m2,m3,_⟩:=p_ hb hx;obtain⟨q1,q2⟩:=w9 m1 path u old n off v k4 hof hf hn;obtain⟨q3,q4⟩:=q2 cs k3;have hvl:=gq v c' vs hf m1;obtain⟨ii,zz,i1,i2,_⟩:=(ay _ _ (cB hT)).info;have hrun:=oO (P:=P) (w:=E.w) (t:=ty) (n:=v.size) ⟨ii,i1,i2⟩ k2 m2 hvl (by rw[←hvl];simpa using q3) m3
 have hI:=h.touch i (.box u n) (w:=E.w.setRow g' (splice cs off vs).toArray) rfl rfl rfl (by simp) (fun b hb=>setRow_other E.w g' b _ (fun e=>hb (by rw[k5,e];simp))) hi
  (fun fz v e t xs he=>by cases he) ⟨fun u' hu'=>by rw[ah];exact hu',fun _=>by rw[ah];rfl⟩
  (fun ev=>⟨g',splice cs off vs,t,k1,nT k2,eG ev _ _ _ q4,q1,k5⟩)
 refine mW (w':=E.w.setRow g' (splice cs off vs).toArray) (by unfold execOp;simp[ho,hA,hrun]) ?_;have hput:a.put o.dst undef=a:=by rw[hd];rfl
 exact hK _ _ undef hk (by rw[hput];exact hI) (.loud (by simp[still,ho]) (fun hgt=>by rw[hgf] at hgt;cases hgt))
theorem A_(ay:∀t u,C.tt t=some u→aT P t u){ty:TypeId}{A X:Operand}{c:Cn}{d:DV}{i off aj:Nat}{ix:Int}{e:TypeId}{t v:Ty}{xs:List t.Den}{x y:t.Den}{path:List Nat}(ho:o.op= .store ty A X)(hgf:g=false)(hd:o.dst=none)
 (ah:st.ob i= .sl .own aj e t xs) (hof:t.aM path=some (off,v)) (hc:bT c=some d) (hT:bA C.tt ty d.ty=true) (h0:0≤ix) (hxs:xs[ix.toNat]?=some x) (hy:bQ d path t x=some y)
 (hA:∃g,bS (E.af i)=some g∧a.eval A= .pointer (some ⟨g,ix.toNat*t.size+off,none⟩)) (hi:i<st.nx)
 (hk:k (st.set i (.sl .own (aj+1) e t (xs.set ix.toNat y)))=some r) (h:Inv C.N E0 E st a) (hx:ak E st.ob st.nx c (a.eval X))
 (hK:∀st' E' v,k st'=some r→Inv C.N E0 E' st' (a.put o.dst v)→aL P C g o a v E.w E'.w→K (a.put o.dst v) E'.w):o.wp P a E.w K Q:=by
 obtain⟨g,hbk,hA⟩:=hA;have hrow:=h.rep.ob i;rw[ah] at hrow;obtain⟨rv,f,nb,k1,k2,k3,k4⟩:=hrow;have k1:E.af i=rv:=by simpa using k1
 have hlt:ix.toNat<xs.length:=(List.getElem?_eq_some_iff.1 hxs).1;rcases k2.2 with⟨_,hz⟩|⟨g',cap,cur,dA,hg0,hgg,hnc,hcm,hcs,htk⟩
 ·omega
 have:g'=g:=by rw[k1,dA] at hbk;simpa[bS] using hbk
 subst this;have hde:c≠ .dead:=by intro e;rw[e] at hc;simp[bT] at hc
 obtain⟨vs,hv1,hv2⟩:=eD hx hde;obtain⟨r1,r2,r3⟩:=je c d vs hc hv1;have hone:=fZ _ _ _ r1;have hcells:=kG hv2 hone;obtain⟨s1,s2⟩:=tK (dH t) (y:=y) (vs:=vs) (po:=off) xs f nb ix.toNat x k3 hxs (fun c b hcb=>w_ (w:=E.w) r1 r2 path t x y off v hof hy c b hcb);have hvl:=aH _ _ _ r1;obtain⟨ii,zz,i1,i2,_⟩:=(ay _ _ (cB hT)).info;have hfl:f.length=xs.length*t.size:=k2.1;have hcap:xs.length*t.size≤cap*t.size:=Nat.mul_le_mul_right _ hnc;have hrun:=oO (P:=P) (w:=E.w) (t:=ty) (n:=d.ty.size) ⟨ii,i1,i2⟩ (o:=ix.toNat*t.size+off) hgg hcells hvl (by omega) hone;have hnd:=h.rep.nd i;rw[k4,dA] at hnd;simp[Value.ownBlock] at hnd
 have hI:=h.touch i (.sl .own (aj+1) e t (xs.set ix.toNat y)) (w:=E.w.setRow g' (splice cur.toList (ix.toNat*t.size+off) vs).toArray) rfl rfl rfl (by simp)
  (fun b hb=>setRow_other E.w g' b _ (fun e=>hb (by rw[k4,dA,e];simp[Value.ownBlock]))) hi
  (fun fz v' e' t' xs' he=>by cases he;exact⟨.own,aj,xs,ah,by simp,Nat.lt_succ_self _⟩) ⟨fun u' hu'=>by rw[ah];exact hu',fun hh=>by cases hh⟩
  (fun ev=>by
   refine⟨rv,splice f (ix.toNat*t.size+off) vs,nb,by rw[←k1],⟨?_,.inr ⟨g',cap,(splice cur.toList (ix.toNat*t.size+off) vs).toArray,by rw[dA];simp,hg0,nT hgg,by simpa using hnc,hcm,?_,?_⟩⟩,?_,k4⟩
   ·rw[kQ s1,hfl];simp
   ·rw[List.size_toArray,kQ (by simp;omega)];simpa using hcs
   ·rw[←htk]
    simp only[List.length_set];simp only[splice];have e1:ix.toNat*t.size+off+vs.length≤xs.length*t.size:=by rw[←hfl];exact s1
    rw[List.take_append,List.take_append];simp only[List.length_append,List.length_take,Array.length_toList]
    rw[List.take_take,List.take_take,Nat.min_eq_left (by omega:ix.toNat*t.size+off≤cur.size),Nat.min_eq_right (by omega:ix.toNat*t.size+off≤xs.length*t.size),Nat.min_eq_left (by omega:ix.toNat*t.size+off≤xs.length*t.size),
     List.take_of_length_le (by omega:vs.length≤xs.length*t.size-(ix.toNat*t.size+off)),List.drop_take]
   ·exact jH s2 fun b hb=>setRow_other E.w g' b _ (fun e=>hnd.1 (by rw[←e];exact hb)))
 refine mW (w':=E.w.setRow g' (splice cur.toList (ix.toNat*t.size+off) vs).toArray) (by unfold execOp;simp[ho,hA,hrun]) ?_;have hput:a.put o.dst undef=a:=by rw[hd];rfl
 exact hK _ _ undef hk (by rw[hput];exact hI) (.loud (by simp[still,ho]) (fun hgt=>by rw[hgf] at hgt;cases hgt))
theorem Bt(ay:∀t u,C.tt t=some u→aT P t u){ty:TypeId}{A X:Operand}{i j off aj v2:Nat}{ix:Int}{e e2:TypeId}{t t2 v:Ty}{xs:List t.Den}{ys:List t2.Den}{x y:t.Den}{path:List Nat}(ho:o.op= .store ty A X)(hgf:g=false)(hd:o.dst=none)
 (hij:j≠i) (ah:st.ob i= .sl .shl aj e t xs) (fH:st.ob j= .sl .own v2 e2 t2 ys) (hof:t.aM path=some (off,v)) (hT:bA C.tt ty (.list e2 t2)=true) (hxs:xs[ix.toNat]?=some x) (hy:bQ ⟨.list e2 t2,ys⟩ path t x=some y)
 (hA:∃g,bS (E.af i)=some g∧a.eval A= .pointer (some ⟨g,ix.toNat*t.size+off,none⟩)) (hi:i<st.nx)
 (hk:k ((st.set j (.sl .aV v2 e2 t2 ys)).set i (.sl .shl (aj+1) e t (xs.set ix.toNat y)))=some r) (h:Inv C.N E0 E st a) (hx:ak E st.ob st.nx (.h j) (a.eval X))
 (hK:∀st' E' v,k st'=some r→Inv C.N E0 E' st' (a.put o.dst v)→aL P C g o a v E.w E'.w→K (a.put o.dst v) E'.w):o.wp P a E.w K Q:=by
 obtain⟨g,hbk,hA⟩:=hA;obtain⟨E1,w1,w2,w3,w4,w5,w6⟩:=uI fH h;obtain⟨cs0,hc0,hm0⟩:=hx;have hm0:cs0=[a.eval X]:=hm0;have zo:a.eval X=E.af j:=by have:=hc0.2.2;rw[hm0] at this;simpa using this
 have hrow:=w3.rep.ob i;have jk:(st.set j (.sl .aV v2 e2 t2 ys)).ob i= .sl .shl aj e t xs:=by
  show upd st.ob j _ i=_;rw[aB _ _ _ _ (fun e=>hij e.symm),ah]
 rw[jk] at hrow;obtain⟨f,k2,k3,k4⟩:=hrow;have k1:E1.af i=E.af i:=by rw[w2]
 have hlt:ix.toNat<xs.length:=(List.getElem?_eq_some_iff.1 hxs).1;rcases k2.2 with⟨_,hz⟩|⟨g',cap,cur,dA,hg0,hgg,hnc,hcm,hcs,htk⟩
 ·omega
 have:g'=g:=by rw[k1] at dA;rw[dA] at hbk;simpa[bS] using hbk
 subst this;have r1:Rd E1.w E1.Z (.list e2 t2) ys [E.af j]:=by rw[w1];exact w6
 have hone:=fZ _ _ _ r1;have hcells:(a.eval X).cells.toList=[E.af j]:=by rw[zo];exact kG (agg:=false) (show[E.af j]=[E.af j] from rfl) hone
 obtain⟨s1,s2⟩:=sV (aH t) (y:=y) (vs:=[E.af j]) (po:=off) xs f ix.toNat x k3 hxs (fun c hcb=>xg (w:=E1.w) (S:=E1.Z) (d:=⟨.list e2 t2,ys⟩) r1 path t x y off v hof hy c hcb);obtain⟨ii,zz,i1,i2,_⟩:=(ay _ _ (cB hT)).info;have hfl:f.length=xs.length*t.size:=k2.1;have hcap:xs.length*t.size≤cap*t.size:=Nat.mul_le_mul_right _ hnc;have hvl:([E.af j]:List Value).length=(Ty.list e2 t2).size:=rfl;have hrun:=oO (P:=P) (w:=E1.w) (t:=ty) (n:=(Ty.list e2 t2).size) ⟨ii,i1,i2⟩ (o:=ix.toNat*t.size+off) hgg hcells hvl (by omega) hone;have hB:g'∈E1.B i:=by rw[k4,dA];simp[Value.ownBlock]
 have hnz:¬E1.Z g':=(w3.rep.bb i g' hB).2
 have hI:=w3.touch i (.sl .shl (aj+1) e t (xs.set ix.toNat y)) (w:=E1.w.setRow g' (splice cur.toList (ix.toNat*t.size+off) [E.af j]).toArray) rfl rfl rfl (by simp)
  (fun b hb=>setRow_other E1.w g' b _ (fun e=>hb (by rw[e];exact hB))) hi
  (fun fz v' e' t' xs' he=>by cases he;exact⟨.shl,aj,xs,jk,by simp,Nat.lt_succ_self _⟩) ⟨fun u' hu'=>by rw[jk];exact hu',fun hh=>by cases hh⟩
  (fun ev=>by
   refine⟨splice f (ix.toNat*t.size+off) [E.af j],⟨?_,.inr ⟨g',cap,(splice cur.toList (ix.toNat*t.size+off) [E.af j]).toArray,by rw[dA];simp,hg0,nT hgg,by simpa using hnc,hcm,?_,?_⟩⟩,?_,k4⟩
   ·rw[kQ s1,hfl];simp
   ·rw[List.size_toArray,kQ (by simp;omega)];simpa using hcs
   ·rw[←htk]
    simp only[List.length_set];simp only[splice];have e1:ix.toNat*t.size+off+([E.af j]:List Value).length≤xs.length*t.size:=by rw[←hfl];exact s1
    rw[List.take_append,List.take_append];simp only[List.length_append,List.length_take,Array.length_toList]
    rw[List.take_take,List.take_take,Nat.min_eq_left (by omega:ix.toNat*t.size+off≤cur.size),Nat.min_eq_right (by omega:ix.toNat*t.size+off≤xs.length*t.size),Nat.min_eq_left (by omega:ix.toNat*t.size+off≤xs.length*t.size),
     List.take_of_length_le (by omega:([E.af j]:List Value).length≤xs.length*t.size-(ix.toNat*t.size+off)),List.drop_take]
   ·exact fo (fun x c zM=>aN (fun b hb=>hb) (fun b hb=>setRow_other E1.w g' b _ (fun e=>hnz (by rw[←e];exact hb))) _ _ _ zM) _ _ s2)
 rw[←w1];refine mW (w':=E1.w.setRow g' (splice cur.toList (ix.toNat*t.size+off) [E.af j]).toArray) (by unfold execOp;simp[ho,hA,hrun]) ?_;have hput:a.put o.dst undef=a:=by rw[hd];rfl
 exact hK _ _ undef hk (by rw[hput];exact hI) (.loud (by simp[still,ho]) (fun hgt=>by rw[hgf] at hgt;cases hgt))
theorem wG(ay:∀t u,C.tt t=some u→aT P t u){ty:TypeId}{A X:Operand}{d:DV}{st1:St}{gone:List Nat}{i es off aj:Nat}{md:Md}{ix:Int}{e:TypeId}{t:Ty}{xs:List t.Den}{x y:t.Den}{path:List Nat}{p q:List Nat}{cc cs:List Value}
 (ho:o.op= .store ty A X) (hgf:g=false) (hd:o.dst=none) (k1:Tk st st1 gone) (ah:st.ob i= .sl md aj e t xs) (hi:i∉gone) (hil:i<st.nx) (hpq:∀b,b∈p++q→b∈E.B i) (hnd:(p++q).Nodup)
 (hl:jE E.w e t xs (E.af i) p q ix.toNat path d.ty cc) (how:Ow E.w d.ty d.v cs (gone.map E.B).flatten) (hm:mkV d.ty.isAgg cs (a.eval X)) (hT:bA C.tt ty d.ty=true) (hxs:xs[ix.toNat]?=some x) (hy:bQ d path t x=some y)
 (hof:∃v,t.aM path=some (off,v)) (hes:es=t.size) (hA:∃g,bS (E.af i)=some g∧a.eval A= .pointer (some ⟨g,ix.toNat*es+off,none⟩))
 (hk:k (st1.set i (.sl .own (aj+1) e t (xs.set ix.toNat y)))=some r) (h:Inv C.N E0 E st a)
 (hK:∀st' E' v,k st'=some r→Inv C.N E0 E' st' (a.put o.dst v)→aL P C g o a v E.w E'.w→K (a.put o.dst v) E'.w):o.wp P a E.w K Q:=by
 obtain⟨g1,off1,cur,m1,m2,m3,m4,m5⟩:=h.part k1 ah hi hil hpq hnd hl how hxs hy;obtain⟨g2,n1,n2⟩:=hA;rw[m1] at n1;obtain rfl:=Option.some.inj n1;obtain⟨v',hv'⟩:=hof;rw[m3] at hv';simp only[Option.some.injEq,Prod.mk.injEq] at hv';obtain⟨rfl,_⟩:=hv';subst hes;have hone:=lC _ _ _ _ how;have hcells:=kG hm hone;obtain⟨ii,zz,i1,i2,_⟩:=(ay _ _ (cB hT)).info;have hrun:=oO (P:=P) (w:=E.w) (t:=ty) (n:=d.ty.size) ⟨ii,i1,i2⟩ (o:=ix.toNat*t.size+off1) m2 hcells (dH _ _ _ _ how) m4 hone;refine mW (w':=(dR E gone i g1 (ix.toNat*t.size+off1) cur cs p q).w) (by unfold execOp;simp[ho,n2,hrun,dR]) ?_;have hput:a.put o.dst undef=a:=by rw[hd];rfl
 exact hK _ _ undef hk (by rw[hput];exact m5) (.loud (by simp[still,ho]) (fun hgt=>by rw[hgf] at hgt;cases hgt))
theorem BH(ay:∀t u,C.tt t=some u→aT P t u){ty:TypeId}{A X:Operand}{c:Cn}{i es off:Nat}{ix:Int}{path:List Nat}(ho:o.op= .store ty A X)(hgf:g=false)(hd:o.dst=none)
 (hil:i<st.nx) (h0:0≤ix) (hof:∀u,(st.ob i).lay=some u→∃v,u.aM path=some (off,v)) (hes:∀md aj e t xs,st.ob i= .sl md aj e t xs→es=t.size)
 (hA:∃g,bS (E.af i)=some g∧a.eval A= .pointer (some ⟨g,ix.toNat*es+off,none⟩))
 (hk:storeT C.tt ty st i ix path c k=some r) (h:Inv C.N E0 E st a) (hx:ak E st.ob st.nx c (a.eval X))
 (hK:∀st' E' v,k st'=some r→Inv C.N E0 E' st' (a.put o.dst v)→aL P C g o a v E.w E'.w→K (a.put o.dst v) E'.w):o.wp P a E.w K Q:=by
 unfold storeT at hk;split at hk
 ·rename_i d st1 htk
  split at hk
  ·rename_i hT
   have hde:c≠ .dead:=by intro e;rw[e] at htk;simp[dU] at htk
   obtain⟨cs,hc,hm⟩:=eD hx hde;obtain⟨gone,k1,how,hag⟩:=mV c st d st1 cs htk hc h.rep.owns;rw[←hag] at hm;have hin:∀md aj e t xs,st1.ob i= .sl md aj e t xs→i∉gone∧st.ob i= .sl md aj e t xs:=by
    intro md aj e t xs hh;rw[k1.ob i] at hh;by_cases hg:i∈gone
    ·simp[hg] at hh
    ·rw[if_neg hg] at hh;exact⟨hg,hh⟩
   split at hk
   ·rename_i aj e t xs jk
    obtain⟨hg,ah⟩:=hin _ _ _ _ _ jk;obtain⟨x,hx1,hk2⟩:=Option.bind_eq_some_iff.1 hk;obtain⟨_,_,h2,_⟩:=jy hx1;split at hk2
    ·rename_i d0 hd0
     split at hk2
     ·rename_i hty
      have hty:=of_decide_eq_true hty;split at hk2
      ·rename_i y hy
       obtain⟨v',hv'⟩:=hof t (by rw[ah];rfl);have hv2:=qG path t x d0 off v' hd0 hv';obtain⟨Ch,dv⟩:=d;obtain⟨Cq,v0⟩:=d0;simp only at hty hv2;subst hty;subst hv2;have hi:=h.rep.ob i;rw[ah] at hi;obtain⟨p,b,q,cc,l1,l2,l3⟩:=tL hi (h.rep.nd i) h2 hd0 hv';have hnd:=h.rep.nd i;rw[l1,List.nodup_append,List.nodup_append] at hnd;refine wG (cc:=cc) (md:= .own) (p:=p) (q:=q) ay ho hgf hd k1 ah hg hil ?_ ?_ l3 how hm hT h2 hy ⟨_,hv'⟩ (hes _ _ _ _ _ ah) hA hk2 h hK
       ·intro b' hb'
        rw[l1];rcases List.mem_append.1 hb' with hb'|hb'
        ·simp[hb']
        ·simp[hb']
       ·rw[List.nodup_append]
        exact⟨hnd.1.1,hnd.2.1,fun b1 hb1 b2 hb2=>hnd.2.2 b1 (List.mem_append.2 (.inl hb1)) b2 hb2⟩
      ·cases hk2
     ·cases hk2
    ·cases hk2
   ·rename_i ix' path' m aj e t xs jk
    obtain⟨hg,ah⟩:=hin _ _ _ _ _ jk;split at hk
    ·rename_i hp
     obtain rfl:=wH _ _ hp;cases hix:ix==ix' with
     |false=>rw[hix] at hk;cases hk
     |true=>
      rw[hix] at hk;simp only[cond_true] at hk;obtain rfl:ix=ix':=by simpa using hix
      obtain⟨x,hx1,hk⟩:=Option.bind_eq_some_iff.1 hk;obtain⟨_,_,h2,_⟩:=jy hx1;split at hk
      ·rename_i d0 hd0
       split at hk
       ·rename_i hty
        have hty:=of_decide_eq_true hty;split at hk
        ·rename_i y hy
         obtain⟨v',hv'⟩:=hof t (by rw[ah];rfl);have hv2:=qG path t x d0 off v' hd0 hv';have hi:=h.rep.ob i;rw[ah] at hi;obtain⟨hm0,p,q,e',u,l1,l2,l3⟩:=hi;have hs:d.ty= .list e' u:=by
          obtain⟨_,_,_,_,off1,_,_,_,q4,_⟩:=l3;rw[q4] at hv';simp only[Option.some.injEq,Prod.mk.injEq] at hv';rw[←hty,←hv2,←hv'.2]
         rw[←hs] at l3;refine wG (md:= .hole ix path m) (p:=p) (q:=q) ay ho hgf hd k1 ah hg hil (fun b' hb'=>by rw[l1];exact hb') (by rw[←l1];exact h.rep.nd i) l3 how hm hT h2 hy ⟨_,hv'⟩ (hes _ _ _ _ _ ah) hA hk h hK
        ·cases hk
       ·cases hk
      ·cases hk
    ·cases hk
   ·cases hk
  ·cases hk
 ·cases hk
theorem BC(ay:∀t u,C.tt t=some u→aT P t u){ty:TypeId}{A X:Operand}{x c:Cn}(ho:o.op= .store ty A X)(hgf:g=false)(hd:o.dst=none)
 (hk:iP C.tt ty st x c k=some r) (h:Inv C.N E0 E st a) (hA:ak E st.ob st.nx x (a.eval A)) (hx:ak E st.ob st.nx c (a.eval X))
 (hK:∀st' E' v,k st'=some r→Inv C.N E0 E' st' (a.put o.dst v)→aL P C g o a v E.w E'.w→K (a.put o.dst v) E'.w):o.wp P a E.w K Q:=by
 cases x with
 |p i=>
  simp only[iP] at hk;obtain⟨cs,hc,hm⟩:=hA;have hm:cs=[a.eval A]:=hm;have jh:a.eval A=E.af i:=by have:=hc.2.2;rw[hm] at this;simpa using this
  cases ah:st.ob i with
  |box u old=>
   simp only[ah] at hk;split at hk
   ·rename_i c' hb
    split at hk
    ·rename_i hf
     rw[Bool.and_eq_true] at hf;have hbx:=h.rep.ob i;rw[ah] at hbx;obtain⟨g',cs',t,k1,_⟩:=hbx;exact p9 ay (path:=[]) (off:=0) (n:=c') ho hgf hd ah rfl hb hf.1 hf.2 (by cases old<;>rfl) ⟨g',by simp[k1,bS],by rw[jh,k1]⟩ hc.1 hk h hx hK
    ·cases hk
   ·cases hk
  |_=>simp[ah] at hk
 |addr i ix es off path cache=>
  simp only[iP] at hk;obtain⟨cs,⟨c1,c2,⟨g,c3,c4⟩,c5,c6,c7⟩,hm⟩:=hA;have hm:cs=[a.eval A]:=hm;have jh:a.eval A= .pointer (some ⟨g,ix.toNat*es+off,none⟩):=by rw[hm] at c4;simpa using c4
  cases ah:st.ob i with
  |box u old=>
   simp only[ah] at hk;split at hk
   ·rename_i o' v hof
    split at hk
    ·rename_i c' hb
     split at hk
     ·rename_i hf
      rw[Bool.and_eq_true] at hf;split at hk
      ·rename_i n hn
       obtain⟨v',hv'⟩:=c5 u (by rw[ah];rfl);rw[hof] at hv';simp only[Option.some.injEq,Prod.mk.injEq] at hv';obtain⟨rfl,rfl⟩:=hv';have hes:es=0:=c7 (by rw[ah];rfl);exact p9 ay ho hgf hd ah hof hb hf.1 hf.2 hn ⟨g,c3,by rw[jh,hes];simp⟩ c1 hk h hx hK
      ·cases hk
     ·cases hk
    ·split at hk
     ·rename_i c' st' hfz
      split at hk
      ·rename_i hf
       rw[Bool.and_eq_true] at hf;split at hk
       ·rename_i n hn
        obtain⟨E',w1,w2,w3,w4,w5,w6,w7⟩:=ze hfz h;obtain⟨hx',_,_,hbx⟩:=w6 _ hx;have gv:st'.ob i= .box u old:=by rw[w7 i (by rw[ah];rfl),ah]
        obtain⟨v',hv'⟩:=c5 u (by rw[ah];rfl);rw[hof] at hv';simp only[Option.some.injEq,Prod.mk.injEq] at hv';obtain⟨rfl,rfl⟩:=hv';have hes:es=0:=c7 (by rw[ah];rfl);refine w1▸p9 ay ho hgf hd gv hof hbx hf.1 hf.2 hn ⟨g,by rw[w2];exact c3,by rw[jh,hes];simp⟩ (Nat.lt_of_lt_of_le c1 w4.le) hk w3 hx' ?_;intro kR E3 v hk3 hi3 hp3;exact hK kR E3 v hk3 hi3 (by rw[←w1];exact hp3)
       ·cases hk
      ·cases hk
     ·cases hk
   ·cases hk
  |sl fz aj e t xs=>
   simp only[ah] at hk;split at hk
   ·rename_i d hdv
    split at hk
    ·split at hk
     ·rename_i hT
      obtain⟨x,hx1,hk⟩:=Option.bind_eq_some_iff.1 hk;obtain⟨h0,h1,h2,_⟩:=jy hx1;split at hk
      ·rename_i y hy
       obtain⟨v',hv'⟩:=c5 t (by rw[ah];rfl);rw[ah] at c6;exact A_ ay ho hgf hd ah hv' hdv hT h0 h2 hy ⟨g,c3,by rw[jh,c6.2.1]⟩ c1 hk h hx hK
      ·cases hk
     ·cases hk
    ·cases hk
   ·split at hk
    ·rename_i j hsc
     split at hk
     ·rename_i lY v2 e2 t2 ys fH
      split at hk
      ·split at hk
       ·rename_i hT
        obtain⟨x,hx1,hk⟩:=Option.bind_eq_some_iff.1 hk;obtain⟨h0,h1,h2,_⟩:=jy hx1;split at hk
        ·rename_i y hy
         obtain⟨v',hv'⟩:=c5 t (by rw[ah];rfl);rw[ah] at c6;exact Bt ay ho hgf hd (fun e=>by subst e;rw[ah] at fH;cases fH) ah fH hv' hT h2 hy ⟨g,c3,by rw[jh,c6.2.1]⟩ c1 hk h hx hK
        ·cases hk
       ·cases hk
      ·cases hk
     ·cases hk
    ·exact BH ay ho hgf hd c1 c2 c5 (fun md Cr e' t' xs' ho'=>by rw[ho'] at c6;exact c6.2.1) ⟨g,c3,jh⟩ hk h hx hK
  |_=>simp[ah] at hk
 |_=>simp[iP] at hk
end
end Go.Am
end
section
namespace Go.Am
theorem Av{E:Env}{ob:Nat→Ob}{nx:Nat}:∀(c:Cn) (n:Nat) (d:Cn) (vs:List Value),av E ob nx c true vs→fP c n=some d→∃v,vs[n]?=some v∧ak E ob nx d v:=by
 intro c
 induction c with
 |cons a b _ ihb=>
  intro n d vs h hn;obtain⟨v,vs',c,h0,h1,h2,h3⟩:=h;cases n with
  |zero=>
   simp only[fP,Option.some.injEq] at hn;subst hn;exact⟨v,by rw[h0];rfl,iT c h1 h2⟩
  |succ n=>
   obtain⟨u,k1,k2⟩:=ihb n d vs' h3 hn;exact⟨u,by rw[h0];simpa using k1,k2⟩
 |_=>intro n d vs h hn;cases n<;>simp[fP] at hn
theorem pz{α:Type}{R:α→List Value→Prop}{s:Nat}(hs:∀x c,R x c→c.length=s):∀(n:Nat) (xs:List α) (f:List Value),aU R xs f→aU R (xs.take n) (f.take (n*s))
 |0,xs,f,_=>by simp;rfl
 |n+1,[],f,h=>by rw[show f=[] from h];simp;rfl
 |n+1,x::xs,f,⟨c,g,h,h1,h2⟩=>by
  refine⟨c,g.take (n*s),?_,h1,pz hs n xs g h2⟩;rw[h,show(n+1)*s=s+n*s by rw[Nat.add_mul,Nat.one_mul,Nat.add_comm],List.take_append,List.take_of_length_le (by rw[hs _ _ h1];omega),hs _ _ h1,show s+n*s-s=n*s by omega]
theorem pq{α:Type}{R:α→List Value→Prop}{s:Nat}(hs:∀x c,R x c→c.length=s):∀(n:Nat) (xs:List α) (f:List Value),aU R xs f→aU R (xs.drop n) (f.drop (n*s))
 |0,xs,f,h=>by simpa using h
 |n+1,[],f,h=>by rw[show f=[] from h];simp;rfl
 |n+1,x::xs,f,⟨c,g,h,h1,h2⟩=>by
  have:=pq hs n xs g h2
  rw[h,show(n+1)*s=s+n*s by rw[Nat.add_mul,Nat.one_mul,Nat.add_comm],List.drop_append,hs _ _ h1,show s+n*s-s=n*s by omega,
   List.drop_of_length_le (l:=c) (by rw[hs _ _ h1];omega)]
  simpa using this
section
variable{P:Program}{R:Type}{C:Ctx}{o:Oper}{st:St}{k:St→Option R}{r:R}{E0 E:Env}{a:Act}{K:Act→World→Prop}{Q:Exit→Act→World→Prop}{g:Bool}
theorem yV{X:Operand}{c d:Cn}{ix:Nat}(ho:o.op= .extract X ix)(hn:fP c ix=some d)(hk:az C o d st k=some r)(h:Inv C.N E0 E st a)
 (hx:ak E st.ob st.nx (.b_ c) (a.eval X)) (hK:∀st' E' v,k st'=some r→Inv C.N E0 E' st' (a.put o.dst v)→aL P C g o a v E.w E'.w→K (a.put o.dst v) E'.w):o.wp P a E.w K Q:=by
 obtain⟨cs,⟨vs,h1,h2⟩,h3⟩:=hx;have h3:cs=[a.eval X]:=h3;have hX:a.eval X= .tuple vs.toArray:=by rw[h3] at h1;simpa using h1
 obtain⟨v,k1,k2⟩:=Av c ix d vs h2 hn;exact aQ hk h (fun u _=>by unfold execOp;simp[ho,hX,Instr.extract,k1]) k2 hK
theorem wV{w:World}{len cap:Nat}{lo hi:Option Int}{kl kh:IntKind}(h0:0≤lo.getD 0)(h1:lo.getD 0≤hi.getD (len:Int))(h2:hi.getD (len:Int)≤(len:Int))(hc:len≤cap)(vg:Bool):
 (Instr.sliceBounds vg len cap (lo.map fun n=> .int kl n) (hi.map fun n=> .int kh n) none).run P w= .ok ((lo.getD 0).toNat,(hi.getD (len:Int)).toNat,cap) w:=by
 unfold Instr.sliceBounds;cases hi with
 |none=>
  simp only[Option.getD_none] at h1 h2⊢;cases lo with
  |none=>simp
  |some l=>
   simp only[Option.getD_some] at h0 h1⊢;simp[Instr.sliceBound,asIntOf,h0,h1]
 |some hh=>
  simp only[Option.getD_some] at h1 h2⊢;have e0:0≤hh:=by omega
  have e1:hh≤(cap:Int):=by omega
  cases lo with
  |none=>simp[Instr.sliceBound,asIntOf,e0,e1]
  |some l=>
   simp only[Option.getD_some] at h0 h1⊢;have e2:l≤((hh.toNat:Nat):Int):=by omega
   simp[Instr.sliceBound,asIntOf,e0,e1,h0,e2];omega
theorem u7{l h:Int}{n:Nat}(hh:kg l h n=true):0≤l∧l≤h∧h≤(n:Int):=by
 unfold kg at hh;rw[Bool.and_eq_true,Bool.and_eq_true] at hh;exact⟨of_decide_eq_true hh.1,of_decide_eq_true hh.2.1,of_decide_eq_true hh.2.2⟩
theorem Bv(ay:∀t u,C.tt t=some u→aT P t u){t:TypeId}{X:Operand}{LO HI:Option Operand}{x:Cn}{lo hi:Option Int}{kl kh:IntKind}(ho:o.op= .slice t X LO HI none)
 (hLO:LO.map a.eval=lo.map fun n=> .int kl n) (hHI:HI.map a.eval=hi.map fun n=> .int kh n)
 (hk:kP C o t x lo hi st k=some r) (h:Inv C.N E0 E st a) (hx:ak E st.ob st.nx x (a.eval X))
 (hK:∀st' E' v,k st'=some r→Inv C.N E0 E' st' (a.put o.dst v)→aL P C g o a v E.w E'.w→K (a.put o.dst v) E'.w):o.wp P a E.w K Q:=by
 unfold kP at hk;split at hk
 ·rename_i s
  split at hk
  ·rename_i hT
   have hd:=(ay _ _ (cB hT)).desc;simp only at hd;cases hin:kg (lo.getD 0) (hi.getD ((s:ByteArray).size:Int)) (s:ByteArray).size with
   |false=>simp[hin] at hk
   |true=>
    simp only[hin,cond_true] at hk;obtain⟨h0,h1,h2⟩:=u7 hin;have hX:=iF hx;have hb:=fun u=>wV (P:=P) (w:=u) (kl:=kl) (kh:=kh) h0 h1 h2 (Nat.le_refl _) false;exact aQ hk h (fun u _=>by unfold execOp;simp[ho,hX,Instr.sliceAt,Instr.slice,run_underlying hd,hLO,hHI,hb]) (lI ..) hK
  ·cases hk
 ·split at hk
  ·rename_i v hv
   split at hk
   ·rename_i hT
    have hd:=(ay _ _ (cB hT)).desc;simp only at hd;cases hin:kg (lo.getD 0) (hi.getD (v.xs.length:Int)) v.xs.length with
    |false=>simp[hin] at hk
    |true=>
     simp only[hin,cond_true] at hk;obtain⟨h0,h1,h2⟩:=u7 hin;obtain⟨⟨A,n,c,f,k1,k2,k3,k4,k5,k6,k7,k8⟩,l1,l2⟩:=jP hv h.rep.ob hx;have k1:a.eval X= .slice A n c:=by simpa using k1
     subst k2;have hb:=fun u=>wV (P:=P) (w:=u) (kl:=kl) (kh:=kh) (vg:=true) h0 h1 h2 k3;obtain⟨ii,zz,i1,i2,_,_,i3,_⟩:=hd.2.1;generalize hl':(lo.getD 0).toNat=l at*;generalize hh':(hi.getD (v.xs.length:Int)).toNat=m at*;have hlm:l≤m:=by omega
     have hmn:m≤v.xs.length:=by omega
     have hfl:=fU (aH v.t) v.xs f k4
     refine aQ (v:= .slice (if c=l then A else A.map (·.add (l*v.t.size))) (m-l) (c-l)) hk h
      (by unfold execOp;simp[ho,k1,Instr.sliceAt,Instr.slice,run_underlying hd.1,hLO,hHI,hb,sizeOf,typeInfo,i1,i2]) ?_ hK
     have hcut:lQ v.xs (lo.getD 0) (hi.getD (v.xs.length:Int))=(v.xs.take m).drop l:=by simp[lQ,hl',hh']
     have uO:Rd E.w (src E v.b) (.list v.e v.t) (lQ v.xs (lo.getD 0) (hi.getD (v.xs.length:Int))) [.slice (if c=l then A else A.map (·.add (l*v.t.size))) (m-l) (c-l)]:=by
      rw[hcut];have hE:=pq (aH v.t) l _ _ (pz (aH v.t) m v.xs f k4);refine⟨_,m-l,c-l,_,rfl,by simp;omega,by omega,hE,?_,?_,?_,?_⟩
      ·intro ad hA hp
       split at hA
       ·rename_i hcl
        omega
       ·cases A with
        |none=>simp at hA
        |some ad0=>
         simp only[Option.map_some,Option.some.injEq] at hA;subst hA;rw[Addr.add_eq ad0 (k5 ad0 rfl (by omega)).1];exact⟨rfl,(k5 ad0 rfl (by omega)).2⟩
      ·intro j u hu
       have hj:l*v.t.size+j<m*v.t.size:=by
        have:=(List.getElem?_eq_some_iff.1 hu).1;simp at this;omega
       have hu':f[l*v.t.size+j]?=some u:=by
        rw[List.getElem?_drop,List.getElem?_take] at hu;rw[if_pos hj] at hu;exact hu
       obtain⟨ad,hA,hc⟩:=k6 _ u hu';subst hA;have hne:c≠l:=by
        intro e;have:m*v.t.size≤l*v.t.size:=Nat.mul_le_mul_right _ (by omega);omega
       rw[if_neg hne];refine⟨_,rfl,?_⟩;show E.w.cell? ⟨(ad.add (l*v.t.size)).block,(ad.add (l*v.t.size)).off+j,none⟩=some u;have hp:0<v.xs.length:=by
        have:l<m:=by
         rcases Nat.lt_or_ge l m with h|h
         ·exact h
         ·have:=Nat.mul_le_mul_right v.t.size h
          omega
        omega
       rw[Addr.add_eq ad (k5 ad rfl hp).1,←hc];simp[Nat.add_assoc]
      ·intro hp
       have hne:c≠l:=by omega
       rw[if_neg hne];have:=k7 (by omega);cases A with
       |none=>exact absurd rfl this
       |some ad=>simp
      ·intro hA
       have hAn:A=none:=by
        split at hA
        ·exact hA
        ·cases A with
         |none=>rfl
         |some ad=>simp at hA
       have:=k8 hAn;omega
     have hro:ak E st.ob st.nx (.ro v.b ⟨.list v.e v.t,lQ v.xs (lo.getD 0) (hi.getD (v.xs.length:Int))⟩) (.slice (if c=l then A else A.map (·.add (l*v.t.size))) (m-l) (c-l)):=⟨_,⟨rfl,l1,fun _=>uO⟩,rfl⟩;unfold uw;split
     ·rename_i e0 t0 zQ
      simp only[f_,Option.some.injEq] at hv;subst hv;obtain⟨cs,hx1,hx2⟩:=hx;have hx1:cs=[.slice none 0 0]:=hx1;have hx2:cs=[a.eval X]:=hx2;rw[hx1,k1] at hx2;simp only[List.cons.injEq,Value.slice.injEq,and_true] at hx2;obtain⟨rfl,_,rfl⟩:=hx2;have hm0:m=0:=by simpa using hmn
      subst hm0;have hl0:l=0:=by omega
      subst hl0;exact⟨[.slice none 0 0],rfl,rfl⟩
     ·rename_i i iy zQ
      split
      ·rename_i aj e' t' xs' ah
       split
       ·have hv2:=hv
        simp only[f_,ah,Option.some.injEq] at hv2;subst hv2;simp only[Option.getD_none] at hl';have hl0:l=0:=by rw[←hl'];rfl
        subst hl0;have hlt:=l1;obtain⟨cs,⟨hx1,_,hx3⟩,hx4⟩:=hx;have hx4:cs=[a.eval X]:=hx4;have mo:E.af i= .slice A xs'.length c:=by
         rw[hx4] at hx3;rw[←k1];simpa using hx3.symm
        have hA:(if c=0 then A else A.map (·.add (0*t'.size)))=A:=by
         split
         ·rfl
         ·have ho:=h.rep.ob i
          rw[ah] at ho;obtain⟨v',f',nb,q1,q2,_,_⟩:=ho;have q1:E.af i=v':=by simpa using q1
          rw[mo] at q1;subst q1;rcases q2.2 with⟨w1,_⟩|⟨g',cap',cur',w1,_⟩
          ·simp only[Value.slice.injEq] at w1
           rw[w1.1];rfl
          ·simp only[Value.slice.injEq] at w1
           rw[w1.1,Option.map_some,Addr.add_eq _ rfl];simp
        refine⟨_,⟨⟨rfl,l1,fun _=>uO⟩,hx1,?_⟩,rfl⟩;rw[ah];intro _;refine⟨A,xs'.length,m,c,mo,?_,hmn,?_⟩
        ·rw[hA];rfl
        ·rw[hcut,List.drop_zero]
       ·exact hro
      ·exact hro
     ·exact hro
   ·cases hk
  ·cases hk
theorem oz{X:Operand}{c:Cn}(ho:o.op= .nilCheck X)(hk:az C o c st k=some r)(h:Inv C.N E0 E st a)(hx:ak E st.ob st.nx c (a.eval X))
 (hp:(∃ad,a.eval X= .pointer (some ad))∨∃f vs,a.eval X= .func (.func f) #[] vs)
 (hK:∀st' E' v,k st'=some r→Inv C.N E0 E' st' (a.put o.dst v)→aL P C g o a v E.w E'.w→K (a.put o.dst v) E'.w):o.wp P a E.w K Q:=by
 rcases hp with⟨ad,hp⟩|⟨f,vs,hp⟩
 ·exact aQ (v:=a.eval X) hk h (fun u _=>by unfold execOp;simp[ho,hp]) hx hK
 ·exact aQ (v:=a.eval X) hk h (fun u _=>by unfold execOp;simp[ho,hp]) hx hK
theorem Ar{X:Operand}{i:Nat}{u:Ty}{c:Cn}(ho:o.op= .nilCheck X)(ah:st.ob i= .a_ true u c)(hk:az C o (.p i) (st.set i (.box u c)) k=some r)(h:Inv C.N E0 E st a)
 (hx:ak E st.ob st.nx (.p i) (a.eval X)) (hK:∀st' E' v,k st'=some r→Inv C.N E0 E' st' (a.put o.dst v)→aL P C g o a v E.w E'.w→K (a.put o.dst v) E'.w):o.wp P a E.w K Q:=by
 obtain⟨cs,hc,hm⟩:=hx;have hm:cs=[a.eval X]:=hm;have hX:a.eval X=E.af i:=by have:=hc.2.2;rw[hm] at this;simpa using this
 have hbx:=h.rep.ob i;rw[ah] at hbx;obtain⟨g,cs',t,k1,k2,k3,k4,k5⟩:=hbx
 have hI:=h.touch i (.box u c) (w:=E.w) rfl rfl rfl rfl (fun _ _=>rfl) hc.1 (fun fz v e t xs he=>by cases he) ⟨fun u' hu'=>by rw[ah];exact hu',fun _=>by rw[ah];rfl⟩
  (fun ev=>⟨g,cs',t,k1,k2,eG ev _ _ _ k3,k4,k5⟩)
 refine eF (v:=a.eval X) (w':=E.w) (by unfold execOp;simp[ho,hX,k1]) (eP (G:=fun a'=>K a' E.w) hk hI ?_ fun st' hk' hi'=>hK st' _ _ hk' hi' ⟨fun _=>aA.refl _,fun _=>⟨rfl,fun u _=>by unfold execOp;simp[ho,hX,k1]⟩,fun _=>aA.refl _⟩);exact⟨cs,hc,hm⟩
end
end Go.Am
end
section
open Go.Lib
namespace Go.Am
theorem Inv.Ca{N:Nat}{E0 E:Env}{st:St}{a:Act}(h:Inv N E0 E st a){w:World}(hw:aA E.w w)(Z:Nat→Prop)(h0:∀b,E.Z b→Z b)(h1:∀b,Z b→E.Z b∨(E.w.heap.size≤b∧b<w.heap.size)):
 Inv N E0 {E with w:=w,Z:=Z} st a:=by
 have hz:∀b,E.Z b→w.heap[b]?=E.w.heap[b]?:=fun b hb=>hw.block b (h.rep.zb b hb)
 have ev:Ev E st.ob st.nx {E with w:=w,Z:=Z} st.ob st.nx:=⟨Nat.le_refl _,fun _ _=>rfl,h0,hz,fun i hi u hu=>hu,fun i hi hu=>hu,fun i hi fz v e t xs ho=>
  ⟨fz,v,xs,ho,rfl,Nat.le_refl _,fun _=>⟨rfl,fun b hb=>by
   rcases hb with hb|hb
   ·exact⟨hw.block b (h.rep.bb i b hb).1,.inl hb⟩
   ·exact⟨hz b hb,.inr (h0 b hb)⟩⟩⟩⟩
 refine⟨h.rep.turn rfl ev (fun i=>dL ev rfl rfl (fun b hb=>hw.block b (h.rep.bb i b hb).1) (h.rep.ob i)) h.rep.lt h.rep.dj h.rep.nd ?_ ?_,?_,h.defers,h.size,h.nx⟩
 ·intro i b hb
  refine⟨Nat.lt_of_lt_of_le (h.rep.bb i b hb).1 hw.size,fun hzb=> ?_⟩;rcases h1 b hzb with h2|h2
  ·exact(h.rep.bb i b hb).2 h2
  ·have:=(h.rep.bb i b hb).1;omega
 ·intro b hb
  rcases h1 b hb with h2|h2
  ·exact Nat.lt_of_lt_of_le (h.rep.zb b h2) hw.size
  ·exact h2.2
 ·exact h.fr.trans ⟨hw.os,hw.tape,hw.output,hw.size,fun b hb _=>hw.block b hb,fun i b hb=> .inl ⟨i,hb⟩,h0,fun b hb=>by
   rcases h1 b hb with h2|h2
   ·exact .inl h2
   ·exact .inr (.inr h2.1),fun _ _=>rfl⟩
section
variable{P:Program}{R:Type}{C:Ctx}{o:Oper}{st:St}{k:St→Option R}{r:R}{E0 E:Env}{a:Act}{K:Act→World→Prop}{Q:Exit→Act→World→Prop}{g:Bool}
theorem run_convert_bytes_zero{P:Program}(w:World)(src e:TypeId)(hs:P.underlying src=some (.slice e))(he:P.underlying e=some (.int .u8))(ad:Addr)(c:Nat):
 ∀dst,P.underlying dst=some .string→(convert src dst (.slice (some ad) 0 c)).run P w= .ok (.string (strOfNums [])) w:=by
 intro dst hd;have hl:(loadCells ad 0).run P w= .ok #[] w:=by
  have:=run_loadCells_list (P:=P) w ad [] (by simp);simpa using this
 rw[run_convert_bytes_string w src dst e _ 0 c hs he hd,run_bytesToString w _ 0 c [] (by simpa using hl),foldl_push_bytes];simp[strOfNums,ByteArray.empty,ByteArray.emptyWithCapacity];rfl
theorem sS{w:World}{S:Nat→Prop}{k:IntKind}:∀(xs:List Int) (f:List Value),aU (Rd w S (.int k)) xs f→f=xs.map (Value.int k)
 |[],f,h=>h
 |x::xs,f,⟨c,g,h,h1,h2⟩=>by
  rw[h,show c=[.int k x] from h1,sS xs g h2];rfl
theorem x_{E:Env}{ob:Nat→Ob}{nx:Nat}{c:Cn}{e:TypeId}{xs:List Int}{u:Value}(h:p8 ob c=some (e,xs))(ah:∀i,aJ E ob nx i (ob i))(hv:ak E ob nx c u):
 ∃S,Rd E.w S (.list e (.int .u8)) xs [u]:=by
 unfold p8 at h;split at h
 ·rename_i v hl
  split at h
  ·rename_i ys hy
   obtain⟨vb,ve,vt,vx⟩:=v;have h1:=cZ hy;simp only[Option.some.injEq,Prod.mk.injEq] at h;obtain⟨rfl,rfl⟩:=h;obtain⟨m1,_,_⟩:=jP hl ah hv;simp only at m1 h1⊢;refine⟨src E vb,?_⟩;have:∀(d:DV),Rd E.w (src E vb) d.ty d.v [u]→d=⟨.list ve (.int .u8),ys⟩→Rd E.w (src E vb) (.list ve (.int .u8)) ys [u]:=by
    intro d hd e;subst e;exact hd
   exact this _ m1 h1
  ·cases h
 ·cases h
theorem yG(ay:∀t u,C.tt t=some u→aT P t u){ts td:TypeId}{X:Operand}{x:Cn}(ho:o.op= .convert ts td X)(hk:jW C o ts td x st k=some r)(h:Inv C.N E0 E st a)
 (hx:ak E st.ob st.nx x (a.eval X)) (hK:∀st' E' v,k st'=some r→Inv C.N E0 E' st' (a.put o.dst v)→aL P C g o a v E.w E'.w→K (a.put o.dst v) E'.w):o.wp P a E.w K Q:=by
 unfold jW at hk;split at hk
 ·rename_i ki n
  split at hk
  ·rename_i k1 kd h1 h2
   have d1:=(ay _ _ h1).desc;have d2:=(ay _ _ h2).desc;simp only at d1 d2;exact aQ hk h (fun u _=>by unfold execOp;simp[ho,eB hx,convert,run_underlying d1,run_underlying d2,Conv.intToInt]) (cO ..) hK
  ·cases hk
 ·rename_i s
  split at hk
  ·rename_i e h1 h2
   split at hk
   ·rename_i hT
    have d1:=(ay _ _ h1).desc;have d2:=(ay _ _ h2).desc;have d3:=(ay _ _ (cB hT)).desc;simp only at d1 d2 d3;have hX:=iF hx;have hgr:aA E.w (bytesWorld E.w e s):=⟨rfl,rfl,rfl,by rw[bytesWorld_size];omega,fun b hb=>bytesWorld_at_old _ _ _ _ hb⟩
    have hI:=h.Ca hgr (fun b=>E.Z b∨b=E.w.heap.size) (fun b hb=> .inl hb) (fun b hb=>by
     rcases hb with hb|rfl
     ·exact .inl hb
     ·exact .inr ⟨Nat.le_refl _,by rw[bytesWorld_size];omega⟩)
    have hcap:(s:ByteArray).size≤grownCap E.w (s:ByteArray).size 0 e:=grownCap_ge _ _ _ _
    refine eF (v:= .slice (some ⟨E.w.heap.size,0,none⟩) (s:ByteArray).size (grownCap E.w (s:ByteArray).size 0 e)) (w':=bytesWorld E.w e s)
     (by unfold execOp;simp[ho,hX,run_convert_string_bytes E.w ts td e s d1 d2.1 d3]) (eP (G:=fun a'=>K a' _) hk hI ?_ fun st' hk' hi'=>hK st' _ _ hk' hi' (.loud (by simp[still,ho,h2]) (fun _=>hgr) (fun _=>hgr)))
    refine⟨[.slice (some ⟨E.w.heap.size,0,none⟩) (s:ByteArray).size (grownCap E.w (s:ByteArray).size 0 e)],⟨rfl,trivial,fun _=> ?_⟩,rfl⟩;refine⟨_,_,_,(fT s).map (Value.int .u8),rfl,by rw[xy],hcap,?_,?_,?_,by simp,by simp⟩
    ·have:∀xs:List Int,aU (Rd (bytesWorld E.w e s) (fun b=>E.Z b∨b=E.w.heap.size) (.int .u8)) xs (xs.map (Value.int .u8)):=by
      intro xs
      induction xs with
      |nil=>rfl
      |cons y ys ih=>exact⟨[.int .u8 y],_,rfl,rfl,ih⟩
     exact this _
    ·intro ad hA
     obtain rfl:=Option.some.inj hA;exact fun _=>⟨rfl,.inr rfl⟩
    ·intro j u hu
     refine⟨_,rfl,?_⟩;have hj:j<(s:ByteArray).size:=by
      have:=(List.getElem?_eq_some_iff.1 hu).1;simpa[fT] using this
     have:=bytesWorld_cell E.w e s j hj;rw[Nat.zero_add,this];simp only[fT,List.map_map,List.getElem?_map] at hu;rw[List.getElem?_eq_getElem (by simpa using hj)] at hu;simp only[Option.map_some,Option.some.injEq,Function.comp] at hu;rw[←hu,List.getD_eq_getElem?_getD,List.getElem?_eq_getElem (by simpa using hj)];rfl
   ·cases hk
  ·rename_i h1 h2
   have d1:=(ay _ _ h1).desc;have d2:=(ay _ _ h2).desc;simp only at d1 d2;exact aQ hk h (fun u _=>by unfold execOp;simp[ho,iF hx,convert,run_underlying d1,run_underlying d2]) (lI ..) hK
  ·cases hk
 ·split at hk
  ·rename_i e xs hv
   split at hk
   ·rename_i hT
    rw[Bool.and_eq_true,Bool.and_eq_true] at hT;have d1:=(ay _ _ (cB hT.1)).desc;have d2:=(ay _ _ (cB hT.2.1)).desc;have d3:=(ay _ _ (cB hT.2.2)).desc;simp only at d1 d2 d3;obtain⟨S,A,n,c,f,k1,k2,k3,k4,k5,k6,k7,k8⟩:=x_ hv h.rep.ob hx;have k1:a.eval X= .slice A n c:=by simpa using k1
    have hf:=sS _ _ k4;refine aQ hk h (fun u' hu'=> ?_) (lI ..) hK;have hgr:=hu'.resolve_left (by simp[dB,ho]);cases A with
    |none=>
     have hn:n=0:=by
      rcases Nat.eq_zero_or_pos n with h0|h0
      ·exact h0
      ·exact absurd rfl (k7 h0)
     have hx0:xs=[]:=List.eq_nil_of_length_eq_zero (by rw[←hn,k2]);unfold execOp;simp only[ho,k1,Sem.run_bind,run_convert_bytes_nil u' ts e d1.1 d2 n c td d3];rw[hx0];rfl
    |some ad=>
     rcases Nat.eq_zero_or_pos n with hn|hn
     ·subst hn
      have hx0:xs=[]:=List.eq_nil_of_length_eq_zero k2.symm;unfold execOp;simp only[ho,k1,Sem.run_bind,run_convert_bytes_zero u' ts e d1.1 d2 ad c td d3];rw[hx0];rfl
     obtain⟨q1,q2⟩:=k5 ad rfl hn;have had:ad=⟨ad.block,ad.off,none⟩:=by obtain⟨b,o,s⟩:=ad;simp_all
     have:=run_convert_bytes_arg (P:=P) u' ts e d1.1 d2 ad.block ad.off n c xs k2.symm (fun i hi=>by
      have hi':i<xs.length:=by rw[←k2];exact hi
      obtain⟨gN,r1,r2⟩:=k6 i (.int .u8 (xs.getD i 0)) (by
       rw[hf,List.getElem?_map,List.getElem?_eq_getElem hi',List.getD_eq_getElem?_getD,List.getElem?_eq_getElem hi'];rfl)
      obtain rfl:=Option.some.inj r1;exact hgr.cell r2) td d3
     rw[←had] at this;unfold execOp;simp only[ho,k1,Sem.run_bind,this];rfl
   ·cases hk
  ·cases hk
theorem yI(ay:∀t u,C.tt t=some u→aT P t u){t t2:TypeId}{S X:Operand}{s x:Cn}(ho:o.op= .call {callee:= .builtin .copy,args:= #[S,X],argTypes:= #[t,t2]})(hgf:g=false)
 (hk:jX C o t t2 s x st k=some r) (h:Inv C.N E0 E st a) (hS:ak E st.ob st.nx s (a.eval S)) (hX:ak E st.ob st.nx x (a.eval X))
 (hK:∀st' E' v,k st'=some r→Inv C.N E0 E' st' (a.put o.dst v)→aL P C g o a v E.w E'.w→K (a.put o.dst v) E'.w):o.wp P a E.w K Q:=by
 unfold jX at hk;split at hk
 ·rename_i i
  split at hk
  ·rename_i md aj e u xs ah
   split at hk
   ·split at hk
    ·rename_i hT
     simp only[Bool.and_eq_true] at hT;obtain⟨hT1,zl,qK,zm⟩:=hT;obtain rfl:=Nat.eq_of_beq_eq_true zl;have hsz:u.size=1:=Nat.eq_of_beq_eq_true zm;have hd:=(ay _ _ (cB hT1)).desc;simp only at hd;obtain⟨hu,⟨ii,zz,i1,i2,_⟩,_⟩:=hd;have hp1:(P.info? e).map (·.size)=some 1:=by rw[i1];simp[i2,hsz]
     split at hk
     ·rename_i lv hv
      obtain⟨b,e2,u2,l⟩:=lv;dsimp only at hk;split at hk
      ·rename_i ys hys
       obtain⟨_,rfl,rfl⟩:=jT hys;obtain⟨cs0,q1,q2⟩:=hS;have q2:cs0=[a.eval S]:=q2;have q1:i<st.nx∧(E.af i).oneCell'=true∧cs0=[E.af i]:=q1;have qJ:a.eval S=E.af i:=by have:=q1.2.2;rw[q2] at this;simpa using this
       obtain⟨⟨A,n,cc,f2,r1,r2,r3,r4,r5,r6,r7,r8⟩,_,_⟩:=jP hv h.rep.ob hX;have r1:a.eval X= .slice A n cc:=by simpa using r1
       have r2:n=l.length:=r2;have r4:aU (Rd E.w (src E b) u2) l f2:=r4;have hrow:=h.rep.ob i;rw[ah] at hrow;obtain⟨rv,f,nb,k1,k2,k3,k4⟩:=hrow;have k1:E.af i=rv:=by simpa using k1
       have hfl:f.length=xs.length:=by have:=k2.1;rw[hsz] at this;simpa using this
       have hf2:f2.length=l.length:=by have:=fU (aH u2) l f2 r4;rw[hsz] at this;simpa using this
       have hEl:aU (Rd E.w (fun _=>False) u2) xs f:=ni xs f nb (fun x c b _ hx=>by
        have:=iC u2 qK x c b hx;subst this;exact aN (fun q hq=>by simp at hq) (fun _ _=>rfl) u2 x c (dV u2 x c [] hx)) k3
       have hnb:nb=[]:=by
        have key:∀(xs:List u2.Den) (f:List Value) (nb:List Nat),bg (Ow E.w u2) xs f nb→nb=[]:=by
         intro xs
         induction xs with
         |nil=>intro f nb hh;exact hh.2
         |cons x xs ih=>
          rintro f nb ⟨c,g,b,d,_,rfl,hx,hr⟩;rw[iC u2 qK x c b hx,ih _ _ hr];rfl
        exact key _ _ _ k3
       subst hnb;have hnew:aU (Rd E.w (fun _=>True) u2) (l.take xs.length++xs.drop l.length) (f2.take xs.length++f.drop l.length):=by
        have a1:=pz (aH u2) xs.length l f2 (fo (aN (fun _ _=>trivial) (fun _ _=>rfl) u2) l f2 r4:aU (Rd E.w (fun _=>True) u2) l f2);have a2:=pq (aH u2) l.length xs f (fo (aN (fun _ hq=>hq.elim) (fun _ _=>rfl) u2) xs f hEl:aU (Rd E.w (fun _=>True) u2) xs f);rw[hsz,Nat.mul_one] at a1 a2;have app:∀(xs:List u2.Den) (f:List Value) (ys:List u2.Den) (g:List Value),aU (Rd E.w (fun _=>True) u2) xs f→aU (Rd E.w (fun _=>True) u2) ys g→aU (Rd E.w (fun _=>True) u2) (xs++ys) (f++g):=by
         intro xs
         induction xs with
         |nil=>intro f ys g hf hg;rw[show f=[] from hf];exact hg
         |cons x xs ih=>
          rintro f ys g ⟨c,f',rfl,h2,h3⟩ hg;exact⟨c,f'++g,by simp,h2,ih _ _ _ h3 hg⟩
        exact app _ _ _ _ a1 a2
       have hlen:(l.take xs.length++xs.drop l.length).length=xs.length:=by simp;omega
       have hmn:(Nat.min l.length xs.length≤l.length∧Nat.min l.length xs.length≤xs.length)∧(Nat.min l.length xs.length=l.length∨Nat.min l.length xs.length=xs.length):=⟨⟨Nat.min_le_left _ _,Nat.min_le_right _ _⟩,(Nat.le_total l.length xs.length).elim (fun hle=> .inl (Nat.min_eq_left hle)) (fun hle=> .inr (Nat.min_eq_right hle))⟩;by_cases hz:Nat.min l.length xs.length=0
       ·
         have hpay:l.take xs.length++xs.drop l.length=xs:=by
          rcases Nat.eq_zero_or_pos l.length with h0|h0
          ·rw[List.eq_nil_of_length_eq_zero h0];simp
          ·have:xs=[]:=List.eq_nil_of_length_eq_zero (by omega)
           subst this;simp
         rw[hz,hpay] at hk
         have hI:=h.touch i (.sl .own (aj+1) e u2 xs) (w:=E.w) rfl rfl rfl rfl (fun _ _=>rfl) q1.1
          (fun fz v' e' t' xs' he=>by cases he;exact⟨.own,aj,xs,ah,rfl,Nat.lt_succ_self _⟩) ⟨fun u' hu'=>by rw[ah];exact hu',fun hh=>by cases hh⟩
          (fun ev=>⟨rv,f,[],by rw[←k1],k2,k3,k4⟩)
         have hrun:(execOp a.eval o).run P E.w= .ok (.value (goInt 0)) E.w:=by
          unfold execOp;rcases k2.2 with⟨dA,_⟩|⟨g',cap,cur,dA,_⟩
          ·have:=run_copy_none (P:=P) E.w t2 t2 o.type e none A 0 0 n cc hu hp1 (by simp)
           simp[ho,resolve,invoke,builtin,qJ,k1,dA,r1,this]
          ·have:=run_copy_none (P:=P) E.w t2 t2 o.type e (some ⟨g',0,none⟩) A xs.length cap n cc hu hp1 (by rw[r2];exact hz)
           simp[ho,resolve,invoke,builtin,qJ,k1,dA,r1,this]
         refine eF hrun (eP (G:=fun a'=>K a' E.w) hk hI (cO _ _ _ _ _) fun st' hk' hi'=>hK st' _ _ hk' hi' (.loud (by simp[still,ho]) (fun hgt=>by rw[hgf] at hgt;cases hgt)))
       ·rcases k2.2 with⟨_,h0⟩|⟨g',cap,cur,dA,hg0,hgg,hnc,hcm,hcs,htk⟩
        ·exfalso;apply hz;rw[h0];simp
        ·have hl0:0<l.length:=by
          rcases Nat.eq_zero_or_pos l.length with h0|h0
          ·exfalso;apply hz;rw[h0];simp
          ·exact h0
         obtain⟨ad,hA⟩:∃ad,A=some ad:=by
          cases A with
          |none=>exact absurd rfl (r7 (by omega))
          |some ad=>exact⟨ad,rfl⟩
         subst hA;obtain⟨hspot,_⟩:=r5 ad rfl (by omega);have Ck:xs.length≤cur.size:=by rw[hsz,Nat.mul_one] at hcs;omega
         have hcl:(f2.take xs.length).length=Nat.min l.length xs.length:=by rw[List.length_take,hf2];exact Nat.min_comm _ _
         have hone:∀v,v∈f2.take xs.length→v.oneCell'=true:=fun v hv=>m_ l f2 r4 v (List.mem_of_mem_take hv)
         have hrun:=run_copy_row (P:=P) E.w t2 t2 o.type e g' 0 xs.length cap ad n cc cur e (f2.take xs.length) hu hp1 hgg (by rw[hcl,r2]) (fun j v hj=>by
          have hj2:f2[j]?=some v:=by
           rw[List.getElem?_take] at hj;split at hj
           ·exact hj
           ·cases hj
          obtain⟨gN,e1,e2⟩:=r6 j v hj2;obtain rfl:=Option.some.inj e1;rw[Addr.add_eq ad hspot];exact e2) (by rw[hcl];omega) hone
         have hI:=h.touch i (.sl .own (aj+1) e u2 (l.take xs.length++xs.drop l.length)) (w:=E.w.setRow g' (cur.toList.take 0++f2.take xs.length++cur.toList.drop (0+(f2.take xs.length).length)).toArray) rfl rfl rfl (by simp[World.setRow])
          (fun b hb=>setRow_other E.w g' b _ (fun e=>hb (by rw[k4,dA,e];simp[Value.ownBlock]))) q1.1
          (fun fz v' e' t' xs' he=>by cases he;exact⟨.own,aj,xs,ah,hlen.symm,Nat.lt_succ_self _⟩) ⟨fun u' hu'=>by rw[ah];exact hu',fun hh=>by cases hh⟩
          (fun ev=>by
           refine⟨rv,f2.take xs.length++f.drop l.length,[],by rw[←k1],⟨by rw[fU (aH u2) _ _ hnew],.inr ⟨g',cap,_,by rw[dA,hlen],hg0,nT hgg,by rw[hlen];exact hnc,hcm,?_,?_⟩⟩,pg qK _ _ hnew,k4⟩
           ·simp only[List.size_toArray,List.take_zero,List.nil_append,List.length_append,List.length_drop,Array.length_toList,Nat.zero_add]
            rw[hcl];rw[←hcs];omega
           ·rw[hsz,Nat.mul_one,hlen] at*
            simp only[List.take_zero,List.nil_append,Nat.zero_add,hcl];rw[List.take_append,List.take_of_length_le (by rw[hcl];omega),hcl,←htk]
            congr 1
            rw[List.drop_take];rcases Nat.le_total l.length xs.length with hle|hle
            ·rw[show Nat.min l.length xs.length=l.length from Nat.min_eq_left hle]
            ·rw[show Nat.min l.length xs.length=xs.length from Nat.min_eq_right hle,show xs.length-l.length=0 by omega,Nat.sub_self];simp)
         rw[hcl] at hrun;have hrun':(execOp a.eval o).run P E.w= .ok (.value (goInt (Nat.min l.length xs.length))) (E.w.setRow g' (cur.toList.take 0++f2.take xs.length++cur.toList.drop (0+(f2.take xs.length).length)).toArray):=by
          unfold execOp;rw[hcl];simp only[ho];simp[resolve,invoke,builtin,qJ,k1,dA,r1] at hrun⊢;simp[hrun]
         exact eF hrun' (eP (G:=fun a'=>K a' _) hk hI (cO _ _ _ _ _) fun st' hk' hi'=>hK st' _ _ hk' hi' (.loud (by simp[still,ho]) (fun hgt=>by rw[hgf] at hgt;cases hgt)))
      ·cases hk
     ·cases hk
    ·cases hk
   ·cases hk
  ·cases hk
 ·cases hk
end
end Go.Am
end
