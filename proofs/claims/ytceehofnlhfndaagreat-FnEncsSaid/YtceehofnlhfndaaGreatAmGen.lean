/- an abstract machine over the model: what it holds, how it steps, and that its steps are sound -/
import Derived.Test.YtceehofnlhfndaaGreatAmOps12
import Derived.Laws.StructEq
import Derived.KernelRfl
set_option linter.unnecessarySimpa false
set_option linter.unusedSimpArgs false
set_option linter.unusedVariables false
set_option linter.unusedSectionVars false
section
namespace Go.Am
def Ty.isRow:Ty→Bool
 | .nil=>true
 | .cons _ _=>true
 |_=>false
def dm(P:Program):Ty→TypeId→List Field→Nat→Prop
 | .int k,t,_,_=>P.underlying t=some (.int k)
 | .bool,t,_,_=>P.underlying t=some .bool
 | .str,t,_,_=>P.underlying t=some .string
 | .st fs,t,_,_=>∃fields,P.underlying t=some (.struct fields)∧P.stoodInHeld t=false∧dm P fs 0 fields.toList 0∧fs.isRow=true
 | .nil,_,l,_=>l=[]
 | .cons a b,_,l,off=>∃f r,l=f::r∧f.offset=off∧f.name≠ "_"∧(∃i,P.info? f.type=some i∧i.size=a.size)∧eY P f.type a∧0<a.size∧dm P a f.type [] 0∧dm P b 0 r (off+a.size)∧a.isRow=false∧b.isRow=true
 | .list _ _,_,_,_=>False
 | .ptr,_,_,_=>False
section
variable{P:Program}{w:World}
theorem qU{t:TypeId}{a:Ty}{xs:Array Value}{pre cs post:List Value}{v:Value}(hag:eY P t a)(hi:∃i,P.info? t=some i∧i.size=a.size)(h0:0<a.size)
 (hx:xs.toList=pre++(cs++post)) (hl:cs.length=a.size) (hm:mkV a.isAgg cs v) (u:World):(part t xs pre.length).run P u= .ok v u:=by
 obtain⟨i,h1,h2⟩:=hi;unfold part;rw[Sem.run_bind,vF hag];simp only[Result.andThen_ok];cases ha:a.isAgg with
 |true=>
  rw[ha] at hm;have hm:v= .agg cs.toArray:=hm;simp only[if_true];simp only[sizeOf,typeInfo,Sem.run_bind,run_program,Result.andThen_ok,h1,Sem.run_pure,h2];simp only[hm];have:xs.extract pre.length (pre.length+a.size)=cs.toArray:=by
   apply Array.ext';rw[Array.toList_extract,hx];simp[List.extract,hl]
  simp[this]
 |false=>
  rw[ha] at hm;have hm:cs=[v]:=hm;subst hm;simp only[Bool.false_eq_true,if_false];have:xs[pre.length]?=some v:=by
   rw[←Array.getElem?_toList,hx];simp
  rw[this];rfl
theorem sQ{S:Nat→Prop}(w:World):∀(u:Ty),
 (u.isRow=false→∀(d:Nat) (t:TypeId) (x y:u.Den) (cs ds:List Value) (r:Bool) (v v':Value),u.ht≤d→dm P u t [] 0→Rd w S u x cs→Rd w S u y ds→bM u x y=some r→mkV u.isAgg cs v→mkV u.isAgg ds v'→
  (Op.equalIn d t v v').run P w= .ok r w)∧
 (u.isRow=true→∀(d:Nat) (l:List Field) (off:Nat) (x y:u.Den) (xs ys:Array Value) (pre pre' cs ds:List Value) (r:Bool),u.ht≤d→dm P u 0 l off→Rd w S u x cs→Rd w S u y ds→bM u x y=some r→
  xs.toList=pre++cs→ys.toList=pre'++ds→pre.length=off→pre'.length=off→(Op.eqFields d xs ys l).run P w= .ok r w):=by
 intro u
 induction u with
 |int k=>
  refine⟨fun _ d t x y cs ds r v v' hd he h1 h2 hr m1 m2=> ?_,by simp[Ty.isRow]⟩;have h1:cs=[.int k x]:=h1;have h2:ds=[.int k y]:=h2;have m1:cs=[v]:=m1;have m2:ds=[v']:=m2;rw[h1] at m1;rw[h2] at m2;simp only[List.cons.injEq,and_true] at m1 m2;subst m1 m2;obtain⟨d,rfl⟩:∃e,d=e+1:=⟨d-1,by have:(1:Nat)≤d:=hd;omega⟩;simp only[bM,Option.some.injEq] at hr;subst hr;exact run_equalIn_int w d t k k x y he
 |bool=>
  refine⟨fun _ d t x y cs ds r v v' hd he h1 h2 hr m1 m2=> ?_,by simp[Ty.isRow]⟩;have h1:cs=[.bool x]:=h1;have h2:ds=[.bool y]:=h2;have m1:cs=[v]:=m1;have m2:ds=[v']:=m2;rw[h1] at m1;rw[h2] at m2;simp only[List.cons.injEq,and_true] at m1 m2;subst m1 m2;obtain⟨d,rfl⟩:∃e,d=e+1:=⟨d-1,by have:(1:Nat)≤d:=hd;omega⟩;simp only[bM,Option.some.injEq] at hr;subst hr;exact Go.run_equalIn_bool w d t x y he
 |str=>
  refine⟨fun _ d t x y cs ds r v v' hd he h1 h2 hr m1 m2=> ?_,by simp[Ty.isRow]⟩;have h1:cs=[.string x]:=h1;have h2:ds=[.string y]:=h2;have m1:cs=[v]:=m1;have m2:ds=[v']:=m2;rw[h1] at m1;rw[h2] at m2;simp only[List.cons.injEq,and_true] at m1 m2;subst m1 m2;obtain⟨d,rfl⟩:∃e,d=e+1:=⟨d-1,by have:(1:Nat)≤d:=hd;omega⟩;simp only[bM,Option.some.injEq] at hr;subst hr;exact run_equalIn_string w d t x y he
 |list e t _=>exact⟨fun _ d t x y cs ds r v v' hd he=>he.elim,by simp[Ty.isRow]⟩
 |ptr=>exact⟨fun _ d t x y cs ds r v v' hd he=>he.elim,by simp[Ty.isRow]⟩
 |nil=>
  refine⟨by simp[Ty.isRow],fun _ d l off x y xs ys pre pre' cs ds r hd he h1 h2 hr _ _ _ _=> ?_⟩;have he:l=[]:=he;subst he;simp only[bM,Option.some.injEq] at hr;subst hr;rfl
 |st fs ih=>
  refine⟨fun _ d t x y cs ds r v v' hd he h1 h2 hr m1 m2=> ?_,by simp[Ty.isRow]⟩;obtain⟨fields,he1,he2,pX,hrow⟩:=he;have m1:v= .agg cs.toArray:=m1;have m2:v'= .agg ds.toArray:=m2;subst m1 m2;obtain⟨d,rfl⟩:∃e,d=e+1:=⟨d-1,by have:fs.ht+1≤d:=hd;omega⟩;have hf:P.fieldsOf t=fields:=by unfold Program.fieldsOf;rw[he1]
  rw[run_equalIn_agg w d t _ _ (by rw[hf];exact he1) he2,hf];exact ih.2 hrow d fields.toList 0 x y _ _ [] [] cs ds r (by have:fs.ht+1≤d+1:=hd;omega) pX h1 h2 hr (by simp) (by simp) rfl rfl
 |cons a b iha ihb=>
  refine⟨by simp[Ty.isRow],fun _ d l off x y xs ys pre pre' cs ds r hd he h1 h2 hr q1 q2 q3 q4=> ?_⟩;obtain⟨f,l',rfl,e1,e2,e3,e4,e5,e6,e7,kY,hbr⟩:=he;obtain⟨c1,c2,rfl,h11,h12⟩:=h1;obtain⟨d1,d2,rfl,h21,h22⟩:=h2;simp only[bM] at hr;split at hr
  ·rename_i p q hp hq
   simp only[Option.some.injEq] at hr;subst hr;have l1:=aH _ _ _ h11;have l2:=aH _ _ _ h21;have hmk:∀(cs:List Value),cs.length=a.size→a.isRow=false→(a.isAgg=false→a.size=1)→∃v,mkV a.isAgg cs v:=by
    intro cs hl _ h1;cases ha:a.isAgg with
    |true=>exact⟨_,rfl⟩
    |false=>
     rw[h1 ha] at hl
     match cs,hl with
     |[v],_=>exact⟨v,rfl⟩
   have hnr:a.isRow=false∧(a.isAgg=false→a.size=1):=by
    refine⟨kY,fun h=> ?_⟩;cases a<;>first|rfl|(simp[Ty.isAgg] at h;done)|(simp[Ty.isRow] at kY;done)
   obtain⟨v,m1⟩:=hmk c1 l1 hnr.1 hnr.2;obtain⟨v',m2⟩:=hmk d1 l2 hnr.1 hnr.2;have p9:=qU (P:=P) (xs:=xs) (pre:=pre) (post:=c2) e4 e3 e5 (by rw[q1]) l1 m1 w;have yw:=qU (P:=P) (xs:=ys) (pre:=pre') (post:=d2) e4 e3 e5 (by rw[q2]) l2 m2 w;have hd1:a.ht≤d:=Nat.le_trans (Nat.le_max_left _ _) hd;have hd2:b.ht≤d:=Nat.le_trans (Nat.le_max_right _ _) hd;have heq:=iha.1 hnr.1 d f.type x.1 y.1 c1 d1 p v v' hd1 e6 h11 h21 hp m1 m2;have hrest:=ihb.2 hbr d l' (off+a.size) x.2 y.2 xs ys (pre++c1) (pre'++d1) c2 d2 q hd2 e7 h12 h22 hq (by rw[q1];simp) (by rw[q2];simp) (by rw[List.length_append,q3,l1]) (by rw[List.length_append,q4,l2]);simp only[Op.eqFields,e2,ne_eq,not_false_eq_true,if_true,Sem.run_bind];rw[e1,←q3,p9];simp only[Result.andThen_ok];rw[q3,←q4,yw];simp only[Result.andThen_ok,heq];cases p with
   |true=>simp only[Bool.not_true,Bool.false_eq_true,if_false,Bool.true_and];exact hrest
   |false=>simp
  ·cases hr
end
section
variable{P:Program}{R:Type}{C:Ctx}{o:Oper}{st:St}{k:St→Option R}{r:R}{E0 E:Env}{a:Act}{K:Act→World→Prop}{Q:Exit→Act→World→Prop}{g:Bool}
theorem xF(heq:∀t u,C.tt t=some u→u.isAgg=true→u.flat=true→dm P u t [] 0∧P.eqGuardType P.depth t=false){op:BinOp}{t yt:TypeId}{X Y:Operand}{c d:Cn}{x y:DV}(ho:o.op= .binOp op t X Y yt)
 (hx:bS c=some x) (hy:bS d=some y) (hk:jH C o op t x y st k=some r) (h:Inv C.N E0 E st a) (hX:ak E st.ob st.nx c (a.eval X)) (hY:ak E st.ob st.nx d (a.eval Y))
 (hK:∀st' E' v,k st'=some r→Inv C.N E0 E' st' (a.put o.dst v)→aL P C g o a v E.w E'.w→K (a.put o.dst v) E'.w):o.wp P a E.w K Q:=by
 have hnd:∀{c:Cn} {x:DV},bS c=some x→c≠ .dead:=by intro c x h e;subst e;cases h
 obtain⟨cs,h1,m1⟩:=dY hX (hnd hx);obtain⟨ds,h2,m2⟩:=dY hY (hnd hy);obtain⟨r1,_,g1⟩:=iN c x cs hx h1;obtain⟨r2,_,g2⟩:=iN d y ds hy h2;unfold jH at hk;split at hk
 ·rename_i kX
  simp only[Bool.and_eq_true] at kX;obtain⟨c1,c2,c3,c4⟩:=kX;split at hk
  ·rename_i b hb
   have hb:=cK hb;subst hb;split at hk
   ·rename_i q hq
    have hT:C.tt t=some x.ty:=by
     split at c1
     ·rename_i u hu;rw[hu,of_decide_eq_true c1]
     ·cases c1
    obtain⟨e1,e2⟩:=heq _ _ hT c2 c3;rw[←g1,c2] at m1;rw[←g2] at m2;have m2:mkV x.ty.isAgg ds (a.eval Y):=m2;rw[c2] at m2;have qj:a.eval X= .agg cs.toArray:=m1;have uw:a.eval Y= .agg ds.toArray:=m2;have hrow:x.ty.isRow=false:=by
     generalize x.ty=u at c2;cases u<;>first|rfl|cases c2
    have hrun:∀u,(Op.equalIn 10000 t (.agg cs.toArray) (.agg ds.toArray)).run P u= .ok q u:=fun u=>
     (sQ (S:=fun _=>False) u x.ty).1 hrow 10000 t x.v b cs ds q _ _ (Nat.le_trans (Nat.le_of_ble_eq_true c4) (by omega)) e1 (fI _ c3 _ _ r1) (fI _ c3 _ _ r2) hq (by rw[c2];rfl) (by rw[c2];rfl)
    split at hk
    ·exact aP hk h (fun u _=>by unfold execOp;simp[ho,qj,uw,run_eqGuard_agg u _ t X Y _ _ e2,run_eql_struct,hrun]) (gD ..) hK
    ·exact aP hk h (fun u _=>by unfold execOp;simp[ho,qj,uw,run_eqGuard_agg u _ t X Y _ _ e2,run_neq_struct,hrun]) (gD ..) hK
    ·cases hk
   ·cases hk
  ·cases hk
 ·cases hk
end
end Go.Am
end
section
namespace Go.Am
theorem xG{a b:ByteArray}:ig a b=true↔a=b:=by
 unfold ig;rw[beq_iff_eq,ByteArray.toList_eq,ByteArray.toList_eq];refine⟨fun h=> ?_,fun h=>by rw[h]⟩;obtain⟨x⟩:=a;obtain⟨y⟩:=b;have:x=y:=Array.ext' h;rw[this]
theorem mM:∀(u:Ty),u.flat=true→∀(x y:u.Den),∃r,bM u x y=some r
 | .int _,_,x,y=>⟨_,rfl⟩
 | .bool,_,x,y=>⟨_,rfl⟩
 | .str,_,x,y=>⟨_,rfl⟩
 | .nil,_,x,y=>⟨_,rfl⟩
 | .list _ _,h,_,_=>by simp[Ty.flat] at h
 | .ptr,h,_,_=>by simp[Ty.flat] at h
 | .cons a b,h,x,y=>by
   simp[Ty.flat] at h;obtain⟨p,hp⟩:=mM a h.1 x.1 y.1;obtain⟨q,hq⟩:=mM b h.2 x.2 y.2;exact⟨p&&q,by simp[bM,hp,hq]⟩
 | .st a,h,x,y=>mM a h x y
theorem mK:∀(u:Ty) (x y:u.Den),bM u x y=some true→x=y
 | .int _,x,y,h=>by simpa[bM] using h
 | .bool,x,y,h=>by simpa[bM] using h
 | .str,x,y,h=>by simp only[bM,Option.some.injEq] at h;exact xG.1 h
 | .nil,x,y,h=>rfl
 | .list _ _,_,_,h=>by simp[bM] at h
 | .ptr,_,_,h=>by simp[bM] at h
 | .cons a b,x,y,h=>by
   simp only[bM] at h;split at h
   ·rename_i p q hp hq
    simp only[Option.some.injEq,Bool.and_eq_true] at h;obtain⟨rfl,rfl⟩:=h;exact Prod.ext (mK a _ _ hp) (mK b _ _ hq)
   ·cases h
 | .st a,x,y,h=>mK a x y h
def jg:Value→Prop
 | .int _ _| .bool _| .string _=>True
 |_=>False
theorem kU{w:World}{S:Nat→Prop}:∀(u:Ty),u.flat=true→∀(x:u.Den) (cs ds:List Value),Rd w S u x cs→Rd w S u x ds→cs=ds∧∀v,v∈cs→jg v
 | .int _,_,x,cs,ds,h,k=>by
   have h:cs=[_]:=h;have k:ds=[_]:=k;rw[h,k];simp[jg]
 | .bool,_,x,cs,ds,h,k=>by
   have h:cs=[_]:=h;have k:ds=[_]:=k;rw[h,k];simp[jg]
 | .str,_,x,cs,ds,h,k=>by
   have h:cs=[_]:=h;have k:ds=[_]:=k;rw[h,k];simp[jg]
 | .nil,_,x,cs,ds,h,k=>by
   have h:cs=[]:=h;have k:ds=[]:=k;rw[h,k];simp
 | .list _ _,hf,_,_,_,_,_=>by simp[Ty.flat] at hf
 | .ptr,hf,_,_,_,_,_=>by simp[Ty.flat] at hf
 | .cons a b,hf,x,_,_,⟨c,d,rfl,h1,h2⟩,⟨c',d',rfl,k1,k2⟩=>by
   simp[Ty.flat] at hf;obtain⟨rfl,g1⟩:=kU a hf.1 _ _ _ h1 k1;obtain⟨rfl,g2⟩:=kU b hf.2 _ _ _ h2 k2;exact⟨rfl,fun v hv=>(List.mem_append.1 hv).elim (g1 v) (g2 v)⟩
 | .st a,hf,x,cs,ds,h,k=>kU a hf x cs ds h k
theorem zM{n:Nat}{v:Value}(h:jg v):Instr.sameBits n v v=true:=by
 cases v<;>first|exact h.elim|(cases n<;>simp[Instr.sameBits,beq_toListBytes])
theorem zL{u:Ty}(ha:u.isAgg=true){v:Value}{cs:List Value}(hl:∀c,c∈cs→jg c)(hm:mkV u.isAgg cs v):Instr.sameBits 10000 v v=true:=by
 rw[ha] at hm;have hm:v= .agg cs.toArray:=hm;subst hm;simp only[Instr.sameBits,beq_self_eq_true,Bool.true_and,List.all_eq_true];rintro⟨x,y⟩ hxy;have key:∀(l:List Value) (x y:Value),(x,y)∈l.zip l→x=y∧x∈l:=by
  intro l
  induction l with
  |nil=>intro x y h;simp at h
  |cons z l ih=>
   intro x y h;simp only[List.zip_cons_cons,List.mem_cons,Prod.mk.injEq] at h;rcases h with⟨rfl,rfl⟩|h
   ·exact⟨rfl,List.mem_cons_self⟩
   ·exact⟨(ih x y h).1,List.mem_cons_of_mem _ (ih x y h).2⟩
 obtain⟨rfl,hx⟩:=key cs x y (by simpa using hxy);exact zM (hl x hx)
theorem wh{u:Ty}(hf:u.flat=true){x:u.Den}{v v':Value}(h:iF u x v)(k:iF u x v'):v=v':=by
 obtain⟨cs,h1,h2⟩:=h;obtain⟨ds,k1,k2⟩:=k;obtain⟨rfl,_⟩:=kU u hf x cs ds (h1 default fun _=>False) (k1 _ _);unfold mkV at h2 k2;split at h2
 ·rename_i e;simp only[e,if_true] at k2;rw[h2,k2]
 ·rename_i e;simp only[e] at k2
  rw[h2] at k2;simpa using k2
section
variable{P:Program}
def iI(em:Bool)(d:Nat)(xs:Array Value):List Field→Sem Unit
 |[]=>pure ()
 |f::fs=>
  if f.name≠ "_"then do
   let a ←part f.type xs f.offset
   Instr.checkKey em d f.type a
   iI em d xs fs
  else iI em d xs fs
theorem zH(w:World)(em:Bool)(d:Nat)(t:TypeId)(xs:Array Value){fields:Array Field}(ht:P.underlying t=some (.struct fields)):
 (Instr.checkKey em (d+1) t (.agg xs)).run P w=(iI em d xs fields.toList).run P w:=by
 simp only[Instr.checkKey,Sem.run_bind,run_underlying ht,Result.andThen_ok];rw[←Array.forIn_toList];generalize fields.toList=fs;clear ht
 induction fs generalizing w with
 |nil=>simp[iI]
 |cons f fs ih=>
  simp only[List.forIn_cons,iI,Sem.run_bind,Sem.run_ite];split
  ·generalize(part f.type xs f.offset).run P w=r1
   cases r1 with
   |ok a w1=>
    simp only[Result.andThen_ok];generalize(Instr.checkKey em d f.type a).run P w1=r2;cases r2 with
    |ok _ w2=>
     simp only[Result.andThen_ok,Sem.run_pure];exact ih w2
    |_=>rfl
   |_=>rfl
  ·simp only[Sem.run_pure,Result.andThen_ok]
   exact ih w
theorem sH(em:Bool)(w:World):∀(u:Ty),
 (u.isRow=false→∀(d:Nat) (t:TypeId) (x:u.Den) (cs:List Value) (v:Value),u.ht≤d→dm P u t [] 0→Rd w (fun _=>False) u x cs→mkV u.isAgg cs v→(Instr.checkKey em d t v).run P w= .ok () w)∧
 (u.isRow=true→∀(d:Nat) (l:List Field) (off:Nat) (x:u.Den) (xs:Array Value) (pre cs:List Value),u.ht≤d→dm P u 0 l off→Rd w (fun _=>False) u x cs→xs.toList=pre++cs→pre.length=off→
  (iI em d xs l).run P w= .ok () w):=by
 intro u
 induction u with
 |int k=>
  refine⟨fun _ d t x cs v hd he h1 m1=> ?_,by simp[Ty.isRow]⟩;have h1:cs=[.int k x]:=h1;have m1:cs=[v]:=m1;rw[h1] at m1;simp only[List.cons.injEq,and_true] at m1;subst m1;obtain⟨d,rfl⟩:∃e,d=e+1:=⟨d-1,by have:(1:Nat)≤d:=hd;omega⟩;have he:P.underlying t=some (.int k):=he;simp[Instr.checkKey,run_underlying he]
 |bool=>
  refine⟨fun _ d t x cs v hd he h1 m1=> ?_,by simp[Ty.isRow]⟩;have h1:cs=[.bool x]:=h1;have m1:cs=[v]:=m1;rw[h1] at m1;simp only[List.cons.injEq,and_true] at m1;subst m1;obtain⟨d,rfl⟩:∃e,d=e+1:=⟨d-1,by have:(1:Nat)≤d:=hd;omega⟩;have he:P.underlying t=some .bool:=he;simp[Instr.checkKey,run_underlying he]
 |str=>
  refine⟨fun _ d t x cs v hd he h1 m1=> ?_,by simp[Ty.isRow]⟩;have h1:cs=[.string x]:=h1;have m1:cs=[v]:=m1;rw[h1] at m1;simp only[List.cons.injEq,and_true] at m1;subst m1;obtain⟨d,rfl⟩:∃e,d=e+1:=⟨d-1,by have:(1:Nat)≤d:=hd;omega⟩;have he:P.underlying t=some .string:=he;simp[Instr.checkKey,run_underlying he]
 |list e t _=>exact⟨fun _ d t x cs v hd he=>he.elim,by simp[Ty.isRow]⟩
 |ptr=>exact⟨fun _ d t x cs v hd he=>he.elim,by simp[Ty.isRow]⟩
 |nil=>
  refine⟨by simp[Ty.isRow],fun _ d l off x xs pre cs hd he h1 _ _=> ?_⟩;have he:l=[]:=he;subst he;rfl
 |st fs ih=>
  refine⟨fun _ d t x cs v hd he h1 m1=> ?_,by simp[Ty.isRow]⟩;obtain⟨fields,he1,he2,pX,hrow⟩:=he;have m1:v= .agg cs.toArray:=m1;subst m1;obtain⟨d,rfl⟩:∃e,d=e+1:=⟨d-1,by have:fs.ht+1≤d:=hd;omega⟩;have:=ih.2 hrow d fields.toList 0 x cs.toArray [] cs (by have:fs.ht+1≤d+1:=hd;omega) pX h1 (by simp) rfl;rw[zH w em d t _ he1];exact this
 |cons a b iha ihb=>
  refine⟨by simp[Ty.isRow],fun _ d l off x xs pre cs hd he h1 q1 q3=> ?_⟩;obtain⟨f,l',rfl,e1,e2,e3,e4,e5,e6,e7,kY,hbr⟩:=he;obtain⟨c1,c2,rfl,h11,h12⟩:=h1;have l1:=aH _ _ _ h11;have hnr:a.isAgg=false→a.size=1:=fun h=>by cases a<;>first|rfl|(simp[Ty.isAgg] at h;done)|(simp[Ty.isRow] at kY;done)
  obtain⟨v,m1⟩:∃v,mkV a.isAgg c1 v:=by
   cases ha:a.isAgg with
   |true=>exact⟨_,rfl⟩
   |false=>
    rw[hnr ha] at l1
    match c1,l1 with
    |[v],_=>exact⟨v,rfl⟩
  have p9:=qU (P:=P) (xs:=xs) (pre:=pre) (post:=c2) e4 e3 e5 (by rw[q1]) l1 m1 w;have hd1:a.ht≤d:=Nat.le_trans (Nat.le_max_left _ _) hd;have hd2:b.ht≤d:=Nat.le_trans (Nat.le_max_right _ _) hd;have heq:=iha.1 kY d f.type x.1 c1 v hd1 e6 h11 m1;have hrest:=ihb.2 hbr d l' (off+a.size) x.2 xs (pre++c1) c2 hd2 e7 h12 (by rw[q1];simp) (by rw[List.length_append,q3,l1]);simp only[iI,e2,ne_eq,not_false_eq_true,if_true,Sem.run_bind];rw[e1,←q3,p9];simp only[Result.andThen_ok,heq];exact hrest
theorem xH{u:Ty}{kt:TypeId}(ha:u.isAgg=true)(hf:u.flat=true)(hh:u.ht.ble 9999=true)(he:dm P u kt [] 0){x y:u.Den}{v v':Value}(hx:iF u x v)(hy:iF u y v')(w:World):
 (Op.equal kt v v').run P w= .ok (jQ u x y) w:=by
 obtain⟨cs,h1,m1⟩:=hx;obtain⟨ds,h2,m2⟩:=hy;obtain⟨r,hr⟩:=mM u hf x y;have hrow:u.isRow=false:=by cases u<;>first|rfl|cases ha
 have:=(sQ (P:=P) (S:=fun _=>False) w u).1 hrow 10000 kt x y cs ds r v v' (Nat.le_trans (Nat.le_of_ble_eq_true hh) (by omega)) he (h1 _ _) (h2 _ _) hr m1 m2;unfold jQ;rw[hr];exact this
theorem pF{u:Ty}{kk:IntKind}{kt:TypeId}(ha:u.isAgg=true)(hf:u.flat=true)(hh:u.ht.ble 9999=true)(he:dm P u kt [] 0){x:u.Den}{kv:Value}(hx:iF u x kv)(w:World):
 ∀(l:List (u.Den×Int)) (es:List MapEntry) (i:Nat),jh u kk l es→
  (bU u x l=none→(Instr.findAsking kt kv es i).run P w= .ok none w∧∀n e,e.key=kv→e.val= .int kk n→jh u kk (fV u x n l) (es++[e]))∧
  (∀y,bU u x l=some y→∃j e,es[j]?=some e∧e.key=kv∧(Instr.findAsking kt kv es i).run P w= .ok (some (i+j,.int kk y)) w∧
   ∀n,jh u kk (fV u x n l) (es.modify j fun e=>{e with key:=kv,val:= .int kk n}))
 |[],es,i,h=>by
  have h:es=[]:=h;subst h;refine⟨fun _=>⟨rfl,fun n e h1 h2=>⟨e,[],rfl,by rw[h1];exact hx,h2,rfl⟩⟩,fun y hy=>by simp[bU] at hy⟩
 |p::l,es,i,h=>by
  obtain⟨e,r,rfl,h1,h2,h3⟩:=h;have hq:=xH ha hf hh he hx h1 w;obtain⟨g1,g2⟩:=pF ha hf hh he hx w l r (i+1) h3;cases hb:jQ u x p.1 with
  |true=>
   refine⟨fun hy=>by simp[bU,hb] at hy,fun y hy=> ?_⟩;have hxp:x=p.1:=by
    unfold jQ at hb;split at hb
    ·rename_i b hb';subst hb;exact mK u _ _ hb'
    ·cases hb
   have hk:e.key=kv:=wh hf h1 (by rw[←hxp];exact hx);refine⟨0,e,rfl,hk,?_,fun n=> ?_⟩
   ·simp only[bU,hb,Option.some.injEq] at hy
    simp only[Instr.findAsking,Sem.run_bind,hq,hb,Result.andThen_ok,if_true,Sem.run_pure,h2,hy,Nat.add_zero]
   ·simp only[fV,hb]
    exact⟨{e with key:=kv,val:= .int kk n},r,rfl,hx,rfl,h3⟩
  |false=>
   refine⟨fun hy=> ?_,fun y hy=> ?_⟩
   ·have hy:bU u x l=none:=by simpa[bU,hb] using hy
    obtain⟨k1,k2⟩:=g1 hy;refine⟨?_,fun n e' a1 a2=> ?_⟩
    ·simp only[Instr.findAsking,Sem.run_bind,hq,hb,Result.andThen_ok]
     exact k1
    ·simp only[fV,hb]
     exact⟨e,r++[e'],rfl,h1,h2,k2 n e' a1 a2⟩
   ·have hy:bU u x l=some y:=by simpa[bU,hb] using hy
    obtain⟨j,e',k1,k2,k3,k4⟩:=g2 y hy;refine⟨j+1,e',by simpa using k1,k2,?_,fun n=> ?_⟩
    ·simp only[Instr.findAsking,Sem.run_bind,hq,hb,Result.andThen_ok]
     rw[show i+(j+1)=i+1+j by omega];exact k3
    ·simp only[fV,hb]
     exact⟨e,_,by simp,h1,h2,k4 n⟩
theorem qR{kt:TypeId}{fs:Array Field}(h:P.underlying kt=some (.struct fs))(k:Value)(es:List MapEntry)(w:World):(Instr.findKey kt k es).run P w=(Instr.findAsking kt k es 0).run P w:=by
 unfold Instr.findKey;simp only[Sem.run_bind,run_underlying h,Result.andThen_ok];cases es with
 |nil=>rfl
 |cons e es=>simp[Instr.findNow,Instr.sameNow]
end
structure Ap(P:Program)(C:Ctx):Prop where
 mt:∀t k e,C.mt t=some (k,e)→P.underlying t=some (.map k e)
section
variable{P:Program}{R:Type}{C:Ctx}{o:Oper}{st:St}{k:St→Option R}{r:R}{E0 E:Env}{a:Act}{K:Act→World→Prop}{Q:Exit→Act→World→Prop}{g:Bool}
theorem uI(ay:∀t u,C.tt t=some u→aU P t u)(heq:∀t u,C.tt t=some u→u.isAgg=true→u.flat=true→dm P u t [] 0∧P.eqGuardType P.depth t=false)
 (hmt:∀t k e,C.mt t=some (k,e)→P.underlying t=some (.map k e)) {t kt:TypeId} {u:Ty} {kk:IntKind} (h:lI C t=some (kt,u,kk)):
 u.isAgg=true∧u.flat=true∧u.ht.ble 9999=true∧dm P u kt [] 0∧(∃fs,P.underlying kt=some (.struct fs))∧∃et,P.underlying t=some (.map kt et)∧aU P et (.int kk):=by
 unfold lI at h;split at h
 ·rename_i Az et hm
  split at h
  ·rename_i u' iU h1 h2
   split at h
   ·rename_i hb
    simp only[Option.some.injEq,Prod.mk.injEq] at h;obtain⟨rfl,rfl,rfl⟩:=h;simp only[Bool.and_eq_true] at hb;have:=(heq _ _ h1 hb.1 hb.2.1).1;refine⟨hb.1,hb.2.1,hb.2.2,this,?_,et,hmt _ _ _ hm,ay _ _ h2⟩;have ha:=hb.1;cases u'<;>first|cases ha|skip
    obtain⟨fs,h,_⟩:=this;exact⟨fs,h⟩
   ·cases h
  ·cases h
 ·cases h
theorem yY{t:TypeId}{u:Ty}{kk:IntKind}(ho:o.op= .makeMap t none)(hgf:g=false)(hk:az C o (.p st.nx) (st.push (.mp u kk [])) k=some r)(h:Inv C.N E0 E st a)
 (hK:∀st' E' v,k st'=some r→Inv C.N E0 E' st' (a.put o.dst v)→aL P C g o a v E.w E'.w→K (a.put o.dst v) E'.w):o.wp P a E.w K Q:=by
 refine qL (w:=E.w.alloc (.map #[] 0)) (v:= .map (some E.w.heap.size)) (bs:=[E.w.heap.size]) (by simp[still,ho]) hk h ?_ (aB.alloc _ _) ?_ (by simp) ?_ (.inr rfl) rfl hK
 ·unfold execOp;simp[ho,Instr.makeMap]
 ·intro b hb
  obtain rfl:=List.mem_singleton.1 hb;exact⟨Nat.le_refl _,by simp⟩
 ·intro ev
  refine⟨E.w.heap.size,#[],0,upd_same _ _ _,?_,rfl,upd_same _ _ _⟩;simpa using heap_alloc_new E.w (.map #[] 0)
theorem uH{R':Type}{t:TypeId}{i:Nat}{c:Cn}{kf:(u:Ty)→IntKind→List (u.Den×Int)→u.Den→Option R'}{r:R'}(h:gM C st t i c kf=some r):
 ∃kt u kk l d x,lI C t=some (kt,u,kk)∧st.ob i= .mp u kk l∧bS c=some d∧d=⟨u,x⟩∧kf u kk l x=some r:=by
 unfold gM at h;split at h
 ·rename_i kt u kk hT
  split at h
  ·rename_i u' iU l d ah hd
   split at h
   ·rename_i l' x h1 h2
    have e1:=cK h1;have e2:=cK h2;simp only[DV.mk.injEq,Ty.list.injEq,Ty.cons.injEq,Ty.int.injEq,true_and] at e1;obtain⟨⟨rfl,rfl⟩,e1⟩:=e1;have e1:=eq_of_heq e1;subst e1;exact⟨kt,u',iU,l,d,x,hT,ah,hd,e2,h⟩
   ·cases h
  ·cases h
 ·cases h
theorem uk{u:Ty}{x:u.Den}{c:Cn}{v:Value}(hf:u.flat=true)(hd:bS c=some ⟨u,x⟩)(hv:ak E st.ob st.nx c v):iF u x v:=by
 obtain⟨cs,h1,m1⟩:=dY hv (by intro e;subst e;cases hd);obtain⟨r1,_,g1⟩:=iN c _ cs hd h1;rw[←g1] at m1;exact⟨cs,fun w S=>fI _ hf _ _ r1,m1⟩
theorem yU(ay:∀t u,C.tt t=some u→aU P t u)(heq:∀t u,C.tt t=some u→u.isAgg=true→u.flat=true→dm P u t [] 0∧P.eqGuardType P.depth t=false)
 (hmt:∀t k e,C.mt t=some (k,e)→P.underlying t=some (.map k e)) {t:TypeId} {X Y:Operand} {ok:Bool} {i:Nat} {c:Cn} (ho:o.op= .lookup t X Y ok) (hgf:g=false)
 (hk:(gM C st t i c fun u kk l x=>az C o (uq ok kk (bU u x l)) st k)=some r) (h:Inv C.N E0 E st a)
 (hX:ak E st.ob st.nx (.p i) (a.eval X)) (hY:ak E st.ob st.nx c (a.eval Y))
 (hK:∀st' E' v,k st'=some r→Inv C.N E0 E' st' (a.put o.dst v)→aL P C g o a v E.w E'.w→K (a.put o.dst v) E'.w):o.wp P a E.w K Q:=by
 obtain⟨kt,u,kk,l,d,x,hT,ah,hd,rfl,hk'⟩:=uH hk;clear hk;have hk:=hk';clear hk';obtain⟨t1,t2,t3,t4,⟨fs,t5⟩,et,t6,t7⟩:=uI ay heq hmt hT;have fA:=h.rep.ob i;rw[ah] at fA;obtain⟨gg,es,ck,k1,k2,k3,k4⟩:=fA;obtain⟨cs,x1,x2⟩:=hX;have x2:cs=[a.eval X]:=x2;have x1:cs=[E.af i]:=x1.2.2;have eX:a.eval X= .map (some gg):=by rw[x1,k1] at x2;simpa using x2.symm
 have hkey:=uk (st:=st) (E:=E) t2 hd hY;obtain⟨z1,z2⟩:=pF (P:=P) (kk:=kk) t1 t2 t3 t4 hkey E.w l es.toList 0 k3;obtain⟨lC,lu,m_⟩:=hkey;have hrow:u.isRow=false:=by cases u<;>first|rfl|cases t1
 have hck:(Instr.checkKey es.isEmpty 10000 kt (a.eval Y)).run P E.w= .ok () E.w:=(sH (P:=P) es.isEmpty E.w u).1 hrow 10000 kt x lC _ (Nat.le_trans (Nat.le_of_ble_eq_true t3) (by omega)) t4 (lu _ _) m_;obtain⟨ii,z,i1,i2,i3,i4,_,_,i6,_⟩:=t7.info;have i4:z.cells.toList=[.int kk 0]:=i4;have i6:z.cells.toList=[z]:=i6;have i5:z= .int kk 0:=by rw[i4] at i6;simpa using i6.symm
 have hgo:(getObj gg).run P E.w= .ok (.map es ck) E.w:=by simp[getObj,Sem.run,k2]
 have hrun:(Instr.lookup t (a.eval X) (a.eval Y) ok).run P E.w= .ok (if ok then .tuple #[.int kk ((bU u x l).getD 0),.bool (bU u x l).isSome] else .int kk ((bU u x l).getD 0)) E.w:=by
  unfold Instr.lookup;rw[eX];simp only[Sem.run_bind,run_underlying t6,Result.andThen_ok,hgo,Sem.run_pure,hck,qR t5];cases hm:bU u x l with
  |none=>
   rw[(z1 hm).1];simp[zeroValue,typeInfo,i1,i3,i5]
  |some y=>
   obtain⟨j,e,_,_,zz,_⟩:=z2 y hm;rw[zz];simp
 have hrun':(execOp a.eval o).run P E.w= .ok (.value (if ok then .tuple #[.int kk ((bU u x l).getD 0),.bool (bU u x l).isSome] else .int kk ((bU u x l).getD 0))) E.w:=by
  unfold execOp;simp[ho,hrun]
 refine eH hrun' (eB (G:=fun a'=>K a' E.w) hk h ?_ fun st' hk' hi=>hK st' E _ hk' hi (.loud (by simp[still,ho]) (fun hg=>by rw[hgf] at hg;cases hg)));cases ok with
 |false=>exact cB ..
 |true=>
  refine⟨[_],⟨_,rfl,?_⟩,rfl⟩;exact⟨_,_,[_],rfl,⟨rfl,trivial,fun _=>rfl⟩,rfl,⟨_,_,[_],rfl,⟨rfl,trivial,fun _=>rfl⟩,rfl,rfl⟩⟩
theorem yZ(ay:∀t u,C.tt t=some u→aU P t u)(heq:∀t u,C.tt t=some u→u.isAgg=true→u.flat=true→dm P u t [] 0∧P.eqGuardType P.depth t=false)
 (hmt:∀t k e,C.mt t=some (k,e)→P.underlying t=some (.map k e)) {t:TypeId} {M X Y:Operand} {i:Nat} {c:Cn} {ky:IntKind} {n:Int} (ho:o.op= .mapUpdate t M X Y) (hgf:g=false)
 (hk:(gM C st t i c fun u kk l x=>match decide (kk=ky),o.dst with
    |true,none=>k (st.set i (.mp u kk (fV u x n l)))
    |_,_=>none)=some r) (h:Inv C.N E0 E st a)
 (hM:ak E st.ob st.nx (.p i) (a.eval M)) (hX:ak E st.ob st.nx c (a.eval X)) (hY:a.eval Y= .int ky n)
 (hK:∀st' E' v,k st'=some r→Inv C.N E0 E' st' (a.put o.dst v)→aL P C g o a v E.w E'.w→K (a.put o.dst v) E'.w):o.wp P a E.w K Q:=by
 obtain⟨kt,u,kk,l,d,x,hT,ah,hd,rfl,hk'⟩:=uH hk;clear hk;have hk:=hk';clear hk';obtain⟨t1,t2,t3,t4,⟨fs,t5⟩,et,t6,t7⟩:=uI ay heq hmt hT;have fA:=h.rep.ob i;rw[ah] at fA;obtain⟨gg,es,ck,k1,k2,k3,k4⟩:=fA;obtain⟨cs,x1,x2⟩:=hM;have x2:cs=[a.eval M]:=x2;have hi:i<st.nx:=x1.1;have x1:cs=[E.af i]:=x1.2.2;have eM:a.eval M= .map (some gg):=by rw[x1,k1] at x2;simpa using x2.symm
 have hkey:=uk (st:=st) (E:=E) t2 hd hX;obtain⟨z1,z2⟩:=pF (P:=P) (kk:=kk) t1 t2 t3 t4 hkey E.w l es.toList 0 k3;obtain⟨lC,lu,m_⟩:=hkey;have hrow:u.isRow=false:=by cases u<;>first|rfl|cases t1
 have hck:(Instr.checkKey false 10000 kt (a.eval X)).run P E.w= .ok () E.w:=(sH (P:=P) false E.w u).1 hrow 10000 kt x lC _ (Nat.le_trans (Nat.le_of_ble_eq_true t3) (by omega)) t4 (lu _ _) m_;have hgo:(getObj gg).run P E.w= .ok (.map es ck) E.w:=by simp[getObj,Sem.run,k2]
 have hso:∀ob,(setObj gg ob).run P E.w= .ok () {E.w with heap:=E.w.heap.setIfInBounds gg ob}:=fun ob=>by simp[setObj,Sem.run,k2]
 have hsb:Instr.sameBits 10000 (a.eval X) (a.eval X)=true:=zL t1 (kU (w:=E.w) (S:=fun _=>False) u t2 x lC lC (lu _ _) (lu _ _)).2 m_;split at hk
 ·rename_i hkk hdst
  obtain rfl:=of_decide_eq_true hkk;have hlt:gg<E.w.heap.size:=(h.rep.bb i gg (by rw[k4];simp)).1;have fin:∀(es':Array MapEntry) (kM:Nat),jh u kk (fV u x n l) es'.toList→(Instr.mapUpdate t (a.eval M) (a.eval X) (a.eval Y)).run P E.w= .ok () {E.w with heap:=E.w.heap.setIfInBounds gg (.map es' kM)}→o.wp P a E.w K Q:=by
   intro es' kM hm hrun
   have hI:=h.touch i (.mp u kk (fV u x n l)) (w:={E.w with heap:=E.w.heap.setIfInBounds gg (.map es' kM)}) rfl rfl rfl (by simp)
    (fun b hb=>by rw[k4] at hb;show(E.w.heap.setIfInBounds gg _)[b]?=_;rw[Array.getElem?_setIfInBounds_ne (fun e=>hb (by rw[e];simp))]) hi
    (fun fz v e t xs he=>by cases he) ⟨fun u' hu'=>by simp[Ob.lay] at hu',fun hh=>by simp[Ob.bn] at hh⟩
    (fun ev=>⟨gg,es',kM,k1,by show(E.w.heap.setIfInBounds gg _)[gg]?=_;simp[hlt],hm,k4⟩)
   refine lW (w':={E.w with heap:=E.w.heap.setIfInBounds gg (.map es' kM)}) (by unfold execOp;simp[ho,hrun]) ?_;have hput:a.put o.dst undef=a:=by rw[hdst];rfl
   exact hK _ _ undef hk (by rw[hput];exact hI) (.loud (by simp[still,ho]) (fun hgt=>by rw[hgf] at hgt;cases hgt))
  cases hm:bU u x l with
  |none=>
   obtain⟨q1,q2⟩:=z1 hm;refine fin (es.push {key:=a.eval X,val:=a.eval Y,born:=ck}) (ck+1) ?_ ?_
   ·rw[Array.toList_push]
    exact q2 n _ rfl hY
   ·unfold Instr.mapUpdate
    rw[eM];simp only[Sem.run_bind,run_underlying t6,Result.andThen_ok,hgo,hck,qR t5,q1,hso]
  |some y=>
   obtain⟨j,e,y1,y2,y3,y4⟩:=z2 y hm;refine fin (es.modify j fun e=>{e with key:=a.eval X,val:=a.eval Y}) ck ?_ ?_
   ·rw[Array.toList_modify,hY]
    exact y4 n
   ·unfold Instr.mapUpdate
    rw[eM];have y1':es[j]?=some e:=by rw[←Array.getElem?_toList];exact y1
    simp only[Sem.run_bind,run_underlying t6,Result.andThen_ok,hgo,hck,qR t5,y3,Nat.zero_add,y1',Option.map_some,Option.getD_some,y2,Instr.keyThatStays,hsb,if_true,Sem.run_pure,hso]
 ·cases hk
end
end Go.Am
end
section
namespace Go.Am
structure Ext(E:Env)(m:Mt)(E':Env)(m':Mt):Prop where
 w:E'.w=E.w
 Z:E'.Z=E.Z
 B:E'.B=E.B
 af:∀i,i<m.nx→E'.af i=E.af i
 nx:m.nx≤m'.nx
 ob:∀i,i<m.nx→m'.ob i=m.ob i
 sig:∀j i,aA m.sig j=some i→aA m'.sig j=some i
 fz:∀i,i∈m.fz→i∈m'.fz
theorem Ext.refl(E:Env)(m:Mt):Ext E m E m:=⟨rfl,rfl,rfl,fun _ _=>rfl,Nat.le_refl _,fun _ _=>rfl,fun _ _ h=>h,fun _ h=>h⟩
theorem Ext.trans{E E1 E2:Env}{m m1 m2:Mt}(h:Ext E m E1 m1)(k:Ext E1 m1 E2 m2):Ext E m E2 m2:=
 ⟨k.w.trans h.w,k.Z.trans h.Z,k.B.trans h.B,fun i hi=>(k.af i (Nat.lt_of_lt_of_le hi h.nx)).trans (h.af i hi),Nat.le_trans h.nx k.nx,
  fun i hi=>(k.ob i (Nat.lt_of_lt_of_le hi h.nx)).trans (h.ob i hi),fun j i e=>k.sig j i (h.sig j i e),fun i e=>k.fz i (h.fz i e)⟩
theorem Ext.ev{E E':Env}{m m':Mt}(h:Ext E m E' m'):Ev E m.ob m.nx E' m'.ob m'.nx where
 le:=h.nx
 af:=h.af
 z:=fun b hb=>by rw[h.Z];exact hb
 hz:=fun b _=>by rw[h.w]
 lay:=fun i hi u hu=>by rw[h.ob i hi] at hu;exact hu
 bx:=fun i hi hu=>by rw[h.ob i hi] at hu;exact hu
 obs:=fun i hi fz v e t xs ho=>⟨fz,v,xs,by rw[h.ob i hi] at ho;exact ho,rfl,Nat.le_refl _,fun _=>⟨rfl,fun b hb=>⟨by rw[h.w],by rw[h.B,h.Z];exact hb⟩⟩⟩
structure Vw(E:Env)(m:Mt)(F:Env)(nx:Nat):Prop where
 w:F.w=E.w
 z:∀b,E.Z b→F.Z b
 fz:∀i,i∈m.fz→∀b,b∈E.B i→F.Z b
 af:∀j i,aA m.sig j=some i→j<nx∧F.af j=E.af i
 lt:∀j i,aA m.sig j=some i→i<m.nx
theorem Vw.back{E E':Env}{m m':Mt}{F:Env}{nx:Nat}(h:Ext E m E' m')(v:Vw E' m' F nx)(hl:∀j i,aA m.sig j=some i→i<m.nx):Vw E m F nx where
 w:=v.w.trans h.w
 z:=fun b hb=>v.z b (by rw[h.Z];exact hb)
 fz:=fun i hi b hb=>v.fz i (h.fz i hi) b (by rw[h.B];exact hb)
 af:=fun j i e=>⟨(v.af j i (h.sig j i e)).1,((v.af j i (h.sig j i e)).2).trans (h.af i (hl j i e))⟩
 lt:=hl
def rZ(m:Mt):Prop:=∀j i,aA m.sig j=some i→i<m.nx
theorem vW{tmp:Bool}{E:Env}{uN:Nat}:∀(c:Cn) (m m':Mt) (d:DV) (cs:List Value),bH tmp m c=some (d,m')→(∀i,aJ E m.ob uN i (m.ob i))→
 av E m.ob uN c false cs→m'.sig=m.sig∧m'.ob=m.ob∧m'.nx=m.nx∧(∀i,i∈m.fz→i∈m'.fz)∧d.ty.isAgg=c.isAgg∧
 ∀F:Env,F.w=E.w→(∀b,E.Z b→F.Z b)→(∀i,i∈m'.fz→∀b,b∈E.B i→F.Z b)→Rd F.w F.Z d.ty d.v cs:=by
 intro c
 induction c with
 |ro b d0=>
  intro m m' d cs h ah hc;cases b with
  |none=>
   simp only[bH,Option.some.injEq,Prod.mk.injEq] at h;obtain⟨rfl,rfl⟩:=h;exact⟨rfl,rfl,rfl,fun _ h=>h,rfl,fun F hw hz hf=>aN hz (fun b _=>by rw[hw]) _ _ _ (hc.2.2 trivial)⟩
  |some p=>
   obtain⟨i,aj⟩:=p;simp only[bH] at h;split at h
   ·rename_i fz v e t xs hi
    split at h
    ·rename_i hv
     cases h;have hv:=Nat.eq_of_beq_eq_true hv;subst hv;refine⟨rfl,rfl,rfl,fun _ h=>List.mem_cons_of_mem _ h,rfl,fun F hw hz hf=> ?_⟩;refine aN (fun b hb=> ?_) (fun b _=>by rw[hw]) _ _ _ (hc.2.2 (by simp only[live,fresh,hi]));rcases hb with hb|hb
     ·exact hf i (List.mem_cons_self ..) b hb
     ·exact hz b hb
    ·cases h
   ·cases h
 |bq e t=>
  intro m m' d cs h ah hc;simp only[bH,Option.some.injEq,Prod.mk.injEq] at h;obtain⟨rfl,rfl⟩:=h;have hc:cs=[.slice none 0 0]:=hc;refine⟨rfl,rfl,rfl,fun _ h=>h,rfl,fun F hw hz hf=> ?_⟩;exact⟨none,0,0,[],hc,rfl,Nat.le_refl _,rfl,by simp,by intro j u hu;simp at hu,by omega,fun _=>rfl⟩
 |h i=>
  intro m m' d cs h ah hc;simp only[bH] at h;have ho:=ah i;split at h
  ·rename_i fz v e t xs hi
   rw[hi] at ho;have hcs:cs=[E.af i]:=hc.2.2;subst hcs;cases fz with
   |own=>
    cases h;refine⟨rfl,rfl,rfl,fun _ h=>List.mem_cons_of_mem _ h,rfl,fun F hw hz hf=> ?_⟩;exact aN (fun b hb=>hf i (List.mem_cons_self ..) b hb) (fun b _=>by rw[hw]) _ _ _ (dQ _ _ _ _ ho)
   |aW=>
    cases h;refine⟨rfl,rfl,rfl,fun _ h=>List.mem_cons_of_mem _ h,rfl,fun F hw hz hf=> ?_⟩;exact aN (fun b hb=>hz b hb) (fun b _=>by rw[hw]) _ _ _ ho.1
   |shl=>
    cases h;refine⟨rfl,rfl,rfl,fun _ h=>List.mem_cons_of_mem _ h,rfl,fun F hw hz hf=> ?_⟩;exact aN (fun b hb=>hb.elim (fun hb=>hf i (List.mem_cons_self ..) b hb) (hz b)) (fun b _=>by rw[hw]) _ _ _ (mq ho)
   |hole _ _ _=>cases h
  ·cases h
 |sub i ix path aj d0=>
  intro m m' d cs h ah hc;simp only[bH] at h;split at h
  ·rename_i fz v e t xs hi
   split at h
   ·rename_i hv
    cases h;have hv:=Nat.eq_of_beq_eq_true hv;obtain⟨_,_,_,_,h5⟩:=hc;rw[hi] at h5;have h6:=(h5 hv).1;refine⟨rfl,rfl,rfl,fun _ h=>List.mem_cons_of_mem _ h,rfl,fun F hw hz hf=> ?_⟩;refine aN (fun b hb=> ?_) (fun b _=>by rw[hw]) _ _ _ h6;rcases hb with hb|hb
    ·exact hf i (List.mem_cons_self ..) b hb
    ·exact hz b hb
   ·cases h
  ·cases h
 |nil=>
  intro m m' d cs h ah hc;simp only[bH,Option.some.injEq,Prod.mk.injEq] at h;obtain⟨rfl,rfl⟩:=h;exact⟨rfl,rfl,rfl,fun _ h=>h,rfl,fun F hw hz hf=>hc⟩
 |cons a b iha ihb=>
  intro m m' d cs h ah hc;simp only[bH] at h;split at h
  ·rename_i x m1 h1
   split at h
   ·rename_i y m2 h2
    cases h;obtain⟨ca,cb,rfl,hca,hcb⟩:=hc;obtain⟨s1,o1,n1,f1,g1,k1⟩:=iha _ _ _ _ h1 ah hca;obtain⟨s2,o2,n2,f2,g2,k2⟩:=ihb _ _ _ _ h2 (by rw[o1];exact ah) (by rw[o1];exact hcb);exact⟨s2.trans s1,o2.trans o1,n2.trans n1,fun i h=>f2 i (f1 i h),rfl,fun F hw hz hf=>⟨ca,cb,rfl,k1 F hw hz (fun i hi=>hf i (f2 i hi)),k2 F hw hz hf⟩⟩
   ·cases h
  ·cases h
 |agg a ih=>
  intro m m' d cs h ah hc;simp only[bH] at h;split at h
  ·rename_i x m1 h1
   cases h;obtain⟨s1,o1,n1,f1,g1,k1⟩:=ih _ _ _ _ h1 ah hc;exact⟨s1,o1,n1,f1,rfl,fun F hw hz hf=>k1 F hw hz hf⟩
  ·cases h
 |pre i aj e0 t0 ys=>
  intro m m' d cs h ah hc;simp only[bH] at h;split at h
  ·rename_i fz v e t xs hi
   split at h
   ·rename_i hv
    cases h;have hv:=Nat.eq_of_beq_eq_true hv;subst hv;refine⟨rfl,rfl,rfl,fun _ h=>List.mem_cons_of_mem _ h,rfl,fun F hw hz hf=> ?_⟩;refine aN (fun b hb=> ?_) (fun b _=>by rw[hw]) _ _ _ (hc.1.2.2 (by simp only[live,fresh,hi]));rcases hb with hb|hb
    ·exact hf i (List.mem_cons_self ..) b hb
    ·exact hz b hb
   ·cases h
  ·cases h
 |p i=>intro m m' d cs h ah hc;simp[bH] at h
 |addr _ _ _ _ _ _=>intro m m' d cs h ah hc;simp[bH] at h
 |aY b d0=>intro m m' d cs h ah hc;simp[bH] at h
 |fn f c _=>intro m m' d cs h ah hc;simp[bH] at h
 |bZ c _=>intro m m' d cs h ah hc;simp[bH] at h
 |cst v=>intro m m' d cs h ah hc;simp[bH] at h
 |any=>intro m m' d cs h ah hc;simp[bH] at h
 |dead=>intro m m' d cs h ah hc;simp[bH] at h
theorem Ext.same{E:Env}{m m':Mt}(s:m'.sig=m.sig)(o:m'.ob=m.ob)(n:m'.nx=m.nx)(f:∀i,i∈m.fz→i∈m'.fz):Ext E m E m':=
 ⟨rfl,rfl,rfl,fun _ _=>rfl,by rw[n];exact Nat.le_refl _,fun i _=>by rw[o],fun j i h=>by rw[s];exact h,f⟩
structure bB(E:Env)(m:Mt)(tm:Array Value):Prop where
 rep:aS E ⟨fun _=> .dead,m.ob,m.nx⟩ tm
 lt:rZ m
theorem bB.ob{E:Env}{m:Mt}{tm:Array Value}(h:bB E m tm)(i:Nat):aJ E m.ob m.nx i (m.ob i):=h.rep.ob i
theorem bB.same{E:Env}{m m':Mt}{tm:Array Value}(h:bB E m tm)(s:m'.sig=m.sig)(o:m'.ob=m.ob)(n:m'.nx=m.nx):bB E m' tm:=
 ⟨by rw[o,n];exact h.rep,fun j i e=>by rw[n];rw[s] at e;exact h.lt j i e⟩
theorem dH{j i k:Nat}{s:List (Nat×Nat)}:aA ((j,i)::s) k=if j=k then some i else aA s k:=by
 simp only[aA];by_cases e:j=k
 ·subst e;simp
 ·have:Nat.beq j k=false:=by
   cases h:Nat.beq j k with
   |false=>rfl
   |true=>exact absurd (Nat.eq_of_beq_eq_true h) e
  simp[this,e]
theorem qM{E:Env}{m m':Mt}{tm:Array Value}{j i:Nat}(h:m.put j i=some m')(ok:bB E m tm)(hi:i<m.nx):
 Ext E m E m'∧bB E m' tm∧aA m'.sig j=some i:=by
 unfold Mt.put at h;split at h
 ·rename_i i' hs
  split at h
  ·rename_i hb
   obtain rfl:=Nat.eq_of_beq_eq_true hb;cases h;exact⟨Ext.refl _ _,ok,hs⟩
  ·cases h
 ·rename_i hs
  cases h;refine⟨⟨rfl,rfl,rfl,fun _ _=>rfl,Nat.le_refl _,fun _ _=>rfl,fun k l e=> ?_,fun _ h=>h⟩,⟨ok.rep,fun k l e=> ?_⟩,?_⟩
  ·show aA ((j,i)::m.sig) k=some l
   rw[dH];split
   ·rename_i e';subst e';rw[hs] at e;cases e
   ·exact e
  ·have e:aA ((j,i)::m.sig) k=some l:=e
   rw[dH] at e;split at e
   ·cases e;exact hi
   ·exact ok.lt k l e
  ·show aA ((j,i)::m.sig) j=some i
   rw[dH,if_pos rfl]
theorem uK{E:Env}{m:Mt}{tm:Array Value}{j:Nat}{o:Ob}{v:Value}(ok:bB E m tm)(hs:aA m.sig j=none)
 (ho:∀F:Env,F.af m.nx=v→F.B m.nx=[]→∀ob nx,aJ F ob nx m.nx o):
 Ext E m {E with af:=upd E.af m.nx v} {m with sig:=(j,m.nx)::m.sig,ob:=upd m.ob m.nx o,nx:=m.nx+1}∧
 bB {E with af:=upd E.af m.nx v} {m with sig:=(j,m.nx)::m.sig,ob:=upd m.ob m.nx o,nx:=m.nx+1} tm:=by
 have tV:Ext E m {E with af:=upd E.af m.nx v} {m with sig:=(j,m.nx)::m.sig,ob:=upd m.ob m.nx o,nx:=m.nx+1}:=
  ⟨rfl,rfl,rfl,fun i hi=>aC _ _ _ _ (by omega),Nat.le_succ _,fun i hi=>aC _ _ _ _ (by omega),fun k l e=>by
   show aA ((j,m.nx)::m.sig) k=some l;rw[dH];split
   ·rename_i e';subst e';rw[hs] at e;cases e
   ·exact e,fun _ h=>h⟩
 have hB:E.B m.nx=[]:=by
  have:=ok.rep.ob m.nx;have hd:=ok.rep.lt m.nx (Nat.le_refl _);simp only at hd this;rw[hd] at this;exact this
 refine⟨tV,⟨⟨fun s=>trivial,fun i=> ?_,fun i hi=> ?_,ok.rep.dj,ok.rep.nd,ok.rep.bb,ok.rep.zb⟩,fun k l e=> ?_⟩⟩
 ·by_cases e:i=m.nx
  ·subst e
   show aJ _ _ _ _ (upd m.ob m.nx o m.nx);rw[upd_same];exact ho {E with af:=upd E.af m.nx v} (upd_same _ _ _) hB _ _
  ·show aJ _ _ _ _ (upd m.ob m.nx o i)
   rw[aC _ _ _ _ e];exact dP tV.ev (aC _ _ _ _ e) rfl (fun _ _=>rfl) (ok.rep.ob i)
 ·have hi':m.nx+1≤i:=hi
  show upd m.ob m.nx o i=_;rw[aC _ _ _ _ (by omega)];exact ok.rep.lt i (by show m.nx≤i;omega)
 ·have e:aA ((j,m.nx)::m.sig) k=some l:=e
  rw[dH] at e;show l<m.nx+1;split at e
  ·cases e;omega
  ·have:=ok.lt k l e;omega
theorem xm:∀(cs:CS) (x:cs.Den),cs.cn x≠ .dead
 | .ro _,_,h| .h _,_,h| .p _,_,h| .aY _,_,h| .any,_,h| .fn _ _,_,h| .nil,_,h| .cons _ _,_,h| .agg _,_,h=>by simp[CS.cn] at h
theorem nk{tmp:Bool}{tm:Array Value}:∀(cs:CS) (c:Cn) (m m':Mt) (x:cs.Den) (E:Env) (md:Bool) (vs:List Value),bC tmp m cs c=some (x,m')→bB E m tm→
 av E m.ob m.nx c md vs→(md=true→cs.caps=true)→
 ∃E',Ext E m E' m'∧bB E' m' tm∧(cs.cn x).isAgg=c.isAgg∧∀F ob nx,Vw E' m' F nx→av F ob nx (cs.cn x) md vs:=by
 intro cs
 induction cs with
 |ro t=>
  intro c m m' x E md vs h ok hc hm;cases md with
  |true=>simp[CS.caps] at hm
  |false=>
   simp only[bC] at h;split at h
   ·rename_i d m1 h1
    split at h
    ·rename_i y h2
     cases h;have:=cK h2;subst this;obtain⟨s1,o1,n1,f1,g1,k1⟩:=vW c m m' _ vs h1 ok.ob hc;refine⟨E,Ext.same s1 o1 n1 f1,ok.same s1 o1 n1,g1,fun F ob nx v=> ?_⟩;have hrd:=k1 F v.w v.z v.fz;exact⟨aH _ _ _ hrd,trivial,fun _=>hrd⟩
    ·cases h
   ·cases h
 |h j=>
  intro c m m' x E md vs h ok hc hm;cases c<;>(try simp only[bC] at h)<;>try (cases h;done)
  ·rename_i e t
   split at h
   ·cases h
   ·rename_i hs
    cases h;have hc:vs=[.slice none 0 0]:=by cases md<;>exact hc
    obtain⟨h1,h2⟩:=uK (o:= .sl .own 0 e t []) (v:= .slice none 0 0) ok hs (fun F hr hB ob nx=>by
     show Ow F.w (.list e t) [] [F.af m.nx] (F.B m.nx);rw[hr,hB];exact⟨.slice none 0 0,[],[],rfl,⟨by simp,.inl ⟨rfl,rfl⟩⟩,⟨rfl,rfl⟩,by simp[Value.ownBlock]⟩)
    refine⟨_,h1,h2,rfl,fun F ob nx v=> ?_⟩;obtain⟨k1,k2⟩:=v.af j m.nx (by show aA ((j,m.nx)::m.sig) j=_;rw[dH,if_pos rfl]);have k2:=k2.trans (upd_same E.af m.nx (Value.slice none 0 0));have:av F ob nx (.h j) md vs↔j<nx∧(F.af j).oneCell'=true∧vs=[F.af j]:=by cases md<;>exact Iff.rfl
    exact this.2 ⟨k1,by rw[k2];rfl,by rw[k2];exact hc⟩
  ·rename_i i
   have key:∀m1,m.put j i=some m1→some ((),m1)=some (x,m')→∃E',Ext E m E' m'∧bB E' m' tm∧((CS.h j).cn x).isAgg=(Cn.h i).isAgg∧∀F ob nx,Vw E' m' F nx→av F ob nx ((CS.h j).cn x) md vs:=by
    intro m1 h1 h;cases h;have hc:i<m.nx∧(E.af i).oneCell'=true∧vs=[E.af i]:=by cases md<;>exact hc
    obtain⟨h2,h3,h4⟩:=qM h1 ok hc.1;refine⟨E,h2,h3,rfl,fun F ob nx v=> ?_⟩;obtain⟨k1,k2⟩:=v.af j i h4;have:av F ob nx (.h j) md vs↔j<nx∧(F.af j).oneCell'=true∧vs=[F.af j]:=by cases md<;>exact Iff.rfl
    exact this.2 ⟨k1,by rw[k2];exact hc.2.1,by rw[k2];exact hc.2.2⟩
   split at h
   ·split at h
    ·rename_i m1 h1
     exact key m1 h1 h
    ·cases h
   ·split at h
    ·rename_i m1 h1
     exact key m1 h1 h
    ·cases h
   ·cases h
 |p j=>
  intro c m m' x E md vs h ok hc hm;cases c<;>(try simp only[bC] at h)<;>try (cases h;done)
  ·rename_i i
   split at h
   ·rename_i m1 h1
    cases h;have hc:i<m.nx∧(E.af i).oneCell'=true∧vs=[E.af i]:=by cases md<;>exact hc
    obtain⟨h2,h3,h4⟩:=qM h1 ok hc.1;refine⟨E,h2,h3,rfl,fun F ob nx v=> ?_⟩;obtain⟨k1,k2⟩:=v.af j i h4;have:av F ob nx (.p j) md vs↔j<nx∧(F.af j).oneCell'=true∧vs=[F.af j]:=by cases md<;>exact Iff.rfl
    exact this.2 ⟨k1,by rw[k2];exact hc.2.1,by rw[k2];exact hc.2.2⟩
   ·cases h
  ·rename_i v0
   have hv0:v0= .pointer none:=by
    cases v0 with
    |pointer a=>cases a with
     |none=>rfl
     |some a=>simp[bC] at h
    |_=>simp[bC] at h
   subst hv0;simp only[bC] at h;split at h
   ·cases h
   ·rename_i hs
    cases h;have hc:vs=[.pointer none]:=by cases md<;>exact hc.2
    obtain⟨h1,h2⟩:=uK (o:= .aZ false .nil .nil) (v:= .pointer none) ok hs (fun F hr hB ob nx=>⟨hr,hB,[],rfl⟩);refine⟨_,h1,h2,rfl,fun F ob nx v=> ?_⟩;obtain⟨k1,k2⟩:=v.af j m.nx (by show aA ((j,m.nx)::m.sig) j=_;rw[dH,if_pos rfl]);have k2:=k2.trans (upd_same E.af m.nx (Value.pointer none));have:av F ob nx (.p j) md vs↔j<nx∧(F.af j).oneCell'=true∧vs=[F.af j]:=by cases md<;>exact Iff.rfl
    exact this.2 ⟨k1,by rw[k2];rfl,by rw[k2];exact hc⟩
 |any=>
  intro c m m' x E md vs h ok hc hm;have fin:(∃v:Value,v.oneCell'=true∧vs=[v])→m'=m→c.isAgg=false→∃E',Ext E m E' m'∧bB E' m' tm∧(CS.any.cn x).isAgg=c.isAgg∧∀F ob nx,Vw E' m' F nx→av F ob nx (CS.any.cn x) md vs:=by
   intro hv hm hca;subst hm;exact⟨E,Ext.refl _ _,ok,hca.symm,fun F ob nx v=>by cases md<;>exact hv⟩
  cases c<;>(try simp only[bC] at h)<;>try (cases h;done)
  ·cases h
   have hc:vs=[.slice none 0 0]:=by cases md<;>exact hc
   exact fin ⟨_,rfl,hc⟩ rfl rfl
  ·rename_i i
   cases h;have hc:i<m.nx∧(E.af i).oneCell'=true∧vs=[E.af i]:=by cases md<;>exact hc
   exact fin ⟨_,hc.2.1,hc.2.2⟩ rfl rfl
  ·cases h
   have hc:∃v:Value,v.oneCell'=true∧vs=[v]:=by cases md<;>exact hc
   exact fin hc rfl rfl
 |aY t=>
  intro c m m' x E md vs h ok hc hm;have key:∀F ob nx (y:t.Den) md,av F ob nx (.aY none ⟨t,y⟩) md vs↔(True∧∃ad,vs=[.pointer (some ad)]∧ad.spot=none∧(True→F.Z ad.block∧∃f,Rd F.w F.Z t y f∧gX F.w (some ad) f)):=by
   intro F ob nx y md;cases md<;>exact Iff.rfl
  cases c<;>(try simp only[bC] at h)<;>try (cases h;done)
  ·rename_i i
   have hc:i<m.nx∧(E.af i).oneCell'=true∧vs=[E.af i]:=by cases md<;>exact hc
   split at h
   ·rename_i u c0 hi
    split at h
    ·rename_i d m1 h1
     split at h
     ·rename_i y hy
      cases h;have:=cK hy;subst this;have ah:=ok.ob i;rw[hi] at ah;obtain⟨g,cs,ct,b1,b2,b3,b4,b5⟩:=ah;obtain⟨s1,o1,n1,f1,g1,k1⟩:=vW c0 m m1 _ cs h1 ok.ob b3;refine⟨E,Ext.same s1 o1 n1 (fun i hi=>List.mem_cons_of_mem _ (f1 i hi)),ok.same s1 o1 n1,rfl,fun F ob nx v=> ?_⟩;have hrd:=k1 F v.w v.z (fun i hi=>v.fz i (List.mem_cons_of_mem _ hi));refine(key F ob nx _ md).2 ⟨trivial,⟨g,0,none⟩,by rw[hc.2.2,b1],rfl,fun _=>⟨v.fz i (List.mem_cons_self ..) g (by rw[b5];simp),cs,hrd,?_⟩⟩;intro j u' hu;refine⟨_,rfl,?_⟩;rw[v.w];simp only[World.cell?,b2,Nat.zero_add];simpa using hu
     ·cases h
    ·cases h
   ·cases h
  ·rename_i b d
   have hc:bP m.ob m.nx b∧∃ad,vs=[.pointer (some ad)]∧ad.spot=none∧
    (live m.ob b→src E b ad.block∧∃f,Rd E.w (src E b) d.ty d.v f∧gX E.w (some ad) f):=by cases md<;>exact hc
   obtain⟨_,ad,h1,h2,h3⟩:=hc;cases b with
   |none=>
    simp only at h;split at h
    ·rename_i y hy
     cases h;have:=cK hy;subst this;refine⟨E,Ext.refl _ _,ok,rfl,fun F ob nx v=> ?_⟩;obtain⟨h4,f,h5,h6⟩:=h3 trivial;refine(key F ob nx _ md).2 ⟨trivial,ad,h1,h2,fun _=>⟨v.z _ h4,f,aN v.z (fun b _=>by rw[v.w]) _ _ _ h5,by rw[v.w];exact h6⟩⟩
    ·cases h
   |some p=>
    obtain⟨i,aj⟩:=p;simp only at h;split at h
    ·rename_i fz v0 e t0 xs hi
     split at h
     ·rename_i hv
      obtain rfl:=Nat.eq_of_beq_eq_true hv;split at h
      ·rename_i y hy
       cases h;have:=cK hy;subst this;refine⟨E,⟨rfl,rfl,rfl,fun _ _=>rfl,Nat.le_refl _,fun _ _=>rfl,fun _ _ h=>h,fun _ h=>List.mem_cons_of_mem _ h⟩,⟨ok.rep,ok.lt⟩,rfl,fun F ob nx v=> ?_⟩;obtain⟨h4,f,h5,h6⟩:=h3 (by simp only[live,fresh,hi]);have hS:∀b,src E (some (i,v0)) b→F.Z b:=fun b hb=>by
        rcases hb with hb|hb
        ·exact v.fz i (List.mem_cons_self ..) b hb
        ·exact v.z b hb
       refine(key F ob nx _ md).2 ⟨trivial,ad,h1,h2,fun _=>⟨hS _ h4,f,aN hS (fun b _=>by rw[v.w]) _ _ _ h5,by rw[v.w];exact h6⟩⟩
      ·cases h
     ·cases h
    ·cases h
 |fn f cs ih=>
  intro c m m' x E md vs h ok hc hm;cases c<;>(try simp only[bC] at h)<;>try (cases h;done)
  rename_i g c;split at h
  ·rename_i hg
   simp only[Bool.and_eq_true] at hg;obtain rfl:=Nat.eq_of_beq_eq_true hg.1;have hc:∃ws,vs=[.func (.func f) #[] ws.toArray]∧av E m.ob m.nx c true ws:=by cases md<;>exact hc
   obtain⟨ws,h1,h2⟩:=hc;obtain⟨E',e1,e2,e3,e4⟩:=ih c m m' x E true ws h ok h2 (fun _=>hg.2);refine⟨E',e1,e2,rfl,fun F ob nx v=> ?_⟩;have:=e4 F ob nx v;cases md<;>exact⟨ws,h1,this⟩
  ·cases h
 |nil=>
  intro c m m' x E md vs h ok hc hm;cases c<;>(try simp only[bC] at h)<;>try (cases h;done)
  cases h;exact⟨E,Ext.refl _ _,ok,rfl,fun F ob nx v=>by cases md<;>exact hc⟩
 |cons a b iha ihb=>
  intro c m m' x E md vs h ok hc hm;cases c<;>(try simp only[bC] at h)<;>try (cases h;done)
  rename_i ca cb;split at h
  ·rename_i u m1 h1
   split at h
   ·rename_i y m2 h2
    cases h;cases md with
    |false=>
     obtain⟨va,vb,rfl,ha,hb⟩:=hc;obtain⟨E1,e1,e2,e3,e4⟩:=iha ca m m1 u E false va h1 ok ha (by simp);obtain⟨E2,f1,f2,f3,f4⟩:=ihb cb m1 m' y E1 false vb h2 e2 (d_ e1.ev _ _ _ hb) (by simp);exact⟨E2,e1.trans f1,f2,rfl,fun F ob nx v=>⟨va,vb,rfl,e4 F ob nx (v.back f1 e2.lt),f4 F ob nx v⟩⟩
    |true=>
     obtain⟨v0,vb,va,rfl,ha,hmk,hb⟩:=hc;obtain⟨E1,e1,e2,e3,e4⟩:=iha ca m m1 u E false va h1 ok ha (by simp);obtain⟨E2,f1,f2,f3,f4⟩:=ihb cb m1 m' y E1 true vb h2 e2 (d_ e1.ev _ _ _ hb) (fun _=>by simpa[CS.caps] using hm rfl);exact⟨E2,e1.trans f1,f2,rfl,fun F ob nx v=>⟨v0,vb,va,rfl,e4 F ob nx (v.back f1 e2.lt),by rw[e3];exact hmk,f4 F ob nx v⟩⟩
   ·cases h
  ·cases h
 |agg a ih=>
  intro c m m' x E md vs h ok hc hm;cases md with
  |true=>simp[CS.caps] at hm
  |false=>
   cases c<;>(try simp only[bC] at h)<;>try (cases h;done)
   ·rename_i b d
    cases b with
    |some _=>simp[bC] at h
    |none=>
     simp only[bC] at h;split at h
     ·rename_i y hy
      have hrd:=hc.2.2 trivial;have hag:d.ty.isAgg=true:=by
       obtain⟨ty,v⟩:=d;cases ty<;>simp[gI] at hy<;>rfl
      have hex:=kT (ob:=m.ob) (nx:=m.nx) d.ty d.v vs hrd;rw[hy] at hex;obtain⟨E',e1,e2,e3,e4⟩:=ih y m m' x E false vs h ok hex (by simp);exact⟨E',e1,e2,hag.symm,fun F ob nx v=>e4 F ob nx v⟩
     ·cases h
   ·rename_i y
    obtain⟨E',e1,e2,e3,e4⟩:=ih y m m' x E false vs h ok hc (by simp);exact⟨E',e1,e2,rfl,fun F ob nx v=>e4 F ob nx v⟩
theorem qm{tmp:Bool}{tm:Array Value}{cs:CS}{c:Cn}{u:Ty}{m m':Mt}{x:cs.Den}{E:Env}{i j:Nat}(h:jT tmp m u cs c=some (x,m'))(ok:bB E m tm)
 (hs:aA m.sig j=some i) (hb:gU E m.ob m.nx i u c):
 ∃E',Ext E m E' m'∧bB E' m' tm∧∀F ob nx,Vw E' m' F nx→F.B j=E.B i→gU F ob nx j u (cs.cn x):=by
 unfold jT at h;split at h
 ·rename_i y m1 h1
  split at h
  ·rename_i hf
   cases h;obtain⟨g,vs,t,b1,b2,b3,b4,b5⟩:=hb;obtain⟨E',e1,e2,e3,e4⟩:=nk cs c m m' x E false vs h1 ok b3 (by simp);refine⟨E',e1,e2,fun F ob nx v hB=>⟨g,vs,t,?_,by rw[v.w,e1.w];exact b2,e4 F ob nx v,hf,by rw[hB];exact b5⟩⟩;rw[(v.af j i (e1.sig j i hs)).2,e1.af i (ok.lt j i hs),b1]
  ·cases h
 ·cases h
theorem nW{E:Env}{ob:Nat→Ob}{nx:Nat}:∀(u:Ty),∃cs,av E ob nx (dV u) false cs
 | .int k=>⟨[.int k 0],rfl,trivial,fun _=>rfl⟩
 | .bool=>⟨[.bool false],rfl,trivial,fun _=>rfl⟩
 | .str=>⟨[.string ⟨#[]⟩],rfl,trivial,fun _=>rfl⟩
 | .list _ _=>⟨_,rfl⟩
 | .nil=>⟨[],rfl⟩
 | .cons a b=>by
   obtain⟨c,hc⟩:=nW (E:=E) (ob:=ob) (nx:=nx) a;obtain⟨d,hd⟩:=nW (E:=E) (ob:=ob) (nx:=nx) b;exact⟨c++d,c,d,rfl,hc,hd⟩
 | .st a=>nW a
 | .ptr=>⟨[.pointer none],_,rfl,rfl⟩
theorem uA{tmp:Bool}{tm:Array Value}{o:OS}{m m':Mt}{x:o.Den}{E:Env}{i j:Nat}(h:dG tmp m o (m.ob i)=some (x,m'))(ok:bB E m tm)(hs:aA m.sig j=some i):
 ∃E',Ext E m E' m'∧bB E' m' tm∧∀F ob nx,Vw E' m' F nx→F.B j=E.B i→aJ F ob nx j (o.ob x):=by
 have ah:=ok.ob i;generalize mX:m.ob i=oi at h ah;cases o with
 |sl e t=>
  cases oi<;>(try simp only[dG] at h)<;>try (cases h;done)
  rename_i fz aj e' t' xs;cases fz<;>simp only[dG] at h<;>try (cases h;done)
  split at h
  ·rename_i y hy
   cases h;have:=cK hy;cases this;refine⟨E,Ext.refl _ _,ok,fun F ob nx v hB=> ?_⟩;show Ow F.w (.list e t) _ [F.af j] (F.B j);rw[hB,(v.af j i hs).2,v.w];exact ah
  ·cases h
 |sh e t=>
  cases oi<;>(try simp only[dG] at h)<;>try (cases h;done)
  rename_i fz aj e' t' xs;cases fz<;>(try simp only[dG] at h)<;>try (cases h;done)
  ·cases xs with
   |cons z zs=>simp only[dG] at h;cases h
   |nil=>
    simp only[dG] at h;split at h
    ·rename_i y hy
     cases h;have:=cK hy;cases this;refine⟨E,Ext.refl _ _,ok,fun F ob nx v hB=> ?_⟩;show kF F.w F.Z e t _ (F.af j) (F.B j);rw[hB,(v.af j i hs).2,v.w];obtain⟨v',f,nb,k1,k2,k3,k4⟩:=ah;have k1:E.af i=v':=by simpa using k1
     obtain⟨rfl,rfl⟩:=k3;rw[k1];exact⟨[],k2,rfl,by simpa using k4⟩
    ·cases h
  ·split at h
   ·rename_i y hy
    cases h;have:=cK hy;cases this;refine⟨E,Ext.refl _ _,ok,fun F ob nx v hB=> ?_⟩;show kF F.w F.Z e t _ (F.af j) (F.B j);rw[hB,(v.af j i hs).2,v.w];obtain⟨f,k2,k3,k4⟩:=ah;exact⟨f,k2,eO (aN v.z (fun _ _=>rfl) t) _ _ k3,k4⟩
   ·cases h
 |box u cs=>
  cases oi<;>(try simp only[dG] at h)<;>try (cases h;done)
  rename_i u' c;split at h
  ·rename_i hu
   obtain rfl:=of_decide_eq_true hu;obtain⟨E',e1,e2,e3⟩:=qm h ok hs ah;exact⟨E',e1,e2,e3⟩
  ·cases h
 |aZ u cs=>
  cases oi<;>(try simp only[dG] at h)<;>try (cases h;done)
  ·rename_i u' c
   split at h
   ·rename_i hu
    obtain rfl:=of_decide_eq_true hu;split at h
    ·rename_i y m1 h1
     cases h;obtain⟨E',e1,e2,e3⟩:=qm h1 ok hs ah;exact⟨E',e1,e2,e3⟩
    ·cases h
   ·cases h
  ·rename_i b u' c
   split at h
   ·cases b with
    |true=>cases h
    |false=>
     simp only at h;split at h
     ·rename_i y m1 h1
      cases h;obtain⟨cs0,hz⟩:=nW (E:=E) (ob:=m.ob) (nx:=m.nx) u;obtain⟨E',e1,e2,_,e4⟩:=nk cs _ m m' y E false cs0 h1 ok hz (by simp);exact⟨E',e1,e2,fun F ob nx v hB=>⟨by rw[(v.af j i (e1.sig j i hs)).2,e1.af i (ok.lt j i hs)];exact ah.1,by rw[hB];exact ah.2.1,cs0,e4 F ob nx v⟩⟩
     ·cases h
   ·split at h
    ·rename_i hu
     obtain rfl:=of_decide_eq_true hu;split at h
     ·rename_i y m1 h1
      cases h;cases b with
      |true=>
       obtain⟨E',e1,e2,e3⟩:=qm h1 ok hs ah;exact⟨E',e1,e2,e3⟩
      |false=>
       unfold jT at h1;split at h1
       ·rename_i y' qj h2
        split at h1
        ·cases h1
         obtain⟨cs0,hz⟩:=ah.2.2;obtain⟨E',e1,e2,_,e4⟩:=nk cs _ m m' y E false cs0 h2 ok hz (by simp);exact⟨E',e1,e2,fun F ob nx v hB=>⟨by rw[(v.af j i (e1.sig j i hs)).2,e1.af i (ok.lt j i hs)];exact ah.1,by rw[hB];exact ah.2.1,cs0,e4 F ob nx v⟩⟩
        ·cases h1
       ·cases h1
     ·cases h
    ·cases h
 |mp u kk=>
  cases oi<;>(try simp only[dG] at h)<;>try (cases h;done)
  rename_i u' iU l;split at h
  ·rename_i y hy
   cases h;have:=cK hy;cases this;refine⟨E,Ext.refl _ _,ok,fun F ob nx v hB=> ?_⟩;obtain⟨g,es,ck,h1,h2,h3,h4⟩:=(show l_ E i u kk _ from ah);exact⟨g,es,ck,by rw[(v.af j i hs).2];exact h1,by rw[v.w];exact h2,h3,by rw[hB];exact h4⟩
  ·cases h
theorem wE{E:Env}{ob:Nat→Ob}{nx:Nat}{c:Cn}{v:Value}(hd:c≠ .dead)(h:ak E ob nx c v):∃cs,av E ob nx c false cs∧mkV c.isAgg cs v:=dY h hd
theorem y5{tmp:Bool}{m:Mt}{cs:CS}{c:Cn}{r}(h:bC tmp m cs c=some r):c≠ .dead:=by
 intro e;subst e;cases cs<;>simp[bC,bH] at h
theorem uD{tmp:Bool}{tm:Array Value}{cs:CS}{c:Cn}{m m':Mt}{x:cs.Den}{E:Env}{v:Value}(h:bC tmp m cs c=some (x,m'))(ok:bB E m tm)
 (hv:ak E m.ob m.nx c v):∃E',Ext E m E' m'∧bB E' m' tm∧∀F ob nx,Vw E' m' F nx→ak F ob nx (cs.cn x) v:=by
 obtain⟨vs,h1,h2⟩:=wE (y5 h) hv;obtain⟨E',e1,e2,e3,e4⟩:=nk cs c m m' x E false vs h ok h1 (by simp);exact⟨E',e1,e2,fun F ob nx v=>iG vs (e4 F ob nx v) (by rw[e3];exact h2)⟩
theorem uC{tmp:Bool}{tm:Array Value}{sl:Nat→Cn}:∀(l:List (Nat×CS)) (m m':Mt) (x:eT l) (E:Env),nu tmp sl l m=some (x,m')→bB E m tm→
 (∀s,ak E m.ob m.nx (sl s) (tm.getD s undef))→
 ∃E',Ext E m E' m'∧bB E' m' tm∧∀F ob nx,Vw E' m' F nx→∀s,ak F ob nx (bY l x s) (tm.getD s undef)
 |[],m,m',x,E,h,ok,hv=>by
  cases h;exact⟨E,Ext.refl _ _,ok,fun F ob nx v s=>trivial⟩
 |[a],m,m',x,E,h,ok,hv=>by
  obtain⟨E',e1,e2,e3⟩:=uD (show bC tmp m a.2 (sl a.1)=some (x,m') from h) ok (hv a.1);refine⟨E',e1,e2,fun F ob nx v s=> ?_⟩;show ak F ob nx (upd (fun _=> .dead) a.1 (a.2.cn x) s) _;by_cases e:s=a.1
  ·subst e;rw[upd_same];exact e3 F ob nx v
  ·rw[aC _ _ _ _ e];trivial
 |a::b::r,m,m',x,E,h,ok,hv=>by
  simp only[nu] at h;split at h
  ·rename_i u m1 h1
   split at h
   ·rename_i y m2 h2
    cases h;obtain⟨E1,e1,e2,e3⟩:=uD h1 ok (hv a.1);obtain⟨E2,f1,f2,f3⟩:=uC (b::r) m1 m' y E1 h2 e2 (fun s=>eU e1.ev (hv s));refine⟨E2,e1.trans f1,f2,fun F ob nx v s=> ?_⟩;show ak F ob nx (upd (bY (b::r) y) a.1 (a.2.cn u) s) _;by_cases e:s=a.1
    ·subst e;rw[upd_same];exact e3 F ob nx (v.back f1 e2.lt)
    ·rw[aC _ _ _ _ e];exact f3 F ob nx v s
   ·cases h
  ·cases h
def keys{α:Type}(l:List (Nat×α)):List Nat:=l.map (·.1)
theorem y7{tmp:Bool}{m:Mt}{o:OS}{r}(h:dG tmp m o .dead=some r):False:=by
 cases o<;>simp[dG] at h
theorem vV{below tmp:Bool}{E:Env}{m m0 m1:Mt}{tm:Array Value}{i j:Nat}{o:OS}{u:o.Den}(h:tell below m j=some (i,m0))(ok:bB E m tm)(h2:dG tmp m0 o (m0.ob i)=some (u,m1)):
 Ext E m E m0∧bB E m0 tm∧aA m0.sig j=some i:=by
 unfold tell at h;split at h
 ·rename_i i' hs
  cases h;exact⟨Ext.refl _ _,ok,hs⟩
 ·rename_i hs
  split at h
  ·cases h
  ·cases h
   have hlt:i<m.nx:=by
    rcases Nat.lt_or_ge i m.nx with h|h
    ·exact h
    ·have hd:m.ob i= .dead:=ok.rep.lt i h
     have h2:dG tmp _ o (m.ob i)=_:=h2;rw[hd] at h2;exact(y7 h2).elim
   exact qM (m':={m with sig:=(i,i)::m.sig}) (by unfold Mt.put;rw[hs]) ok hlt
theorem uB{tmp below:Bool}{tm:Array Value}:∀(l:List (Nat×OS)) (m m':Mt) (x:gz l) (E:Env),lH tmp below l m=some (x,m')→bB E m tm→
 ∃E',Ext E m E' m'∧bB E' m' tm∧∀F ob nx,Vw E' m' F nx→(∀j i,aA m'.sig j=some i→F.B j=E'.B i)→∀j,(j∈keys l→aJ F ob nx j (bV l x j))∧(j∉keys l→bV l x j= .dead)
 |[],m,m',x,E,h,ok=>by
  cases h;exact⟨E,Ext.refl _ _,ok,fun F ob nx v hB j=>⟨fun h=>by simp[keys] at h,fun _=>rfl⟩⟩
 |[a],m,m',x,E,h,ok=>by
  simp only[lH] at h;split at h
  ·rename_i i m0 ht
   obtain⟨t1,t2,hi⟩:=vV ht ok h;obtain⟨E',e1,e2,e3⟩:=uA h t2 hi;refine⟨E',t1.trans e1,e2,fun F ob nx v hB j=> ?_⟩;show(_→aJ F ob nx j (upd (fun _=> .dead) a.1 (a.2.ob x) j))∧(_→upd (fun _=> .dead) a.1 (a.2.ob x) j= .dead);by_cases e:j=a.1
   ·subst e;rw[upd_same]
    exact⟨fun _=>e3 F ob nx v (by rw[hB _ _ (e1.sig _ _ hi),e1.B]),fun h=>absurd (by simp[keys]) h⟩
   ·rw[aC _ _ _ _ e]
    exact⟨fun h=>absurd (by simpa[keys] using h) e,fun _=>rfl⟩
  ·cases h
 |a::b::r,m,m',x,E,h,ok=>by
  simp only[lH] at h;split at h
  ·rename_i i m0 ht
   split at h
   ·rename_i u m1 h1
    split at h
    ·rename_i y m2 h2
     cases h;obtain⟨t1,t2,hi⟩:=vV ht ok h1;obtain⟨E1,e1,e2,e3⟩:=uA h1 t2 hi;obtain⟨E2,f1,f2,f3⟩:=uB (b::r) m1 m' y E1 h2 e2;refine⟨E2,t1.trans (e1.trans f1),f2,fun F ob nx v hB j=> ?_⟩;show(_→aJ F ob nx j (upd (bV (b::r) y) a.1 (a.2.ob u) j))∧(_→upd (bV (b::r) y) a.1 (a.2.ob u) j= .dead);by_cases e:j=a.1
     ·subst e;rw[upd_same]
      exact⟨fun _=>e3 F ob nx (v.back f1 e2.lt) (by rw[hB _ _ (f1.sig _ _ (e1.sig _ _ hi)),f1.B,e1.B]),fun h=>absurd (by simp[keys]) h⟩
     ·rw[aC _ _ _ _ e]
      have hk:j∈keys (a::b::r)↔j∈keys (b::r):=by simp[keys,e]
      rw[hk];exact f3 F ob nx v hB j
    ·cases h
   ·cases h
  ·cases h
theorem iL(n:Nat):∀l,bL n l=true↔n∈l
 |[]=>by simp[bL]
 |x::r=>by
  simp only[bL];cases e:Nat.beq n x with
  |true=>simp[Nat.eq_of_beq_eq_true e]
  |false=>
   have:n≠x:=fun h=>by subst h;simp at e
   simp[iL n r,this]
theorem qX{j i:Nat}:∀{s:List (Nat×Nat)},aA s j=some i→(j,i)∈s
 |[],h=>by cases h
 |x::r,h=>by
  obtain⟨a,b⟩:=x;rw[dH] at h;split at h
  ·rename_i e;cases h;subst e;exact List.mem_cons_self ..
  ·exact List.mem_cons_of_mem _ (qX h)
structure kG(ids fz:List Nat)(below:Bool)(s:List (Nat×Nat)):Prop where
 ids:∀j i,aA s j=some i→j∈ids
 fz:∀j i,aA s j=some i→i∉fz
 one:∀j j' i,aA s j=some i→aA s j'=some i→j=j'
 low:below=true→∀j i,aA s j=some i→j<100
 own:below=false→∀j i,aA s j=some i→j=i∨100≤j
theorem vM{ids fz:List Nat}{below:Bool}:∀s,nQ ids fz below s=true→kG ids fz below s∧(keys s).Nodup
 |[],_=>⟨⟨by simp[aA],by simp[aA],by simp[aA],by simp[aA],by simp[aA]⟩,List.nodup_nil⟩
 |x::r,h=>by
  obtain⟨a,b⟩:=x;simp only[nQ,Bool.and_eq_true,Bool.not_eq_true'] at h;obtain⟨h1,h2,h3,h4,h5,h6⟩:=h;obtain⟨k,kn⟩:=vM r h6;have h2:b∉fz:=fun e=>by rw[(iL b fz).2 e] at h2;cases h2
  have h3:b∉r.map (·.2):=fun e=>by rw[(iL b _).2 e] at h3;cases h3
  have h4:a∉r.map (·.1):=fun e=>by rw[(iL a _).2 e] at h4;cases h4
  have h1:=(iL a ids).1 h1;have snd:∀j i,aA r j=some i→i∈r.map (·.2):=fun j i e=>List.mem_map.2 ⟨_,qX e,rfl⟩;refine⟨⟨?_,?_,?_,?_,?_⟩,?_⟩
  ·intro j i e
   rw[dH] at e;split at e
   ·rename_i e';subst e';exact h1
   ·exact k.ids j i e
  ·intro j i e
   rw[dH] at e;split at e
   ·cases e;exact h2
   ·exact k.fz j i e
  ·intro j j' i e e'
   rw[dH] at e e';split at e<;>split at e'
   ·omega
   ·cases e;exact absurd (snd _ _ e') h3
   ·cases e';exact absurd (snd _ _ e) h3
   ·exact k.one j j' i e e'
  ·intro hb j i e
   rw[dH] at e;split at e
   ·rename_i e';subst e'
    simp only[hb] at h5;exact Nat.le_of_ble_eq_true h5
   ·exact k.low hb j i e
  ·intro hb j i e
   rw[dH] at e;split at e
   ·rename_i e';subst e'
    cases e;simp only[hb,Bool.or_eq_true] at h5;rcases h5 with h5|h5
    ·exact .inl (Nat.eq_of_beq_eq_true h5)
    ·exact .inr (Nat.le_of_ble_eq_true h5)
   ·exact k.own hb j i e
  ·show(a::keys r).Nodup
   exact List.nodup_cons.2 ⟨h4,kn⟩
def into(E:Env)(m:Mt):Env where
 w:=E.w
 Z:=fun b=>E.Z b∨∃i,i∈m.fz∧b∈E.B i
 af:=fun j=>match aA m.sig j with
  |some i=>E.af i
  |none=>E.af j
 B:=fun j=>match aA m.sig j with
  |some i=>E.B i
  |none=>[]
theorem yL{E:Env}{m:Mt}{ids:List Nat}{below:Bool}{nx:Nat}(k:kG ids m.fz below m.sig)(hn:∀j,j∈ids→j<nx)(hl:rZ m):Vw E m (into E m) nx where
 w:=rfl
 z:=fun b hb=> .inl hb
 fz:=fun i hi b hb=> .inr ⟨i,hi,hb⟩
 af:=fun j i e=>⟨hn j (k.ids j i e),by simp only[into,e]⟩
 lt:=hl
theorem uE:∀(l:List (Nat×OS)) (j:Nat),j∈keys l→j<bK l
 |[],_,h=>by simp[keys] at h
 |x::r,j,h=>by
  simp only[keys,List.map_cons,List.mem_cons] at h;show j<Nat.max (x.1+1) (bK r);rcases h with rfl|h
  ·exact Nat.lt_of_lt_of_le (Nat.lt_succ_self _) (Nat.le_max_left _ _)
  ·exact Nat.lt_of_lt_of_le (uE r j h) (Nat.le_max_right _ _)
theorem SS.zu(s:SS)(u:eT s.slots)(v:gz s.objs):s.pS (s.mk' u v)=u∧s.pO (s.mk' u v)=v:=by
 obtain⟨a,b⟩:=s;cases b with
 |nil=>exact⟨rfl,rfl⟩
 |cons x r=>exact⟨rfl,rfl⟩
theorem qo{tmp below:Bool}{s:SS}{st:St}{x:s.Den}{m:Mt}{E:Env}{tm:Array Value}(h:fU tmp below s st=some (x,m))(hr:aS E st tm):
 ∃E',Ext E ⟨[],[],st.ob,st.nx⟩ E' m∧bB E' m tm∧kG (keys s.objs) m.fz below m.sig∧(keys m.sig).Nodup∧aS (into E' m) (s.st x) tm:=by
 unfold fU at h;split at h
 ·rename_i u m1 h1
  split at h
  ·rename_i v m2 h2
   split at h
   ·rename_i h3
    cases h;have ok0:bB E ⟨[],[],st.ob,st.nx⟩ tm:=⟨⟨fun s=>trivial,hr.ob,hr.lt,hr.dj,hr.nd,hr.bb,hr.zb⟩,fun j i e=>by cases e⟩;obtain⟨E1,e1,e2,e3⟩:=uC s.slots _ m1 u E h1 ok0 hr.sl;obtain⟨E2,f1,f2,f3⟩:=uB s.objs m1 m v E1 h2 e2;obtain⟨k,kn⟩:=vM _ h3;have hnx:∀j,j∈keys s.objs→j<Nat.max 100 (bK s.objs):=fun j hj=>Nat.lt_of_lt_of_le (uE _ _ hj) (Nat.le_max_right _ _);have vw:=yL (E:=E2) k hnx f2.lt;have hB:∀j i,aA m.sig j=some i→(into E2 m).B j=E2.B i:=fun j i e=>by simp only[into,e]
    refine⟨E2,e1.trans f1,f2,k,kn,?_⟩;have pU:∀j b,b∈(into E2 m).B j→∃i,aA m.sig j=some i∧b∈E2.B i:=by
     intro j b hb;simp only[into] at hb;split at hb
     ·rename_i i hi;exact⟨i,hi,hb⟩
     ·simp at hb
    obtain⟨p1,p2⟩:=SS.zu s u v;have key:=f3 (into E2 m) (s.st (s.mk' u v)).ob (Nat.max 100 (bK s.objs)) vw hB;refine⟨fun sl=> ?_,fun j=> ?_,fun j hj=> ?_,?_,?_,?_,?_⟩
    ·show ak _ _ _ (bY s.slots (s.pS (s.mk' u v)) sl) _
     rw[p1];exact e3 _ _ _ (vw.back f1 e2.lt) sl
    ·show aJ _ _ _ j (bV s.objs (s.pO (s.mk' u v)) j)
     rw[p2];by_cases hj:j∈keys s.objs
     ·exact(key j).1 hj
     ·rw[(key j).2 hj]
      show(into E2 m).B j=[];simp only[into];split
      ·rename_i i hi;exact absurd (k.ids j i hi) hj
      ·rfl
    ·show bV s.objs (s.pO (s.mk' u v)) j=_
     rw[p2];refine(key j).2 fun hm=> ?_;have:=hnx j hm;have hj:Nat.max 100 (bK s.objs)≤j:=hj;omega
    ·intro i j b hij hi hj
     obtain⟨i',hi1,hi2⟩:=pU i b hi;obtain⟨j',hj1,hj2⟩:=pU j b hj;have:i'≠j':=fun e=>hij (by subst e;exact k.one i j _ hi1 hj1);exact f2.rep.dj i' j' b this hi2 hj2
    ·intro i
     simp only[into];split
     ·exact f2.rep.nd _
     ·exact List.nodup_nil
    ·intro j b hb
     obtain⟨i,hi1,hi2⟩:=pU j b hb;refine⟨(f2.rep.bb i b hi2).1,fun hz=> ?_⟩;rcases hz with hz|⟨i',h4,h5⟩
     ·exact(f2.rep.bb i b hi2).2 hz
     ·have:i≠i':=fun e=>k.fz j i hi1 (by rw[e];exact h4)
      exact f2.rep.dj i i' b this hi2 h5
    ·intro b hb
     rcases hb with hz|⟨i',h4,h5⟩
     ·exact f2.rep.zb b hz
     ·exact(f2.rep.bb i' b h5).1
   ·cases h
  ·cases h
 ·cases h
theorem o7{N:Nat}{E0 E:Env}{st:St}{a:Act}{s:SS}{x:s.Den}{m:Mt}(h:fU false false s st=some (x,m))(hi:Inv N E0 E st a):
 ∃E1,E1.w=E.w∧Inv N E0 E1 (s.st x) a:=by
 obtain⟨E',e1,e2,k,_,hr⟩:=qo h hi.rep;refine⟨into E' m,e1.w,hr,?_,hi.defers,hi.size,Nat.le_max_left _ _⟩
 refine hi.fr.trans ⟨by rw[show(into E' m).w=E.w from e1.w],by rw[show(into E' m).w=E.w from e1.w],by rw[show(into E' m).w=E.w from e1.w],by rw[show(into E' m).w=E.w from e1.w];exact Nat.le_refl _,
  fun b _ _=>by rw[show(into E' m).w=E.w from e1.w],?_,fun b hb=> .inl (by rw[e1.Z];exact hb),?_,?_⟩
 ·intro j b hb
  simp only[into] at hb;split at hb
  ·rename_i i hi'
   exact .inl ⟨i,by rw[←e1.B];exact hb⟩
  ·simp at hb
 ·intro b hb
  rcases hb with hb|⟨i,_,hb⟩
  ·exact .inl (by rw[←e1.Z];exact hb)
  ·exact .inr (.inl ⟨i,by rw[←e1.B];exact hb⟩)
 ·intro j hj
  have hlt:j<st.nx:=Nat.lt_of_lt_of_le hj hi.nx;show(match aA m.sig j with|some i=>E'.af i|none=>E'.af j)=_;split
  ·rename_i i hi'
   rcases k.own rfl j i hi' with rfl|h1
   ·exact e1.af j hlt
   ·omega
  ·exact e1.af j hlt
end Go.Am
end
section
namespace Go.Am
def gv(P:Program)(g:FuncId)(args:Array Value)(w:World)(R:Value→World→Prop):Prop:=
 match(callFunc g args).run P w with
 | .ok (.value v) w'=>R v w'
 | .ok (.enter f args') w'=>Calls P f args' w' fun
   | .returned v,w''=>R v w''
   |_,_=>False
 | .ok (.row row args') w'=>Rows P row args' w' R
 |_=>False
def mo:Nat→Array Value→Value→Prop
 |1,tm,v=>v=tm.getD 0 undef
 |n,tm,v=>∃vs:List Value,v= .tuple vs.toArray∧vs.length=n∧∀i,i<n→vs[i]?=some (tm.getD i undef)
def gu(P:Program)(g:FuncId)(c:dh):Prop:=
 ∀(E:Env) (args:Array Value) (x:c.bg.Den) (y:c.au.Den),args.size=c.nargs→c.F x=some y→aS E (c.bg.st x) args→
  gv P g args E.w fun v w'=>∃E' tm,E'.w=w'∧Fr E E'∧aS E' (c.au.st y) tm∧mo c.fD tm v
theorem gv.mono{P:Program}{g:FuncId}{args:Array Value}{w:World}{R R':Value→World→Prop}(h:gv P g args w R)(k:∀v w',R v w'→R' v w'):gv P g args w R':=by
 unfold gv at h⊢;split at h
 ·exact k _ _ h
 ·intro cs
  obtain⟨e,w',fr,r,s⟩:=h cs;refine⟨e,w',fr,?_,s⟩;cases e with
  |returned v=>exact k _ _ r
  |panicked _=>exact r
  |outgrown=>exact r
 ·exact Rows.mono h k
 ·exact h.elim
theorem Aj{P:Program}{o:Oper}{a:Act}{w:World}{K:Act→World→Prop}{Q:Exit→Act→World→Prop}{g:FuncId}{args:Array Value}{R:Value→World→Prop}
 (hrun:∀k:Next→World→Prop,∀r,(callFunc g args).run P w=r→(execOp a.eval o).run P w=r) (h:gv P g args w R) (hK:∀v w',R v w'→K (a.put o.dst v) w'):o.wp P a w K Q:=by
 unfold Oper.wp;rw[hrun (fun _ _=>True) _ rfl];have h:=h.mono hK;unfold gv at h;split at h
 ·rename_i he;rw[he];exact h
 ·rename_i he
  rw[he];intro cs;obtain⟨e,w',fr,r,s⟩:=h cs;refine⟨e,w',fr,?_,s⟩;cases e with
  |returned v=>exact r
  |panicked _=>exact r.elim
  |outgrown=>exact r.elim
 ·rename_i he;rw[he];exact h
 ·exact h.elim
theorem nY{E F:Env}{ob aG:Nat→Ob}{nx nx':Nat}{f:Nat→Nat}(hw:F.w=E.w)(hr:∀j,j<nx→F.af (f j)=E.af j∧f j<nx'):
 ∀(cs:CS) (x:cs.Den) (md:Bool) (vs:List Value),((∀b,E.Z b→F.Z b)∨cs.aR=true)→av E ob nx (cs.cn x) md vs→av F aG nx' (bG f (cs.cn x)) md vs:=by
 intro cs
 induction cs with
 |ro t=>
  intro x md vs hz h;have key:∀(G:Env) ob nx,av G ob nx (.ro none ⟨t,x⟩) md vs↔(vs.length=t.size∧True∧(True→Rd G.w G.Z t x vs)):=by intro G ob nx;cases md<;>exact Iff.rfl
  have h:=(key E ob nx).1 h;refine(key F aG nx').2 ⟨h.1,trivial,fun _=> ?_⟩;rcases hz with hz|hz
  ·exact aN hz (fun b _=>by rw[hw]) _ _ _ (h.2.2 trivial)
  ·exact fI t hz x vs (h.2.2 trivial)
 |h j=>
  intro x md vs hz h;have key:∀(G:Env) ob nx j,av G ob nx (.h j) md vs↔(j<nx∧(G.af j).oneCell'=true∧vs=[G.af j]):=by intro G ob nx j;cases md<;>exact Iff.rfl
  have h:=(key E ob nx j).1 h;exact(key F aG nx' (f j)).2 ⟨(hr j h.1).2,by rw[(hr j h.1).1];exact h.2.1,by rw[(hr j h.1).1];exact h.2.2⟩
 |p j=>
  intro x md vs hz h;have key:∀(G:Env) ob nx j,av G ob nx (.p j) md vs↔(j<nx∧(G.af j).oneCell'=true∧vs=[G.af j]):=by intro G ob nx j;cases md<;>exact Iff.rfl
  have h:=(key E ob nx j).1 h;exact(key F aG nx' (f j)).2 ⟨(hr j h.1).2,by rw[(hr j h.1).1];exact h.2.1,by rw[(hr j h.1).1];exact h.2.2⟩
 |aY t=>
  intro x md vs hz h;have key:∀(G:Env) ob nx,av G ob nx (.aY none ⟨t,x⟩) md vs↔(True∧∃ad,vs=[.pointer (some ad)]∧ad.spot=none∧(True→G.Z ad.block∧∃f,Rd G.w G.Z t x f∧gX G.w (some ad) f)):=by
   intro G ob nx;cases md<;>exact Iff.rfl
  obtain⟨_,ad,h1,h2,h3⟩:=(key E ob nx).1 h;rcases hz with hz|hz
  ·obtain⟨h4,g,h5,h6⟩:=h3 trivial
   exact(key F aG nx').2 ⟨trivial,ad,h1,h2,fun _=>⟨hz _ h4,g,aN hz (fun b _=>by rw[hw]) _ _ _ h5,by rw[hw];exact h6⟩⟩
  ·simp[CS.aR] at hz
 |any=>
  intro x md vs hz h;have h:∃v:Value,v.oneCell'=true∧vs=[v]:=by cases md<;>exact h
  cases md<;>exact h
 |fn g c ih=>
  intro x md vs hz h;have key:∀(G:Env) ob nx c,av G ob nx (.fn g c) md vs↔∃ws,vs=[.func (.func g) #[] ws.toArray]∧av G ob nx c true ws:=by intro G ob nx c;cases md<;>exact Iff.rfl
  obtain⟨ws,h1,h2⟩:=(key E ob nx _).1 h;exact(key F aG nx' _).2 ⟨ws,h1,ih x true ws (by simpa[CS.aR] using hz) h2⟩
 |nil=>intro x md vs hz h;cases md<;>exact h
 |cons a b iha ihb=>
  intro x md vs hz h;have hza:(∀b,E.Z b→F.Z b)∨a.aR=true:=hz.imp id (fun h=>by simp[CS.aR] at h;exact h.1);have hzb:(∀b,E.Z b→F.Z b)∨b.aR=true:=hz.imp id (fun h=>by simp[CS.aR] at h;exact h.2);cases md with
  |false=>
   obtain⟨c,d,h1,h2,h3⟩:=h;exact⟨c,d,h1,iha x.1 false c hza h2,ihb x.2 false d hzb h3⟩
  |true=>
   obtain⟨v,vs',c,h1,h2,h3,h4⟩:=h;refine⟨v,vs',c,h1,iha x.1 false c hza h2,?_,ihb x.2 true vs' hzb h4⟩;have:(bG f (a.cn x.1)).isAgg=(a.cn x.1).isAgg:=by cases a<;>rfl
   rw[this];exact h3
 |agg a ih=>
  intro x md vs hz h;have key:∀(G:Env) ob nx c,av G ob nx (.agg c) md vs↔av G ob nx c false vs:=by intro G ob nx c;cases md<;>exact Iff.rfl
  exact(key F aG nx' _).2 (ih x false vs (by simpa[CS.aR] using hz) ((key E ob nx _).1 h))
theorem zB(f:Nat→Nat)(c:Cn):(bG f c).isAgg=c.isAgg:=by cases c<;>rfl
theorem zA(f:Nat→Nat):∀(u:Ty) (c:Cn),fits u c=true→fits u (bG f c)=true:=by
 intro u
 induction u with
 |st a ih=>
  intro c h;cases c<;>simp only[fits] at h<;>try (cases h;done)
  exact ih _ h
 |cons a b iha ihb=>
  intro c h;cases c<;>simp only[fits] at h<;>try (cases h;done)
  simp only[Bool.and_eq_true] at h;simp only[bG,fits,Bool.and_eq_true];exact⟨iha _ h.1,ihb _ h.2⟩
 |_=>
  intro c h;cases c<;>first|exact h|(simp[fits] at h;done)|(simp only[bG];simpa[fits] using h)
theorem vO:∀(l:List (Nat×CS)) (x:eT l) (s:Nat),bY l x s= .dead∨∃cs y,(l.any fun z=>z.2==cs)=true∧cs∈l.map (·.2)∧bY l x s=CS.cn cs y
 |[],_,_=> .inl rfl
 |[a],x,s=>by
  show upd (fun _=> .dead) a.1 (a.2.cn x) s= .dead∨∃cs y,_∧_∧upd (fun _=> .dead) a.1 (a.2.cn x) s=_;by_cases e:s=a.1
  ·subst e;rw[upd_same];exact .inr ⟨a.2,x,by simp,by simp,rfl⟩
  ·rw[aC _ _ _ _ e];exact .inl rfl
 |a::b::r,x,s=>by
  show upd (bY (b::r) x.2) a.1 (a.2.cn x.1) s= .dead∨∃cs y,_∧_∧upd (bY (b::r) x.2) a.1 (a.2.cn x.1) s=_;by_cases e:s=a.1
  ·subst e;rw[upd_same];exact .inr ⟨a.2,x.1,by simp,by simp,rfl⟩
  ·rw[aC _ _ _ _ e]
   rcases vO (b::r) x.2 s with h|⟨cs,y,h0,h1,h2⟩
   ·exact .inl h
   ·exact .inr ⟨cs,y,by simp only[List.any_cons] at h0⊢;simp[h0],List.mem_cons_of_mem _ h1,h2⟩
theorem nH:∀(l:List (Nat×OS)) (x:gz l) (j:Nat),(j∉keys l∧bV l x j= .dead)∨∃os y,os∈l.map (·.2)∧dZ l j=some os∧bV l x j=OS.ob os y
 |[],_,_=> .inl ⟨by simp[keys],rfl⟩
 |[a],x,s=>by
  show(_∧upd (fun _=> .dead) a.1 (a.2.ob x) s= .dead)∨∃cs y,_∧_∧upd (fun _=> .dead) a.1 (a.2.ob x) s=_;by_cases e:s=a.1
  ·subst e;rw[upd_same];exact .inr ⟨a.2,x,by simp,by simp[dZ],rfl⟩
  ·rw[aC _ _ _ _ e];exact .inl ⟨by simpa[keys] using e,rfl⟩
 |a::b::r,x,s=>by
  show(_∧upd (bV (b::r) x.2) a.1 (a.2.ob x.1) s= .dead)∨∃cs y,_∧_∧upd (bV (b::r) x.2) a.1 (a.2.ob x.1) s=_;by_cases e:s=a.1
  ·subst e;rw[upd_same];exact .inr ⟨a.2,x.1,by simp,by simp[dZ],rfl⟩
  ·rw[aC _ _ _ _ e]
   have hne:Nat.beq a.1 s=false:=by
    cases h:Nat.beq a.1 s with
    |false=>rfl
    |true=>exact absurd (Nat.eq_of_beq_eq_true h).symm e
   rcases nH (b::r) x.2 s with⟨h0,h⟩|⟨cs,y,h1,h2,h3⟩
   ·exact .inl ⟨by simp only[keys,List.map_cons,List.mem_cons] at h0⊢;simp[e];simpa using h0,h⟩
   ·exact .inr ⟨cs,y,List.mem_cons_of_mem _ h1,by simp only[dZ,hne] at h2⊢;exact h2,h3⟩
theorem wF{E F:Env}{ob aG:Nat→Ob}{nx nx':Nat}{f:Nat→Nat}(hw:F.w=E.w)(hr:∀j,j<nx→F.af (f j)=E.af j∧f j<nx')
 (l:List (Nat×CS)) (x:eT l) (s:Nat) (v:Value) (hz:(∀b,E.Z b→F.Z b)∨(l.all fun z=>z.2.aR)=true) (h:ak E ob nx (bY l x s) v):ak F aG nx' (bG f (bY l x s)) v:=by
 rcases vO l x s with e|⟨cs,y,_,h1,e⟩
 ·rw[e];trivial
 ·rw[e] at h⊢
  obtain⟨vs,h2,h3⟩:=dY h (xm cs y);refine iG vs (nY hw hr cs y false vs (hz.imp id fun hz=> ?_) h2) (by rw[zB];exact h3);obtain⟨z,hz1,hz2⟩:=List.mem_map.1 h1;have:=List.all_eq_true.1 hz z hz1;rw[hz2] at this;exact this
theorem wz{E F:Env}{ob aG:Nat→Ob}{nx nx':Nat}{f:Nat→Nat}(hw:F.w=E.w)(hr:∀j,j<nx→F.af (f j)=E.af j∧f j<nx')
 (os:OS) (y:os.Den) (j i aj:Nat) (hi:F.af i=E.af j) (hB:F.B i=E.B j) (hz:(∀b,E.Z b→F.Z b)∨os.aR=true) (h:aJ E ob nx j (os.ob y)):aJ F aG nx' i (dS f aj (os.ob y)):=by
 have box:∀(u:Ty) (c:CS) (y:c.Den),((∀b,E.Z b→F.Z b)∨c.aR=true)→gU E ob nx j u (c.cn y)→gU F aG nx' i u (bG f (c.cn y)):=by
  intro u c y hz h;obtain⟨g,cs,t,h1,h2,h3,h4,h5⟩:=h;exact⟨g,cs,t,by rw[hi];exact h1,by rw[hw];exact h2,nY hw hr c y false cs hz h3,zA f u _ h4,by rw[hB];exact h5⟩
 cases os with
 |sl e t=>
  show Ow F.w (.list e t) y [F.af i] (F.B i);rw[hi,hB,hw];exact h
 |sh e t=>
  show kF F.w F.Z e t y (F.af i) (F.B i);rw[hi,hB,hw];obtain⟨f,h1,h2,h3⟩:=h;rcases hz with hz|hz
  ·exact⟨f,h1,eO (aN hz (fun _ _=>rfl) t) _ _ h2,h3⟩
  ·cases hz
 |box u c=>exact box u c y hz h
 |aZ u c=>
  obtain⟨b,y⟩:=y;cases b with
  |true=>exact box u c y hz h
  |false=>exact⟨by rw[hi];exact h.1,by rw[hB];exact h.2.1,h.2.2.imp fun cs hc=>nY hw hr c y false cs hz hc⟩
 |mp u kk=>
  obtain⟨g,es,ck,h1,h2,h3,h4⟩:=(show l_ E j u kk y from h);exact⟨g,es,ck,by rw[hi];exact h1,by rw[hw];exact h2,h3,by rw[hB];exact h4⟩
theorem yO(f:Nat→Nat)(v:Nat)(o:Ob):(dS f v o).lay=o.lay:=by cases o<;>rfl
theorem w9(f:Nat→Nat)(v:Nat)(o:Ob):(dS f v o).bn=o.bn:=by cases o<;>rfl
theorem iA{i j:Nat}:∀{s:List (Nat×Nat)},(keys s).Nodup→inv s i=some j→aA s j=some i
 |[],_,h=>by cases h
 |x::r,hn,h=>by
  obtain⟨a,b⟩:=x;have hn:a∉keys r∧(keys r).Nodup:=List.nodup_cons.1 hn;simp only[inv] at h;rw[dH];split at h
  ·rename_i hb
   cases h;rw[if_pos rfl,Nat.eq_of_beq_eq_true hb]
  ·have:=iA hn.2 h
   have hne:a≠j:=fun e=>hn.1 (by subst e;exact List.mem_map.2 ⟨_,qX this,rfl⟩);rw[if_neg hne];exact this
theorem lq{i:Nat}:∀{s:List (Nat×Nat)},inv s i=none→∀j,aA s j≠some i
 |[],_,_=>by simp[aA]
 |x::r,h,j=>by
  obtain⟨a,b⟩:=x;simp only[inv] at h;rw[dH];split at h
  ·cases h
  ·rename_i hb
   split
   ·intro e;cases e;simp at hb
   ·exact lq h j
end Go.Am
end
section
namespace Go.Am
def aI(ro:Bool)(E' E2:Env)(m:Mt):Env where
 w:=E2.w
 Z:=if ro then E'.Z else E2.Z
 af:=fun i=>if i<m.nx then E'.af i else E2.af (i-m.nx)
 B:=fun i=>if i<m.nx then(match inv m.sig i with
  |some j=>E2.B j
  |none=>if !ro&&bL i m.fz then[] else E'.B i)
  else(match aA m.sig (i-m.nx) with
   |some _=>[]
   |none=>E2.B (i-m.nx))
theorem mQ{iw:List (Nat×OS)}:∀{out:List (Nat×OS)} {j:Nat} {o o':OS},iY iw out=true→dZ iw j=some o→dZ out j=some o'→kindOk o o'=true
 |[],_,_,_,_,_,h=>by cases h
 |x::r,j,o,o',hk,hi,h=>by
  simp only[iY,Bool.and_eq_true] at hk;simp only[dZ] at h;split at h
  ·rename_i e
   cases h;obtain rfl:=Nat.eq_of_beq_eq_true e;rw[hi] at hk;exact hk.1
  ·exact mQ hk.2 hi h
theorem um{o o':OS}(h:kindOk o o'=true)(x:o.Den)(y:o'.Den):(o'.ob y).lay=(o.ob x).lay∧(o'.ob y).bn=(o.ob x).bn∧
 ∀fz v e t xs,o'.ob y= .sl fz v e t xs→∃aO,o.ob x= .sl .own 0 e t aO:=by
 cases o<;>cases o'<;>simp only[kindOk] at h<;>first|(cases h;done)|skip
 ·rename_i e t e' t'
  simp only[Bool.and_eq_true] at h;obtain rfl:=Nat.eq_of_beq_eq_true h.1;obtain rfl:=of_decide_eq_true h.2;refine⟨rfl,rfl,fun fz v e2 t2 xs he=> ?_⟩;simp only[OS.ob,Ob.sl.injEq] at he;obtain⟨-,-,rfl,rfl,_⟩:=he;exact⟨x,rfl⟩
 all_goals
  obtain rfl:=of_decide_eq_true h;exact⟨rfl,rfl,fun fz v e2 t2 xs he=>by simp[OS.ob] at he⟩
theorem zq{w w':World}{e e':TypeId}{s s' n n':Nat}{v:Value}{f f':List Value}(h:w.ownsRow 0 e s v n f)(h':w'.ownsRow 0 e' s' v n' f'):n=n':=by
 rcases h.2 with⟨rfl,rfl⟩|⟨g,cap,cur,rfl,_⟩<;>rcases h'.2 with⟨h1,rfl⟩|⟨g',cap',cur',h1,_⟩<;>first|rfl|(cases h1;rfl)|cases h1
section
variable{N:Nat}{E0 E E' E2:Env}{st:St}{a:Act}{m:Mt}{c:dh}{x:c.bg.Den}{y:c.au.Den}{tm args Af:Array Value}
theorem wG(hi:Inv N E0 E st a)(e:Ext E ⟨[],[],st.ob,st.nx⟩ E' m)(ok:bB E' m tm)(k:kG (keys c.bg.objs) m.fz true m.sig)(kn:(keys m.sig).Nodup)
 (hm:∀j i,aA m.sig j=some i→∃o y,dZ c.bg.objs j=some o∧(m.ob i).lay=(OS.ob o y).lay∧(m.ob i).bn=(OS.ob o y).bn∧∀(e:TypeId) (t:Ty) (aO:List t.Den),OS.ob o y= .sl .own 0 e t aO→∃v0 lX,m.ob i= .sl .own v0 e t lX)
 (hk:iY c.bg.objs c.au.objs=true) (f:Fr (into E' m) E2) (r2:aS E2 (c.au.st y) Af):
 Inv N E0 (aI c.au.aR E' E2 m) {sl:=st.sl,ob:=bu c m y,nx:=m.nx+Nat.max 100 (bK c.au.objs)} a∧
 ∀s v,ak E2 (c.au.st y).ob (c.au.st y).nx (bY c.au.slots (c.au.pS y) s) v→
  ak (aI c.au.aR E' E2 m) (bu c m y) (m.nx+Nat.max 100 (bK c.au.objs)) (bG (cO m) (bY c.au.slots (c.au.pS y) s)) v:=by
 generalize hro:c.au.aR=ro;have Aw:(into E' m).w=E'.w:=rfl;have IB:∀j i,aA m.sig j=some i→(into E' m).B j=E'.B i:=fun j i h=>by simp only[into,h]
 have kC:∀j b,b∈(into E' m).B j→∃i,aA m.sig j=some i∧b∈E'.B i:=by
  intro j b hb;simp only[into] at hb;split at hb
  ·rename_i i h;exact⟨i,h,hb⟩
  ·simp at hb
 have om:∀j i,aA m.sig j=some i→E2.af j=E'.af i:=fun j i h=>by
  rw[f.af j (k.low rfl j i h)];simp only[into,h]
 have Av:∀i b,b∈E2.B i→b<E2.w.heap.size∧¬E2.Z b:=fun i b hb=>r2.bb i b hb;have still:∀b,b<E'.w.heap.size→(∀j,b∉(into E' m).B j)→E2.w.heap[b]?=E'.w.heap[b]?:=fun b hb ho=>f.block b hb ho;have qw:∀i b,(∀j,aA m.sig j≠some i)→b∈E'.B i→∀j,b∉(into E' m).B j:=by
  intro i b hn hb j hj;obtain⟨i',h1,h2⟩:=kC j b hj;exact ok.rep.dj i i' b (fun e=>hn j (by rw[e];exact h1)) hb h2
 have kg:∀b,(into E' m).Z b→E2.w.heap[b]?=E'.w.heap[b]?:=by
  intro b hz;have hnot:∀j,b∉(into E' m).B j:=by
   intro j hj;obtain⟨i',h1,h2⟩:=kC j b hj;rcases hz with hz|⟨i,h3,h4⟩
   ·exact(ok.rep.bb i' b h2).2 hz
   ·exact ok.rep.dj i' i b (fun e=>k.fz j i' h1 (by rw[e];exact h3)) h2 h4
  refine still b ?_ hnot;rcases hz with hz|⟨i,h3,h4⟩
  ·exact ok.rep.zb b hz
  ·exact(ok.rep.bb i b h4).1
 have Z3:∀b,(aI ro E' E2 m).Z b→E2.Z b:=by
  intro b hb;simp only[aI] at hb;cases ro with
  |true=>simp only[if_true] at hb;exact f.z0 b (.inl hb)
  |false=>simpa using hb
 have oD:∀b,E'.Z b→(aI ro E' E2 m).Z b:=by
  intro b hb;simp only[aI];cases ro with
  |true=>simpa using hb
  |false=>simpa using f.z0 b (.inl hb)
 have vU:∀j,j<Nat.max 100 (bK c.au.objs)→(aI ro E' E2 m).af (cO m j)=E2.af j∧cO m j<m.nx+Nat.max 100 (bK c.au.objs):=by
  intro j hj;unfold cO;cases h:aA m.sig j with
  |some i=>
   have hlt:=ok.lt j i h;simp only;refine⟨?_,by omega⟩;simp only[aI,if_pos hlt];exact(om j i h).symm
  |none=>
   simp only;refine⟨?_,by omega⟩;simp only[aI,if_neg (show ¬m.nx+j<m.nx by omega),Nat.add_sub_cancel_left]
 have hz:(∀b,E2.Z b→(aI ro E' E2 m).Z b)∨c.au.aR=true:=by
  cases ro with
  |true=>exact .inr hro
  |false=>exact .inl fun b hb=>by simpa[aI] using hb
 have yE:(∀b,E2.Z b→(aI ro E' E2 m).Z b)∨(c.au.slots.all fun z=>z.2.aR)=true:=hz.imp id (fun h=>by simp only[SS.aR,Bool.and_eq_true] at h;exact h.1);have yD:∀os,os∈c.au.objs.map (·.2)→(∀b,E2.Z b→(aI ro E' E2 m).Z b)∨os.aR=true:=by
  intro os hos;refine hz.imp id (fun h=> ?_);simp only[SS.aR,Bool.and_eq_true] at h;obtain⟨z,hz1,hz2⟩:=List.mem_map.1 hos;have:=List.all_eq_true.1 h.2 z hz1;rw[hz2] at this;exact this
 have qC:∀i j,i<m.nx→inv m.sig i=some j→bu c m y i=dS (cO m) (nT (m.ob i)+1) (bV c.au.objs (c.au.pO y) j):=by
  intro i j h1 h2;unfold bu;rw[show Nat.blt i m.nx=true from Nat.ble_eq_true_of_le h1];simp only[h2]
 have qB:∀i,i<m.nx→inv m.sig i=none→(!ro&&bL i m.fz)=true→bu c m y i=fo (m.ob i):=by
  intro i h1 h2 h3;unfold bu;rw[show Nat.blt i m.nx=true from Nat.ble_eq_true_of_le h1];simp only[h2,hro,h3]
 have qD:∀i,i<m.nx→inv m.sig i=none→(!ro&&bL i m.fz)=false→bu c m y i=m.ob i:=by
  intro i h1 h2 h3;unfold bu;rw[show Nat.blt i m.nx=true from Nat.ble_eq_true_of_le h1];simp only[h2,hro,h3]
 have su:∀i,¬i<m.nx→Nat.blt i m.nx=false:=by
  intro i h;cases e:Nat.blt i m.nx with
  |false=>rfl
  |true=>exact absurd (Nat.le_of_ble_eq_true e) h
 have uO:∀i,¬i<m.nx→(∃q,aA m.sig (i-m.nx)=some q)→bu c m y i= .dead:=by
  intro i h1 ⟨q,h2⟩;unfold bu;rw[su i h1];simp only[h2]
 have jV:∀i,¬i<m.nx→aA m.sig (i-m.nx)=none→bu c m y i=dS (cO m) 0 (bV c.au.objs (c.au.pO y) (i-m.nx)):=by
  intro i h1 h2;unfold bu;rw[su i h1];simp only[h2]
 have BS:∀i j,i<m.nx→inv m.sig i=some j→(aI ro E' E2 m).B i=E2.B j:=fun i j h1 h2=>by simp only[aI,if_pos h1,h2]
 have BF:∀i,i<m.nx→inv m.sig i=none→(!ro&&bL i m.fz)=true→(aI ro E' E2 m).B i=[]:=fun i h1 h2 h3=>by simp only[aI,if_pos h1,h2,h3,if_true]
 have BU:∀i,i<m.nx→inv m.sig i=none→(!ro&&bL i m.fz)=false→(aI ro E' E2 m).B i=E'.B i:=fun i h1 h2 h3=>by simp only[aI,if_pos h1,h2,h3];rfl
 have BD:∀i,¬i<m.nx→(∃q,aA m.sig (i-m.nx)=some q)→(aI ro E' E2 m).B i=[]:=fun i h1 ⟨q,h2⟩=>by simp only[aI,if_neg h1,h2]
 have BN:∀i,¬i<m.nx→aA m.sig (i-m.nx)=none→(aI ro E' E2 m).B i=E2.B (i-m.nx):=fun i h1 h2=>by simp only[aI,if_neg h1,h2]
 have uP:∀j i aj,(aI ro E' E2 m).af i=E2.af j→(aI ro E' E2 m).B i=E2.B j→
  aJ (aI ro E' E2 m) (bu c m y) (m.nx+Nat.max 100 (bK c.au.objs)) i (dS (cO m) aj (bV c.au.objs (c.au.pO y) j)):=by
  intro j i aj h1 h2;have ho:aJ E2 (c.au.st y).ob (c.au.st y).nx j (bV c.au.objs (c.au.pO y) j):=r2.ob j;rcases nH c.au.objs (c.au.pO y) j with⟨_,h3⟩|⟨os,z,h3,_,h4⟩
  ·rw[h3] at ho⊢
   show(aI ro E' E2 m).B i=[];rw[h2];exact ho
  ·rw[h4] at ho⊢
   exact wz (E:=E2) (F:=aI ro E' E2 m) rfl vU os z j i aj h1 h2 (yD os h3) ho
 have lay:∀i,i<m.nx→(∀u,(bu c m y i).lay=some u→(m.ob i).lay=some u)∧((bu c m y i).bn=true→(m.ob i).bn=true):=by
  intro i hi';cases hv:inv m.sig i with
  |some j=>
   rw[qC i j hi' hv,yO,w9];have hs:=iA kn hv;obtain⟨o,z,h1,h2,h3,_⟩:=hm j i hs;rw[h2,h3];rcases nH c.au.objs (c.au.pO y) j with⟨_,h4⟩|⟨os,z',_,h5,h4⟩
   ·rw[h4];exact⟨fun u h=>by simp[Ob.lay] at h,fun h=>by simp[Ob.bn] at h⟩
   ·rw[h4]
    obtain⟨l1,l2,_⟩:=um (mQ hk h1 h5) z z';rw[l1,l2];exact⟨fun u h=>h,fun h=>h⟩
  |none=>
   cases hf:(!ro&&bL i m.fz) with
   |true=>
    rw[qB i hi' hv hf];cases m.ob i with
    |sl fz v e t xs=>cases fz<;>exact⟨fun u h=>by simpa[fo,Ob.lay] using h,fun h=>by simp[fo,Ob.bn] at h⟩
    |_=>exact⟨fun u h=>by simp[fo,Ob.lay] at h,fun h=>by simp[fo,Ob.bn] at h⟩
   |false=>
    rw[qD i hi' hv hf];exact⟨fun _ h=>h,fun h=>h⟩
 have tC:∀i,(!ro&&bL i m.fz)=true→ro=false∧i∈m.fz:=by
  intro i h;cases ro with
  |true=>simp at h
  |false=>exact⟨rfl,(iL i m.fz).1 (by simpa using h)⟩
 have ev:Ev E' m.ob m.nx (aI ro E' E2 m) (bu c m y) (m.nx+Nat.max 100 (bK c.au.objs)):=by
  refine⟨Nat.le_add_right _ _,fun i hi'=>by simp only[aI,if_pos hi'],oD,fun b hb=>kg b (.inl hb),fun i hi'=>(lay i hi').1,fun i hi'=>(lay i hi').2,?_⟩;intro i hi' fz v e t xs ho;cases hv:inv m.sig i with
  |some j=>
   rw[qC i j hi' hv] at ho;have hs:=iA kn hv;obtain⟨o,z,h1,h2,h3,h3'⟩:=hm j i hs;rcases nH c.au.objs (c.au.pO y) j with⟨_,h4⟩|⟨os,z',_,h5,h4⟩
   ·rw[h4] at ho;simp[dS] at ho
   ·have qN:aJ E2 (c.au.st y).ob (c.au.st y).nx j (bV c.au.objs (c.au.pO y) j):=r2.ob j
    rw[h4] at ho qN;cases hos:os.ob z' with
    |sl kV v2 e2 t2 dD=>
     rw[hos] at ho qN;simp only[dS,Ob.sl.injEq] at ho;obtain⟨rfl,rfl,rfl,rfl,hxs⟩:=ho;have hxs:=eq_of_heq hxs;subst hxs;obtain⟨aO,hx0⟩:=(um (mQ hk h1 h5) z z').2.2 _ _ _ _ _ hos;obtain⟨v0,lX,hx1⟩:=h3' _ _ aO hx0;have ah:=ok.rep.ob i;simp only[hx1] at ah;have hkk:=mQ hk h1 h5;have hfz:kV= .own:=by
      cases os with
      |sl e t=>simp only[OS.ob,Ob.sl.injEq] at hos;exact hos.1.symm
      |sh e t=>cases o<;>simp[kindOk] at hkk
      |box u c=>simp[OS.ob] at hos
      |aZ u c=>simp[OS.ob] at hos
      |mp u kk=>simp[OS.ob] at hos
     subst hfz;obtain⟨w1,f1,n1,a1,a2,_,_⟩:=ah;obtain⟨w2,f2,n2,b1,b2,_,_⟩:=qN;rw[om j i hs,a1] at b1;obtain rfl:w1=w2:=by simpa using b1
     refine⟨.own,v0,lX,hx1,zq a2 b2,by rw[hx1];simp[nT],fun e=> ?_⟩;rw[hx1] at e;simp[nT] at e
    |box u c=>rw[hos] at ho;simp[dS] at ho
    |aZ b u c=>rw[hos] at ho;simp[dS] at ho
    |mp u kk l=>rw[hos] at ho;simp[dS] at ho
    |dead=>rw[hos] at ho;simp[dS] at ho
  |none=>
   have hns:=lq hv;cases hf:(!ro&&bL i m.fz) with
   |true=>
    rw[qB i hi' hv hf] at ho;obtain⟨qa,hfz⟩:=tC i hf;cases hmo:m.ob i with
    |sl bI v0 e0 t0 aO=>
     rw[hmo] at ho;have ho:Ob.sl .aW v0 e0 t0 aO= .sl fz v e t xs:=by
      cases bI<;>simp only[fo] at ho<;>first|exact ho|cases ho
     simp only[Ob.sl.injEq] at ho;obtain⟨rfl,rfl,rfl,rfl,hxs⟩:=ho;have hxs:=eq_of_heq hxs;subst hxs;refine⟨bI,v0,_,rfl,rfl,Nat.le_refl _,fun _=>⟨rfl,fun b hb=> ?_⟩⟩;have hz':(into E' m).Z b:=by
      rcases hb with hb|hb
      ·exact .inr ⟨i,hfz,hb⟩
      ·exact .inl hb
     refine⟨kg b hz',.inr ?_⟩;simp only[aI,qa];exact f.z0 b hz'
    |box u c=>rw[hmo] at ho;simp[fo] at ho
    |aZ b u c=>rw[hmo] at ho;simp[fo] at ho
    |mp u kk l=>rw[hmo] at ho;simp[fo] at ho
    |dead=>rw[hmo] at ho;simp[fo] at ho
   |false=>
    rw[qD i hi' hv hf] at ho;refine⟨fz,v,xs,ho,rfl,Nat.le_refl _,fun _=>⟨rfl,fun b hb=> ?_⟩⟩;rcases hb with hb|hb
    ·exact⟨still b (ok.rep.bb i b hb).1 (qw i b hns hb),.inl (by rw[BU i hi' hv hf];exact hb)⟩
    ·exact⟨kg b (.inl hb),.inr (oD b hb)⟩
 have origin:∀i b,b∈(aI ro E' E2 m).B i→(b∈E'.B i∧i<m.nx∧inv m.sig i=none∧(!ro&&bL i m.fz)=false)∨(∃j,b∈E2.B j∧((i<m.nx∧inv m.sig i=some j)∨(¬i<m.nx∧j=i-m.nx∧aA m.sig j=none))):=by
  intro i b hb;by_cases h1:i<m.nx
  ·cases hv:inv m.sig i with
   |some j=>rw[BS i j h1 hv] at hb;exact .inr ⟨j,hb,.inl ⟨h1,rfl⟩⟩
   |none=>
    cases hf:(!ro&&bL i m.fz) with
    |true=>rw[BF i h1 hv hf] at hb;simp at hb
    |false=>rw[BU i h1 hv hf] at hb;exact .inl ⟨hb,h1,rfl,rfl⟩
  ·cases hs:aA m.sig (i-m.nx) with
   |some q=>rw[BD i h1 ⟨q,hs⟩] at hb;simp at hb
   |none=>rw[BN i h1 hs] at hb;exact .inr ⟨_,hb,.inr ⟨h1,rfl,hs⟩⟩
 have sO:∀j b,b∈E2.B j→(∃j' i,aA m.sig j'=some i∧b∈E'.B i)∨E'.w.heap.size≤b:=by
  intro j b hb;rcases f.own j b hb with⟨j',h1⟩|h1
  ·obtain⟨i,h2,h3⟩:=kC j' b h1
   exact .inl ⟨j',i,h2,h3⟩
  ·exact .inr h1
 have apart:∀i j b,b∈E'.B i→inv m.sig i=none→b∈E2.B j→False:=by
  intro i j b hb hv hj;rcases sO j b hj with⟨j',i',h1,h2⟩|h1
  ·exact ok.rep.dj i i' b (fun e=>lq hv j' (by rw[e];exact h1)) hb h2
  ·have:=(ok.rep.bb i b hb).1;omega
 constructor
 ·have yz:aS E' {sl:=st.sl,ob:=m.ob,nx:=m.nx} a.tmps:=
   ⟨fun s=>eU e.ev (hi.rep.sl s),ok.rep.ob,ok.rep.lt,ok.rep.dj,ok.rep.nd,ok.rep.bb,ok.rep.zb⟩
  refine⟨yz.turn rfl ev ?_ ?_ ?_ ?_ ?_ ?_,?_,hi.defers,hi.size,Nat.le_trans hi.nx (Nat.le_trans e.nx (Nat.le_add_right _ _))⟩
  ·intro i
   by_cases h1:i<m.nx
   ·cases hv:inv m.sig i with
    |some j=>
     show aJ _ _ _ i (bu c m y i);rw[qC i j h1 hv];refine uP j i _ ?_ (BS i j h1 hv);simp only[aI,if_pos h1];exact(om j i (iA kn hv)).symm
    |none=>
     have hns:=lq hv;cases hf:(!ro&&bL i m.fz) with
     |true=>
      show aJ _ _ _ i (bu c m y i);rw[qB i h1 hv hf];obtain⟨qa,hfz⟩:=tC i hf;have ah:=ok.rep.ob i;cases hmo:m.ob i with
      |sl bI v0 e0 t0 aO=>
       simp only[hmo] at ah;have z3:∀b,(into E' m).Z b→(aI ro E' E2 m).Z b:=fun b hb=>by simp only[aI,qa];exact f.z0 b hb
       have fin:Rd (aI ro E' E2 m).w (aI ro E' E2 m).Z (.list e0 t0) aO [E'.af i]→aJ (aI ro E' E2 m) (bu c m y) (m.nx+Nat.max 100 (bK c.au.objs)) i (.sl .aW v0 e0 t0 aO):=fun hrd=>by
        refine⟨?_,BF i h1 hv hf⟩;rw[show(aI ro E' E2 m).af i=E'.af i by simp only[aI,if_pos h1]];exact hrd
       cases bI with
       |own=>exact fin (aN (fun b hb=>z3 b (.inr ⟨i,hfz,hb⟩)) (fun b hb=>kg b (.inr ⟨i,hfz,hb⟩)) _ _ _ (dQ _ _ _ _ ah))
       |aW=>exact fin (aN (fun b hb=>z3 b (.inl hb)) (fun b hb=>kg b (.inl hb)) _ _ _ ah.1)
       |shl=>exact fin (aN (fun b hb=>z3 b (hb.elim (fun hb=> .inr ⟨i,hfz,hb⟩) .inl)) (fun b hb=>kg b (hb.elim (fun hb=> .inr ⟨i,hfz,hb⟩) .inl)) _ _ _ (mq ah))
       |hole _ _ _=>exact BF i h1 hv hf
      |box u c=>exact BF i h1 hv hf
      |aZ b u c=>exact BF i h1 hv hf
      |mp u kk l=>exact BF i h1 hv hf
      |dead=>exact BF i h1 hv hf
     |false=>
      show aJ _ _ _ i (bu c m y i);rw[qD i h1 hv hf];exact dP ev (by simp only[aI,if_pos h1]) (BU i h1 hv hf) (fun b hb=>still b (ok.rep.bb i b hb).1 (qw i b hns hb)) (ok.rep.ob i)
   ·cases hs:aA m.sig (i-m.nx) with
    |some q=>
     show aJ _ _ _ i (bu c m y i);rw[uO i h1 ⟨q,hs⟩];exact BD i h1 ⟨q,hs⟩
    |none=>
     show aJ _ _ _ i (bu c m y i);rw[jV i h1 hs];exact uP _ i _ (by simp only[aI,if_neg h1]) (BN i h1 hs)
  ·intro i hi'
   have hi':m.nx+Nat.max 100 (bK c.au.objs)≤i:=hi';have h1:¬i<m.nx:=by omega
   show bu c m y i= .dead;cases hs:aA m.sig (i-m.nx) with
   |some q=>exact uO i h1 ⟨q,hs⟩
   |none=>
    rw[jV i h1 hs];have:bV c.au.objs (c.au.pO y) (i-m.nx)= .dead:=r2.lt (i-m.nx) (by show Nat.max 100 (bK c.au.objs)≤_;omega);rw[this];rfl
  ·intro i i' b hne hb hb'
   rcases origin i b hb with⟨h1,_,h1v,_⟩|⟨j,h1,h2⟩<;>rcases origin i' b hb' with⟨h1',_,xZ,_⟩|⟨j',h1',h2'⟩
   ·exact ok.rep.dj i i' b hne h1 h1'
   ·exact apart i j' b h1 h1v h1'
   ·exact apart i' j b h1' xZ h1
   ·refine r2.dj j j' b ?_ h1 h1'
    intro xC;subst xC;rcases h2 with⟨h2,h3⟩|⟨h2,h3,h4⟩<;>rcases h2' with⟨h2',h3'⟩|⟨h2',h3',h4'⟩
    ·have p1:=iA kn h3
     have p2:=iA kn h3';rw[p1] at p2;exact hne (by simpa using p2)
    ·have p1:=iA kn h3
     rw[h4'] at p1;cases p1
    ·have p1:=iA kn h3'
     rw[h4] at p1;cases p1
    ·omega
  ·intro i
   by_cases h1:i<m.nx
   ·cases hv:inv m.sig i with
    |some j=>rw[BS i j h1 hv];exact r2.nd j
    |none=>
     cases hf:(!ro&&bL i m.fz) with
     |true=>rw[BF i h1 hv hf];exact List.nodup_nil
     |false=>rw[BU i h1 hv hf];exact ok.rep.nd i
   ·cases hs:aA m.sig (i-m.nx) with
    |some q=>rw[BD i h1 ⟨q,hs⟩];exact List.nodup_nil
    |none=>rw[BN i h1 hs];exact r2.nd _
  ·intro i b hb
   rcases origin i b hb with⟨h1,h2,h3,h4⟩|⟨j,h1,_⟩
   ·obtain⟨p1,p2⟩:=ok.rep.bb i b h1
    refine⟨Nat.lt_of_lt_of_le p1 f.size,fun hz3=> ?_⟩;cases ro with
    |true=>simp only[aI,if_true] at hz3;exact p2 hz3
    |false=>
     have hz3:E2.Z b:=by simpa[aI] using hz3
     rcases f.z1 b hz3 with hz|⟨j,hj⟩|hz
     ·rcases hz with hz|⟨i',h5,h6⟩
      ·exact p2 hz
      ·have:i≠i':=fun e=>by
        subst e;simp only[Bool.not_false,Bool.true_and] at h4;rw[(iL i m.fz).2 h5] at h4;cases h4
       exact ok.rep.dj i i' b this h1 h6
     ·exact qw i b (lq h3) h1 j hj
     ·have:E'.w.heap.size≤b:=hz
      omega
   ·exact⟨(r2.bb j b h1).1,fun hz3=>(r2.bb j b h1).2 (Z3 b hz3)⟩
  ·intro b hb
   exact r2.zb b (Z3 b hb)
  ·have hE:Fr E E':=⟨by rw[e.w],by rw[e.w],by rw[e.w],by rw[e.w];exact Nat.le_refl _,fun _ _ _=>by rw[e.w],fun i b hb=> .inl ⟨i,by rw[←e.B];exact hb⟩,fun b hb=>by rw[e.Z];exact hb,
    fun b hb=> .inl (by rw[←e.Z];exact hb),fun i hi'=>e.af i (Nat.lt_of_lt_of_le hi' hi.nx)⟩
   refine(hi.fr.trans hE).trans ⟨f.os,f.tape,f.output,f.size,?_,?_,oD,?_,?_⟩
   ·intro b hb ho
    refine still b hb fun j hj=> ?_;obtain⟨i,_,h2⟩:=kC j b hj;exact ho i h2
   ·intro i b hb
    rcases origin i b hb with⟨h1,_⟩|⟨j,h1,_⟩
    ·exact .inl ⟨i,h1⟩
    ·rcases sO j b h1 with⟨_,i',_,h2⟩|h2
     ·exact .inl ⟨i',h2⟩
     ·exact .inr h2
   ·intro b hb
    cases ro with
    |true=>simp only[aI,if_true] at hb;exact .inl hb
    |false=>
     have hb:E2.Z b:=by simpa[aI] using hb
     rcases f.z1 b hb with hz|⟨j,hj⟩|hz
     ·rcases hz with hz|⟨i',_,h6⟩
      ·exact .inl hz
      ·exact .inr (.inl ⟨i',h6⟩)
     ·obtain⟨i,_,h2⟩:=kC j b hj
      exact .inr (.inl ⟨i,h2⟩)
     ·exact .inr (.inr hz)
   ·intro i hi'
    have:i<m.nx:=Nat.lt_of_lt_of_le hi' (Nat.le_trans hi.nx e.nx);simp only[aI,if_pos this]
 ·intro s v hv
  exact wF (E:=E2) (F:=aI ro E' E2 m) rfl vU _ _ s v yE hv
end
end Go.Am
end
section
namespace Go.Am
def fZ(E:Env)(nx i:Nat)(p b q:List Nat)(cv:Value):Env:=⟨E.w,E.Z,upd E.af nx cv,upd (upd E.B i (p++q)) nx b⟩
theorem zP{g:(t:Ty)→t.Den→Option t.Den}:∀(a:Ty) (n:Nat) (x y:a.Den) (o:Nat) (u:Ty),dU g a n x=some y→a.at n=some (o,u)→∃z z',g u z=some z':=by
 intro a
 induction a with
 |cons a b _ ihb=>
  intro n x y o u hg ha;cases n with
  |zero=>
   simp only[Ty.at,Option.some.injEq,Prod.mk.injEq] at ha;obtain⟨_,rfl⟩:=ha;simp only[dU] at hg;split at hg
   ·rename_i z hz;exact⟨_,z,hz⟩
   ·cases hg
  |succ n=>
   simp only[Ty.at] at ha;split at ha
   ·rename_i o' v' hb
    simp only[Option.some.injEq,Prod.mk.injEq] at ha;obtain⟨_,rfl⟩:=ha;simp only[dU] at hg;split at hg
    ·rename_i z hz;exact ihb n x.2 z o' v' hz hb
    ·cases hg
   ·cases ha
 |_=>intro n x y o u hg ha;simp[Ty.at] at ha
theorem vK:∀(path:List Nat) (d:DV) (t:Ty) (x y:t.Den) (off:Nat) (v:Ty),bO d path t x=some y→t.aM path=some (off,v)→v=d.ty
 |[],d,t,x,y,off,v,hs,ho=>by
  have:=cK (show bz t d=some y from hs);simp only[Ty.aM,Option.some.injEq,Prod.mk.injEq] at ho;rw[this,←ho.2]
 |f::r,d,t,x,y,off,v,hs,ho=>by
  simp only[Ty.aM] at ho;split at ho
  ·rename_i o1 u1 k1
   split at ho
   ·rename_i o2 u2 k2
    simp only[Option.some.injEq,Prod.mk.injEq] at ho;obtain⟨_,rfl⟩:=ho;cases t with
    |st ft=>
     obtain⟨z,z',hz⟩:=zP (g:=bO d r) ft f x y o1 u1 hs k1;exact vK r d u1 z z' o2 u2 hz k2
    |_=>simp[Ty.dK] at k1
   ·cases ho
  ·cases ho
theorem uS{N:Nat}{E0 E:Env}{st st':St}{a:Act}{i aj:Nat}{ix:Int}{path:List Nat}{e':TypeId}{u:Ty}{ys:List u.Den}{cv:Value}(ho:nJ st i ix path aj e' u ys=some st')(h:Inv N E0 E st a)(hi:i<st.nx)(h0:0≤ix)
 (hsub:∀fz e t xs,st.ob i= .sl fz aj e t xs→kH E i t xs ix path ⟨.list e' u,ys⟩ [cv]):
 ∃E',E'.w=E.w∧Inv N E0 E' st' a∧Ev E st.ob st.nx E' st'.ob st'.nx∧st'.sl=st.sl∧st'.nx=st.nx+1∧E'.af st.nx=cv∧cv.oneCell'=true:=by
 unfold nJ at ho;split at ho
 ·rename_i fz v e t xs ah
  split at ho
  ·split at ho
   ·rename_i hb
    obtain rfl:=Nat.eq_of_beq_eq_true hb;simp only[Option.some.injEq] at ho;subst ho;obtain⟨x,g,off,s1,s2,s3,s4,s5,s6⟩:=hsub _ _ _ _ ah;have hr:=h.rep.ob i;rw[ah] at hr;obtain⟨p,b,q,c,l1,l2,l3⟩:=rU hr (h.rep.nd i) s1 s2 s3;obtain⟨v2,f2,fB,rfl,l4⟩:=(show ∃v2 f2 fB,c=[v2]∧_ from l2);have hcv:v2=cv:=by
     obtain⟨g',cap,cur,x',off',q1,q2,q3,q4,q5,q6,q7,_⟩:=l3;rw[s3] at q4;simp only[Option.some.injEq,Prod.mk.injEq] at q4;obtain⟨rfl,_⟩:=q4;have:g'=g:=by rw[q1] at s4;simpa[bR] using s4
     subst this;have e1:=s6 0 cv rfl;rw[cell_of_row E.w g' _ cur e (0,0) q2] at e1;have e2:=q7 0 v2 rfl;rw[e2] at e1;exact Option.some.inj e1
    subst hcv;have hnd:=h.rep.nd i;rw[l1,List.nodup_append,List.nodup_append] at hnd;have hpq:∀b',b'∈p++q→b'∈E.B i:=fun b' hb'=>by
     rw[l1];rcases List.mem_append.1 hb' with hb'|hb'
     ·simp[hb']
     ·simp[hb']
    have mV:∀b',b'∈b→b'∈E.B i:=fun b' hb'=>by rw[l1];simp[hb']
    have g_:∀b',b'∈p++q→b'∉b:=fun b' hb' hb2=>by
     rcases List.mem_append.1 hb' with hb'|hb'
     ·exact hnd.1.2.2 b' hb' b' hb2 rfl
     ·exact hnd.2.2 b' (List.mem_append.2 (.inr hb2)) b' hb' rfl
    have hone:v2.oneCell'=true:=kE _ _ _ _ l2 v2 (by simp);have hne:i≠st.nx:=by omega
    have jV:(upd (upd st.ob i (.sl (.hole ix path st.nx) (v+1) e t xs)) st.nx (.sl .own 0 e' u ys)) st.nx= .sl .own 0 e' u ys:=upd_same _ _ _;have bF:(upd (upd st.ob i (.sl (.hole ix path st.nx) (v+1) e t xs)) st.nx (.sl .own 0 e' u ys)) i= .sl (.hole ix path st.nx) (v+1) e t xs:=by rw[aC _ _ _ _ hne,upd_same]
    have aX:∀j,j≠i→j≠st.nx→(upd (upd st.ob i (.sl (.hole ix path st.nx) (v+1) e t xs)) st.nx (.sl .own 0 e' u ys)) j=st.ob j:=fun j h1 h2=>by rw[aC _ _ _ _ h2,aC _ _ _ _ h1]
    have BN:(fZ E st.nx i p b q v2).B st.nx=b:=upd_same _ _ _;have BI:(fZ E st.nx i p b q v2).B i=p++q:=by show upd (upd E.B i (p++q)) st.nx b i=_;rw[aC _ _ _ _ hne,upd_same]
    have BO:∀j,j≠i→j≠st.nx→(fZ E st.nx i p b q v2).B j=E.B j:=fun j h1 h2=>by show upd (upd E.B i (p++q)) st.nx b j=_;rw[aC _ _ _ _ h2,aC _ _ _ _ h1]
    have iB:∀j,j<st.nx→(fZ E st.nx i p b q v2).af j=E.af j:=fun j hj=>aC _ _ _ _ (by omega);have jd:(fZ E st.nx i p b q v2).af st.nx=v2:=upd_same _ _ _;have from_:∀j b',b'∈(fZ E st.nx i p b q v2).B j→(j=st.nx∧b'∈b)∨(j=i∧b'∈p++q)∨(j≠i∧j≠st.nx∧b'∈E.B j):=by
     intro j b' hb';by_cases h1:j=st.nx
     ·subst h1;rw[BN] at hb';exact .inl ⟨rfl,hb'⟩
     ·by_cases h2:j=i
      ·subst h2;rw[BI] at hb';exact .inr (.inl ⟨rfl,hb'⟩)
      ·rw[BO j h2 h1] at hb';exact .inr (.inr ⟨h2,h1,hb'⟩)
    have hev:∀j,j<st.nx→∀fz v' e2 t2 dD,(upd (upd st.ob i (.sl (.hole ix path st.nx) (v+1) e t xs)) st.nx (.sl .own 0 e' u ys)) j= .sl fz v' e2 t2 dD→
     ∃bI v0 aO,st.ob j= .sl bI v0 e2 t2 aO∧aO.length=dD.length∧v0≤v'∧(v0=v'→aO=dD∧∀b',b'∈E.B j→E.w.heap[b']?=E.w.heap[b']?∧b'∈(fZ E st.nx i p b q v2).B j):=by
     intro j hj fz v' e2 t2 dD hoj;by_cases h2:j=i
     ·subst h2
      rw[bF] at hoj;cases hoj;exact⟨_,_,_,ah,rfl,Nat.le_succ _,fun e=>by omega⟩
     ·rw[aX j h2 (by omega)] at hoj
      exact⟨fz,v',dD,hoj,rfl,Nat.le_refl _,fun _=>⟨rfl,fun b' hb'=>⟨rfl,by rw[BO j h2 (by omega)];exact hb'⟩⟩⟩
    have jL:∀j,j<st.nx→(∀w,((upd (upd st.ob i (.sl (.hole ix path st.nx) (v+1) e t xs)) st.nx (.sl .own 0 e' u ys)) j).lay=some w→(st.ob j).lay=some w)∧
     (((upd (upd st.ob i (.sl (.hole ix path st.nx) (v+1) e t xs)) st.nx (.sl .own 0 e' u ys)) j).bn=true→(st.ob j).bn=true):=by
     intro j hj;by_cases h2:j=i
     ·subst h2
      rw[bF,ah];exact⟨fun w hw=>hw,fun hw=>by cases hw⟩
     ·rw[aX j h2 (by omega)]
      exact⟨fun _ h=>h,fun h=>h⟩
    have x8:Ev E st.ob st.nx (fZ E st.nx i p b q v2) (upd (upd st.ob i (.sl (.hole ix path st.nx) (v+1) e t xs)) st.nx (.sl .own 0 e' u ys)) (st.nx+1):=
     ⟨Nat.le_succ _,iB,fun _ h=>h,fun _ _=>rfl,fun j hj=>(jL j hj).1,fun j hj=>(jL j hj).2,fun j hj fz v' e2 t2 dD hoj=>by
      obtain⟨bI,v0,aO,k0,k1,k2,k3⟩:=hev j hj fz v' e2 t2 dD hoj;exact⟨bI,v0,aO,k0,k1,k2,fun e=>⟨(k3 e).1,fun b' hb'=>⟨rfl,hb'.imp (fun hb'=>((k3 e).2 b' hb').2) id⟩⟩⟩⟩
    refine⟨fZ E st.nx i p b q v2,rfl,h.gen rfl ⟨rfl,rfl,rfl,Nat.le_refl _,fun _ _ _=>rfl⟩ rfl (Nat.le_succ _) iB hev jL ?_ ?_ ?_ ?_ ?_,x8,rfl,rfl,jd,hone⟩
    ·intro ev j
     by_cases h1:j=st.nx
     ·subst h1
      show aJ _ _ _ _ ((upd (upd st.ob i (.sl (.hole ix path st.nx) (v+1) e t xs)) st.nx (.sl .own 0 e' u ys)) st.nx);rw[jV];show Ow _ _ _ _ _;rw[jd,BN];exact l2
     ·by_cases h2:j=i
      ·subst h2
       show aJ _ _ _ _ ((upd (upd st.ob j (.sl (.hole ix path st.nx) (v+1) e t xs)) st.nx (.sl .own 0 e' u ys)) j);rw[bF];refine⟨Nat.lt_succ_self _,p,q,e',u,BI,h0,?_⟩;rw[jd,iB j hi];exact l3
      ·show aJ _ _ _ _ ((upd (upd st.ob i (.sl (.hole ix path st.nx) (v+1) e t xs)) st.nx (.sl .own 0 e' u ys)) j)
       rw[aX j h2 h1];by_cases h3:j<st.nx
       ·exact dP ev (iB j h3) (BO j h2 h1) (fun _ _=>rfl) (h.rep.ob j)
       ·have hd:=h.rep.lt j (by omega)
        have hb:=h.rep.ob j;rw[hd] at hb⊢;show(fZ E st.nx i p b q v2).B j=[];rw[BO j h2 h1];exact hb
    ·intro j hj
     have hj:st.nx+1≤j:=hj;show(upd (upd st.ob i (.sl (.hole ix path st.nx) (v+1) e t xs)) st.nx (.sl .own 0 e' u ys)) j=_;rw[aX j (by omega) (by omega)];exact h.rep.lt j (by omega)
    ·intro i1 j b' hij hb1 hb2
     rcases from_ i1 b' hb1 with⟨rfl,h1⟩|⟨rfl,h1⟩|⟨h1,h2,h3⟩<;>rcases from_ j b' hb2 with⟨rfl,g1⟩|⟨rfl,g1⟩|⟨g1,g2,g3⟩
     ·exact hij rfl
     ·exact g_ b' g1 h1
     ·exact h.rep.dj _ _ b' (fun e=>g1 e.symm) (mV b' h1) g3
     ·exact g_ b' h1 g1
     ·exact hij rfl
     ·exact h.rep.dj _ _ b' (fun e=>g1 e.symm) (hpq b' h1) g3
     ·exact h.rep.dj _ _ b' h1 h3 (mV b' g1)
     ·exact h.rep.dj _ _ b' h1 h3 (hpq b' g1)
     ·exact h.rep.dj _ _ b' hij h3 g3
    ·intro j
     by_cases h1:j=st.nx
     ·subst h1;rw[BN];exact hnd.1.2.1
     ·by_cases h2:j=i
      ·subst h2
       rw[BI,List.nodup_append];exact⟨hnd.1.1,hnd.2.1,fun b1 hb1 b2 hb2=>hnd.2.2 b1 (List.mem_append.2 (.inl hb1)) b2 hb2⟩
      ·rw[BO j h2 h1];exact h.rep.nd j
    ·intro j b' hb'
     rcases from_ j b' hb' with⟨rfl,h1⟩|⟨rfl,h1⟩|⟨h1,h2,h3⟩
     ·exact⟨.inl ⟨i,mV b' h1⟩,(h.rep.bb i b' (mV b' h1)).1⟩
     ·exact⟨.inl ⟨_,hpq b' h1⟩,(h.rep.bb _ b' (hpq b' h1)).1⟩
     ·exact⟨.inl ⟨j,h3⟩,(h.rep.bb j b' h3).1⟩
   ·cases ho
  ·cases ho
 ·cases ho
theorem zV{cur:Array Value}{o:Nat}{v:Value}(h:cur[o]?=some v):(splice cur.toList o [v]).toArray=cur:=by
 have hlt:=(Array.getElem?_eq_some_iff.1 h).1;have hv:=(Array.getElem?_eq_some_iff.1 h).2;apply Array.ext';simp only[splice,List.length_singleton];have h1:cur.toList.drop o=v::cur.toList.drop (o+1):=by
  rw[List.drop_eq_getElem_cons (by simpa using hlt)]
  congr 1
 rw[List.append_assoc,List.singleton_append,←h1,List.take_append_drop]
theorem xk{N:Nat}{R:Type}{E0 E:Env}{st:St}{a:Act}{d:Option Nat}{i:Nat}{k:St→Option R}{r:R}(hk:iJ d i st k=some r)(h:Inv N E0 E st a):
 ∃st' E',k st'=some r∧Inv N E0 E' st' a∧E'.w=E.w:=by
 unfold iJ at hk;split at hk
 ·rename_i ix path m aj e t xs ah
  split at hk
  ·rename_i AL e' u ys p8
   split at hk
   ·exact⟨st,E,hk,h,rfl⟩
   ·obtain⟨x,hx1,hk2⟩:=Option.bind_eq_some_iff.1 hk
    clear hk;obtain⟨h0,_,h2,_⟩:=iZ hx1;split at hk2
    ·rename_i y hy
     have hr:=h.rep.ob i;rw[ah] at hr;obtain⟨hm,p,q,e2,u2,l1,_,l3⟩:=hr;obtain⟨g,cap,cur,x0,off,q1,q2,q3,q4,q5,q6,q7,q8⟩:=l3;rw[h2] at q3;obtain rfl:=Option.some.inj q3;have hty:=vK path _ t x y off _ hy q4;simp only[Ty.list.injEq] at hty;obtain⟨rfl,rfl⟩:=hty;have hrm:=h.rep.ob m;rw[p8] at hrm;have hrm:Ow E.w (.list e2 u2) ys [E.af m] (E.B m):=hrm;have mX:m≠i:=fun e=>by subst e;rw[ah] at p8;cases p8
     have hil:i<st.nx:=by
      rcases Nat.lt_or_ge i st.nx with hh|hh
      ·exact hh
      ·rw[h.rep.lt i hh] at ah;cases ah
     have hcell:=q7 0 (E.af m) rfl;obtain⟨x',m1,m2⟩:=q8 E.w ys [E.af m] (E.B m) (by rw[q2];congr 2;exact(zV hcell).symm) (fun _ _ _=>rfl) hrm;rw[hy] at m1;obtain rfl:=Option.some.inj m1;have hpq:∀b',b'∈p++q→b'∈E.B i:=fun b' hb'=>by rw[l1];exact hb'
     have hnd:=h.rep.nd i;rw[l1] at hnd;have g_:∀b',b'∈p++q→b'∉E.B m:=fun b' hb' hb2=>h.rep.dj m i b' mX hb2 (hpq b' hb')
     let E':Env:=⟨E.w,E.Z,E.af,upd (upd E.B m []) i (p++E.B m++q)⟩
     have bF:(upd (upd st.ob m .dead) i (.sl .own (aj+1) e t (xs.set ix.toNat y))) i= .sl .own (aj+1) e t (xs.set ix.toNat y):=upd_same _ _ _;have nG:(upd (upd st.ob m .dead) i (.sl .own (aj+1) e t (xs.set ix.toNat y))) m= .dead:=by rw[aC _ _ _ _ mX,upd_same]
     have aX:∀j,j≠i→j≠m→(upd (upd st.ob m .dead) i (.sl .own (aj+1) e t (xs.set ix.toNat y))) j=st.ob j:=fun j h1 h2=>by rw[aC _ _ _ _ h1,aC _ _ _ _ h2]
     have BI:E'.B i=p++E.B m++q:=upd_same _ _ _;have BM:E'.B m=[]:=by show upd (upd E.B m []) i _ m=_;rw[aC _ _ _ _ mX,upd_same]
     have BO:∀j,j≠i→j≠m→E'.B j=E.B j:=fun j h1 h2=>by show upd (upd E.B m []) i _ j=_;rw[aC _ _ _ _ h1,aC _ _ _ _ h2]
     have from_:∀j b',b'∈E'.B j→(j=i∧(b'∈p++q∨b'∈E.B m))∨(j≠i∧j≠m∧b'∈E.B j):=by
      intro j b' hb';by_cases h1:j=i
      ·subst h1
       rw[BI] at hb';refine .inl ⟨rfl,?_⟩;rcases List.mem_append.1 hb' with hb'|hb'
       ·rcases List.mem_append.1 hb' with hb'|hb'
        ·exact .inl (List.mem_append.2 (.inl hb'))
        ·exact .inr hb'
       ·exact .inl (List.mem_append.2 (.inr hb'))
      ·by_cases h2:j=m
       ·subst h2;rw[BM] at hb';simp at hb'
       ·rw[BO j h1 h2] at hb';exact .inr ⟨h1,h2,hb'⟩
     refine⟨_,E',hk2,h.gen rfl ⟨rfl,rfl,rfl,Nat.le_refl _,fun _ _ _=>rfl⟩ rfl (Nat.le_refl _) (fun _ _=>rfl) ?_ ?_ ?_ ?_ ?_ ?_ ?_,rfl⟩
     ·intro j hj fz v' e3 t3 vZ hoj
      have hoj:(upd (upd st.ob m .dead) i (.sl .own (aj+1) e t (xs.set ix.toNat y))) j= .sl fz v' e3 t3 vZ:=hoj;by_cases h1:j=i
      ·subst h1
       rw[bF] at hoj;cases hoj;exact⟨_,_,_,ah,by simp,Nat.le_succ _,fun e=>by omega⟩
      ·by_cases h2:j=m
       ·subst h2;rw[nG] at hoj;cases hoj
       ·rw[aX j h1 h2] at hoj
        exact⟨fz,v',vZ,hoj,rfl,Nat.le_refl _,fun _=>⟨rfl,fun b' hb'=>⟨rfl,by rw[BO j h1 h2];exact hb'⟩⟩⟩
     ·intro j hj
      show(∀w,((upd (upd st.ob m .dead) i (.sl .own (aj+1) e t (xs.set ix.toNat y))) j).lay=some w→(st.ob j).lay=some w)∧(((upd (upd st.ob m .dead) i (.sl .own (aj+1) e t (xs.set ix.toNat y))) j).bn=true→(st.ob j).bn=true);by_cases h1:j=i
      ·subst h1
       rw[bF,ah];exact⟨fun w hw=>hw,fun hw=>by cases hw⟩
      ·by_cases h2:j=m
       ·subst h2
        rw[nG];exact⟨fun w hw=>by simp[Ob.lay] at hw,fun hw=>by simp[Ob.bn] at hw⟩
       ·rw[aX j h1 h2]
        exact⟨fun _ h=>h,fun h=>h⟩
     ·intro ev j
      show aJ _ _ _ _ ((upd (upd st.ob m .dead) i (.sl .own (aj+1) e t (xs.set ix.toNat y))) j);by_cases h1:j=i
      ·subst h1
       rw[bF];show Ow _ _ _ _ _;rw[BI];exact m2
      ·by_cases h2:j=m
       ·subst h2;rw[nG];exact BM
       ·rw[aX j h1 h2]
        exact dP ev rfl (BO j h1 h2) (fun _ _=>rfl) (h.rep.ob j)
     ·intro j hj
      show(upd (upd st.ob m .dead) i (.sl .own (aj+1) e t (xs.set ix.toNat y))) j=_;have hj:st.nx≤j:=hj;by_cases h2:j=m
      ·subst h2;exact nG
      ·rw[aX j (by omega) h2]
       exact h.rep.lt j hj
     ·intro i1 j b' hij hb1 hb2
      rcases from_ i1 b' hb1 with⟨rfl,h1⟩|⟨h1,h2,h3⟩<;>rcases from_ j b' hb2 with⟨rfl,g1⟩|⟨g1,g2,g3⟩
      ·exact hij rfl
      ·rcases h1 with h1|h1
       ·exact h.rep.dj _ _ b' hij (hpq b' h1) g3
       ·exact h.rep.dj _ _ b' (fun e=>g2 e.symm) h1 g3
      ·rcases g1 with g1|g1
       ·exact h.rep.dj _ _ b' hij h3 (hpq b' g1)
       ·exact h.rep.dj _ _ b' h2 h3 g1
      ·exact h.rep.dj _ _ b' hij h3 g3
     ·intro j
      by_cases h1:j=i
      ·subst h1
       rw[BI];rw[List.nodup_append] at hnd;rw[List.nodup_append,List.nodup_append];refine⟨⟨hnd.1,h.rep.nd m,fun b1 hb1 b2 hb2 e=> ?_⟩,hnd.2.1,fun b1 hb1 b2 hb2 e=> ?_⟩
       ·subst e;exact g_ b1 (List.mem_append.2 (.inl hb1)) hb2
       ·subst e
        rcases List.mem_append.1 hb1 with hb1|hb1
        ·exact hnd.2.2 b1 hb1 b1 hb2 rfl
        ·exact g_ b1 (List.mem_append.2 (.inr hb2)) hb1
      ·by_cases h2:j=m
       ·subst h2;rw[BM];exact List.nodup_nil
       ·rw[BO j h1 h2];exact h.rep.nd j
     ·intro j b' hb'
      rcases from_ j b' hb' with⟨rfl,h1|h1⟩|⟨h1,h2,h3⟩
      ·exact⟨.inl ⟨_,hpq b' h1⟩,(h.rep.bb _ b' (hpq b' h1)).1⟩
      ·exact⟨.inl ⟨m,h1⟩,(h.rep.bb m b' h1).1⟩
      ·exact⟨.inl ⟨j,h3⟩,(h.rep.bb j b' h3).1⟩
    ·cases hk2
  ·exact⟨st,E,hk,h,rfl⟩
 ·cases hk
structure kD(N:Nat)(E0 E:Env)(st:St)(a:Act)(E':Env)(st':St):Prop where
 w:E'.w=E.w
 inv:Inv N E0 E' st' a
 ev:Ev E st.ob st.nx E' st'.ob st'.nx
 sl:st'.sl=st.sl
theorem zi{N:Nat}{E0 E:Env}{st:St}{a:Act}(h:Inv N E0 E st a):∀(cs:CS) (c c':Cn) (st':St) (i:Nat) (md:Bool) (vs:List Value),dM st cs c=some (c',st',i)→av E st.ob st.nx c md vs→
 ∃E',kD N E0 E st a E' st'∧av E' st'.ob st'.nx c' md vs∧c'.isAgg=c.isAgg:=by
 intro cs
 induction cs with
 |h j=>
  intro c c' st' i md vs ho hc;cases c with
  |sub i0 ix path aj d=>
   obtain⟨ty,ys⟩:=d;cases ty with
   |list e u=>
    simp only[dM] at ho;split at ho
    ·rename_i st2 hop
     simp only[Option.some.injEq,Prod.mk.injEq] at ho;obtain⟨rfl,rfl,rfl⟩:=ho;obtain⟨⟨k0,k1⟩,k2,k3,k4,k5⟩:(vs.length=1∧∀x,x∈vs→x.oneCell'=true)∧_:=by cases md<;>exact hc
     obtain⟨v,rfl⟩:∃v,vs=[v]:=by
      match vs,k0 with
      |[v],_=>exact⟨v,rfl⟩
     obtain⟨E',e1,e2,e3,e4,e5,e6,e7⟩:=uS hop h k2 k3 (fun fz e0 t xs ah=>by rw[ah] at k5;exact(k5 rfl).2);refine⟨E',⟨e1,e2,e3,e4⟩,?_,rfl⟩;have:av E' st2.ob st2.nx (.h st.nx) md [v]↔st.nx<st2.nx∧(E'.af st.nx).oneCell'=true∧[v]=[E'.af st.nx]:=by cases md<;>exact Iff.rfl
     exact this.2 ⟨by omega,by rw[e6];exact e7,by rw[e6]⟩
    ·cases ho
   |_=>simp[dM] at ho
  |_=>simp[dM] at ho
 |agg a ih=>
  intro c c' st' i md vs ho hc;cases c with
  |agg x=>
   simp only[dM] at ho;split at ho
   ·rename_i x' st2 i2 hx
    simp only[Option.some.injEq,Prod.mk.injEq] at ho;obtain⟨rfl,rfl,rfl⟩:=ho;have hc:av E st.ob st.nx x false vs:=by cases md<;>exact hc
    obtain⟨E',e1,e2,_⟩:=ih _ _ _ _ false vs hx hc;exact⟨E',e1,by cases md<;>exact e2,rfl⟩
   ·cases ho
  |_=>simp[dM] at ho
 |cons a b iha ihb=>
  intro c c' st' i md vs ho hc;cases c with
  |cons x y=>
   simp only[dM] at ho;split at ho
   ·rename_i x' st2 i2 hx
    simp only[Option.some.injEq,Prod.mk.injEq] at ho;obtain⟨rfl,rfl,rfl⟩:=ho;cases md with
    |false=>
     obtain⟨c1,c2,h0,h1,h2⟩:=hc;obtain⟨E',e1,e2,_⟩:=iha _ _ _ _ false c1 hx h1;exact⟨E',e1,⟨c1,c2,h0,e2,d_ e1.ev _ _ _ h2⟩,rfl⟩
    |true=>
     obtain⟨v,ws,c1,h0,h1,h2,h3⟩:=hc;obtain⟨E',e1,e2,e3⟩:=iha _ _ _ _ false c1 hx h1;exact⟨E',e1,⟨v,ws,c1,h0,e2,by rw[e3];exact h2,d_ e1.ev _ _ _ h3⟩,rfl⟩
   ·split at ho
    ·rename_i y' st2 i2 hy
     simp only[Option.some.injEq,Prod.mk.injEq] at ho;obtain⟨rfl,rfl,rfl⟩:=ho;cases md with
     |false=>
      obtain⟨c1,c2,h0,h1,h2⟩:=hc;obtain⟨E',e1,e2,_⟩:=ihb _ _ _ _ false c2 hy h2;exact⟨E',e1,⟨c1,c2,h0,d_ e1.ev _ _ _ h1,e2⟩,rfl⟩
     |true=>
      obtain⟨v,ws,c1,h0,h1,h2,h3⟩:=hc;obtain⟨E',e1,e2,e3⟩:=ihb _ _ _ _ true ws hy h3;exact⟨E',e1,⟨v,ws,c1,h0,d_ e1.ev _ _ _ h1,h2,e2⟩,rfl⟩
    ·cases ho
  |_=>simp[dM] at ho
 |_=>intro c c' st' i md vs ho;cases c<;>simp[dM] at ho
theorem zk{N:Nat}{E0 E:Env}{st st':St}{a:Act}{cs:CS}{c c':Cn}{i:Nat}{v:Value}(ho:dM st cs c=some (c',st',i))(h:Inv N E0 E st a)(hv:ak E st.ob st.nx c v):
 ∃E',kD N E0 E st a E' st'∧ak E' st'.ob st'.nx c' v:=by
 have hd:c≠ .dead:=by intro e;subst e;cases cs<;>simp[dM] at ho
 obtain⟨vs,h1,h2⟩:=dY hv hd;obtain⟨E',e1,e2,e3⟩:=zi h cs c c' st' i false vs ho h1;exact⟨E',e1,iG vs e2 (by rw[e3];exact h2)⟩
theorem uR{N:Nat}{E0 E:Env}{st st':St}{a:Act}{i:Nat}{vs:Nat→Value}:∀(l:List (Nat×CS)) (n:Nat) (args args':List Cn),jX l n args st=some (args',st',i)→Inv N E0 E st a→(∀j,ak E st.ob st.nx (bE args j) (vs j))→
 args'.length=args.length∧∃E',kD N E0 E st a E' st'∧∀j,ak E' st'.ob st'.nx (bE args' j) (vs j)
 |[],_,_,_,ho,_,_=>by simp[jX] at ho
 |x::r,n,[],_,ho,_,_=>by simp[jX] at ho
 |x::r,n,c::cs,args',ho,h,hv=>by
  simp only[jX] at ho;split at ho
  ·split at ho
   ·rename_i c' st2 i2 hc
    simp only[Option.some.injEq,Prod.mk.injEq] at ho;obtain⟨rfl,rfl,rfl⟩:=ho;obtain⟨E',e1,e2⟩:=zk hc h (hv 0);refine⟨rfl,E',e1,fun j=> ?_⟩;cases j with
    |zero=>exact e2
    |succ j=>exact eU e1.ev (hv (j+1))
   ·split at ho
    ·rename_i l' st2 i2 hl
     simp only[Option.some.injEq,Prod.mk.injEq] at ho;obtain⟨rfl,rfl,rfl⟩:=ho;obtain⟨e0,E',e1,e2⟩:=uR (vs:=fun j=>vs (j+1)) r (n+1) cs l' hl h (fun j=>hv (j+1));refine⟨by simp[e0],E',e1,fun j=> ?_⟩;cases j with
     |zero=>exact eU e1.ev (hv 0)
     |succ j=>exact e2 j
    ·cases ho
  ·cases ho
theorem oV{N:Nat}{E0 E:Env}{st:St}{a:Act}(c:Cn)(h:Inv N E0 E st a):∃E',kD N E0 E st a E' {st with ob:=jD c st.ob}:=by
 have same:kD N E0 E st a E st:=⟨rfl,h,⟨Nat.le_refl _,fun _ _=>rfl,fun _ h=>h,fun _ _=>rfl,fun _ _ _ h=>h,fun _ _ h=>h,fun i hi fz v e t xs ho=>⟨fz,v,xs,ho,rfl,Nat.le_refl _,fun _=>⟨rfl,fun b hb=>⟨rfl,hb⟩⟩⟩⟩,rfl⟩;unfold jD;split
 ·rename_i i
  split
  ·rename_i fz v e t xs ah
   split
   ·have hr:=h.rep.ob i
    rw[ah] at hr;obtain⟨v',f,nb,k1,k2,k3,k4⟩:=hr;have k1:E.af i=v':=by simpa using k1
    have hil:i<st.nx:=by
     rcases Nat.lt_or_ge i st.nx with hh|hh
     ·exact hh
     ·rw[h.rep.lt i hh] at ah;cases ah
    have hnd:=h.rep.nd i;rw[k4,List.nodup_append] at hnd;have hnb:∀b,b∈nb→b∈E.B i:=fun b hb=>by rw[k4];exact List.mem_append.2 (.inr hb)
    let E':Env:=⟨E.w,fun b=>E.Z b∨b∈nb,E.af,upd E.B i v'.ownBlock.toList⟩
    have bF:(upd st.ob i (.sl .shl v e t xs)) i= .sl .shl v e t xs:=upd_same _ _ _;have aX:∀j,j≠i→(upd st.ob i (.sl .shl v e t xs)) j=st.ob j:=fun j hj=>aC _ _ _ _ hj;have BI:E'.B i=v'.ownBlock.toList:=upd_same _ _ _;have BO:∀j,j≠i→E'.B j=E.B j:=fun j hj=>aC _ _ _ _ hj;have dI:∀j b,b∈E'.B j→b∈E.B j:=fun j b hb=>by
     by_cases hj:j=i
     ·subst hj;rw[BI] at hb;rw[k4];exact List.mem_append.2 (.inl hb)
     ·rw[BO j hj] at hb;exact hb
    have ev:Ev E st.ob st.nx E' (upd st.ob i (.sl .shl v e t xs)) st.nx:=by
     refine⟨Nat.le_refl _,fun _ _=>rfl,fun b hb=> .inl hb,fun _ _=>rfl,fun j hj u hu=> ?_,fun j hj hu=> ?_,fun j hj fz v2 e2 t2 dD ho=> ?_⟩
     ·by_cases hji:j=i
      ·subst hji;rw[bF] at hu;rw[ah];exact hu
      ·rw[aX j hji] at hu;exact hu
     ·by_cases hji:j=i
      ·subst hji;rw[bF] at hu;cases hu
      ·rw[aX j hji] at hu;exact hu
     ·by_cases hji:j=i
      ·subst hji
       rw[bF] at ho;cases ho;refine⟨_,_,_,ah,rfl,Nat.le_refl _,fun _=>⟨rfl,fun b hb=>⟨rfl,?_⟩⟩⟩;rcases hb with hb|hb
       ·rw[k4] at hb
        rcases List.mem_append.1 hb with hb|hb
        ·exact .inl (by rw[BI];exact hb)
        ·exact .inr (.inr hb)
       ·exact .inr (.inl hb)
      ·rw[aX j hji] at ho
       exact⟨fz,v2,dD,ho,rfl,Nat.le_refl _,fun _=>⟨rfl,fun b hb=>⟨rfl,hb.imp (fun hb=>by rw[BO j hji];exact hb) .inl⟩⟩⟩
    refine⟨E',rfl,⟨h.rep.turn (st':={st with ob:=upd st.ob i (.sl .shl v e t xs)}) rfl ev ?_ ?_ ?_ ?_ ?_ ?_,?_,h.defers,h.size,h.nx⟩,ev,rfl⟩
    ·intro j
     show aJ _ _ _ _ (upd st.ob i (.sl .shl v e t xs) j);by_cases hji:j=i
     ·subst hji
      rw[bF];refine⟨f,by rw[show E'.af j=E.af j from rfl,k1];exact k2,?_,by rw[BI,show E'.af j=E.af j from rfl,k1]⟩;exact mg xs f nb (fun x c b hb hx=>aN (fun q hq=> .inr (hb q hq)) (fun _ _=>rfl) t x c (dQ t x c b hx)) k3
     ·rw[aX j hji]
      exact dP ev rfl (BO j hji) (fun _ _=>rfl) (h.rep.ob j)
    ·intro j hj
     show upd st.ob i (.sl .shl v e t xs) j=_;have hj:st.nx≤j:=hj;rw[aX j (by omega)];exact h.rep.lt j hj
    ·intro i1 j b hij h1 h2
     exact h.rep.dj i1 j b hij (dI _ _ h1) (dI _ _ h2)
    ·intro j
     by_cases hji:j=i
     ·subst hji;rw[BI];exact hnd.1
     ·rw[BO j hji];exact h.rep.nd j
    ·intro j b hb
     refine⟨(h.rep.bb j b (dI j b hb)).1,fun hz=> ?_⟩;rcases hz with hz|hz
     ·exact(h.rep.bb j b (dI j b hb)).2 hz
     ·by_cases hji:j=i
      ·subst hji
       rw[BI] at hb;exact hnd.2.2 b hb b hz rfl
      ·rw[BO j hji] at hb
       exact h.rep.dj j i b hji hb (hnb b hz)
    ·intro b hb
     rcases hb with hb|hb
     ·exact h.rep.zb b hb
     ·exact(h.rep.bb i b (hnb b hb)).1
    ·exact h.fr.trans ⟨rfl,rfl,rfl,Nat.le_refl _,fun _ _ _=>rfl,fun j b hb=> .inl ⟨j,dI j b hb⟩,fun b hb=> .inl hb,fun b hb=>hb.imp id (fun hb=> .inl ⟨i,hnb b hb⟩),fun _ _=>rfl⟩
   ·exact⟨E,same⟩
  ·exact⟨E,same⟩
 ·exact⟨E,same⟩
section
variable{P:Program}{R:Type}{C:Ctx}{o:Oper}{st:St}{k:St→Option R}{r:R}{E0 E:Env}{a:Act}{K:Act→World→Prop}{Q:Exit→Act→World→Prop}{g:Bool}
theorem wK(ay:∀t u,C.tt t=some u→aU P t u){pure:Bool}{t t2:TypeId}{S X:Operand}{s x:Cn}(ho:o.op= .call {callee:= .builtin .append,args:= #[S,X],argTypes:= #[t,t2]})(hgf:g=false)
 (hk:jq C pure o t t2 s x st k=some r) (h:Inv C.N E0 E st a) (hs:ak E st.ob st.nx s (a.eval S)) (hx:ak E st.ob st.nx x (a.eval X))
 (hK:∀st' E' v,k st'=some r→Inv C.N E0 E' st' (a.put o.dst v)→aL P C g o a v E.w E'.w→K (a.put o.dst v) E'.w):o.wp P a E.w K Q:=by
 unfold jq at hk;split at hk
 ·obtain⟨E1,o1⟩:=oV s h
  obtain⟨E2,o2⟩:=oV (st:={st with ob:=jD s st.ob}) x o1.inv;have hw:E2.w=E.w:=o2.w.trans o1.w;refine hw▸wM ay ho hgf hk o2.inv (eU o2.ev (eU o1.ev hs)) (eU o2.ev (eU o1.ev hx)) ?_;intro j5 E3 v hk3 hi3 hp3;exact hK j5 E3 v hk3 hi3 (by rw[←hw];exact hp3)
 ·split at hk
  ·rename_i i ix path aj e u ys
   split at hk
   ·rename_i st' hop
    obtain⟨vs,⟨k1,k2,k3,k4,k5⟩,hm⟩:=hs;have hm:vs=[a.eval S]:=hm;subst hm;obtain⟨E',e1,e2,e3,e4,e5,e6,e7⟩:=uS hop h k2 k3 (fun fz e0 t xs ah=>by rw[ah] at k5;exact(k5 rfl).2);refine e1▸r9 (pure:=pure) (s:= .h st.nx) (x:=x) ay ho hgf hk e2 ⟨[a.eval S],⟨by omega,by rw[e6];exact e7,by rw[e6]⟩,rfl⟩ (eU e3 hx) ?_;intro j5 E3 v hk3 hi3 hp3;exact hK j5 E3 v hk3 hi3 (by rw[←e1];exact hp3)
   ·cases hk
  ·exact r9 ay ho hgf hk h hs hx hK
end
end Go.Am
end
section
namespace Go.Am
def Kd(o:Ob)(os:OS):Prop:=
 ∃z,o.lay=(OS.ob os z).lay∧o.bn=(OS.ob os z).bn∧∀(e:TypeId) (t:Ty) (aO:List t.Den),OS.ob os z= .sl .own 0 e t aO→∃v0 lX,o= .sl .own v0 e t lX
theorem yN{o:Ob}{os:OS}(h:iT o os=true):Kd o os:=by
 cases o with
 |sl fz aj e t xs=>
  cases fz<;>cases os<;>simp only[iT] at h<;>try (cases h;done)
  rename_i e' t';simp only[Bool.and_eq_true] at h;obtain rfl:=Nat.eq_of_beq_eq_true h.1;obtain rfl:=of_decide_eq_true h.2;refine⟨(by exact[]),rfl,rfl,fun e t aO he=> ?_⟩;simp only[OS.ob,Ob.sl.injEq] at he;obtain⟨-,-,rfl,rfl,_⟩:=he;exact⟨aj,_,rfl⟩
 |box u c=>
  cases os<;>simp only[iT] at h<;>try (cases h;done)
  ·rename_i v cs
   obtain rfl:=of_decide_eq_true h;exact⟨cs.dflt,rfl,rfl,fun e t aO he=>by simp[OS.ob] at he⟩
  ·rename_i v cs
   obtain rfl:=of_decide_eq_true h;exact⟨(true,cs.dflt),rfl,rfl,fun e t aO he=>by simp[OS.ob] at he⟩
 |aZ b u c=>
  cases os<;>simp only[iT] at h<;>try (cases h;done)
  rename_i v cs;obtain rfl:=of_decide_eq_true h;exact⟨(true,cs.dflt),rfl,rfl,fun e t aO he=>by simp[OS.ob] at he⟩
 |mp u kk l=>cases os<;>simp only[iT] at h<;>cases h
 |dead=>cases os<;>simp only[iT] at h<;>cases h
theorem uj{m:Mt}{objs:List (Nat×OS)}:∀{s:List (Nat×Nat)},jP m objs s=true→∀j i,aA s j=some i→∃o,dZ objs j=some o∧Kd (m.ob i) o
 |[],_,j,i,h=>by cases h
 |x::r,hk,j,i,h=>by
  obtain⟨a,b⟩:=x;simp only[jP,Bool.and_eq_true] at hk;rw[dH] at h;split at h
  ·rename_i e
   cases h;subst e;have h1:=hk.1;split at h1
   ·rename_i o ho;exact⟨o,ho,yN h1⟩
   ·cases h1
  ·exact uj hk.2 j i h
theorem kS{C:Ctx}{st:St}{E:Env}{a:Act}(hr:aS E st a.tmps):∀(xs:List Operand) (ts:List TypeId) (l:List Cn),dJ C st xs ts=some l→
 l.length=xs.length∧∀i,ak E st.ob st.nx (bE l i) ((xs.map a.eval).getD i undef)
 |[],ts,l,h=>by
  cases h;exact⟨rfl,fun i=>trivial⟩
 |x::r,ts,l,h=>by
  simp only[dJ] at h;split at h
  ·rename_i c l' h1 h2
   cases h;obtain⟨h3,h4⟩:=kS hr r _ _ h2;refine⟨by simp[h3],fun i=> ?_⟩;cases i with
   |zero=>exact aV h1 hr
   |succ i=>simpa[bE] using h4 i
  ·cases h
theorem vX{E:Env}{ob:Nat→Ob}{nx:Nat}:∀(c:Cn) (l:List Cn) (vs:List Value),nS c=some l→av E ob nx c true vs→
 l.length=vs.length∧∀i,ak E ob nx (bE l i) (vs.getD i undef)
 | .nil,l,vs,h,hc=>by
   cases h;have hc:vs=[]:=hc;subst hc;exact⟨rfl,fun i=>trivial⟩
 | .cons a b,l,vs,h,hc=>by
   simp only[nS] at h;split at h
   ·rename_i l' h1
    cases h;obtain⟨v,ws,c,rfl,h2,h3,h4⟩:=hc;obtain⟨h5,h6⟩:=vX b l' ws h1 h4;refine⟨by simp[h5],fun i=> ?_⟩;cases i with
    |zero=>exact iG c h2 h3
    |succ i=>simpa[bE] using h6 i
   ·cases h
 | .ro _ _,l,vs,h,hc| .bq _ _,l,vs,h,hc| .h _,l,vs,h,hc| .p _,l,vs,h,hc| .addr _ _ _ _ _ _,l,vs,h,hc| .aY _ _,l,vs,h,hc| .sub _ _ _ _ _,l,vs,h,hc
 | .fn _ _,l,vs,h,hc| .bZ _,l,vs,h,hc| .agg _,l,vs,h,hc| .cst _,l,vs,h,hc| .any,l,vs,h,hc| .dead,l,vs,h,hc=>by cases h
theorem sj:∀(l r:List Cn) (i:Nat),bE (l++r) i=if i<l.length then bE l i else bE r (i-l.length)
 |[],r,i=>by simp
 |c::l,r,0=>by simp[bE]
 |c::l,r,i+1=>by
  show bE (l++r) i=_;rw[sj l r i];simp[bE]
theorem u7{E2 E3:Env}{qz qA:Nat→Ob}{qx qy:Nat}{c:dh}{m:Mt}{y:c.au.Den}{tm:Array Value}
 (h:∀s,ak E3 qA qy (bG (cO m) (bY c.au.slots (c.au.pS y) s)) (tm.getD s undef)):
 ∀(n i:Nat) (vs:List Value),vs.length=n→(∀q,q<n→vs[q]?=some (tm.getD (i+q) undef))→av E3 qA qy (bG (cO m) (lK c y n i)) true vs
 |0,i,vs,hl,hv=>by
  have:vs=[]:=List.eq_nil_of_length_eq_zero hl;exact this
 |n+1,i,vs,hl,hv=>by
  cases vs with
  |nil=>simp at hl
  |cons v ws=>
   have h0:=hv 0 (Nat.succ_pos _);simp only[List.getElem?_cons_zero,Option.some.injEq,Nat.add_zero] at h0
   have hr:=u7 (E2:=E2) (qz:=qz) (qx:=qx) h n (i+1) ws (by simpa using hl) (fun q hq=>by
    have:=hv (q+1) (by omega);simpa[Nat.add_assoc,Nat.add_comm 1 q] using this)
   have hi:=h i;rw[←h0] at hi;show av E3 qA qy (.cons (bG (cO m) (bY c.au.slots (c.au.pS y) i)) (bG (cO m) (lK c y n (i+1)))) true (v::ws);generalize bG (cO m) (bY c.au.slots (c.au.pS y) i)=q at hi;by_cases hd:q= .dead
   ·subst hd
    exact⟨v,ws,[v],rfl,trivial,rfl,hr⟩
   ·obtain⟨cs,h1,h2⟩:=dY hi hd
    exact⟨v,ws,cs,rfl,h1,h2,hr⟩
section
variable{P:Program}{R:Type}{C:Ctx}{o:Oper}{st:St}{k:St→Option R}{r:R}{E0 E:Env}{a:Act}{K:Act→World→Prop}{Q:Exit→Act→World→Prop}{g:Bool}
theorem sD{pure:Bool}{f:FuncId}{args:List Cn}{argv:Array Value}{c:dh}{x:c.bg.Den}{y:c.au.Den}{m:Mt}(hc:gu P f c)(bN:g=true→pure=true)(hst:still C o=false)(hal:gK o=false)
 (hm:fU c.au.aR true c.bg ⟨bE args,st.ob,st.nx⟩=some (x,m))
 (hno:(pure&& !(isNil m.sig&&(c.au.aR||isNil m.fz)))=false∧iY c.bg.objs c.au.objs=true∧Nat.beq args.length c.nargs=true∧jP m c.bg.objs m.sig=true) (hF:c.F x=some y)
 (hk:az C o (lM c m y) {sl:=st.sl,ob:=bu c m y,nx:=m.nx+Nat.max 100 (bK c.au.objs)} k=some r) (h:Inv C.N E0 E st a)
 (hsz:argv.size=args.length) (hargs:∀i,ak E st.ob st.nx (bE args i) (argv.getD i undef)) (hrun:∀q,(callFunc f argv).run P E.w=q→(execOp a.eval o).run P E.w=q)
 (hK:∀st' E' v,k st'=some r→Inv C.N E0 E' st' (a.put o.dst v)→aL P C g o a v E.w E'.w→K (a.put o.dst v) E'.w):o.wp P a E.w K Q:=by
 have hrep:aS E ⟨bE args,st.ob,st.nx⟩ argv:=⟨hargs,h.rep.ob,h.rep.lt,h.rep.dj,h.rep.nd,h.rep.bb,h.rep.zb⟩;obtain⟨E',e1,e2,e3,e4,e5⟩:=qo hm hrep;have hkd:=uj hno.2.2.2;have hfn:=hc (into E' m) argv x y (hsz.trans (Nat.eq_of_beq_eq_true hno.2.2.1)) hF e5;rw[show(into E' m).w=E.w from e1.w] at hfn;refine Aj (fun _=>hrun) hfn ?_;rintro v w' ⟨E2,tm,rfl,fr,r2,hret⟩
 obtain⟨hinv,hval⟩:=wG h e1 e2 e3 e4 (fun j i hji=>by
  obtain⟨o,ho,z,h1,h2,h3⟩:=hkd j i hji;exact⟨o,z,ho,h1,h2,h3⟩) hno.2.1 fr r2
 have hv:ak (aI c.au.aR E' E2 m) (bu c m y) (m.nx+Nat.max 100 (bK c.au.objs)) (lM c m y) v:=by
  have hall:∀s,ak (aI c.au.aR E' E2 m) (bu c m y) (m.nx+Nat.max 100 (bK c.au.objs)) (bG (cO m) (bY c.au.slots (c.au.pS y) s)) (tm.getD s undef):=
   fun s=>hval s _ (r2.sl s)
  unfold lM
  have rq:(∃vs:List Value,v= .tuple vs.toArray∧vs.length=c.fD∧∀i,i<c.fD→vs[i]?=some (tm.getD i undef))→
   ak (aI c.au.aR E' E2 m) (bu c m y) (m.nx+Nat.max 100 (bK c.au.objs)) (.bZ (bG (cO m) (lK c y c.fD 0))) v:=by
   rintro⟨vs,rfl,hl,hv⟩;exact⟨_,⟨vs,rfl,u7 (E2:=E2) (qz:=fun _=> .dead) (qx:=0) hall c.fD 0 vs hl (fun q hq=>by rw[Nat.zero_add];exact hv q hq)⟩,rfl⟩
  generalize hn:c.fD=n at hret rq
  match n with
  |0=>exact rq hret
  |1=>
   have hret:v=tm.getD 0 undef:=hret;rw[hret];exact hall 0
  |n+2=>exact rq hret
 refine eB (G:=fun a'=>K a' (aI c.au.aR E' E2 m).w) hk hinv hv (fun st' hk' hi=>hK st' _ _ hk' hi (.loud hst (fun hg=> ?_) (fun hh=>by rw[hal] at hh;cases hh)));have hp:=bN hg;have hnil:m.sig=[]:=by
  have:=hno.1;simp only[hp,Bool.true_and,Bool.not_eq_false',Bool.and_eq_true] at this;cases hs:m.sig with
  |nil=>rfl
  |cons x r=>rw[hs] at this;simp[isNil] at this
 have hw:(into E' m).w=E.w:=e1.w;refine⟨by rw[←hw];exact fr.os,by rw[←hw];exact fr.tape,by rw[←hw];exact fr.output,by rw[←hw];exact fr.size,fun b hb=> ?_⟩;rw[←hw];refine fr.block b (by rw[hw];exact hb) (fun i=> ?_);simp[into,hnil,aA]
theorem mF{pure:Bool}{f:FuncId}{args:List Cn}{argv:Array Value}:∀(cons:List dh),(∀c,c∈cons→gu P f c)→(g=true→pure=true)→still C o=false→gK o=false→gH C pure o args st k cons=some r→Inv C.N E0 E st a→
 argv.size=args.length→(∀i,ak E st.ob st.nx (bE args i) (argv.getD i undef))→(∀q,(callFunc f argv).run P E.w=q→(execOp a.eval o).run P E.w=q)→
 (∀st' E' v,k st'=some r→Inv C.N E0 E' st' (a.put o.dst v)→aL P C g o a v E.w E'.w→K (a.put o.dst v) E'.w)→o.wp P a E.w K Q
 |[],_,_,_,_,hk,_,_,_,_,_=>by cases hk
 |c::cons,hcs,bN,hst,hal,hk,h,hsz,hargs,hrun,hK=>by
  simp only[gH] at hk;split at hk
  ·rename_i args' st2 i hop
   split at hk
   ·cases hk
   ·rename_i hpure
    split at hk
    ·exact mF cons (fun c hc=>hcs c (List.mem_cons_of_mem _ hc)) bN hst hal hk h hsz hargs hrun hK
    ·rename_i x m hm
     split at hk
     ·cases hk
     ·rename_i hno
      simp only[Bool.not_eq_false',Bool.and_eq_true] at hno;cases hF:c.F x with
      |none=>rw[hF] at hk;cases hk
      |some y=>
       rw[hF] at hk;simp only[Option.bind_some] at hk;obtain⟨hl,E2,ho1,ho2⟩:=uR (vs:=fun j=>argv.getD j undef) c.bg.slots 0 args args' hop h hargs;have hw:=ho1.w;refine hw▸sD (pure:=false) (g:=g) (hcs c (List.mem_cons_self ..)) (fun hg=>by have:=bN hg;simp_all) hst hal hm ⟨rfl,hno.1,hno.2.1,hno.2.2⟩ hF hk ho1.inv (hsz.trans hl.symm) ho2 (by rw[hw];exact hrun) ?_;intro j5 E3 v hk3 hi3 hp3;obtain⟨zX,E4,hk4,hi4,hw4⟩:=xk hk3 hi3;rw[←hw4];exact hK zX E4 v hk4 hi4 (by rw[hw4,←hw];exact hp3)
  ·split at hk
   ·exact mF cons (fun c hc=>hcs c (List.mem_cons_of_mem _ hc)) bN hst hal hk h hsz hargs hrun hK
   ·rename_i x m hm
    split at hk
    ·cases hk
    ·rename_i hno
     simp only[Bool.or_eq_false_iff,Bool.not_eq_false',Bool.and_eq_true] at hno;cases hF:c.F x with
     |none=>rw[hF] at hk;cases hk
     |some y=>
      rw[hF] at hk;simp only[Option.bind_some] at hk;exact sD (hcs c (List.mem_cons_self ..)) bN hst hal hm ⟨hno.1,hno.2.1,hno.2.2.1,hno.2.2.2⟩ hF hk h hsz hargs hrun hK
end
end Go.Am
end
section
namespace Go.Am
structure cz(P:Program)(C:Ctx):Prop where
 tt:∀t u,C.tt t=some u→aU P t u
 phi:∀g c,c∈C.phi g→gu P g c
 mixed:P.follows .mixedOrders=true
 eq:∀t u,C.tt t=some u→u.isAgg=true→u.flat=true→dm P u t [] 0∧P.eqGuardType P.depth t=false
 mt:∀t k e,C.mt t=some (k,e)→P.underlying t=some (.map k e)
theorem oJ{α:Type}{xs:Array α}{a:α}(h:xs.toList=[a]):xs= #[a]:=by
 rw[←xs.toArray_toList,h]
theorem mE{α:Type}{xs:Array α}{a b:α}(h:xs.toList=[a,b]):xs= #[a,b]:=by
 rw[←xs.toArray_toList,h]
section
variable{P:Program}{R:Type}{C:Ctx}{o:Oper}{st:St}{k:St→Option R}{r:R}{E0 E:Env}{a:Act}{K:Act→World→Prop}{Q:Exit→Act→World→Prop}{g:Bool}
theorem sG{a:Act}(hr:aS E st a.tmps):∀(xs:List Operand) (ts:List TypeId) (l:List Cn),dJ C st xs ts=some l→av E st.ob st.nx (caps l) true (xs.map a.eval)
 |[],ts,l,h=>by cases h;exact rfl
 |x::r,ts,l,h=>by
  simp only[dJ] at h;split at h
  ·rename_i c l' h1 h2
   cases h;have hv:=aV h1 hr;have hd:c≠ .dead:=by
    intro e;subst e;unfold ev at h1;split at h1
    ·split at h1
     ·cases h1
     ·cases h1
     ·rename_i _ hs _;simp only[Option.some.injEq] at h1;exact hs h1
    ·rename_i v
     unfold mI at h1;split at h1<;>first|(cases h1;done)|skip
     split at h1<;>cases h1
    ·cases h1
    ·cases h1
   obtain⟨cs,h3,h4⟩:=dY hv hd;exact⟨_,_,cs,rfl,h3,h4,sG hr r _ _ h2⟩
  ·cases h
theorem sS{a:Act}(hr:aS E st a.tmps){xs:Array Operand}{ts:List TypeId}{c:Cn}(h:dJ C st xs.toList ts=some [c]):∃X,xs= #[X]∧ak E st.ob st.nx c (a.eval X):=by
 obtain⟨h1,h2⟩:=kS hr xs.toList ts _ h
 match hx:xs.toList,h1 with
 |[X],_=>
  refine⟨X,oJ hx,?_⟩;have:=h2 0;rw[hx] at this;exact this
theorem pq{a:Act}(hr:aS E st a.tmps){xs:Array Operand}{ts:List TypeId}{c d:Cn}(h:dJ C st xs.toList ts=some [c,d]):∃X Y,xs= #[X,Y]∧ak E st.ob st.nx c (a.eval X)∧ak E st.ob st.nx d (a.eval Y):=by
 obtain⟨h1,h2⟩:=kS hr xs.toList ts _ h
 match hx:xs.toList,h1 with
 |[X,Y],_=>
  refine⟨X,Y,mE hx,?_,?_⟩
  ·have:=h2 0
   rw[hx] at this;exact this
  ·have:=h2 1
   rw[hx] at this;exact this
theorem xI{a:Act}(hr:aS E st a.tmps){xs:Array Operand}{ts:List TypeId}{c d:Cn}(h:jI C st xs.toList ts=some [c,d]):∃X Y,xs= #[X,Y]∧ak E st.ob st.nx c (a.eval X)∧ak E st.ob st.nx d (a.eval Y):=by
 match hx:xs.toList with
 |[]=>rw[hx] at h;simp[jI] at h
 |[X]=>rw[hx] at h;simp[jI] at h
 |X::Y::Z::W=>rw[hx] at h;simp[jI] at h
 |[X,Y]=>
  rw[hx] at h;simp only[jI] at h;split at h
  ·rename_i c' d' h1 h2
   simp only[Option.some.injEq,List.cons.injEq,and_true] at h;obtain⟨rfl,rfl⟩:=h;exact⟨X,Y,mE hx,xJ h1 hr,aV h2 hr⟩
  ·cases h
theorem zh(hc:cz P C){pure:Bool}(bN:g=true→pure=true)(hk:jW C pure o st k=some r)(h:Inv C.N E0 E st a)
 (hK:∀st' E' v,k st'=some r→Inv C.N E0 E' st' (a.put o.dst v)→aL P C g o a v E.w E'.w→K (a.put o.dst v) E'.w):o.wp P a E.w K Q:=by
 have hr:=h.rep;have hgf:∀{b:Bool},pure=false→g=false:=by
  intro _ hp;cases hg:g with
  |false=>rfl
  |true=>rw[bN hg] at hp;cases hp
 unfold jW at hk;split at hk
 ·
   rename_i X ho;split at hk
   ·rename_i c hX
    exact uG (.inl ho) hk h (aV hX hr) hK
   ·cases hk
 ·
   rename_i X ho;split at hk
   ·cases hk
   ·split at hk
    ·rename_i c hX
     exact uG (.inr ho) hk h (aV hX hr) hK
    ·cases hk
 ·
   rename_i t ho;split at hk
   ·rename_i u hT
    split at hk
    ·rename_i hf
     exact wH hc.tt ho hT hf hk h hK
    ·cases hk
   ·cases hk
 ·
   rename_i t X ho;split at hk
   ·rename_i c hX
    split at hk
    ·rename_i b hb
     split at hk
     ·split at hk
      ·rename_i hf
       exact wU ho hb hf hk h (aV hX hr) hK
      ·cases hk
     ·cases hk
    ·cases hk
   ·cases hk
 ·
   rename_i t ps ho;split at hk
   ·rename_i l hl
    split at hk
    ·rename_i c hb
     exact wZ hc.tt ho (mO hr _ _ hl) hb hk h hK
    ·cases hk
   ·cases hk
 ·
   rename_i t len ps ho;split at hk
   ·cases hk
   ·exact wY hc.tt ho (hgf (b:=true) rfl) hk h hK
 ·
   rename_i t X ho;split at hk
   ·rename_i c hX
    split at hk
    ·rename_i d hd
     split at hk
     ·rename_i hl
      exact yT hc.tt ho hd hl hk h (aV hX hr) hK
     ·cases hk
    ·cases hk
   ·cases hk
 ·
   rename_i t A X ho;split at hk
   ·cases hk
   ·split at hk
    ·rename_i c d hA hX
     split at hk
     ·rename_i hd
      exact zZ hc.tt ho (hgf (b:=true) rfl) hd hk h (aV hA hr) (aV hX hr) hK
     ·cases hk
    ·cases hk
 ·
   rename_i X ho;split at hk
   ·rename_i c hX
    have hv:=aV hX hr;split at hk
    ·rename_i i
     split at hk
     ·rename_i u c' ah
      refine nD ho hk h hv (.inl ?_) hK;obtain⟨cs,h1,h2⟩:=hv;have ho:=hr.ob i;rw[ah] at ho;obtain⟨gg,cs',t,k1,_⟩:=ho;have e1:cs=[E.af i]:=h1.2.2;have e2:cs=[a.eval X]:=h2;rw[e1,k1] at e2;exact⟨_,(by simpa using e2.symm)⟩
     ·rename_i b u d ah
      split at hk
      ·cases hk
      ·cases b with
       |false=>cases hk
       |true=>
        simp only[cond_true] at hk;exact y9 ho ah hk h hv hK
     ·cases hk
    ·refine nD ho hk h hv (.inl ?_) hK
     obtain⟨cs,h1,h2⟩:=hv;obtain⟨_,_,⟨gg,_,e1⟩,_⟩:=h1;have e2:cs=[a.eval X]:=h2;rw[e1] at e2;exact⟨_,(by simpa using e2.symm)⟩
    ·refine nD ho hk h hv (.inl ?_) hK
     obtain⟨cs,h1,h2⟩:=hv;obtain⟨_,ad,e1,_⟩:=h1;have e2:cs=[a.eval X]:=h2;rw[e1] at e2;exact⟨_,(by simpa using e2.symm)⟩
    ·refine nD ho hk h hv (.inr ?_) hK
     obtain⟨cs,h1,h2⟩:=hv;obtain⟨vs,e1,_⟩:=h1;have e2:cs=[a.eval X]:=h2;rw[e1] at e2;exact⟨_,_,(by simpa using e2.symm)⟩
    ·cases hk
   ·cases hk
 ·
   rename_i op xt X Y yt ho;split at hk
   ·rename_i c d hX hY
    split at hk
    ·split at hk
     ·rename_i x y hx hy
      exact xF hc.eq ho hx hy hk h (aV hX hr) (aV hY hr) hK
     ·cases hk
    ·exact wT hc.tt ho hk h (aV hX hr) (aV hY hr) hK
   ·cases hk
 ·
   rename_i op t X ho;split at hk
   ·rename_i c hX
    exact Ai ho hk h (aV hX hr) hK
   ·cases hk
 ·
   rename_i ts td X ho;split at hk
   ·rename_i c hX
    exact xx hc.tt ho hk h (aV hX hr) hK
   ·cases hk
 ·
   rename_i s X f ho;split at hk
   ·rename_i c hX
    split at hk
    ·rename_i d hd
     exact xR hc.tt ho hd hk h (aV hX hr) hK
    ·cases hk
   ·cases hk
 ·
   rename_i t X I ho;split at hk
   ·rename_i c d hX hI
    exact yH hc.tt ho hk h (aV hX hr) (aV hI hr) hK
   ·cases hk
 ·
   rename_i t X I ho;split at hk
   ·rename_i c d hX hI
    exact yJ hc.tt ho hk h (aV hX hr) (aV hI hr) hK
   ·cases hk
 ·
   rename_i t X LO HI ho;split at hk
   ·rename_i c hX
    split at hk
    ·rename_i lo hi hlo hhi
     have key:∀(L:Option Operand) (l:Option Int),(match L with
      |none=>some none
      |some l=>(match ev C st 0 l with
       |some (.ro none ⟨.int _,n⟩)=>some (some n)
       |_=>(none:Option (Option Int))))=some l→∃kl,L.map a.eval=l.map fun n=>Value.int kl n:=by
      intro L l hl;cases L with
      |none=>cases hl;exact⟨.i64,rfl⟩
      |some x=>
       simp only at hl;split at hl
       ·rename_i kk n hx
        cases hl;exact⟨kk,by simp[dX (aV hx hr)]⟩
       ·cases hl
     obtain⟨kl,h1⟩:=key _ _ hlo;obtain⟨kh,h2⟩:=key _ _ hhi;exact zU hc.tt ho h1 h2 hk h (aV hX hr) hK
    ·cases hk
   ·cases hk
 ·
   rename_i t n m ho;split at hk
   ·rename_i hnm
    obtain rfl:=Nat.eq_of_beq_eq_true hnm;split at hk
    ·rename_i kk x hs
     have hv:=hr.sl n;rw[hs] at hv;exact uy hc.tt ho hk h (dX hv) (dX hv) hK
    ·cases hk
   ·cases hk
 ·rename_i t k1 n k2 m ho
  split at hk
  ·rename_i hnm
   obtain rfl:=of_decide_eq_true hnm;exact uy hc.tt ho hk h rfl rfl hK
  ·cases hk
 ·
   rename_i f fs cs ho;split at hk
   ·rename_i hfs
    split at hk
    ·rename_i l hl
     have yj:fs= #[]:=by rw[←fs.toArray_toList,hfs]
     refine aP (v:= .func (.func f) #[] (cs.toList.map a.eval).toArray) hk h ?_ ?_ hK
     ·intro u _
      unfold execOp;simp[ho,Instr.makeFunc,yj];apply Array.ext';simp
     ·exact⟨_,⟨_,rfl,sG hr _ _ _ hl⟩,rfl⟩
    ·cases hk
   ·cases hk
 ·
   rename_i X ix ho;split at hk
   ·rename_i c hX
    split at hk
    ·rename_i d hd
     exact xM ho hd hk h (aV hX hr) hK
    ·cases hk
   ·cases hk
 ·
   rename_i c ho;obtain⟨callee,args,ats⟩:=c;simp only at hk;split at hk
   ·rename_i f
    split at hk
    ·rename_i l hl
     obtain⟨hl1,hl2⟩:=kS hr _ _ _ hl;refine mF (argv:=args.map a.eval) (C.phi f) (fun c hc'=>hc.phi f c hc') bN (by simp[still,ho]) (by simp[gK,ho]) hk h (by rw[hl1];simp) (fun i=> ?_) ?_ hK
     ·have:=hl2 i
      have e:(args.map a.eval).getD i undef=(args.toList.map a.eval).getD i undef:=by
       rw[←Array.toList_map];simp
      rw[e];exact this
     ·intro q hq
      unfold execOp;simp only[ho];simp[resolve,Act.eval,Deferred.ofValue,invoke,hq]
    ·cases hk
   ·rename_i X hne
    split at hk
    ·rename_i f cs l hfn hl
     split at hk
     ·rename_i rr hrr
      obtain⟨hl1,hl2⟩:=kS hr _ _ _ hl;have hv:=aV hfn hr;obtain⟨ws,hw1,hw2⟩:=hv;obtain⟨vs,e1,h5⟩:=hw1;have e2:ws=[a.eval X]:=hw2;rw[e1] at e2;have hX:a.eval X= .func (.func f) #[] vs.toArray:=by simpa using e2.symm
      obtain⟨hu1,hu2⟩:=vX _ _ _ hrr h5;refine mF (argv:=args.map a.eval++vs.toArray) (C.phi f) (fun c hc'=>hc.phi f c hc') bN (by simp[still,ho]) (by simp[gK,ho]) hk h (by rw[List.length_append,hl1,hu1];simp) (fun i=> ?_) ?_ hK
      ·rw[sj]
       have e:(args.map a.eval++vs.toArray).getD i undef=if i<l.length then(args.toList.map a.eval).getD i undef else vs.getD (i-l.length) undef:=by
        have:args.map a.eval++vs.toArray=(args.toList.map a.eval++vs).toArray:=by
         rw[←Array.toList_map];apply Array.ext';simp
        rw[this];have:∀(xs:List Value) i,xs.toArray.getD i undef=xs.getD i undef:=by intro xs i;simp
        rw[this,List.getD_eq_getElem?_getD,List.getElem?_append];simp only[List.length_map,hl1];split<;>simp[List.getD_eq_getElem?_getD]
       rw[e];split
       ·exact hl2 i
       ·exact hu2 _
      ·intro q hq
       unfold execOp;simp only[ho];simp[resolve,hX,Deferred.ofValue,invoke,hq]
     ·cases hk
    ·cases hk
   ·split at hk
    ·rename_i x t hl hts
     obtain⟨X,rfl,hX⟩:=sS hr hl;obtain rfl:=oJ hts;exact yS hc.tt ho hk h hX hK
    ·cases hk
   ·split at hk
    ·rename_i s x t t2 hl hts
     obtain⟨X,Y,rfl,hX,hY⟩:=xI hr hl;obtain rfl:=mE hts;split at hk
     ·cases hk
     ·exact wK hc.tt ho (hgf (b:=true) rfl) hk h hX hY hK
    ·cases hk
   ·split at hk
    ·rename_i x t hl hts
     obtain⟨X,rfl,hX⟩:=sS hr hl;obtain rfl:=oJ hts;exact xg hc.tt ho hk h hX hK
    ·cases hk
   ·split at hk
    ·rename_i s x t t2 hl hts
     obtain⟨X,Y,rfl,hX,hY⟩:=pq hr hl;obtain rfl:=mE hts;split at hk
     ·cases hk
     ·exact xz hc.tt ho (hgf (b:=true) rfl) hk h hX hY hK
    ·cases hk
   ·split at hk
    ·rename_i ka x kb y hl
     obtain⟨X,Y,rfl,hX,hY⟩:=pq hr hl;exact uF true ho hk h hX hY hK
    ·cases hk
   ·split at hk
    ·rename_i ka x kb y hl
     obtain⟨X,Y,rfl,hX,hY⟩:=pq hr hl;exact uF false ho hk h hX hY hK
    ·cases hk
   ·cases hk
 ·
   rename_i t ho;split at hk
   ·cases hk
   ·split at hk
    ·exact yY ho (hgf (b:=true) rfl) hk h hK
    ·cases hk
 ·
   rename_i t X Y ok ho;split at hk
   ·cases hk
   ·split at hk
    ·rename_i i c hX hY
     exact yU hc.tt hc.eq hc.mt ho (hgf (b:=true) rfl) hk h (aV hX hr) (aV hY hr) hK
    ·cases hk
 ·
   rename_i t M X Y ho;split at hk
   ·cases hk
   ·split at hk
    ·rename_i i c ky n hM hX hY
     exact yZ hc.tt hc.eq hc.mt ho (hgf (b:=true) rfl) hk h (aV hM hr) (aV hX hr) (dX (aV hY hr)) hK
    ·cases hk
 ·cases hk
end
end Go.Am
end
section
namespace Go.Am
def aQ(l:List Oper)(a a':Act):Prop:=∀s,(∀o,o∈l→o.dst≠some s)→a'.tmps.getD s undef=a.tmps.getD s undef
theorem aQ.refl(l:List Oper)(a:Act):aQ l a a:=fun _ _=>rfl
theorem aQ.trans{l:List Oper}{a b c:Act}(h:aQ l a b)(k:aQ l b c):aQ l a c:=fun s hs=>(k s hs).trans (h s hs)
theorem aQ.sub{l l':List Oper}{a b:Act}(h:aQ l a b)(hs:∀o,o∈l→o∈l'):aQ l' a b:=fun s k=>h s fun o ho=>k o (hs o ho)
theorem nK{a:Act}{d:Option Nat}{v:Value}{s:Nat}(h:d≠some s):(a.put d v).tmps.getD s undef=a.tmps.getD s undef:=by
 cases d with
 |none=>rfl
 |some d=>
  simp only[Act.put,Array.getD_eq_getD_getElem?];rw[Array.getElem?_setIfInBounds_ne (by intro e;exact h (by rw[e]))]
theorem aQ.one{o:Oper}{a:Act}{v:Value}:aQ [o] a (a.put o.dst v):=fun s hs=>nK (hs o (List.mem_cons_self ..))
def bQ(dec:List (Nat×Bool))(a:Act):Prop:=∀s b,dz dec s=some b→a.tmps.getD s undef= .bool b
theorem vg(l:List (Nat×Bool)):bD none l=l:=by cases l<;>rfl
theorem ni{d s:Nat}{b:Bool}:∀{l:List (Nat×Bool)},dz (bD (some d) l) s=some b→s≠d∧dz l s=some b
 |[],h=>by cases h
 |x::r,h=>by
  simp only[bD] at h;split at h
  ·rename_i hx
   have:=ni h;refine⟨this.1,?_⟩;have hne:Nat.beq x.1 s=false:=by
    cases e:Nat.beq x.1 s with
    |false=>rfl
    |true=>exact absurd ((Nat.eq_of_beq_eq_true e).symm.trans (Nat.eq_of_beq_eq_true hx)) this.1
   simp only[dz,hne];exact this.2
  ·rename_i hx
   simp only[dz] at h⊢;split at h
   ·rename_i hs
    exact⟨fun e=>by rw[Nat.eq_of_beq_eq_true hs,e] at hx;simp at hx,h⟩
   ·exact ni h
theorem bQ.rm{dec:List (Nat×Bool)}{a a':Act}{o:Oper}(h:bQ dec a)(ht:aQ [o] a a'):bQ (bD o.dst dec) a':=by
 intro s b hl;cases hd:o.dst with
 |none=>
  rw[hd,vg] at hl;rw[ht s (fun o' ho'=>by simp at ho';subst ho';rw[hd];simp)];exact h s b hl
 |some d=>
  rw[hd] at hl;obtain⟨h1,h2⟩:=ni hl;rw[ht s (fun o' ho'=>by simp at ho';subst ho';rw[hd];simp;exact fun e=>h1 e.symm)];exact h s b h2
theorem qi{s:Nat}{b:Bool}:∀{l:List Oper} {dec:List (Nat×Bool)},dz (fF l dec) s=some b→(∀o,o∈l→o.dst≠some s)∧dz dec s=some b
 |[],_,h=>⟨fun o ho=>(List.not_mem_nil ho).elim,h⟩
 |o::r,dec,h=>by
  simp only[fF] at h;cases hd:o.dst with
  |none=>
   rw[hd,vg] at h;obtain⟨h1,h2⟩:=qi (l:=r) h;exact⟨fun o' ho'=>by rcases List.mem_cons.1 ho' with rfl|ho';(rw[hd];simp);exact h1 o' ho',h2⟩
  |some d=>
   rw[hd] at h;obtain⟨h0,h⟩:=ni h;obtain⟨h1,h2⟩:=qi (l:=r) h;exact⟨fun o' ho'=>by rcases List.mem_cons.1 ho' with rfl|ho';(rw[hd];intro e;exact h0 (by simpa using e.symm));exact h1 o' ho',h2⟩
theorem bQ.fF{dec:List (Nat×Bool)}{a a':Act}{l:List Oper}(h:bQ dec a)(ht:aQ l a a'):bQ (fF l dec) a':=by
 intro s b hl;obtain⟨h1,h2⟩:=qi hl;rw[ht s h1];exact h s b h2
theorem nV{all:Array Oper}{tm:Array Value}{j s:Nat}{b:Bool}(hd:fM all j=some s)(h:tm.getD s undef= .bool b):yielded all tm j=some b:=by
 unfold yielded;have h1:(all[j]?).bind (·.dst)=some s:=by
  unfold fM at hd;cases e:all[j]? with
  |none=>rw[e] at hd;cases hd
  |some o=>rw[e] at hd;exact hd
 rw[h1];simp only[Option.bind_some];rw[Array.getD_eq_getD_getElem?] at h;cases e:tm[s]? with
 |none=>rw[e] at h;simp[undef] at h
 |some v=>rw[e] at h;simp only[Option.getD_some] at h;subst h;rfl
theorem rA{all:Array Oper}{tm:Array Value}{j s:Nat}(hd:fM all j=some s)(h:tm.getD s undef=undef):yielded all tm j=none:=by
 unfold yielded;have h1:(all[j]?).bind (·.dst)=some s:=by
  unfold fM at hd;cases e:all[j]? with
  |none=>rw[e] at hd;cases hd
  |some o=>rw[e] at hd;exact hd
 rw[h1];simp only[Option.bind_some];rw[Array.getD_eq_getD_getElem?] at h;cases e:tm[s]? with
 |none=>rfl
 |some v=>rw[e] at h;simp only[Option.getD_some] at h;subst h;rfl
theorem vQ{s:Nat}:∀{l:List Oper} {g r:List Oper} {p:Oper},nR s l=some (g,p,r)→l=g++p::r∧∃x y,p.op= .pick (.tmp s) x y
 |[],_,_,_,h=>by cases h
 |o::l,g,r,p,h=>by
  simp only[nR] at h;split at h
  ·rename_i hp
   cases h;refine⟨rfl,?_⟩;split at hp
   ·rename_i t x y ho
    obtain rfl:=Nat.eq_of_beq_eq_true hp;exact⟨x,y,ho⟩
   ·cases hp
  ·split at h
   ·rename_i g' p' q' h'
    cases h;obtain⟨h1,h2⟩:=vQ h';exact⟨by rw[h1];rfl,h2⟩
   ·cases h
theorem sP(n:Nat):∀l,iC.mJ n l=true→n∈l
 |[],h=>by cases h
 |x::r,h=>by
  simp only[iC.mJ] at h;split at h
  ·rename_i e;rw[Nat.eq_of_beq_eq_true e];exact List.mem_cons_self ..
  ·exact List.mem_cons_of_mem _ (sP n r h)
section
variable{P:Program}{C:Ctx}{E0 E:Env}{Q:Exit→Act→World→Prop}{all:Array Oper}
theorem Inv.dead{N:Nat}{st:St}{a:Act}{o:Oper}{v:Value}(h:Inv N E0 E st a):Inv N E0 E (kL o st) (a.put o.dst v):=by
 unfold kL;cases hd:o.dst with
 |none=>exact h
 |some d=>exact⟨h.rep.dead v,h.fr,h.defers,by simp[Act.put,h.size],h.nx⟩
theorem Inv.cZ{N:Nat}{st:St}{a:Act}{o:Oper}(h:Inv N E0 E st a):Inv N E0 E (cZ o st) (a.put o.dst undef):=by
 unfold Am.cZ;cases hd:o.dst with
 |none=>exact h
 |some d=>
  refine⟨⟨fun s=> ?_,h.rep.ob,h.rep.lt,h.rep.dj,h.rep.nd,h.rep.bb,h.rep.zb⟩,h.fr,h.defers,by simp[Act.put,h.size],h.nx⟩;show ak E st.ob st.nx (upd st.sl d (.bZ .nil) s) _;by_cases e:s=d
  ·subst e
   rw[upd_same];have:(a.put (some s) undef).tmps.getD s undef=undef:=by
    simp only[Act.put,Array.getD_eq_getD_getElem?];by_cases hlt:s<a.tmps.size
    ·rw[Array.getElem?_setIfInBounds_self_of_lt hlt];rfl
    ·rw[Array.getElem?_eq_none (by simpa using Nat.le_of_not_lt hlt)];rfl
   rw[this];exact⟨[undef],⟨[],rfl,rfl⟩,rfl⟩
  ·rw[aC _ _ _ _ e,nK (by simpa using fun h=>e h.symm)]
   exact h.rep.sl s
structure Stp(P:Program)(C:Ctx)(Q:Exit→Act→World→Prop)(all:Array Oper)(W:List Oper→Act→World→Prop):Prop where
 take:∀o l a w v,Region.wanted o (yielded all a.tmps)=true→still C o=true→(∀u,(dR o=false∨aB w u)→(execOp a.eval o).run P u= .ok (.value v) u)→W l (a.put o.dst v) w→W (o::l) a w
 o_:∀o l a w,Region.wanted o (yielded all a.tmps)=true→still C o=false→o.wp P a w (fun a' w'=>(gK o=true→aB w w')∧W l a' w') Q→W (o::l) a w
 skip:∀o l a w,Region.wanted o (yielded all a.tmps)=false→W l (a.put o.dst undef) w→W (o::l) a w
theorem vY{o:Oper}{a:Act}{w:World}{F:Prop}(h:o.wp P a w (fun _ _=>F) (fun _ _ _=>False)):F:=by
 unfold Oper.wp at h;generalize(execOp a.eval o).run P w=q at h;cases q with
 |ok n w'=>
  cases n<;>simp only[Oper.upon] at h<;>first|exact h|exact h.elim|skip
  ·obtain⟨e,w'',fr,hR,_⟩:=h []
   cases e with
   |returned v=>exact hR
   |panicked c=>exact hR.elim
   |outgrown=>obtain⟨_,_,hf⟩:=hR;exact hf.elim
  ·obtain⟨v,w'',hR,_⟩:=h default []
   exact hR
 |halt x w'=>cases x<;>simp only[Oper.upon] at h<;>exact h.elim
variable{W:List Oper→Act→World→Prop}
theorem vN(hW:Stp P C Q all W){s:Nat}{want:Bool}:∀(aD:List Oper) (acc:List Nat) (a:Act) (w:World) (rest:List Oper),iC all s want acc aD=true→a.tmps.getD s undef= .bool (!want)→
 (∀q,q∈acc→q≠s→a.tmps.getD q undef=undef)→
 (∀a',aQ aD a a'→a'.tmps.size=a.tmps.size→a'.defers=a.defers→W rest a' w)→W (aD++rest) a w
 |[],acc,a,w,rest,_,_,_,hK=>hK a (aQ.refl _ _) rfl rfl
 |o::aD,acc,a,w,rest,h,hs,hacc,hK=>by
  simp only[iC,Bool.and_eq_true,Bool.not_eq_true'] at h;obtain⟨h1,h2,h3⟩:=h;have hds:o.dst≠some s:=by
   intro e;rw[e] at h1;simp[qc] at h1
  have hnw:Region.wanted o (yielded all a.tmps)=false:=by
   split at h2
   ·rename_i j w' hg
    split at h2
    ·rename_i s' hd
     simp only[Bool.or_eq_true,Bool.and_eq_true,Bool.not_eq_true',beq_iff_eq] at h2;unfold Region.wanted;rw[hg];simp only;rcases h2 with⟨e1,e2⟩|⟨e1,e2⟩
     ·obtain rfl:=Nat.eq_of_beq_eq_true e1
      subst e2;rw[nV hd hs];cases w'<;>rfl
     ·rw[rA hd (hacc _ (sP _ _ e2) (fun e=>by rw[e] at e1;simp at e1))]
      rfl
    ·cases h2
   ·cases h2
  refine hW.skip _ _ _ _ hnw ?_;refine vN hW aD (sK o.dst acc) (a.put o.dst undef) w rest h3 (by rw[nK hds];exact hs) ?_ ?_
  ·intro q hq yx
   by_cases p_:o.dst=some q
   ·rw[p_]
    simp only[Act.put,Array.getD_eq_getD_getElem?];by_cases hlt:q<a.tmps.size
    ·rw[Array.getElem?_setIfInBounds_self_of_lt hlt];rfl
    ·rw[Array.getElem?_eq_none (by simpa using Nat.le_of_not_lt hlt)];rfl
   ·rw[nK p_]
    refine hacc q ?_ yx;cases hd:o.dst with
    |none=>rw[hd] at hq;exact hq
    |some d=>
     rw[hd] at hq;rcases List.mem_cons.1 hq with rfl|hq
     ·exact absurd hd p_
     ·exact hq
  ·intro a' ht hsz hdf
   refine hK a' ?_ (by rw[hsz];cases o.dst<;>simp[Act.put]) (by rw[hdf];cases o.dst<;>rfl);exact aQ.trans (aQ.one.sub (fun q hq=>by simp at hq;subst hq;exact List.mem_cons_self ..)) (ht.sub fun q hq=>List.mem_cons_of_mem _ hq)
theorem o9:∀(aD:List Oper) (st:St) (s:Nat),(bJ aD st).sl s= .dead∨((bJ aD st).sl s=st.sl s∧∀o,o∈aD→o.dst≠some s)
 |[],st,s=> .inr ⟨rfl,fun o ho=>(List.not_mem_nil ho).elim⟩
 |o::aD,st,s=>by
  simp only[bJ,kL];cases hd:o.dst with
  |none=>
   simp only;rcases o9 aD st s with h|⟨h1,h2⟩
   ·exact .inl h
   ·exact .inr ⟨h1,fun q hq=>by rcases List.mem_cons.1 hq with rfl|hq;(rw[hd];simp);exact h2 q hq⟩
  |some d=>
   simp only;by_cases e:s=d
   ·subst e;exact .inl (upd_same _ _ _)
   ·rw[aC _ _ _ _ e]
    rcases o9 aD st s with h|⟨h1,h2⟩
    ·exact .inl h
    ·exact .inr ⟨h1,fun q hq=>by rcases List.mem_cons.1 hq with rfl|hq;(rw[hd];intro k;exact e (by simpa using k.symm));exact h2 q hq⟩
theorem o8:∀(aD:List Oper) (st:St),(bJ aD st).ob=st.ob∧(bJ aD st).nx=st.nx
 |[],st=>⟨rfl,rfl⟩
 |o::aD,st=>by
  simp only[bJ,kL];cases o.dst with
  |none=>exact o8 aD st
  |some d=>exact o8 aD st
theorem Inv.bJ{N:Nat}{st:St}{a a':Act}{aD:List Oper}(h:Inv N E0 E st a)(ht:aQ aD a a')(hsz:a'.tmps.size=a.tmps.size)(hdf:a'.defers=a.defers):Inv N E0 E (bJ aD st) a':=by
 obtain⟨h1,h2⟩:=o8 aD st;refine⟨⟨fun s=> ?_,?_,?_,h.rep.dj,h.rep.nd,h.rep.bb,h.rep.zb⟩,h.fr,by rw[hdf];exact h.defers,by rw[hsz];exact h.size,by rw[h2];exact h.nx⟩
 ·rw[h1,h2]
  rcases o9 aD st s with h3|⟨h3,h4⟩
  ·rw[h3];trivial
  ·rw[h3,ht s h4];exact h.rep.sl s
 ·rw[h1,h2];exact h.rep.ob
 ·rw[h1,h2];exact h.rep.lt
theorem uY(hW:Stp P C Q all W){st:St}{a a1:Act}{pk:Oper}{X Y:Operand}{s d:Nat}{b v:Bool}{w1:World}{dec:List (Nat×Bool)}{aD rest:List Oper}(hi:Inv C.N E0 E st a)(hg:aB E.w w1)(ht:aQ aD a a1)
 (hsz:a1.tmps.size=a.tmps.size) (hdf:a1.defers=a.defers) (hop:pk.op= .pick (.tmp s) X Y) (hd:pk.dst=some d) (hdN:d<C.N) (hpk:qK all (fF aD dec) pk=true) (hdec:bQ dec a)
 (hs:a1.tmps.getD s undef= .bool b) (hv:(if b then a1.eval X else a1.eval Y)= .bool v)
 (hK:∀a2,aQ (aD++[pk]) a a2→Inv C.N E0 {E with w:=w1} {(bJ aD st) with sl:=upd (bJ aD st).sl d (.ro none ⟨.bool,v⟩)} a2→bQ (bD (some d) (fF aD dec)) a2→W rest a2 w1):
 W (pk::rest) a1 w1:=by
 have tO:=hdec.fF ht;have hw:Region.wanted pk (yielded all a1.tmps)=true:=by
  unfold Region.wanted;unfold qK at hpk;split at hpk
  ·rename_i hg;rw[hg]
  ·rename_i j w hg
   rw[hg];simp only;split at hpk
   ·rename_i s' hds
    split at hpk
    ·rename_i v' hl
     rw[nV hds (tO _ _ hl)];simp only[beq_iff_eq] at hpk;subst hpk;simp
    ·cases hpk
   ·cases hpk
 have hinv:Inv C.N E0 {E with w:=w1} (bJ aD st) a1:=(hi.grew hg).bJ ht hsz hdf;refine hW.take _ _ _ _ (.bool v) hw (by simp[still,hop]) ?_ ?_
 ·intro u _
  unfold execOp;have hc:a1.eval (.tmp s)= .bool b:=hs;simp only[hop,hc];cases b<;>simpa[asBool] using hv
 ·have hput:=hinv.put (d:=d) (c:= .ro none ⟨.bool,v⟩) (v:= .bool v) hdN (gD ..)
  have htp:aQ [pk] a1 (a1.put pk.dst (.bool v)):=aQ.one;rw[hd] at htp⊢;refine hK _ (aQ.trans (ht.sub fun q hq=>List.mem_append.2 (.inl hq)) (htp.sub fun q hq=>List.mem_append.2 (.inr hq))) hput ?_;have:=tO.rm (o:=pk) (a':=a1.put (some d) (.bool v)) htp;rw[hd] at this;exact this
theorem nI(hc:cz P C){R:Type}{o:Oper}{st:St}{k:St→Option R}{r:R}{a:Act}{K:Act→World→Prop}{g pure:Bool}{dec:List (Nat×Bool)}(hdec:bQ dec a)(bN:g=true→pure=true)
 (hk:dL C pure dec o st k=some r) (h:Inv C.N E0 E st a)
 (hK:∀st' E' v,k st'=some r→Inv C.N E0 E' st' (a.put o.dst v)→aL P C g o a v E.w E'.w→K (a.put o.dst v) E'.w):o.wp P a E.w K Q:=by
 unfold dL at hk;split at hk
 ·rename_i z hz
  split at hk
  ·rename_i c hc'
   have hp:∃s x y v,o.op= .pick (.tmp s) x y∧dz dec s=some v∧z=(if v then x else y):=by
    unfold uX at hz;split at hz
    ·rename_i s x y ho
     split at hz
     ·rename_i hl;obtain rfl:=Option.some.inj hz;exact⟨s,_,y,true,ho,hl,rfl⟩
     ·rename_i hl;obtain rfl:=Option.some.inj hz;exact⟨s,x,_,false,ho,hl,rfl⟩
     ·cases hz
    ·cases hz
   obtain⟨s,x,y,v,ho,hl,hzz⟩:=hp;subst hzz;have hs:=hdec s v hl;refine aP (v:=a.eval (if v then x else y)) hk h (fun u _=> ?_) (aV hc' h.rep) hK;have he:a.eval (.tmp s)= .bool v:=hs;unfold execOp;simp only[ho,he];cases v<;>simp[asBool]
  ·cases hk
 ·exact zh hc bN hk h hK
theorem u6(hc:cz P C)(hW:Stp P C Q all W):∀(n:Nat) (R:Type) (pure:Bool) (dec:List (Nat×Bool)) (l:List Oper) (st:St) (k:St→Option R) (r:R) (E:Env) (a:Act) (rest:List Oper) (g:Bool),
 dA C all R n pure dec l st k=some r→(g=true→pure=true)→Inv C.N E0 E st a→bQ dec a→
 (∀st' E' a',k st'=some r→Inv C.N E0 E' st' a'→(g=true→aB E.w E'.w)→aQ l a a'→W rest a' E'.w)→W (l++rest) a E.w:=by
 intro n
 induction n with
 |zero=>intro R pure dec l st k r E a rest g hk;cases l<;>cases hk
 |succ n ih=>
  intro R pure dec l st k r E a rest g hk bN hi hdec hK;cases l with
  |nil=>exact hK st E a hk hi (fun _=>aB.refl _) (aQ.refl _ _)
  |cons o l=>
   have kQ:Region.wanted o (yielded all a.tmps)=true→dL C pure dec o st (fun s1=>dA C all R n pure (bD o.dst dec) l s1 k)=some r→W (o::(l++rest)) a E.w:=by
    intro hw hk;have go:∀st' E' v,dA C all R n pure (bD o.dst dec) l st' k=some r→Inv C.N E0 E' st' (a.put o.dst v)→(g=true→aB E.w E'.w)→W (l++rest) (a.put o.dst v) E'.w:=by
     intro st' E' v hk' hi' hg';refine ih R pure _ l st' k r E' _ rest g hk' bN hi' (hdec.rm aQ.one) fun gp iE a'' fu fq hg'' ht=> ?_;exact hK gp iE a'' fu fq (fun e=>(hg' e).trans (hg'' e)) (aQ.trans (aQ.one.sub fun q hq=>by simp at hq;subst hq;exact List.mem_cons_self ..) (ht.sub fun q hq=>List.mem_cons_of_mem _ hq))
    cases hs:still C o with
    |true=>
     refine vY (P:=P) (o:=o) (a:=a) (w:=E.w) ?_;refine nI (g:=g) hc hdec bN hk hi fun st' E' v hk' hi' fT=> ?_;obtain⟨e1,e2⟩:=fT.run hs;have:=go st' E' v hk' hi' fT.grew;rw[e1] at this;exact hW.take _ _ _ _ v hw hs e2 this
    |false=>
     refine hW.o_ _ _ _ _ hw hs ?_;exact nI (g:=g) hc hdec bN hk hi fun st' E' v hk' hi' fT=>⟨fT.al,go st' E' v hk' hi' fT.grew⟩
   simp only[dA] at hk;show W (o::(l++rest)) a E.w;split at hk
   ·rename_i hg
    exact kQ (by simp[Region.wanted,hg]) hk
   ·rename_i j want hg
    split at hk
    ·cases hk
    ·rename_i s hds
     split at hk
     ·rename_i v hl
      have hy:=nV hds (hdec s v hl);split at hk
      ·rename_i hvw
       simp only[beq_iff_eq] at hvw;subst hvw;exact kQ (by simp[Region.wanted,hg,hy]) hk
      ·rename_i hvw
       refine hW.skip _ _ _ _ (by simp only[Region.wanted,hg,hy];cases v<;>cases want<;>first|rfl|(exact absurd rfl hvw)|(simp at hvw)) ?_;refine ih R pure _ l (cZ o st) k r E _ rest g hk bN hi.cZ (hdec.rm aQ.one) fun gp iE a'' fu fq hg'' ht=> ?_;exact hK gp iE a'' fu fq hg'' (aQ.trans (aQ.one.sub fun q hq=>by simp at hq;subst hq;exact List.mem_cons_self ..) (ht.sub fun q hq=>List.mem_cons_of_mem _ hq))
     ·split at hk
      ·rename_i b hsl
       split at hk
       ·have hsv:a.tmps.getD s undef= .bool b:=by
         have:=hi.rep.sl s;rw[hsl] at this;exact gY this
        have tN:bQ ((s,b)::dec) a:=by
         intro q b' hl;simp only[dz] at hl;split at hl
         ·rename_i e;cases hl;rw[←Nat.eq_of_beq_eq_true e];exact hsv
         ·exact hdec q b' hl
        cases b with
        |true=>exact ih R pure _ (o::l) st k r E a rest g hk bN hi tN hK
        |false=>exact ih R pure _ (o::l) st k r E a rest g hk bN hi tN hK
       split at hk
       ·rename_i aD pk rest' hsp
        obtain⟨hl1,X',Y',hop⟩:=vQ hsp;split at hk
        ·rename_i x y hop'
         rw[hop] at hop';cases hop';split at hk
         ·rename_i d hd
          split at hk
          ·rename_i kX
           simp only[Bool.and_eq_true] at kX;obtain⟨hdN,tY,hpk⟩:=kX;have hdN:=Nat.le_of_ble_eq_true hdN;have hsv:a.tmps.getD s undef= .bool b:=by
            have:=hi.rep.sl s;rw[hsl] at this;exact gY this
           have tX:∀q,q∈aD→q.dst≠some s:=by
            have:∀(aD:List Oper) (acc:List Nat),iC all s want acc aD=true→∀q,q∈aD→q.dst≠some s:=by
             intro aD
             induction aD with
             |nil=>intro acc _ q hq;simp at hq
             |cons o' aD ih'=>
              intro acc h q hq;simp only[iC,Bool.and_eq_true,Bool.not_eq_true'] at h;rcases List.mem_cons.1 hq with rfl|hq
              ·intro e;rw[e] at h;simp[qc] at h
              ·exact ih' _ h.2.2 q hq
            exact this aD [] tY
           obtain⟨v,hv,hk⟩:=Option.bind_eq_some_iff.1 hk;rw[show(o::(l++rest))=aD++(pk::(rest'++rest)) by rw[←List.cons_append,hl1];simp];have hmem:∀q,q∈aD++[pk]→q∈o::l:=by rw[hl1];intro q hq;simp only[List.mem_append,List.mem_singleton] at hq;rcases hq with hq|rfl<;>simp[*]
           have fin:∀w1 a2,aB E.w w1→aQ (aD++[pk]) a a2→Inv C.N E0 {E with w:=w1} {(bJ aD st) with sl:=upd (bJ aD st).sl d (.ro none ⟨.bool,v⟩)} a2→
            bQ (bD (some d) (fF aD dec)) a2→W (rest'++rest) a2 w1:=by
            intro w1 a2 hg1 ht2 hi2 hd2;refine ih R pure _ rest' _ k r {E with w:=w1} a2 rest g hk bN hi2 hd2 fun gp iE a'' fu fq hg'' ht=> ?_;exact hK gp iE a'' fu fq (fun e=>hg1.trans (hg'' e)) (aQ.trans (ht2.sub hmem) (ht.sub fun q hq=>by rw[hl1];simp[hq]))
           have out:b= !want→(if b then fO C (bJ aD st) X' else fO C (bJ aD st) Y')=some v→W (aD++(pk::(rest'++rest))) a E.w:=by
            intro hb hev;refine vN hW aD [] a E.w _ tY (by rw[hsv,hb]) (fun q hq=>by simp at hq) fun a1 ht hsz hdf=> ?_;have hi1:=hi.bJ ht hsz hdf;refine uY hW (b:=b) (v:=v) hi (aB.refl _) ht hsz hdf hop hd hdN hpk hdec (by rw[ht s tX];exact hsv) ?_ fun a2 ht2 hi2 hd2=>fin E.w a2 (aB.refl _) ht2 hi2 hd2;cases b with
            |true=>exact kR hev hi1.rep
            |false=>exact kR hev hi1.rep
           have iw:∀z,z=(if b then X' else Y')→dA C all Bool n true ((s,b)::dec) aD st (fun s1=>fO C s1 z)=some v→W (aD++(pk::(rest'++rest))) a E.w:=by
            intro z hz hev;refine ih Bool true _ aD st _ v E a (pk::(rest'++rest)) true hev (fun _=>rfl) hi ?_ ?_
            ·intro q b' hl
             simp only[dz] at hl;split at hl
             ·rename_i e;cases hl;rw[←Nat.eq_of_beq_eq_true e];exact hsv
             ·exact hdec q b' hl
            ·intro st1 E1 a1 yg hi1 hg1 ht1
             refine uY hW (b:=b) (v:=v) hi (hg1 rfl) ht1 (by rw[hi1.size,hi.size]) (by rw[hi1.defers,hi.defers]) hop hd hdN hpk hdec (by rw[ht1 s tX];exact hsv) ?_ fun a2 ht2 hi2 hd2=>fin E1.w a2 (hg1 rfl) ht2 hi2 hd2;have:=kR yg hi1.rep;rw[hz] at this;cases b with
             |true=>exact this
             |false=>exact this
           cases b with
           |true=>
            cases want with
            |true=>exact iw X' rfl hv
            |false=>exact out rfl hv
           |false=>
            cases want with
            |true=>exact out rfl hv
            |false=>exact iw Y' rfl hv
          ·cases hk
         ·cases hk
        ·cases hk
       ·cases hk
      ·rename_i hsl
       have hsv:a.tmps.getD s undef=undef:=by
        have:=hi.rep.sl s;rw[hsl] at this;obtain⟨cs,⟨vs,h1,h2⟩,h3⟩:=this;have h2:vs=[]:=h2;have h3:cs=[_]:=h3;rw[h3,h2] at h1;simpa[undef] using h1
       refine hW.skip _ _ _ _ (by simp only[Region.wanted,hg,rA hds hsv];rfl) ?_;refine ih R pure _ l (cZ o st) k r E _ rest g hk bN hi.cZ (hdec.rm aQ.one) fun gp iE a'' fu fq hg'' ht=> ?_;exact hK gp iE a'' fu fq hg'' (aQ.trans (aQ.one.sub fun q hq=>by simp at hq;subst hq;exact List.mem_cons_self ..) (ht.sub fun q hq=>List.mem_cons_of_mem _ hq))
      ·cases hk
theorem Ab:Stp P C Q all (wpList P all Q) where
 take:=fun o l a w v hw hs hr h=>by
  unfold wpList;rw[if_pos hw];exact .inl (eH (hr w (.inr (aB.refl _))) h)
 o_:=fun o l a w hw hs h=>by
  unfold wpList;rw[if_pos hw];exact .inl (Oper.wp_mono (fun _ _ h=>h.2) h)
 skip:=fun o l a w hw h=>by
  unfold wpList;rw[if_neg (by rw[hw];simp)];exact h
end
end Go.Am
end
section
namespace Go.Am
section
variable{P:Program}{ops:Array Oper}{Q:Exit→Act→World→Prop}{md:Region.Mode}{T:Nat→Bool}
def gT(P:Program)(md:Region.Mode)(ops:Array Oper)(T:Nat→Bool)(Q:Exit→Act→World→Prop):Nat→Array Bool→Act→World→Prop
 |0,listed,a,w=>Region.ready md ops listed=[]∧Q .normal a w
 |fuel+1,listed,a,w=>
  (Region.ready md ops listed=[]→Q .normal a w)∧
  ∀i∈Region.ready md ops listed,wpOp P ops Q i (fun a' w'=>(T i=true→aB w w')∧gT P md ops T Q fuel (listed.setIfInBounds i true) a' w') a w
theorem rz:∀(fuel:Nat) (listed:Array Bool) (a:Act) (w:World),gT P md ops T Q fuel listed a w→wpAny P md ops Q fuel listed a w
 |0,_,_,_,h=>h
 |fuel+1,_,_,_,h=>⟨h.1,fun i hi=>wpOp_mono (fun a' w' h'=>rz fuel _ a' w' h'.2) (h.2 i hi)⟩
theorem nU{i:Nat}{oi:Oper}{v:Value}{ld:Bool}(hi:ops[i]?=some oi)(hsel:∀(j:Nat) (o:Oper) cs b,ops[j]?=some o→o.op≠ .select cs b)
 (hQ:∀c a w,Q (.panic c) (a.put oi.dst v) w→Q (.panic c) a w):
 ∀(fuel:Nat) (listed:Array Bool) (a:Act) (w:World),
  (∀j oj,ops[j]?=some oj→j≠i→listed.getD j true=false→(∀e∈oj.after,Region.binds md e=true→e.on≠i)→oi.apart ops oj=true∧(ld=true→T j=true))→
  i∈Region.ready md ops listed→YieldsIf P ops (fun u=>ld=false∨aB w u) oi v a→
  gT P md ops T Q fuel (listed.setIfInBounds i true) (a.put oi.dst v) w→gT P md ops T Q (fuel+1) listed a w:=by
 intro fuel
 induction fuel with
 |zero=>
  intro listed a w _ hr hy H;refine⟨fun h=>(by rw[h] at hr;cases hr),fun j hj=> ?_⟩;by_cases hji:j=i
  ·subst hji;exact hy.wpOp hi (.inr (aB.refl _)) ⟨fun _=>aB.refl _,H⟩
  ·have:=ready_mono hj hji
   rw[H.1] at this;cases this
 |succ fuel ih=>
  intro listed a w hfree hr hy H;refine⟨fun h=>(by rw[h] at hr;cases hr),fun j hj=> ?_⟩;by_cases hji:j=i
  ·subst hji;exact hy.wpOp hi (.inr (aB.refl _)) ⟨fun _=>aB.refl _,H⟩
  ·have h1:=H.2 j (ready_mono hj hji)
   obtain⟨hjun,oj,hoj,hall⟩:=mem_ready.1 hj;have hnot:∀e∈oj.after,Region.binds md e=true→e.on≠i:=fun e he hb heq=>by
    have h1:=hall e he hb;have h0:=(mem_ready.1 hr).1;rw[heq] at h1;rcases Nat.lt_or_ge i listed.size with h'|h'
    ·simp[h'] at h0 h1;rw[h0] at h1;cases h1
    ·simp[Array.getElem?_eq_none h'] at h1
   obtain⟨hap,hT⟩:=hfree j oj hoj hji hjun hnot;have h2:=wpOp_putIf hoj hap (fun cs b=>hsel i oi cs b hi) (fun cs b=>hsel j oj cs b hoj) hQ hy h1
   have hfree':∀k ok,ops[k]?=some ok→k≠i→(listed.setIfInBounds j true).getD k true=false→
    (∀e∈ok.after,Region.binds md e=true→e.on≠i)→oi.apart ops ok=true∧(ld=true→T k=true):=fun k ok hk hki hun hno=>by
    refine hfree k ok hk hki ?_ hno;by_cases hjk:j=k
    ·subst hjk;exact hjun
    ·rw[getD_set_ne true hjk] at hun;exact hun
   refine wpOp_mono (fun a' w' h3=>⟨h3.2.1,ih (listed.setIfInBounds j true) a' w' hfree' (ready_mono hr (Ne.symm hji)) ?_ ?_⟩) h2
   ·rcases h3.1 with⟨p1,p2⟩|p
    ·refine .inl ⟨p1,fun u hu=>p2 u ?_⟩
     rcases hu with hu|hu
     ·exact .inl hu
     ·cases ld with
      |false=>exact .inl rfl
      |true=>exact .inr ((h3.2.1 (hT rfl)).trans hu)
    ·exact .inr p
   ·rw[Array.setIfInBounds_comm _ _ hji]
    exact h3.2.2
end
def calm(Q:Exit→Act→World→Prop):Exit→Act→World→Prop
 | .normal,a,w=>Q .normal a w
 |_,_,_=>False
section
variable{P:Program}{C:Ctx}{E0 E:Env}{Q:Exit→Act→World→Prop}{ops:Array Oper}
def fG(C:Ctx)(ops:Array Oper)(j:Nat):Bool:=
 match ops[j]? with
 |some o=>nA C o
 |none=>true
def xA(P:Program)(C:Ctx)(Q:Exit→Act→World→Prop)(ops:Array Oper)(l:List Oper)(a:Act)(w:World):Prop:=
 ∀(rest:List Nat) (listed:Array Bool),rest.map (fun i=>ops[i]?)=l.map some→h_ C ops listed rest=true→gT P .any ops (fG C ops) (calm Q) l.length listed a w
theorem mU{listed:Array Bool}{i:Nat}{o:Oper}(hi:ops[i]?=some o)(hf:Region.free .any ops listed i=true)(hl:dR o=true→ng C ops listed i=true):
 ∀j oj,ops[j]?=some oj→j≠i→listed.getD j true=false→(∀e∈oj.after,Region.binds .any e=true→e.on≠i)→o.apart ops oj=true∧(dR o=true→fG C ops j=true):=by
 intro j oj hj hne hun hno;refine⟨Region.free_spec hi hf j oj hj hne hun hno,fun h=> ?_⟩;have h:=hl h;simp only[ng,List.all_eq_true,List.mem_range] at h;have h1:=h j (Array.getElem?_eq_some_iff.1 hj).1;simp only[hj,Bool.or_eq_true,beq_iff_eq,hne,false_or,hun,Bool.false_eq_true] at h1;simp only[fG,hj];rcases h1 with h1|h1
 ·obtain⟨e,he,hb⟩:=Array.any_eq_true'.1 h1
  simp only[Bool.and_eq_true,beq_iff_eq] at hb;exact absurd hb.2 (hno e he hb.1)
 ·exact h1
theorem qH{o:Oper}{l:List Oper}{i:Nat}{listed:Array Bool}{a:Act}{w:World}(hr:Region.ready .any ops listed=[i])
 (h:wpOp P ops (calm Q) i (fun a' w'=>(fG C ops i=true→aB w w')∧gT P .any ops (fG C ops) (calm Q) l.length (listed.setIfInBounds i true) a' w') a w):
 gT P .any ops (fG C ops) (calm Q) (o::l).length listed a w:=
 by
 simp only[List.length_cons,gT];refine⟨fun e=> ?_,fun j hj=> ?_⟩
 ·rw[hr] at e;cases e
 ·rw[hr] at hj
  obtain rfl:=List.mem_singleton.1 hj;exact h
theorem Aa(hsel:Region.noSelect ops=true):Stp P C (calm Q) ops (xA P C Q ops) where
 take:=fun o l a w v hw hs hrun h=>by
  intro rest listed hm hok;cases rest with
  |nil=>cases hm
  |cons i rest=>
   simp only[List.map_cons,List.cons.injEq] at hm;obtain⟨hi,hm⟩:=hm;simp only[h_,hi,Bool.and_eq_true] at hok;have hy:YieldsIf P ops (fun u=>dR o=false∨aB w u) o v a:= .inl ⟨hw,hrun⟩;have H:=h rest _ hm hok.2;rcases Bool.or_eq_true_iff.1 hok.1 with h1|h1
   ·simp only[Bool.and_eq_true] at h1
    obtain⟨h1,h2,h3,h4⟩:=h1;refine nU hi (Region.noSelect_spec hsel) (fun c a w hq=>hq) l.length listed a w (mU hi h2 (fun e=>by simpa[e] using h4)) (by simpa using h3) hy H
   ·split at h1
    ·rename_i j hr
     obtain rfl:=Nat.eq_of_beq_eq_true h1;exact qH hr (hy.wpOp hi (.inr (aB.refl _)) ⟨fun _=>aB.refl _,H⟩)
    ·cases h1
 o_:=fun o l a w hw hs h=>by
  intro rest listed hm hok;cases rest with
  |nil=>cases hm
  |cons i rest=>
   simp only[List.map_cons,List.cons.injEq] at hm;obtain⟨hi,hm⟩:=hm;simp only[h_,hi,hs,Bool.false_and,Bool.false_or,Bool.and_eq_true] at hok;obtain⟨h1,h2⟩:=hok;split at h1
   ·rename_i j hr
    obtain rfl:=Nat.eq_of_beq_eq_true h1;refine qH hr ?_;unfold wpOp;simp only[hi,hw,if_true];refine .inl (Oper.wp_mono (fun a' w' h'=>⟨fun e=> ?_,h'.2 rest _ hm h2⟩) h);simp[fG,nA,hi,hs] at e;exact h'.1 e
   ·cases h1
 skip:=fun o l a w hw h=>by
  intro rest listed hm hok;cases rest with
  |nil=>cases hm
  |cons i rest=>
   simp only[List.map_cons,List.cons.injEq] at hm;obtain⟨hi,hm⟩:=hm;simp only[h_,hi,Bool.and_eq_true] at hok;have hy:YieldsIf P ops (fun u=>dR o=false∨aB w u) o undef a:= .inr ⟨hw,rfl⟩;have H:=h rest _ hm hok.2;rcases Bool.or_eq_true_iff.1 hok.1 with h1|h1
   ·simp only[Bool.and_eq_true] at h1
    obtain⟨h1,h2,h3,h4⟩:=h1;refine nU hi (Region.noSelect_spec hsel) (fun c a w hq=>hq) l.length listed a w (mU hi h2 (fun e=>by simpa[e] using h4)) (by simpa using h3) hy H
   ·split at h1
    ·rename_i j hr
     obtain rfl:=Nat.eq_of_beq_eq_true h1;exact qH hr (hy.wpOp hi (.inr (aB.refl _)) ⟨fun _=>aB.refl _,H⟩)
    ·cases h1
theorem xB(hc:cz P C){R:Type}{st:St}{k:St→Option R}{r:R}{a:Act}{id:Nat}(h:dA C ops R (ops.size+ops.size+1) false [] ops.toList st k=some r)
 (hok:(Region.noSelect ops&&h_ C ops (Array.replicate ops.size false) (List.range ops.size))=true) (hi:Inv C.N E0 E st a)
 (hn:∀st' E' a',k st'=some r→Inv C.N E0 E' st' a'→Q .normal a' E'.w):(Code.region id ops true).wp P Q a E.w:=by
 simp only[Bool.and_eq_true] at hok;refine Code.wp_mono (Q:=calm Q) (fun e a w q=>by cases e<;>first|exact q|exact q.elim) ?_;refine wp_region_any hc.mixed (rz (T:=fG C ops) _ _ _ _ ?_);have hi':=hi.grew (w:={E.w with drawn:=E.w.drawn+1}) ⟨rfl,rfl,rfl,Nat.le_refl _,fun _ _=>rfl⟩
 have:=u6 (Q:=calm Q) (all:=ops) (E0:=E0) hc (Aa (Q:=Q) hok.1) (ops.size+ops.size+1) R false [] ops.toList st k r _ a [] false h (by simp) hi' (fun s b hl=>by cases hl)
  (fun st' E' a' hk hi' _ _=>by
   intro rest listed hm hok';cases rest with
   |cons x r=>cases hm
   |nil=>
    refine⟨?_,hn st' E' a' hk hi'⟩;simpa[h_] using hok')
 have:=this (List.range ops.size) (Array.replicate ops.size false) ?_ hok.2
 ·simpa using this
 ·simp only[List.append_nil]
  apply List.ext_getElem?
  intro i;simp only[List.getElem?_map,List.getElem?_range'];by_cases hlt:i<ops.size
  ·simp[hlt]
  ·simp[hlt]
end
end Go.Am
end
section
namespace Go.Am
section
variable{R:Type}{C:Ctx}{o:Oper}
theorem bX(c:Cn)(st:St)(k:St→Option R):az C o c st k=(az C o c st some).bind k:=by
 unfold az;split
 ·rfl
 ·split<;>rfl
theorem dn{b:Bool}{x:Option R}{y:Option St}{k:St→Option R}(h:x=y.bind k):cond b x none=(cond b y none).bind k:=by
 cases b with
 |true=>exact h
 |false=>rfl
theorem b_{α:Type}{m:Option α}{f:α→Option R}{g:α→Option St}{k:St→Option R}(h:∀x,f x=(g x).bind k):m.bind f=(m.bind g).bind k:=by
 cases m with
 |none=>rfl
 |some x=>exact h x
theorem wS(op:BinOp)(t:TypeId)(x y:Cn)(st:St)(k:St→Option R):jw C o op t x y st k=(jw C o op t x y st some).bind k:=by
 unfold jw;repeat' (first|rfl|exact bX _ _ _|(refine dn ?_)|(refine b_ fun _=> ?_)|split)
theorem xE(op:BinOp)(t:TypeId)(x y:DV)(st:St)(k:St→Option R):jH C o op t x y st k=(jH C o op t x y st some).bind k:=by
 unfold jH;repeat' (first|rfl|exact bX _ _ _|(refine dn ?_)|(refine b_ fun _=> ?_)|split)
theorem Ah(op:UnOp)(x:Cn)(st:St)(k:St→Option R):j_ C o op x st k=(j_ C o op x st some).bind k:=by
 unfold j_;repeat' (first|rfl|exact bX _ _ _|(refine dn ?_)|(refine b_ fun _=> ?_)|split)
theorem z8(ty:TypeId)(i:Nat)(ix:Int)(path:List Nat)(c:Cn)(st:St)(k:St→Option R):storeT C.tt ty st i ix path c k=(storeT C.tt ty st i ix path c some).bind k:=by
 unfold storeT;repeat' (first|rfl|(refine dn ?_)|(refine b_ fun _=> ?_)|split)
theorem xh(d:Option Nat)(i:Nat)(st:St)(k:St→Option R):iJ d i st k=(iJ d i st some).bind k:=by
 unfold iJ;repeat' (first|rfl|(refine b_ fun _=> ?_)|split)
theorem zY(ty:TypeId)(a c:Cn)(st:St)(k:St→Option R):iD C.tt ty st a c k=(iD C.tt ty st a c some).bind k:=by
 unfold iD;repeat' (first|rfl|exact z8 _ _ _ _ _ _ _|exact bX _ _ _|(refine dn ?_)|(refine b_ fun _=> ?_)|split)
theorem yG(ty:TypeId)(a c:Cn)(st:St)(k:St→Option R):jN C o ty a c st k=(jN C o ty a c st some).bind k:=by
 unfold jN;repeat' (first|rfl|exact bX _ _ _|(refine dn ?_)|(refine b_ fun _=> ?_)|split)
theorem yI(ty:TypeId)(a c:Cn)(st:St)(k:St→Option R):jO C o ty a c st k=(jO C o ty a c st some).bind k:=by
 unfold jO;repeat' (first|rfl|exact bX _ _ _|(refine dn ?_)|(refine b_ fun _=> ?_)|split)
theorem zT(ty:TypeId)(a:Cn)(l h:Option Int)(st:St)(k:St→Option R):j3 C o ty a l h st k=(j3 C o ty a l h st some).bind k:=by
 unfold j3;repeat' (first|rfl|exact bX _ _ _|(refine dn ?_)|(refine b_ fun _=> ?_)|split)
theorem yR(ty:TypeId)(a:Cn)(st:St)(k:St→Option R):jS C o ty a st k=(jS C o ty a st some).bind k:=by
 unfold jS;repeat' (first|rfl|exact bX _ _ _|(refine dn ?_)|(refine b_ fun _=> ?_)|split)
theorem w_(t:TypeId)(a:Cn)(st:St)(k:St→Option R):jA C o t a st k=(jA C o t a st some).bind k:=by
 unfold jA;repeat' (first|rfl|exact bX _ _ _|split)
theorem wI(p:Bool)(t t2:TypeId)(a c:Cn)(st:St)(k:St→Option R):iH C p o t t2 a c st k=(iH C p o t t2 a c st some).bind k:=by
 unfold iH;repeat' (first|rfl|exact bX _ _ _|(refine dn ?_)|(refine b_ fun _=> ?_)|split)
theorem wL(t t2:TypeId)(a c:Cn)(st:St)(k:St→Option R):jr C o t t2 a c st k=(jr C o t t2 a c st some).bind k:=by
 unfold jr;repeat' (first|rfl|exact bX _ _ _|(refine dn ?_)|(refine b_ fun _=> ?_)|split)
theorem wJ(p:Bool)(t t2:TypeId)(a c:Cn)(st:St)(k:St→Option R):jq C p o t t2 a c st k=(jq C p o t t2 a c st some).bind k:=by
 unfold jq;repeat' (first|rfl|exact wI _ _ _ _ _ _ _|exact wL _ _ _ _ _ _|split)
theorem xy(t t2:TypeId)(a c:Cn)(st:St)(k:St→Option R):jF C o t t2 a c st k=(jF C o t t2 a c st some).bind k:=by
 unfold jF;repeat' (first|rfl|exact bX _ _ _|(refine dn ?_)|(refine b_ fun _=> ?_)|split)
theorem yX(t:TypeId)(n:Int)(st:St)(k:St→Option R):iW C o t n st k=(iW C o t n st some).bind k:=by
 unfold iW;repeat' (first|rfl|exact bX _ _ _|(refine dn ?_)|(refine b_ fun _=> ?_)|split)
theorem wX(p:Bool)(t:TypeId)(n:Nat)(ps:List (Nat×Operand))(st:St)(k:St→Option R):jy C p o t n ps st k=(jy C p o t n ps st some).bind k:=by
 unfold jy;repeat' (first|rfl|exact bX _ _ _|(refine dn ?_)|(refine b_ fun _=> ?_)|split)
theorem sF(p:Bool)(args:List Cn)(st:St)(k:St→Option R):∀l:List dh,gH C p o args st k l=(gH C p o args st some l).bind k
 |[]=>rfl
 |c::l=>by
  have ih:=sF p args st k l;simp only[gH];split
  ·split
   ·rfl
   ·split
    ·exact ih
    ·split
     ·rfl
     ·refine b_ fun y=> ?_
      rw[bX,bX _ _ (fun st2=>iJ _ _ st2 some),Option.bind_assoc]
      congr 1
      funext st2;exact xh _ _ _ _
  ·split
   ·exact ih
   ·repeat' (first|rfl|exact bX _ _ _|(refine dn ?_)|(refine b_ fun _=> ?_)|split)
theorem xw(ts td:TypeId)(c:Cn)(st:St)(k:St→Option R):jE C o ts td c st k=(jE C o ts td c st some).bind k:=by
 unfold jE;repeat' (first|rfl|exact bX _ _ _|(refine dn ?_)|(refine b_ fun _=> ?_)|split)
theorem y8{st:St}{t:TypeId}{i:Nat}{c:Cn}{f:(u:Ty)→IntKind→List (u.Den×Int)→u.Den→Option R}{g:(u:Ty)→IntKind→List (u.Den×Int)→u.Den→Option St}{k:St→Option R}
 (h:∀u kk l x,f u kk l x=(g u kk l x).bind k):gM C st t i c f=(gM C st t i c g).bind k:=by
 unfold gM;repeat' (first|rfl|exact h _ _ _ _|split)
theorem zg(p:Bool)(st:St)(k:St→Option R):jW C p o st k=(jW C p o st some).bind k:=by
 unfold jW
 repeat' (first|rfl|(first|exact bX _ _ _|exact wS _ _ _ _ _ _|exact Ah _ _ _ _|exact zY _ _ _ _ _|exact yG _ _ _ _ _|exact yI _ _ _ _ _)|(first|exact xE _ _ _ _ _ _|exact zT _ _ _ _ _ _|exact yR _ _ _ _|exact w_ _ _ _ _|exact wJ _ _ _ _ _ _ _|exact yX _ _ _ _|exact xy _ _ _ _ _ _|exact wX _ _ _ _ _ _|exact sF _ _ _ _ _|exact xw _ _ _ _ _)|(refine dn ?_)|(refine b_ fun _=> ?_)|(refine y8 fun u kk l x=> ?_)|split)
end
end Go.Am
end
section
namespace Go.Am
section
variable{P:Program}{C:Ctx}{E0 E:Env}{Q:Exit→Act→World→Prop}{ops:Array Oper}{R:Type}
theorem ny{i:Nat}{r:List Nat}:∀{l:List (List Nat)},r∈dB i l→(i::r)∈l
 |[],h=>by simp[dB] at h
 |[]::rest,h=>List.mem_cons_of_mem _ (ny (l:=rest) (by simpa[dB] using h))
 |(j::q)::rest,h=>by
  simp only[dB] at h;split at h
  ·rename_i e
   obtain rfl:=Nat.eq_of_beq_eq_true e;rcases List.mem_cons.1 h with rfl|h
   ·exact List.mem_cons_self ..
   ·exact List.mem_cons_of_mem _ (ny h)
  ·exact List.mem_cons_of_mem _ (ny h)
theorem xU{n:Nat}{listed:Array Bool}(h:eu C ops n listed []=true):False:=by
 cases n with
 |zero=>simp[eu] at h
 |succ n=>
  simp only[eu] at h;split at h
  ·simp at h
  ·cases h
theorem zf{dec:List (Nat×Bool)}{o:Oper}{p:Bool}{st:St}{k:St→Option R}:dL C p dec o st k=(dL C p dec o st some).bind k:=by
 unfold dL;split
 ·split
  ·exact bX _ _ _
  ·rfl
 ·exact zg _ _ _
def jG(ops:Array Oper)(dec:List (Nat×Bool))(o:Oper)(st:St):List (Nat×Bool):=
 match o.guard with
 |none=>dec
 |some (j,_)=>match fM ops j with
  |none=>dec
  |some s=>match dz dec s with
   |some _=>dec
   |none=>match st.sl s with
    | .ro none ⟨.bool,b⟩=>(s,b)::dec
    |_=>dec
theorem bQ.cons{dec:List (Nat×Bool)}{a:Act}{s:Nat}{b:Bool}(h:bQ dec a)(hs:a.tmps.getD s undef= .bool b):bQ ((s,b)::dec) a:=by
 intro s' b' hl;simp only[dz] at hl;split at hl
 ·rename_i e
  obtain rfl:=Nat.eq_of_beq_eq_true e;obtain rfl:=Option.some.inj hl;exact hs
 ·exact h s' b' hl
theorem qY{dec:List (Nat×Bool)}{o:Oper}{st:St}{a:Act}{K:List (Nat×Bool)→St→Option R}{r:R}(h:lT C ops dec o st K=some r)(hi:Inv C.N E0 E st a)(hdec:bQ dec a):
 bQ (jG ops dec o st) a∧((Region.wanted o (yielded ops a.tmps)=true∧∃st',dL C false (jG ops dec o st) o st some=some st'∧K (bD o.dst (jG ops dec o st)) st'=some r)∨
  (Region.wanted o (yielded ops a.tmps)=false∧K (bD o.dst (jG ops dec o st)) (cZ o st)=some r)):=by
 have kQ:∀d,dL C false d o st (K (bD o.dst d))=some r→∃st',dL C false d o st some=some st'∧K (bD o.dst d) st'=some r:=by
  intro d hd;rw[zf] at hd;exact Option.bind_eq_some_iff.1 hd
 have guarded:∀(d:List (Nat×Bool)) (v want:Bool) (j s:Nat),o.guard=some (j,want)→fM ops j=some s→a.tmps.getD s undef= .bool v→stepG C d v want o st K=some r→
  ((Region.wanted o (yielded ops a.tmps)=true∧∃st',dL C false d o st some=some st'∧K (bD o.dst d) st'=some r)∨(Region.wanted o (yielded ops a.tmps)=false∧K (bD o.dst d) (cZ o st)=some r)):=by
  intro d v want j s hg hds hs hk;have hy:=nV hds hs;unfold stepG at hk;split at hk
  ·rename_i hvw
   simp only[beq_iff_eq] at hvw;subst hvw;exact .inl ⟨by simp[Region.wanted,hg,hy],kQ _ hk⟩
  ·rename_i hvw
   refine .inr ⟨?_,hk⟩;simp only[Region.wanted,hg,hy];cases v<;>cases want<;>first|rfl|(exact absurd rfl hvw)|(simp at hvw)
 unfold lT at h;unfold jG;split at h
 ·rename_i hg
  rw[hg];exact⟨hdec,.inl ⟨by simp[Region.wanted,hg],kQ _ h⟩⟩
 ·rename_i j want hg
  rw[hg];simp only;split at h
  ·cases h
  ·rename_i s hds
   rw[hds];simp only;split at h
   ·rename_i v hl
    rw[hl];exact⟨hdec,guarded _ _ _ _ _ hg hds (hdec s v hl) h⟩
   ·rename_i hl
    rw[hl];simp only;split at h
    ·rename_i b hsl
     have hsv:a.tmps.getD s undef= .bool b:=by
      have:=hi.rep.sl s;rw[hsl] at this;exact gY this
     rw[hsl];simp only;cases b with
     |true=>exact⟨hdec.cons hsv,guarded _ _ _ _ _ hg hds hsv h⟩
     |false=>exact⟨hdec.cons hsv,guarded _ _ _ _ _ hg hds hsv h⟩
    ·rename_i hsl
     have hsv:a.tmps.getD s undef=undef:=by
      have:=hi.rep.sl s;rw[hsl] at this;obtain⟨cs,⟨vs,h1,h2⟩,h3⟩:=this;have h2:vs=[]:=h2;have h3:cs=[_]:=h3;rw[h3,h2] at h1;simpa[undef] using h1
     rw[hsl];simp only;exact⟨hdec,.inr ⟨by simp only[Region.wanted,hg,rA hds hsv];rfl,h⟩⟩
    ·cases h
theorem tT{i:Nat}{orders:List (List Nat)}{dec:List (Nat×Bool)}{st:St}{a:Act}{k:St→Option R}{r:R}(h:∀ord,ord∈orders→f_ C ops ord dec st k=some r)(hne:dB i orders≠[])(hi:Inv C.N E0 E st a)(hdec:bQ dec a):
 ∃o dec',ops[i]?=some o∧bQ dec' a∧((Region.wanted o (yielded ops a.tmps)=true∧∃st',dL C false dec' o st some=some st'∧∀ord,ord∈dB i orders→f_ C ops ord (bD o.dst dec') st' k=some r)∨
  (Region.wanted o (yielded ops a.tmps)=false∧∀ord,ord∈dB i orders→f_ C ops ord (bD o.dst dec') (cZ o st) k=some r)):=by
 have key:∀ord,ord∈dB i orders→∃o,ops[i]?=some o∧lT C ops dec o st (fun dec' st'=>f_ C ops ord dec' st' k)=some r:=by
  intro ord ho;have h1:=h _ (ny ho);simp only[f_] at h1;split at h1
  ·rename_i o hi
   exact⟨o,hi,h1⟩
  ·cases h1
 obtain⟨x,l,hx⟩:=List.exists_cons_of_ne_nil hne;obtain⟨o,ho,hs⟩:=key x (by rw[hx];exact List.mem_cons_self ..);obtain⟨q1,q2⟩:=qY hs hi hdec;refine⟨o,jG ops dec o st,ho,q1,?_⟩;have all:∀ord,ord∈dB i orders→lT C ops dec o st (fun dec' st'=>f_ C ops ord dec' st' k)=some r:=by
  intro ord kZ;obtain⟨o',ho',hs'⟩:=key ord kZ;rw[ho] at ho';cases ho';exact hs'
 rcases q2 with⟨hw,st',e1,_⟩|⟨hw,_⟩
 ·refine .inl ⟨hw,st',e1,fun ord kZ=> ?_⟩
  rcases(qY (all ord kZ) hi hdec).2 with⟨_,gp,sN,e2'⟩|⟨hw',_⟩
  ·rw[e1] at sN
   cases sN;exact e2'
  ·rw[hw] at hw';cases hw'
 ·refine .inr ⟨hw,fun ord kZ=> ?_⟩
  rcases(qY (all ord kZ) hi hdec).2 with⟨hw',_⟩|⟨_,e2'⟩
  ·rw[hw] at hw';cases hw'
  ·exact e2'
theorem xV(hc:cz P C)(hsel:Region.noSelect ops=true){k:St→Option R}{r:R}(hn:∀st' E' a',k st'=some r→Inv C.N E0 E' st' a'→Q .normal a' E'.w):
 ∀(n:Nat) (listed:Array Bool) (orders:List (List Nat)) (dec:List (Nat×Bool)) (st:St) (E:Env) (a:Act),eu C ops n listed orders=true→(∀ord,ord∈orders→f_ C ops ord dec st k=some r)→Inv C.N E0 E st a→bQ dec a→
 gT P .any ops (fG C ops) (calm Q) n listed a E.w:=by
 have fin:∀(orders:List (List Nat)) (dec:List (Nat×Bool)) (st:St) (E:Env) (a:Act),orders.any (·.isEmpty)=true→(∀ord,ord∈orders→f_ C ops ord dec st k=some r)→Inv C.N E0 E st a→calm Q .normal a E.w:=by
  intro orders dec st E a h hall hi;obtain⟨ord,ho,he⟩:=List.any_eq_true.1 h;have:ord=[]:=by simpa using he
  subst this;exact hn st E a (hall [] ho) hi
 intro n
 induction n with
 |zero=>
  intro listed orders dec st E a hok hall hi hdec;simp only[eu,Bool.and_eq_true] at hok;exact⟨by simpa using hok.1,fin orders dec st E a hok.2 hall hi⟩
 |succ n ih=>
  intro listed orders dec st E a hok hall hi hdec;simp only[eu] at hok;split at hok
  ·rename_i hr
   exact⟨fun _=>fin orders dec st E a hok hall hi,fun j hj=>by rw[hr] at hj;cases hj⟩
  ·rename_i rs hr
   split at hok
   ·rename_i i t rest
    split at hok
    ·rename_i htk
     have hne:dB i ((i::t)::rest)≠[]:=by simp[dB]
     obtain⟨o,dec',ho,hd',hcase⟩:=tT hall hne hi hdec;simp only[vT,ho,Bool.and_eq_true] at htk;obtain⟨h1,h2,h3,h4⟩:=htk;rcases hcase with⟨hw,st',hop,htl⟩|⟨hw,htl⟩
     ·refine vY (P:=P) (o:=o) (a:=a) (w:=E.w) ?_
      refine nI (g:=false) hc hd' (by simp) hop hi fun gp E' v hk' hi' fT=> ?_;cases hk';obtain⟨e1,e2⟩:=fT.run h1;have H:=ih _ _ _ st' E' _ hok htl hi' (hd'.rm aQ.one);rw[e1] at H;exact nU ho (Region.noSelect_spec hsel) (fun c a w hq=>hq) n listed a E.w (mU ho h2 (fun e=>by simpa[e] using h4)) (by simpa using h3) (.inl ⟨hw,e2⟩) H
     ·have H:=ih _ _ _ (cZ o st) E _ hok htl hi.cZ (hd'.rm aQ.one)
      have hy:YieldsIf P ops (fun u=>dR o=false∨aB E.w u) o undef a:= .inr ⟨hw,rfl⟩;exact nU ho (Region.noSelect_spec hsel) (fun c a w hq=>hq) n listed a E.w (mU ho h2 (fun e=>by simpa[e] using h4)) (by simpa using h3) hy H
    ·refine⟨fun e=>absurd e hr,fun j hj=> ?_⟩
     have mY:=List.all_eq_true.1 hok j hj;have hne:dB j ((i::t)::rest)≠[]:=fun e=>by rw[e] at mY;exact xU mY
     obtain⟨o,dec',ho,hd',hcase⟩:=tT hall hne hi hdec;rcases hcase with⟨hw,st',hop,htl⟩|⟨hw,htl⟩
     ·unfold wpOp
      simp only[ho,hw,if_true];refine .inl (nI (g:=false) hc hd' (by simp) hop hi fun gp E' v hk' hi' fT=> ?_);cases hk';refine⟨fun e=> ?_,ih _ _ _ st' E' _ mY htl hi' (hd'.rm aQ.one)⟩;simp only[fG,ho,nA,Bool.or_eq_true] at e;rcases e with e|e
      ·rw[(fT.run e).1];exact aB.refl _
      ·exact fT.al e
     ·have H:=ih _ _ _ (cZ o st) E _ mY htl hi.cZ (hd'.rm aQ.one)
      have hy:YieldsIf P ops (fun u=>dR o=false∨aB E.w u) o undef a:= .inr ⟨hw,rfl⟩;exact hy.wpOp ho (.inr (aB.refl _)) ⟨fun _=>aB.refl _,H⟩
   ·cases hok
end
end Go.Am
end
section
namespace Go.Am
def nL(C:Ctx)(st:St):ResultVar→Option Cn
 | .tmp t=>some (st.sl t)
 | .cell a t=>match lF st (st.sl a) with
   |some d=>match lD C.tt t d.isAgg d.size with
    |true=>some d
    |false=>none
   |none=>none
def nM(C:Ctx)(st:St):List ResultVar→Option (List Cn)
 |[]=>some []
 |x::r=>match nL C st x with
  |some c=>match nM C st r with
   |some l=>some (c::l)
   |none=>none
  |none=>none
section
variable{P:Program}{C:Ctx}
theorem wQ{t:TypeId}{x v:Value}{w w':World}(h:(Instr.loadAt t x).run P w= .ok v w'):(do loadVar t (←asAddr x):Sem Value).run P w= .ok v w':=by
 unfold Instr.loadAt at h;cases x with
 |pointer a=>
  cases a with
  |some a=>simpa[Instr.sureAddr,asAddr] using h
  |none=>simp[Instr.sureAddr] at h
 |_=>simp[Instr.sureAddr] at h
def nN(tm:Array Value):ResultVar→Sem Value
 | .tmp t=>pure (tm.getD t undef)
 | .cell y t=>do loadVar t (←asAddr (tm.getD y undef))
theorem zC(hc:cz P C){N:Nat}{E0 E:Env}{st:St}{a:Act}{x:ResultVar}{c:Cn}(h:nL C st x=some c)(hN:N=C.N)(hi:Inv N E0 E st a):
 ∃v,(nN a.tmps x).run P E.w= .ok v E.w∧ak E st.ob st.nx c v:=by
 subst hN;cases x with
 |tmp t=>
  simp only[nL,Option.some.injEq] at h;subst h;exact⟨_,rfl,hi.rep.sl t⟩
 |cell y t=>
  simp only[nL] at h;split at h
  ·rename_i d hd
   split at h
   ·rename_i hl
    cases h;obtain⟨v,h1,h2⟩:=uu hc.tt hd hl hi (hi.rep.sl y);exact⟨v,wQ (h1 E.w (aB.refl _)),h2⟩
   ·cases h
  ·cases h
theorem u_(hc:cz P C){E0 E:Env}{st:St}{a:Act}(hi:Inv C.N E0 E st a):∀(res:List ResultVar) (l:List Cn),nM C st res=some l→
 ∃vs:List Value,vs.length=res.length∧(res.mapM (nN a.tmps)).run P E.w= .ok vs E.w∧∀s,ak E st.ob st.nx (bE l s) (vs.getD s undef)
 |[],l,h=>by
  cases h;exact⟨[],rfl,rfl,fun s=>trivial⟩
 |x::r,l,h=>by
  simp only[nM] at h;split at h
  ·rename_i c hx
   split at h
   ·rename_i l' hr
    cases h;obtain⟨v,h1,h2⟩:=zC hc hx rfl hi;obtain⟨vs,h3,h4,h5⟩:=u_ hc hi r l' hr;refine⟨v::vs,by simp[h3],?_,fun s=> ?_⟩
    ·rw[List.mapM_cons,Sem.run_bind,h1]
     simp only[Result.andThen_ok,Sem.run_bind];rw[h4];rfl
    ·cases s with
     |zero=>exact h2
     |succ s=>simpa[bE] using h5 s
   ·cases h
  ·cases h
theorem zK{fn:Func}{res:List ResultVar}(h:fn.results=res.toArray){tm:Array Value}{w:World}{vs:List Value}(hl:vs.length=res.length)
 (hm:(res.mapM (nN tm)).run P w= .ok vs w):∃v,(results fn tm).run P w= .ok v w∧mo res.length vs.toArray v:=by
 have hrun:(results fn tm).run P w= .ok (if h:vs.toArray.size=1 then vs.toArray[0] else .tuple vs.toArray) w:=by
  unfold results;rw[h];simp only[List.mapM_toArray,Sem.run_bind,Sem.run_map];show(((res.mapM (nN tm)).run P w).andThen _).andThen _=_;rw[hm];rfl
 refine⟨_,hrun,?_⟩;rw[←hl]
 match vs with
 |[]=>exact⟨[],rfl,rfl,fun i hi=>by simp at hi⟩
 |[t]=>exact rfl
 |t::u::r=>
  refine⟨t::u::r,rfl,rfl,fun i hi=> ?_⟩;simp only[Array.getD_eq_getD_getElem?,List.getElem?_toArray];rw[List.getElem?_eq_getElem (by simpa using hi)];rfl
end
end Go.Am
end
section
namespace Go.Am
def aF(P:Program)(C:Ctx){R:Type}(c:Code)(kn:St→Option R)(kx:Nat→St→Option R)(kr:St→Option R)(F:St→Option R):Prop:=
 ∀(r:R) (Q:Exit→Act→World→Prop) (E0 E:Env) (st:St) (a:Act),F st=some r→Inv C.N E0 E st a→
  (∀st E a,kn st=some r→Inv C.N E0 E st a→Q .normal a E.w)→
  (∀i st E a,kx i st=some r→Inv C.N E0 E st a→Q (.exit i) a E.w)→
  (∀st E a,kr st=some r→Inv C.N E0 E st a→Q .ret a E.w)→c.wp P Q a E.w
def eP(P:Program)(C:Ctx){R:Type}(cut:Nat→Option (Cut R)):Code→(St→Option R)→(Nat→St→Option R)→(St→Option R)→Prop
 | .seq a b,kn,kx,kr=>match cut (key b) with
   |some c=>eP P C cut a (fun st=>c.go st) kx kr∧aF P C b kn kx kr c.go
   |none=>eP P C cut a (exec C cut b kn kx kr) kx kr∧eP P C cut b kn kx kr
 | .cond _ a b,kn,kx,kr=>eP P C cut a kn kx kr∧eP P C cut b kn kx kr
 | .block id a,kn,kx,kr=>eP P C cut a kn (fun i=>match Nat.beq i id with|true=>kn|false=>kx i) kr
 | .loop a,kn,kx,kr=>match cut (key a) with
   |some c=>aF P C (.loop a) kn kx kr c.go
   |none=>True
 | .region id ops true,kn,kx,kr=>match cut (id+1000000) with
   |some c=>aF P C (.region id ops true) kn kx kr c.go
   |none=>True
 |_,_,_,_=>True
section
variable{P:Program}{C:Ctx}{R:Type}
theorem tJ{c:Cut R}{st:St}{r:R}(h:c.go st=some r):∃x m,fU false false c.s (iK c.s st.sl st)=some (x,m)∧c.J x=some r:=by
 unfold Cut.go at h;split at h
 ·rename_i x m hm
  exact⟨x,m,hm,h⟩
 ·cases h
structure lZ(N:Nat)(E0 E:Env)(st:St)(a:Act)(E':Env)(st':St):Prop where
 w:E'.w=E.w
 inv:Inv N E0 E' st' a
 sl:st'.sl=st.sl
 nx:st'.nx=st.nx
 rep:∀c v,ak E st.ob st.nx c v→ak E' st'.ob st'.nx c v
theorem xq{N:Nat}{E0:Env}{a:Act}(objs:List (Nat×OS)):∀(cs:CS) (c:Cn) (E:Env) (st:St),Inv N E0 E st a→∃E',lZ N E0 E st a E' {st with ob:=jC objs cs c st.ob}:=by
 have same:∀(E:Env) (st:St),Inv N E0 E st a→∃E',lZ N E0 E st a E' {st with ob:=st.ob}:=fun E st h=>⟨E,rfl,h,rfl,rfl,fun _ _ h=>h⟩;intro cs
 induction cs with
 |h j=>
  intro c E st h;cases c with
  |h i=>
   simp only[jC];split
   ·obtain⟨E',o⟩:=oV (.h i) h
    exact⟨E',o.w,o.inv,rfl,rfl,fun c v hv=>eU o.ev hv⟩
   ·exact same E st h
  |_=>exact same E st h
 |agg a ih=>
  intro c E st h;cases c with
  |agg x=>exact ih x E st h
  |_=>exact same E st h
 |cons a b iha ihb=>
  intro c E st h;cases c with
  |cons x y=>
   obtain⟨E1,h1⟩:=iha x E st h;obtain⟨E2,h2⟩:=ihb y E1 _ h1.inv;exact⟨E2,h2.w.trans h1.w,h2.inv,rfl,rfl,fun c v hv=>h2.rep c v (h1.rep c v hv)⟩
  |_=>exact same E st h
 |_=>intro c E st h;exact same E st h
theorem sI{N:Nat}{E0:Env}{a:Act}(objs:List (Nat×OS))(sl:Nat→Cn):∀(l:List (Nat×CS)) (E:Env) (st:St),Inv N E0 E st a→∃E',lZ N E0 E st a E' {st with ob:=oW objs sl l st.ob}
 |[],E,st,h=>⟨E,rfl,h,rfl,rfl,fun _ _ h=>h⟩
 |x::r,E,st,h=>by
  obtain⟨E1,h1⟩:=xq objs x.2 (sl x.1) E st h;obtain⟨E2,h2⟩:=sI objs sl r E1 _ h1.inv;exact⟨E2,h2.w.trans h1.w,h2.inv,rfl,rfl,fun c v hv=>h2.rep c v (h1.rep c v hv)⟩
theorem sJ{N:Nat}{E0 E:Env}{a:Act}{st:St}(s:SS)(sl:Nat→Cn)(h:Inv N E0 E st a):∃E',lZ N E0 E st a E' (iK s sl st):=by
 unfold iK;split
 ·exact sI s.objs sl s.slots E st h
 ·exact⟨E,rfl,h,rfl,rfl,fun _ _ h=>h⟩
theorem pR{N:Nat}{E0 E:Env}{a:Act}{c:Cut R}{st:St}{r:R}(h:c.go st=some r)(hi:Inv N E0 E st a):∃x m st1 E1,fU false false c.s st1=some (x,m)∧c.J x=some r∧Inv N E0 E1 st1 a∧E1.w=E.w:=by
 obtain⟨x,m,h1,h2⟩:=tJ h;obtain⟨E',k⟩:=sJ c.s st.sl hi;exact⟨x,m,_,E',h1,h2,k.inv,k.w⟩
theorem xK(hc:cz P C){cut:Nat→Option (Cut R)}:∀(c:Code) (kn:St→Option R) (kx:Nat→St→Option R) (kr:St→Option R),eP P C cut c kn kx kr→aF P C c kn kx kr (exec C cut c kn kx kr):=by
 intro c
 induction c with
 |skip=>intro kn kx kr _ r Q E0 E st a h hi hn _ _;exact wp_skip (hn st E a h hi)
 |region id ops draw=>
  intro kn kx kr ho r Q E0 E st a h hi hn hx hr;simp only[exec] at h;cases draw with
  |true=>
   simp only at h;simp only[eP] at ho;cases hcut:cut (id+1000000) with
   |some c=>
    simp only[hcut] at h ho;exact ho r Q E0 E st a h hi hn hx hr
   |none=>
    simp only[hcut] at h;split at h
    ·rename_i hok
     exact xB hc h hok hi (fun st' E' a' hk hi'=>hn st' E' a' hk hi')
    ·cases h
  |false=>
   simp only at h;refine wp_region_list ?_;have:=u6 (Q:=Q) (all:=ops) (E0:=E0) hc Ab (ops.size+ops.size+1) R false [] ops.toList st kn r E a [] false h (by simp) hi (fun s b hl=>by cases hl) fun st' E' a' hk hi' _ _=>hn st' E' a' hk hi';simpa using this
 |seq a b iha ihb=>
  intro kn kx kr ho r Q E0 E st act h hi hn hx hr;simp only[exec] at h;simp only[eP] at ho;refine wp_seq ?_;have hx':∀i st E a,kx i st=some r→Inv C.N E0 E st a→Exit.then (b.wp P Q) Q (.exit i) a E.w:=fun i st E a hk hi'=>hx i st E a hk hi';have hr':∀st E a,kr st=some r→Inv C.N E0 E st a→Exit.then (b.wp P Q) Q .ret a E.w:=fun st E a hk hi'=>hr st E a hk hi';cases hcut:cut (key b) with
  |some c=>
   simp only[hcut] at h ho;exact iha _ _ _ ho.1 r _ E0 E st act h hi (fun st' E' a' hk hi'=>ho.2 r Q E0 E' st' a' hk hi' hn hx hr) hx' hr'
  |none=>
   simp only[hcut] at h ho;exact iha _ _ _ ho.1 r _ E0 E st act h hi (fun st' E' a' hk hi'=>ihb _ _ _ ho.2 r Q E0 E' st' a' hk hi' hn hx hr) hx' hr'
 |cond x a b iha ihb=>
  intro kn kx kr ho r Q E0 E st act h hi hn hx hr;simp only[exec,mG] at h;split at h
  ·rename_i t ht
   refine wp_cond (kR ht hi.rep) ?_;cases t with
   |true=>exact iha _ _ _ ho.1 r Q E0 E st act h hi hn hx hr
   |false=>exact ihb _ _ _ ho.2 r Q E0 E st act h hi hn hx hr
  ·cases h
 |block id a iha=>
  intro kn kx kr ho r Q E0 E st act h hi hn hx hr;refine wp_block ?_;refine iha _ _ _ ho r _ E0 E st act h hi (fun st' E' a' hk hi'=>hn st' E' a' hk hi') (fun i st' E' a' hk hi'=> ?_) (fun st' E' a' hk hi'=>hr st' E' a' hk hi');show Exit.inBlock id Q (.exit i) a' E'.w;simp only[Exit.inBlock];cases e:Nat.beq i id with
  |true=>
   simp only[e] at hk;rw[if_pos (Nat.eq_of_beq_eq_true e)];exact hn st' E' a' hk hi'
  |false=>
   simp only[e] at hk;rw[if_neg (fun e'=>by rw[e'] at e;simp at e)];exact hx i st' E' a' hk hi'
 |loop a iha=>
  intro kn kx kr ho r Q E0 E st act h hi hn hx hr;simp only[exec] at h;simp only[eP] at ho;split at h
  ·rename_i c hcut
   rw[hcut] at ho;exact ho r Q E0 E st act h hi hn hx hr
  ·cases h
 |exit id=>intro kn kx kr _ r Q E0 E st a h hi hn hx _;exact wp_exit (hx id st E a h hi)
 |ret=>intro kn kx kr _ r Q E0 E st a h hi hn hx hr;exact wp_ret (hr st E a h hi)
 |_=>intro kn kx kr _ r Q E0 E st a h;cases h
theorem aF.cut{c:Code}{kn:St→Option R}{kx:Nat→St→Option R}{kr:St→Option R}{F:St→Option R}(h:aF P C c kn kx kr F)(k:Cut R)(hk:∀x,F (k.s.st x)=k.J x):aF P C c kn kx kr k.go:=by
 intro r Q E0 E st a hg hi hn hx hr;obtain⟨x,m,st1,E1,hm,hJ,hi,hw1⟩:=pR hg hi;rw[←hw1];obtain⟨E1,hw,hi1⟩:=o7 hm hi;rw[←hw];exact h r Q E0 E1 (k.s.st x) a (by rw[hk x];exact hJ) hi1 hn hx hr
theorem aF.loop{c:Code}{kn:St→Option R}{kx:Nat→St→Option R}{kr:St→Option R}(s:SS)(J:Nat→s.Den→Option R)(F:Nat→St→Option R)
 (h0:∀x,J 0 x=none) (h:∀n,aF P C c (Cut.go ⟨s,J n⟩) kx kr (F n)) (hF:∀n x,F n (s.st x)=J (n+1) x) (n:Nat):aF P C (.loop c) kn kx kr (Cut.go ⟨s,J n⟩):=by
 intro r Q E0 E st a hg hi hn hx hr
 have round:∀n st E a,Cut.go ⟨s,J n⟩ st=some r→Inv C.N E0 E st a→∀(b:Frame) (k:List Item) (cs:List Frame),
  ∃e a' w',Q e a' w'∧Arrives P (lone (b.at a (.code c:: .inLoop c::k)) cs E.w) b k cs e a' w':=by
  intro n
  induction n with
  |zero=>
   intro st E a hg hi;obtain⟨x,m,hm,hJ⟩:=tJ hg;have hJ:J 0 x=some r:=hJ;rw[h0] at hJ;cases hJ
  |succ n ih=>
   intro st E a hg hi b k cs;obtain⟨x,m,st1,E1,hm,hJ,hi,hw1⟩:=pR hg hi;obtain⟨E1,hw,hi1⟩:=o7 hm hi;rw[hw1] at hw
   have hwp:=h n r (Exit.then (fun a' w'=>∃st' E',E'.w=w'∧Cut.go ⟨s,J n⟩ st'=some r∧Inv C.N E0 E' st' a') Q) E0 E1 (s.st x) a (by rw[hF];exact hJ) hi1
    (fun st' E' a' hk hi'=>⟨st',E',rfl,hk,hi'⟩) (fun i st' E' a' hk hi'=>hx i st' E' a' hk hi') (fun st' E' a' hk hi'=>hr st' E' a' hk hi')
   rw[hw] at hwp;obtain⟨e,a₁,w₁,hq,harr⟩:=hwp b (.inLoop c::k) cs;cases e with
   |normal=>
    obtain⟨st',E',rfl,hk,hi'⟩:=hq;obtain⟨e₂,a₂,w₂,hq₂,harr₂⟩:=ih st' E' a₁ hk hi' b k cs;exact⟨e₂,a₂,w₂,hq₂,.of_steps (Steps.trans harr (.one step_inLoop)) harr₂⟩
   |exit id=>exact⟨_,a₁,w₁,hq,.pass (x:= .inLoop c) rfl (fun _ _=> .inl (by simp)) harr⟩
   |goto l=>exact⟨_,a₁,w₁,hq,.pass (x:= .inLoop c) rfl (fun _ _=> .inl (by simp)) harr⟩
   |ret=>exact⟨_,a₁,w₁,hq,.pass (x:= .inLoop c) rfl (fun _ _=> .inl (by simp)) harr⟩
   |panic ch=>exact⟨_,a₁,w₁,hq,.pass (x:= .inLoop c) rfl (fun _ _=> .inl (by simp)) harr⟩
   |outgrown=>exact⟨_,a₁,w₁,hq,.pass (x:= .inLoop c) rfl (fun _ _=> .inl (by simp)) harr⟩
 intro b k cs;obtain⟨e,a',w',hq,harr⟩:=round n st E a hg hi b k cs;exact⟨e,a',w',hq,.of_steps (.one step_loop) harr⟩
theorem aF.draw(hc:cz P C){id:Nat}{ops:Array Oper}{kn:St→Option R}{kx:Nat→St→Option R}{kr:St→Option R}(k:Cut R)(orders:List (List Nat))
 (hok:(Region.noSelect ops&&eu C ops ops.size (Array.replicate ops.size false) orders)=true) (h:∀ord,ord∈orders→∀x,runK C ops ord (k.s.st x) kn=k.J x):
 aF P C (.region id ops true) kn kx kr k.go:=by
 intro r Q E0 E st a hg hi hn hx hr;obtain⟨x,m,st1,E1,hm,hJ,hi,hw1⟩:=pR hg hi;rw[←hw1];obtain⟨E1,hw,hi1⟩:=o7 hm hi;rw[←hw];simp only[Bool.and_eq_true] at hok;refine Code.wp_mono (Q:=calm Q) (fun e a w q=>by cases e<;>first|exact q|exact q.elim) ?_;refine wp_region_any hc.mixed (rz (T:=fG C ops) _ _ _ _ ?_);have hi':=hi1.grew (w:={E1.w with drawn:=E1.w.drawn+1}) ⟨rfl,rfl,rfl,Nat.le_refl _,fun _ _=>rfl⟩;exact xV hc hok.1 (fun st' E' a' hk hi'=>hn st' E' a' hk hi') ops.size _ orders [] (k.s.st x) _ a hok.2 (fun ord ho=>by have:=h ord ho x;unfold runK at this;rw[this];exact hJ) hi' (fun s b hl=>by cases hl)
def qO(C:Ctx)(s:SS)(res:List ResultVar)(st:St):Option s.Den:=
 match nM C st res with
 |some l=>match fU false false s ⟨bE l,(iK s (bE l) st).ob,st.nx⟩ with
  |some (x,_)=>some x
  |none=>none
 |none=>none
def qd:List (Nat×CS)→Nat→Bool
 |[],_=>false
 |x::r,n=>match Nat.beq x.1 n with
  |true=>match x.2 with
   | .h _=>true
   |_=>false
  |false=>qd r n
def lJ(l:List (Nat×CS)):Nat→List ResultVar→St→St
 |_,[],st=>st
 |n,x::r,st=>lJ l (n+1) r (match x with
  | .tmp s=>match qd l n with
    |true=>qI st s
    |false=>st
  |_=>st)
theorem qJ{N:Nat}{E0:Env}{a:Act}(l:List (Nat×CS)):∀(res:List ResultVar) (n:Nat) (E:Env) (st:St),Inv N E0 E st a→∃E',E'.w=E.w∧Inv N E0 E' (lJ l n res st) a
 |[],n,E,st,h=>⟨E,rfl,h⟩
 |x::r,n,E,st,h=>by
  have same:∃E',E'.w=E.w∧Inv N E0 E' (lJ l (n+1) r st) a:=qJ l r (n+1) E st h;cases x with
  |tmp s=>
   simp only[lJ];cases qd l n with
   |false=>exact same
   |true=>
    obtain⟨E1,w1,h1⟩:=zn s h;obtain⟨E2,w2,h2⟩:=qJ l r (n+1) E1 _ h1;exact⟨E2,w2.trans w1,h2⟩
  |cell _ _=>exact same
def lN(C:Ctx)(s:SS)(res:List ResultVar)(st:St):Option s.Den:=qO C s res (lJ s.slots 0 res st)
theorem yK{N:Nat}{E0 E E':Env}{st:St}{a:Act}{m:Mt}{ids:List Nat}(hi:Inv N E0 E st a)(e1:Ext E ⟨[],[],st.ob,st.nx⟩ E' m)(k:kG ids m.fz false m.sig):Fr E0 (into E' m):=by
 refine hi.fr.trans ⟨by rw[show(into E' m).w=E.w from e1.w],by rw[show(into E' m).w=E.w from e1.w],by rw[show(into E' m).w=E.w from e1.w],by rw[show(into E' m).w=E.w from e1.w];exact Nat.le_refl _,
  fun b _ _=>by rw[show(into E' m).w=E.w from e1.w],?_,fun b hb=> .inl (by rw[e1.Z];exact hb),?_,?_⟩
 ·intro j b hb
  simp only[into] at hb;split at hb
  ·rename_i i hi'
   exact .inl ⟨i,by rw[←e1.B];exact hb⟩
  ·simp at hb
 ·intro b hb
  rcases hb with hb|⟨i,_,hb⟩
  ·exact .inl (by rw[←e1.Z];exact hb)
  ·exact .inr (.inl ⟨i,by rw[←e1.B];exact hb⟩)
 ·intro j hj
  have hlt:j<st.nx:=Nat.lt_of_lt_of_le hj hi.nx;show(match aA m.sig j with|some i=>E'.af i|none=>E'.af j)=_;split
  ·rename_i i hi'
   rcases k.own rfl j i hi' with rfl|h1
   ·exact e1.af j hlt
   ·omega
  ·exact e1.af j hlt
theorem xS(hc:cz P C){f:FuncId}{fn:Func}{code:Code}{c:dh}{res:List ResultVar}(hf:P.funcs[f]?=some fn)(hb:fn.body=some code)(hn:fn.name≠ "runtime.NumGoroutine")
 (hN:C.N=fn.ntmps) (hres:fn.results=res.toArray) (hnr:c.fD=res.length) (hna:c.nargs≤fn.ntmps)
 (G:c.bg.Den→St→Option c.au.Den) (hS:∀x,aF P C code (lN C c.au res) (fun _ _=>none) (lN C c.au res) (G x)) (hF:∀x,G x (c.bg.st x)=c.F x):
 gu P f c:=by
 intro E args x y hsz x9 hr;have hcall:(callFunc f args).run P E.w= .ok (.enter f args) E.w:=by
  unfold callFunc;simp[hf,hn,hb]
 unfold gv;rw[hcall];refine calls_of_wp hf hb ?_;have hi:Inv C.N E E (c.bg.st x) {tmps:=args++Array.replicate (fn.ntmps-args.size) undef,defers:=[]}:=by
  refine⟨⟨fun s=> ?_,hr.ob,hr.lt,hr.dj,hr.nd,hr.bb,hr.zb⟩,Fr.refl E,rfl,?_,Nat.le_max_left _ _⟩
  ·have e:(args++Array.replicate (fn.ntmps-args.size) undef).getD s undef=args.getD s undef:=by
    simp only[Array.getD_eq_getD_getElem?,Array.getElem?_append];split
    ·rfl
    ·rename_i hlt
     rw[Array.getElem?_replicate,show args[s]?=none from Array.getElem?_eq_none (Nat.le_of_not_lt hlt)];split<;>rfl
   rw[e];exact hr.sl s
  ·simp only[Array.size_append,Array.size_replicate];omega
 have xO:∀st E' a,qO C c.au res st=some y→Inv C.N E E' st a→a.defers=[]∧∃v,(results fn a.tmps).run P E'.w= .ok v E'.w∧
  ∃E2 tm,E2.w=E'.w∧Fr E E2∧aS E2 (c.au.st y) tm∧mo c.fD tm v:=by
  intro st E' a hk hi';unfold qO at hk;split at hk
  ·rename_i l hl
   split at hk
   ·rename_i y' m hm
    cases hk;obtain⟨vs,h1,h2,h3⟩:=u_ hc hi' res l hl;obtain⟨v,h4,h5⟩:=zK (P:=P) hres h1 h2;obtain⟨E2,kc⟩:=sJ c.au (bE l) hi';have hnx:=kc.nx
    have hr':aS E2 ⟨bE l,(iK c.au (bE l) st).ob,st.nx⟩ vs.toArray:=
     ⟨fun s=>by have:=kc.rep _ _ (h3 s);rw[hnx] at this;simpa using this,by rw[←hnx];exact kc.inv.rep.ob,by rw[←hnx];exact kc.inv.rep.lt,kc.inv.rep.dj,kc.inv.rep.nd,kc.inv.rep.bb,kc.inv.rep.zb⟩
    obtain⟨E1,e1,e2,k,_,hr2⟩:=qo hm hr';exact⟨hi'.defers,v,h4,into E1 m,_,e1.w.trans kc.w,yK (st:=iK c.au (bE l) st) kc.inv (by rw[hnx];exact e1) k,hr2,by rw[hnr];exact h5⟩
   ·cases hk
  ·cases hk
 have fin:∀st E' a,lN C c.au res st=some y→Inv C.N E E' st a→a.defers=[]∧∃v,(results fn a.tmps).run P E'.w= .ok v E'.w∧
  ∃E2 tm,E2.w=E'.w∧Fr E E2∧aS E2 (c.au.st y) tm∧mo c.fD tm v:=by
  intro st E' a hk hi';obtain⟨E1,w1,h1⟩:=qJ c.au.slots res 0 E' st hi';rw[←w1];exact xO _ E1 a hk h1
 exact hS x y _ E E _ _ (by rw[hF];exact x9) hi (fun st E' a hk hi'=>fin st E' a hk hi') (fun i st E' a hk _=>by cases hk) (fun st E' a hk hi'=>fin st E' a hk hi')
end
end Go.Am
end
section
namespace Go.Am
def dW:Ty→List Value→Option (List Value)
 | .int k,.int k' n::r=>match decide (k=k')&&decide (n=0) with
   |true=>some r
   |false=>none
 | .bool,.bool false::r=>some r
 | .str,.string ⟨⟨[]⟩⟩::r=>some r
 | .list _ _,.slice none 0 0::r=>some r
 | .nil,r=>some r
 | .cons a b,r=>match dW a r with
   |some r1=>dW b r1
   |none=>none
 | .st a,r=>dW a r
 | .ptr,v::r=>match v.oneCell' with
   |true=>some r
   |false=>none
 |_,_=>none
theorem Al:∀(u:Ty) (l r:List Value),dW u l=some r→∃c,l=c++r∧ZR u c:=by
 intro u
 induction u with
 |int k=>
  intro l r h;unfold dW at h;split at h<;>try (cases h;done)
  all_goals first|(rename_i heq;cases heq)|skip
  ·split at h
   ·rename_i hd
    cases h;simp only[Bool.and_eq_true,decide_eq_true_eq] at hd;obtain⟨rfl,rfl⟩:=hd;exact⟨_,rfl,rfl⟩
   ·cases h
 |bool=>
  intro l r h;unfold dW at h;split at h<;>try (cases h;done)
  all_goals first|(rename_i heq;cases heq;done)|skip
  all_goals (cases h;exact⟨[_],rfl,rfl⟩)
 |str=>
  intro l r h;unfold dW at h;split at h<;>try (cases h;done)
  all_goals first|(rename_i heq;cases heq;done)|skip
  all_goals (cases h;exact⟨[_],rfl,rfl⟩)
 |list e t _=>
  intro l r h;unfold dW at h;split at h<;>try (cases h;done)
  all_goals first|(rename_i heq;cases heq;done)|skip
  all_goals (cases h;exact⟨[_],rfl,rfl⟩)
 |nil=>
  intro l r h;unfold dW at h;cases h;exact⟨[],rfl,rfl⟩
 |cons a b iha ihb=>
  intro l r h;simp only[dW] at h;split at h
  ·rename_i r1 h1
   obtain⟨c,rfl,hc⟩:=iha _ _ h1;obtain⟨d,rfl,hd⟩:=ihb _ _ h;exact⟨c++d,by simp,c,d,rfl,hc,hd⟩
  ·cases h
 |st a ih=>
  intro l r h;simp only[dW] at h;exact ih l r h
 |ptr=>
  intro l r h;cases l with
  |nil=>simp[dW] at h
  |cons v l=>
   simp only[dW] at h;split at h
   ·rename_i h1
    cases h;exact⟨[v],rfl,v,rfl,h1⟩
   ·cases h
def qp:Bool→Value→Bool
 |true,.agg _=>true
 |true,_=>false
 |false,.agg _=>false
 |false,_=>true
def uL{α:Type}:Option (List α)→Bool
 |some []=>true
 |_=>false
def mZ(P:Program)(t:TypeId)(u:Ty):Bool:=
 match P.info? t with
 |some i=>Nat.beq i.size u.size&&(match i.zero with
  |some z=>uL (dW u z.cells.toList)&&(qp u.isAgg z&&(Nat.blt 0 u.size&&(Nat.ble i.bytes 32768&&(match decide (u= .int .u8) with
   |true=>Nat.beq i.bytes 1
   |false=>true))))
  |none=>false)
 |none=>false
theorem uf{P:Program}{t:TypeId}{u:Ty}(h:mZ P t u=true):gy P t u:=by
 unfold mZ at h;split at h
 ·rename_i i hi
  rw[Bool.and_eq_true] at h;obtain⟨h1,h2⟩:=h;split at h2
  ·rename_i z hz
   simp only[Bool.and_eq_true] at h2;obtain⟨h3,h4,h5,h6,h7⟩:=h2;refine⟨i,z,hi,Nat.eq_of_beq_eq_true h1,hz,?_,Nat.le_of_ble_eq_true h5,Nat.le_of_ble_eq_true h6,?_,?_⟩
   ·unfold uL at h3
    split at h3
    ·rename_i hq
     obtain⟨c,hc,hr⟩:=Al _ _ _ hq;rw[hc,List.append_nil];exact hr
    ·cases h3
   ·cases ha:u.isAgg with
    |true=>
     rw[ha] at h4;cases z<;>simp only[qp] at h4<;>first|(cases h4;done)|skip
     simp[mkV,Value.cells]
    |false=>
     rw[ha] at h4;cases z<;>simp only[qp] at h4<;>first|(cases h4;done)|skip
     all_goals simp[mkV,Value.cells]
   ·intro hu
    subst hu;exact Nat.eq_of_beq_eq_true (by simpa using h7)
  ·cases h2
 ·cases h
def kK(P:Program)(t:TypeId)(a:Ty):Bool:=
 match P.underlying t with
 |some (.struct _)=>a.isAgg
 |some (.array _ _)=>false
 |some _=> !a.isAgg
 |none=>false
theorem oF{P:Program}{t:TypeId}{a:Ty}(h:kK P t a=true):eY P t a:=by
 unfold kK at h;unfold eY;split at h
 ·rename_i hu;rw[hu];exact h
 ·cases h
 ·rename_i d h1 h2 hu
  rw[hu];have h:a.isAgg=false:=by simpa using h
  cases d<;>first|exact h|(exact absurd rfl (h1 _))|(exact absurd rfl (h2 _ _))
 ·cases h
def fieldsB(P:Program):List Field→Nat→Ty→Bool
 |[],_,.nil=>true
 |f::fs,off,.cons a b=>Nat.beq f.offset off&&((match P.info? f.type with
  |some i=>Nat.beq i.size a.size
  |none=>false)&&(kK P f.type a&&(Nat.blt 0 a.size&&(f.name != "_"&&fieldsB P fs (off+a.size) b))))
 |_,_,_=>false
theorem xN{P:Program}:∀(l:List Field) (off:Nat) (u:Ty),fieldsB P l off u=true→ku P l off u:=by
 intro l
 induction l with
 |nil=>intro off u h;cases u<;>first|trivial|(simp[fieldsB] at h;done)
 |cons f fs ih=>
  intro off u h;cases u<;>simp only[fieldsB] at h<;>first|(cases h;done)|skip
  simp only[Bool.and_eq_true] at h;obtain⟨h1,h2,h3,h4,h5,h6⟩:=h;refine⟨Nat.eq_of_beq_eq_true h1,?_,oF h3,Nat.le_of_ble_eq_true h4,by simpa using h5,ih _ _ h6⟩;split at h2
  ·rename_i i hi;exact⟨i,hi,Nat.eq_of_beq_eq_true h2⟩
  ·cases h2
def q9(P:Program)(t:TypeId)(u:Ty):Bool:=
 mZ P t u&&(match u,P.underlying t with
  | .int k,some (.int k')=>decide (k=k')
  | .bool,some .bool=>true
  | .str,some .string=>true
  | .list e v,some (.slice e')=>Nat.beq e e'&&(mZ P e v&&kK P e v)
  | .st fs,some (.struct fields)=>fieldsB P fields.toList 0 fs&& !P.stoodInHeld t
  | .ptr,some (.struct _)=>false
  | .ptr,some (.array _ _)=>false
  | .ptr,some _=>true
  |_,_=>false)
theorem Ag{P:Program}{t:TypeId}{u:Ty}(h:q9 P t u=true):aU P t u:=by
 unfold q9 at h;rw[Bool.and_eq_true] at h;obtain⟨h0,h⟩:=h;refine⟨uf h0,?_⟩;cases hu:P.underlying t with
 |none=>rw[hu] at h;cases u<;>simp at h
 |some d=>
  rw[hu] at h;cases u with
  |int k=>cases d<;>simp only at h<;>first|(cases h;done)|(obtain rfl:=of_decide_eq_true h;rfl)
  |bool=>cases d<;>simp only at h<;>first|(cases h;done)|rfl
  |str=>cases d<;>simp only at h<;>first|(cases h;done)|rfl
  |list e v=>
   cases d<;>simp only at h<;>first|(cases h;done)|skip
   simp only[Bool.and_eq_true] at h;obtain rfl:=Nat.eq_of_beq_eq_true h.1;exact⟨rfl,uf h.2.1,oF h.2.2⟩
  |st fs=>
   cases d<;>simp only at h<;>first|(cases h;done)|skip
   simp only[Bool.and_eq_true,Bool.not_eq_true'] at h;exact⟨_,rfl,xN _ _ _ h.1,h.2⟩
  |ptr=>
   refine⟨d,rfl,fun fs e=> ?_,fun n e he=> ?_⟩
   ·subst e;simp at h
   ·subst he;simp at h
  |nil=>cases d<;>simp at h
  |cons a b=>cases d<;>simp at h
def eZ(P:Program):Ty→TypeId→List Field→Nat→Bool
 | .int k,t,_,_=>match P.underlying t with
   |some (.int k')=>decide (k=k')
   |_=>false
 | .bool,t,_,_=>match P.underlying t with
   |some .bool=>true
   |_=>false
 | .str,t,_,_=>match P.underlying t with
   |some .string=>true
   |_=>false
 | .st fs,t,_,_=>match P.underlying t with
   |some (.struct fields)=> !P.stoodInHeld t&&(eZ P fs 0 fields.toList 0&&fs.isRow)
   |_=>false
 | .nil,_,l,_=>l.isEmpty
 | .cons a b,_,l,off=>match l with
   |f::r=>Nat.beq f.offset off&&(f.name != "_"&&((match P.info? f.type with
    |some i=>Nat.beq i.size a.size
    |none=>false)&&(kK P f.type a&&(Nat.blt 0 a.size&&(eZ P a f.type [] 0&&(eZ P b 0 r (off+a.size)&&(!a.isRow&&b.isRow)))))))
   |[]=>false
 | .list _ _,_,_,_=>false
 | .ptr,_,_,_=>false
theorem xD{P:Program}:∀(u:Ty) (t:TypeId) (l:List Field) (off:Nat),eZ P u t l off=true→dm P u t l off:=by
 intro u
 induction u with
 |int k=>intro t l off h;simp only[eZ] at h;split at h<;>first|(rename_i hu;rw[show k=_ from of_decide_eq_true h];exact hu)|cases h
 |bool=>intro t l off h;simp only[eZ] at h;split at h<;>first|(rename_i hu;exact hu)|cases h
 |str=>intro t l off h;simp only[eZ] at h;split at h<;>first|(rename_i hu;exact hu)|cases h
 |list e t _=>intro t l off h;cases h
 |ptr=>intro t l off h;cases h
 |nil=>intro t l off h;simp only[eZ] at h;exact List.isEmpty_iff.1 h
 |st fs ih=>
  intro t l off h;simp only[eZ] at h;split at h
  ·rename_i hu
   simp only[Bool.and_eq_true,Bool.not_eq_true'] at h;exact⟨_,hu,h.1,ih _ _ _ h.2.1,h.2.2⟩
  ·cases h
 |cons a b iha ihb=>
  intro t l off h;simp only[eZ] at h;split at h
  ·simp only[Bool.and_eq_true,Bool.not_eq_true'] at h
   obtain⟨h1,h2,h3,h4,h5,h6,h7,h8,h9⟩:=h;refine⟨_,_,rfl,Nat.eq_of_beq_eq_true h1,by simpa using h2,?_,oF h4,Nat.le_of_ble_eq_true h5,iha _ _ _ h6,ihb _ _ _ h7,h8,h9⟩;split at h3
   ·rename_i i hi;exact⟨i,hi,Nat.eq_of_beq_eq_true h3⟩
   ·cases h3
  ·cases h
def j6:List (Nat×Ty)→Nat→Option Ty
 |[],_=>none
 |x::r,n=>match Nat.beq x.1 n with
  |true=>some x.2
  |false=>j6 r n
theorem ru{n:Nat}{u:Ty}:∀{l:List (Nat×Ty)},j6 l n=some u→(n,u)∈l
 |[],h=>by cases h
 |x::r,h=>by
  simp only[j6] at h;split at h
  ·rename_i e
   cases h;obtain⟨a,b⟩:=x;have:=Nat.eq_of_beq_eq_true e;simp only at this;subst this;exact List.mem_cons_self ..
  ·exact List.mem_cons_of_mem _ (ru h)
def qZ(P:Program)(l:List (Nat×Ty)):Bool:=
 l.all fun x=>q9 P x.1 x.2&&(match x.2.isAgg&&x.2.flat with
  |true=>eZ P x.2 x.1 [] 0&& !P.eqGuardType P.depth x.1
  |false=>true)
theorem Ae{P:Program}{l:List (Nat×Ty)}(h:qZ P l=true):∀t u,j6 l t=some u→aU P t u:=by
 intro t u hu;have:=List.all_eq_true.1 h _ (ru hu);rw[Bool.and_eq_true] at this;exact Ag this.1
theorem table_eq{P:Program}{l:List (Nat×Ty)}(h:qZ P l=true):∀t u,j6 l t=some u→u.isAgg=true→u.flat=true→dm P u t [] 0∧P.eqGuardType P.depth t=false:=by
 intro t u hu h1 h2;have:=List.all_eq_true.1 h _ (ru hu);simp only[h1,h2,Bool.and_self,Bool.and_eq_true,Bool.not_eq_true'] at this;exact⟨xD _ _ _ _ this.2.1,this.2.2⟩
end Go.Am
end
section
namespace Go.Am
def Code.l:Code→Code
 | .seq a _=>a
 | .block _ a=>a
 | .loop a=>a
 | .cond _ a _=>a
 |c=>c
def Code.r:Code→Code
 | .seq _ a=>a
 | .cond _ _ a=>a
 |c=>c
def sw(f:Func):Code:=f.body.getD .skip
def qh{R:Type}(id:Nat)(kn:St→Option R)(kx:Nat→St→Option R):Nat→St→Option R:=fun i=>match Nat.beq i id with
 |true=>kn
 |false=>kx i
def qg{R:Type}(C:Ctx)(x:Operand)(F G:St→Option R):St→Option R:=fun st=>match mG C st x with
 |some t=>cond t (F st) (G st)
 |none=>none
section
variable{P:Program}{C:Ctx}{R:Type}
theorem wB:∀(c:Code) (kn:St→Option R) (kx:Nat→St→Option R) (kr:St→Option R),eP P C (fun _=>none) c kn kx kr:=by
 intro c
 induction c with
 |seq a b iha ihb=>intro kn kx kr;exact⟨iha _ _ _,ihb _ _ _⟩
 |cond x a b iha ihb=>intro kn kx kr;exact⟨iha _ _ _,ihb _ _ _⟩
 |block id a iha=>intro kn kx kr;exact iha _ _ _
 |region id ops draw=>intro kn kx kr;cases draw<;>exact trivial
 |_=>intros;exact trivial
theorem aF.exec(hc:cz P C)(c:Code)(kn:St→Option R)(kx:Nat→St→Option R)(kr:St→Option R):aF P C c kn kx kr (exec C (fun _=>none) c kn kx kr):=
 xK hc c kn kx kr (wB c kn kx kr)
theorem aF.seq{c:Code}{kn:St→Option R}{kx:Nat→St→Option R}{kr:St→Option R}{F G:St→Option R}(e:c= .seq (Code.l c) (Code.r c))(hb:aF P C (Code.r c) kn kx kr G)(ha:aF P C (Code.l c) G kx kr F):
 aF P C c kn kx kr F:=by
 intro r Q E0 E st act h hi hn hx hr;rw[e];exact wp_seq (ha r _ E0 E st act h hi (fun st' E' a' hk hi'=>hb r Q E0 E' st' a' hk hi' hn hx hr) (fun i st E a hk hi'=>hx i st E a hk hi') (fun st E a hk hi'=>hr st E a hk hi'))
theorem aF.block{c:Code}{id:Nat}{kn:St→Option R}{kx:Nat→St→Option R}{kr:St→Option R}{F:St→Option R}(e:c= .block id (Code.l c))(ha:aF P C (Code.l c) kn (qh id kn kx) kr F):aF P C c kn kx kr F:=by
 intro r Q E0 E st act h hi hn hx hr;rw[e];refine wp_block (ha r _ E0 E st act h hi (fun st' E' a' hk hi'=>hn st' E' a' hk hi') (fun i st' E' a' hk hi'=> ?_) (fun st' E' a' hk hi'=>hr st' E' a' hk hi'));show Exit.inBlock id Q (.exit i) a' E'.w;simp only[Exit.inBlock];unfold qh at hk;cases e:Nat.beq i id with
 |true=>
  simp only[e] at hk;rw[if_pos (Nat.eq_of_beq_eq_true e)];exact hn st' E' a' hk hi'
 |false=>
  simp only[e] at hk;rw[if_neg (fun e'=>by rw[e'] at e;simp at e)];exact hx i st' E' a' hk hi'
theorem aF.cond{c:Code}{x:Operand}{kn:St→Option R}{kx:Nat→St→Option R}{kr:St→Option R}{F G:St→Option R}(e:c= .cond x (Code.l c) (Code.r c))(ha:aF P C (Code.l c) kn kx kr F)(hb:aF P C (Code.r c) kn kx kr G):
 aF P C c kn kx kr (qg C x F G):=by
 intro r Q E0 E st act h hi hn hx hr;rw[e];unfold qg mG at h;split at h
 ·rename_i t ht
  refine wp_cond (kR ht hi.rep) ?_;cases t with
  |true=>exact ha r Q E0 E st act h hi hn hx hr
  |false=>exact hb r Q E0 E st act h hi hn hx hr
 ·cases h
theorem aF.loop'{c:Code}{kn:St→Option R}{kx:Nat→St→Option R}{kr:St→Option R}(e:c= .loop (Code.l c))(s:SS)(J:Nat→s.Den→Option R)(F:Nat→St→Option R)
 (h0:∀x,J 0 x=none) (h:∀n,aF P C (Code.l c) (Cut.go ⟨s,J n⟩) kx kr (F n)) (hF:∀n x,F n (s.st x)=J (n+1) x) (n:Nat):aF P C c kn kx kr (Cut.go ⟨s,J n⟩):=by
 rw[e];exact aF.loop s J F h0 h hF n
theorem aF.draw'(hc:cz P C){c:Code}{id:Nat}{ops:Array Oper}{kn:St→Option R}{kx:Nat→St→Option R}{kr:St→Option R}(e:c= .region id ops true)(k:Cut R)(orders:List (List Nat))
 (hok:(Region.noSelect ops&&eu C ops ops.size (Array.replicate ops.size false) orders)=true) (h:∀ord,ord∈orders→∀x,runK C ops ord (k.s.st x) kn=k.J x):aF P C c kn kx kr k.go:=by
 rw[e];exact aF.draw hc k orders hok h
end
end Go.Am
end
section
namespace Go.Am
theorem Ao{P:Program}{f:FuncId}{c:dh}(h:∀x,c.F x=none):gu P f c:=by
 intro E args x y hsz hF hr;rw[h x] at hF;cases hF
def Code.ops:Code→Array Oper
 | .region _ ops _=>ops
 |_=> #[]
theorem aF.fork{P:Program}{C:Ctx}{R:Type}(hc:cz P C){c:Code}{id:Nat}{kn:St→Option R}{kx:Nat→St→Option R}{kr:St→Option R}(e:c= .region id (Code.ops c) true)(k:Cut R)(orders:List (List Nat))
 (hok:(Region.noSelect (Code.ops c)&&eu C (Code.ops c) (Code.ops c).size (Array.replicate (Code.ops c).size false) orders)=true)
 (h:∀ord,ord∈orders→∀x,runK C (Code.ops c) ord (k.s.st x) kn=k.J x):aF P C c kn kx kr k.go:=
 aF.draw' hc e k orders hok h
theorem zm{P:List Nat→Prop}:∀ord,ord∈([]:List (List Nat))→P ord:=fun _ h=>(List.not_mem_nil h).elim
theorem zl{P:List Nat→Prop}{o:List Nat}{l:List (List Nat)}(h:P o)(t:∀ord,ord∈l→P ord):∀ord,ord∈o::l→P ord:=by
 intro ord ho;rcases List.mem_cons.1 ho with rfl|ho
 ·exact h
 ·exact t ord ho
structure Fc(P:Program) where
 f:Nat
 c:dh
 ok:gu P f c
def kN{P:Program}:List (Fc P)→Nat→List dh
 |[],_=>[]
 |x::r,n=>match Nat.beq x.f n with
  |true=>x.c::kN r n
  |false=>kN r n
theorem oZ{P:Program}{n:Nat}{c:dh}:∀{l:List (Fc P)},c∈kN l n→gu P n c
 |[],h=>by cases h
 |x::r,h=>by
  simp only[kN] at h;split at h
  ·rename_i e
   rcases List.mem_cons.1 h with rfl|h
   ·rw[←Nat.eq_of_beq_eq_true e];exact x.ok
   ·exact oZ h
  ·exact oZ h
def nC:List (Nat×Nat×Nat)→TypeId→Option (TypeId×TypeId)
 |[],_=>none
 |x::r,t=>match Nat.beq x.1 t with
  |true=>some x.2
  |false=>nC r t
def ql(P:Program)(l:List (Nat×Nat×Nat)):Bool:=l.all fun x=>match P.underlying x.1 with
 |some (.map k e)=>Nat.beq k x.2.1&&Nat.beq e x.2.2
 |_=>false
theorem uz{P:Program}{t k e:Nat}:∀{l:List (Nat×Nat×Nat)},ql P l=true→nC l t=some (k,e)→P.underlying t=some (.map k e)
 |[],_,h=>by cases h
 |x::r,hb,h=>by
  simp only[ql,List.all_cons,Bool.and_eq_true] at hb;simp only[nC] at h;split at h
  ·rename_i ht
   obtain rfl:=Nat.eq_of_beq_eq_true ht;obtain⟨a,b,c⟩:=x;simp only[Option.some.injEq,Prod.mk.injEq] at h;obtain⟨rfl,rfl⟩:=h;have:=hb.1;split at this
   ·rename_i k' e' hu
    simp only[Bool.and_eq_true] at this;rw[hu,Nat.eq_of_beq_eq_true this.1,Nat.eq_of_beq_eq_true this.2]
   ·cases this
  ·exact uz hb.2 h
theorem Ar{P:Program}{tys:List (Nat×Ty)}{mps:List (Nat×Nat×Nat)}(ht:qZ P tys=true)(hp:ql P mps=true)(hm:P.follows .mixedOrders=true)(l:List (Fc P))(N:Nat)(br:Nat→Bool):
 cz P ⟨j6 tys,kN l,N,br,nC mps⟩ where
 tt:=Ae ht
 phi:=fun g c hc=>oZ hc
 mixed:=hm
 eq:=table_eq ht
 mt:=fun _ _ _=>uz hp
def Code.oL:Code→Nat
 | .block i _=>i
 | .region i _ _=>i
 |_=>0
def Code.test:Code→Operand
 | .cond x _ _=>x
 |_=> .tmp 0
namespace W
variable{P:Program}{C:Ctx}{R:Type}{c:Code}{kn:St→Option R}{kx:Nat→St→Option R}{kr:St→Option R}{F G:St→Option R}
theorem X(hc:cz P C):aF P C c kn kx kr (exec C (fun _=>none) c kn kx kr):=aF.exec hc c kn kx kr
theorem Q(hb:aF P C (Code.r c) kn kx kr G)(ha:aF P C (Code.l c) G kx kr F)(e:c= .seq (Code.l c) (Code.r c):=by kernel_rfl):aF P C c kn kx kr F:=aF.seq e hb ha
theorem B(ha:aF P C (Code.l c) kn (qh (Code.oL c) kn kx) kr F)(e:c= .block (Code.oL c) (Code.l c):=by kernel_rfl):aF P C c kn kx kr F:=aF.block e ha
theorem D(ha:aF P C (Code.l c) kn kx kr F)(hb:aF P C (Code.r c) kn kx kr G)(e:c= .cond (Code.test c) (Code.l c) (Code.r c):=by kernel_rfl):aF P C c kn kx kr (qg C (Code.test c) F G):=aF.cond e ha hb
theorem T(h:aF P C c kn kx kr F)(s:SS)(J:s.Den→Option R)(hk:∀x,F (s.st x)=J x:=by intro x;kernel_rfl):aF P C c kn kx kr (Cut.go ⟨s,J⟩):=aF.cut h ⟨s,J⟩ hk
theorem L(s:SS)(J:Nat→s.Den→Option R)(n:Nat){F:Nat→St→Option R}(h:∀n,aF P C (Code.l c) (Cut.go ⟨s,J n⟩) kx kr (F n))
 (hF:∀n x,F n (s.st x)=J (n+1) x:=by intro n x;kernel_rfl) (h0:∀x,J 0 x=none:=by intro x;rfl) (e:c= .loop (Code.l c):=by kernel_rfl):aF P C c kn kx kr (Cut.go ⟨s,J n⟩):=aF.loop' e s J F h0 h hF n
theorem K(hc:cz P C)(s:SS)(J:s.Den→Option R)(orders:List (List Nat))
 (h:∀ord,ord∈orders→∀x,runK C (Code.ops c) ord (s.st x) kn=J x) (e:c= .region (Code.oL c) (Code.ops c) true:=by kernel_rfl)
 (hok:(Region.noSelect (Code.ops c)&&eu C (Code.ops c) (Code.ops c).size (Array.replicate (Code.ops c).size false) orders)=true:=by kernel_rfl):aF P C c kn kx kr (Cut.go ⟨s,J⟩):=aF.fork hc e ⟨s,J⟩ orders hok h
theorem N{P:List Nat→Prop}:∀ord,ord∈([]:List (List Nat))→P ord:=zm
theorem O{P:List Nat→Prop}{o:List Nat}{l:List (List Nat)}(h:P o)(t:∀ord,ord∈l→P ord):∀ord,ord∈o::l→P ord:=zl h t
theorem ok(hc:cz P C){f:FuncId}(fn:Func){c:dh}{G:c.bg.Den→St→Option c.au.Den}(hS:cz P C→∀x,aF P C (sw fn) (lN C c.au fn.results.toList) (fun _ _=>none) (lN C c.au fn.results.toList) (G x))
 (hF:∀x,G x (c.bg.st x)=c.F x:=by intro x;kernel_rfl) (hf:P.funcs[f]?=some fn:=by kernel_rfl) (hb:fn.body=some (sw fn):=by kernel_rfl) (hn:fn.name≠ "runtime.NumGoroutine":=by decide)
 (hN:C.N=fn.ntmps:=by kernel_rfl) (hnr:c.fD=fn.results.toList.length:=by kernel_rfl) (hna:c.nargs.ble fn.ntmps=true:=by kernel_rfl):gu P f c:=
 xS hc hf hb hn hN rfl hnr (Nat.le_of_ble_eq_true hna) G (hS hc) hF
end W
end Go.Am
end
