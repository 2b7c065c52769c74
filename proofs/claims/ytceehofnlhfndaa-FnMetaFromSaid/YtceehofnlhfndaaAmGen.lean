/- an abstract machine over the model: what it holds, how it steps, and that its steps are sound -/
import Derived.Test.YtceehofnlhfndaaAmOps12
import Derived.Laws.StructEq
import Derived.KernelRfl
set_option linter.unnecessarySimpa false
set_option linter.unusedSimpArgs false
set_option linter.unusedVariables false
set_option linter.unusedSectionVars false
section
namespace Go.Am
def Ty.isRow:Ty→Bool
 | .nil=>true
 | .cons _ _=>true
 |_=>false
def dn(P:Program):Ty→TypeId→List Field→Nat→Prop
 | .int k,t,_,_=>P.underlying t=some (.int k)
 | .bool,t,_,_=>P.underlying t=some .bool
 | .str,t,_,_=>P.underlying t=some .string
 | .st fs,t,_,_=>∃fields,P.underlying t=some (.struct fields)∧P.stoodInHeld t=false∧dn P fs 0 fields.toList 0∧fs.isRow=true
 | .nil,_,l,_=>l=[]
 | .cons a b,_,l,off=>∃f r,l=f::r∧f.offset=off∧f.name≠ "_"∧(∃i,P.info? f.type=some i∧i.size=a.size)∧fB P f.type a∧0<a.size∧dn P a f.type [] 0∧dn P b 0 r (off+a.size)∧a.isRow=false∧b.isRow=true
 | .list _ _,_,_,_=>False
 | .ptr,_,_,_=>False
section
variable{P:Program}{w:World}
theorem sw{t:TypeId}{a:Ty}{xs:Array Value}{pre cs post:List Value}{v:Value}(hag:fB P t a)(hi:∃i,P.info? t=some i∧i.size=a.size)(h0:0<a.size)
 (hx:xs.toList=pre++(cs++post)) (hl:cs.length=a.size) (hm:mkV a.isAgg cs v) (u:World):(part t xs pre.length).run P u= .ok v u:=by
 obtain⟨i,h1,h2⟩:=hi;unfold part;rw[Sem.run_bind,wX hag];simp only[Result.andThen_ok];cases ha:a.isAgg with
 |true=>
  rw[ha] at hm;have hm:v= .agg cs.toArray:=hm;simp only[if_true];simp only[sizeOf,typeInfo,Sem.run_bind,run_program,Result.andThen_ok,h1,Sem.run_pure,h2];simp only[hm];have:xs.extract pre.length (pre.length+a.size)=cs.toArray:=by
   apply Array.ext';rw[Array.toList_extract,hx];simp[List.extract,hl]
  simp[this]
 |false=>
  rw[ha] at hm;have hm:cs=[v]:=hm;subst hm;simp only[Bool.false_eq_true,if_false];have:xs[pre.length]?=some v:=by
   rw[←Array.getElem?_toList,hx];simp
  rw[this];rfl
theorem uB{S:Nat→Prop}(w:World):∀(u:Ty),
 (u.isRow=false→∀(d:Nat) (t:TypeId) (x y:u.Den) (cs ds:List Value) (r:Bool) (v v':Value),u.ht≤d→dn P u t [] 0→Rd w S u x cs→Rd w S u y ds→bO u x y=some r→mkV u.isAgg cs v→mkV u.isAgg ds v'→
  (Op.equalIn d t v v').run P w= .ok r w)∧
 (u.isRow=true→∀(d:Nat) (l:List Field) (off:Nat) (x y:u.Den) (xs ys:Array Value) (pre pre' cs ds:List Value) (r:Bool),u.ht≤d→dn P u 0 l off→Rd w S u x cs→Rd w S u y ds→bO u x y=some r→
  xs.toList=pre++cs→ys.toList=pre'++ds→pre.length=off→pre'.length=off→(Op.eqFields d xs ys l).run P w= .ok r w):=by
 intro u
 induction u with
 |int k=>
  refine⟨fun _ d t x y cs ds r v v' hd he h1 h2 hr m1 m2=> ?_,by simp[Ty.isRow]⟩;have h1:cs=[.int k x]:=h1;have h2:ds=[.int k y]:=h2;have m1:cs=[v]:=m1;have m2:ds=[v']:=m2;rw[h1] at m1;rw[h2] at m2;simp only[List.cons.injEq,and_true] at m1 m2;subst m1 m2;obtain⟨d,rfl⟩:∃e,d=e+1:=⟨d-1,by have:(1:Nat)≤d:=hd;omega⟩;simp only[bO,Option.some.injEq] at hr;subst hr;exact run_equalIn_int w d t k k x y he
 |bool=>
  refine⟨fun _ d t x y cs ds r v v' hd he h1 h2 hr m1 m2=> ?_,by simp[Ty.isRow]⟩;have h1:cs=[.bool x]:=h1;have h2:ds=[.bool y]:=h2;have m1:cs=[v]:=m1;have m2:ds=[v']:=m2;rw[h1] at m1;rw[h2] at m2;simp only[List.cons.injEq,and_true] at m1 m2;subst m1 m2;obtain⟨d,rfl⟩:∃e,d=e+1:=⟨d-1,by have:(1:Nat)≤d:=hd;omega⟩;simp only[bO,Option.some.injEq] at hr;subst hr;exact Go.run_equalIn_bool w d t x y he
 |str=>
  refine⟨fun _ d t x y cs ds r v v' hd he h1 h2 hr m1 m2=> ?_,by simp[Ty.isRow]⟩;have h1:cs=[.string x]:=h1;have h2:ds=[.string y]:=h2;have m1:cs=[v]:=m1;have m2:ds=[v']:=m2;rw[h1] at m1;rw[h2] at m2;simp only[List.cons.injEq,and_true] at m1 m2;subst m1 m2;obtain⟨d,rfl⟩:∃e,d=e+1:=⟨d-1,by have:(1:Nat)≤d:=hd;omega⟩;simp only[bO,Option.some.injEq] at hr;subst hr;exact run_equalIn_string w d t x y he
 |list e t _=>exact⟨fun _ d t x y cs ds r v v' hd he=>he.elim,by simp[Ty.isRow]⟩
 |ptr=>exact⟨fun _ d t x y cs ds r v v' hd he=>he.elim,by simp[Ty.isRow]⟩
 |nil=>
  refine⟨by simp[Ty.isRow],fun _ d l off x y xs ys pre pre' cs ds r hd he h1 h2 hr _ _ _ _=> ?_⟩;have he:l=[]:=he;subst he;simp only[bO,Option.some.injEq] at hr;subst hr;rfl
 |st fs ih=>
  refine⟨fun _ d t x y cs ds r v v' hd he h1 h2 hr m1 m2=> ?_,by simp[Ty.isRow]⟩;obtain⟨fields,he1,he2,qL,hrow⟩:=he;have m1:v= .agg cs.toArray:=m1;have m2:v'= .agg ds.toArray:=m2;subst m1 m2;obtain⟨d,rfl⟩:∃e,d=e+1:=⟨d-1,by have:fs.ht+1≤d:=hd;omega⟩;have hf:P.fieldsOf t=fields:=by unfold Program.fieldsOf;rw[he1]
  rw[run_equalIn_agg w d t _ _ (by rw[hf];exact he1) he2,hf];exact ih.2 hrow d fields.toList 0 x y _ _ [] [] cs ds r (by have:fs.ht+1≤d+1:=hd;omega) qL h1 h2 hr (by simp) (by simp) rfl rfl
 |cons a b iha ihb=>
  refine⟨by simp[Ty.isRow],fun _ d l off x y xs ys pre pre' cs ds r hd he h1 h2 hr q1 q2 q3 q4=> ?_⟩;obtain⟨f,l',rfl,e1,e2,e3,e4,e5,e6,e7,l_,hbr⟩:=he;obtain⟨c1,c2,rfl,h11,h12⟩:=h1;obtain⟨d1,d2,rfl,h21,h22⟩:=h2;simp only[bO] at hr;split at hr
  ·rename_i p q hp hq
   simp only[Option.some.injEq] at hr;subst hr;have l1:=aH _ _ _ h11;have l2:=aH _ _ _ h21;have hmk:∀(cs:List Value),cs.length=a.size→a.isRow=false→(a.isAgg=false→a.size=1)→∃v,mkV a.isAgg cs v:=by
    intro cs hl _ h1;cases ha:a.isAgg with
    |true=>exact⟨_,rfl⟩
    |false=>
     rw[h1 ha] at hl
     match cs,hl with
     |[v],_=>exact⟨v,rfl⟩
   have hnr:a.isRow=false∧(a.isAgg=false→a.size=1):=by
    refine⟨l_,fun h=> ?_⟩;cases a<;>first|rfl|(simp[Ty.isAgg] at h;done)|(simp[Ty.isRow] at l_;done)
   obtain⟨v,m1⟩:=hmk c1 l1 hnr.1 hnr.2;obtain⟨v',m2⟩:=hmk d1 l2 hnr.1 hnr.2;have qP:=sw (P:=P) (xs:=xs) (pre:=pre) (post:=c2) e4 e3 e5 (by rw[q1]) l1 m1 w;have zF:=sw (P:=P) (xs:=ys) (pre:=pre') (post:=d2) e4 e3 e5 (by rw[q2]) l2 m2 w;have hd1:a.ht≤d:=Nat.le_trans (Nat.le_max_left _ _) hd;have hd2:b.ht≤d:=Nat.le_trans (Nat.le_max_right _ _) hd;have heq:=iha.1 hnr.1 d f.type x.1 y.1 c1 d1 p v v' hd1 e6 h11 h21 hp m1 m2;have hrest:=ihb.2 hbr d l' (off+a.size) x.2 y.2 xs ys (pre++c1) (pre'++d1) c2 d2 q hd2 e7 h12 h22 hq (by rw[q1];simp) (by rw[q2];simp) (by rw[List.length_append,q3,l1]) (by rw[List.length_append,q4,l2]);simp only[Op.eqFields,e2,ne_eq,not_false_eq_true,if_true,Sem.run_bind];rw[e1,←q3,qP];simp only[Result.andThen_ok];rw[q3,←q4,zF];simp only[Result.andThen_ok,heq];cases p with
   |true=>simp only[Bool.not_true,Bool.false_eq_true,if_false,Bool.true_and];exact hrest
   |false=>simp
  ·cases hr
end
section
variable{P:Program}{R:Type}{C:Ctx}{o:Oper}{st:St}{k:St→Option R}{r:R}{E0 E:Env}{a:Act}{K:Act→World→Prop}{Q:Exit→Act→World→Prop}{g:Bool}
theorem yO(heq:∀t u,C.tt t=some u→u.isAgg=true→u.flat=true→dn P u t [] 0∧P.eqGuardType P.depth t=false){op:BinOp}{t yt:TypeId}{X Y:Operand}{c d:Cn}{x y:DV}(ho:o.op= .binOp op t X Y yt)
 (hx:bT c=some x) (hy:bT d=some y) (hk:j3 C o op t x y st k=some r) (h:Inv C.N E0 E st a) (hX:ak E st.ob st.nx c (a.eval X)) (hY:ak E st.ob st.nx d (a.eval Y))
 (hK:∀st' E' v,k st'=some r→Inv C.N E0 E' st' (a.put o.dst v)→aL P C g o a v E.w E'.w→K (a.put o.dst v) E'.w):o.wp P a E.w K Q:=by
 have hnd:∀{c:Cn} {x:DV},bT c=some x→c≠ .dead:=by intro c x h e;subst e;cases h
 obtain⟨cs,h1,m1⟩:=eD hX (hnd hx);obtain⟨ds,h2,m2⟩:=eD hY (hnd hy);obtain⟨r1,_,g1⟩:=je c x cs hx h1;obtain⟨r2,_,g2⟩:=je d y ds hy h2;unfold j3 at hk;split at hk
 ·rename_i l9
  simp only[Bool.and_eq_true] at l9;obtain⟨c1,c2,c3,c4⟩:=l9;split at hk
  ·rename_i b hb
   have hb:=cZ hb;subst hb;split at hk
   ·rename_i q hq
    have hT:C.tt t=some x.ty:=by
     split at c1
     ·rename_i u hu;rw[hu,of_decide_eq_true c1]
     ·cases c1
    obtain⟨e1,e2⟩:=heq _ _ hT c2 c3;rw[←g1,c2] at m1;rw[←g2] at m2;have m2:mkV x.ty.isAgg ds (a.eval Y):=m2;rw[c2] at m2;have ru:a.eval X= .agg cs.toArray:=m1;have vM:a.eval Y= .agg ds.toArray:=m2;have hrow:x.ty.isRow=false:=by
     generalize x.ty=u at c2;cases u<;>first|rfl|cases c2
    have hrun:∀u,(Op.equalIn 10000 t (.agg cs.toArray) (.agg ds.toArray)).run P u= .ok q u:=fun u=>
     (uB (S:=fun _=>False) u x.ty).1 hrow 10000 t x.v b cs ds q _ _ (Nat.le_trans (Nat.le_of_ble_eq_true c4) (by omega)) e1 (fV _ c3 _ _ r1) (fV _ c3 _ _ r2) hq (by rw[c2];rfl) (by rw[c2];rfl)
    split at hk
    ·exact aQ hk h (fun u _=>by unfold execOp;simp[ho,ru,vM,run_eqGuard_agg u _ t X Y _ _ e2,run_eql_struct,hrun]) (gM ..) hK
    ·exact aQ hk h (fun u _=>by unfold execOp;simp[ho,ru,vM,run_eqGuard_agg u _ t X Y _ _ e2,run_neq_struct,hrun]) (gM ..) hK
    ·cases hk
   ·cases hk
  ·cases hk
 ·cases hk
end
end Go.Am
end
section
namespace Go.Am
theorem yP{a b:ByteArray}:iI a b=true↔a=b:=by
 unfold iI;rw[beq_iff_eq,ByteArray.toList_eq,ByteArray.toList_eq];refine⟨fun h=> ?_,fun h=>by rw[h]⟩;obtain⟨x⟩:=a;obtain⟨y⟩:=b;have:x=y:=Array.ext' h;rw[this]
theorem nL:∀(u:Ty),u.flat=true→∀(x y:u.Den),∃r,bO u x y=some r
 | .int _,_,x,y=>⟨_,rfl⟩
 | .bool,_,x,y=>⟨_,rfl⟩
 | .str,_,x,y=>⟨_,rfl⟩
 | .nil,_,x,y=>⟨_,rfl⟩
 | .list _ _,h,_,_=>by simp[Ty.flat] at h
 | .ptr,h,_,_=>by simp[Ty.flat] at h
 | .cons a b,h,x,y=>by
   simp[Ty.flat] at h;obtain⟨p,hp⟩:=nL a h.1 x.1 y.1;obtain⟨q,hq⟩:=nL b h.2 x.2 y.2;exact⟨p&&q,by simp[bO,hp,hq]⟩
 | .st a,h,x,y=>nL a h x y
theorem nK:∀(u:Ty) (x y:u.Den),bO u x y=some true→x=y
 | .int _,x,y,h=>by simpa[bO] using h
 | .bool,x,y,h=>by simpa[bO] using h
 | .str,x,y,h=>by simp only[bO,Option.some.injEq] at h;exact yP.1 h
 | .nil,x,y,h=>rfl
 | .list _ _,_,_,h=>by simp[bO] at h
 | .ptr,_,_,h=>by simp[bO] at h
 | .cons a b,x,y,h=>by
   simp only[bO] at h;split at h
   ·rename_i p q hp hq
    simp only[Option.some.injEq,Bool.and_eq_true] at h;obtain⟨rfl,rfl⟩:=h;exact Prod.ext (nK a _ _ hp) (nK b _ _ hq)
   ·cases h
 | .st a,x,y,h=>nK a x y h
def jF:Value→Prop
 | .int _ _| .bool _| .string _=>True
 |_=>False
theorem lW{w:World}{S:Nat→Prop}:∀(u:Ty),u.flat=true→∀(x:u.Den) (cs ds:List Value),Rd w S u x cs→Rd w S u x ds→cs=ds∧∀v,v∈cs→jF v
 | .int _,_,x,cs,ds,h,k=>by
   have h:cs=[_]:=h;have k:ds=[_]:=k;rw[h,k];simp[jF]
 | .bool,_,x,cs,ds,h,k=>by
   have h:cs=[_]:=h;have k:ds=[_]:=k;rw[h,k];simp[jF]
 | .str,_,x,cs,ds,h,k=>by
   have h:cs=[_]:=h;have k:ds=[_]:=k;rw[h,k];simp[jF]
 | .nil,_,x,cs,ds,h,k=>by
   have h:cs=[]:=h;have k:ds=[]:=k;rw[h,k];simp
 | .list _ _,hf,_,_,_,_,_=>by simp[Ty.flat] at hf
 | .ptr,hf,_,_,_,_,_=>by simp[Ty.flat] at hf
 | .cons a b,hf,x,_,_,⟨c,d,rfl,h1,h2⟩,⟨c',d',rfl,k1,k2⟩=>by
   simp[Ty.flat] at hf;obtain⟨rfl,g1⟩:=lW a hf.1 _ _ _ h1 k1;obtain⟨rfl,g2⟩:=lW b hf.2 _ _ _ h2 k2;exact⟨rfl,fun v hv=>(List.mem_append.1 hv).elim (g1 v) (g2 v)⟩
 | .st a,hf,x,cs,ds,h,k=>lW a hf x cs ds h k
theorem Bj{n:Nat}{v:Value}(h:jF v):Instr.sameBits n v v=true:=by
 cases v<;>first|exact h.elim|(cases n<;>simp[Instr.sameBits,beq_toListBytes])
theorem Bh{u:Ty}(ha:u.isAgg=true){v:Value}{cs:List Value}(hl:∀c,c∈cs→jF c)(hm:mkV u.isAgg cs v):Instr.sameBits 10000 v v=true:=by
 rw[ha] at hm;have hm:v= .agg cs.toArray:=hm;subst hm;simp only[Instr.sameBits,beq_self_eq_true,Bool.true_and,List.all_eq_true];rintro⟨x,y⟩ hxy;have key:∀(l:List Value) (x y:Value),(x,y)∈l.zip l→x=y∧x∈l:=by
  intro l
  induction l with
  |nil=>intro x y h;simp at h
  |cons z l ih=>
   intro x y h;simp only[List.zip_cons_cons,List.mem_cons,Prod.mk.injEq] at h;rcases h with⟨rfl,rfl⟩|h
   ·exact⟨rfl,List.mem_cons_self⟩
   ·exact⟨(ih x y h).1,List.mem_cons_of_mem _ (ih x y h).2⟩
 obtain⟨rfl,hx⟩:=key cs x y (by simpa using hxy);exact Bj (hl x hx)
theorem xG{u:Ty}(hf:u.flat=true){x:u.Den}{v v':Value}(h:iR u x v)(k:iR u x v'):v=v':=by
 obtain⟨cs,h1,h2⟩:=h;obtain⟨ds,k1,k2⟩:=k;obtain⟨rfl,_⟩:=lW u hf x cs ds (h1 default fun _=>False) (k1 _ _);unfold mkV at h2 k2;split at h2
 ·rename_i e;simp only[e,if_true] at k2;rw[h2,k2]
 ·rename_i e;simp only[e] at k2
  rw[h2] at k2;simpa using k2
section
variable{P:Program}
def iV(em:Bool)(d:Nat)(xs:Array Value):List Field→Sem Unit
 |[]=>pure ()
 |f::fs=>
  if f.name≠ "_"then do
   let a ←part f.type xs f.offset
   Instr.checkKey em d f.type a
   iV em d xs fs
  else iV em d xs fs
theorem Bc(w:World)(em:Bool)(d:Nat)(t:TypeId)(xs:Array Value){fields:Array Field}(ht:P.underlying t=some (.struct fields)):
 (Instr.checkKey em (d+1) t (.agg xs)).run P w=(iV em d xs fields.toList).run P w:=by
 simp only[Instr.checkKey,Sem.run_bind,run_underlying ht,Result.andThen_ok];rw[←Array.forIn_toList];generalize fields.toList=fs;clear ht
 induction fs generalizing w with
 |nil=>simp[iV]
 |cons f fs ih=>
  simp only[List.forIn_cons,iV,Sem.run_bind,Sem.run_ite];split
  ·generalize(part f.type xs f.offset).run P w=r1
   cases r1 with
   |ok a w1=>
    simp only[Result.andThen_ok];generalize(Instr.checkKey em d f.type a).run P w1=r2;cases r2 with
    |ok _ w2=>
     simp only[Result.andThen_ok,Sem.run_pure];exact ih w2
    |_=>rfl
   |_=>rfl
  ·simp only[Sem.run_pure,Result.andThen_ok]
   exact ih w
theorem uk(em:Bool)(w:World):∀(u:Ty),
 (u.isRow=false→∀(d:Nat) (t:TypeId) (x:u.Den) (cs:List Value) (v:Value),u.ht≤d→dn P u t [] 0→Rd w (fun _=>False) u x cs→mkV u.isAgg cs v→(Instr.checkKey em d t v).run P w= .ok () w)∧
 (u.isRow=true→∀(d:Nat) (l:List Field) (off:Nat) (x:u.Den) (xs:Array Value) (pre cs:List Value),u.ht≤d→dn P u 0 l off→Rd w (fun _=>False) u x cs→xs.toList=pre++cs→pre.length=off→
  (iV em d xs l).run P w= .ok () w):=by
 intro u
 induction u with
 |int k=>
  refine⟨fun _ d t x cs v hd he h1 m1=> ?_,by simp[Ty.isRow]⟩;have h1:cs=[.int k x]:=h1;have m1:cs=[v]:=m1;rw[h1] at m1;simp only[List.cons.injEq,and_true] at m1;subst m1;obtain⟨d,rfl⟩:∃e,d=e+1:=⟨d-1,by have:(1:Nat)≤d:=hd;omega⟩;have he:P.underlying t=some (.int k):=he;simp[Instr.checkKey,run_underlying he]
 |bool=>
  refine⟨fun _ d t x cs v hd he h1 m1=> ?_,by simp[Ty.isRow]⟩;have h1:cs=[.bool x]:=h1;have m1:cs=[v]:=m1;rw[h1] at m1;simp only[List.cons.injEq,and_true] at m1;subst m1;obtain⟨d,rfl⟩:∃e,d=e+1:=⟨d-1,by have:(1:Nat)≤d:=hd;omega⟩;have he:P.underlying t=some .bool:=he;simp[Instr.checkKey,run_underlying he]
 |str=>
  refine⟨fun _ d t x cs v hd he h1 m1=> ?_,by simp[Ty.isRow]⟩;have h1:cs=[.string x]:=h1;have m1:cs=[v]:=m1;rw[h1] at m1;simp only[List.cons.injEq,and_true] at m1;subst m1;obtain⟨d,rfl⟩:∃e,d=e+1:=⟨d-1,by have:(1:Nat)≤d:=hd;omega⟩;have he:P.underlying t=some .string:=he;simp[Instr.checkKey,run_underlying he]
 |list e t _=>exact⟨fun _ d t x cs v hd he=>he.elim,by simp[Ty.isRow]⟩
 |ptr=>exact⟨fun _ d t x cs v hd he=>he.elim,by simp[Ty.isRow]⟩
 |nil=>
  refine⟨by simp[Ty.isRow],fun _ d l off x xs pre cs hd he h1 _ _=> ?_⟩;have he:l=[]:=he;subst he;rfl
 |st fs ih=>
  refine⟨fun _ d t x cs v hd he h1 m1=> ?_,by simp[Ty.isRow]⟩;obtain⟨fields,he1,he2,qL,hrow⟩:=he;have m1:v= .agg cs.toArray:=m1;subst m1;obtain⟨d,rfl⟩:∃e,d=e+1:=⟨d-1,by have:fs.ht+1≤d:=hd;omega⟩;have:=ih.2 hrow d fields.toList 0 x cs.toArray [] cs (by have:fs.ht+1≤d+1:=hd;omega) qL h1 (by simp) rfl;rw[Bc w em d t _ he1];exact this
 |cons a b iha ihb=>
  refine⟨by simp[Ty.isRow],fun _ d l off x xs pre cs hd he h1 q1 q3=> ?_⟩;obtain⟨f,l',rfl,e1,e2,e3,e4,e5,e6,e7,l_,hbr⟩:=he;obtain⟨c1,c2,rfl,h11,h12⟩:=h1;have l1:=aH _ _ _ h11;have hnr:a.isAgg=false→a.size=1:=fun h=>by cases a<;>first|rfl|(simp[Ty.isAgg] at h;done)|(simp[Ty.isRow] at l_;done)
  obtain⟨v,m1⟩:∃v,mkV a.isAgg c1 v:=by
   cases ha:a.isAgg with
   |true=>exact⟨_,rfl⟩
   |false=>
    rw[hnr ha] at l1
    match c1,l1 with
    |[v],_=>exact⟨v,rfl⟩
  have qP:=sw (P:=P) (xs:=xs) (pre:=pre) (post:=c2) e4 e3 e5 (by rw[q1]) l1 m1 w;have hd1:a.ht≤d:=Nat.le_trans (Nat.le_max_left _ _) hd;have hd2:b.ht≤d:=Nat.le_trans (Nat.le_max_right _ _) hd;have heq:=iha.1 l_ d f.type x.1 c1 v hd1 e6 h11 m1;have hrest:=ihb.2 hbr d l' (off+a.size) x.2 xs (pre++c1) c2 hd2 e7 h12 (by rw[q1];simp) (by rw[List.length_append,q3,l1]);simp only[iV,e2,ne_eq,not_false_eq_true,if_true,Sem.run_bind];rw[e1,←q3,qP];simp only[Result.andThen_ok,heq];exact hrest
theorem yQ{u:Ty}{kt:TypeId}(ha:u.isAgg=true)(hf:u.flat=true)(hh:u.ht.ble 9999=true)(he:dn P u kt [] 0){x y:u.Den}{v v':Value}(hx:iR u x v)(hy:iR u y v')(w:World):
 (Op.equal kt v v').run P w= .ok (kC u x y) w:=by
 obtain⟨cs,h1,m1⟩:=hx;obtain⟨ds,h2,m2⟩:=hy;obtain⟨r,hr⟩:=nL u hf x y;have hrow:u.isRow=false:=by cases u<;>first|rfl|cases ha
 have:=(uB (P:=P) (S:=fun _=>False) w u).1 hrow 10000 kt x y cs ds r v v' (Nat.le_trans (Nat.le_of_ble_eq_true hh) (by omega)) he (h1 _ _) (h2 _ _) hr m1 m2;unfold kC;rw[hr];exact this
theorem qz{u:Ty}{kk:IntKind}{kt:TypeId}(ha:u.isAgg=true)(hf:u.flat=true)(hh:u.ht.ble 9999=true)(he:dn P u kt [] 0){x:u.Den}{kv:Value}(hx:iR u x kv)(w:World):
 ∀(l:List (u.Den×Int)) (es:List MapEntry) (i:Nat),jG u kk l es→
  (bV u x l=none→(Instr.findAsking kt kv es i).run P w= .ok none w∧∀n e,e.key=kv→e.val= .int kk n→jG u kk (gz u x n l) (es++[e]))∧
  (∀y,bV u x l=some y→∃j e,es[j]?=some e∧e.key=kv∧(Instr.findAsking kt kv es i).run P w= .ok (some (i+j,.int kk y)) w∧
   ∀n,jG u kk (gz u x n l) (es.modify j fun e=>{e with key:=kv,val:= .int kk n}))
 |[],es,i,h=>by
  have h:es=[]:=h;subst h;refine⟨fun _=>⟨rfl,fun n e h1 h2=>⟨e,[],rfl,by rw[h1];exact hx,h2,rfl⟩⟩,fun y hy=>by simp[bV] at hy⟩
 |p::l,es,i,h=>by
  obtain⟨e,r,rfl,h1,h2,h3⟩:=h;have hq:=yQ ha hf hh he hx h1 w;obtain⟨g1,g2⟩:=qz ha hf hh he hx w l r (i+1) h3;cases hb:kC u x p.1 with
  |true=>
   refine⟨fun hy=>by simp[bV,hb] at hy,fun y hy=> ?_⟩;have hxp:x=p.1:=by
    unfold kC at hb;split at hb
    ·rename_i b hb';subst hb;exact nK u _ _ hb'
    ·cases hb
   have hk:e.key=kv:=xG hf h1 (by rw[←hxp];exact hx);refine⟨0,e,rfl,hk,?_,fun n=> ?_⟩
   ·simp only[bV,hb,Option.some.injEq] at hy
    simp only[Instr.findAsking,Sem.run_bind,hq,hb,Result.andThen_ok,if_true,Sem.run_pure,h2,hy,Nat.add_zero]
   ·simp only[gz,hb]
    exact⟨{e with key:=kv,val:= .int kk n},r,rfl,hx,rfl,h3⟩
  |false=>
   refine⟨fun hy=> ?_,fun y hy=> ?_⟩
   ·have hy:bV u x l=none:=by simpa[bV,hb] using hy
    obtain⟨k1,k2⟩:=g1 hy;refine⟨?_,fun n e' a1 a2=> ?_⟩
    ·simp only[Instr.findAsking,Sem.run_bind,hq,hb,Result.andThen_ok]
     exact k1
    ·simp only[gz,hb]
     exact⟨e,r++[e'],rfl,h1,h2,k2 n e' a1 a2⟩
   ·have hy:bV u x l=some y:=by simpa[bV,hb] using hy
    obtain⟨j,e',k1,k2,k3,k4⟩:=g2 y hy;refine⟨j+1,e',by simpa using k1,k2,?_,fun n=> ?_⟩
    ·simp only[Instr.findAsking,Sem.run_bind,hq,hb,Result.andThen_ok]
     rw[show i+(j+1)=i+1+j by omega];exact k3
    ·simp only[gz,hb]
     exact⟨e,_,by simp,h1,h2,k4 n⟩
theorem su{kt:TypeId}{fs:Array Field}(h:P.underlying kt=some (.struct fs))(k:Value)(es:List MapEntry)(w:World):(Instr.findKey kt k es).run P w=(Instr.findAsking kt k es 0).run P w:=by
 unfold Instr.findKey;simp only[Sem.run_bind,run_underlying h,Result.andThen_ok];cases es with
 |nil=>rfl
 |cons e es=>simp[Instr.findNow,Instr.sameNow]
end
structure Ce(P:Program)(C:Ctx):Prop where
 mt:∀t k e,C.mt t=some (k,e)→P.underlying t=some (.map k e)
section
variable{P:Program}{R:Type}{C:Ctx}{o:Oper}{st:St}{k:St→Option R}{r:R}{E0 E:Env}{a:Act}{K:Act→World→Prop}{Q:Exit→Act→World→Prop}{g:Bool}
theorem vX(ay:∀t u,C.tt t=some u→aT P t u)(heq:∀t u,C.tt t=some u→u.isAgg=true→u.flat=true→dn P u t [] 0∧P.eqGuardType P.depth t=false)
 (hmt:∀t k e,C.mt t=some (k,e)→P.underlying t=some (.map k e)) {t kt:TypeId} {u:Ty} {kk:IntKind} (h:mK C t=some (kt,u,kk)):
 u.isAgg=true∧u.flat=true∧u.ht.ble 9999=true∧dn P u kt [] 0∧(∃fs,P.underlying kt=some (.struct fs))∧∃et,P.underlying t=some (.map kt et)∧aT P et (.int kk):=by
 unfold mK at h;split at h
 ·rename_i Cm et hm
  split at h
  ·rename_i u' jo h1 h2
   split at h
   ·rename_i hb
    simp only[Option.some.injEq,Prod.mk.injEq] at h;obtain⟨rfl,rfl,rfl⟩:=h;simp only[Bool.and_eq_true] at hb;have:=(heq _ _ h1 hb.1 hb.2.1).1;refine⟨hb.1,hb.2.1,hb.2.2,this,?_,et,hmt _ _ _ hm,ay _ _ h2⟩;have ha:=hb.1;cases u'<;>first|cases ha|skip
    obtain⟨fs,h,_⟩:=this;exact⟨fs,h⟩
   ·cases h
  ·cases h
 ·cases h
theorem Ak{t:TypeId}{u:Ty}{kk:IntKind}(ho:o.op= .makeMap t none)(hgf:g=false)(hk:az C o (.p st.nx) (st.push (.mp u kk [])) k=some r)(h:Inv C.N E0 E st a)
 (hK:∀st' E' v,k st'=some r→Inv C.N E0 E' st' (a.put o.dst v)→aL P C g o a v E.w E'.w→K (a.put o.dst v) E'.w):o.wp P a E.w K Q:=by
 refine rX (w:=E.w.alloc (.map #[] 0)) (v:= .map (some E.w.heap.size)) (bs:=[E.w.heap.size]) (by simp[still,ho]) hk h ?_ (aA.alloc _ _) ?_ (by simp) ?_ (.inr rfl) rfl hK
 ·unfold execOp;simp[ho,Instr.makeMap]
 ·intro b hb
  obtain rfl:=List.mem_singleton.1 hb;exact⟨Nat.le_refl _,by simp⟩
 ·intro ev
  refine⟨E.w.heap.size,#[],0,upd_same _ _ _,?_,rfl,upd_same _ _ _⟩;simpa using heap_alloc_new E.w (.map #[] 0)
theorem vW{R':Type}{t:TypeId}{i:Nat}{c:Cn}{kf:(u:Ty)→IntKind→List (u.Den×Int)→u.Den→Option R'}{r:R'}(h:gY C st t i c kf=some r):
 ∃kt u kk l d x,mK C t=some (kt,u,kk)∧st.ob i= .mp u kk l∧bT c=some d∧d=⟨u,x⟩∧kf u kk l x=some r:=by
 unfold gY at h;split at h
 ·rename_i kt u kk hT
  split at h
  ·rename_i u' jo l d ah hd
   split at h
   ·rename_i l' x h1 h2
    have e1:=cZ h1;have e2:=cZ h2;simp only[DV.mk.injEq,Ty.list.injEq,Ty.cons.injEq,Ty.int.injEq,true_and] at e1;obtain⟨⟨rfl,rfl⟩,e1⟩:=e1;have e1:=eq_of_heq e1;subst e1;exact⟨kt,u',jo,l,d,x,hT,ah,hd,e2,h⟩
   ·cases h
  ·cases h
 ·cases h
theorem vB{u:Ty}{x:u.Den}{c:Cn}{v:Value}(hf:u.flat=true)(hd:bT c=some ⟨u,x⟩)(hv:ak E st.ob st.nx c v):iR u x v:=by
 obtain⟨cs,h1,m1⟩:=eD hv (by intro e;subst e;cases hd);obtain⟨r1,_,g1⟩:=je c _ cs hd h1;rw[←g1] at m1;exact⟨cs,fun w S=>fV _ hf _ _ r1,m1⟩
theorem Ah(ay:∀t u,C.tt t=some u→aT P t u)(heq:∀t u,C.tt t=some u→u.isAgg=true→u.flat=true→dn P u t [] 0∧P.eqGuardType P.depth t=false)
 (hmt:∀t k e,C.mt t=some (k,e)→P.underlying t=some (.map k e)) {t:TypeId} {X Y:Operand} {ok:Bool} {i:Nat} {c:Cn} (ho:o.op= .lookup t X Y ok) (hgf:g=false)
 (hk:(gY C st t i c fun u kk l x=>az C o (vK ok kk (bV u x l)) st k)=some r) (h:Inv C.N E0 E st a)
 (hX:ak E st.ob st.nx (.p i) (a.eval X)) (hY:ak E st.ob st.nx c (a.eval Y))
 (hK:∀st' E' v,k st'=some r→Inv C.N E0 E' st' (a.put o.dst v)→aL P C g o a v E.w E'.w→K (a.put o.dst v) E'.w):o.wp P a E.w K Q:=by
 obtain⟨kt,u,kk,l,d,x,hT,ah,hd,rfl,hk'⟩:=vW hk;clear hk;have hk:=hk';clear hk';obtain⟨t1,t2,t3,t4,⟨fs,t5⟩,et,t6,t7⟩:=vX ay heq hmt hT;have fH:=h.rep.ob i;rw[ah] at fH;obtain⟨gg,es,ck,k1,k2,k3,k4⟩:=fH;obtain⟨cs,x1,x2⟩:=hX;have x2:cs=[a.eval X]:=x2;have x1:cs=[E.af i]:=x1.2.2;have eX:a.eval X= .map (some gg):=by rw[x1,k1] at x2;simpa using x2.symm
 have hkey:=vB (st:=st) (E:=E) t2 hd hY;obtain⟨z1,z2⟩:=qz (P:=P) (kk:=kk) t1 t2 t3 t4 hkey E.w l es.toList 0 k3;obtain⟨mE,mD,nX⟩:=hkey;have hrow:u.isRow=false:=by cases u<;>first|rfl|cases t1
 have hck:(Instr.checkKey es.isEmpty 10000 kt (a.eval Y)).run P E.w= .ok () E.w:=(uk (P:=P) es.isEmpty E.w u).1 hrow 10000 kt x mE _ (Nat.le_trans (Nat.le_of_ble_eq_true t3) (by omega)) t4 (mD _ _) nX;obtain⟨ii,z,i1,i2,i3,i4,_,_,i6,_⟩:=t7.info;have i4:z.cells.toList=[.int kk 0]:=i4;have i6:z.cells.toList=[z]:=i6;have i5:z= .int kk 0:=by rw[i4] at i6;simpa using i6.symm
 have hgo:(getObj gg).run P E.w= .ok (.map es ck) E.w:=by simp[getObj,Sem.run,k2]
 have hrun:(Instr.lookup t (a.eval X) (a.eval Y) ok).run P E.w= .ok (if ok then .tuple #[.int kk ((bV u x l).getD 0),.bool (bV u x l).isSome] else .int kk ((bV u x l).getD 0)) E.w:=by
  unfold Instr.lookup;rw[eX];simp only[Sem.run_bind,run_underlying t6,Result.andThen_ok,hgo,Sem.run_pure,hck,su t5];cases hm:bV u x l with
  |none=>
   rw[(z1 hm).1];simp[zeroValue,typeInfo,i1,i3,i5]
  |some y=>
   obtain⟨j,e,_,_,zz,_⟩:=z2 y hm;rw[zz];simp
 have hrun':(execOp a.eval o).run P E.w= .ok (.value (if ok then .tuple #[.int kk ((bV u x l).getD 0),.bool (bV u x l).isSome] else .int kk ((bV u x l).getD 0))) E.w:=by
  unfold execOp;simp[ho,hrun]
 refine eF hrun' (eP (G:=fun a'=>K a' E.w) hk h ?_ fun st' hk' hi=>hK st' E _ hk' hi (.loud (by simp[still,ho]) (fun hg=>by rw[hgf] at hg;cases hg)));cases ok with
 |false=>exact cO ..
 |true=>
  refine⟨[_],⟨_,rfl,?_⟩,rfl⟩;exact⟨_,_,[_],rfl,⟨rfl,trivial,fun _=>rfl⟩,rfl,⟨_,_,[_],rfl,⟨rfl,trivial,fun _=>rfl⟩,rfl,rfl⟩⟩
theorem Al(ay:∀t u,C.tt t=some u→aT P t u)(heq:∀t u,C.tt t=some u→u.isAgg=true→u.flat=true→dn P u t [] 0∧P.eqGuardType P.depth t=false)
 (hmt:∀t k e,C.mt t=some (k,e)→P.underlying t=some (.map k e)) {t:TypeId} {M X Y:Operand} {i:Nat} {c:Cn} {ky:IntKind} {n:Int} (ho:o.op= .mapUpdate t M X Y) (hgf:g=false)
 (hk:(gY C st t i c fun u kk l x=>match decide (kk=ky),o.dst with
    |true,none=>k (st.set i (.mp u kk (gz u x n l)))
    |_,_=>none)=some r) (h:Inv C.N E0 E st a)
 (hM:ak E st.ob st.nx (.p i) (a.eval M)) (hX:ak E st.ob st.nx c (a.eval X)) (hY:a.eval Y= .int ky n)
 (hK:∀st' E' v,k st'=some r→Inv C.N E0 E' st' (a.put o.dst v)→aL P C g o a v E.w E'.w→K (a.put o.dst v) E'.w):o.wp P a E.w K Q:=by
 obtain⟨kt,u,kk,l,d,x,hT,ah,hd,rfl,hk'⟩:=vW hk;clear hk;have hk:=hk';clear hk';obtain⟨t1,t2,t3,t4,⟨fs,t5⟩,et,t6,t7⟩:=vX ay heq hmt hT;have fH:=h.rep.ob i;rw[ah] at fH;obtain⟨gg,es,ck,k1,k2,k3,k4⟩:=fH;obtain⟨cs,x1,x2⟩:=hM;have x2:cs=[a.eval M]:=x2;have hi:i<st.nx:=x1.1;have x1:cs=[E.af i]:=x1.2.2;have eM:a.eval M= .map (some gg):=by rw[x1,k1] at x2;simpa using x2.symm
 have hkey:=vB (st:=st) (E:=E) t2 hd hX;obtain⟨z1,z2⟩:=qz (P:=P) (kk:=kk) t1 t2 t3 t4 hkey E.w l es.toList 0 k3;obtain⟨mE,mD,nX⟩:=hkey;have hrow:u.isRow=false:=by cases u<;>first|rfl|cases t1
 have hck:(Instr.checkKey false 10000 kt (a.eval X)).run P E.w= .ok () E.w:=(uk (P:=P) false E.w u).1 hrow 10000 kt x mE _ (Nat.le_trans (Nat.le_of_ble_eq_true t3) (by omega)) t4 (mD _ _) nX;have hgo:(getObj gg).run P E.w= .ok (.map es ck) E.w:=by simp[getObj,Sem.run,k2]
 have hso:∀ob,(setObj gg ob).run P E.w= .ok () {E.w with heap:=E.w.heap.setIfInBounds gg ob}:=fun ob=>by simp[setObj,Sem.run,k2]
 have hsb:Instr.sameBits 10000 (a.eval X) (a.eval X)=true:=Bh t1 (lW (w:=E.w) (S:=fun _=>False) u t2 x mE mE (mD _ _) (mD _ _)).2 nX;split at hk
 ·rename_i hkk hdst
  obtain rfl:=of_decide_eq_true hkk;have hlt:gg<E.w.heap.size:=(h.rep.bb i gg (by rw[k4];simp)).1;have fin:∀(es':Array MapEntry) (lM:Nat),jG u kk (gz u x n l) es'.toList→(Instr.mapUpdate t (a.eval M) (a.eval X) (a.eval Y)).run P E.w= .ok () {E.w with heap:=E.w.heap.setIfInBounds gg (.map es' lM)}→o.wp P a E.w K Q:=by
   intro es' lM hm hrun
   have hI:=h.touch i (.mp u kk (gz u x n l)) (w:={E.w with heap:=E.w.heap.setIfInBounds gg (.map es' lM)}) rfl rfl rfl (by simp)
    (fun b hb=>by rw[k4] at hb;show(E.w.heap.setIfInBounds gg _)[b]?=_;rw[Array.getElem?_setIfInBounds_ne (fun e=>hb (by rw[e];simp))]) hi
    (fun fz v e t xs he=>by cases he) ⟨fun u' hu'=>by simp[Ob.lay] at hu',fun hh=>by simp[Ob.bn] at hh⟩
    (fun ev=>⟨gg,es',lM,k1,by show(E.w.heap.setIfInBounds gg _)[gg]?=_;simp[hlt],hm,k4⟩)
   refine mW (w':={E.w with heap:=E.w.heap.setIfInBounds gg (.map es' lM)}) (by unfold execOp;simp[ho,hrun]) ?_;have hput:a.put o.dst undef=a:=by rw[hdst];rfl
   exact hK _ _ undef hk (by rw[hput];exact hI) (.loud (by simp[still,ho]) (fun hgt=>by rw[hgf] at hgt;cases hgt))
  cases hm:bV u x l with
  |none=>
   obtain⟨q1,q2⟩:=z1 hm;refine fin (es.push {key:=a.eval X,val:=a.eval Y,born:=ck}) (ck+1) ?_ ?_
   ·rw[Array.toList_push]
    exact q2 n _ rfl hY
   ·unfold Instr.mapUpdate
    rw[eM];simp only[Sem.run_bind,run_underlying t6,Result.andThen_ok,hgo,hck,su t5,q1,hso]
  |some y=>
   obtain⟨j,e,y1,y2,y3,y4⟩:=z2 y hm;refine fin (es.modify j fun e=>{e with key:=a.eval X,val:=a.eval Y}) ck ?_ ?_
   ·rw[Array.toList_modify,hY]
    exact y4 n
   ·unfold Instr.mapUpdate
    rw[eM];have y1':es[j]?=some e:=by rw[←Array.getElem?_toList];exact y1
    simp only[Sem.run_bind,run_underlying t6,Result.andThen_ok,hgo,hck,su t5,y3,Nat.zero_add,y1',Option.map_some,Option.getD_some,y2,Instr.keyThatStays,hsb,if_true,Sem.run_pure,hso]
 ·cases hk
end
end Go.Am
end
section
namespace Go.Am
structure Ext(E:Env)(m:Mt)(E':Env)(m':Mt):Prop where
 w:E'.w=E.w
 Z:E'.Z=E.Z
 B:E'.B=E.B
 af:∀i,i<m.nx→E'.af i=E.af i
 nx:m.nx≤m'.nx
 ob:∀i,i<m.nx→m'.ob i=m.ob i
 sig:∀j i,aC m.sig j=some i→aC m'.sig j=some i
 fz:∀i,i∈m.fz→i∈m'.fz
theorem Ext.refl(E:Env)(m:Mt):Ext E m E m:=⟨rfl,rfl,rfl,fun _ _=>rfl,Nat.le_refl _,fun _ _=>rfl,fun _ _ h=>h,fun _ h=>h⟩
theorem Ext.trans{E E1 E2:Env}{m m1 m2:Mt}(h:Ext E m E1 m1)(k:Ext E1 m1 E2 m2):Ext E m E2 m2:=
 ⟨k.w.trans h.w,k.Z.trans h.Z,k.B.trans h.B,fun i hi=>(k.af i (Nat.lt_of_lt_of_le hi h.nx)).trans (h.af i hi),Nat.le_trans h.nx k.nx,
  fun i hi=>(k.ob i (Nat.lt_of_lt_of_le hi h.nx)).trans (h.ob i hi),fun j i e=>k.sig j i (h.sig j i e),fun i e=>k.fz i (h.fz i e)⟩
theorem Ext.ev{E E':Env}{m m':Mt}(h:Ext E m E' m'):Ev E m.ob m.nx E' m'.ob m'.nx where
 le:=h.nx
 af:=h.af
 z:=fun b hb=>by rw[h.Z];exact hb
 hz:=fun b _=>by rw[h.w]
 lay:=fun i hi u hu=>by rw[h.ob i hi] at hu;exact hu
 bx:=fun i hi hu=>by rw[h.ob i hi] at hu;exact hu
 obs:=fun i hi fz v e t xs ho=>⟨fz,v,xs,by rw[h.ob i hi] at ho;exact ho,rfl,Nat.le_refl _,fun _=>⟨rfl,fun b hb=>⟨by rw[h.w],by rw[h.B,h.Z];exact hb⟩⟩⟩
structure Vw(E:Env)(m:Mt)(F:Env)(nx:Nat):Prop where
 w:F.w=E.w
 z:∀b,E.Z b→F.Z b
 fz:∀i,i∈m.fz→∀b,b∈E.B i→F.Z b
 af:∀j i,aC m.sig j=some i→j<nx∧F.af j=E.af i
 lt:∀j i,aC m.sig j=some i→i<m.nx
theorem Vw.back{E E':Env}{m m':Mt}{F:Env}{nx:Nat}(h:Ext E m E' m')(v:Vw E' m' F nx)(hl:∀j i,aC m.sig j=some i→i<m.nx):Vw E m F nx where
 w:=v.w.trans h.w
 z:=fun b hb=>v.z b (by rw[h.Z];exact hb)
 fz:=fun i hi b hb=>v.fz i (h.fz i hi) b (by rw[h.B];exact hb)
 af:=fun j i e=>⟨(v.af j i (h.sig j i e)).1,((v.af j i (h.sig j i e)).2).trans (h.af i (hl j i e))⟩
 lt:=hl
def tV(m:Mt):Prop:=∀j i,aC m.sig j=some i→i<m.nx
theorem xC{tmp:Bool}{E:Env}{wo:Nat}:∀(c:Cn) (m m':Mt) (d:DV) (cs:List Value),bH tmp m c=some (d,m')→(∀i,aJ E m.ob wo i (m.ob i))→
 av E m.ob wo c false cs→m'.sig=m.sig∧m'.ob=m.ob∧m'.nx=m.nx∧(∀i,i∈m.fz→i∈m'.fz)∧d.ty.isAgg=c.isAgg∧
 ∀F:Env,F.w=E.w→(∀b,E.Z b→F.Z b)→(∀i,i∈m'.fz→∀b,b∈E.B i→F.Z b)→Rd F.w F.Z d.ty d.v cs:=by
 intro c
 induction c with
 |ro b d0=>
  intro m m' d cs h ah hc;cases b with
  |none=>
   simp only[bH,Option.some.injEq,Prod.mk.injEq] at h;obtain⟨rfl,rfl⟩:=h;exact⟨rfl,rfl,rfl,fun _ h=>h,rfl,fun F hw hz hf=>aN hz (fun b _=>by rw[hw]) _ _ _ (hc.2.2 trivial)⟩
  |some p=>
   obtain⟨i,aj⟩:=p;simp only[bH] at h;split at h
   ·rename_i fz v e t xs hi
    split at h
    ·rename_i hv
     cases h;have hv:=Nat.eq_of_beq_eq_true hv;subst hv;refine⟨rfl,rfl,rfl,fun _ h=>List.mem_cons_of_mem _ h,rfl,fun F hw hz hf=> ?_⟩;refine aN (fun b hb=> ?_) (fun b _=>by rw[hw]) _ _ _ (hc.2.2 (by simp only[live,fresh,hi]));rcases hb with hb|hb
     ·exact hf i (List.mem_cons_self ..) b hb
     ·exact hz b hb
    ·cases h
   ·cases h
 |bq e t=>
  intro m m' d cs h ah hc;simp only[bH,Option.some.injEq,Prod.mk.injEq] at h;obtain⟨rfl,rfl⟩:=h;have hc:cs=[.slice none 0 0]:=hc;refine⟨rfl,rfl,rfl,fun _ h=>h,rfl,fun F hw hz hf=> ?_⟩;exact⟨none,0,0,[],hc,rfl,Nat.le_refl _,rfl,by simp,by intro j u hu;simp at hu,by omega,fun _=>rfl⟩
 |h i=>
  intro m m' d cs h ah hc;simp only[bH] at h;have ho:=ah i;split at h
  ·rename_i fz v e t xs hi
   rw[hi] at ho;have hcs:cs=[E.af i]:=hc.2.2;subst hcs;cases fz with
   |own=>
    cases h;refine⟨rfl,rfl,rfl,fun _ h=>List.mem_cons_of_mem _ h,rfl,fun F hw hz hf=> ?_⟩;exact aN (fun b hb=>hf i (List.mem_cons_self ..) b hb) (fun b _=>by rw[hw]) _ _ _ (dV _ _ _ _ ho)
   |aV=>
    cases h;refine⟨rfl,rfl,rfl,fun _ h=>List.mem_cons_of_mem _ h,rfl,fun F hw hz hf=> ?_⟩;exact aN (fun b hb=>hz b hb) (fun b _=>by rw[hw]) _ _ _ ho.1
   |shl=>
    cases h;refine⟨rfl,rfl,rfl,fun _ h=>List.mem_cons_of_mem _ h,rfl,fun F hw hz hf=> ?_⟩;exact aN (fun b hb=>hb.elim (fun hb=>hf i (List.mem_cons_self ..) b hb) (hz b)) (fun b _=>by rw[hw]) _ _ _ (lD ho)
   |hole _ _ _=>cases h
  ·cases h
 |sub i ix path aj d0=>
  intro m m' d cs h ah hc;simp only[bH] at h;split at h
  ·rename_i fz v e t xs hi
   split at h
   ·rename_i hv
    cases h;have hv:=Nat.eq_of_beq_eq_true hv;obtain⟨_,_,_,_,h5⟩:=hc;rw[hi] at h5;have h6:=(h5 hv).1;refine⟨rfl,rfl,rfl,fun _ h=>List.mem_cons_of_mem _ h,rfl,fun F hw hz hf=> ?_⟩;refine aN (fun b hb=> ?_) (fun b _=>by rw[hw]) _ _ _ h6;rcases hb with hb|hb
    ·exact hf i (List.mem_cons_self ..) b hb
    ·exact hz b hb
   ·cases h
  ·cases h
 |nil=>
  intro m m' d cs h ah hc;simp only[bH,Option.some.injEq,Prod.mk.injEq] at h;obtain⟨rfl,rfl⟩:=h;exact⟨rfl,rfl,rfl,fun _ h=>h,rfl,fun F hw hz hf=>hc⟩
 |cons a b iha ihb=>
  intro m m' d cs h ah hc;simp only[bH] at h;split at h
  ·rename_i x m1 h1
   split at h
   ·rename_i y m2 h2
    cases h;obtain⟨ca,cb,rfl,hca,hcb⟩:=hc;obtain⟨s1,o1,n1,f1,g1,k1⟩:=iha _ _ _ _ h1 ah hca;obtain⟨s2,o2,n2,f2,g2,k2⟩:=ihb _ _ _ _ h2 (by rw[o1];exact ah) (by rw[o1];exact hcb);exact⟨s2.trans s1,o2.trans o1,n2.trans n1,fun i h=>f2 i (f1 i h),rfl,fun F hw hz hf=>⟨ca,cb,rfl,k1 F hw hz (fun i hi=>hf i (f2 i hi)),k2 F hw hz hf⟩⟩
   ·cases h
  ·cases h
 |agg a ih=>
  intro m m' d cs h ah hc;simp only[bH] at h;split at h
  ·rename_i x m1 h1
   cases h;obtain⟨s1,o1,n1,f1,g1,k1⟩:=ih _ _ _ _ h1 ah hc;exact⟨s1,o1,n1,f1,rfl,fun F hw hz hf=>k1 F hw hz hf⟩
  ·cases h
 |pre i aj e0 t0 ys=>
  intro m m' d cs h ah hc;simp only[bH] at h;split at h
  ·rename_i fz v e t xs hi
   split at h
   ·rename_i hv
    cases h;have hv:=Nat.eq_of_beq_eq_true hv;subst hv;refine⟨rfl,rfl,rfl,fun _ h=>List.mem_cons_of_mem _ h,rfl,fun F hw hz hf=> ?_⟩;refine aN (fun b hb=> ?_) (fun b _=>by rw[hw]) _ _ _ (hc.1.2.2 (by simp only[live,fresh,hi]));rcases hb with hb|hb
    ·exact hf i (List.mem_cons_self ..) b hb
    ·exact hz b hb
   ·cases h
  ·cases h
 |p i=>intro m m' d cs h ah hc;simp[bH] at h
 |addr _ _ _ _ _ _=>intro m m' d cs h ah hc;simp[bH] at h
 |aZ b d0=>intro m m' d cs h ah hc;simp[bH] at h
 |fn f c _=>intro m m' d cs h ah hc;simp[bH] at h
 |b_ c _=>intro m m' d cs h ah hc;simp[bH] at h
 |cst v=>intro m m' d cs h ah hc;simp[bH] at h
 |any=>intro m m' d cs h ah hc;simp[bH] at h
 |dead=>intro m m' d cs h ah hc;simp[bH] at h
theorem Ext.same{E:Env}{m m':Mt}(s:m'.sig=m.sig)(o:m'.ob=m.ob)(n:m'.nx=m.nx)(f:∀i,i∈m.fz→i∈m'.fz):Ext E m E m':=
 ⟨rfl,rfl,rfl,fun _ _=>rfl,by rw[n];exact Nat.le_refl _,fun i _=>by rw[o],fun j i h=>by rw[s];exact h,f⟩
structure bB(E:Env)(m:Mt)(tm:Array Value):Prop where
 rep:aR E ⟨fun _=> .dead,m.ob,m.nx⟩ tm
 lt:tV m
theorem bB.ob{E:Env}{m:Mt}{tm:Array Value}(h:bB E m tm)(i:Nat):aJ E m.ob m.nx i (m.ob i):=h.rep.ob i
theorem bB.same{E:Env}{m m':Mt}{tm:Array Value}(h:bB E m tm)(s:m'.sig=m.sig)(o:m'.ob=m.ob)(n:m'.nx=m.nx):bB E m' tm:=
 ⟨by rw[o,n];exact h.rep,fun j i e=>by rw[n];rw[s] at e;exact h.lt j i e⟩
theorem dJ{j i k:Nat}{s:List (Nat×Nat)}:aC ((j,i)::s) k=if j=k then some i else aC s k:=by
 simp only[aC];by_cases e:j=k
 ·subst e;simp
 ·have:Nat.beq j k=false:=by
   cases h:Nat.beq j k with
   |false=>rfl
   |true=>exact absurd (Nat.eq_of_beq_eq_true h) e
  simp[this,e]
theorem rY{E:Env}{m m':Mt}{tm:Array Value}{j i:Nat}(h:m.put j i=some m')(ok:bB E m tm)(hi:i<m.nx):
 Ext E m E m'∧bB E m' tm∧aC m'.sig j=some i:=by
 unfold Mt.put at h;split at h
 ·rename_i i' hs
  split at h
  ·rename_i hb
   obtain rfl:=Nat.eq_of_beq_eq_true hb;cases h;exact⟨Ext.refl _ _,ok,hs⟩
  ·cases h
 ·rename_i hs
  cases h;refine⟨⟨rfl,rfl,rfl,fun _ _=>rfl,Nat.le_refl _,fun _ _=>rfl,fun k l e=> ?_,fun _ h=>h⟩,⟨ok.rep,fun k l e=> ?_⟩,?_⟩
  ·show aC ((j,i)::m.sig) k=some l
   rw[dJ];split
   ·rename_i e';subst e';rw[hs] at e;cases e
   ·exact e
  ·have e:aC ((j,i)::m.sig) k=some l:=e
   rw[dJ] at e;split at e
   ·cases e;exact hi
   ·exact ok.lt k l e
  ·show aC ((j,i)::m.sig) j=some i
   rw[dJ,if_pos rfl]
theorem vZ{E:Env}{m:Mt}{tm:Array Value}{j:Nat}{o:Ob}{v:Value}(ok:bB E m tm)(hs:aC m.sig j=none)
 (ho:∀F:Env,F.af m.nx=v→F.B m.nx=[]→∀ob nx,aJ F ob nx m.nx o):
 Ext E m {E with af:=upd E.af m.nx v} {m with sig:=(j,m.nx)::m.sig,ob:=upd m.ob m.nx o,nx:=m.nx+1}∧
 bB {E with af:=upd E.af m.nx v} {m with sig:=(j,m.nx)::m.sig,ob:=upd m.ob m.nx o,nx:=m.nx+1} tm:=by
 have uV:Ext E m {E with af:=upd E.af m.nx v} {m with sig:=(j,m.nx)::m.sig,ob:=upd m.ob m.nx o,nx:=m.nx+1}:=
  ⟨rfl,rfl,rfl,fun i hi=>aB _ _ _ _ (by omega),Nat.le_succ _,fun i hi=>aB _ _ _ _ (by omega),fun k l e=>by
   show aC ((j,m.nx)::m.sig) k=some l;rw[dJ];split
   ·rename_i e';subst e';rw[hs] at e;cases e
   ·exact e,fun _ h=>h⟩
 have hB:E.B m.nx=[]:=by
  have:=ok.rep.ob m.nx;have hd:=ok.rep.lt m.nx (Nat.le_refl _);simp only at hd this;rw[hd] at this;exact this
 refine⟨uV,⟨⟨fun s=>trivial,fun i=> ?_,fun i hi=> ?_,ok.rep.dj,ok.rep.nd,ok.rep.bb,ok.rep.zb⟩,fun k l e=> ?_⟩⟩
 ·by_cases e:i=m.nx
  ·subst e
   show aJ _ _ _ _ (upd m.ob m.nx o m.nx);rw[upd_same];exact ho {E with af:=upd E.af m.nx v} (upd_same _ _ _) hB _ _
  ·show aJ _ _ _ _ (upd m.ob m.nx o i)
   rw[aB _ _ _ _ e];exact dL uV.ev (aB _ _ _ _ e) rfl (fun _ _=>rfl) (ok.rep.ob i)
 ·have hi':m.nx+1≤i:=hi
  show upd m.ob m.nx o i=_;rw[aB _ _ _ _ (by omega)];exact ok.rep.lt i (by show m.nx≤i;omega)
 ·have e:aC ((j,m.nx)::m.sig) k=some l:=e
  rw[dJ] at e;show l<m.nx+1;split at e
  ·cases e;omega
  ·have:=ok.lt k l e;omega
theorem yC:∀(cs:CS) (x:cs.Den),cs.cn x≠ .dead
 | .ro _,_,h| .h _,_,h| .p _,_,h| .aZ _,_,h| .any,_,h| .fn _ _,_,h| .nil,_,h| .cons _ _,_,h| .agg _,_,h=>by simp[CS.cn] at h
theorem og{tmp:Bool}{tm:Array Value}:∀(cs:CS) (c:Cn) (m m':Mt) (x:cs.Den) (E:Env) (md:Bool) (vs:List Value),bC tmp m cs c=some (x,m')→bB E m tm→
 av E m.ob m.nx c md vs→(md=true→cs.caps=true)→
 ∃E',Ext E m E' m'∧bB E' m' tm∧(cs.cn x).isAgg=c.isAgg∧∀F ob nx,Vw E' m' F nx→av F ob nx (cs.cn x) md vs:=by
 intro cs
 induction cs with
 |ro t=>
  intro c m m' x E md vs h ok hc hm;cases md with
  |true=>simp[CS.caps] at hm
  |false=>
   simp only[bC] at h;split at h
   ·rename_i d m1 h1
    split at h
    ·rename_i y h2
     cases h;have:=cZ h2;subst this;obtain⟨s1,o1,n1,f1,g1,k1⟩:=xC c m m' _ vs h1 ok.ob hc;refine⟨E,Ext.same s1 o1 n1 f1,ok.same s1 o1 n1,g1,fun F ob nx v=> ?_⟩;have hrd:=k1 F v.w v.z v.fz;exact⟨aH _ _ _ hrd,trivial,fun _=>hrd⟩
    ·cases h
   ·cases h
 |h j=>
  intro c m m' x E md vs h ok hc hm;cases c<;>(try simp only[bC] at h)<;>try (cases h;done)
  ·rename_i e t
   split at h
   ·cases h
   ·rename_i hs
    cases h;have hc:vs=[.slice none 0 0]:=by cases md<;>exact hc
    obtain⟨h1,h2⟩:=vZ (o:= .sl .own 0 e t []) (v:= .slice none 0 0) ok hs (fun F hr hB ob nx=>by
     show Ow F.w (.list e t) [] [F.af m.nx] (F.B m.nx);rw[hr,hB];exact⟨.slice none 0 0,[],[],rfl,⟨by simp,.inl ⟨rfl,rfl⟩⟩,⟨rfl,rfl⟩,by simp[Value.ownBlock]⟩)
    refine⟨_,h1,h2,rfl,fun F ob nx v=> ?_⟩;obtain⟨k1,k2⟩:=v.af j m.nx (by show aC ((j,m.nx)::m.sig) j=_;rw[dJ,if_pos rfl]);have k2:=k2.trans (upd_same E.af m.nx (Value.slice none 0 0));have:av F ob nx (.h j) md vs↔j<nx∧(F.af j).oneCell'=true∧vs=[F.af j]:=by cases md<;>exact Iff.rfl
    exact this.2 ⟨k1,by rw[k2];rfl,by rw[k2];exact hc⟩
  ·rename_i i
   have key:∀m1,m.put j i=some m1→some ((),m1)=some (x,m')→∃E',Ext E m E' m'∧bB E' m' tm∧((CS.h j).cn x).isAgg=(Cn.h i).isAgg∧∀F ob nx,Vw E' m' F nx→av F ob nx ((CS.h j).cn x) md vs:=by
    intro m1 h1 h;cases h;have hc:i<m.nx∧(E.af i).oneCell'=true∧vs=[E.af i]:=by cases md<;>exact hc
    obtain⟨h2,h3,h4⟩:=rY h1 ok hc.1;refine⟨E,h2,h3,rfl,fun F ob nx v=> ?_⟩;obtain⟨k1,k2⟩:=v.af j i h4;have:av F ob nx (.h j) md vs↔j<nx∧(F.af j).oneCell'=true∧vs=[F.af j]:=by cases md<;>exact Iff.rfl
    exact this.2 ⟨k1,by rw[k2];exact hc.2.1,by rw[k2];exact hc.2.2⟩
   split at h
   ·split at h
    ·rename_i m1 h1
     exact key m1 h1 h
    ·cases h
   ·split at h
    ·rename_i m1 h1
     exact key m1 h1 h
    ·cases h
   ·cases h
 |p j=>
  intro c m m' x E md vs h ok hc hm;cases c<;>(try simp only[bC] at h)<;>try (cases h;done)
  ·rename_i i
   split at h
   ·rename_i m1 h1
    cases h;have hc:i<m.nx∧(E.af i).oneCell'=true∧vs=[E.af i]:=by cases md<;>exact hc
    obtain⟨h2,h3,h4⟩:=rY h1 ok hc.1;refine⟨E,h2,h3,rfl,fun F ob nx v=> ?_⟩;obtain⟨k1,k2⟩:=v.af j i h4;have:av F ob nx (.p j) md vs↔j<nx∧(F.af j).oneCell'=true∧vs=[F.af j]:=by cases md<;>exact Iff.rfl
    exact this.2 ⟨k1,by rw[k2];exact hc.2.1,by rw[k2];exact hc.2.2⟩
   ·cases h
  ·rename_i v0
   have hv0:v0= .pointer none:=by
    cases v0 with
    |pointer a=>cases a with
     |none=>rfl
     |some a=>simp[bC] at h
    |_=>simp[bC] at h
   subst hv0;simp only[bC] at h;split at h
   ·cases h
   ·rename_i hs
    cases h;have hc:vs=[.pointer none]:=by cases md<;>exact hc.2
    obtain⟨h1,h2⟩:=vZ (o:= .a_ false .nil .nil) (v:= .pointer none) ok hs (fun F hr hB ob nx=>⟨hr,hB,[],rfl⟩);refine⟨_,h1,h2,rfl,fun F ob nx v=> ?_⟩;obtain⟨k1,k2⟩:=v.af j m.nx (by show aC ((j,m.nx)::m.sig) j=_;rw[dJ,if_pos rfl]);have k2:=k2.trans (upd_same E.af m.nx (Value.pointer none));have:av F ob nx (.p j) md vs↔j<nx∧(F.af j).oneCell'=true∧vs=[F.af j]:=by cases md<;>exact Iff.rfl
    exact this.2 ⟨k1,by rw[k2];rfl,by rw[k2];exact hc⟩
 |any=>
  intro c m m' x E md vs h ok hc hm;have fin:(∃v:Value,v.oneCell'=true∧vs=[v])→m'=m→c.isAgg=false→∃E',Ext E m E' m'∧bB E' m' tm∧(CS.any.cn x).isAgg=c.isAgg∧∀F ob nx,Vw E' m' F nx→av F ob nx (CS.any.cn x) md vs:=by
   intro hv hm hca;subst hm;exact⟨E,Ext.refl _ _,ok,hca.symm,fun F ob nx v=>by cases md<;>exact hv⟩
  cases c<;>(try simp only[bC] at h)<;>try (cases h;done)
  ·cases h
   have hc:vs=[.slice none 0 0]:=by cases md<;>exact hc
   exact fin ⟨_,rfl,hc⟩ rfl rfl
  ·rename_i i
   cases h;have hc:i<m.nx∧(E.af i).oneCell'=true∧vs=[E.af i]:=by cases md<;>exact hc
   exact fin ⟨_,hc.2.1,hc.2.2⟩ rfl rfl
  ·cases h
   have hc:∃v:Value,v.oneCell'=true∧vs=[v]:=by cases md<;>exact hc
   exact fin hc rfl rfl
 |aZ t=>
  intro c m m' x E md vs h ok hc hm;have key:∀F ob nx (y:t.Den) md,av F ob nx (.aZ none ⟨t,y⟩) md vs↔(True∧∃ad,vs=[.pointer (some ad)]∧ad.spot=none∧(True→F.Z ad.block∧∃f,Rd F.w F.Z t y f∧iD F.w (some ad) f)):=by
   intro F ob nx y md;cases md<;>exact Iff.rfl
  cases c<;>(try simp only[bC] at h)<;>try (cases h;done)
  ·rename_i i
   have hc:i<m.nx∧(E.af i).oneCell'=true∧vs=[E.af i]:=by cases md<;>exact hc
   split at h
   ·rename_i u c0 hi
    split at h
    ·rename_i d m1 h1
     split at h
     ·rename_i y hy
      cases h;have:=cZ hy;subst this;have ah:=ok.ob i;rw[hi] at ah;obtain⟨g,cs,ct,b1,b2,b3,b4,b5⟩:=ah;obtain⟨s1,o1,n1,f1,g1,k1⟩:=xC c0 m m1 _ cs h1 ok.ob b3;refine⟨E,Ext.same s1 o1 n1 (fun i hi=>List.mem_cons_of_mem _ (f1 i hi)),ok.same s1 o1 n1,rfl,fun F ob nx v=> ?_⟩;have hrd:=k1 F v.w v.z (fun i hi=>v.fz i (List.mem_cons_of_mem _ hi));refine(key F ob nx _ md).2 ⟨trivial,⟨g,0,none⟩,by rw[hc.2.2,b1],rfl,fun _=>⟨v.fz i (List.mem_cons_self ..) g (by rw[b5];simp),cs,hrd,?_⟩⟩;intro j u' hu;refine⟨_,rfl,?_⟩;rw[v.w];simp only[World.cell?,b2,Nat.zero_add];simpa using hu
     ·cases h
    ·cases h
   ·cases h
  ·rename_i b d
   have hc:bR m.ob m.nx b∧∃ad,vs=[.pointer (some ad)]∧ad.spot=none∧
    (live m.ob b→src E b ad.block∧∃f,Rd E.w (src E b) d.ty d.v f∧iD E.w (some ad) f):=by cases md<;>exact hc
   obtain⟨_,ad,h1,h2,h3⟩:=hc;cases b with
   |none=>
    simp only at h;split at h
    ·rename_i y hy
     cases h;have:=cZ hy;subst this;refine⟨E,Ext.refl _ _,ok,rfl,fun F ob nx v=> ?_⟩;obtain⟨h4,f,h5,h6⟩:=h3 trivial;refine(key F ob nx _ md).2 ⟨trivial,ad,h1,h2,fun _=>⟨v.z _ h4,f,aN v.z (fun b _=>by rw[v.w]) _ _ _ h5,by rw[v.w];exact h6⟩⟩
    ·cases h
   |some p=>
    obtain⟨i,aj⟩:=p;simp only at h;split at h
    ·rename_i fz v0 e t0 xs hi
     split at h
     ·rename_i hv
      obtain rfl:=Nat.eq_of_beq_eq_true hv;split at h
      ·rename_i y hy
       cases h;have:=cZ hy;subst this;refine⟨E,⟨rfl,rfl,rfl,fun _ _=>rfl,Nat.le_refl _,fun _ _=>rfl,fun _ _ h=>h,fun _ h=>List.mem_cons_of_mem _ h⟩,⟨ok.rep,ok.lt⟩,rfl,fun F ob nx v=> ?_⟩;obtain⟨h4,f,h5,h6⟩:=h3 (by simp only[live,fresh,hi]);have hS:∀b,src E (some (i,v0)) b→F.Z b:=fun b hb=>by
        rcases hb with hb|hb
        ·exact v.fz i (List.mem_cons_self ..) b hb
        ·exact v.z b hb
       refine(key F ob nx _ md).2 ⟨trivial,ad,h1,h2,fun _=>⟨hS _ h4,f,aN hS (fun b _=>by rw[v.w]) _ _ _ h5,by rw[v.w];exact h6⟩⟩
      ·cases h
     ·cases h
    ·cases h
 |fn f cs ih=>
  intro c m m' x E md vs h ok hc hm;cases c<;>(try simp only[bC] at h)<;>try (cases h;done)
  rename_i g c;split at h
  ·rename_i hg
   simp only[Bool.and_eq_true] at hg;obtain rfl:=Nat.eq_of_beq_eq_true hg.1;have hc:∃ws,vs=[.func (.func f) #[] ws.toArray]∧av E m.ob m.nx c true ws:=by cases md<;>exact hc
   obtain⟨ws,h1,h2⟩:=hc;obtain⟨E',e1,e2,e3,e4⟩:=ih c m m' x E true ws h ok h2 (fun _=>hg.2);refine⟨E',e1,e2,rfl,fun F ob nx v=> ?_⟩;have:=e4 F ob nx v;cases md<;>exact⟨ws,h1,this⟩
  ·cases h
 |nil=>
  intro c m m' x E md vs h ok hc hm;cases c<;>(try simp only[bC] at h)<;>try (cases h;done)
  cases h;exact⟨E,Ext.refl _ _,ok,rfl,fun F ob nx v=>by cases md<;>exact hc⟩
 |cons a b iha ihb=>
  intro c m m' x E md vs h ok hc hm;cases c<;>(try simp only[bC] at h)<;>try (cases h;done)
  rename_i ca cb;split at h
  ·rename_i u m1 h1
   split at h
   ·rename_i y m2 h2
    cases h;cases md with
    |false=>
     obtain⟨va,vb,rfl,ha,hb⟩:=hc;obtain⟨E1,e1,e2,e3,e4⟩:=iha ca m m1 u E false va h1 ok ha (by simp);obtain⟨E2,f1,f2,f3,f4⟩:=ihb cb m1 m' y E1 false vb h2 e2 (eG e1.ev _ _ _ hb) (by simp);exact⟨E2,e1.trans f1,f2,rfl,fun F ob nx v=>⟨va,vb,rfl,e4 F ob nx (v.back f1 e2.lt),f4 F ob nx v⟩⟩
    |true=>
     obtain⟨v0,vb,va,rfl,ha,hmk,hb⟩:=hc;obtain⟨E1,e1,e2,e3,e4⟩:=iha ca m m1 u E false va h1 ok ha (by simp);obtain⟨E2,f1,f2,f3,f4⟩:=ihb cb m1 m' y E1 true vb h2 e2 (eG e1.ev _ _ _ hb) (fun _=>by simpa[CS.caps] using hm rfl);exact⟨E2,e1.trans f1,f2,rfl,fun F ob nx v=>⟨v0,vb,va,rfl,e4 F ob nx (v.back f1 e2.lt),by rw[e3];exact hmk,f4 F ob nx v⟩⟩
   ·cases h
  ·cases h
 |agg a ih=>
  intro c m m' x E md vs h ok hc hm;cases md with
  |true=>simp[CS.caps] at hm
  |false=>
   cases c<;>(try simp only[bC] at h)<;>try (cases h;done)
   ·rename_i b d
    cases b with
    |some _=>simp[bC] at h
    |none=>
     simp only[bC] at h;split at h
     ·rename_i y hy
      have hrd:=hc.2.2 trivial;have hag:d.ty.isAgg=true:=by
       obtain⟨ty,v⟩:=d;cases ty<;>simp[gU] at hy<;>rfl
      have hex:=lV (ob:=m.ob) (nx:=m.nx) d.ty d.v vs hrd;rw[hy] at hex;obtain⟨E',e1,e2,e3,e4⟩:=ih y m m' x E false vs h ok hex (by simp);exact⟨E',e1,e2,hag.symm,fun F ob nx v=>e4 F ob nx v⟩
     ·cases h
   ·rename_i y
    obtain⟨E',e1,e2,e3,e4⟩:=ih y m m' x E false vs h ok hc (by simp);exact⟨E',e1,e2,rfl,fun F ob nx v=>e4 F ob nx v⟩
theorem rz{tmp:Bool}{tm:Array Value}{cs:CS}{c:Cn}{u:Ty}{m m':Mt}{x:cs.Den}{E:Env}{i j:Nat}(h:kF tmp m u cs c=some (x,m'))(ok:bB E m tm)
 (hs:aC m.sig j=some i) (hb:iA E m.ob m.nx i u c):
 ∃E',Ext E m E' m'∧bB E' m' tm∧∀F ob nx,Vw E' m' F nx→F.B j=E.B i→iA F ob nx j u (cs.cn x):=by
 unfold kF at h;split at h
 ·rename_i y m1 h1
  split at h
  ·rename_i hf
   cases h;obtain⟨g,vs,t,b1,b2,b3,b4,b5⟩:=hb;obtain⟨E',e1,e2,e3,e4⟩:=og cs c m m' x E false vs h1 ok b3 (by simp);refine⟨E',e1,e2,fun F ob nx v hB=>⟨g,vs,t,?_,by rw[v.w,e1.w];exact b2,e4 F ob nx v,hf,by rw[hB];exact b5⟩⟩;rw[(v.af j i (e1.sig j i hs)).2,e1.af i (ok.lt j i hs),b1]
  ·cases h
 ·cases h
theorem o8{E:Env}{ob:Nat→Ob}{nx:Nat}:∀(u:Ty),∃cs,av E ob nx (d_ u) false cs
 | .int k=>⟨[.int k 0],rfl,trivial,fun _=>rfl⟩
 | .bool=>⟨[.bool false],rfl,trivial,fun _=>rfl⟩
 | .str=>⟨[.string ⟨#[]⟩],rfl,trivial,fun _=>rfl⟩
 | .list _ _=>⟨_,rfl⟩
 | .nil=>⟨[],rfl⟩
 | .cons a b=>by
   obtain⟨c,hc⟩:=o8 (E:=E) (ob:=ob) (nx:=nx) a;obtain⟨d,hd⟩:=o8 (E:=E) (ob:=ob) (nx:=nx) b;exact⟨c++d,c,d,rfl,hc,hd⟩
 | .st a=>o8 a
 | .ptr=>⟨[.pointer none],_,rfl,rfl⟩
theorem vP{tmp:Bool}{tm:Array Value}{o:OS}{m m':Mt}{x:o.Den}{E:Env}{i j:Nat}(h:dI tmp m o (m.ob i)=some (x,m'))(ok:bB E m tm)(hs:aC m.sig j=some i):
 ∃E',Ext E m E' m'∧bB E' m' tm∧∀F ob nx,Vw E' m' F nx→F.B j=E.B i→aJ F ob nx j (o.ob x):=by
 have ah:=ok.ob i;generalize nU:m.ob i=oi at h ah;cases o with
 |sl e t=>
  cases oi<;>(try simp only[dI] at h)<;>try (cases h;done)
  rename_i fz aj e' t' xs;cases fz<;>simp only[dI] at h<;>try (cases h;done)
  split at h
  ·rename_i y hy
   cases h;have:=cZ hy;cases this;refine⟨E,Ext.refl _ _,ok,fun F ob nx v hB=> ?_⟩;show Ow F.w (.list e t) _ [F.af j] (F.B j);rw[hB,(v.af j i hs).2,v.w];exact ah
  ·cases h
 |sh e t=>
  cases oi<;>(try simp only[dI] at h)<;>try (cases h;done)
  rename_i fz aj e' t' xs;cases fz<;>(try simp only[dI] at h)<;>try (cases h;done)
  ·cases xs with
   |cons z zs=>simp only[dI] at h;cases h
   |nil=>
    simp only[dI] at h;split at h
    ·rename_i y hy
     cases h;have:=cZ hy;cases this;refine⟨E,Ext.refl _ _,ok,fun F ob nx v hB=> ?_⟩;show jL F.w F.Z e t _ (F.af j) (F.B j);rw[hB,(v.af j i hs).2,v.w];obtain⟨v',f,nb,k1,k2,k3,k4⟩:=ah;have k1:E.af i=v':=by simpa using k1
     obtain⟨rfl,rfl⟩:=k3;rw[k1];exact⟨[],k2,rfl,by simpa using k4⟩
    ·cases h
  ·split at h
   ·rename_i y hy
    cases h;have:=cZ hy;cases this;refine⟨E,Ext.refl _ _,ok,fun F ob nx v hB=> ?_⟩;show jL F.w F.Z e t _ (F.af j) (F.B j);rw[hB,(v.af j i hs).2,v.w];obtain⟨f,k2,k3,k4⟩:=ah;exact⟨f,k2,fo (aN v.z (fun _ _=>rfl) t) _ _ k3,k4⟩
   ·cases h
 |box u cs=>
  cases oi<;>(try simp only[dI] at h)<;>try (cases h;done)
  rename_i u' c;split at h
  ·rename_i hu
   obtain rfl:=of_decide_eq_true hu;obtain⟨E',e1,e2,e3⟩:=rz h ok hs ah;exact⟨E',e1,e2,e3⟩
  ·cases h
 |a_ u cs=>
  cases oi<;>(try simp only[dI] at h)<;>try (cases h;done)
  ·rename_i u' c
   split at h
   ·rename_i hu
    obtain rfl:=of_decide_eq_true hu;split at h
    ·rename_i y m1 h1
     cases h;obtain⟨E',e1,e2,e3⟩:=rz h1 ok hs ah;exact⟨E',e1,e2,e3⟩
    ·cases h
   ·cases h
  ·rename_i b u' c
   split at h
   ·cases b with
    |true=>cases h
    |false=>
     simp only at h;split at h
     ·rename_i y m1 h1
      cases h;obtain⟨cs0,hz⟩:=o8 (E:=E) (ob:=m.ob) (nx:=m.nx) u;obtain⟨E',e1,e2,_,e4⟩:=og cs _ m m' y E false cs0 h1 ok hz (by simp);exact⟨E',e1,e2,fun F ob nx v hB=>⟨by rw[(v.af j i (e1.sig j i hs)).2,e1.af i (ok.lt j i hs)];exact ah.1,by rw[hB];exact ah.2.1,cs0,e4 F ob nx v⟩⟩
     ·cases h
   ·split at h
    ·rename_i hu
     obtain rfl:=of_decide_eq_true hu;split at h
     ·rename_i y m1 h1
      cases h;cases b with
      |true=>
       obtain⟨E',e1,e2,e3⟩:=rz h1 ok hs ah;exact⟨E',e1,e2,e3⟩
      |false=>
       unfold kF at h1;split at h1
       ·rename_i y' ru h2
        split at h1
        ·cases h1
         obtain⟨cs0,hz⟩:=ah.2.2;obtain⟨E',e1,e2,_,e4⟩:=og cs _ m m' y E false cs0 h2 ok hz (by simp);exact⟨E',e1,e2,fun F ob nx v hB=>⟨by rw[(v.af j i (e1.sig j i hs)).2,e1.af i (ok.lt j i hs)];exact ah.1,by rw[hB];exact ah.2.1,cs0,e4 F ob nx v⟩⟩
        ·cases h1
       ·cases h1
     ·cases h
    ·cases h
 |mp u kk=>
  cases oi<;>(try simp only[dI] at h)<;>try (cases h;done)
  rename_i u' jo l;split at h
  ·rename_i y hy
   cases h;have:=cZ hy;cases this;refine⟨E,Ext.refl _ _,ok,fun F ob nx v hB=> ?_⟩;obtain⟨g,es,ck,h1,h2,h3,h4⟩:=(show ng E i u kk _ from ah);exact⟨g,es,ck,by rw[(v.af j i hs).2];exact h1,by rw[v.w];exact h2,h3,by rw[hB];exact h4⟩
  ·cases h
theorem xO{E:Env}{ob:Nat→Ob}{nx:Nat}{c:Cn}{v:Value}(hd:c≠ .dead)(h:ak E ob nx c v):∃cs,av E ob nx c false cs∧mkV c.isAgg cs v:=eD h hd
theorem Ao{tmp:Bool}{m:Mt}{cs:CS}{c:Cn}{r}(h:bC tmp m cs c=some r):c≠ .dead:=by
 intro e;subst e;cases cs<;>simp[bC,bH] at h
theorem vS{tmp:Bool}{tm:Array Value}{cs:CS}{c:Cn}{m m':Mt}{x:cs.Den}{E:Env}{v:Value}(h:bC tmp m cs c=some (x,m'))(ok:bB E m tm)
 (hv:ak E m.ob m.nx c v):∃E',Ext E m E' m'∧bB E' m' tm∧∀F ob nx,Vw E' m' F nx→ak F ob nx (cs.cn x) v:=by
 obtain⟨vs,h1,h2⟩:=xO (Ao h) hv;obtain⟨E',e1,e2,e3,e4⟩:=og cs c m m' x E false vs h ok h1 (by simp);exact⟨E',e1,e2,fun F ob nx v=>iT vs (e4 F ob nx v) (by rw[e3];exact h2)⟩
theorem vR{tmp:Bool}{tm:Array Value}{sl:Nat→Cn}:∀(l:List (Nat×CS)) (m m':Mt) (x:fu l) (E:Env),oh tmp sl l m=some (x,m')→bB E m tm→
 (∀s,ak E m.ob m.nx (sl s) (tm.getD s undef))→
 ∃E',Ext E m E' m'∧bB E' m' tm∧∀F ob nx,Vw E' m' F nx→∀s,ak F ob nx (bZ l x s) (tm.getD s undef)
 |[],m,m',x,E,h,ok,hv=>by
  cases h;exact⟨E,Ext.refl _ _,ok,fun F ob nx v s=>trivial⟩
 |[a],m,m',x,E,h,ok,hv=>by
  obtain⟨E',e1,e2,e3⟩:=vS (show bC tmp m a.2 (sl a.1)=some (x,m') from h) ok (hv a.1);refine⟨E',e1,e2,fun F ob nx v s=> ?_⟩;show ak F ob nx (upd (fun _=> .dead) a.1 (a.2.cn x) s) _;by_cases e:s=a.1
  ·subst e;rw[upd_same];exact e3 F ob nx v
  ·rw[aB _ _ _ _ e];trivial
 |a::b::r,m,m',x,E,h,ok,hv=>by
  simp only[oh] at h;split at h
  ·rename_i u m1 h1
   split at h
   ·rename_i y m2 h2
    cases h;obtain⟨E1,e1,e2,e3⟩:=vS h1 ok (hv a.1);obtain⟨E2,f1,f2,f3⟩:=vR (b::r) m1 m' y E1 h2 e2 (fun s=>fA e1.ev (hv s));refine⟨E2,e1.trans f1,f2,fun F ob nx v s=> ?_⟩;show ak F ob nx (upd (bZ (b::r) y) a.1 (a.2.cn u) s) _;by_cases e:s=a.1
    ·subst e;rw[upd_same];exact e3 F ob nx (v.back f1 e2.lt)
    ·rw[aB _ _ _ _ e];exact f3 F ob nx v s
   ·cases h
  ·cases h
def keys{α:Type}(l:List (Nat×α)):List Nat:=l.map (·.1)
theorem Ap{tmp:Bool}{m:Mt}{o:OS}{r}(h:dI tmp m o .dead=some r):False:=by
 cases o<;>simp[dI] at h
theorem xB{below tmp:Bool}{E:Env}{m m0 m1:Mt}{tm:Array Value}{i j:Nat}{o:OS}{u:o.Den}(h:tell below m j=some (i,m0))(ok:bB E m tm)(h2:dI tmp m0 o (m0.ob i)=some (u,m1)):
 Ext E m E m0∧bB E m0 tm∧aC m0.sig j=some i:=by
 unfold tell at h;split at h
 ·rename_i i' hs
  cases h;exact⟨Ext.refl _ _,ok,hs⟩
 ·rename_i hs
  split at h
  ·cases h
  ·cases h
   have hlt:i<m.nx:=by
    rcases Nat.lt_or_ge i m.nx with h|h
    ·exact h
    ·have hd:m.ob i= .dead:=ok.rep.lt i h
     have h2:dI tmp _ o (m.ob i)=_:=h2;rw[hd] at h2;exact(Ap h2).elim
   exact rY (m':={m with sig:=(i,i)::m.sig}) (by unfold Mt.put;rw[hs]) ok hlt
theorem vQ{tmp below:Bool}{tm:Array Value}:∀(l:List (Nat×OS)) (m m':Mt) (x:gK l) (E:Env),mI tmp below l m=some (x,m')→bB E m tm→
 ∃E',Ext E m E' m'∧bB E' m' tm∧∀F ob nx,Vw E' m' F nx→(∀j i,aC m'.sig j=some i→F.B j=E'.B i)→∀j,(j∈keys l→aJ F ob nx j (bW l x j))∧(j∉keys l→bW l x j= .dead)
 |[],m,m',x,E,h,ok=>by
  cases h;exact⟨E,Ext.refl _ _,ok,fun F ob nx v hB j=>⟨fun h=>by simp[keys] at h,fun _=>rfl⟩⟩
 |[a],m,m',x,E,h,ok=>by
  simp only[mI] at h;split at h
  ·rename_i i m0 ht
   obtain⟨t1,t2,hi⟩:=xB ht ok h;obtain⟨E',e1,e2,e3⟩:=vP h t2 hi;refine⟨E',t1.trans e1,e2,fun F ob nx v hB j=> ?_⟩;show(_→aJ F ob nx j (upd (fun _=> .dead) a.1 (a.2.ob x) j))∧(_→upd (fun _=> .dead) a.1 (a.2.ob x) j= .dead);by_cases e:j=a.1
   ·subst e;rw[upd_same]
    exact⟨fun _=>e3 F ob nx v (by rw[hB _ _ (e1.sig _ _ hi),e1.B]),fun h=>absurd (by simp[keys]) h⟩
   ·rw[aB _ _ _ _ e]
    exact⟨fun h=>absurd (by simpa[keys] using h) e,fun _=>rfl⟩
  ·cases h
 |a::b::r,m,m',x,E,h,ok=>by
  simp only[mI] at h;split at h
  ·rename_i i m0 ht
   split at h
   ·rename_i u m1 h1
    split at h
    ·rename_i y m2 h2
     cases h;obtain⟨t1,t2,hi⟩:=xB ht ok h1;obtain⟨E1,e1,e2,e3⟩:=vP h1 t2 hi;obtain⟨E2,f1,f2,f3⟩:=vQ (b::r) m1 m' y E1 h2 e2;refine⟨E2,t1.trans (e1.trans f1),f2,fun F ob nx v hB j=> ?_⟩;show(_→aJ F ob nx j (upd (bW (b::r) y) a.1 (a.2.ob u) j))∧(_→upd (bW (b::r) y) a.1 (a.2.ob u) j= .dead);by_cases e:j=a.1
     ·subst e;rw[upd_same]
      exact⟨fun _=>e3 F ob nx (v.back f1 e2.lt) (by rw[hB _ _ (f1.sig _ _ (e1.sig _ _ hi)),f1.B,e1.B]),fun h=>absurd (by simp[keys]) h⟩
     ·rw[aB _ _ _ _ e]
      have hk:j∈keys (a::b::r)↔j∈keys (b::r):=by simp[keys,e]
      rw[hk];exact f3 F ob nx v hB j
    ·cases h
   ·cases h
  ·cases h
theorem jc(n:Nat):∀l,bN n l=true↔n∈l
 |[]=>by simp[bN]
 |x::r=>by
  simp only[bN];cases e:Nat.beq n x with
  |true=>simp[Nat.eq_of_beq_eq_true e]
  |false=>
   have:n≠x:=fun h=>by subst h;simp at e
   simp[jc n r,this]
theorem sH{j i:Nat}:∀{s:List (Nat×Nat)},aC s j=some i→(j,i)∈s
 |[],h=>by cases h
 |x::r,h=>by
  obtain⟨a,b⟩:=x;rw[dJ] at h;split at h
  ·rename_i e;cases h;subst e;exact List.mem_cons_self ..
  ·exact List.mem_cons_of_mem _ (sH h)
structure lF(ids fz:List Nat)(below:Bool)(s:List (Nat×Nat)):Prop where
 ids:∀j i,aC s j=some i→j∈ids
 fz:∀j i,aC s j=some i→i∉fz
 one:∀j j' i,aC s j=some i→aC s j'=some i→j=j'
 low:below=true→∀j i,aC s j=some i→j<100
 own:below=false→∀j i,aC s j=some i→j=i∨100≤j
theorem xm{ids fz:List Nat}{below:Bool}:∀s,oP ids fz below s=true→lF ids fz below s∧(keys s).Nodup
 |[],_=>⟨⟨by simp[aC],by simp[aC],by simp[aC],by simp[aC],by simp[aC]⟩,List.nodup_nil⟩
 |x::r,h=>by
  obtain⟨a,b⟩:=x;simp only[oP,Bool.and_eq_true,Bool.not_eq_true'] at h;obtain⟨h1,h2,h3,h4,h5,h6⟩:=h;obtain⟨k,kn⟩:=xm r h6;have h2:b∉fz:=fun e=>by rw[(jc b fz).2 e] at h2;cases h2
  have h3:b∉r.map (·.2):=fun e=>by rw[(jc b _).2 e] at h3;cases h3
  have h4:a∉r.map (·.1):=fun e=>by rw[(jc a _).2 e] at h4;cases h4
  have h1:=(jc a ids).1 h1;have snd:∀j i,aC r j=some i→i∈r.map (·.2):=fun j i e=>List.mem_map.2 ⟨_,sH e,rfl⟩;refine⟨⟨?_,?_,?_,?_,?_⟩,?_⟩
  ·intro j i e
   rw[dJ] at e;split at e
   ·rename_i e';subst e';exact h1
   ·exact k.ids j i e
  ·intro j i e
   rw[dJ] at e;split at e
   ·cases e;exact h2
   ·exact k.fz j i e
  ·intro j j' i e e'
   rw[dJ] at e e';split at e<;>split at e'
   ·omega
   ·cases e;exact absurd (snd _ _ e') h3
   ·cases e';exact absurd (snd _ _ e) h3
   ·exact k.one j j' i e e'
  ·intro hb j i e
   rw[dJ] at e;split at e
   ·rename_i e';subst e'
    simp only[hb] at h5;exact Nat.le_of_ble_eq_true h5
   ·exact k.low hb j i e
  ·intro hb j i e
   rw[dJ] at e;split at e
   ·rename_i e';subst e'
    cases e;simp only[hb,Bool.or_eq_true] at h5;rcases h5 with h5|h5
    ·exact .inl (Nat.eq_of_beq_eq_true h5)
    ·exact .inr (Nat.le_of_ble_eq_true h5)
   ·exact k.own hb j i e
  ·show(a::keys r).Nodup
   exact List.nodup_cons.2 ⟨h4,kn⟩
def into(E:Env)(m:Mt):Env where
 w:=E.w
 Z:=fun b=>E.Z b∨∃i,i∈m.fz∧b∈E.B i
 af:=fun j=>match aC m.sig j with
  |some i=>E.af i
  |none=>E.af j
 B:=fun j=>match aC m.sig j with
  |some i=>E.B i
  |none=>[]
theorem zW{E:Env}{m:Mt}{ids:List Nat}{below:Bool}{nx:Nat}(k:lF ids m.fz below m.sig)(hn:∀j,j∈ids→j<nx)(hl:tV m):Vw E m (into E m) nx where
 w:=rfl
 z:=fun b hb=> .inl hb
 fz:=fun i hi b hb=> .inr ⟨i,hi,hb⟩
 af:=fun j i e=>⟨hn j (k.ids j i e),by simp only[into,e]⟩
 lt:=hl
theorem vT:∀(l:List (Nat×OS)) (j:Nat),j∈keys l→j<bL l
 |[],_,h=>by simp[keys] at h
 |x::r,j,h=>by
  simp only[keys,List.map_cons,List.mem_cons] at h;show j<Nat.max (x.1+1) (bL r);rcases h with rfl|h
  ·exact Nat.lt_of_lt_of_le (Nat.lt_succ_self _) (Nat.le_max_left _ _)
  ·exact Nat.lt_of_lt_of_le (vT r j h) (Nat.le_max_right _ _)
theorem SS.AU(s:SS)(u:fu s.slots)(v:gK s.objs):s.pS (s.mk' u v)=u∧s.pO (s.mk' u v)=v:=by
 obtain⟨a,b⟩:=s;cases b with
 |nil=>exact⟨rfl,rfl⟩
 |cons x r=>exact⟨rfl,rfl⟩
theorem rA{tmp below:Bool}{s:SS}{st:St}{x:s.Den}{m:Mt}{E:Env}{tm:Array Value}(h:gy tmp below s st=some (x,m))(hr:aR E st tm):
 ∃E',Ext E ⟨[],[],st.ob,st.nx⟩ E' m∧bB E' m tm∧lF (keys s.objs) m.fz below m.sig∧(keys m.sig).Nodup∧aR (into E' m) (s.st x) tm:=by
 unfold gy at h;split at h
 ·rename_i u m1 h1
  split at h
  ·rename_i v m2 h2
   split at h
   ·rename_i h3
    cases h;have ok0:bB E ⟨[],[],st.ob,st.nx⟩ tm:=⟨⟨fun s=>trivial,hr.ob,hr.lt,hr.dj,hr.nd,hr.bb,hr.zb⟩,fun j i e=>by cases e⟩;obtain⟨E1,e1,e2,e3⟩:=vR s.slots _ m1 u E h1 ok0 hr.sl;obtain⟨E2,f1,f2,f3⟩:=vQ s.objs m1 m v E1 h2 e2;obtain⟨k,kn⟩:=xm _ h3;have hnx:∀j,j∈keys s.objs→j<Nat.max 100 (bL s.objs):=fun j hj=>Nat.lt_of_lt_of_le (vT _ _ hj) (Nat.le_max_right _ _);have vw:=zW (E:=E2) k hnx f2.lt;have hB:∀j i,aC m.sig j=some i→(into E2 m).B j=E2.B i:=fun j i e=>by simp only[into,e]
    refine⟨E2,e1.trans f1,f2,k,kn,?_⟩;have qI:∀j b,b∈(into E2 m).B j→∃i,aC m.sig j=some i∧b∈E2.B i:=by
     intro j b hb;simp only[into] at hb;split at hb
     ·rename_i i hi;exact⟨i,hi,hb⟩
     ·simp at hb
    obtain⟨p1,p2⟩:=SS.AU s u v;have key:=f3 (into E2 m) (s.st (s.mk' u v)).ob (Nat.max 100 (bL s.objs)) vw hB;refine⟨fun sl=> ?_,fun j=> ?_,fun j hj=> ?_,?_,?_,?_,?_⟩
    ·show ak _ _ _ (bZ s.slots (s.pS (s.mk' u v)) sl) _
     rw[p1];exact e3 _ _ _ (vw.back f1 e2.lt) sl
    ·show aJ _ _ _ j (bW s.objs (s.pO (s.mk' u v)) j)
     rw[p2];by_cases hj:j∈keys s.objs
     ·exact(key j).1 hj
     ·rw[(key j).2 hj]
      show(into E2 m).B j=[];simp only[into];split
      ·rename_i i hi;exact absurd (k.ids j i hi) hj
      ·rfl
    ·show bW s.objs (s.pO (s.mk' u v)) j=_
     rw[p2];refine(key j).2 fun hm=> ?_;have:=hnx j hm;have hj:Nat.max 100 (bL s.objs)≤j:=hj;omega
    ·intro i j b hij hi hj
     obtain⟨i',hi1,hi2⟩:=qI i b hi;obtain⟨j',hj1,hj2⟩:=qI j b hj;have:i'≠j':=fun e=>hij (by subst e;exact k.one i j _ hi1 hj1);exact f2.rep.dj i' j' b this hi2 hj2
    ·intro i
     simp only[into];split
     ·exact f2.rep.nd _
     ·exact List.nodup_nil
    ·intro j b hb
     obtain⟨i,hi1,hi2⟩:=qI j b hb;refine⟨(f2.rep.bb i b hi2).1,fun hz=> ?_⟩;rcases hz with hz|⟨i',h4,h5⟩
     ·exact(f2.rep.bb i b hi2).2 hz
     ·have:i≠i':=fun e=>k.fz j i hi1 (by rw[e];exact h4)
      exact f2.rep.dj i i' b this hi2 h5
    ·intro b hb
     rcases hb with hz|⟨i',h4,h5⟩
     ·exact f2.rep.zb b hz
     ·exact(f2.rep.bb i' b h5).1
   ·cases h
  ·cases h
 ·cases h
theorem nI{N:Nat}{E0 E:Env}{st:St}{a:Act}{s:SS}{x:s.Den}{m:Mt}(h:gy false false s st=some (x,m))(hi:Inv N E0 E st a):
 ∃E1,E1.w=E.w∧Inv N E0 E1 (s.st x) a:=by
 obtain⟨E',e1,e2,k,_,hr⟩:=rA h hi.rep;refine⟨into E' m,e1.w,hr,?_,hi.defers,hi.size,Nat.le_max_left _ _⟩
 refine hi.fr.trans ⟨by rw[show(into E' m).w=E.w from e1.w],by rw[show(into E' m).w=E.w from e1.w],by rw[show(into E' m).w=E.w from e1.w],by rw[show(into E' m).w=E.w from e1.w];exact Nat.le_refl _,
  fun b _ _=>by rw[show(into E' m).w=E.w from e1.w],?_,fun b hb=> .inl (by rw[e1.Z];exact hb),?_,?_⟩
 ·intro j b hb
  simp only[into] at hb;split at hb
  ·rename_i i hi'
   exact .inl ⟨i,by rw[←e1.B];exact hb⟩
  ·simp at hb
 ·intro b hb
  rcases hb with hb|⟨i,_,hb⟩
  ·exact .inl (by rw[←e1.Z];exact hb)
  ·exact .inr (.inl ⟨i,by rw[←e1.B];exact hb⟩)
 ·intro j hj
  have hlt:j<st.nx:=Nat.lt_of_lt_of_le hj hi.nx;show(match aC m.sig j with|some i=>E'.af i|none=>E'.af j)=_;split
  ·rename_i i hi'
   rcases k.own rfl j i hi' with rfl|h1
   ·exact e1.af j hlt
   ·omega
  ·exact e1.af j hlt
end Go.Am
end
section
namespace Go.Am
def gI(P:Program)(g:FuncId)(args:Array Value)(w:World)(R:Value→World→Prop):Prop:=
 match(callFunc g args).run P w with
 | .ok (.value v) w'=>R v w'
 | .ok (.enter f args') w'=>Calls P f args' w' fun
   | .returned v,w''=>R v w''
   |_,_=>False
 | .ok (.row row args') w'=>Rows P row args' w' R
 |_=>False
def nu:Nat→Array Value→Value→Prop
 |1,tm,v=>v=tm.getD 0 undef
 |n,tm,v=>∃vs:List Value,v= .tuple vs.toArray∧vs.length=n∧∀i,i<n→vs[i]?=some (tm.getD i undef)
def gH(P:Program)(g:FuncId)(c:dm):Prop:=
 ∀(E:Env) (args:Array Value) (x:c.aX.Den) (y:c.au.Den),args.size=c.nargs→c.F x=some y→aR E (c.aX.st x) args→
  gI P g args E.w fun v w'=>∃E' tm,E'.w=w'∧Fr E E'∧aR E' (c.au.st y) tm∧nu c.fO tm v
theorem gI.mono{P:Program}{g:FuncId}{args:Array Value}{w:World}{R R':Value→World→Prop}(h:gI P g args w R)(k:∀v w',R v w'→R' v w'):gI P g args w R':=by
 unfold gI at h⊢;split at h
 ·exact k _ _ h
 ·intro cs
  obtain⟨e,w',fr,r,s⟩:=h cs;refine⟨e,w',fr,?_,s⟩;cases e with
  |returned v=>exact k _ _ r
  |panicked _=>exact r
  |outgrown=>exact r
 ·exact Rows.mono h k
 ·exact h.elim
theorem B_{P:Program}{o:Oper}{a:Act}{w:World}{K:Act→World→Prop}{Q:Exit→Act→World→Prop}{g:FuncId}{args:Array Value}{R:Value→World→Prop}
 (hrun:∀k:Next→World→Prop,∀r,(callFunc g args).run P w=r→(execOp a.eval o).run P w=r) (h:gI P g args w R) (hK:∀v w',R v w'→K (a.put o.dst v) w'):o.wp P a w K Q:=by
 unfold Oper.wp;rw[hrun (fun _ _=>True) _ rfl];have h:=h.mono hK;unfold gI at h;split at h
 ·rename_i he;rw[he];exact h
 ·rename_i he
  rw[he];intro cs;obtain⟨e,w',fr,r,s⟩:=h cs;refine⟨e,w',fr,?_,s⟩;cases e with
  |returned v=>exact r
  |panicked _=>exact r.elim
  |outgrown=>exact r.elim
 ·rename_i he;rw[he];exact h
 ·exact h.elim
theorem o_{E F:Env}{ob aG:Nat→Ob}{nx nx':Nat}{f:Nat→Nat}(hw:F.w=E.w)(hr:∀j,j<nx→F.af (f j)=E.af j∧f j<nx'):
 ∀(cs:CS) (x:cs.Den) (md:Bool) (vs:List Value),((∀b,E.Z b→F.Z b)∨cs.aS=true)→av E ob nx (cs.cn x) md vs→av F aG nx' (bG f (cs.cn x)) md vs:=by
 intro cs
 induction cs with
 |ro t=>
  intro x md vs hz h;have key:∀(G:Env) ob nx,av G ob nx (.ro none ⟨t,x⟩) md vs↔(vs.length=t.size∧True∧(True→Rd G.w G.Z t x vs)):=by intro G ob nx;cases md<;>exact Iff.rfl
  have h:=(key E ob nx).1 h;refine(key F aG nx').2 ⟨h.1,trivial,fun _=> ?_⟩;rcases hz with hz|hz
  ·exact aN hz (fun b _=>by rw[hw]) _ _ _ (h.2.2 trivial)
  ·exact fV t hz x vs (h.2.2 trivial)
 |h j=>
  intro x md vs hz h;have key:∀(G:Env) ob nx j,av G ob nx (.h j) md vs↔(j<nx∧(G.af j).oneCell'=true∧vs=[G.af j]):=by intro G ob nx j;cases md<;>exact Iff.rfl
  have h:=(key E ob nx j).1 h;exact(key F aG nx' (f j)).2 ⟨(hr j h.1).2,by rw[(hr j h.1).1];exact h.2.1,by rw[(hr j h.1).1];exact h.2.2⟩
 |p j=>
  intro x md vs hz h;have key:∀(G:Env) ob nx j,av G ob nx (.p j) md vs↔(j<nx∧(G.af j).oneCell'=true∧vs=[G.af j]):=by intro G ob nx j;cases md<;>exact Iff.rfl
  have h:=(key E ob nx j).1 h;exact(key F aG nx' (f j)).2 ⟨(hr j h.1).2,by rw[(hr j h.1).1];exact h.2.1,by rw[(hr j h.1).1];exact h.2.2⟩
 |aZ t=>
  intro x md vs hz h;have key:∀(G:Env) ob nx,av G ob nx (.aZ none ⟨t,x⟩) md vs↔(True∧∃ad,vs=[.pointer (some ad)]∧ad.spot=none∧(True→G.Z ad.block∧∃f,Rd G.w G.Z t x f∧iD G.w (some ad) f)):=by
   intro G ob nx;cases md<;>exact Iff.rfl
  obtain⟨_,ad,h1,h2,h3⟩:=(key E ob nx).1 h;rcases hz with hz|hz
  ·obtain⟨h4,g,h5,h6⟩:=h3 trivial
   exact(key F aG nx').2 ⟨trivial,ad,h1,h2,fun _=>⟨hz _ h4,g,aN hz (fun b _=>by rw[hw]) _ _ _ h5,by rw[hw];exact h6⟩⟩
  ·simp[CS.aS] at hz
 |any=>
  intro x md vs hz h;have h:∃v:Value,v.oneCell'=true∧vs=[v]:=by cases md<;>exact h
  cases md<;>exact h
 |fn g c ih=>
  intro x md vs hz h;have key:∀(G:Env) ob nx c,av G ob nx (.fn g c) md vs↔∃ws,vs=[.func (.func g) #[] ws.toArray]∧av G ob nx c true ws:=by intro G ob nx c;cases md<;>exact Iff.rfl
  obtain⟨ws,h1,h2⟩:=(key E ob nx _).1 h;exact(key F aG nx' _).2 ⟨ws,h1,ih x true ws (by simpa[CS.aS] using hz) h2⟩
 |nil=>intro x md vs hz h;cases md<;>exact h
 |cons a b iha ihb=>
  intro x md vs hz h;have hza:(∀b,E.Z b→F.Z b)∨a.aS=true:=hz.imp id (fun h=>by simp[CS.aS] at h;exact h.1);have hzb:(∀b,E.Z b→F.Z b)∨b.aS=true:=hz.imp id (fun h=>by simp[CS.aS] at h;exact h.2);cases md with
  |false=>
   obtain⟨c,d,h1,h2,h3⟩:=h;exact⟨c,d,h1,iha x.1 false c hza h2,ihb x.2 false d hzb h3⟩
  |true=>
   obtain⟨v,vs',c,h1,h2,h3,h4⟩:=h;refine⟨v,vs',c,h1,iha x.1 false c hza h2,?_,ihb x.2 true vs' hzb h4⟩;have:(bG f (a.cn x.1)).isAgg=(a.cn x.1).isAgg:=by cases a<;>rfl
   rw[this];exact h3
 |agg a ih=>
  intro x md vs hz h;have key:∀(G:Env) ob nx c,av G ob nx (.agg c) md vs↔av G ob nx c false vs:=by intro G ob nx c;cases md<;>exact Iff.rfl
  exact(key F aG nx' _).2 (ih x false vs (by simpa[CS.aS] using hz) ((key E ob nx _).1 h))
theorem A8(f:Nat→Nat)(c:Cn):(bG f c).isAgg=c.isAgg:=by cases c<;>rfl
theorem A7(f:Nat→Nat):∀(u:Ty) (c:Cn),fits u c=true→fits u (bG f c)=true:=by
 intro u
 induction u with
 |st a ih=>
  intro c h;cases c<;>simp only[fits] at h<;>try (cases h;done)
  exact ih _ h
 |cons a b iha ihb=>
  intro c h;cases c<;>simp only[fits] at h<;>try (cases h;done)
  simp only[Bool.and_eq_true] at h;simp only[bG,fits,Bool.and_eq_true];exact⟨iha _ h.1,ihb _ h.2⟩
 |_=>
  intro c h;cases c<;>first|exact h|(simp[fits] at h;done)|(simp only[bG];simpa[fits] using h)
theorem xu:∀(l:List (Nat×CS)) (x:fu l) (s:Nat),bZ l x s= .dead∨∃cs y,(l.any fun z=>z.2==cs)=true∧cs∈l.map (·.2)∧bZ l x s=CS.cn cs y
 |[],_,_=> .inl rfl
 |[a],x,s=>by
  show upd (fun _=> .dead) a.1 (a.2.cn x) s= .dead∨∃cs y,_∧_∧upd (fun _=> .dead) a.1 (a.2.cn x) s=_;by_cases e:s=a.1
  ·subst e;rw[upd_same];exact .inr ⟨a.2,x,by simp,by simp,rfl⟩
  ·rw[aB _ _ _ _ e];exact .inl rfl
 |a::b::r,x,s=>by
  show upd (bZ (b::r) x.2) a.1 (a.2.cn x.1) s= .dead∨∃cs y,_∧_∧upd (bZ (b::r) x.2) a.1 (a.2.cn x.1) s=_;by_cases e:s=a.1
  ·subst e;rw[upd_same];exact .inr ⟨a.2,x.1,by simp,by simp,rfl⟩
  ·rw[aB _ _ _ _ e]
   rcases xu (b::r) x.2 s with h|⟨cs,y,h0,h1,h2⟩
   ·exact .inl h
   ·exact .inr ⟨cs,y,by simp only[List.any_cons] at h0⊢;simp[h0],List.mem_cons_of_mem _ h1,h2⟩
theorem oF:∀(l:List (Nat×OS)) (x:gK l) (j:Nat),(j∉keys l∧bW l x j= .dead)∨∃os y,os∈l.map (·.2)∧dW l j=some os∧bW l x j=OS.ob os y
 |[],_,_=> .inl ⟨by simp[keys],rfl⟩
 |[a],x,s=>by
  show(_∧upd (fun _=> .dead) a.1 (a.2.ob x) s= .dead)∨∃cs y,_∧_∧upd (fun _=> .dead) a.1 (a.2.ob x) s=_;by_cases e:s=a.1
  ·subst e;rw[upd_same];exact .inr ⟨a.2,x,by simp,by simp[dW],rfl⟩
  ·rw[aB _ _ _ _ e];exact .inl ⟨by simpa[keys] using e,rfl⟩
 |a::b::r,x,s=>by
  show(_∧upd (bW (b::r) x.2) a.1 (a.2.ob x.1) s= .dead)∨∃cs y,_∧_∧upd (bW (b::r) x.2) a.1 (a.2.ob x.1) s=_;by_cases e:s=a.1
  ·subst e;rw[upd_same];exact .inr ⟨a.2,x.1,by simp,by simp[dW],rfl⟩
  ·rw[aB _ _ _ _ e]
   have hne:Nat.beq a.1 s=false:=by
    cases h:Nat.beq a.1 s with
    |false=>rfl
    |true=>exact absurd (Nat.eq_of_beq_eq_true h).symm e
   rcases oF (b::r) x.2 s with⟨h0,h⟩|⟨cs,y,h1,h2,h3⟩
   ·exact .inl ⟨by simp only[keys,List.map_cons,List.mem_cons] at h0⊢;simp[e];simpa using h0,h⟩
   ·exact .inr ⟨cs,y,List.mem_cons_of_mem _ h1,by simp only[dW,hne] at h2⊢;exact h2,h3⟩
theorem xP{E F:Env}{ob aG:Nat→Ob}{nx nx':Nat}{f:Nat→Nat}(hw:F.w=E.w)(hr:∀j,j<nx→F.af (f j)=E.af j∧f j<nx')
 (l:List (Nat×CS)) (x:fu l) (s:Nat) (v:Value) (hz:(∀b,E.Z b→F.Z b)∨(l.all fun z=>z.2.aS)=true) (h:ak E ob nx (bZ l x s) v):ak F aG nx' (bG f (bZ l x s)) v:=by
 rcases xu l x s with e|⟨cs,y,_,h1,e⟩
 ·rw[e];trivial
 ·rw[e] at h⊢
  obtain⟨vs,h2,h3⟩:=eD h (yC cs y);refine iT vs (o_ hw hr cs y false vs (hz.imp id fun hz=> ?_) h2) (by rw[A8];exact h3);obtain⟨z,hz1,hz2⟩:=List.mem_map.1 h1;have:=List.all_eq_true.1 hz z hz1;rw[hz2] at this;exact this
theorem xK{E F:Env}{ob aG:Nat→Ob}{nx nx':Nat}{f:Nat→Nat}(hw:F.w=E.w)(hr:∀j,j<nx→F.af (f j)=E.af j∧f j<nx')
 (os:OS) (y:os.Den) (j i aj:Nat) (hi:F.af i=E.af j) (hB:F.B i=E.B j) (hz:(∀b,E.Z b→F.Z b)∨os.aS=true) (h:aJ E ob nx j (os.ob y)):aJ F aG nx' i (dY f aj (os.ob y)):=by
 have box:∀(u:Ty) (c:CS) (y:c.Den),((∀b,E.Z b→F.Z b)∨c.aS=true)→iA E ob nx j u (c.cn y)→iA F aG nx' i u (bG f (c.cn y)):=by
  intro u c y hz h;obtain⟨g,cs,t,h1,h2,h3,h4,h5⟩:=h;exact⟨g,cs,t,by rw[hi];exact h1,by rw[hw];exact h2,o_ hw hr c y false cs hz h3,A7 f u _ h4,by rw[hB];exact h5⟩
 cases os with
 |sl e t=>
  show Ow F.w (.list e t) y [F.af i] (F.B i);rw[hi,hB,hw];exact h
 |sh e t=>
  show jL F.w F.Z e t y (F.af i) (F.B i);rw[hi,hB,hw];obtain⟨f,h1,h2,h3⟩:=h;rcases hz with hz|hz
  ·exact⟨f,h1,fo (aN hz (fun _ _=>rfl) t) _ _ h2,h3⟩
  ·cases hz
 |box u c=>exact box u c y hz h
 |a_ u c=>
  obtain⟨b,y⟩:=y;cases b with
  |true=>exact box u c y hz h
  |false=>exact⟨by rw[hi];exact h.1,by rw[hB];exact h.2.1,h.2.2.imp fun cs hc=>o_ hw hr c y false cs hz hc⟩
 |mp u kk=>
  obtain⟨g,es,ck,h1,h2,h3,h4⟩:=(show ng E j u kk y from h);exact⟨g,es,ck,by rw[hi];exact h1,by rw[hw];exact h2,h3,by rw[hB];exact h4⟩
theorem z8(f:Nat→Nat)(v:Nat)(o:Ob):(dY f v o).lay=o.lay:=by cases o<;>rfl
theorem yw(f:Nat→Nat)(v:Nat)(o:Ob):(dY f v o).bn=o.bn:=by cases o<;>rfl
theorem iL{i j:Nat}:∀{s:List (Nat×Nat)},(keys s).Nodup→inv s i=some j→aC s j=some i
 |[],_,h=>by cases h
 |x::r,hn,h=>by
  obtain⟨a,b⟩:=x;have hn:a∉keys r∧(keys r).Nodup:=List.nodup_cons.1 hn;simp only[inv] at h;rw[dJ];split at h
  ·rename_i hb
   cases h;rw[if_pos rfl,Nat.eq_of_beq_eq_true hb]
  ·have:=iL hn.2 h
   have hne:a≠j:=fun e=>hn.1 (by subst e;exact List.mem_map.2 ⟨_,sH this,rfl⟩);rw[if_neg hne];exact this
theorem mq{i:Nat}:∀{s:List (Nat×Nat)},inv s i=none→∀j,aC s j≠some i
 |[],_,_=>by simp[aC]
 |x::r,h,j=>by
  obtain⟨a,b⟩:=x;simp only[inv] at h;rw[dJ];split at h
  ·cases h
  ·rename_i hb
   split
   ·intro e;cases e;simp at hb
   ·exact mq h j
end Go.Am
end
section
namespace Go.Am
def aI(ro:Bool)(E' E2:Env)(m:Mt):Env where
 w:=E2.w
 Z:=if ro then E'.Z else E2.Z
 af:=fun i=>if i<m.nx then E'.af i else E2.af (i-m.nx)
 B:=fun i=>if i<m.nx then(match inv m.sig i with
  |some j=>E2.B j
  |none=>if !ro&&bN i m.fz then[] else E'.B i)
  else(match aC m.sig (i-m.nx) with
   |some _=>[]
   |none=>E2.B (i-m.nx))
theorem nN{iK:List (Nat×OS)}:∀{out:List (Nat×OS)} {j:Nat} {o o':OS},jw iK out=true→dW iK j=some o→dW out j=some o'→kindOk o o'=true
 |[],_,_,_,_,_,h=>by cases h
 |x::r,j,o,o',hk,hi,h=>by
  simp only[jw,Bool.and_eq_true] at hk;simp only[dW] at h;split at h
  ·rename_i e
   cases h;obtain rfl:=Nat.eq_of_beq_eq_true e;rw[hi] at hk;exact hk.1
  ·exact nN hk.2 hi h
theorem vC{o o':OS}(h:kindOk o o'=true)(x:o.Den)(y:o'.Den):(o'.ob y).lay=(o.ob x).lay∧(o'.ob y).bn=(o.ob x).bn∧
 ∀fz v e t xs,o'.ob y= .sl fz v e t xs→∃aP,o.ob x= .sl .own 0 e t aP:=by
 cases o<;>cases o'<;>simp only[kindOk] at h<;>first|(cases h;done)|skip
 ·rename_i e t e' t'
  simp only[Bool.and_eq_true] at h;obtain rfl:=Nat.eq_of_beq_eq_true h.1;obtain rfl:=of_decide_eq_true h.2;refine⟨rfl,rfl,fun fz v e2 t2 xs he=> ?_⟩;simp only[OS.ob,Ob.sl.injEq] at he;obtain⟨-,-,rfl,rfl,_⟩:=he;exact⟨x,rfl⟩
 all_goals
  obtain rfl:=of_decide_eq_true h;exact⟨rfl,rfl,fun fz v e2 t2 xs he=>by simp[OS.ob] at he⟩
theorem AR{w w':World}{e e':TypeId}{s s' n n':Nat}{v:Value}{f f':List Value}(h:w.ownsRow 0 e s v n f)(h':w'.ownsRow 0 e' s' v n' f'):n=n':=by
 rcases h.2 with⟨rfl,rfl⟩|⟨g,cap,cur,rfl,_⟩<;>rcases h'.2 with⟨h1,rfl⟩|⟨g',cap',cur',h1,_⟩<;>first|rfl|(cases h1;rfl)|cases h1
section
variable{N:Nat}{E0 E E' E2:Env}{st:St}{a:Act}{m:Mt}{c:dm}{x:c.aX.Den}{y:c.au.Den}{tm args BR:Array Value}
theorem xQ(hi:Inv N E0 E st a)(e:Ext E ⟨[],[],st.ob,st.nx⟩ E' m)(ok:bB E' m tm)(k:lF (keys c.aX.objs) m.fz true m.sig)(kn:(keys m.sig).Nodup)
 (hm:∀j i,aC m.sig j=some i→∃o y,dW c.aX.objs j=some o∧(m.ob i).lay=(OS.ob o y).lay∧(m.ob i).bn=(OS.ob o y).bn∧∀(e:TypeId) (t:Ty) (aP:List t.Den),OS.ob o y= .sl .own 0 e t aP→∃v0 mX,m.ob i= .sl .own v0 e t mX)
 (hk:jw c.aX.objs c.au.objs=true) (f:Fr (into E' m) E2) (r2:aR E2 (c.au.st y) BR):
 Inv N E0 (aI c.au.aS E' E2 m) {sl:=st.sl,ob:=bu c m y,nx:=m.nx+Nat.max 100 (bL c.au.objs)} a∧
 ∀s v,ak E2 (c.au.st y).ob (c.au.st y).nx (bZ c.au.slots (c.au.pS y) s) v→
  ak (aI c.au.aS E' E2 m) (bu c m y) (m.nx+Nat.max 100 (bL c.au.objs)) (bG (dh m) (bZ c.au.slots (c.au.pS y) s)) v:=by
 generalize hro:c.au.aS=ro;have Cj:(into E' m).w=E'.w:=rfl;have IB:∀j i,aC m.sig j=some i→(into E' m).B j=E'.B i:=fun j i h=>by simp only[into,h]
 have lg:∀j b,b∈(into E' m).B j→∃i,aC m.sig j=some i∧b∈E'.B i:=by
  intro j b hb;simp only[into] at hb;split at hb
  ·rename_i i h;exact⟨i,h,hb⟩
  ·simp at hb
 have pF:∀j i,aC m.sig j=some i→E2.af j=E'.af i:=fun j i h=>by
  rw[f.af j (k.low rfl j i h)];simp only[into,h]
 have Ci:∀i b,b∈E2.B i→b<E2.w.heap.size∧¬E2.Z b:=fun i b hb=>r2.bb i b hb;have still:∀b,b<E'.w.heap.size→(∀j,b∉(into E' m).B j)→E2.w.heap[b]?=E'.w.heap[b]?:=fun b hb ho=>f.block b hb ho;have rD:∀i b,(∀j,aC m.sig j≠some i)→b∈E'.B i→∀j,b∉(into E' m).B j:=by
  intro i b hn hb j hj;obtain⟨i',h1,h2⟩:=lg j b hj;exact ok.rep.dj i i' b (fun e=>hn j (by rw[e];exact h1)) hb h2
 have kX:∀b,(into E' m).Z b→E2.w.heap[b]?=E'.w.heap[b]?:=by
  intro b hz;have hnot:∀j,b∉(into E' m).B j:=by
   intro j hj;obtain⟨i',h1,h2⟩:=lg j b hj;rcases hz with hz|⟨i,h3,h4⟩
   ·exact(ok.rep.bb i' b h2).2 hz
   ·exact ok.rep.dj i' i b (fun e=>k.fz j i' h1 (by rw[e];exact h3)) h2 h4
  refine still b ?_ hnot;rcases hz with hz|⟨i,h3,h4⟩
  ·exact ok.rep.zb b hz
  ·exact(ok.rep.bb i b h4).1
 have Z3:∀b,(aI ro E' E2 m).Z b→E2.Z b:=by
  intro b hb;simp only[aI] at hb;cases ro with
  |true=>simp only[if_true] at hb;exact f.z0 b (.inl hb)
  |false=>simpa using hb
 have pR:∀b,E'.Z b→(aI ro E' E2 m).Z b:=by
  intro b hb;simp only[aI];cases ro with
  |true=>simpa using hb
  |false=>simpa using f.z0 b (.inl hb)
 have xA:∀j,j<Nat.max 100 (bL c.au.objs)→(aI ro E' E2 m).af (dh m j)=E2.af j∧dh m j<m.nx+Nat.max 100 (bL c.au.objs):=by
  intro j hj;unfold dh;cases h:aC m.sig j with
  |some i=>
   have hlt:=ok.lt j i h;simp only;refine⟨?_,by omega⟩;simp only[aI,if_pos hlt];exact(pF j i h).symm
  |none=>
   simp only;refine⟨?_,by omega⟩;simp only[aI,if_neg (show ¬m.nx+j<m.nx by omega),Nat.add_sub_cancel_left]
 have hz:(∀b,E2.Z b→(aI ro E' E2 m).Z b)∨c.au.aS=true:=by
  cases ro with
  |true=>exact .inr hro
  |false=>exact .inl fun b hb=>by simpa[aI] using hb
 have zP:(∀b,E2.Z b→(aI ro E' E2 m).Z b)∨(c.au.slots.all fun z=>z.2.aS)=true:=hz.imp id (fun h=>by simp only[SS.aS,Bool.and_eq_true] at h;exact h.1);have zO:∀os,os∈c.au.objs.map (·.2)→(∀b,E2.Z b→(aI ro E' E2 m).Z b)∨os.aS=true:=by
  intro os hos;refine hz.imp id (fun h=> ?_);simp only[SS.aS,Bool.and_eq_true] at h;obtain⟨z,hz1,hz2⟩:=List.mem_map.1 hos;have:=List.all_eq_true.1 h.2 z hz1;rw[hz2] at this;exact this
 have rM:∀i j,i<m.nx→inv m.sig i=some j→bu c m y i=dY (dh m) (oW (m.ob i)+1) (bW c.au.objs (c.au.pO y) j):=by
  intro i j h1 h2;unfold bu;rw[show Nat.blt i m.nx=true from Nat.ble_eq_true_of_le h1];simp only[h2]
 have rJ:∀i,i<m.nx→inv m.sig i=none→(!ro&&bN i m.fz)=true→bu c m y i=fD (m.ob i):=by
  intro i h1 h2 h3;unfold bu;rw[show Nat.blt i m.nx=true from Nat.ble_eq_true_of_le h1];simp only[h2,hro,h3]
 have rO:∀i,i<m.nx→inv m.sig i=none→(!ro&&bN i m.fz)=false→bu c m y i=m.ob i:=by
  intro i h1 h2 h3;unfold bu;rw[show Nat.blt i m.nx=true from Nat.ble_eq_true_of_le h1];simp only[h2,hro,h3]
 have t_:∀i,¬i<m.nx→Nat.blt i m.nx=false:=by
  intro i h;cases e:Nat.blt i m.nx with
  |false=>rfl
  |true=>exact absurd (Nat.le_of_ble_eq_true e) h
 have wu:∀i,¬i<m.nx→(∃q,aC m.sig (i-m.nx)=some q)→bu c m y i= .dead:=by
  intro i h1 ⟨q,h2⟩;unfold bu;rw[t_ i h1];simp only[h2]
 have kH:∀i,¬i<m.nx→aC m.sig (i-m.nx)=none→bu c m y i=dY (dh m) 0 (bW c.au.objs (c.au.pO y) (i-m.nx)):=by
  intro i h1 h2;unfold bu;rw[t_ i h1];simp only[h2]
 have BS:∀i j,i<m.nx→inv m.sig i=some j→(aI ro E' E2 m).B i=E2.B j:=fun i j h1 h2=>by simp only[aI,if_pos h1,h2]
 have BF:∀i,i<m.nx→inv m.sig i=none→(!ro&&bN i m.fz)=true→(aI ro E' E2 m).B i=[]:=fun i h1 h2 h3=>by simp only[aI,if_pos h1,h2,h3,if_true]
 have BU:∀i,i<m.nx→inv m.sig i=none→(!ro&&bN i m.fz)=false→(aI ro E' E2 m).B i=E'.B i:=fun i h1 h2 h3=>by simp only[aI,if_pos h1,h2,h3];rfl
 have BD:∀i,¬i<m.nx→(∃q,aC m.sig (i-m.nx)=some q)→(aI ro E' E2 m).B i=[]:=fun i h1 ⟨q,h2⟩=>by simp only[aI,if_neg h1,h2]
 have BN:∀i,¬i<m.nx→aC m.sig (i-m.nx)=none→(aI ro E' E2 m).B i=E2.B (i-m.nx):=fun i h1 h2=>by simp only[aI,if_neg h1,h2]
 have wz:∀j i aj,(aI ro E' E2 m).af i=E2.af j→(aI ro E' E2 m).B i=E2.B j→
  aJ (aI ro E' E2 m) (bu c m y) (m.nx+Nat.max 100 (bL c.au.objs)) i (dY (dh m) aj (bW c.au.objs (c.au.pO y) j)):=by
  intro j i aj h1 h2;have ho:aJ E2 (c.au.st y).ob (c.au.st y).nx j (bW c.au.objs (c.au.pO y) j):=r2.ob j;rcases oF c.au.objs (c.au.pO y) j with⟨_,h3⟩|⟨os,z,h3,_,h4⟩
  ·rw[h3] at ho⊢
   show(aI ro E' E2 m).B i=[];rw[h2];exact ho
  ·rw[h4] at ho⊢
   exact xK (E:=E2) (F:=aI ro E' E2 m) rfl xA os z j i aj h1 h2 (zO os h3) ho
 have lay:∀i,i<m.nx→(∀u,(bu c m y i).lay=some u→(m.ob i).lay=some u)∧((bu c m y i).bn=true→(m.ob i).bn=true):=by
  intro i hi';cases hv:inv m.sig i with
  |some j=>
   rw[rM i j hi' hv,z8,yw];have hs:=iL kn hv;obtain⟨o,z,h1,h2,h3,_⟩:=hm j i hs;rw[h2,h3];rcases oF c.au.objs (c.au.pO y) j with⟨_,h4⟩|⟨os,z',_,h5,h4⟩
   ·rw[h4];exact⟨fun u h=>by simp[Ob.lay] at h,fun h=>by simp[Ob.bn] at h⟩
   ·rw[h4]
    obtain⟨l1,l2,_⟩:=vC (nN hk h1 h5) z z';rw[l1,l2];exact⟨fun u h=>h,fun h=>h⟩
  |none=>
   cases hf:(!ro&&bN i m.fz) with
   |true=>
    rw[rJ i hi' hv hf];cases m.ob i with
    |sl fz v e t xs=>cases fz<;>exact⟨fun u h=>by simpa[fD,Ob.lay] using h,fun h=>by simp[fD,Ob.bn] at h⟩
    |_=>exact⟨fun u h=>by simp[fD,Ob.lay] at h,fun h=>by simp[fD,Ob.bn] at h⟩
   |false=>
    rw[rO i hi' hv hf];exact⟨fun _ h=>h,fun h=>h⟩
 have uK:∀i,(!ro&&bN i m.fz)=true→ro=false∧i∈m.fz:=by
  intro i h;cases ro with
  |true=>simp at h
  |false=>exact⟨rfl,(jc i m.fz).1 (by simpa using h)⟩
 have ev:Ev E' m.ob m.nx (aI ro E' E2 m) (bu c m y) (m.nx+Nat.max 100 (bL c.au.objs)):=by
  refine⟨Nat.le_add_right _ _,fun i hi'=>by simp only[aI,if_pos hi'],pR,fun b hb=>kX b (.inl hb),fun i hi'=>(lay i hi').1,fun i hi'=>(lay i hi').2,?_⟩;intro i hi' fz v e t xs ho;cases hv:inv m.sig i with
  |some j=>
   rw[rM i j hi' hv] at ho;have hs:=iL kn hv;obtain⟨o,z,h1,h2,h3,h3'⟩:=hm j i hs;rcases oF c.au.objs (c.au.pO y) j with⟨_,h4⟩|⟨os,z',_,h5,h4⟩
   ·rw[h4] at ho;simp[dY] at ho
   ·have rZ:aJ E2 (c.au.st y).ob (c.au.st y).nx j (bW c.au.objs (c.au.pO y) j):=r2.ob j
    rw[h4] at ho rZ;cases hos:os.ob z' with
    |sl lY v2 e2 t2 dG=>
     rw[hos] at ho rZ;simp only[dY,Ob.sl.injEq] at ho;obtain⟨rfl,rfl,rfl,rfl,hxs⟩:=ho;have hxs:=eq_of_heq hxs;subst hxs;obtain⟨aP,hx0⟩:=(vC (nN hk h1 h5) z z').2.2 _ _ _ _ _ hos;obtain⟨v0,mX,hx1⟩:=h3' _ _ aP hx0;have ah:=ok.rep.ob i;simp only[hx1] at ah;have hkk:=nN hk h1 h5;have hfz:lY= .own:=by
      cases os with
      |sl e t=>simp only[OS.ob,Ob.sl.injEq] at hos;exact hos.1.symm
      |sh e t=>cases o<;>simp[kindOk] at hkk
      |box u c=>simp[OS.ob] at hos
      |a_ u c=>simp[OS.ob] at hos
      |mp u kk=>simp[OS.ob] at hos
     subst hfz;obtain⟨w1,f1,n1,a1,a2,_,_⟩:=ah;obtain⟨w2,f2,n2,b1,b2,_,_⟩:=rZ;rw[pF j i hs,a1] at b1;obtain rfl:w1=w2:=by simpa using b1
     refine⟨.own,v0,mX,hx1,AR a2 b2,by rw[hx1];simp[oW],fun e=> ?_⟩;rw[hx1] at e;simp[oW] at e
    |box u c=>rw[hos] at ho;simp[dY] at ho
    |a_ b u c=>rw[hos] at ho;simp[dY] at ho
    |mp u kk l=>rw[hos] at ho;simp[dY] at ho
    |dead=>rw[hos] at ho;simp[dY] at ho
  |none=>
   have hns:=mq hv;cases hf:(!ro&&bN i m.fz) with
   |true=>
    rw[rJ i hi' hv hf] at ho;obtain⟨qR,hfz⟩:=uK i hf;cases hmo:m.ob i with
    |sl bJ v0 e0 t0 aP=>
     rw[hmo] at ho;have ho:Ob.sl .aV v0 e0 t0 aP= .sl fz v e t xs:=by
      cases bJ<;>simp only[fD] at ho<;>first|exact ho|cases ho
     simp only[Ob.sl.injEq] at ho;obtain⟨rfl,rfl,rfl,rfl,hxs⟩:=ho;have hxs:=eq_of_heq hxs;subst hxs;refine⟨bJ,v0,_,rfl,rfl,Nat.le_refl _,fun _=>⟨rfl,fun b hb=> ?_⟩⟩;have hz':(into E' m).Z b:=by
      rcases hb with hb|hb
      ·exact .inr ⟨i,hfz,hb⟩
      ·exact .inl hb
     refine⟨kX b hz',.inr ?_⟩;simp only[aI,qR];exact f.z0 b hz'
    |box u c=>rw[hmo] at ho;simp[fD] at ho
    |a_ b u c=>rw[hmo] at ho;simp[fD] at ho
    |mp u kk l=>rw[hmo] at ho;simp[fD] at ho
    |dead=>rw[hmo] at ho;simp[fD] at ho
   |false=>
    rw[rO i hi' hv hf] at ho;refine⟨fz,v,xs,ho,rfl,Nat.le_refl _,fun _=>⟨rfl,fun b hb=> ?_⟩⟩;rcases hb with hb|hb
    ·exact⟨still b (ok.rep.bb i b hb).1 (rD i b hns hb),.inl (by rw[BU i hi' hv hf];exact hb)⟩
    ·exact⟨kX b (.inl hb),.inr (pR b hb)⟩
 have origin:∀i b,b∈(aI ro E' E2 m).B i→(b∈E'.B i∧i<m.nx∧inv m.sig i=none∧(!ro&&bN i m.fz)=false)∨(∃j,b∈E2.B j∧((i<m.nx∧inv m.sig i=some j)∨(¬i<m.nx∧j=i-m.nx∧aC m.sig j=none))):=by
  intro i b hb;by_cases h1:i<m.nx
  ·cases hv:inv m.sig i with
   |some j=>rw[BS i j h1 hv] at hb;exact .inr ⟨j,hb,.inl ⟨h1,rfl⟩⟩
   |none=>
    cases hf:(!ro&&bN i m.fz) with
    |true=>rw[BF i h1 hv hf] at hb;simp at hb
    |false=>rw[BU i h1 hv hf] at hb;exact .inl ⟨hb,h1,rfl,rfl⟩
  ·cases hs:aC m.sig (i-m.nx) with
   |some q=>rw[BD i h1 ⟨q,hs⟩] at hb;simp at hb
   |none=>rw[BN i h1 hs] at hb;exact .inr ⟨_,hb,.inr ⟨h1,rfl,hs⟩⟩
 have uz:∀j b,b∈E2.B j→(∃j' i,aC m.sig j'=some i∧b∈E'.B i)∨E'.w.heap.size≤b:=by
  intro j b hb;rcases f.own j b hb with⟨j',h1⟩|h1
  ·obtain⟨i,h2,h3⟩:=lg j' b h1
   exact .inl ⟨j',i,h2,h3⟩
  ·exact .inr h1
 have apart:∀i j b,b∈E'.B i→inv m.sig i=none→b∈E2.B j→False:=by
  intro i j b hb hv hj;rcases uz j b hj with⟨j',i',h1,h2⟩|h1
  ·exact ok.rep.dj i i' b (fun e=>mq hv j' (by rw[e];exact h1)) hb h2
  ·have:=(ok.rep.bb i b hb).1;omega
 constructor
 ·have zI:aR E' {sl:=st.sl,ob:=m.ob,nx:=m.nx} a.tmps:=
   ⟨fun s=>fA e.ev (hi.rep.sl s),ok.rep.ob,ok.rep.lt,ok.rep.dj,ok.rep.nd,ok.rep.bb,ok.rep.zb⟩
  refine⟨zI.turn rfl ev ?_ ?_ ?_ ?_ ?_ ?_,?_,hi.defers,hi.size,Nat.le_trans hi.nx (Nat.le_trans e.nx (Nat.le_add_right _ _))⟩
  ·intro i
   by_cases h1:i<m.nx
   ·cases hv:inv m.sig i with
    |some j=>
     show aJ _ _ _ i (bu c m y i);rw[rM i j h1 hv];refine wz j i _ ?_ (BS i j h1 hv);simp only[aI,if_pos h1];exact(pF j i (iL kn hv)).symm
    |none=>
     have hns:=mq hv;cases hf:(!ro&&bN i m.fz) with
     |true=>
      show aJ _ _ _ i (bu c m y i);rw[rJ i h1 hv hf];obtain⟨qR,hfz⟩:=uK i hf;have ah:=ok.rep.ob i;cases hmo:m.ob i with
      |sl bJ v0 e0 t0 aP=>
       simp only[hmo] at ah;have z3:∀b,(into E' m).Z b→(aI ro E' E2 m).Z b:=fun b hb=>by simp only[aI,qR];exact f.z0 b hb
       have fin:Rd (aI ro E' E2 m).w (aI ro E' E2 m).Z (.list e0 t0) aP [E'.af i]→aJ (aI ro E' E2 m) (bu c m y) (m.nx+Nat.max 100 (bL c.au.objs)) i (.sl .aV v0 e0 t0 aP):=fun hrd=>by
        refine⟨?_,BF i h1 hv hf⟩;rw[show(aI ro E' E2 m).af i=E'.af i by simp only[aI,if_pos h1]];exact hrd
       cases bJ with
       |own=>exact fin (aN (fun b hb=>z3 b (.inr ⟨i,hfz,hb⟩)) (fun b hb=>kX b (.inr ⟨i,hfz,hb⟩)) _ _ _ (dV _ _ _ _ ah))
       |aV=>exact fin (aN (fun b hb=>z3 b (.inl hb)) (fun b hb=>kX b (.inl hb)) _ _ _ ah.1)
       |shl=>exact fin (aN (fun b hb=>z3 b (hb.elim (fun hb=> .inr ⟨i,hfz,hb⟩) .inl)) (fun b hb=>kX b (hb.elim (fun hb=> .inr ⟨i,hfz,hb⟩) .inl)) _ _ _ (lD ah))
       |hole _ _ _=>exact BF i h1 hv hf
      |box u c=>exact BF i h1 hv hf
      |a_ b u c=>exact BF i h1 hv hf
      |mp u kk l=>exact BF i h1 hv hf
      |dead=>exact BF i h1 hv hf
     |false=>
      show aJ _ _ _ i (bu c m y i);rw[rO i h1 hv hf];exact dL ev (by simp only[aI,if_pos h1]) (BU i h1 hv hf) (fun b hb=>still b (ok.rep.bb i b hb).1 (rD i b hns hb)) (ok.rep.ob i)
   ·cases hs:aC m.sig (i-m.nx) with
    |some q=>
     show aJ _ _ _ i (bu c m y i);rw[wu i h1 ⟨q,hs⟩];exact BD i h1 ⟨q,hs⟩
    |none=>
     show aJ _ _ _ i (bu c m y i);rw[kH i h1 hs];exact wz _ i _ (by simp only[aI,if_neg h1]) (BN i h1 hs)
  ·intro i hi'
   have hi':m.nx+Nat.max 100 (bL c.au.objs)≤i:=hi';have h1:¬i<m.nx:=by omega
   show bu c m y i= .dead;cases hs:aC m.sig (i-m.nx) with
   |some q=>exact wu i h1 ⟨q,hs⟩
   |none=>
    rw[kH i h1 hs];have:bW c.au.objs (c.au.pO y) (i-m.nx)= .dead:=r2.lt (i-m.nx) (by show Nat.max 100 (bL c.au.objs)≤_;omega);rw[this];rfl
  ·intro i i' b hne hb hb'
   rcases origin i b hb with⟨h1,_,h1v,_⟩|⟨j,h1,h2⟩<;>rcases origin i' b hb' with⟨h1',_,zh,_⟩|⟨j',h1',h2'⟩
   ·exact ok.rep.dj i i' b hne h1 h1'
   ·exact apart i j' b h1 h1v h1'
   ·exact apart i' j b h1' zh h1
   ·refine r2.dj j j' b ?_ h1 h1'
    intro yL;subst yL;rcases h2 with⟨h2,h3⟩|⟨h2,h3,h4⟩<;>rcases h2' with⟨h2',h3'⟩|⟨h2',h3',h4'⟩
    ·have p1:=iL kn h3
     have p2:=iL kn h3';rw[p1] at p2;exact hne (by simpa using p2)
    ·have p1:=iL kn h3
     rw[h4'] at p1;cases p1
    ·have p1:=iL kn h3'
     rw[h4] at p1;cases p1
    ·omega
  ·intro i
   by_cases h1:i<m.nx
   ·cases hv:inv m.sig i with
    |some j=>rw[BS i j h1 hv];exact r2.nd j
    |none=>
     cases hf:(!ro&&bN i m.fz) with
     |true=>rw[BF i h1 hv hf];exact List.nodup_nil
     |false=>rw[BU i h1 hv hf];exact ok.rep.nd i
   ·cases hs:aC m.sig (i-m.nx) with
    |some q=>rw[BD i h1 ⟨q,hs⟩];exact List.nodup_nil
    |none=>rw[BN i h1 hs];exact r2.nd _
  ·intro i b hb
   rcases origin i b hb with⟨h1,h2,h3,h4⟩|⟨j,h1,_⟩
   ·obtain⟨p1,p2⟩:=ok.rep.bb i b h1
    refine⟨Nat.lt_of_lt_of_le p1 f.size,fun hz3=> ?_⟩;cases ro with
    |true=>simp only[aI,if_true] at hz3;exact p2 hz3
    |false=>
     have hz3:E2.Z b:=by simpa[aI] using hz3
     rcases f.z1 b hz3 with hz|⟨j,hj⟩|hz
     ·rcases hz with hz|⟨i',h5,h6⟩
      ·exact p2 hz
      ·have:i≠i':=fun e=>by
        subst e;simp only[Bool.not_false,Bool.true_and] at h4;rw[(jc i m.fz).2 h5] at h4;cases h4
       exact ok.rep.dj i i' b this h1 h6
     ·exact rD i b (mq h3) h1 j hj
     ·have:E'.w.heap.size≤b:=hz
      omega
   ·exact⟨(r2.bb j b h1).1,fun hz3=>(r2.bb j b h1).2 (Z3 b hz3)⟩
  ·intro b hb
   exact r2.zb b (Z3 b hb)
  ·have hE:Fr E E':=⟨by rw[e.w],by rw[e.w],by rw[e.w],by rw[e.w];exact Nat.le_refl _,fun _ _ _=>by rw[e.w],fun i b hb=> .inl ⟨i,by rw[←e.B];exact hb⟩,fun b hb=>by rw[e.Z];exact hb,
    fun b hb=> .inl (by rw[←e.Z];exact hb),fun i hi'=>e.af i (Nat.lt_of_lt_of_le hi' hi.nx)⟩
   refine(hi.fr.trans hE).trans ⟨f.os,f.tape,f.output,f.size,?_,?_,pR,?_,?_⟩
   ·intro b hb ho
    refine still b hb fun j hj=> ?_;obtain⟨i,_,h2⟩:=lg j b hj;exact ho i h2
   ·intro i b hb
    rcases origin i b hb with⟨h1,_⟩|⟨j,h1,_⟩
    ·exact .inl ⟨i,h1⟩
    ·rcases uz j b h1 with⟨_,i',_,h2⟩|h2
     ·exact .inl ⟨i',h2⟩
     ·exact .inr h2
   ·intro b hb
    cases ro with
    |true=>simp only[aI,if_true] at hb;exact .inl hb
    |false=>
     have hb:E2.Z b:=by simpa[aI] using hb
     rcases f.z1 b hb with hz|⟨j,hj⟩|hz
     ·rcases hz with hz|⟨i',_,h6⟩
      ·exact .inl hz
      ·exact .inr (.inl ⟨i',h6⟩)
     ·obtain⟨i,_,h2⟩:=lg j b hj
      exact .inr (.inl ⟨i,h2⟩)
     ·exact .inr (.inr hz)
   ·intro i hi'
    have:i<m.nx:=Nat.lt_of_lt_of_le hi' (Nat.le_trans hi.nx e.nx);simp only[aI,if_pos this]
 ·intro s v hv
  exact xP (E:=E2) (F:=aI ro E' E2 m) rfl xA _ _ s v zP hv
end
end Go.Am
end
section
namespace Go.Am
def gB(E:Env)(nx i:Nat)(p b q:List Nat)(cv:Value):Env:=⟨E.w,E.Z,upd E.af nx cv,upd (upd E.B i (p++q)) nx b⟩
theorem Bp{g:(t:Ty)→t.Den→Option t.Den}:∀(a:Ty) (n:Nat) (x y:a.Den) (o:Nat) (u:Ty),dZ g a n x=some y→a.at n=some (o,u)→∃z z',g u z=some z':=by
 intro a
 induction a with
 |cons a b _ ihb=>
  intro n x y o u hg ha;cases n with
  |zero=>
   simp only[Ty.at,Option.some.injEq,Prod.mk.injEq] at ha;obtain⟨_,rfl⟩:=ha;simp only[dZ] at hg;split at hg
   ·rename_i z hz;exact⟨_,z,hz⟩
   ·cases hg
  |succ n=>
   simp only[Ty.at] at ha;split at ha
   ·rename_i o' v' hb
    simp only[Option.some.injEq,Prod.mk.injEq] at ha;obtain⟨_,rfl⟩:=ha;simp only[dZ] at hg;split at hg
    ·rename_i z hz;exact ihb n x.2 z o' v' hz hb
    ·cases hg
   ·cases ha
 |_=>intro n x y o u hg ha;simp[Ty.at] at ha
theorem xh:∀(path:List Nat) (d:DV) (t:Ty) (x y:t.Den) (off:Nat) (v:Ty),bQ d path t x=some y→t.aM path=some (off,v)→v=d.ty
 |[],d,t,x,y,off,v,hs,ho=>by
  have:=cZ (show bz t d=some y from hs);simp only[Ty.aM,Option.some.injEq,Prod.mk.injEq] at ho;rw[this,←ho.2]
 |f::r,d,t,x,y,off,v,hs,ho=>by
  simp only[Ty.aM] at ho;split at ho
  ·rename_i o1 u1 k1
   split at ho
   ·rename_i o2 u2 k2
    simp only[Option.some.injEq,Prod.mk.injEq] at ho;obtain⟨_,rfl⟩:=ho;cases t with
    |st ft=>
     obtain⟨z,z',hz⟩:=Bp (g:=bQ d r) ft f x y o1 u1 hs k1;exact xh r d u1 z z' o2 u2 hz k2
    |_=>simp[Ty.dN] at k1
   ·cases ho
  ·cases ho
theorem wD{N:Nat}{E0 E:Env}{st st':St}{a:Act}{i aj:Nat}{ix:Int}{path:List Nat}{e':TypeId}{u:Ty}{ys:List u.Den}{cv:Value}(ho:oG st i ix path aj e' u ys=some st')(h:Inv N E0 E st a)(hi:i<st.nx)(h0:0≤ix)
 (hsub:∀fz e t xs,st.ob i= .sl fz aj e t xs→lG E i t xs ix path ⟨.list e' u,ys⟩ [cv]):
 ∃E',E'.w=E.w∧Inv N E0 E' st' a∧Ev E st.ob st.nx E' st'.ob st'.nx∧st'.sl=st.sl∧st'.nx=st.nx+1∧E'.af st.nx=cv∧cv.oneCell'=true:=by
 unfold oG at ho;split at ho
 ·rename_i fz v e t xs ah
  split at ho
  ·split at ho
   ·rename_i hb
    obtain rfl:=Nat.eq_of_beq_eq_true hb;simp only[Option.some.injEq] at ho;subst ho;obtain⟨x,g,off,s1,s2,s3,s4,s5,s6⟩:=hsub _ _ _ _ ah;have hr:=h.rep.ob i;rw[ah] at hr;obtain⟨p,b,q,c,l1,l2,l3⟩:=tL hr (h.rep.nd i) s1 s2 s3;obtain⟨v2,f2,fK,rfl,l4⟩:=(show ∃v2 f2 fK,c=[v2]∧_ from l2);have hcv:v2=cv:=by
     obtain⟨g',cap,cur,x',off',q1,q2,q3,q4,q5,q6,q7,_⟩:=l3;rw[s3] at q4;simp only[Option.some.injEq,Prod.mk.injEq] at q4;obtain⟨rfl,_⟩:=q4;have:g'=g:=by rw[q1] at s4;simpa[bS] using s4
     subst this;have e1:=s6 0 cv rfl;rw[cell_of_row E.w g' _ cur e (0,0) q2] at e1;have e2:=q7 0 v2 rfl;rw[e2] at e1;exact Option.some.inj e1
    subst hcv;have hnd:=h.rep.nd i;rw[l1,List.nodup_append,List.nodup_append] at hnd;have hpq:∀b',b'∈p++q→b'∈E.B i:=fun b' hb'=>by
     rw[l1];rcases List.mem_append.1 hb' with hb'|hb'
     ·simp[hb']
     ·simp[hb']
    have nS:∀b',b'∈b→b'∈E.B i:=fun b' hb'=>by rw[l1];simp[hb']
    have iG:∀b',b'∈p++q→b'∉b:=fun b' hb' hb2=>by
     rcases List.mem_append.1 hb' with hb'|hb'
     ·exact hnd.1.2.2 b' hb' b' hb2 rfl
     ·exact hnd.2.2 b' (List.mem_append.2 (.inr hb2)) b' hb' rfl
    have hone:v2.oneCell'=true:=lC _ _ _ _ l2 v2 (by simp);have hne:i≠st.nx:=by omega
    have kH:(upd (upd st.ob i (.sl (.hole ix path st.nx) (v+1) e t xs)) st.nx (.sl .own 0 e' u ys)) st.nx= .sl .own 0 e' u ys:=upd_same _ _ _;have bF:(upd (upd st.ob i (.sl (.hole ix path st.nx) (v+1) e t xs)) st.nx (.sl .own 0 e' u ys)) i= .sl (.hole ix path st.nx) (v+1) e t xs:=by rw[aB _ _ _ _ hne,upd_same]
    have aY:∀j,j≠i→j≠st.nx→(upd (upd st.ob i (.sl (.hole ix path st.nx) (v+1) e t xs)) st.nx (.sl .own 0 e' u ys)) j=st.ob j:=fun j h1 h2=>by rw[aB _ _ _ _ h2,aB _ _ _ _ h1]
    have BN:(gB E st.nx i p b q v2).B st.nx=b:=upd_same _ _ _;have BI:(gB E st.nx i p b q v2).B i=p++q:=by show upd (upd E.B i (p++q)) st.nx b i=_;rw[aB _ _ _ _ hne,upd_same]
    have BO:∀j,j≠i→j≠st.nx→(gB E st.nx i p b q v2).B j=E.B j:=fun j h1 h2=>by show upd (upd E.B i (p++q)) st.nx b j=_;rw[aB _ _ _ _ h2,aB _ _ _ _ h1]
    have iN:∀j,j<st.nx→(gB E st.nx i p b q v2).af j=E.af j:=fun j hj=>aB _ _ _ _ (by omega);have jB:(gB E st.nx i p b q v2).af st.nx=v2:=upd_same _ _ _;have from_:∀j b',b'∈(gB E st.nx i p b q v2).B j→(j=st.nx∧b'∈b)∨(j=i∧b'∈p++q)∨(j≠i∧j≠st.nx∧b'∈E.B j):=by
     intro j b' hb';by_cases h1:j=st.nx
     ·subst h1;rw[BN] at hb';exact .inl ⟨rfl,hb'⟩
     ·by_cases h2:j=i
      ·subst h2;rw[BI] at hb';exact .inr (.inl ⟨rfl,hb'⟩)
      ·rw[BO j h2 h1] at hb';exact .inr (.inr ⟨h2,h1,hb'⟩)
    have hev:∀j,j<st.nx→∀fz v' e2 t2 dG,(upd (upd st.ob i (.sl (.hole ix path st.nx) (v+1) e t xs)) st.nx (.sl .own 0 e' u ys)) j= .sl fz v' e2 t2 dG→
     ∃bJ v0 aP,st.ob j= .sl bJ v0 e2 t2 aP∧aP.length=dG.length∧v0≤v'∧(v0=v'→aP=dG∧∀b',b'∈E.B j→E.w.heap[b']?=E.w.heap[b']?∧b'∈(gB E st.nx i p b q v2).B j):=by
     intro j hj fz v' e2 t2 dG hoj;by_cases h2:j=i
     ·subst h2
      rw[bF] at hoj;cases hoj;exact⟨_,_,_,ah,rfl,Nat.le_succ _,fun e=>by omega⟩
     ·rw[aY j h2 (by omega)] at hoj
      exact⟨fz,v',dG,hoj,rfl,Nat.le_refl _,fun _=>⟨rfl,fun b' hb'=>⟨rfl,by rw[BO j h2 (by omega)];exact hb'⟩⟩⟩
    have j_:∀j,j<st.nx→(∀w,((upd (upd st.ob i (.sl (.hole ix path st.nx) (v+1) e t xs)) st.nx (.sl .own 0 e' u ys)) j).lay=some w→(st.ob j).lay=some w)∧
     (((upd (upd st.ob i (.sl (.hole ix path st.nx) (v+1) e t xs)) st.nx (.sl .own 0 e' u ys)) j).bn=true→(st.ob j).bn=true):=by
     intro j hj;by_cases h2:j=i
     ·subst h2
      rw[bF,ah];exact⟨fun w hw=>hw,fun hw=>by cases hw⟩
     ·rw[aY j h2 (by omega)]
      exact⟨fun _ h=>h,fun h=>h⟩
    have zi:Ev E st.ob st.nx (gB E st.nx i p b q v2) (upd (upd st.ob i (.sl (.hole ix path st.nx) (v+1) e t xs)) st.nx (.sl .own 0 e' u ys)) (st.nx+1):=
     ⟨Nat.le_succ _,iN,fun _ h=>h,fun _ _=>rfl,fun j hj=>(j_ j hj).1,fun j hj=>(j_ j hj).2,fun j hj fz v' e2 t2 dG hoj=>by
      obtain⟨bJ,v0,aP,k0,k1,k2,k3⟩:=hev j hj fz v' e2 t2 dG hoj;exact⟨bJ,v0,aP,k0,k1,k2,fun e=>⟨(k3 e).1,fun b' hb'=>⟨rfl,hb'.imp (fun hb'=>((k3 e).2 b' hb').2) id⟩⟩⟩⟩
    refine⟨gB E st.nx i p b q v2,rfl,h.gen rfl ⟨rfl,rfl,rfl,Nat.le_refl _,fun _ _ _=>rfl⟩ rfl (Nat.le_succ _) iN hev j_ ?_ ?_ ?_ ?_ ?_,zi,rfl,rfl,jB,hone⟩
    ·intro ev j
     by_cases h1:j=st.nx
     ·subst h1
      show aJ _ _ _ _ ((upd (upd st.ob i (.sl (.hole ix path st.nx) (v+1) e t xs)) st.nx (.sl .own 0 e' u ys)) st.nx);rw[kH];show Ow _ _ _ _ _;rw[jB,BN];exact l2
     ·by_cases h2:j=i
      ·subst h2
       show aJ _ _ _ _ ((upd (upd st.ob j (.sl (.hole ix path st.nx) (v+1) e t xs)) st.nx (.sl .own 0 e' u ys)) j);rw[bF];refine⟨Nat.lt_succ_self _,p,q,e',u,BI,h0,?_⟩;rw[jB,iN j hi];exact l3
      ·show aJ _ _ _ _ ((upd (upd st.ob i (.sl (.hole ix path st.nx) (v+1) e t xs)) st.nx (.sl .own 0 e' u ys)) j)
       rw[aY j h2 h1];by_cases h3:j<st.nx
       ·exact dL ev (iN j h3) (BO j h2 h1) (fun _ _=>rfl) (h.rep.ob j)
       ·have hd:=h.rep.lt j (by omega)
        have hb:=h.rep.ob j;rw[hd] at hb⊢;show(gB E st.nx i p b q v2).B j=[];rw[BO j h2 h1];exact hb
    ·intro j hj
     have hj:st.nx+1≤j:=hj;show(upd (upd st.ob i (.sl (.hole ix path st.nx) (v+1) e t xs)) st.nx (.sl .own 0 e' u ys)) j=_;rw[aY j (by omega) (by omega)];exact h.rep.lt j (by omega)
    ·intro i1 j b' hij hb1 hb2
     rcases from_ i1 b' hb1 with⟨rfl,h1⟩|⟨rfl,h1⟩|⟨h1,h2,h3⟩<;>rcases from_ j b' hb2 with⟨rfl,g1⟩|⟨rfl,g1⟩|⟨g1,g2,g3⟩
     ·exact hij rfl
     ·exact iG b' g1 h1
     ·exact h.rep.dj _ _ b' (fun e=>g1 e.symm) (nS b' h1) g3
     ·exact iG b' h1 g1
     ·exact hij rfl
     ·exact h.rep.dj _ _ b' (fun e=>g1 e.symm) (hpq b' h1) g3
     ·exact h.rep.dj _ _ b' h1 h3 (nS b' g1)
     ·exact h.rep.dj _ _ b' h1 h3 (hpq b' g1)
     ·exact h.rep.dj _ _ b' hij h3 g3
    ·intro j
     by_cases h1:j=st.nx
     ·subst h1;rw[BN];exact hnd.1.2.1
     ·by_cases h2:j=i
      ·subst h2
       rw[BI,List.nodup_append];exact⟨hnd.1.1,hnd.2.1,fun b1 hb1 b2 hb2=>hnd.2.2 b1 (List.mem_append.2 (.inl hb1)) b2 hb2⟩
      ·rw[BO j h2 h1];exact h.rep.nd j
    ·intro j b' hb'
     rcases from_ j b' hb' with⟨rfl,h1⟩|⟨rfl,h1⟩|⟨h1,h2,h3⟩
     ·exact⟨.inl ⟨i,nS b' h1⟩,(h.rep.bb i b' (nS b' h1)).1⟩
     ·exact⟨.inl ⟨_,hpq b' h1⟩,(h.rep.bb _ b' (hpq b' h1)).1⟩
     ·exact⟨.inl ⟨j,h3⟩,(h.rep.bb j b' h3).1⟩
   ·cases ho
  ·cases ho
 ·cases ho
theorem Bw{cur:Array Value}{o:Nat}{v:Value}(h:cur[o]?=some v):(splice cur.toList o [v]).toArray=cur:=by
 have hlt:=(Array.getElem?_eq_some_iff.1 h).1;have hv:=(Array.getElem?_eq_some_iff.1 h).2;apply Array.ext';simp only[splice,List.length_singleton];have h1:cur.toList.drop o=v::cur.toList.drop (o+1):=by
  rw[List.drop_eq_getElem_cons (by simpa using hlt)]
  congr 1
 rw[List.append_assoc,List.singleton_append,←h1,List.take_append_drop]
theorem yB{N:Nat}{R:Type}{E0 E:Env}{st:St}{a:Act}{d:Option Nat}{i:Nat}{k:St→Option R}{r:R}(hk:iW d i st k=some r)(h:Inv N E0 E st a):
 ∃st' E',k st'=some r∧Inv N E0 E' st' a∧E'.w=E.w:=by
 unfold iW at hk;split at hk
 ·rename_i ix path m aj e t xs ah
  split at hk
  ·rename_i Cs e' u ys qO
   split at hk
   ·exact⟨st,E,hk,h,rfl⟩
   ·obtain⟨x,hx1,hk2⟩:=Option.bind_eq_some_iff.1 hk
    clear hk;obtain⟨h0,_,h2,_⟩:=jy hx1;split at hk2
    ·rename_i y hy
     have hr:=h.rep.ob i;rw[ah] at hr;obtain⟨hm,p,q,e2,u2,l1,_,l3⟩:=hr;obtain⟨g,cap,cur,x0,off,q1,q2,q3,q4,q5,q6,q7,q8⟩:=l3;rw[h2] at q3;obtain rfl:=Option.some.inj q3;have hty:=xh path _ t x y off _ hy q4;simp only[Ty.list.injEq] at hty;obtain⟨rfl,rfl⟩:=hty;have hrm:=h.rep.ob m;rw[qO] at hrm;have hrm:Ow E.w (.list e2 u2) ys [E.af m] (E.B m):=hrm;have nU:m≠i:=fun e=>by subst e;rw[ah] at qO;cases qO
     have hil:i<st.nx:=by
      rcases Nat.lt_or_ge i st.nx with hh|hh
      ·exact hh
      ·rw[h.rep.lt i hh] at ah;cases ah
     have hcell:=q7 0 (E.af m) rfl;obtain⟨x',m1,m2⟩:=q8 E.w ys [E.af m] (E.B m) (by rw[q2];congr 2;exact(Bw hcell).symm) (fun _ _ _=>rfl) hrm;rw[hy] at m1;obtain rfl:=Option.some.inj m1;have hpq:∀b',b'∈p++q→b'∈E.B i:=fun b' hb'=>by rw[l1];exact hb'
     have hnd:=h.rep.nd i;rw[l1] at hnd;have iG:∀b',b'∈p++q→b'∉E.B m:=fun b' hb' hb2=>h.rep.dj m i b' nU hb2 (hpq b' hb')
     let E':Env:=⟨E.w,E.Z,E.af,upd (upd E.B m []) i (p++E.B m++q)⟩
     have bF:(upd (upd st.ob m .dead) i (.sl .own (aj+1) e t (xs.set ix.toNat y))) i= .sl .own (aj+1) e t (xs.set ix.toNat y):=upd_same _ _ _;have oD:(upd (upd st.ob m .dead) i (.sl .own (aj+1) e t (xs.set ix.toNat y))) m= .dead:=by rw[aB _ _ _ _ nU,upd_same]
     have aY:∀j,j≠i→j≠m→(upd (upd st.ob m .dead) i (.sl .own (aj+1) e t (xs.set ix.toNat y))) j=st.ob j:=fun j h1 h2=>by rw[aB _ _ _ _ h1,aB _ _ _ _ h2]
     have BI:E'.B i=p++E.B m++q:=upd_same _ _ _;have BM:E'.B m=[]:=by show upd (upd E.B m []) i _ m=_;rw[aB _ _ _ _ nU,upd_same]
     have BO:∀j,j≠i→j≠m→E'.B j=E.B j:=fun j h1 h2=>by show upd (upd E.B m []) i _ j=_;rw[aB _ _ _ _ h1,aB _ _ _ _ h2]
     have from_:∀j b',b'∈E'.B j→(j=i∧(b'∈p++q∨b'∈E.B m))∨(j≠i∧j≠m∧b'∈E.B j):=by
      intro j b' hb';by_cases h1:j=i
      ·subst h1
       rw[BI] at hb';refine .inl ⟨rfl,?_⟩;rcases List.mem_append.1 hb' with hb'|hb'
       ·rcases List.mem_append.1 hb' with hb'|hb'
        ·exact .inl (List.mem_append.2 (.inl hb'))
        ·exact .inr hb'
       ·exact .inl (List.mem_append.2 (.inr hb'))
      ·by_cases h2:j=m
       ·subst h2;rw[BM] at hb';simp at hb'
       ·rw[BO j h1 h2] at hb';exact .inr ⟨h1,h2,hb'⟩
     refine⟨_,E',hk2,h.gen rfl ⟨rfl,rfl,rfl,Nat.le_refl _,fun _ _ _=>rfl⟩ rfl (Nat.le_refl _) (fun _ _=>rfl) ?_ ?_ ?_ ?_ ?_ ?_ ?_,rfl⟩
     ·intro j hj fz v' e3 t3 xE hoj
      have hoj:(upd (upd st.ob m .dead) i (.sl .own (aj+1) e t (xs.set ix.toNat y))) j= .sl fz v' e3 t3 xE:=hoj;by_cases h1:j=i
      ·subst h1
       rw[bF] at hoj;cases hoj;exact⟨_,_,_,ah,by simp,Nat.le_succ _,fun e=>by omega⟩
      ·by_cases h2:j=m
       ·subst h2;rw[oD] at hoj;cases hoj
       ·rw[aY j h1 h2] at hoj
        exact⟨fz,v',xE,hoj,rfl,Nat.le_refl _,fun _=>⟨rfl,fun b' hb'=>⟨rfl,by rw[BO j h1 h2];exact hb'⟩⟩⟩
     ·intro j hj
      show(∀w,((upd (upd st.ob m .dead) i (.sl .own (aj+1) e t (xs.set ix.toNat y))) j).lay=some w→(st.ob j).lay=some w)∧(((upd (upd st.ob m .dead) i (.sl .own (aj+1) e t (xs.set ix.toNat y))) j).bn=true→(st.ob j).bn=true);by_cases h1:j=i
      ·subst h1
       rw[bF,ah];exact⟨fun w hw=>hw,fun hw=>by cases hw⟩
      ·by_cases h2:j=m
       ·subst h2
        rw[oD];exact⟨fun w hw=>by simp[Ob.lay] at hw,fun hw=>by simp[Ob.bn] at hw⟩
       ·rw[aY j h1 h2]
        exact⟨fun _ h=>h,fun h=>h⟩
     ·intro ev j
      show aJ _ _ _ _ ((upd (upd st.ob m .dead) i (.sl .own (aj+1) e t (xs.set ix.toNat y))) j);by_cases h1:j=i
      ·subst h1
       rw[bF];show Ow _ _ _ _ _;rw[BI];exact m2
      ·by_cases h2:j=m
       ·subst h2;rw[oD];exact BM
       ·rw[aY j h1 h2]
        exact dL ev rfl (BO j h1 h2) (fun _ _=>rfl) (h.rep.ob j)
     ·intro j hj
      show(upd (upd st.ob m .dead) i (.sl .own (aj+1) e t (xs.set ix.toNat y))) j=_;have hj:st.nx≤j:=hj;by_cases h2:j=m
      ·subst h2;exact oD
      ·rw[aY j (by omega) h2]
       exact h.rep.lt j hj
     ·intro i1 j b' hij hb1 hb2
      rcases from_ i1 b' hb1 with⟨rfl,h1⟩|⟨h1,h2,h3⟩<;>rcases from_ j b' hb2 with⟨rfl,g1⟩|⟨g1,g2,g3⟩
      ·exact hij rfl
      ·rcases h1 with h1|h1
       ·exact h.rep.dj _ _ b' hij (hpq b' h1) g3
       ·exact h.rep.dj _ _ b' (fun e=>g2 e.symm) h1 g3
      ·rcases g1 with g1|g1
       ·exact h.rep.dj _ _ b' hij h3 (hpq b' g1)
       ·exact h.rep.dj _ _ b' h2 h3 g1
      ·exact h.rep.dj _ _ b' hij h3 g3
     ·intro j
      by_cases h1:j=i
      ·subst h1
       rw[BI];rw[List.nodup_append] at hnd;rw[List.nodup_append,List.nodup_append];refine⟨⟨hnd.1,h.rep.nd m,fun b1 hb1 b2 hb2 e=> ?_⟩,hnd.2.1,fun b1 hb1 b2 hb2 e=> ?_⟩
       ·subst e;exact iG b1 (List.mem_append.2 (.inl hb1)) hb2
       ·subst e
        rcases List.mem_append.1 hb1 with hb1|hb1
        ·exact hnd.2.2 b1 hb1 b1 hb2 rfl
        ·exact iG b1 (List.mem_append.2 (.inr hb2)) hb1
      ·by_cases h2:j=m
       ·subst h2;rw[BM];exact List.nodup_nil
       ·rw[BO j h1 h2];exact h.rep.nd j
     ·intro j b' hb'
      rcases from_ j b' hb' with⟨rfl,h1|h1⟩|⟨h1,h2,h3⟩
      ·exact⟨.inl ⟨_,hpq b' h1⟩,(h.rep.bb _ b' (hpq b' h1)).1⟩
      ·exact⟨.inl ⟨m,h1⟩,(h.rep.bb m b' h1).1⟩
      ·exact⟨.inl ⟨j,h3⟩,(h.rep.bb j b' h3).1⟩
    ·cases hk2
  ·exact⟨st,E,hk,h,rfl⟩
 ·cases hk
structure lu(N:Nat)(E0 E:Env)(st:St)(a:Act)(E':Env)(st':St):Prop where
 w:E'.w=E.w
 inv:Inv N E0 E' st' a
 ev:Ev E st.ob st.nx E' st'.ob st'.nx
 sl:st'.sl=st.sl
theorem AB{N:Nat}{E0 E:Env}{st:St}{a:Act}(h:Inv N E0 E st a):∀(cs:CS) (c c':Cn) (st':St) (i:Nat) (md:Bool) (vs:List Value),dQ st cs c=some (c',st',i)→av E st.ob st.nx c md vs→
 ∃E',lu N E0 E st a E' st'∧av E' st'.ob st'.nx c' md vs∧c'.isAgg=c.isAgg:=by
 intro cs
 induction cs with
 |h j=>
  intro c c' st' i md vs ho hc;cases c with
  |sub i0 ix path aj d=>
   obtain⟨ty,ys⟩:=d;cases ty with
   |list e u=>
    simp only[dQ] at ho;split at ho
    ·rename_i st2 hop
     simp only[Option.some.injEq,Prod.mk.injEq] at ho;obtain⟨rfl,rfl,rfl⟩:=ho;obtain⟨⟨k0,k1⟩,k2,k3,k4,k5⟩:(vs.length=1∧∀x,x∈vs→x.oneCell'=true)∧_:=by cases md<;>exact hc
     obtain⟨v,rfl⟩:∃v,vs=[v]:=by
      match vs,k0 with
      |[v],_=>exact⟨v,rfl⟩
     obtain⟨E',e1,e2,e3,e4,e5,e6,e7⟩:=wD hop h k2 k3 (fun fz e0 t xs ah=>by rw[ah] at k5;exact(k5 rfl).2);refine⟨E',⟨e1,e2,e3,e4⟩,?_,rfl⟩;have:av E' st2.ob st2.nx (.h st.nx) md [v]↔st.nx<st2.nx∧(E'.af st.nx).oneCell'=true∧[v]=[E'.af st.nx]:=by cases md<;>exact Iff.rfl
     exact this.2 ⟨by omega,by rw[e6];exact e7,by rw[e6]⟩
    ·cases ho
   |_=>simp[dQ] at ho
  |_=>simp[dQ] at ho
 |agg a ih=>
  intro c c' st' i md vs ho hc;cases c with
  |agg x=>
   simp only[dQ] at ho;split at ho
   ·rename_i x' st2 i2 hx
    simp only[Option.some.injEq,Prod.mk.injEq] at ho;obtain⟨rfl,rfl,rfl⟩:=ho;have hc:av E st.ob st.nx x false vs:=by cases md<;>exact hc
    obtain⟨E',e1,e2,_⟩:=ih _ _ _ _ false vs hx hc;exact⟨E',e1,by cases md<;>exact e2,rfl⟩
   ·cases ho
  |_=>simp[dQ] at ho
 |cons a b iha ihb=>
  intro c c' st' i md vs ho hc;cases c with
  |cons x y=>
   simp only[dQ] at ho;split at ho
   ·rename_i x' st2 i2 hx
    simp only[Option.some.injEq,Prod.mk.injEq] at ho;obtain⟨rfl,rfl,rfl⟩:=ho;cases md with
    |false=>
     obtain⟨c1,c2,h0,h1,h2⟩:=hc;obtain⟨E',e1,e2,_⟩:=iha _ _ _ _ false c1 hx h1;exact⟨E',e1,⟨c1,c2,h0,e2,eG e1.ev _ _ _ h2⟩,rfl⟩
    |true=>
     obtain⟨v,ws,c1,h0,h1,h2,h3⟩:=hc;obtain⟨E',e1,e2,e3⟩:=iha _ _ _ _ false c1 hx h1;exact⟨E',e1,⟨v,ws,c1,h0,e2,by rw[e3];exact h2,eG e1.ev _ _ _ h3⟩,rfl⟩
   ·split at ho
    ·rename_i y' st2 i2 hy
     simp only[Option.some.injEq,Prod.mk.injEq] at ho;obtain⟨rfl,rfl,rfl⟩:=ho;cases md with
     |false=>
      obtain⟨c1,c2,h0,h1,h2⟩:=hc;obtain⟨E',e1,e2,_⟩:=ihb _ _ _ _ false c2 hy h2;exact⟨E',e1,⟨c1,c2,h0,eG e1.ev _ _ _ h1,e2⟩,rfl⟩
     |true=>
      obtain⟨v,ws,c1,h0,h1,h2,h3⟩:=hc;obtain⟨E',e1,e2,e3⟩:=ihb _ _ _ _ true ws hy h3;exact⟨E',e1,⟨v,ws,c1,h0,eG e1.ev _ _ _ h1,h2,e2⟩,rfl⟩
    ·cases ho
  |_=>simp[dQ] at ho
 |_=>intro c c' st' i md vs ho;cases c<;>simp[dQ] at ho
theorem AJ{N:Nat}{E0 E:Env}{st st':St}{a:Act}{cs:CS}{c c':Cn}{i:Nat}{v:Value}(ho:dQ st cs c=some (c',st',i))(h:Inv N E0 E st a)(hv:ak E st.ob st.nx c v):
 ∃E',lu N E0 E st a E' st'∧ak E' st'.ob st'.nx c' v:=by
 have hd:c≠ .dead:=by intro e;subst e;cases cs<;>simp[dQ] at ho
 obtain⟨vs,h1,h2⟩:=eD hv hd;obtain⟨E',e1,e2,e3⟩:=AB h cs c c' st' i false vs ho h1;exact⟨E',e1,iT vs e2 (by rw[e3];exact h2)⟩
theorem wC{N:Nat}{E0 E:Env}{st st':St}{a:Act}{i:Nat}{vs:Nat→Value}:∀(l:List (Nat×CS)) (n:Nat) (args args':List Cn),kK l n args st=some (args',st',i)→Inv N E0 E st a→(∀j,ak E st.ob st.nx (bE args j) (vs j))→
 args'.length=args.length∧∃E',lu N E0 E st a E' st'∧∀j,ak E' st'.ob st'.nx (bE args' j) (vs j)
 |[],_,_,_,ho,_,_=>by simp[kK] at ho
 |x::r,n,[],_,ho,_,_=>by simp[kK] at ho
 |x::r,n,c::cs,args',ho,h,hv=>by
  simp only[kK] at ho;split at ho
  ·split at ho
   ·rename_i c' st2 i2 hc
    simp only[Option.some.injEq,Prod.mk.injEq] at ho;obtain⟨rfl,rfl,rfl⟩:=ho;obtain⟨E',e1,e2⟩:=AJ hc h (hv 0);refine⟨rfl,E',e1,fun j=> ?_⟩;cases j with
    |zero=>exact e2
    |succ j=>exact fA e1.ev (hv (j+1))
   ·split at ho
    ·rename_i l' st2 i2 hl
     simp only[Option.some.injEq,Prod.mk.injEq] at ho;obtain⟨rfl,rfl,rfl⟩:=ho;obtain⟨e0,E',e1,e2⟩:=wC (vs:=fun j=>vs (j+1)) r (n+1) cs l' hl h (fun j=>hv (j+1));refine⟨by simp[e0],E',e1,fun j=> ?_⟩;cases j with
     |zero=>exact fA e1.ev (hv 0)
     |succ j=>exact e2 j
    ·cases ho
  ·cases ho
theorem qg{N:Nat}{E0 E:Env}{st:St}{a:Act}(c:Cn)(h:Inv N E0 E st a):∃E',lu N E0 E st a E' {st with ob:=jV c st.ob}:=by
 have same:lu N E0 E st a E st:=⟨rfl,h,⟨Nat.le_refl _,fun _ _=>rfl,fun _ h=>h,fun _ _=>rfl,fun _ _ _ h=>h,fun _ _ h=>h,fun i hi fz v e t xs ho=>⟨fz,v,xs,ho,rfl,Nat.le_refl _,fun _=>⟨rfl,fun b hb=>⟨rfl,hb⟩⟩⟩⟩,rfl⟩;unfold jV;split
 ·rename_i i
  split
  ·rename_i fz v e t xs ah
   split
   ·have hr:=h.rep.ob i
    rw[ah] at hr;obtain⟨v',f,nb,k1,k2,k3,k4⟩:=hr;have k1:E.af i=v':=by simpa using k1
    have hil:i<st.nx:=by
     rcases Nat.lt_or_ge i st.nx with hh|hh
     ·exact hh
     ·rw[h.rep.lt i hh] at ah;cases ah
    have hnd:=h.rep.nd i;rw[k4,List.nodup_append] at hnd;have hnb:∀b,b∈nb→b∈E.B i:=fun b hb=>by rw[k4];exact List.mem_append.2 (.inr hb)
    let E':Env:=⟨E.w,fun b=>E.Z b∨b∈nb,E.af,upd E.B i v'.ownBlock.toList⟩
    have bF:(upd st.ob i (.sl .shl v e t xs)) i= .sl .shl v e t xs:=upd_same _ _ _;have aY:∀j,j≠i→(upd st.ob i (.sl .shl v e t xs)) j=st.ob j:=fun j hj=>aB _ _ _ _ hj;have BI:E'.B i=v'.ownBlock.toList:=upd_same _ _ _;have BO:∀j,j≠i→E'.B j=E.B j:=fun j hj=>aB _ _ _ _ hj;have dK:∀j b,b∈E'.B j→b∈E.B j:=fun j b hb=>by
     by_cases hj:j=i
     ·subst hj;rw[BI] at hb;rw[k4];exact List.mem_append.2 (.inl hb)
     ·rw[BO j hj] at hb;exact hb
    have ev:Ev E st.ob st.nx E' (upd st.ob i (.sl .shl v e t xs)) st.nx:=by
     refine⟨Nat.le_refl _,fun _ _=>rfl,fun b hb=> .inl hb,fun _ _=>rfl,fun j hj u hu=> ?_,fun j hj hu=> ?_,fun j hj fz v2 e2 t2 dG ho=> ?_⟩
     ·by_cases hji:j=i
      ·subst hji;rw[bF] at hu;rw[ah];exact hu
      ·rw[aY j hji] at hu;exact hu
     ·by_cases hji:j=i
      ·subst hji;rw[bF] at hu;cases hu
      ·rw[aY j hji] at hu;exact hu
     ·by_cases hji:j=i
      ·subst hji
       rw[bF] at ho;cases ho;refine⟨_,_,_,ah,rfl,Nat.le_refl _,fun _=>⟨rfl,fun b hb=>⟨rfl,?_⟩⟩⟩;rcases hb with hb|hb
       ·rw[k4] at hb
        rcases List.mem_append.1 hb with hb|hb
        ·exact .inl (by rw[BI];exact hb)
        ·exact .inr (.inr hb)
       ·exact .inr (.inl hb)
      ·rw[aY j hji] at ho
       exact⟨fz,v2,dG,ho,rfl,Nat.le_refl _,fun _=>⟨rfl,fun b hb=>⟨rfl,hb.imp (fun hb=>by rw[BO j hji];exact hb) .inl⟩⟩⟩
    refine⟨E',rfl,⟨h.rep.turn (st':={st with ob:=upd st.ob i (.sl .shl v e t xs)}) rfl ev ?_ ?_ ?_ ?_ ?_ ?_,?_,h.defers,h.size,h.nx⟩,ev,rfl⟩
    ·intro j
     show aJ _ _ _ _ (upd st.ob i (.sl .shl v e t xs) j);by_cases hji:j=i
     ·subst hji
      rw[bF];refine⟨f,by rw[show E'.af j=E.af j from rfl,k1];exact k2,?_,by rw[BI,show E'.af j=E.af j from rfl,k1]⟩;exact ni xs f nb (fun x c b hb hx=>aN (fun q hq=> .inr (hb q hq)) (fun _ _=>rfl) t x c (dV t x c b hx)) k3
     ·rw[aY j hji]
      exact dL ev rfl (BO j hji) (fun _ _=>rfl) (h.rep.ob j)
    ·intro j hj
     show upd st.ob i (.sl .shl v e t xs) j=_;have hj:st.nx≤j:=hj;rw[aY j (by omega)];exact h.rep.lt j hj
    ·intro i1 j b hij h1 h2
     exact h.rep.dj i1 j b hij (dK _ _ h1) (dK _ _ h2)
    ·intro j
     by_cases hji:j=i
     ·subst hji;rw[BI];exact hnd.1
     ·rw[BO j hji];exact h.rep.nd j
    ·intro j b hb
     refine⟨(h.rep.bb j b (dK j b hb)).1,fun hz=> ?_⟩;rcases hz with hz|hz
     ·exact(h.rep.bb j b (dK j b hb)).2 hz
     ·by_cases hji:j=i
      ·subst hji
       rw[BI] at hb;exact hnd.2.2 b hb b hz rfl
      ·rw[BO j hji] at hb
       exact h.rep.dj j i b hji hb (hnb b hz)
    ·intro b hb
     rcases hb with hb|hb
     ·exact h.rep.zb b hb
     ·exact(h.rep.bb i b (hnb b hb)).1
    ·exact h.fr.trans ⟨rfl,rfl,rfl,Nat.le_refl _,fun _ _ _=>rfl,fun j b hb=> .inl ⟨j,dK j b hb⟩,fun b hb=> .inl hb,fun b hb=>hb.imp id (fun hb=> .inl ⟨i,hnb b hb⟩),fun _ _=>rfl⟩
   ·exact⟨E,same⟩
  ·exact⟨E,same⟩
 ·exact⟨E,same⟩
section
variable{P:Program}{R:Type}{C:Ctx}{o:Oper}{st:St}{k:St→Option R}{r:R}{E0 E:Env}{a:Act}{K:Act→World→Prop}{Q:Exit→Act→World→Prop}{g:Bool}
theorem xV(ay:∀t u,C.tt t=some u→aT P t u){pure:Bool}{t t2:TypeId}{S X:Operand}{s x:Cn}(ho:o.op= .call {callee:= .builtin .append,args:= #[S,X],argTypes:= #[t,t2]})(hgf:g=false)
 (hk:jN C pure o t t2 s x st k=some r) (h:Inv C.N E0 E st a) (hs:ak E st.ob st.nx s (a.eval S)) (hx:ak E st.ob st.nx x (a.eval X))
 (hK:∀st' E' v,k st'=some r→Inv C.N E0 E' st' (a.put o.dst v)→aL P C g o a v E.w E'.w→K (a.put o.dst v) E'.w):o.wp P a E.w K Q:=by
 unfold jN at hk;split at hk
 ·obtain⟨E1,o1⟩:=qg s h
  obtain⟨E2,o2⟩:=qg (st:={st with ob:=jV s st.ob}) x o1.inv;have hw:E2.w=E.w:=o2.w.trans o1.w;refine hw▸xX ay ho hgf hk o2.inv (fA o2.ev (fA o1.ev hs)) (fA o2.ev (fA o1.ev hx)) ?_;intro kR E3 v hk3 hi3 hp3;exact hK kR E3 v hk3 hi3 (by rw[←hw];exact hp3)
 ·split at hk
  ·rename_i i ix path aj e u ys
   split at hk
   ·rename_i st' hop
    obtain⟨vs,⟨k1,k2,k3,k4,k5⟩,hm⟩:=hs;have hm:vs=[a.eval S]:=hm;subst hm;obtain⟨E',e1,e2,e3,e4,e5,e6,e7⟩:=wD hop h k2 k3 (fun fz e0 t xs ah=>by rw[ah] at k5;exact(k5 rfl).2);refine e1▸tX (pure:=pure) (s:= .h st.nx) (x:=x) ay ho hgf hk e2 ⟨[a.eval S],⟨by omega,by rw[e6];exact e7,by rw[e6]⟩,rfl⟩ (fA e3 hx) ?_;intro kR E3 v hk3 hi3 hp3;exact hK kR E3 v hk3 hi3 (by rw[←e1];exact hp3)
   ·cases hk
  ·exact tX ay ho hgf hk h hs hx hK
end
end Go.Am
end
section
namespace Go.Am
def Kd(o:Ob)(os:OS):Prop:=
 ∃z,o.lay=(OS.ob os z).lay∧o.bn=(OS.ob os z).bn∧∀(e:TypeId) (t:Ty) (aP:List t.Den),OS.ob os z= .sl .own 0 e t aP→∃v0 mX,o= .sl .own v0 e t mX
theorem zY{o:Ob}{os:OS}(h:jl o os=true):Kd o os:=by
 cases o with
 |sl fz aj e t xs=>
  cases fz<;>cases os<;>simp only[jl] at h<;>try (cases h;done)
  rename_i e' t';simp only[Bool.and_eq_true] at h;obtain rfl:=Nat.eq_of_beq_eq_true h.1;obtain rfl:=of_decide_eq_true h.2;refine⟨(by exact[]),rfl,rfl,fun e t aP he=> ?_⟩;simp only[OS.ob,Ob.sl.injEq] at he;obtain⟨-,-,rfl,rfl,_⟩:=he;exact⟨aj,_,rfl⟩
 |box u c=>
  cases os<;>simp only[jl] at h<;>try (cases h;done)
  ·rename_i v cs
   obtain rfl:=of_decide_eq_true h;exact⟨cs.dflt,rfl,rfl,fun e t aP he=>by simp[OS.ob] at he⟩
  ·rename_i v cs
   obtain rfl:=of_decide_eq_true h;exact⟨(true,cs.dflt),rfl,rfl,fun e t aP he=>by simp[OS.ob] at he⟩
 |a_ b u c=>
  cases os<;>simp only[jl] at h<;>try (cases h;done)
  rename_i v cs;obtain rfl:=of_decide_eq_true h;exact⟨(true,cs.dflt),rfl,rfl,fun e t aP he=>by simp[OS.ob] at he⟩
 |mp u kk l=>cases os<;>simp only[jl] at h<;>cases h
 |dead=>cases os<;>simp only[jl] at h<;>cases h
theorem vo{m:Mt}{objs:List (Nat×OS)}:∀{s:List (Nat×Nat)},jm m objs s=true→∀j i,aC s j=some i→∃o,dW objs j=some o∧Kd (m.ob i) o
 |[],_,j,i,h=>by cases h
 |x::r,hk,j,i,h=>by
  obtain⟨a,b⟩:=x;simp only[jm,Bool.and_eq_true] at hk;rw[dJ] at h;split at h
  ·rename_i e
   cases h;subst e;have h1:=hk.1;split at h1
   ·rename_i o ho;exact⟨o,ho,zY h1⟩
   ·cases h1
  ·exact vo hk.2 j i h
theorem lU{C:Ctx}{st:St}{E:Env}{a:Act}(hr:aR E st a.tmps):∀(xs:List Operand) (ts:List TypeId) (l:List Cn),dM C st xs ts=some l→
 l.length=xs.length∧∀i,ak E st.ob st.nx (bE l i) ((xs.map a.eval).getD i undef)
 |[],ts,l,h=>by
  cases h;exact⟨rfl,fun i=>trivial⟩
 |x::r,ts,l,h=>by
  simp only[dM] at h;split at h
  ·rename_i c l' h1 h2
   cases h;obtain⟨h3,h4⟩:=lU hr r _ _ h2;refine⟨by simp[h3],fun i=> ?_⟩;cases i with
   |zero=>exact aW h1 hr
   |succ i=>simpa[bE] using h4 i
  ·cases h
theorem xD{E:Env}{ob:Nat→Ob}{nx:Nat}:∀(c:Cn) (l:List Cn) (vs:List Value),oV c=some l→av E ob nx c true vs→
 l.length=vs.length∧∀i,ak E ob nx (bE l i) (vs.getD i undef)
 | .nil,l,vs,h,hc=>by
   cases h;have hc:vs=[]:=hc;subst hc;exact⟨rfl,fun i=>trivial⟩
 | .cons a b,l,vs,h,hc=>by
   simp only[oV] at h;split at h
   ·rename_i l' h1
    cases h;obtain⟨v,ws,c,rfl,h2,h3,h4⟩:=hc;obtain⟨h5,h6⟩:=xD b l' ws h1 h4;refine⟨by simp[h5],fun i=> ?_⟩;cases i with
    |zero=>exact iT c h2 h3
    |succ i=>simpa[bE] using h6 i
   ·cases h
 | .ro _ _,l,vs,h,hc| .bq _ _,l,vs,h,hc| .h _,l,vs,h,hc| .p _,l,vs,h,hc| .addr _ _ _ _ _ _,l,vs,h,hc| .aZ _ _,l,vs,h,hc| .sub _ _ _ _ _,l,vs,h,hc
 | .fn _ _,l,vs,h,hc| .b_ _,l,vs,h,hc| .agg _,l,vs,h,hc| .cst _,l,vs,h,hc| .any,l,vs,h,hc| .dead,l,vs,h,hc=>by cases h
theorem tZ:∀(l r:List Cn) (i:Nat),bE (l++r) i=if i<l.length then bE l i else bE r (i-l.length)
 |[],r,i=>by simp
 |c::l,r,0=>by simp[bE]
 |c::l,r,i+1=>by
  show bE (l++r) i=_;rw[tZ l r i];simp[bE]
theorem wP{E2 E3:Env}{rG rH:Nat→Ob}{rE rF:Nat}{c:dm}{m:Mt}{y:c.au.Den}{tm:Array Value}
 (h:∀s,ak E3 rH rF (bG (dh m) (bZ c.au.slots (c.au.pS y) s)) (tm.getD s undef)):
 ∀(n i:Nat) (vs:List Value),vs.length=n→(∀q,q<n→vs[q]?=some (tm.getD (i+q) undef))→av E3 rH rF (bG (dh m) (mO c y n i)) true vs
 |0,i,vs,hl,hv=>by
  have:vs=[]:=List.eq_nil_of_length_eq_zero hl;exact this
 |n+1,i,vs,hl,hv=>by
  cases vs with
  |nil=>simp at hl
  |cons v ws=>
   have h0:=hv 0 (Nat.succ_pos _);simp only[List.getElem?_cons_zero,Option.some.injEq,Nat.add_zero] at h0
   have hr:=wP (E2:=E2) (rG:=rG) (rE:=rE) h n (i+1) ws (by simpa using hl) (fun q hq=>by
    have:=hv (q+1) (by omega);simpa[Nat.add_assoc,Nat.add_comm 1 q] using this)
   have hi:=h i;rw[←h0] at hi;show av E3 rH rF (.cons (bG (dh m) (bZ c.au.slots (c.au.pS y) i)) (bG (dh m) (mO c y n (i+1)))) true (v::ws);generalize bG (dh m) (bZ c.au.slots (c.au.pS y) i)=q at hi;by_cases hd:q= .dead
   ·subst hd
    exact⟨v,ws,[v],rfl,trivial,rfl,hr⟩
   ·obtain⟨cs,h1,h2⟩:=eD hi hd
    exact⟨v,ws,cs,rfl,h1,h2,hr⟩
section
variable{P:Program}{R:Type}{C:Ctx}{o:Oper}{st:St}{k:St→Option R}{r:R}{E0 E:Env}{a:Act}{K:Act→World→Prop}{Q:Exit→Act→World→Prop}{g:Bool}
theorem ug{pure:Bool}{f:FuncId}{args:List Cn}{argv:Array Value}{c:dm}{x:c.aX.Den}{y:c.au.Den}{m:Mt}(hc:gH P f c)(bP:g=true→pure=true)(hst:still C o=false)(hal:fI C o=true→c.aX.objs=[])
 (hm:gy c.au.aS true c.aX ⟨bE args,st.ob,st.nx⟩=some (x,m))
 (hno:(pure&& !(isNil m.sig&&(c.au.aS||isNil m.fz)))=false∧jw c.aX.objs c.au.objs=true∧Nat.beq args.length c.nargs=true∧jm m c.aX.objs m.sig=true) (hF:c.F x=some y)
 (hk:az C o (mP c m y) {sl:=st.sl,ob:=bu c m y,nx:=m.nx+Nat.max 100 (bL c.au.objs)} k=some r) (h:Inv C.N E0 E st a)
 (hsz:argv.size=args.length) (hargs:∀i,ak E st.ob st.nx (bE args i) (argv.getD i undef)) (hrun:∀q,(callFunc f argv).run P E.w=q→(execOp a.eval o).run P E.w=q)
 (hK:∀st' E' v,k st'=some r→Inv C.N E0 E' st' (a.put o.dst v)→aL P C g o a v E.w E'.w→K (a.put o.dst v) E'.w):o.wp P a E.w K Q:=by
 have hrep:aR E ⟨bE args,st.ob,st.nx⟩ argv:=⟨hargs,h.rep.ob,h.rep.lt,h.rep.dj,h.rep.nd,h.rep.bb,h.rep.zb⟩;obtain⟨E',e1,e2,e3,e4,e5⟩:=rA hm hrep;have hkd:=vo hno.2.2.2;have hfn:=hc (into E' m) argv x y (hsz.trans (Nat.eq_of_beq_eq_true hno.2.2.1)) hF e5;rw[show(into E' m).w=E.w from e1.w] at hfn;refine B_ (fun _=>hrun) hfn ?_;rintro v w' ⟨E2,tm,rfl,fr,r2,hret⟩
 obtain⟨hinv,hval⟩:=xQ h e1 e2 e3 e4 (fun j i hji=>by
  obtain⟨o,ho,z,h1,h2,h3⟩:=hkd j i hji;exact⟨o,z,ho,h1,h2,h3⟩) hno.2.1 fr r2
 have hv:ak (aI c.au.aS E' E2 m) (bu c m y) (m.nx+Nat.max 100 (bL c.au.objs)) (mP c m y) v:=by
  have hall:∀s,ak (aI c.au.aS E' E2 m) (bu c m y) (m.nx+Nat.max 100 (bL c.au.objs)) (bG (dh m) (bZ c.au.slots (c.au.pS y) s)) (tm.getD s undef):=
   fun s=>hval s _ (r2.sl s)
  unfold mP
  have sK:(∃vs:List Value,v= .tuple vs.toArray∧vs.length=c.fO∧∀i,i<c.fO→vs[i]?=some (tm.getD i undef))→
   ak (aI c.au.aS E' E2 m) (bu c m y) (m.nx+Nat.max 100 (bL c.au.objs)) (.b_ (bG (dh m) (mO c y c.fO 0))) v:=by
   rintro⟨vs,rfl,hl,hv⟩;exact⟨_,⟨vs,rfl,wP (E2:=E2) (rG:=fun _=> .dead) (rE:=0) hall c.fO 0 vs hl (fun q hq=>by rw[Nat.zero_add];exact hv q hq)⟩,rfl⟩
  generalize hn:c.fO=n at hret sK
  match n with
  |0=>exact sK hret
  |1=>
   have hret:v=tm.getD 0 undef:=hret;rw[hret];exact hall 0
  |n+2=>exact sK hret
 have grown:m.sig=[]→aA E.w E2.w:=fun hnil=>by
  have hw:(into E' m).w=E.w:=e1.w;refine⟨by rw[←hw];exact fr.os,by rw[←hw];exact fr.tape,by rw[←hw];exact fr.output,by rw[←hw];exact fr.size,fun b hb=> ?_⟩;rw[←hw];refine fr.block b (by rw[hw];exact hb) (fun i=> ?_);simp[into,hnil,aC]
 refine eP (G:=fun a'=>K a' (aI c.au.aS E' E2 m).w) hk hinv hv (fun st' hk' hi=>hK st' _ _ hk' hi (.loud hst (fun hg=> ?_) (fun hh=> ?_)))
 case refine_2=>
  refine grown ?_;have hkb:=hno.2.2.2;rw[hal hh] at hkb;cases hs:m.sig with
  |nil=>rfl
  |cons x r=>rw[hs] at hkb;simp[jm,dW] at hkb
 have hp:=bP hg;refine grown ?_;have:=hno.1;simp only[hp,Bool.true_and,Bool.not_eq_false',Bool.and_eq_true] at this;cases hs:m.sig with
 |nil=>rfl
 |cons x r=>rw[hs] at this;simp[isNil] at this
theorem nD{pure:Bool}{f:FuncId}{args:List Cn}{argv:Array Value}:∀(cons:List dm),(∀c,c∈cons→gH P f c)→(g=true→pure=true)→still C o=false→(fI C o=true→∀c,c∈cons→c.aX.objs=[])→gQ C pure o args st k cons=some r→Inv C.N E0 E st a→
 argv.size=args.length→(∀i,ak E st.ob st.nx (bE args i) (argv.getD i undef))→(∀q,(callFunc f argv).run P E.w=q→(execOp a.eval o).run P E.w=q)→
 (∀st' E' v,k st'=some r→Inv C.N E0 E' st' (a.put o.dst v)→aL P C g o a v E.w E'.w→K (a.put o.dst v) E'.w)→o.wp P a E.w K Q
 |[],_,_,_,_,hk,_,_,_,_,_=>by cases hk
 |c::cons,hcs,bP,hst,hal,hk,h,hsz,hargs,hrun,hK=>by
  simp only[gQ] at hk;split at hk
  ·rename_i args' st2 i hop
   split at hk
   ·cases hk
   ·rename_i hpure
    split at hk
    ·exact nD cons (fun c hc=>hcs c (List.mem_cons_of_mem _ hc)) bP hst (fun e c hc=>hal e c (List.mem_cons_of_mem _ hc)) hk h hsz hargs hrun hK
    ·rename_i x m hm
     split at hk
     ·cases hk
     ·rename_i hno
      simp only[Bool.not_eq_false',Bool.and_eq_true] at hno;cases hF:c.F x with
      |none=>rw[hF] at hk;cases hk
      |some y=>
       rw[hF] at hk;simp only[Option.bind_some] at hk;obtain⟨hl,E2,ho1,ho2⟩:=wC (vs:=fun j=>argv.getD j undef) c.aX.slots 0 args args' hop h hargs;have hw:=ho1.w;refine hw▸ug (pure:=false) (g:=g) (hcs c (List.mem_cons_self ..)) (fun hg=>by have:=bP hg;simp_all) hst (fun e=>hal e c (List.mem_cons_self ..)) hm ⟨rfl,hno.1,hno.2.1,hno.2.2⟩ hF hk ho1.inv (hsz.trans hl.symm) ho2 (by rw[hw];exact hrun) ?_;intro kR E3 v hk3 hi3 hp3;obtain⟨BA,E4,hk4,hi4,hw4⟩:=yB hk3 hi3;rw[←hw4];exact hK BA E4 v hk4 hi4 (by rw[hw4,←hw];exact hp3)
  ·split at hk
   ·exact nD cons (fun c hc=>hcs c (List.mem_cons_of_mem _ hc)) bP hst (fun e c hc=>hal e c (List.mem_cons_of_mem _ hc)) hk h hsz hargs hrun hK
   ·rename_i x m hm
    split at hk
    ·cases hk
    ·rename_i hno
     simp only[Bool.or_eq_false_iff,Bool.not_eq_false',Bool.and_eq_true] at hno;cases hF:c.F x with
     |none=>rw[hF] at hk;cases hk
     |some y=>
      rw[hF] at hk;simp only[Option.bind_some] at hk;exact ug (hcs c (List.mem_cons_self ..)) bP hst (fun e=>hal e c (List.mem_cons_self ..)) hm ⟨hno.1,hno.2.1,hno.2.2.1,hno.2.2.2⟩ hF hk h hsz hargs hrun hK
end
end Go.Am
end
section
namespace Go.Am
structure bI(P:Program)(C:Ctx):Prop where
 tt:∀t u,C.tt t=some u→aT P t u
 phi:∀g c,c∈C.phi g→gH P g c
 mixed:P.follows .mixedOrders=true
 eq:∀t u,C.tt t=some u→u.isAgg=true→u.flat=true→dn P u t [] 0∧P.eqGuardType P.depth t=false
 mt:∀t k e,C.mt t=some (k,e)→P.underlying t=some (.map k e)
theorem pY{α:Type}{xs:Array α}{a:α}(h:xs.toList=[a]):xs= #[a]:=by
 rw[←xs.toArray_toList,h]
theorem nA{α:Type}{xs:Array α}{a b:α}(h:xs.toList=[a,b]):xs= #[a,b]:=by
 rw[←xs.toArray_toList,h]
section
variable{P:Program}{R:Type}{C:Ctx}{o:Oper}{st:St}{k:St→Option R}{r:R}{E0 E:Env}{a:Act}{K:Act→World→Prop}{Q:Exit→Act→World→Prop}{g:Bool}
theorem uj{a:Act}(hr:aR E st a.tmps):∀(xs:List Operand) (ts:List TypeId) (l:List Cn),dM C st xs ts=some l→av E st.ob st.nx (caps l) true (xs.map a.eval)
 |[],ts,l,h=>by cases h;exact rfl
 |x::r,ts,l,h=>by
  simp only[dM] at h;split at h
  ·rename_i c l' h1 h2
   cases h;have hv:=aW h1 hr;have hd:c≠ .dead:=by
    intro e;subst e;unfold ev at h1;split at h1
    ·split at h1
     ·cases h1
     ·cases h1
     ·rename_i _ hs _;simp only[Option.some.injEq] at h1;exact hs h1
    ·rename_i v
     unfold nH at h1;split at h1<;>first|(cases h1;done)|skip
     split at h1<;>cases h1
    ·cases h1
    ·cases h1
   obtain⟨cs,h3,h4⟩:=eD hv hd;exact⟨_,_,cs,rfl,h3,h4,uj hr r _ _ h2⟩
  ·cases h
theorem uC{a:Act}(hr:aR E st a.tmps){xs:Array Operand}{ts:List TypeId}{c:Cn}(h:dM C st xs.toList ts=some [c]):∃X,xs= #[X]∧ak E st.ob st.nx c (a.eval X):=by
 obtain⟨h1,h2⟩:=lU hr xs.toList ts _ h
 match hx:xs.toList,h1 with
 |[X],_=>
  refine⟨X,pY hx,?_⟩;have:=h2 0;rw[hx] at this;exact this
theorem qw{a:Act}(hr:aR E st a.tmps){xs:Array Operand}{ts:List TypeId}{c d:Cn}(h:dM C st xs.toList ts=some [c,d]):∃X Y,xs= #[X,Y]∧ak E st.ob st.nx c (a.eval X)∧ak E st.ob st.nx d (a.eval Y):=by
 obtain⟨h1,h2⟩:=lU hr xs.toList ts _ h
 match hx:xs.toList,h1 with
 |[X,Y],_=>
  refine⟨X,Y,nA hx,?_,?_⟩
  ·have:=h2 0
   rw[hx] at this;exact this
  ·have:=h2 1
   rw[hx] at this;exact this
theorem yR{a:Act}(hr:aR E st a.tmps){xs:Array Operand}{ts:List TypeId}{c d:Cn}(h:j4 C st xs.toList ts=some [c,d]):∃X Y,xs= #[X,Y]∧ak E st.ob st.nx c (a.eval X)∧ak E st.ob st.nx d (a.eval Y):=by
 match hx:xs.toList with
 |[]=>rw[hx] at h;simp[j4] at h
 |[X]=>rw[hx] at h;simp[j4] at h
 |X::Y::Z::W=>rw[hx] at h;simp[j4] at h
 |[X,Y]=>
  rw[hx] at h;simp only[j4] at h;split at h
  ·rename_i c' d' h1 h2
   simp only[Option.some.injEq,List.cons.injEq,and_true] at h;obtain⟨rfl,rfl⟩:=h;exact⟨X,Y,nA hx,yS h1 hr,aW h2 hr⟩
  ·cases h
theorem AA(hc:bI P C){pure:Bool}(bP:g=true→pure=true)(hk:kJ C pure o st k=some r)(h:Inv C.N E0 E st a)
 (hK:∀st' E' v,k st'=some r→Inv C.N E0 E' st' (a.put o.dst v)→aL P C g o a v E.w E'.w→K (a.put o.dst v) E'.w):o.wp P a E.w K Q:=by
 have hr:=h.rep;have hgf:∀{b:Bool},pure=false→g=false:=by
  intro _ hp;cases hg:g with
  |false=>rfl
  |true=>rw[bP hg] at hp;cases hp
 unfold kJ at hk;split at hk
 ·
   rename_i X ho;split at hk
   ·rename_i c hX
    exact vV (.inl ho) hk h (aW hX hr) hK
   ·cases hk
 ·
   rename_i X ho;split at hk
   ·cases hk
   ·split at hk
    ·rename_i c hX
     exact vV (.inr ho) hk h (aW hX hr) hK
    ·cases hk
 ·
   rename_i t ho;split at hk
   ·rename_i u hT
    split at hk
    ·rename_i hf
     exact xR hc.tt ho hT hf hk h hK
    ·cases hk
   ·cases hk
 ·
   rename_i t X ho;split at hk
   ·rename_i c hX
    split at hk
    ·rename_i b hb
     split at hk
     ·split at hk
      ·rename_i hf
       exact yg ho hb hf hk h (aW hX hr) hK
      ·cases hk
     ·cases hk
    ·cases hk
   ·cases hk
 ·
   rename_i t ps ho;split at hk
   ·rename_i l hl
    split at hk
    ·rename_i c hb
     exact yu hc.tt ho (j5 hr _ _ hl) hb hk h hK
    ·cases hk
   ·cases hk
 ·
   rename_i t len ps ho;split at hk
   ·cases hk
   ·exact ym hc.tt ho (hgf (b:=true) rfl) hk h hK
 ·
   rename_i t X ho;split at hk
   ·rename_i c hX
    split at hk
    ·rename_i d hd
     split at hk
     ·rename_i hl
      exact Ag hc.tt ho hd hl hk h (aW hX hr) hK
     ·cases hk
    ·cases hk
   ·cases hk
 ·
   rename_i t A X ho;split at hk
   ·cases hk
   ·split at hk
    ·rename_i c d hA hX
     split at hk
     ·rename_i hd
      exact BC hc.tt ho (hgf (b:=true) rfl) hd hk h (aW hA hr) (aW hX hr) hK
     ·cases hk
    ·cases hk
 ·
   rename_i X ho;split at hk
   ·rename_i c hX
    have hv:=aW hX hr;split at hk
    ·rename_i i
     split at hk
     ·rename_i u c' ah
      refine oz ho hk h hv (.inl ?_) hK;obtain⟨cs,h1,h2⟩:=hv;have ho:=hr.ob i;rw[ah] at ho;obtain⟨gg,cs',t,k1,_⟩:=ho;have e1:cs=[E.af i]:=h1.2.2;have e2:cs=[a.eval X]:=h2;rw[e1,k1] at e2;exact⟨_,(by simpa using e2.symm)⟩
     ·rename_i b u d ah
      split at hk
      ·cases hk
      ·cases b with
       |false=>cases hk
       |true=>
        simp only[cond_true] at hk;exact Ar ho ah hk h hv hK
     ·cases hk
    ·refine oz ho hk h hv (.inl ?_) hK
     obtain⟨cs,h1,h2⟩:=hv;obtain⟨_,_,⟨gg,_,e1⟩,_⟩:=h1;have e2:cs=[a.eval X]:=h2;rw[e1] at e2;exact⟨_,(by simpa using e2.symm)⟩
    ·refine oz ho hk h hv (.inl ?_) hK
     obtain⟨cs,h1,h2⟩:=hv;obtain⟨_,ad,e1,_⟩:=h1;have e2:cs=[a.eval X]:=h2;rw[e1] at e2;exact⟨_,(by simpa using e2.symm)⟩
    ·refine oz ho hk h hv (.inr ?_) hK
     obtain⟨cs,h1,h2⟩:=hv;obtain⟨vs,e1,_⟩:=h1;have e2:cs=[a.eval X]:=h2;rw[e1] at e2;exact⟨_,_,(by simpa using e2.symm)⟩
    ·cases hk
   ·cases hk
 ·
   rename_i op xt X Y yt ho;split at hk
   ·rename_i c d hX hY
    split at hk
    ·split at hk
     ·rename_i x y hx hy
      exact yO hc.eq ho hx hy hk h (aW hX hr) (aW hY hr) hK
     ·cases hk
    ·exact yf hc.tt ho hk h (aW hX hr) (aW hY hr) hK
   ·cases hk
 ·
   rename_i op t X ho;split at hk
   ·rename_i c hX
    exact BZ ho hk h (aW hX hr) hK
   ·cases hk
 ·
   rename_i ts td X ho;split at hk
   ·rename_i c hX
    exact yG hc.tt ho hk h (aW hX hr) hK
   ·cases hk
 ·
   rename_i s X f ho;split at hk
   ·rename_i c hX
    split at hk
    ·rename_i d hd
     exact y7 hc.tt ho hd hk h (aW hX hr) hK
    ·cases hk
   ·cases hk
 ·
   rename_i t X I ho;split at hk
   ·rename_i c d hX hI
    exact zS hc.tt ho hk h (aW hX hr) (aW hI hr) hK
   ·cases hk
 ·
   rename_i t X I ho;split at hk
   ·rename_i c d hX hI
    exact zU hc.tt ho hk h (aW hX hr) (aW hI hr) hK
   ·cases hk
 ·
   rename_i t X LO HI ho;split at hk
   ·rename_i c hX
    split at hk
    ·rename_i lo hi hlo hhi
     have key:∀(L:Option Operand) (l:Option Int),(match L with
      |none=>some none
      |some l=>(match ev C st 0 l with
       |some (.ro none ⟨.int _,n⟩)=>some (some n)
       |_=>(none:Option (Option Int))))=some l→∃kl,L.map a.eval=l.map fun n=>Value.int kl n:=by
      intro L l hl;cases L with
      |none=>cases hl;exact⟨.i64,rfl⟩
      |some x=>
       simp only at hl;split at hl
       ·rename_i kk n hx
        cases hl;exact⟨kk,by simp[eB (aW hx hr)]⟩
       ·cases hl
     obtain⟨kl,h1⟩:=key _ _ hlo;obtain⟨kh,h2⟩:=key _ _ hhi;exact Bv hc.tt ho h1 h2 hk h (aW hX hr) hK
    ·cases hk
   ·cases hk
 ·
   rename_i t n m ho;split at hk
   ·rename_i hnm
    obtain rfl:=Nat.eq_of_beq_eq_true hnm;split at hk
    ·rename_i kk x hs
     have hv:=hr.sl n;rw[hs] at hv;exact vN hc.tt ho hk h (eB hv) (eB hv) hK
    ·cases hk
   ·cases hk
 ·rename_i t k1 n k2 m ho
  split at hk
  ·rename_i hnm
   obtain rfl:=of_decide_eq_true hnm;exact vN hc.tt ho hk h rfl rfl hK
  ·cases hk
 ·
   rename_i f fs cs ho;split at hk
   ·rename_i hfs
    split at hk
    ·rename_i l hl
     have zy:fs= #[]:=by rw[←fs.toArray_toList,hfs]
     refine aQ (v:= .func (.func f) #[] (cs.toList.map a.eval).toArray) hk h ?_ ?_ hK
     ·intro u _
      unfold execOp;simp[ho,Instr.makeFunc,zy];apply Array.ext';simp
     ·exact⟨_,⟨_,rfl,uj hr _ _ _ hl⟩,rfl⟩
    ·cases hk
   ·cases hk
 ·
   rename_i X ix ho;split at hk
   ·rename_i c hX
    split at hk
    ·rename_i d hd
     exact yV ho hd hk h (aW hX hr) hK
    ·cases hk
   ·cases hk
 ·
   rename_i c ho;obtain⟨callee,args,ats⟩:=c;simp only at hk;split at hk
   ·rename_i f
    split at hk
    ·rename_i l hl
     obtain⟨hl1,hl2⟩:=lU hr _ _ _ hl;refine nD (argv:=args.map a.eval) (C.phi f) (fun c hc'=>hc.phi f c hc') bP (by simp[still,ho]) (fun hh c' hc'=>by simp only[fI,ho,wh,List.all_eq_true] at hh;have:=hh c' hc';cases hs:c'.aX.objs with|nil=>rfl|cons x r=>rw[hs] at this;simp[isNil] at this) hk h (by rw[hl1];simp) (fun i=> ?_) ?_ hK
     ·have:=hl2 i
      have e:(args.map a.eval).getD i undef=(args.toList.map a.eval).getD i undef:=by
       rw[←Array.toList_map];simp
      rw[e];exact this
     ·intro q hq
      unfold execOp;simp only[ho];simp[resolve,Act.eval,Deferred.ofValue,invoke,hq]
    ·cases hk
   ·rename_i X hne
    split at hk
    ·rename_i f cs l hfn hl
     split at hk
     ·rename_i rr hrr
      obtain⟨hl1,hl2⟩:=lU hr _ _ _ hl;have hv:=aW hfn hr;obtain⟨ws,hw1,hw2⟩:=hv;obtain⟨vs,e1,h5⟩:=hw1;have e2:ws=[a.eval X]:=hw2;rw[e1] at e2;have hX:a.eval X= .func (.func f) #[] vs.toArray:=by simpa using e2.symm
      obtain⟨hu1,hu2⟩:=xD _ _ _ hrr h5
      refine nD (argv:=args.map a.eval++vs.toArray) (C.phi f) (fun c hc'=>hc.phi f c hc') bP (by simp[still,ho]) (fun hh=>by
       simp only[fI,ho] at hh;split at hh
       ·rename_i f' e
        exact(hne f' (by injection e)).elim
       ·cases hh) hk h (by rw[List.length_append,hl1,hu1];simp) (fun i=> ?_) ?_ hK
      ·rw[tZ]
       have e:(args.map a.eval++vs.toArray).getD i undef=if i<l.length then(args.toList.map a.eval).getD i undef else vs.getD (i-l.length) undef:=by
        have:args.map a.eval++vs.toArray=(args.toList.map a.eval++vs).toArray:=by
         rw[←Array.toList_map];apply Array.ext';simp
        rw[this];have:∀(xs:List Value) i,xs.toArray.getD i undef=xs.getD i undef:=by intro xs i;simp
        rw[this,List.getD_eq_getElem?_getD,List.getElem?_append];simp only[List.length_map,hl1];split<;>simp[List.getD_eq_getElem?_getD]
       rw[e];split
       ·exact hl2 i
       ·exact hu2 _
      ·intro q hq
       unfold execOp;simp only[ho];simp[resolve,hX,Deferred.ofValue,invoke,hq]
     ·cases hk
    ·cases hk
   ·split at hk
    ·rename_i x t hl hts
     obtain⟨X,rfl,hX⟩:=uC hr hl;obtain rfl:=pY hts;exact Ac hc.tt ho hk h hX hK
    ·cases hk
   ·split at hk
    ·rename_i s x t t2 hl hts
     obtain⟨X,Y,rfl,hX,hY⟩:=yR hr hl;obtain rfl:=nA hts;split at hk
     ·cases hk
     ·exact xV hc.tt ho (hgf (b:=true) rfl) hk h hX hY hK
    ·cases hk
   ·split at hk
    ·rename_i x t hl hts
     obtain⟨X,rfl,hX⟩:=uC hr hl;obtain rfl:=pY hts;exact yz hc.tt ho hk h hX hK
    ·cases hk
   ·split at hk
    ·rename_i s x t t2 hl hts
     obtain⟨X,Y,rfl,hX,hY⟩:=qw hr hl;obtain rfl:=nA hts;split at hk
     ·cases hk
     ·exact yI hc.tt ho (hgf (b:=true) rfl) hk h hX hY hK
    ·cases hk
   ·split at hk
    ·rename_i ka x kb y hl
     obtain⟨X,Y,rfl,hX,hY⟩:=qw hr hl;exact vU true ho hk h hX hY hK
    ·cases hk
   ·split at hk
    ·rename_i ka x kb y hl
     obtain⟨X,Y,rfl,hX,hY⟩:=qw hr hl;exact vU false ho hk h hX hY hK
    ·cases hk
   ·cases hk
 ·
   rename_i t ho;split at hk
   ·cases hk
   ·split at hk
    ·exact Ak ho (hgf (b:=true) rfl) hk h hK
    ·cases hk
 ·
   rename_i t X Y ok ho;split at hk
   ·cases hk
   ·split at hk
    ·rename_i i c hX hY
     exact Ah hc.tt hc.eq hc.mt ho (hgf (b:=true) rfl) hk h (aW hX hr) (aW hY hr) hK
    ·cases hk
 ·
   rename_i t M X Y ho;split at hk
   ·cases hk
   ·split at hk
    ·rename_i i c ky n hM hX hY
     exact Al hc.tt hc.eq hc.mt ho (hgf (b:=true) rfl) hk h (aW hM hr) (aW hX hr) (eB (aW hY hr)) hK
    ·cases hk
 ·cases hk
end
end Go.Am
end
section
namespace Go.Am
def aO(l:List Oper)(a a':Act):Prop:=∀s,(∀o,o∈l→o.dst≠some s)→a'.tmps.getD s undef=a.tmps.getD s undef
theorem aO.refl(l:List Oper)(a:Act):aO l a a:=fun _ _=>rfl
theorem aO.trans{l:List Oper}{a b c:Act}(h:aO l a b)(k:aO l b c):aO l a c:=fun s hs=>(k s hs).trans (h s hs)
theorem aO.sub{l l':List Oper}{a b:Act}(h:aO l a b)(hs:∀o,o∈l→o∈l'):aO l' a b:=fun s k=>h s fun o ho=>k o (hs o ho)
theorem kM{a:Act}{d:Option Nat}{v:Value}{s:Nat}(h:d≠some s):(a.put d v).tmps.getD s undef=a.tmps.getD s undef:=by
 cases d with
 |none=>rfl
 |some d=>
  simp only[Act.put,Array.getD_eq_getD_getElem?];rw[Array.getElem?_setIfInBounds_ne (by intro e;exact h (by rw[e]))]
theorem aO.one{o:Oper}{a:Act}{v:Value}:aO [o] a (a.put o.dst v):=fun s hs=>kM (hs o (List.mem_cons_self ..))
def bM(dec:List (Nat×Bool))(a:Act):Prop:=∀s b,cK dec s=some b→a.tmps.getD s undef= .bool b
theorem wR(l:List (Nat×Bool)):bD none l=l:=by cases l<;>rfl
theorem n_{d s:Nat}{b:Bool}:∀{l:List (Nat×Bool)},cK (bD (some d) l) s=some b→s≠d∧cK l s=some b
 |[],h=>by cases h
 |x::r,h=>by
  simp only[bD] at h;split at h
  ·rename_i hx
   have:=n_ h;refine⟨this.1,?_⟩;have hne:Nat.beq x.1 s=false:=by
    cases e:Nat.beq x.1 s with
    |false=>rfl
    |true=>exact absurd ((Nat.eq_of_beq_eq_true e).symm.trans (Nat.eq_of_beq_eq_true hx)) this.1
   simp only[cK,hne];exact this.2
  ·rename_i hx
   simp only[cK] at h⊢;split at h
   ·rename_i hs
    exact⟨fun e=>by rw[Nat.eq_of_beq_eq_true hs,e] at hx;simp at hx,h⟩
   ·exact n_ h
theorem bM.rm{dec:List (Nat×Bool)}{a a':Act}{o:Oper}(h:bM dec a)(ht:aO [o] a a'):bM (bD o.dst dec) a':=by
 intro s b hl;cases hd:o.dst with
 |none=>
  rw[hd,wR] at hl;rw[ht s (fun o' ho'=>by simp at ho';subst ho';rw[hd];simp)];exact h s b hl
 |some d=>
  rw[hd] at hl;obtain⟨h1,h2⟩:=n_ hl;rw[ht s (fun o' ho'=>by simp at ho';subst ho';rw[hd];simp;exact fun e=>h1 e.symm)];exact h s b h2
theorem rq{s:Nat}{b:Bool}:∀{l:List Oper} {dec:List (Nat×Bool)},cK (fQ l dec) s=some b→(∀o,o∈l→o.dst≠some s)∧cK dec s=some b
 |[],_,h=>⟨fun o ho=>(List.not_mem_nil ho).elim,h⟩
 |o::r,dec,h=>by
  simp only[fQ] at h;cases hd:o.dst with
  |none=>
   rw[hd,wR] at h;obtain⟨h1,h2⟩:=rq (l:=r) h;exact⟨fun o' ho'=>by rcases List.mem_cons.1 ho' with rfl|ho';(rw[hd];simp);exact h1 o' ho',h2⟩
  |some d=>
   rw[hd] at h;obtain⟨h0,h⟩:=n_ h;obtain⟨h1,h2⟩:=rq (l:=r) h;exact⟨fun o' ho'=>by rcases List.mem_cons.1 ho' with rfl|ho';(rw[hd];intro e;exact h0 (by simpa using e.symm));exact h1 o' ho',h2⟩
theorem bM.fQ{dec:List (Nat×Bool)}{a a':Act}{l:List Oper}(h:bM dec a)(ht:aO l a a'):bM (fQ l dec) a':=by
 intro s b hl;obtain⟨h1,h2⟩:=rq hl;rw[ht s h1];exact h s b h2
theorem o7{all:Array Oper}{tm:Array Value}{j s:Nat}{b:Bool}(hd:gm all j=some s)(h:tm.getD s undef= .bool b):yielded all tm j=some b:=by
 unfold yielded;have h1:(all[j]?).bind (·.dst)=some s:=by
  unfold gm at hd;cases e:all[j]? with
  |none=>rw[e] at hd;cases hd
  |some o=>rw[e] at hd;exact hd
 rw[h1];simp only[Option.bind_some];rw[Array.getD_eq_getD_getElem?] at h;cases e:tm[s]? with
 |none=>rw[e] at h;simp[undef] at h
 |some v=>rw[e] at h;simp only[Option.getD_some] at h;subst h;rfl
theorem sP{all:Array Oper}{tm:Array Value}{j s:Nat}(hd:gm all j=some s)(h:tm.getD s undef=undef):yielded all tm j=none:=by
 unfold yielded;have h1:(all[j]?).bind (·.dst)=some s:=by
  unfold gm at hd;cases e:all[j]? with
  |none=>rw[e] at hd;cases hd
  |some o=>rw[e] at hd;exact hd
 rw[h1];simp only[Option.bind_some];rw[Array.getD_eq_getD_getElem?] at h;cases e:tm[s]? with
 |none=>rfl
 |some v=>rw[e] at h;simp only[Option.getD_some] at h;subst h;rfl
theorem xx{s:Nat}:∀{l:List Oper} {g r:List Oper} {p:Oper},oQ s l=some (g,p,r)→l=g++p::r∧∃x y,p.op= .pick (.tmp s) x y
 |[],_,_,_,h=>by cases h
 |o::l,g,r,p,h=>by
  simp only[oQ] at h;split at h
  ·rename_i hp
   cases h;refine⟨rfl,?_⟩;split at hp
   ·rename_i t x y ho
    obtain rfl:=Nat.eq_of_beq_eq_true hp;exact⟨x,y,ho⟩
   ·cases hp
  ·split at h
   ·rename_i g' p' q' h'
    cases h;obtain⟨h1,h2⟩:=xx h';exact⟨by rw[h1];rfl,h2⟩
   ·cases h
theorem uA(n:Nat):∀l,iO.nJ n l=true→n∈l
 |[],h=>by cases h
 |x::r,h=>by
  simp only[iO.nJ] at h;split at h
  ·rename_i e;rw[Nat.eq_of_beq_eq_true e];exact List.mem_cons_self ..
  ·exact List.mem_cons_of_mem _ (uA n r h)
section
variable{P:Program}{C:Ctx}{E0 E:Env}{Q:Exit→Act→World→Prop}{all:Array Oper}
theorem Inv.dead{N:Nat}{st:St}{a:Act}{o:Oper}{v:Value}(h:Inv N E0 E st a):Inv N E0 E (lK o st) (a.put o.dst v):=by
 unfold lK;cases hd:o.dst with
 |none=>exact h
 |some d=>exact⟨h.rep.dead v,h.fr,h.defers,by simp[Act.put,h.size],h.nx⟩
theorem Inv.cu{N:Nat}{st:St}{a:Act}{o:Oper}(h:Inv N E0 E st a):Inv N E0 E (cu o st) (a.put o.dst undef):=by
 unfold Am.cu;cases hd:o.dst with
 |none=>exact h
 |some d=>
  refine⟨⟨fun s=> ?_,h.rep.ob,h.rep.lt,h.rep.dj,h.rep.nd,h.rep.bb,h.rep.zb⟩,h.fr,h.defers,by simp[Act.put,h.size],h.nx⟩;show ak E st.ob st.nx (upd st.sl d (.b_ .nil) s) _;by_cases e:s=d
  ·subst e
   rw[upd_same];have:(a.put (some s) undef).tmps.getD s undef=undef:=by
    simp only[Act.put,Array.getD_eq_getD_getElem?];by_cases hlt:s<a.tmps.size
    ·rw[Array.getElem?_setIfInBounds_self_of_lt hlt];rfl
    ·rw[Array.getElem?_eq_none (by simpa using Nat.le_of_not_lt hlt)];rfl
   rw[this];exact⟨[undef],⟨[],rfl,rfl⟩,rfl⟩
  ·rw[aB _ _ _ _ e,kM (by simpa using fun h=>e h.symm)]
   exact h.rep.sl s
structure Stp(P:Program)(C:Ctx)(Q:Exit→Act→World→Prop)(all:Array Oper)(W:List Oper→Act→World→Prop):Prop where
 take:∀o l a w v,Region.wanted o (yielded all a.tmps)=true→still C o=true→(∀u,(dB o=false∨aA w u)→(execOp a.eval o).run P u= .ok (.value v) u)→W l (a.put o.dst v) w→W (o::l) a w
 qo:∀o l a w,Region.wanted o (yielded all a.tmps)=true→still C o=false→o.wp P a w (fun a' w'=>(fI C o=true→aA w w')∧W l a' w') Q→W (o::l) a w
 skip:∀o l a w,Region.wanted o (yielded all a.tmps)=false→W l (a.put o.dst undef) w→W (o::l) a w
theorem sO{o:Oper}{a:Act}{w:World}{F:Prop}(h:o.wp P a w (fun _ _=>F) (fun _ _ _=>False)):F:=by
 unfold Oper.wp at h;generalize(execOp a.eval o).run P w=q at h;cases q with
 |ok n w'=>
  cases n<;>simp only[Oper.upon] at h<;>first|exact h|exact h.elim|skip
  ·obtain⟨e,w'',fr,hR,_⟩:=h []
   cases e with
   |returned v=>exact hR
   |panicked c=>exact hR.elim
   |outgrown=>obtain⟨_,_,hf⟩:=hR;exact hf.elim
  ·obtain⟨v,w'',hR,_⟩:=h default []
   exact hR
 |halt x w'=>cases x<;>simp only[Oper.upon] at h<;>exact h.elim
variable{W:List Oper→Act→World→Prop}
theorem xq(hW:Stp P C Q all W){s:Nat}{want:Bool}:∀(aF:List Oper) (acc:List Nat) (a:Act) (w:World) (rest:List Oper),iO all s want acc aF=true→a.tmps.getD s undef= .bool (!want)→
 (∀q,q∈acc→q≠s→a.tmps.getD q undef=undef)→
 (∀a',aO aF a a'→a'.tmps.size=a.tmps.size→a'.defers=a.defers→W rest a' w)→W (aF++rest) a w
 |[],acc,a,w,rest,_,_,_,hK=>hK a (aO.refl _ _) rfl rfl
 |o::aF,acc,a,w,rest,h,hs,hacc,hK=>by
  simp only[iO,Bool.and_eq_true,Bool.not_eq_true'] at h;obtain⟨h1,h2,h3⟩:=h;have hds:o.dst≠some s:=by
   intro e;rw[e] at h1;simp[qX] at h1
  have hnw:Region.wanted o (yielded all a.tmps)=false:=by
   split at h2
   ·rename_i j w' hg
    split at h2
    ·rename_i s' hd
     simp only[Bool.or_eq_true,Bool.and_eq_true,Bool.not_eq_true',beq_iff_eq] at h2;unfold Region.wanted;rw[hg];simp only;rcases h2 with⟨e1,e2⟩|⟨e1,e2⟩
     ·obtain rfl:=Nat.eq_of_beq_eq_true e1
      subst e2;rw[o7 hd hs];cases w'<;>rfl
     ·rw[sP hd (hacc _ (uA _ _ e2) (fun e=>by rw[e] at e1;simp at e1))]
      rfl
    ·cases h2
   ·cases h2
  refine hW.skip _ _ _ _ hnw ?_;refine xq hW aF (uu o.dst acc) (a.put o.dst undef) w rest h3 (by rw[kM hds];exact hs) ?_ ?_
  ·intro q hq zG
   by_cases qQ:o.dst=some q
   ·rw[qQ]
    simp only[Act.put,Array.getD_eq_getD_getElem?];by_cases hlt:q<a.tmps.size
    ·rw[Array.getElem?_setIfInBounds_self_of_lt hlt];rfl
    ·rw[Array.getElem?_eq_none (by simpa using Nat.le_of_not_lt hlt)];rfl
   ·rw[kM qQ]
    refine hacc q ?_ zG;cases hd:o.dst with
    |none=>rw[hd] at hq;exact hq
    |some d=>
     rw[hd] at hq;rcases List.mem_cons.1 hq with rfl|hq
     ·exact absurd hd qQ
     ·exact hq
  ·intro a' ht hsz hdf
   refine hK a' ?_ (by rw[hsz];cases o.dst<;>simp[Act.put]) (by rw[hdf];cases o.dst<;>rfl);exact aO.trans (aO.one.sub (fun q hq=>by simp at hq;subst hq;exact List.mem_cons_self ..)) (ht.sub fun q hq=>List.mem_cons_of_mem _ hq)
theorem ql:∀(aF:List Oper) (st:St) (s:Nat),(bK aF st).sl s= .dead∨((bK aF st).sl s=st.sl s∧∀o,o∈aF→o.dst≠some s)
 |[],st,s=> .inr ⟨rfl,fun o ho=>(List.not_mem_nil ho).elim⟩
 |o::aF,st,s=>by
  simp only[bK,lK];cases hd:o.dst with
  |none=>
   simp only;rcases ql aF st s with h|⟨h1,h2⟩
   ·exact .inl h
   ·exact .inr ⟨h1,fun q hq=>by rcases List.mem_cons.1 hq with rfl|hq;(rw[hd];simp);exact h2 q hq⟩
  |some d=>
   simp only;by_cases e:s=d
   ·subst e;exact .inl (upd_same _ _ _)
   ·rw[aB _ _ _ _ e]
    rcases ql aF st s with h|⟨h1,h2⟩
    ·exact .inl h
    ·exact .inr ⟨h1,fun q hq=>by rcases List.mem_cons.1 hq with rfl|hq;(rw[hd];intro k;exact e (by simpa using k.symm));exact h2 q hq⟩
theorem qj:∀(aF:List Oper) (st:St),(bK aF st).ob=st.ob∧(bK aF st).nx=st.nx
 |[],st=>⟨rfl,rfl⟩
 |o::aF,st=>by
  simp only[bK,lK];cases o.dst with
  |none=>exact qj aF st
  |some d=>exact qj aF st
theorem Inv.bK{N:Nat}{st:St}{a a':Act}{aF:List Oper}(h:Inv N E0 E st a)(ht:aO aF a a')(hsz:a'.tmps.size=a.tmps.size)(hdf:a'.defers=a.defers):Inv N E0 E (bK aF st) a':=by
 obtain⟨h1,h2⟩:=qj aF st;refine⟨⟨fun s=> ?_,?_,?_,h.rep.dj,h.rep.nd,h.rep.bb,h.rep.zb⟩,h.fr,by rw[hdf];exact h.defers,by rw[hsz];exact h.size,by rw[h2];exact h.nx⟩
 ·rw[h1,h2]
  rcases ql aF st s with h3|⟨h3,h4⟩
  ·rw[h3];trivial
  ·rw[h3,ht s h4];exact h.rep.sl s
 ·rw[h1,h2];exact h.rep.ob
 ·rw[h1,h2];exact h.rep.lt
theorem wK(hW:Stp P C Q all W){st:St}{a a1:Act}{pk:Oper}{X Y:Operand}{s d:Nat}{b v:Bool}{w1:World}{dec:List (Nat×Bool)}{aF rest:List Oper}(hi:Inv C.N E0 E st a)(hg:aA E.w w1)(ht:aO aF a a1)
 (hsz:a1.tmps.size=a.tmps.size) (hdf:a1.defers=a.defers) (hop:pk.op= .pick (.tmp s) X Y) (hd:pk.dst=some d) (hdN:d<C.N) (hpk:rW all (fQ aF dec) pk=true) (hdec:bM dec a)
 (hs:a1.tmps.getD s undef= .bool b) (hv:(if b then a1.eval X else a1.eval Y)= .bool v)
 (hK:∀a2,aO (aF++[pk]) a a2→Inv C.N E0 {E with w:=w1} {(bK aF st) with sl:=upd (bK aF st).sl d (.ro none ⟨.bool,v⟩)} a2→bM (bD (some d) (fQ aF dec)) a2→W rest a2 w1):
 W (pk::rest) a1 w1:=by
 have uR:=hdec.fQ ht;have hw:Region.wanted pk (yielded all a1.tmps)=true:=by
  unfold Region.wanted;unfold rW at hpk;split at hpk
  ·rename_i hg;rw[hg]
  ·rename_i j w hg
   rw[hg];simp only;split at hpk
   ·rename_i s' hds
    split at hpk
    ·rename_i v' hl
     rw[o7 hds (uR _ _ hl)];simp only[beq_iff_eq] at hpk;subst hpk;simp
    ·cases hpk
   ·cases hpk
 have hinv:Inv C.N E0 {E with w:=w1} (bK aF st) a1:=(hi.grew hg).bK ht hsz hdf;refine hW.take _ _ _ _ (.bool v) hw (by simp[still,hop]) ?_ ?_
 ·intro u _
  unfold execOp;have hc:a1.eval (.tmp s)= .bool b:=hs;simp only[hop,hc];cases b<;>simpa[asBool] using hv
 ·have hput:=hinv.put (d:=d) (c:= .ro none ⟨.bool,v⟩) (v:= .bool v) hdN (gM ..)
  have htp:aO [pk] a1 (a1.put pk.dst (.bool v)):=aO.one;rw[hd] at htp⊢;refine hK _ (aO.trans (ht.sub fun q hq=>List.mem_append.2 (.inl hq)) (htp.sub fun q hq=>List.mem_append.2 (.inr hq))) hput ?_;have:=uR.rm (o:=pk) (a':=a1.put (some d) (.bool v)) htp;rw[hd] at this;exact this
theorem kI(hc:bI P C){R:Type}{o:Oper}{st:St}{k:St→Option R}{r:R}{a:Act}{K:Act→World→Prop}{g pure:Bool}{dec:List (Nat×Bool)}(hdec:bM dec a)(bP:g=true→pure=true)
 (hk:dP C pure dec o st k=some r) (h:Inv C.N E0 E st a)
 (hK:∀st' E' v,k st'=some r→Inv C.N E0 E' st' (a.put o.dst v)→aL P C g o a v E.w E'.w→K (a.put o.dst v) E'.w):o.wp P a E.w K Q:=by
 unfold dP at hk;split at hk
 ·rename_i z hz
  split at hk
  ·rename_i c hc'
   have hp:∃s x y v,o.op= .pick (.tmp s) x y∧cK dec s=some v∧z=(if v then x else y):=by
    unfold wJ at hz;split at hz
    ·rename_i s x y ho
     split at hz
     ·rename_i hl;obtain rfl:=Option.some.inj hz;exact⟨s,_,y,true,ho,hl,rfl⟩
     ·rename_i hl;obtain rfl:=Option.some.inj hz;exact⟨s,x,_,false,ho,hl,rfl⟩
     ·cases hz
    ·cases hz
   obtain⟨s,x,y,v,ho,hl,hzz⟩:=hp;subst hzz;have hs:=hdec s v hl;refine aQ (v:=a.eval (if v then x else y)) hk h (fun u _=> ?_) (aW hc' h.rep) hK;have he:a.eval (.tmp s)= .bool v:=hs;unfold execOp;simp only[ho,he];cases v<;>simp[asBool]
  ·cases hk
 ·exact AA hc bP hk h hK
theorem wO(hc:bI P C)(hW:Stp P C Q all W):∀(n:Nat) (R:Type) (pure:Bool) (dec:List (Nat×Bool)) (l:List Oper) (st:St) (k:St→Option R) (r:R) (E:Env) (a:Act) (rest:List Oper) (g:Bool),
 dD C all R n pure dec l st k=some r→(g=true→pure=true)→Inv C.N E0 E st a→bM dec a→
 (∀st' E' a',k st'=some r→Inv C.N E0 E' st' a'→(g=true→aA E.w E'.w)→aO l a a'→W rest a' E'.w)→W (l++rest) a E.w:=by
 intro n
 induction n with
 |zero=>intro R pure dec l st k r E a rest g hk;cases l<;>cases hk
 |succ n ih=>
  intro R pure dec l st k r E a rest g hk bP hi hdec hK;cases l with
  |nil=>exact hK st E a hk hi (fun _=>aA.refl _) (aO.refl _ _)
  |cons o l=>
   have lS:Region.wanted o (yielded all a.tmps)=true→dP C pure dec o st (fun s1=>dD C all R n pure (bD o.dst dec) l s1 k)=some r→W (o::(l++rest)) a E.w:=by
    intro hw hk;have go:∀st' E' v,dD C all R n pure (bD o.dst dec) l st' k=some r→Inv C.N E0 E' st' (a.put o.dst v)→(g=true→aA E.w E'.w)→W (l++rest) (a.put o.dst v) E'.w:=by
     intro st' E' v hk' hi' hg';refine ih R pure _ l st' k r E' _ rest g hk' bP hi' (hdec.rm aO.one) fun eZ iQ a'' fG fF hg'' ht=> ?_;exact hK eZ iQ a'' fG fF (fun e=>(hg' e).trans (hg'' e)) (aO.trans (aO.one.sub fun q hq=>by simp at hq;subst hq;exact List.mem_cons_self ..) (ht.sub fun q hq=>List.mem_cons_of_mem _ hq))
    cases hs:still C o with
    |true=>
     refine sO (P:=P) (o:=o) (a:=a) (w:=E.w) ?_;refine kI (g:=g) hc hdec bP hk hi fun st' E' v hk' hi' dO=> ?_;obtain⟨e1,e2⟩:=dO.run hs;have:=go st' E' v hk' hi' dO.grew;rw[e1] at this;exact hW.take _ _ _ _ v hw hs e2 this
    |false=>
     refine hW.qo _ _ _ _ hw hs ?_;exact kI (g:=g) hc hdec bP hk hi fun st' E' v hk' hi' dO=>⟨dO.al,go st' E' v hk' hi' dO.grew⟩
   simp only[dD] at hk;show W (o::(l++rest)) a E.w;split at hk
   ·rename_i hg
    exact lS (by simp[Region.wanted,hg]) hk
   ·rename_i j want hg
    split at hk
    ·cases hk
    ·rename_i s hds
     split at hk
     ·rename_i v hl
      have hy:=o7 hds (hdec s v hl);split at hk
      ·rename_i hvw
       simp only[beq_iff_eq] at hvw;subst hvw;exact lS (by simp[Region.wanted,hg,hy]) hk
      ·rename_i hvw
       refine hW.skip _ _ _ _ (by simp only[Region.wanted,hg,hy];cases v<;>cases want<;>first|rfl|(exact absurd rfl hvw)|(simp at hvw)) ?_;refine ih R pure _ l (cu o st) k r E _ rest g hk bP hi.cu (hdec.rm aO.one) fun eZ iQ a'' fG fF hg'' ht=> ?_;exact hK eZ iQ a'' fG fF hg'' (aO.trans (aO.one.sub fun q hq=>by simp at hq;subst hq;exact List.mem_cons_self ..) (ht.sub fun q hq=>List.mem_cons_of_mem _ hq))
     ·split at hk
      ·rename_i b hsl
       split at hk
       ·have hsv:a.tmps.getD s undef= .bool b:=by
         have:=hi.rep.sl s;rw[hsl] at this;exact iE this
        have uQ:bM ((s,b)::dec) a:=by
         intro q b' hl;simp only[cK] at hl;split at hl
         ·rename_i e;cases hl;rw[←Nat.eq_of_beq_eq_true e];exact hsv
         ·exact hdec q b' hl
        cases b with
        |true=>exact ih R pure _ (o::l) st k r E a rest g hk bP hi uQ hK
        |false=>exact ih R pure _ (o::l) st k r E a rest g hk bP hi uQ hK
       split at hk
       ·rename_i aF pk rest' hsp
        obtain⟨hl1,X',Y',hop⟩:=xx hsp;split at hk
        ·rename_i x y hop'
         rw[hop] at hop';cases hop';split at hk
         ·rename_i d hd
          split at hk
          ·rename_i l9
           simp only[Bool.and_eq_true] at l9;obtain⟨hdN,uY,hpk⟩:=l9;have hdN:=Nat.le_of_ble_eq_true hdN;have hsv:a.tmps.getD s undef= .bool b:=by
            have:=hi.rep.sl s;rw[hsl] at this;exact iE this
           have uW:∀q,q∈aF→q.dst≠some s:=by
            have:∀(aF:List Oper) (acc:List Nat),iO all s want acc aF=true→∀q,q∈aF→q.dst≠some s:=by
             intro aF
             induction aF with
             |nil=>intro acc _ q hq;simp at hq
             |cons o' aF ih'=>
              intro acc h q hq;simp only[iO,Bool.and_eq_true,Bool.not_eq_true'] at h;rcases List.mem_cons.1 hq with rfl|hq
              ·intro e;rw[e] at h;simp[qX] at h
              ·exact ih' _ h.2.2 q hq
            exact this aF [] uY
           obtain⟨v,hv,hk⟩:=Option.bind_eq_some_iff.1 hk;rw[show(o::(l++rest))=aF++(pk::(rest'++rest)) by rw[←List.cons_append,hl1];simp];have hmem:∀q,q∈aF++[pk]→q∈o::l:=by rw[hl1];intro q hq;simp only[List.mem_append,List.mem_singleton] at hq;rcases hq with hq|rfl<;>simp[*]
           have fin:∀w1 a2,aA E.w w1→aO (aF++[pk]) a a2→Inv C.N E0 {E with w:=w1} {(bK aF st) with sl:=upd (bK aF st).sl d (.ro none ⟨.bool,v⟩)} a2→
            bM (bD (some d) (fQ aF dec)) a2→W (rest'++rest) a2 w1:=by
            intro w1 a2 hg1 ht2 hi2 hd2;refine ih R pure _ rest' _ k r {E with w:=w1} a2 rest g hk bP hi2 hd2 fun eZ iQ a'' fG fF hg'' ht=> ?_;exact hK eZ iQ a'' fG fF (fun e=>hg1.trans (hg'' e)) (aO.trans (ht2.sub hmem) (ht.sub fun q hq=>by rw[hl1];simp[hq]))
           have out:b= !want→(if b then gp C (bK aF st) X' else gp C (bK aF st) Y')=some v→W (aF++(pk::(rest'++rest))) a E.w:=by
            intro hb hev;refine xq hW aF [] a E.w _ uY (by rw[hsv,hb]) (fun q hq=>by simp at hq) fun a1 ht hsz hdf=> ?_;have hi1:=hi.bK ht hsz hdf;refine wK hW (b:=b) (v:=v) hi (aA.refl _) ht hsz hdf hop hd hdN hpk hdec (by rw[ht s uW];exact hsv) ?_ fun a2 ht2 hi2 hd2=>fin E.w a2 (aA.refl _) ht2 hi2 hd2;cases b with
            |true=>exact lT hev hi1.rep
            |false=>exact lT hev hi1.rep
           have iK:∀z,z=(if b then X' else Y')→dD C all Bool n true ((s,b)::dec) aF st (fun s1=>gp C s1 z)=some v→W (aF++(pk::(rest'++rest))) a E.w:=by
            intro z hz hev;refine ih Bool true _ aF st _ v E a (pk::(rest'++rest)) true hev (fun _=>rfl) hi ?_ ?_
            ·intro q b' hl
             simp only[cK] at hl;split at hl
             ·rename_i e;cases hl;rw[←Nat.eq_of_beq_eq_true e];exact hsv
             ·exact hdec q b' hl
            ·intro st1 E1 a1 zu hi1 hg1 ht1
             refine wK hW (b:=b) (v:=v) hi (hg1 rfl) ht1 (by rw[hi1.size,hi.size]) (by rw[hi1.defers,hi.defers]) hop hd hdN hpk hdec (by rw[ht1 s uW];exact hsv) ?_ fun a2 ht2 hi2 hd2=>fin E1.w a2 (hg1 rfl) ht2 hi2 hd2;have:=lT zu hi1.rep;rw[hz] at this;cases b with
             |true=>exact this
             |false=>exact this
           cases b with
           |true=>
            cases want with
            |true=>exact iK X' rfl hv
            |false=>exact out rfl hv
           |false=>
            cases want with
            |true=>exact out rfl hv
            |false=>exact iK Y' rfl hv
          ·cases hk
         ·cases hk
        ·cases hk
       ·cases hk
      ·rename_i hsl
       have hsv:a.tmps.getD s undef=undef:=by
        have:=hi.rep.sl s;rw[hsl] at this;obtain⟨cs,⟨vs,h1,h2⟩,h3⟩:=this;have h2:vs=[]:=h2;have h3:cs=[_]:=h3;rw[h3,h2] at h1;simpa[undef] using h1
       refine hW.skip _ _ _ _ (by simp only[Region.wanted,hg,sP hds hsv];rfl) ?_;refine ih R pure _ l (cu o st) k r E _ rest g hk bP hi.cu (hdec.rm aO.one) fun eZ iQ a'' fG fF hg'' ht=> ?_;exact hK eZ iQ a'' fG fF hg'' (aO.trans (aO.one.sub fun q hq=>by simp at hq;subst hq;exact List.mem_cons_self ..) (ht.sub fun q hq=>List.mem_cons_of_mem _ hq))
      ·cases hk
theorem BK:Stp P C Q all (wpList P all Q) where
 take:=fun o l a w v hw hs hr h=>by
  unfold wpList;rw[if_pos hw];exact .inl (eF (hr w (.inr (aA.refl _))) h)
 qo:=fun o l a w hw hs h=>by
  unfold wpList;rw[if_pos hw];exact .inl (Oper.wp_mono (fun _ _ h=>h.2) h)
 skip:=fun o l a w hw h=>by
  unfold wpList;rw[if_neg (by rw[hw];simp)];exact h
end
end Go.Am
end
section
namespace Go.Am
section
variable{P:Program}{ops:Array Oper}{Q:Exit→Act→World→Prop}{md:Region.Mode}{T:Nat→Bool}
def gG(P:Program)(md:Region.Mode)(ops:Array Oper)(T:Nat→Bool)(Q:Exit→Act→World→Prop):Nat→Array Bool→Act→World→Prop
 |0,listed,a,w=>Region.ready md ops listed=[]∧Q .normal a w
 |fuel+1,listed,a,w=>
  (Region.ready md ops listed=[]→Q .normal a w)∧
  ∀i∈Region.ready md ops listed,wpOp P ops Q i (fun a' w'=>(T i=true→aA w w')∧gG P md ops T Q fuel (listed.setIfInBounds i true) a' w') a w
theorem oZ:∀(fuel:Nat) (listed:Array Bool) (a:Act) (w:World),gG P md ops T Q fuel listed a w→wpAny P md ops Q fuel listed a w
 |0,_,_,_,h=>h
 |fuel+1,_,_,_,h=>⟨h.1,fun i hi=>wpOp_mono (fun a' w' h'=>oZ fuel _ a' w' h'.2) (h.2 i hi)⟩
theorem kW{i:Nat}{oi:Oper}{v:Value}{ld:Bool}{U:List Nat}(hi:ops[i]?=some oi)(hsel:∀(j:Nat) (o:Oper) cs b,ops[j]?=some o→o.op≠ .select cs b)
 (hQ:∀c a w,Q (.panic c) (a.put oi.dst v) w→Q (.panic c) a w):
 ∀(fuel:Nat) (listed:Array Bool) (a:Act) (w:World),
  (∀j oj,ops[j]?=some oj→j≠i→listed.getD j true=false→(∀e∈oj.after,Region.binds md e=true→e.on≠i∧e.on∉U)→oi.apart ops oj=true∧(ld=true→T j=true))→
  (∀u,u∈U→listed.getD u true=false∧∃ou e,ops[u]?=some ou∧e∈ou.after∧Region.binds md e=true∧(e.on=i∨e.on∈U))→
  i∈Region.ready md ops listed→YieldsIf P ops (fun u=>ld=false∨aA w u) oi v a→
  gG P md ops T Q fuel (listed.setIfInBounds i true) (a.put oi.dst v) w→gG P md ops T Q (fuel+1) listed a w:=by
 intro fuel
 induction fuel with
 |zero=>
  intro listed a w _ _ hr hy H;refine⟨fun h=>(by rw[h] at hr;cases hr),fun j hj=> ?_⟩;by_cases hji:j=i
  ·subst hji;exact hy.wpOp hi (.inr (aA.refl _)) ⟨fun _=>aA.refl _,H⟩
  ·have:=ready_mono hj hji
   rw[H.1] at this;cases this
 |succ fuel ih=>
  intro listed a w hfree hU hr hy H;refine⟨fun h=>(by rw[h] at hr;cases hr),fun j hj=> ?_⟩;by_cases hji:j=i
  ·subst hji;exact hy.wpOp hi (.inr (aA.refl _)) ⟨fun _=>aA.refl _,H⟩
  ·have h1:=H.2 j (ready_mono hj hji)
   obtain⟨hjun,oj,hoj,hall⟩:=mem_ready.1 hj;have u6:∀x,listed.getD x true=false→listed.getD x false=true→False:=fun x h0 h1=>by
    rcases Nat.lt_or_ge x listed.size with h'|h'
    ·simp[h'] at h0 h1;rw[h0] at h1;cases h1
    ·simp[Array.getElem?_eq_none h'] at h1
   have hnot:∀e∈oj.after,Region.binds md e=true→e.on≠i∧e.on∉U:=fun e he hb=>by
    have h1:=hall e he hb;exact⟨fun heq=>u6 i (mem_ready.1 hr).1 (heq▸h1),fun hm=>u6 _ (hU _ hm).1 h1⟩
   have zn:∀u,u∈U→(listed.setIfInBounds j true).getD u true=false∧∃ou e,ops[u]?=some ou∧e∈ou.after∧Region.binds md e=true∧(e.on=i∨e.on∈U):=fun u hu=>by
    obtain⟨u1,ou,e,u2,u3,u4,u5⟩:=hU u hu;refine⟨?_,ou,e,u2,u3,u4,u5⟩;rw[getD_set_ne true (fun zA=> ?_)]
    ·exact u1
    ·subst zA
     rw[hoj] at u2;cases u2;have:=hnot e u3 u4;exact u5.elim this.1 this.2
   obtain⟨hap,hT⟩:=hfree j oj hoj hji hjun hnot;have h2:=wpOp_putIf hoj hap (fun cs b=>hsel i oi cs b hi) (fun cs b=>hsel j oj cs b hoj) hQ hy h1
   have hfree':∀k ok,ops[k]?=some ok→k≠i→(listed.setIfInBounds j true).getD k true=false→
    (∀e∈ok.after,Region.binds md e=true→e.on≠i∧e.on∉U)→oi.apart ops ok=true∧(ld=true→T k=true):=fun k ok hk hki hun hno=>by
    refine hfree k ok hk hki ?_ hno;by_cases hjk:j=k
    ·subst hjk;exact hjun
    ·rw[getD_set_ne true hjk] at hun;exact hun
   refine wpOp_mono (fun a' w' h3=>⟨h3.2.1,ih (listed.setIfInBounds j true) a' w' hfree' zn (ready_mono hr (Ne.symm hji)) ?_ ?_⟩) h2
   ·rcases h3.1 with⟨p1,p2⟩|p
    ·refine .inl ⟨p1,fun u hu=>p2 u ?_⟩
     rcases hu with hu|hu
     ·exact .inl hu
     ·cases ld with
      |false=>exact .inl rfl
      |true=>exact .inr ((h3.2.1 (hT rfl)).trans hu)
    ·exact .inr p
   ·rw[Array.setIfInBounds_comm _ _ hji]
    exact h3.2.2
end
def calm(Q:Exit→Act→World→Prop):Exit→Act→World→Prop
 | .normal,a,w=>Q .normal a w
 |_,_,_=>False
section
variable{P:Program}{C:Ctx}{E0 E:Env}{Q:Exit→Act→World→Prop}{ops:Array Oper}
def dS(C:Ctx)(ops:Array Oper)(j:Nat):Bool:=
 match ops[j]? with
 |some o=>mJ C o
 |none=>true
def yJ(P:Program)(C:Ctx)(Q:Exit→Act→World→Prop)(ops:Array Oper)(l:List Oper)(a:Act)(w:World):Prop:=
 ∀(rest:List Nat) (listed:Array Bool),rest.map (fun i=>ops[i]?)=l.map some→iH C ops listed rest=true→gG P .any ops (dS C ops) (calm Q) l.length listed a w
theorem ji{n:Nat}:∀{l:List Nat},eO n l=true↔n∈l
 |[]=>by simp[eO]
 |x::r=>by
  simp only[eO];split
  ·rename_i e
   simp[Nat.eq_of_beq_eq_true e]
  ·rename_i e
   have:n≠x:=fun h=>by subst h;simp at e
   simp[ji (l:=r),this]
theorem qm{listed:Array Bool}{i:Nat}:∀(l acc:List Nat),(∀u,u∈acc→listed.getD u true=false∧∃ou e,ops[u]?=some ou∧e∈ou.after∧Region.binds .any e=true∧(e.on=i∨e.on∈acc))→
 ∀u,u∈jZ ops listed i l acc→listed.getD u true=false∧∃ou e,ops[u]?=some ou∧e∈ou.after∧Region.binds .any e=true∧(e.on=i∨e.on∈jZ ops listed i l acc)
 |[],acc,h,u,hu=>h u hu
 |j::r,acc,h,u,hu=>by
  simp only[jZ] at hu⊢;split at hu
  ·rename_i hc
   try rw[hc]
   refine qm r (j::acc) (fun v hv=> ?_) u hu;rcases List.mem_cons.1 hv with rfl|hv
   ·rw[Bool.and_eq_true] at hc
    obtain⟨c1,c2⟩:=hc;split at c2
    ·rename_i oj hoj
     obtain⟨e,he,hb⟩:=Array.any_eq_true'.1 c2;rw[Bool.and_eq_true,Bool.or_eq_true] at hb;refine⟨by simpa using c1,oj,e,hoj,he,hb.1,?_⟩;exact hb.2.imp Nat.eq_of_beq_eq_true fun h=>List.mem_cons_of_mem _ (ji.1 h)
    ·cases c2
   ·obtain⟨v1,ov,e,v2,v3,v4,v5⟩:=h v hv
    exact⟨v1,ov,e,v2,v3,v4,v5.imp id (List.mem_cons_of_mem _)⟩
  ·rename_i hc
   try rw[hc]
   exact qm r acc h u hu
theorem iZ{listed:Array Bool}{i:Nat}(u:Nat)(hu:u∈iY ops listed i):listed.getD u true=false∧∃ou e,ops[u]?=some ou∧e∈ou.after∧Region.binds .any e=true∧(e.on=i∨e.on∈iY ops listed i):=
 qm _ [] (fun u hu=>by simp at hu) u hu
theorem lX{listed:Array Bool}{i:Nat}{o:Oper}(hi:ops[i]?=some o)(hf:Region.free .any ops listed i=true)(hl:dB o=true→nY C ops listed i=true):
 ∀j oj,ops[j]?=some oj→j≠i→listed.getD j true=false→(∀e∈oj.after,Region.binds .any e=true→e.on≠i∧e.on∉iY ops listed i)→o.apart ops oj=true∧(dB o=true→dS C ops j=true):=by
 intro j oj hj hne hun hno;refine⟨Region.free_spec hi hf j oj hj hne hun (fun e he hb=>(hno e he hb).1),fun h=> ?_⟩;have h:=hl h;simp only[nY,vG,List.all_eq_true,List.mem_range] at h;have h1:=h j (Array.getElem?_eq_some_iff.1 hj).1;simp only[hj,Bool.or_eq_true,beq_iff_eq,hne,false_or,hun,Bool.false_eq_true] at h1;simp only[dS,hj];rcases h1 with h1|h1
 ·obtain⟨_,ou,e,d2,d3,d4,d5⟩:=iZ j (ji.1 h1)
  rw[hj] at d2;cases d2;have:=hno e d3 d4;exact(d5.elim this.1 this.2).elim
 ·exact h1
theorem rT{o:Oper}{l:List Oper}{i:Nat}{listed:Array Bool}{a:Act}{w:World}(hr:Region.ready .any ops listed=[i])
 (h:wpOp P ops (calm Q) i (fun a' w'=>(dS C ops i=true→aA w w')∧gG P .any ops (dS C ops) (calm Q) l.length (listed.setIfInBounds i true) a' w') a w):
 gG P .any ops (dS C ops) (calm Q) (o::l).length listed a w:=
 by
 simp only[List.length_cons,gG];refine⟨fun e=> ?_,fun j hj=> ?_⟩
 ·rw[hr] at e;cases e
 ·rw[hr] at hj
  obtain rfl:=List.mem_singleton.1 hj;exact h
theorem BJ(hsel:Region.noSelect ops=true):Stp P C (calm Q) ops (yJ P C Q ops) where
 take:=fun o l a w v hw hs hrun h=>by
  intro rest listed hm hok;cases rest with
  |nil=>cases hm
  |cons i rest=>
   simp only[List.map_cons,List.cons.injEq] at hm;obtain⟨hi,hm⟩:=hm;simp only[iH,hi,Bool.and_eq_true] at hok;have hy:YieldsIf P ops (fun u=>dB o=false∨aA w u) o v a:= .inl ⟨hw,hrun⟩;have H:=h rest _ hm hok.2;rcases Bool.or_eq_true_iff.1 hok.1 with h1|h1
   ·simp only[Bool.and_eq_true] at h1
    obtain⟨h1,h2,h3,h4⟩:=h1;refine kW hi (Region.noSelect_spec hsel) (fun c a w hq=>hq) l.length listed a w (lX hi h2 (fun e=>by simpa[e] using h4)) iZ (by simpa using h3) hy H
   ·split at h1
    ·rename_i j hr
     obtain rfl:=Nat.eq_of_beq_eq_true h1;exact rT hr (hy.wpOp hi (.inr (aA.refl _)) ⟨fun _=>aA.refl _,H⟩)
    ·cases h1
 qo:=fun o l a w hw hs h=>by
  intro rest listed hm hok;cases rest with
  |nil=>cases hm
  |cons i rest=>
   simp only[List.map_cons,List.cons.injEq] at hm;obtain⟨hi,hm⟩:=hm;simp only[iH,hi,hs,Bool.false_and,Bool.false_or,Bool.and_eq_true] at hok;obtain⟨h1,h2⟩:=hok;split at h1
   ·rename_i j hr
    obtain rfl:=Nat.eq_of_beq_eq_true h1;refine rT hr ?_;unfold wpOp;simp only[hi,hw,if_true];refine .inl (Oper.wp_mono (fun a' w' h'=>⟨fun e=> ?_,h'.2 rest _ hm h2⟩) h);simp[dS,mJ,hi,hs] at e;exact h'.1 e
   ·cases h1
 skip:=fun o l a w hw h=>by
  intro rest listed hm hok;cases rest with
  |nil=>cases hm
  |cons i rest=>
   simp only[List.map_cons,List.cons.injEq] at hm;obtain⟨hi,hm⟩:=hm;simp only[iH,hi,Bool.and_eq_true] at hok;have hy:YieldsIf P ops (fun u=>dB o=false∨aA w u) o undef a:= .inr ⟨hw,rfl⟩;have H:=h rest _ hm hok.2;rcases Bool.or_eq_true_iff.1 hok.1 with h1|h1
   ·simp only[Bool.and_eq_true] at h1
    obtain⟨h1,h2,h3,h4⟩:=h1;refine kW hi (Region.noSelect_spec hsel) (fun c a w hq=>hq) l.length listed a w (lX hi h2 (fun e=>by simpa[e] using h4)) iZ (by simpa using h3) hy H
   ·split at h1
    ·rename_i j hr
     obtain rfl:=Nat.eq_of_beq_eq_true h1;exact rT hr (hy.wpOp hi (.inr (aA.refl _)) ⟨fun _=>aA.refl _,H⟩)
    ·cases h1
theorem yK(hc:bI P C){R:Type}{st:St}{k:St→Option R}{r:R}{a:Act}{id:Nat}(h:dD C ops R (ops.size+ops.size+1) false [] ops.toList st k=some r)
 (hok:(Region.noSelect ops&&iH C ops (Array.replicate ops.size false) (List.range ops.size))=true) (hi:Inv C.N E0 E st a)
 (hn:∀st' E' a',k st'=some r→Inv C.N E0 E' st' a'→Q .normal a' E'.w):(Code.region id ops true).wp P Q a E.w:=by
 simp only[Bool.and_eq_true] at hok;refine Code.wp_mono (Q:=calm Q) (fun e a w q=>by cases e<;>first|exact q|exact q.elim) ?_;refine wp_region_any hc.mixed (oZ (T:=dS C ops) _ _ _ _ ?_);have hi':=hi.grew (w:={E.w with drawn:=E.w.drawn+1}) ⟨rfl,rfl,rfl,Nat.le_refl _,fun _ _=>rfl⟩
 have:=wO (Q:=calm Q) (all:=ops) (E0:=E0) hc (BJ (Q:=Q) hok.1) (ops.size+ops.size+1) R false [] ops.toList st k r _ a [] false h (by simp) hi' (fun s b hl=>by cases hl)
  (fun st' E' a' hk hi' _ _=>by
   intro rest listed hm hok';cases rest with
   |cons x r=>cases hm
   |nil=>
    refine⟨?_,hn st' E' a' hk hi'⟩;simpa[iH] using hok')
 have:=this (List.range ops.size) (Array.replicate ops.size false) ?_ hok.2
 ·simpa using this
 ·simp only[List.append_nil]
  apply List.ext_getElem?
  intro i;simp only[List.getElem?_map,List.getElem?_range'];by_cases hlt:i<ops.size
  ·simp[hlt]
  ·simp[hlt]
end
end Go.Am
end
section
namespace Go.Am
section
variable{R:Type}{C:Ctx}{o:Oper}
theorem bY(c:Cn)(st:St)(k:St→Option R):az C o c st k=(az C o c st some).bind k:=by
 unfold az;split
 ·rfl
 ·split<;>rfl
theorem dx{b:Bool}{x:Option R}{y:Option St}{k:St→Option R}(h:x=y.bind k):cond b x none=(cond b y none).bind k:=by
 cases b with
 |true=>exact h
 |false=>rfl
theorem cz{α:Type}{m:Option α}{f:α→Option R}{g:α→Option St}{k:St→Option R}(h:∀x,f x=(g x).bind k):m.bind f=(m.bind g).bind k:=by
 cases m with
 |none=>rfl
 |some x=>exact h x
theorem yc(op:BinOp)(t:TypeId)(x y:Cn)(st:St)(k:St→Option R):jQ C o op t x y st k=(jQ C o op t x y st some).bind k:=by
 unfold jQ;repeat' (first|rfl|exact bY _ _ _|(refine dx ?_)|(refine cz fun _=> ?_)|split)
theorem yN(op:BinOp)(t:TypeId)(x y:DV)(st:St)(k:St→Option R):j3 C o op t x y st k=(j3 C o op t x y st some).bind k:=by
 unfold j3;repeat' (first|rfl|exact bY _ _ _|(refine dx ?_)|(refine cz fun _=> ?_)|split)
theorem BX(op:UnOp)(x:Cn)(st:St)(k:St→Option R):kV C o op x st k=(kV C o op x st some).bind k:=by
 unfold kV;repeat' (first|rfl|exact bY _ _ _|(refine dx ?_)|(refine cz fun _=> ?_)|split)
theorem BG(ty:TypeId)(i:Nat)(ix:Int)(path:List Nat)(c:Cn)(st:St)(k:St→Option R):storeT C.tt ty st i ix path c k=(storeT C.tt ty st i ix path c some).bind k:=by
 unfold storeT;repeat' (first|rfl|(refine dx ?_)|(refine cz fun _=> ?_)|split)
theorem yA(d:Option Nat)(i:Nat)(st:St)(k:St→Option R):iW d i st k=(iW d i st some).bind k:=by
 unfold iW;repeat' (first|rfl|(refine cz fun _=> ?_)|split)
theorem BB(ty:TypeId)(a c:Cn)(st:St)(k:St→Option R):iP C.tt ty st a c k=(iP C.tt ty st a c some).bind k:=by
 unfold iP;repeat' (first|rfl|exact BG _ _ _ _ _ _ _|exact bY _ _ _|(refine dx ?_)|(refine cz fun _=> ?_)|split)
theorem zR(ty:TypeId)(a c:Cn)(st:St)(k:St→Option R):ko C o ty a c st k=(ko C o ty a c st some).bind k:=by
 unfold ko;repeat' (first|rfl|exact bY _ _ _|(refine dx ?_)|(refine cz fun _=> ?_)|split)
theorem zT(ty:TypeId)(a c:Cn)(st:St)(k:St→Option R):ku C o ty a c st k=(ku C o ty a c st some).bind k:=by
 unfold ku;repeat' (first|rfl|exact bY _ _ _|(refine dx ?_)|(refine cz fun _=> ?_)|split)
theorem Bu(ty:TypeId)(a:Cn)(l h:Option Int)(st:St)(k:St→Option R):kP C o ty a l h st k=(kP C o ty a l h st some).bind k:=by
 unfold kP;repeat' (first|rfl|exact bY _ _ _|(refine dx ?_)|(refine cz fun _=> ?_)|split)
theorem Ab(ty:TypeId)(a:Cn)(st:St)(k:St→Option R):kE C o ty a st k=(kE C o ty a st some).bind k:=by
 unfold kE;repeat' (first|rfl|exact bY _ _ _|(refine dx ?_)|(refine cz fun _=> ?_)|split)
theorem yx(t:TypeId)(a:Cn)(st:St)(k:St→Option R):jS C o t a st k=(jS C o t a st some).bind k:=by
 unfold jS;repeat' (first|rfl|exact bY _ _ _|split)
theorem xS(p:Bool)(t t2:TypeId)(a c:Cn)(st:St)(k:St→Option R):iU C p o t t2 a c st k=(iU C p o t t2 a c st some).bind k:=by
 unfold iU;repeat' (first|rfl|exact bY _ _ _|(refine dx ?_)|(refine cz fun _=> ?_)|split)
theorem xW(t t2:TypeId)(a c:Cn)(st:St)(k:St→Option R):jO C o t t2 a c st k=(jO C o t t2 a c st some).bind k:=by
 unfold jO;repeat' (first|rfl|exact bY _ _ _|(refine dx ?_)|(refine cz fun _=> ?_)|split)
theorem xU(p:Bool)(t t2:TypeId)(a c:Cn)(st:St)(k:St→Option R):jN C p o t t2 a c st k=(jN C p o t t2 a c st some).bind k:=by
 unfold jN;repeat' (first|rfl|exact xS _ _ _ _ _ _ _|exact xW _ _ _ _ _ _|split)
theorem yH(t t2:TypeId)(a c:Cn)(st:St)(k:St→Option R):jX C o t t2 a c st k=(jX C o t t2 a c st some).bind k:=by
 unfold jX;repeat' (first|rfl|exact bY _ _ _|(refine dx ?_)|(refine cz fun _=> ?_)|split)
theorem Aj(t:TypeId)(n:Int)(st:St)(k:St→Option R):jr C o t n st k=(jr C o t n st some).bind k:=by
 unfold jr;repeat' (first|rfl|exact bY _ _ _|(refine dx ?_)|(refine cz fun _=> ?_)|split)
theorem yl(p:Bool)(t:TypeId)(n:Nat)(ps:List (Nat×Operand))(st:St)(k:St→Option R):jR C p o t n ps st k=(jR C p o t n ps st some).bind k:=by
 unfold jR;repeat' (first|rfl|exact bY _ _ _|(refine dx ?_)|(refine cz fun _=> ?_)|split)
theorem uh(p:Bool)(args:List Cn)(st:St)(k:St→Option R):∀l:List dm,gQ C p o args st k l=(gQ C p o args st some l).bind k
 |[]=>rfl
 |c::l=>by
  have ih:=uh p args st k l;simp only[gQ];split
  ·split
   ·rfl
   ·split
    ·exact ih
    ·split
     ·rfl
     ·refine cz fun y=> ?_
      rw[bY,bY _ _ (fun st2=>iW _ _ st2 some),Option.bind_assoc]
      congr 1
      funext st2;exact yA _ _ _ _
  ·split
   ·exact ih
   ·repeat' (first|rfl|exact bY _ _ _|(refine dx ?_)|(refine cz fun _=> ?_)|split)
theorem yF(ts td:TypeId)(c:Cn)(st:St)(k:St→Option R):jW C o ts td c st k=(jW C o ts td c st some).bind k:=by
 unfold jW;repeat' (first|rfl|exact bY _ _ _|(refine dx ?_)|(refine cz fun _=> ?_)|split)
theorem Aq{st:St}{t:TypeId}{i:Nat}{c:Cn}{f:(u:Ty)→IntKind→List (u.Den×Int)→u.Den→Option R}{g:(u:Ty)→IntKind→List (u.Den×Int)→u.Den→Option St}{k:St→Option R}
 (h:∀u kk l x,f u kk l x=(g u kk l x).bind k):gY C st t i c f=(gY C st t i c g).bind k:=by
 unfold gY;repeat' (first|rfl|exact h _ _ _ _|split)
theorem Az(p:Bool)(st:St)(k:St→Option R):kJ C p o st k=(kJ C p o st some).bind k:=by
 unfold kJ
 repeat' (first|rfl|(first|exact bY _ _ _|exact yc _ _ _ _ _ _|exact BX _ _ _ _|exact BB _ _ _ _ _|exact zR _ _ _ _ _|exact zT _ _ _ _ _)|(first|exact yN _ _ _ _ _ _|exact Bu _ _ _ _ _ _|exact Ab _ _ _ _|exact yx _ _ _ _|exact xU _ _ _ _ _ _ _|exact Aj _ _ _ _|exact yH _ _ _ _ _ _|exact yl _ _ _ _ _ _|exact uh _ _ _ _ _|exact yF _ _ _ _ _)|(refine dx ?_)|(refine cz fun _=> ?_)|(refine Aq fun u kk l x=> ?_)|split)
end
end Go.Am
end
section
namespace Go.Am
section
variable{P:Program}{C:Ctx}{E0 E:Env}{Q:Exit→Act→World→Prop}{ops:Array Oper}{R:Type}
theorem oq{i:Nat}{r:List Nat}:∀{l:List (List Nat)},r∈dF i l→(i::r)∈l
 |[],h=>by simp[dF] at h
 |[]::rest,h=>List.mem_cons_of_mem _ (oq (l:=rest) (by simpa[dF] using h))
 |(j::q)::rest,h=>by
  simp only[dF] at h;split at h
  ·rename_i e
   obtain rfl:=Nat.eq_of_beq_eq_true e;rcases List.mem_cons.1 h with rfl|h
   ·exact List.mem_cons_self ..
   ·exact List.mem_cons_of_mem _ (oq h)
  ·exact List.mem_cons_of_mem _ (oq h)
theorem y9{n:Nat}{listed:Array Bool}(h:eH C ops n listed []=true):False:=by
 cases n with
 |zero=>simp[eH] at h
 |succ n=>
  simp only[eH] at h;split at h
  ·simp at h
  ·cases h
theorem Ay{dec:List (Nat×Bool)}{o:Oper}{p:Bool}{st:St}{k:St→Option R}:dP C p dec o st k=(dP C p dec o st some).bind k:=by
 unfold dP;split
 ·split
  ·exact bY _ _ _
  ·rfl
 ·exact Az _ _ _
def jY(ops:Array Oper)(dec:List (Nat×Bool))(o:Oper)(st:St):List (Nat×Bool):=
 match o.guard with
 |none=>dec
 |some (j,_)=>match gm ops j with
  |none=>dec
  |some s=>match cK dec s with
   |some _=>dec
   |none=>match st.sl s with
    | .ro none ⟨.bool,b⟩=>(s,b)::dec
    |_=>dec
theorem bM.cons{dec:List (Nat×Bool)}{a:Act}{s:Nat}{b:Bool}(h:bM dec a)(hs:a.tmps.getD s undef= .bool b):bM ((s,b)::dec) a:=by
 intro s' b' hl;simp only[cK] at hl;split at hl
 ·rename_i e
  obtain rfl:=Nat.eq_of_beq_eq_true e;obtain rfl:=Option.some.inj hl;exact hs
 ·exact h s' b' hl
theorem mU{dec:List (Nat×Bool)}{o:Oper}{st:St}{a:Act}{K:List (Nat×Bool)→St→Option R}{r:R}(h:kS C ops dec o st K=some r)(hi:Inv C.N E0 E st a)(hdec:bM dec a):
 bM (jY ops dec o st) a∧((Region.wanted o (yielded ops a.tmps)=true∧∃st',dP C false (jY ops dec o st) o st some=some st'∧K (bD o.dst (jY ops dec o st)) st'=some r)∨
  (Region.wanted o (yielded ops a.tmps)=false∧K (bD o.dst (jY ops dec o st)) (cu o st)=some r)):=by
 have lS:∀d,dP C false d o st (K (bD o.dst d))=some r→∃st',dP C false d o st some=some st'∧K (bD o.dst d) st'=some r:=by
  intro d hd;rw[Ay] at hd;exact Option.bind_eq_some_iff.1 hd
 have guarded:∀(d:List (Nat×Bool)) (v want:Bool) (j s:Nat),o.guard=some (j,want)→gm ops j=some s→a.tmps.getD s undef= .bool v→stepG C d v want o st K=some r→
  ((Region.wanted o (yielded ops a.tmps)=true∧∃st',dP C false d o st some=some st'∧K (bD o.dst d) st'=some r)∨(Region.wanted o (yielded ops a.tmps)=false∧K (bD o.dst d) (cu o st)=some r)):=by
  intro d v want j s hg hds hs hk;have hy:=o7 hds hs;unfold stepG at hk;split at hk
  ·rename_i hvw
   simp only[beq_iff_eq] at hvw;subst hvw;exact .inl ⟨by simp[Region.wanted,hg,hy],lS _ hk⟩
  ·rename_i hvw
   refine .inr ⟨?_,hk⟩;simp only[Region.wanted,hg,hy];cases v<;>cases want<;>first|rfl|(exact absurd rfl hvw)|(simp at hvw)
 unfold kS at h;unfold jY;split at h
 ·rename_i hg
  rw[hg];exact⟨hdec,.inl ⟨by simp[Region.wanted,hg],lS _ h⟩⟩
 ·rename_i j want hg
  rw[hg];simp only;split at h
  ·cases h
  ·rename_i s hds
   rw[hds];simp only;split at h
   ·rename_i v hl
    rw[hl];exact⟨hdec,guarded _ _ _ _ _ hg hds (hdec s v hl) h⟩
   ·rename_i hl
    rw[hl];simp only;split at h
    ·rename_i b hsl
     have hsv:a.tmps.getD s undef= .bool b:=by
      have:=hi.rep.sl s;rw[hsl] at this;exact iE this
     rw[hsl];simp only;cases b with
     |true=>exact⟨hdec.cons hsv,guarded _ _ _ _ _ hg hds hsv h⟩
     |false=>exact⟨hdec.cons hsv,guarded _ _ _ _ _ hg hds hsv h⟩
    ·rename_i hsl
     have hsv:a.tmps.getD s undef=undef:=by
      have:=hi.rep.sl s;rw[hsl] at this;obtain⟨cs,⟨vs,h1,h2⟩,h3⟩:=this;have h2:vs=[]:=h2;have h3:cs=[_]:=h3;rw[h3,h2] at h1;simpa[undef] using h1
     rw[hsl];simp only;exact⟨hdec,.inr ⟨by simp only[Region.wanted,hg,sP hds hsv];rfl,h⟩⟩
    ·cases h
theorem uU{i:Nat}{orders:List (List Nat)}{dec:List (Nat×Bool)}{st:St}{a:Act}{k:St→Option R}{r:R}(h:∀ord,ord∈orders→gD C ops ord dec st k=some r)(hne:dF i orders≠[])(hi:Inv C.N E0 E st a)(hdec:bM dec a):
 ∃o dec',ops[i]?=some o∧bM dec' a∧((Region.wanted o (yielded ops a.tmps)=true∧∃st',dP C false dec' o st some=some st'∧∀ord,ord∈dF i orders→gD C ops ord (bD o.dst dec') st' k=some r)∨
  (Region.wanted o (yielded ops a.tmps)=false∧∀ord,ord∈dF i orders→gD C ops ord (bD o.dst dec') (cu o st) k=some r)):=by
 have key:∀ord,ord∈dF i orders→∃o,ops[i]?=some o∧kS C ops dec o st (fun dec' st'=>gD C ops ord dec' st' k)=some r:=by
  intro ord ho;have h1:=h _ (oq ho);simp only[gD] at h1;split at h1
  ·rename_i o hi
   exact⟨o,hi,h1⟩
  ·cases h1
 obtain⟨x,l,hx⟩:=List.exists_cons_of_ne_nil hne;obtain⟨o,ho,hs⟩:=key x (by rw[hx];exact List.mem_cons_self ..);obtain⟨q1,q2⟩:=mU hs hi hdec;refine⟨o,jY ops dec o st,ho,q1,?_⟩;have all:∀ord,ord∈dF i orders→kS C ops dec o st (fun dec' st'=>gD C ops ord dec' st' k)=some r:=by
  intro ord mg;obtain⟨o',ho',hs'⟩:=key ord mg;rw[ho] at ho';cases ho';exact hs'
 rcases q2 with⟨hw,st',e1,_⟩|⟨hw,_⟩
 ·refine .inl ⟨hw,st',e1,fun ord mg=> ?_⟩
  rcases(mU (all ord mg) hi hdec).2 with⟨_,eZ,uy,e2'⟩|⟨hw',_⟩
  ·rw[e1] at uy
   cases uy;exact e2'
  ·rw[hw] at hw';cases hw'
 ·refine .inr ⟨hw,fun ord mg=> ?_⟩
  rcases(mU (all ord mg) hi hdec).2 with⟨hw',_⟩|⟨_,e2'⟩
  ·rw[hw] at hw';cases hw'
  ·exact e2'
theorem y_(hc:bI P C)(hsel:Region.noSelect ops=true){k:St→Option R}{r:R}(hn:∀st' E' a',k st'=some r→Inv C.N E0 E' st' a'→Q .normal a' E'.w):
 ∀(n:Nat) (listed:Array Bool) (orders:List (List Nat)) (dec:List (Nat×Bool)) (st:St) (E:Env) (a:Act),eH C ops n listed orders=true→(∀ord,ord∈orders→gD C ops ord dec st k=some r)→Inv C.N E0 E st a→bM dec a→
 gG P .any ops (dS C ops) (calm Q) n listed a E.w:=by
 have fin:∀(orders:List (List Nat)) (dec:List (Nat×Bool)) (st:St) (E:Env) (a:Act),orders.any (·.isEmpty)=true→(∀ord,ord∈orders→gD C ops ord dec st k=some r)→Inv C.N E0 E st a→calm Q .normal a E.w:=by
  intro orders dec st E a h hall hi;obtain⟨ord,ho,he⟩:=List.any_eq_true.1 h;have:ord=[]:=by simpa using he
  subst this;exact hn st E a (hall [] ho) hi
 intro n
 induction n with
 |zero=>
  intro listed orders dec st E a hok hall hi hdec;simp only[eH,Bool.and_eq_true] at hok;exact⟨by simpa using hok.1,fin orders dec st E a hok.2 hall hi⟩
 |succ n ih=>
  intro listed orders dec st E a hok hall hi hdec;simp only[eH] at hok;split at hok
  ·rename_i hr
   exact⟨fun _=>fin orders dec st E a hok hall hi,fun j hj=>by rw[hr] at hj;cases hj⟩
  ·rename_i rs hr
   split at hok
   ·rename_i i t rest
    split at hok
    ·rename_i htk
     have hne:dF i ((i::t)::rest)≠[]:=by simp[dF]
     obtain⟨o,dec',ho,hd',hcase⟩:=uU hall hne hi hdec;simp only[oU,ho,Bool.and_eq_true] at htk;obtain⟨h1,h2,h3,h4⟩:=htk;rcases hcase with⟨hw,st',hop,htl⟩|⟨hw,htl⟩
     ·refine sO (P:=P) (o:=o) (a:=a) (w:=E.w) ?_
      refine kI (g:=false) hc hd' (by simp) hop hi fun eZ E' v hk' hi' dO=> ?_;cases hk';obtain⟨e1,e2⟩:=dO.run h1;have H:=ih _ _ _ st' E' _ hok htl hi' (hd'.rm aO.one);rw[e1] at H;exact kW ho (Region.noSelect_spec hsel) (fun c a w hq=>hq) n listed a E.w (lX ho h2 (fun e=>by simpa[e] using h4)) iZ (by simpa using h3) (.inl ⟨hw,e2⟩) H
     ·have H:=ih _ _ _ (cu o st) E _ hok htl hi.cu (hd'.rm aO.one)
      have hy:YieldsIf P ops (fun u=>dB o=false∨aA E.w u) o undef a:= .inr ⟨hw,rfl⟩;exact kW ho (Region.noSelect_spec hsel) (fun c a w hq=>hq) n listed a E.w (lX ho h2 (fun e=>by simpa[e] using h4)) iZ (by simpa using h3) hy H
    ·refine⟨fun e=>absurd e hr,fun j hj=> ?_⟩
     have nV:=List.all_eq_true.1 hok j hj;have hne:dF j ((i::t)::rest)≠[]:=fun e=>by rw[e] at nV;exact y9 nV
     obtain⟨o,dec',ho,hd',hcase⟩:=uU hall hne hi hdec;rcases hcase with⟨hw,st',hop,htl⟩|⟨hw,htl⟩
     ·unfold wpOp
      simp only[ho,hw,if_true];refine .inl (kI (g:=false) hc hd' (by simp) hop hi fun eZ E' v hk' hi' dO=> ?_);cases hk';refine⟨fun e=> ?_,ih _ _ _ st' E' _ nV htl hi' (hd'.rm aO.one)⟩;simp only[dS,ho,mJ,Bool.or_eq_true] at e;rcases e with e|e
      ·rw[(dO.run e).1];exact aA.refl _
      ·exact dO.al e
     ·have H:=ih _ _ _ (cu o st) E _ nV htl hi.cu (hd'.rm aO.one)
      have hy:YieldsIf P ops (fun u=>dB o=false∨aA E.w u) o undef a:= .inr ⟨hw,rfl⟩;exact hy.wpOp ho (.inr (aA.refl _)) ⟨fun _=>aA.refl _,H⟩
   ·cases hok
end
end Go.Am
end
section
namespace Go.Am
def iM(C:Ctx)(st:St)(o:Oper):Option Cn:=
 match o.op with
 | .buildSlice t len ps=>match C.tt t with
   |some (.list e u)=>match Nat.ble (len*u.size) 16777216 with
    |true=>match gT C st ps.toList with
     |some l=>match jC l with
      |some ds=>match fJ u 0 ds with
       |some xs=>match Nat.beq xs.length len with
        |true=>some (.ro none ⟨.list e u,xs⟩)
        |false=>none
       |none=>none
      |none=>none
     |none=>none
    |false=>none
   |_=>none
 |_=>none
def qE(st:St)(s:Nat):St:=
 match st.sl s with
 | .h j=>match st.ob j with
   | .sl fz v e t xs=>match fz with
     | .own=>{(st.set j (.sl .aV v e t xs)) with sl:=upd st.sl s (.ro none ⟨.list e t,xs⟩)}
     |_=>st
   |_=>st
 |_=>st
def nP(st:St):List (Nat×Operand)→St
 |[]=>st
 |x::r=>nP (match x.2 with
  | .tmp s=>qE st s
  |_=>st) r
def preO(C:Ctx)(o:Oper)(st:St):St:=
 match o.op with
 | .buildSlice t len ps=>match gT C st ps.toList with
   |some l=>match kT st l with
    |some _=>st
    |none=>nP st ps.toList
   |none=>st
 |_=>st
def vJ(C:Ctx)(o:Oper):Bool:=
 match o.guard with
 |none=>match o.dst with
  |some d=>Nat.blt d C.N&&((match o.op with
   | .buildSlice _ _ _=>true
   |_=>false)&&o.op.operands.toList.all fun x=>match x with
    | .tmp t=> !Nat.beq t d
    |_=>true)
  |none=>false
 |some _=>false
def dX(C:Ctx)(ops:Array Oper)(V:Array Bool)(i:Nat):Bool:=
 match ops[i]? with
 |some o=>vJ C o&&((Region.ready .any ops V).contains i&&Region.free .any ops V i)
 |none=>false
def iq(V:Array Bool):List Nat→Array Bool
 |[]=>V
 |i::r=>iq (V.setIfInBounds i true) r
def g_(i:Nat):List Nat→List Nat
 |[]=>[]
 |x::r=>match Nat.beq x i with
  |true=>g_ i r
  |false=>x::g_ i r
def oI(C:Ctx)(ops:Array Oper)(dec:List (Nat×Bool))(st:St)(j:Nat):Bool:=
 match ops[j]? with
 |some o=>match o.dst with
  |some d=>match st.sl d with
   | .dead=>match cK dec d with
     |none=>match iM C st o with
      |some _=>true
      |none=>false
     |some _=>false
   |_=>false
  |none=>false
 |none=>false
def oH(C:Ctx)(ops:Array Oper)(dec:List (Nat×Bool))(st:St):List Nat→Bool
 |[]=>true
 |j::r=>match oI C ops dec st j with
  |true=>oH C ops dec st r
  |false=>false
def ig(C:Ctx){R:Type}(ops:Array Oper):List (Nat×List Nat)→List (Nat×Bool)→St→(St→Option R)→Option R
 |[],_,st,k=>k st
 |x::r,dec,st,k=>match oH C ops dec st x.2 with
  |true=>match ops[x.1]? with
   |some o=>match eO x.1 x.2 with
    |true=>match iM C st o with
     |some c=>match o.dst with
      |some d=>ig C ops r dec {st with sl:=upd st.sl d c} k
      |none=>none
     |none=>none
    |false=>kS C ops dec o (preO C o st) fun dec' st'=>ig C ops r dec' st' k
   |none=>none
  |false=>none
def gX(C:Ctx)(ops:Array Oper)(lits:List Nat):Array Bool→List (Nat×List Nat)→Bool
 |V,[]=>V.all id
 |V,x::r=>Nat.blt x.1 ops.size&&(!V.getD x.1 true&&((lits.all fun j=> !dX C ops V j||eO j x.2)&&(x.2.all (fun j=>lits.contains j&&dX C ops V j)&&
  (((!eO x.1 x.2&&oU C ops V x.1)||((Region.ready .any ops V).contains x.1&&(Region.ready .any ops (iq V (g_ x.1 x.2))).all fun j=>Nat.beq j x.1))&&
  gX C ops lits (V.setIfInBounds x.1 true) r))))
section
variable{P:Program}{C:Ctx}{E0 E:Env}{Q:Exit→Act→World→Prop}{ops:Array Oper}{R:Type}
theorem om{i n:Nat}:∀{l:List Nat},n∈g_ i l↔n∈l∧n≠i
 |[]=>by simp[g_]
 |x::r=>by
  simp only[g_];split
  ·rename_i e
   have e:=Nat.eq_of_beq_eq_true e;subst e;rw[om (l:=r)];constructor
   ·rintro⟨h1,h2⟩;exact⟨List.mem_cons_of_mem _ h1,h2⟩
   ·rintro⟨h1,h2⟩
    rcases List.mem_cons.1 h1 with h1|h1
    ·exact absurd h1 h2
    ·exact⟨h1,h2⟩
  ·rename_i e
   have hne:x≠i:=fun h=>by subst h;simp at e
   rw[List.mem_cons,om (l:=r),List.mem_cons];constructor
   ·rintro(rfl|⟨h1,h2⟩)
    ·exact⟨.inl rfl,hne⟩
    ·exact⟨.inr h1,h2⟩
   ·rintro⟨rfl|h1,h2⟩
    ·exact .inl rfl
    ·exact .inr ⟨h1,h2⟩
theorem wZ:∀(l:List Nat) (V:Array Bool),(iq V l).size=V.size
 |[],V=>rfl
 |x::r,V=>by simp[iq,wZ r]
theorem sD:∀(l:List Nat) (V:Array Bool) (i:Nat),(iq V l).getD i false=true↔(V.getD i false=true∨(i∈l∧i<V.size))
 |[],V,i=>by simp[iq]
 |x::r,V,i=>by
  simp only[iq,sD r,List.mem_cons];by_cases e:x=i
  ·subst e
   by_cases hx:x<V.size
   ·simp[Array.getD_eq_getD_getElem?,hx]
   ·have:V.setIfInBounds x true=V:=by simp[Array.setIfInBounds,hx]
    rw[this];simp[hx]
  ·have:(V.setIfInBounds x true).getD i false=V.getD i false:=by
    simp only[Array.getD_eq_getD_getElem?];rw[Array.getElem?_setIfInBounds_ne e]
   rw[this];have:¬i=x:=fun h=>e h.symm;simp[this]
theorem Inv.base{N:Nat}{st:St}{a:Act}(h:Inv N E0 E st a):Inv N E E st a:=⟨h.rep,Fr.refl E,h.defers,h.size,h.nx⟩
theorem Inv.wN{N:Nat}{E1 E2:Env}{st:St}{a:Act}(h:Inv N E1 E2 st a)(hf:Fr E0 E1):Inv N E0 E2 st a:=⟨h.rep,hf.trans h.fr,h.defers,h.size,h.nx⟩
def LF(C:Ctx)(E:Env)(a:Act)(o:Oper):Prop:=
 ∀(E':Env) (st:St) (a':Act) (d:Nat) (c:Cn),o.dst=some d→Fr E E'→aR E' st a'.tmps→(∀x,x∈o.op.operands→a'.eval x=a.eval x)→
  a'.tmps.getD d undef=a.tmps.getD d undef→iM C st o=some c→ak E' st.ob st.nx c (a'.tmps.getD d undef)
theorem LF.mono{a a':Act}{E':Env}{o:Oper}(h:LF C E a o)(hf:Fr E E')(he:∀x,x∈o.op.operands→a'.eval x=a.eval x)
 (hd:∀d,o.dst=some d→a'.tmps.getD d undef=a.tmps.getD d undef):LF C E' a' o:=
 fun E2 st a2 d c h1 h2 h3 h4 h5 h6=>h E2 st a2 d c h1 (hf.trans h2) h3 (fun x hx=>(h4 x hx).trans (he x hx)) (h5.trans (hd d h1)) h6
theorem Af{a:Act}{o:Oper}{st:St}{d:Nat}{c:Cn}(hl:LF C E a o)(hd:o.dst=some d)(hc:iM C st o=some c)(h:Inv C.N E0 E st a):
 Inv C.N E0 E {st with sl:=upd st.sl d c} a:=by
 have hv:=hl E st a d c hd (Fr.refl E) h.rep (fun _ _=>rfl) rfl hc;refine⟨⟨fun s=> ?_,h.rep.ob,h.rep.lt,h.rep.dj,h.rep.nd,h.rep.bb,h.rep.zb⟩,h.fr,h.defers,h.size,h.nx⟩;show ak E st.ob st.nx (upd st.sl d c s) _;by_cases e:s=d
 ·subst e;rw[upd_same];exact hv
 ·rw[aB _ _ _ _ e];exact h.rep.sl s
theorem Inv.frozen{N:Nat}{st:St}{a:Act}(h:Inv N E0 E st a)(ob:Obj):
 Inv N E0 ⟨E.w.alloc ob,fun b=>E.Z b∨b=E.w.heap.size,E.af,E.B⟩ st a:=by
 have ev:Ev E st.ob st.nx ⟨E.w.alloc ob,fun b=>E.Z b∨b=E.w.heap.size,E.af,E.B⟩ st.ob st.nx:=by
  refine⟨Nat.le_refl _,fun _ _=>rfl,fun b hb=> .inl hb,fun b hb=>heap_alloc_old _ _ _ (h.rep.zb b hb),fun _ _ _ h=>h,fun _ _ h=>h,fun i hi fz v e t xs ho=> ?_⟩;refine⟨fz,v,xs,ho,rfl,Nat.le_refl _,fun _=>⟨rfl,fun b hb=>⟨?_,hb.imp id .inl⟩⟩⟩;rcases hb with hb|hb
  ·exact heap_alloc_old _ _ _ (h.rep.bb i b hb).1
  ·exact heap_alloc_old _ _ _ (h.rep.zb b hb)
 refine⟨h.rep.turn rfl ev ?_ h.rep.lt h.rep.dj h.rep.nd ?_ ?_,?_,h.defers,h.size,h.nx⟩
 ·exact fun i=>dL ev rfl rfl (fun b hb=>heap_alloc_old _ _ _ (h.rep.bb i b hb).1) (h.rep.ob i)
 ·intro i b hb
  refine⟨by have:=(h.rep.bb i b hb).1;simp;omega,fun hz=>hz.elim (h.rep.bb i b hb).2 fun e=> ?_⟩;have:=(h.rep.bb i b hb).1;omega
 ·intro b hb
  show b<(E.w.alloc ob).heap.size;simp;rcases hb with hb|hb
  ·have:=h.rep.zb b hb;omega
  ·omega
 ·refine h.fr.trans ⟨rfl,rfl,rfl,by simp,fun b hb _=>heap_alloc_old _ _ _ hb,fun i b hb=> .inl ⟨i,hb⟩,fun b hb=> .inl hb,fun b hb=> ?_,fun _ _=>rfl⟩
  rcases hb with hb|hb
  ·exact .inl hb
  ·exact .inr (.inr (Nat.le_of_eq hb.symm))
theorem vI{st:St}{o:Oper}{c:Cn}(h:iM C st o=some c):∃t len ps e u l ds xs,o.op= .buildSlice t len ps∧C.tt t=some (.list e u)∧len*u.size≤16777216∧gT C st ps.toList=some l∧jC l=some ds∧fJ u 0 ds=some xs∧
 xs.length=len∧c= .ro none ⟨.list e u,xs⟩:=by
 unfold iM at h;split at h
 ·rename_i t len ps ho
  split at h
  ·rename_i e u hT
   split at h
   ·rename_i hb
    split at h
    ·rename_i l hl
     split at h
     ·rename_i ds hds
      split at h
      ·rename_i xs hxs
       split at h
       ·rename_i hlen
        exact⟨t,len,ps,e,u,l,ds,xs,ho,hT,Nat.le_of_ble_eq_true hb,hl,hds,hxs,Nat.eq_of_beq_eq_true hlen,(Option.some.inj h).symm⟩
       ·cases h
      ·cases h
     ·cases h
    ·cases h
   ·cases h
  ·cases h
 ·cases h
theorem Ae(ay:∀t u,C.tt t=some u→aT P t u){o:Oper}{st:St}{c:Cn}{a:Act}{K:Act→World→Prop}{d:Nat}(hc:iM C st o=some c)(h:Inv C.N E0 E st a)(hd:o.dst=some d)
 (hdl:st.sl d= .dead) (hdN:d<C.N) (hself:∀x,x∈o.op.operands→x≠ .tmp d)
 (hK:∀E' v,Inv C.N E0 E' st (a.put o.dst v)→Fr E E'→LF C E' (a.put o.dst v) o→aA E.w E'.w→K (a.put o.dst v) E'.w):o.wp P a E.w K Q:=by
 obtain⟨t,len,ps,e,u,l,ds,xs,ho,hT,hb,hl,hds,hxs,hlen,rfl⟩:=vI hc;have hdesc:=(ay _ _ hT).desc;simp only at hdesc;obtain⟨f,k2,k3,k4,k5⟩:=oN (u:=u) ps.toList l ds 0 xs (j5 h.rep _ _ hl) hds hxs;have hrun:=run_buildSlice (P:=P) (w:=E.w) (a:=a) (len:=len) hdesc.1 hdesc.2.1 hb (by rw[k5,hlen]) k4;rw[k3] at hrun;have hfl:=fU (aH u) xs f k2;have hrun':(execOp a.eval o).run P E.w= .ok (.value (.slice (some ⟨E.w.heap.size,0,none⟩) len len)) (E.w.alloc (.cells f.toArray e)):=by
  have e2:((ps.toList.map fun(i,x)=>(i,a.eval x)).toArray)=ps.map fun(i,x)=>(i,a.eval x):=by
   apply Array.ext';simp
  rw[e2] at hrun;unfold execOp;simp[ho,hrun]
 have hi:=(h.base).frozen (.cells f.toArray e);have hfr:Fr E ⟨E.w.alloc (.cells f.toArray e),fun b=>E.Z b∨b=E.w.heap.size,E.af,E.B⟩:=hi.fr;refine eF hrun' ?_;have hp:Inv C.N E0 ⟨E.w.alloc (.cells f.toArray e),fun b=>E.Z b∨b=E.w.heap.size,E.af,E.B⟩ st (a.put o.dst (.slice (some ⟨E.w.heap.size,0,none⟩) len len)):=by
  have e1:({st with sl:=upd st.sl d .dead}:St)=st:=by
   have:upd st.sl d .dead=st.sl:=by
    funext s;by_cases hs:s=d
    ·subst hs;rw[upd_same,hdl]
    ·rw[aB _ _ _ _ hs]
   rw[this]
  have h2:=hi.rep.dead (d:=d) (.slice (some ⟨E.w.heap.size,0,none⟩) len len);rw[e1] at h2;rw[hd];exact⟨h2,h.fr.trans hfr,h.defers,by simp[Act.put,h.size],h.nx⟩
 refine hK _ _ hp hfr ?_ (aA.alloc _ _);intro E' st' a' d' c' hd' hf' hr' he' ht' hc';obtain rfl:d=d':=by rw[hd] at hd';exact Option.some.inj hd'
 obtain⟨t',len',ps',e',u',l',ds',xs',ho',hT',hb',hl',hds',zN,hlen',rfl⟩:=vI hc';rw[ho] at ho';cases ho';rw[hT] at hT';cases hT';have hval:a'.tmps.getD d undef= .slice (some ⟨E.w.heap.size,0,none⟩) len len:=by
  rw[ht',hd];have hlt:d<a.tmps.size:=by rw[h.size];exact hdN
  simp[Act.put,Array.getD,hlt]
 obtain⟨f',m2,m3,m4,m5⟩:=oN (u:=u) ps.toList l' ds' 0 xs' (j5 hr' _ _ hl') hds' zN;have zw:f'=f:=by
  rw[←m3,←k3]
  congr 1
  refine List.map_congr_left fun p hp=> ?_;have hmem:p.2∈o.op.operands:=by
   rw[ho];simp only[Op.operands];simp only[List.mem_toArray,List.mem_map];exact⟨p,hp,rfl⟩
  rw[he' _ hmem,Act.eval_put (fun d' hd'=>by rw[hd] at hd';cases hd';exact hself _ hmem)]
 subst zw;have hblk:E'.w.heap[E.w.heap.size]?=some (.cells f'.toArray e):=by
  have hz:(⟨E.w.alloc (.cells f'.toArray e),fun b=>E.Z b∨b=E.w.heap.size,E.af,E.B⟩:Env).Z E.w.heap.size:= .inr rfl;have:=hf'.block E.w.heap.size (hp.rep.zb _ hz) (fun i hi=>(hp.rep.bb i _ hi).2 hz);rw[this];exact heap_alloc_new _ _
 have hZ:E'.Z E.w.heap.size:=hf'.z0 _ (.inr rfl);have hsh:jL E'.w E'.Z e u xs' (.slice (some ⟨E.w.heap.size,0,none⟩) len len) [E.w.heap.size]:=by
  refine⟨f',?_,m2,by simp[Value.ownBlock]⟩;rw[hlen'];refine⟨by rw[hfl,hlen],.inr ⟨E.w.heap.size,len,f'.toArray,rfl,Nat.zero_le _,hblk,Nat.le_refl _,?_,by simp[hfl,hlen],?_⟩⟩
  ·have hs:=hdesc.2.1
   obtain⟨_,_,_,_,_,_,q,_⟩:=hs;have:len≤len*u.size:=Nat.le_mul_of_pos_right _ q;simp only[maxLen];omega
  ·rw[List.take_of_length_le (by simp[hfl,hlen])]
 rw[hval];refine⟨[.slice (some ⟨E.w.heap.size,0,none⟩) len len],⟨rfl,trivial,fun _=> ?_⟩,rfl⟩
 exact aN (fun b hb=>by
  rcases hb with hb|hb
  ·obtain rfl:=List.mem_singleton.1 hb;exact hZ
  ·exact hb) (fun _ _=>rfl) _ _ _ (lD hsh)
theorem zf{st:St}{a:Act}{s:Nat}(h:Inv C.N E0 E st a):∃E',Inv C.N E0 E' (qE st s) a∧E'.w=E.w∧Fr E E':=by
 unfold qE;split
 ·rename_i j hj
  split
  ·rename_i fz v e t xs ah
   split
   ·obtain⟨E',w1,w2,w3,w4,w5,w6⟩:=uI ah h.base
    refine⟨E',⟨⟨fun s'=> ?_,w3.rep.ob,w3.rep.lt,w3.rep.dj,w3.rep.nd,w3.rep.bb,w3.rep.zb⟩,h.fr.trans w3.fr,h.defers,h.size,h.nx⟩,w1,w3.fr⟩;show ak E' (upd st.ob j (.sl .aV v e t xs)) st.nx (upd st.sl s (.ro none ⟨.list e t,xs⟩) s') _;by_cases es:s'=s
    ·subst es
     rw[upd_same];have hv:=h.rep.sl s';rw[hj] at hv;obtain⟨cs,⟨_,_,h3⟩,hm⟩:=hv;rw[h3] at hm;refine⟨[E.af j],⟨rfl,trivial,fun _=> ?_⟩,hm⟩;rw[w1];exact w6
    ·rw[aB _ _ _ _ es]
     exact w3.rep.sl s'
   ·exact⟨E,h,rfl,Fr.refl E⟩
  ·exact⟨E,h,rfl,Fr.refl E⟩
 ·exact⟨E,h,rfl,Fr.refl E⟩
theorem qD{a:Act}:∀(l:List (Nat×Operand)) (st:St) (E:Env),Inv C.N E0 E st a→∃E',Inv C.N E0 E' (nP st l) a∧E'.w=E.w∧Fr E E'
 |[],st,E,h=>⟨E,h,rfl,Fr.refl E⟩
 |x::r,st,E,h=>by
  simp only[nP];split
  ·rename_i s hs
   obtain⟨E1,h1,h2,h3⟩:=zf (s:=s) h;obtain⟨E2,h4,h5,h6⟩:=qD r _ E1 h1;exact⟨E2,h4,h5.trans h2,h3.trans h6⟩
  ·exact qD r st E h
theorem wM{st:St}{a:Act}{o:Oper}(h:Inv C.N E0 E st a):∃E',Inv C.N E0 E' (preO C o st) a∧E'.w=E.w∧Fr E E':=by
 unfold preO;split
 ·split
  ·split
   ·exact⟨E,h,rfl,Fr.refl E⟩
   ·exact qD _ st E h
  ·exact⟨E,h,rfl,Fr.refl E⟩
 ·exact⟨E,h,rfl,Fr.refl E⟩
def cntF(V:Array Bool):Nat:=V.toList.countP (fun b=> !b)
theorem um{V:Array Bool}{i:Nat}(h:V.getD i true=false):cntF V=cntF (V.setIfInBounds i true)+1:=by
 have hi:i<V.size:=by
  rcases Nat.lt_or_ge i V.size with h'|h'
  ·exact h'
  ·simp[Array.getD_eq_getD_getElem?,Array.getElem?_eq_none h'] at h
 have hv:V.toList[i]'(by simpa using hi)=false:=by
  simpa[Array.getD_eq_getD_getElem?,hi] using h
 unfold cntF;have h2:=List.countP_set (p:=fun b:Bool=> !b) (l:=V.toList) (i:=i) (a:=true) (by simpa using hi);rw[hv] at h2;have h3:0<V.toList.countP (fun b=> !b):=List.countP_pos_iff.2 ⟨false,by rw[←hv];exact List.getElem_mem _,rfl⟩;rw[Array.toList_setIfInBounds,h2];simp only[Bool.not_false,Bool.not_true,if_true,Bool.false_eq_true,if_false];omega
theorem fE{V:Array Bool}{i:Nat}(h:V.getD i true=false):V.getD i false=false∧i<V.size:=by
 rcases Nat.lt_or_ge i V.size with h'|h'
 ·exact⟨by simpa[Array.getD_eq_getD_getElem?,h'] using h,h'⟩
 ·simp[Array.getD_eq_getD_getElem?,Array.getElem?_eq_none h'] at h
theorem nQ{V:Array Bool}{i:Nat}(h:V.getD i false=false)(hi:i<V.size):V.getD i true=false:=by
 simpa[Array.getD_eq_getD_getElem?,hi] using h
theorem gu{V:Array Bool}{i j:Nat}(hi:i<V.size):(V.setIfInBounds i true).getD j false=true↔(j=i∨V.getD j false=true):=by
 by_cases e:i=j
 ·subst e;simp[Array.getD_eq_getD_getElem?,hi]
 ·have:(V.setIfInBounds i true).getD j false=V.getD j false:=by
   simp only[Array.getD_eq_getD_getElem?];rw[Array.getElem?_setIfInBounds_ne e]
  rw[this];have:¬j=i:=fun h=>e h.symm;simp[this]
structure dw(C:Ctx)(ops:Array Oper)(lits:List Nat)(V Rr:Array Bool)(E:Env)(a:Act):Prop where
 sv:V.size=ops.size
 sr:Rr.size=ops.size
 sub:∀i,V.getD i false=true→Rr.getD i false=true
 pend:∀i,Rr.getD i false=true→V.getD i false=false→i∈lits∧dX C ops V i=true∧∃o,ops[i]?=some o∧LF C E a o
theorem dw.un{lits:List Nat}{V Rr:Array Bool}{a:Act}(h:dw C ops lits V Rr E a){j:Nat}(hj:Rr.getD j true=false):V.getD j true=false:=by
 obtain⟨h1,h2⟩:=fE hj;refine nQ ?_ (by rw[h.sv,←h.sr];exact h2);cases hv:V.getD j false with
 |false=>rfl
 |true=>rw[h.sub j hv] at h1;cases h1
theorem dw.ready{lits:List Nat}{V Rr:Array Bool}{a:Act}(h:dw C ops lits V Rr E a){j:Nat}(hr:j∈Region.ready .any ops V)(hj:Rr.getD j true=false):j∈Region.ready .any ops Rr:=by
 rw[mem_ready] at hr⊢;obtain⟨_,o,ho,hall⟩:=hr;exact⟨hj,o,ho,fun e he hb=>h.sub _ (hall e he hb)⟩
theorem za{V:Array Bool}{i j:Nat}(h:Region.free .any ops V i=true):Region.free .any ops (V.setIfInBounds j true) i=true:=by
 unfold Region.free at h⊢;split at h
 ·cases h
 ·rw[List.all_eq_true] at h⊢
  intro x hx;have h:=h x hx;simp only[Bool.or_eq_true] at h⊢;rcases h with(h|h)|h
  ·exact .inl (.inl h)
  ·refine .inl (.inr ?_)
   by_cases e:j=x
   ·subst e
    by_cases hlt:j<V.size
    ·simp[Array.getD_eq_getD_getElem?,hlt]
    ·simp[Array.getD_eq_getD_getElem?,hlt]
   ·rw[getD_set_ne true e];exact h
  ·exact .inr h
theorem vH{V:Array Bool}{i j:Nat}(h:dX C ops V i=true)(hne:i≠j):dX C ops (V.setIfInBounds j true) i=true:=by
 unfold dX at h⊢;split at h
 ·rename_i o ho
  simp only[Bool.and_eq_true] at h⊢;exact⟨h.1,by simpa using ready_mono (by simpa using h.2.1) hne,za h.2.2⟩
 ·cases h
theorem nZ{V:Array Bool}{i:Nat}{o:Oper}(h:dX C ops V i=true)(ho:ops[i]?=some o):
 o.guard=none∧(∃d,o.dst=some d∧d<C.N∧∀x,x∈o.op.operands→x≠ .tmp d)∧fI C o=true∧i∈Region.ready .any ops V∧Region.free .any ops V i=true:=by
 unfold dX at h;rw[ho] at h;simp only[Bool.and_eq_true] at h;obtain⟨h1,h2,h3⟩:=h;unfold vJ at h1;split at h1
 ·rename_i hg
  split at h1
  ·rename_i d hd
   simp only[Bool.and_eq_true] at h1;obtain⟨q1,q2,q3⟩:=h1;refine⟨hg,⟨d,hd,Eq.mp Nat.blt_eq q1,fun x hx e=> ?_⟩,?_,by simpa using h2,h3⟩
   ·rw[List.all_eq_true] at q3
    have:=q3 x (by simpa using hx);rw[e] at this;simp at this
   ·unfold fI
    split at q2
    ·rename_i hop;simp[hop]
    ·cases q2
  ·cases h1
 ·cases h1
theorem Ad{V:Array Bool}{i j:Nat}{oi oj:Oper}(hi:ops[i]?=some oi)(hj:ops[j]?=some oj)(hl:dX C ops V i=true)(hr:j∈Region.ready .any ops V)(hne:j≠i):oi.apart ops oj=true:=by
 obtain⟨_,_,_,h4,h5⟩:=nZ hl hi;obtain⟨hjun,o,ho,hall⟩:=mem_ready.1 hr;rw[hj] at ho;cases ho;refine Region.free_spec hi h5 j oj hj hne hjun fun e he hb heq=> ?_;have h1:=hall e he hb;rw[heq] at h1;have:=(fE (mem_ready.1 h4).1).1;rw[this] at h1;cases h1
theorem LF.step{V:Array Bool}{i j:Nat}{oi oj:Oper}{a:Act}{E':Env}{v:Value}(h:LF C E a oi)(hi:ops[i]?=some oi)(hj:ops[j]?=some oj)(hl:dX C ops V i=true)(hr:j∈Region.ready .any ops V)(hne:j≠i)(hf:Fr E E'):
 LF C E' (a.put oj.dst v) oi:=by
 obtain⟨h1,h2,h3⟩:=Oper.apart_spec (Ad hi hj hl hr hne);refine h.mono hf (fun x hx=>Act.eval_put fun d hd e=> ?_) fun d hd=>kM (h2 d hd);subst e;refine h3 d hd ?_;unfold Oper.looksAt;refine List.mem_append_left _ ?_;rw[List.mem_filterMap];exact⟨.tmp d,by simpa using hx,rfl⟩
theorem dw.both{lits:List Nat}{V Rr:Array Bool}{a:Act}{E':Env}{j:Nat}{oj:Oper}{v:Value}(h:dw C ops lits V Rr E a)(hj:ops[j]?=some oj)(hr:j∈Region.ready .any ops V)(hf:Fr E E'):
 dw C ops lits (V.setIfInBounds j true) (Rr.setIfInBounds j true) E' (a.put oj.dst v):=by
 have hlt:j<ops.size:=(Array.getElem?_eq_some_iff.1 hj).1;refine⟨by simp[h.sv],by simp[h.sr],fun i hi=> ?_,fun i hi hv=> ?_⟩
 ·rw[gu (by rw[h.sv];exact hlt)] at hi
  rw[gu (by rw[h.sr];exact hlt)];exact hi.imp id (h.sub i)
 ·rw[gu (by rw[h.sr];exact hlt)] at hi
  have hne:j≠i:=fun e=>by
   subst e;have:(V.setIfInBounds j true).getD j false=true:=(gu (by rw[h.sv];exact hlt)).2 (.inl rfl);rw[this] at hv;cases hv
  have hv':V.getD i false=false:=by
   cases hvv:V.getD i false with
   |false=>rfl
   |true=>
    have:(V.setIfInBounds j true).getD i false=true:=(gu (by rw[h.sv];exact hlt)).2 (.inr hvv);rw[this] at hv;cases hv
  obtain⟨p1,p2,o,p3,p4⟩:=h.pend i (hi.resolve_left (fun e=>hne e.symm)) hv';exact⟨p1,vH p2 (Ne.symm hne),o,p3,p4.step p3 hj p2 hr hne hf⟩
theorem dw.early{lits:List Nat}{V Rr:Array Bool}{a:Act}{E':Env}{j:Nat}{oj:Oper}{v:Value}(h:dw C ops lits V Rr E a)(hj:ops[j]?=some oj)(hin:j∈lits)(hl:dX C ops V j=true)(hf:Fr E E')(hlf:LF C E' (a.put oj.dst v) oj)(hun:Rr.getD j true=false):
 dw C ops lits V (Rr.setIfInBounds j true) E' (a.put oj.dst v):=by
 have hlt:j<ops.size:=(Array.getElem?_eq_some_iff.1 hj).1;have hr:=(nZ hl hj).2.2.2.1;refine⟨h.sv,by simp[h.sr],fun i hi=> ?_,fun i hi hv=> ?_⟩
 ·rw[gu (by rw[h.sr];exact hlt)]
  exact .inr (h.sub i hi)
 ·rw[gu (by rw[h.sr];exact hlt)] at hi
  by_cases e:i=j
  ·subst e;exact⟨hin,hl,oj,hj,hlf⟩
  ·obtain⟨p1,p2,o,p3,p4⟩:=h.pend i (hi.resolve_left e) hv
   exact⟨p1,p2,o,p3,p4.step p3 hj p2 hr (Ne.symm e) hf⟩
theorem dw.late{lits:List Nat}{V Rr:Array Bool}{a:Act}{j:Nat}(h:dw C ops lits V Rr E a)(hj:Rr.getD j false=true)(hlt:j<ops.size):dw C ops lits (V.setIfInBounds j true) Rr E a:=by
 refine⟨by simp[h.sv],h.sr,fun i hi=> ?_,fun i hi hv=> ?_⟩
 ·rw[gu (by rw[h.sv];exact hlt)] at hi
  rcases hi with rfl|hi
  ·exact hj
  ·exact h.sub i hi
 ·have hne:i≠j:=fun e=>by
   subst e;have:(V.setIfInBounds i true).getD i false=true:=(gu (by rw[h.sv];exact hlt)).2 (.inl rfl);rw[this] at hv;cases hv
  have hv':V.getD i false=false:=by
   cases hvv:V.getD i false with
   |false=>rfl
   |true=>
    have:(V.setIfInBounds j true).getD i false=true:=(gu (by rw[h.sv];exact hlt)).2 (.inr hvv);rw[this] at hv;cases hv
  obtain⟨p1,p2,o,p3,p4⟩:=h.pend i hi hv';exact⟨p1,vH p2 hne,o,p3,p4⟩
theorem dw.env{lits:List Nat}{V Rr:Array Bool}{a:Act}{E':Env}(h:dw C ops lits V Rr E a)(hf:Fr E E'):dw C ops lits V Rr E' a:=
 ⟨h.sv,h.sr,h.sub,fun i hi hv=>by
  obtain⟨p1,p2,o,p3,p4⟩:=h.pend i hi hv;exact⟨p1,p2,o,p3,p4.mono hf (fun _ _=>rfl) fun _ _=>rfl⟩⟩
theorem wI{dec:List (Nat×Bool)}{st:St}:∀{l:List Nat},oH C ops dec st l=true→∀j,j∈l→oI C ops dec st j=true
 |[],_,j,hj=>by simp at hj
 |x::r,h,j,hj=>by
  simp only[oH] at h;split at h
  ·rename_i hx
   rcases List.mem_cons.1 hj with rfl|hj
   ·exact hx
   ·exact wI h j hj
  ·cases h
theorem AV{dec:List (Nat×Bool)}{st:St}{j:Nat}{o:Oper}(h:oI C ops dec st j=true)(ho:ops[j]?=some o):∃d c,o.dst=some d∧st.sl d= .dead∧cK dec d=none∧iM C st o=some c:=by
 unfold oI at h;rw[ho] at h;simp only at h;split at h
 ·rename_i d hd
  split at h
  ·rename_i hdl
   split at h
   ·rename_i hlk
    split at h
    ·rename_i c hc
     exact⟨d,c,hd,hdl,hlk,hc⟩
    ·cases h
   ·cases h
  ·cases h
 ·cases h
def pG(P:Program)(C:Ctx)(E0:Env)(Q:Exit→Act→World→Prop)(ops:Array Oper)(lits:List Nat)(k:St→Option R)(r:R)(n:Nat):Prop:=
 ∀(ord:List (Nat×List Nat)) (V Rr:Array Bool) (dec:List (Nat×Bool)) (st:St) (E:Env) (a:Act),gX C ops lits V ord=true→ig C ops ord dec st k=some r→Inv C.N E0 E st a→bM dec a→
  dw C ops lits V Rr E a→cntF Rr=n→gG P .any ops (dS C ops) (calm Q) n Rr a E.w
theorem vD(hc:bI P C)(hsel:Region.noSelect ops=true){lits:List Nat}{k:St→Option R}{r:R}(hn:∀st' E' a',k st'=some r→Inv C.N E0 E' st' a'→Q .normal a' E'.w)(n:Nat)
 (IH:∀m,n=m+1→pG P C E0 Q ops lits k r m):pG P C E0 Q ops lits k r n:=by
 intro ord
 induction ord with
 |nil=>
  intro V Rr dec st E a hok hrun hi hdec hl hcnt;simp only[gX] at hok;have hr:Region.ready .any ops Rr=[]:=by
   apply List.eq_nil_iff_forall_not_mem.2;intro j hj;obtain⟨h1,h2⟩:=fE (hl.un (mem_ready.1 hj).1);rw[Array.all_eq_true] at hok;have:=hok j h2;simp[Array.getD_eq_getD_getElem?,h2] at h1;simp[h1] at this
  have fin:calm Q .normal a E.w:=hn st E a hrun hi;cases n with
  |zero=>exact⟨hr,fin⟩
  |succ n=>exact⟨fun _=>fin,fun j hj=>by rw[hr] at hj;cases hj⟩
 |cons x ord ih=>
  intro V Rr dec st E a hok hrun hi hdec hl hcnt;obtain⟨i,pd⟩:=x;simp only[gX,Bool.and_eq_true,Bool.not_eq_true'] at hok;obtain⟨hlt,qV,hp1,hp2,hstep,hok⟩:=hok;have hlt:i<ops.size:=Eq.mp Nat.blt_eq hlt;have hp1:∀j,j∈lits→dX C ops V j=true→j∈pd:=fun j hj hl=>by
   have:=List.all_eq_true.1 hp1 j hj;simpa[hl,ji] using this
  have hp2:∀j,j∈pd→j∈lits∧dX C ops V j=true:=fun j hj=>by
   have:=List.all_eq_true.1 hp2 j hj;simpa using this
  simp only[ig] at hrun;split at hrun
  case h_2=>cases hrun
  rename_i hpa;split at hrun
  case h_2=>cases hrun
  rename_i o ho;cases hR:Rr.getD i false with
  |true=>
   obtain⟨q1,q2,o',q3,q4⟩:=hl.pend i hR (fE qV).1;rw[ho] at q3;cases q3;have hmem:eO i pd=true:=ji.2 (hp1 i q1 q2);rw[hmem] at hrun;simp only at hrun;split at hrun
   ·rename_i c hlc
    split at hrun
    ·rename_i d hd
     exact ih _ Rr dec _ E a hok hrun (Af q4 hd hlc hi) hdec (hl.late hR hlt) hcnt
    ·cases hrun
   ·cases hrun
  |false=>
   have qU:Rr.getD i true=false:=nQ hR (by rw[hl.sr];exact hlt);have hc1:=um qU;obtain⟨m,rfl⟩:∃m,n=m+1:=⟨cntF (Rr.setIfInBounds i true),by rw[←hcnt,hc1]⟩;have hm:cntF (Rr.setIfInBounds i true)=m:=by omega
   have lq:=IH m rfl;rcases Bool.or_eq_true_iff.1 hstep with hA|hB
   ·
     simp only[Bool.and_eq_true,Bool.not_eq_true'] at hA;obtain⟨hnl,htk⟩:=hA;rw[hnl] at hrun;simp only at hrun;simp only[oU,ho,Bool.and_eq_true] at htk;obtain⟨h1,h2,h3,h4⟩:=htk;have gW:i∈Region.ready .any ops V:=by simpa using h3
     have mh:=hl.ready gW qU
     have hfree:∀j oj,ops[j]?=some oj→j≠i→Rr.getD j true=false→(∀e∈oj.after,Region.binds .any e=true→e.on≠i∧e.on∉iY ops V i)→o.apart ops oj=true∧(dB o=true→dS C ops j=true):=
      fun j oj hj hne hun hno=>lX ho h2 (fun e=>by simpa[e] using h4) j oj hj hne (hl.un hun) hno
     have uS:∀u,u∈iY ops V i→Rr.getD u true=false∧∃ou e,ops[u]?=some ou∧e∈ou.after∧Region.binds .any e=true∧(e.on=i∨e.on∈iY ops V i):=by
      intro u hu;obtain⟨d1,ou,e,d2,d3,d4,d5⟩:=iZ u hu;refine⟨?_,ou,e,d2,d3,d4,d5⟩;cases uX:Rr.getD u false with
      |false=>exact nQ uX (by rw[hl.sr,←hl.sv];exact(fE d1).2)
      |true=>
       obtain⟨_,q2,o',q3,_⟩:=hl.pend u uX (fE d1).1;rw[d2] at q3;cases q3;obtain⟨_,o2,q4,q5⟩:=mem_ready.1 (nZ q2 d2).2.2.2.1;rw[d2] at q4;cases q4;have q6:=q5 e d3 d4;rcases d5 with d5|d5
       ·rw[d5,(fE qV).1] at q6;cases q6
       ·rw[(fE (iZ _ d5).1).1] at q6;cases q6
     obtain⟨E1,hi1,w1,f1⟩:=wM (o:=o) hi;rw[←w1];obtain⟨hd',hcase⟩:=mU hrun hi1 hdec;rcases hcase with⟨hw,st',hop,htl⟩|⟨hw,htl⟩
     ·refine sO (P:=P) (o:=o) (a:=a) (w:=E1.w) ?_
      refine kI (g:=false) hc hd' (by simp) hop hi1.base fun eZ E' v hk' hi' dO=> ?_;cases hk';obtain⟨e1,e2⟩:=dO.run h1;have H:=lq ord _ _ _ st' E' _ hok htl (hi'.wN hi1.fr) (hd'.rm aO.one) (hl.both (v:=v) ho gW (f1.trans hi'.fr)) hm;rw[e1] at H;exact kW ho (Region.noSelect_spec hsel) (fun c a w hq=>hq) m Rr a E1.w hfree uS mh (.inl ⟨hw,e2⟩) H
     ·have H:=lq ord _ _ _ _ E1 _ hok htl hi1.cu (hd'.rm aO.one) (hl.both (v:=undef) ho gW f1) hm
      have hy:YieldsIf P ops (fun u=>dB o=false∨aA E1.w u) o undef a:= .inr ⟨hw,rfl⟩;exact kW ho (Region.noSelect_spec hsel) (fun c a w hq=>hq) m Rr a E1.w hfree uS mh hy H
   ·simp only[Bool.and_eq_true] at hB
    obtain⟨gW,hall⟩:=hB;have gW:i∈Region.ready .any ops V:=by simpa using gW
    have mh:=hl.ready gW qU;refine⟨fun e=>(by rw[e] at mh;cases mh),fun j hj=> ?_⟩;have hjun:=(mem_ready.1 hj).1;have zL:j∈pd∨j=i:=by
     have hsz:=wZ (g_ i pd) V;cases hM:(iq V (g_ i pd)).getD j false with
     |true=>
      rcases(sD _ _ _).1 hM with h|⟨h,_⟩
      ·have:=(fE (hl.un hjun)).1
       rw[this] at h;cases h
      ·exact .inl (om.1 h).1
     |false=>
      have hlj:j<V.size:=(fE (hl.un hjun)).2;have zH:j∈Region.ready .any ops (iq V (g_ i pd)):=by
       rw[mem_ready] at hj⊢;obtain⟨_,o',ho',zq⟩:=hj;refine⟨nQ hM (by rw[hsz];exact hlj),o',ho',fun e he hb=> ?_⟩;have h1:=zq e he hb;rw[sD];cases hv:V.getD e.on false with
       |true=>exact .inl rfl
       |false=>
        refine .inr ⟨om.2 ⟨?_,fun e'=> ?_⟩,?_⟩
        ·obtain⟨q1,q2,_⟩:=hl.pend _ h1 hv
         exact hp1 _ q1 q2
        ·rw[e',hR] at h1;cases h1
        ·rcases Nat.lt_or_ge e.on Rr.size with h'|h'
         ·rw[hl.sv,←hl.sr];exact h'
         ·simp[Array.getD_eq_getD_getElem?,Array.getElem?_eq_none h'] at h1
      exact .inr (Nat.eq_of_beq_eq_true (List.all_eq_true.1 hall j zH))
    by_cases hjp:j∈pd
    ·
      obtain⟨q1,q2⟩:=hp2 j hjp;have zC:j<ops.size:=by rw[←hl.sr];exact(fE hjun).2
      obtain⟨oj,hoj⟩:∃oj,ops[j]?=some oj:=⟨ops[j],by simp[zC]⟩;obtain⟨g1,⟨d,g2,g3,g4⟩,g5,g6,g7⟩:=nZ q2 hoj;obtain⟨d',c,e1,e2,e3,e4⟩:=AV (wI hpa j hjp) hoj;obtain rfl:d=d':=by rw[g2] at e1;exact Option.some.inj e1
      unfold wpOp;have hw:Region.wanted oj (yielded ops a.tmps)=true:=by simp[Region.wanted,g1]
      simp only[hoj,hw,if_true];refine .inl (Ae hc.tt e4 hi g2 e2 g3 g4 fun E' v hi' hf' hlf hg=> ?_);refine⟨fun _=>hg,?_⟩;have hrun':ig C ops ((i,pd)::ord) dec st k=some r:=by
       simp only[ig,hpa,ho];exact hrun
      have hok':gX C ops lits V ((i,pd)::ord)=true:=by
       simp only[gX,Bool.and_eq_true,Bool.not_eq_true',Nat.blt_eq];refine⟨hlt,qV,?_,?_,hstep,hok⟩
       ·rw[List.all_eq_true]
        intro y hy;cases qN:dX C ops V y with
        |false=>rfl
        |true=>simpa[ji] using hp1 y hy qN
       ·rw[List.all_eq_true]
        intro y hy;simpa using hp2 y hy
      have hm':cntF (Rr.setIfInBounds j true)=m:=by
       have:=um hjun;omega
      refine lq ((i,pd)::ord) V _ dec st E' _ hok' hrun' hi' (fun s b hs=> ?_) (hl.early hoj q1 q2 hf' hlf hjun) hm';rw[g2,kM (fun e=>by cases e;rw[e3] at hs;cases hs)];exact hdec s b hs
    ·obtain rfl:j=i:=zL.resolve_left hjp
     have hnl:eO j pd=false:=by
      cases hh:eO j pd with
      |false=>rfl
      |true=>exact absurd (ji.1 hh) hjp
     rw[hnl] at hrun;simp only at hrun;obtain⟨E1,hi1,w1,f1⟩:=wM (o:=o) hi;rw[←w1];obtain⟨hd',hcase⟩:=mU hrun hi1 hdec;rcases hcase with⟨hw,st',hop,htl⟩|⟨hw,htl⟩
     ·unfold wpOp
      simp only[ho,hw,if_true];refine .inl (kI (g:=false) hc hd' (by simp) hop hi1.base fun eZ E' v hk' hi' dO=> ?_);cases hk';refine⟨fun e=> ?_,lq ord _ _ _ st' E' _ hok htl (hi'.wN hi1.fr) (hd'.rm aO.one) (hl.both (v:=v) ho gW (f1.trans hi'.fr)) hm⟩;simp only[dS,ho,mJ,Bool.or_eq_true] at e;rcases e with e|e
      ·rw[(dO.run e).1];exact aA.refl _
      ·exact dO.al e
     ·have H:=lq ord _ _ _ _ E1 _ hok htl hi1.cu (hd'.rm aO.one) (hl.both (v:=undef) ho gW f1) hm
      have hy:YieldsIf P ops (fun u=>dB o=false∨aA E1.w u) o undef a:= .inr ⟨hw,rfl⟩;exact hy.wpOp ho (.inr (aA.refl _)) ⟨fun _=>aA.refl _,H⟩
theorem vE(hc:bI P C)(hsel:Region.noSelect ops=true){lits:List Nat}{k:St→Option R}{r:R}(hn:∀st' E' a',k st'=some r→Inv C.N E0 E' st' a'→Q .normal a' E'.w):∀n,pG P C E0 Q ops lits k r n
 |0=>vD hc hsel hn 0 fun m h=>by cases h
 |n+1=>vD hc hsel hn (n+1) fun m h=>by
  cases h;exact vE hc hsel hn n
end
end Go.Am
end
section
namespace Go.Am
def oJ(C:Ctx)(st:St):ResultVar→Option Cn
 | .tmp t=>some (st.sl t)
 | .cell a t=>match mG st (st.sl a) with
   |some d=>match mF C.tt t d.isAgg d.size with
    |true=>some d
    |false=>none
   |none=>none
def oK(C:Ctx)(st:St):List ResultVar→Option (List Cn)
 |[]=>some []
 |x::r=>match oJ C st x with
  |some c=>match oK C st r with
   |some l=>some (c::l)
   |none=>none
  |none=>none
section
variable{P:Program}{C:Ctx}
theorem x9{t:TypeId}{x v:Value}{w w':World}(h:(Instr.loadAt t x).run P w= .ok v w'):(do loadVar t (←asAddr x):Sem Value).run P w= .ok v w':=by
 unfold Instr.loadAt at h;cases x with
 |pointer a=>
  cases a with
  |some a=>simpa[Instr.sureAddr,asAddr] using h
  |none=>simp[Instr.sureAddr] at h
 |_=>simp[Instr.sureAddr] at h
def oL(tm:Array Value):ResultVar→Sem Value
 | .tmp t=>pure (tm.getD t undef)
 | .cell y t=>do loadVar t (←asAddr (tm.getD y undef))
theorem A9(hc:bI P C){N:Nat}{E0 E:Env}{st:St}{a:Act}{x:ResultVar}{c:Cn}(h:oJ C st x=some c)(hN:N=C.N)(hi:Inv N E0 E st a):
 ∃v,(oL a.tmps x).run P E.w= .ok v E.w∧ak E st.ob st.nx c v:=by
 subst hN;cases x with
 |tmp t=>
  simp only[oJ,Option.some.injEq] at h;subst h;exact⟨_,rfl,hi.rep.sl t⟩
 |cell y t=>
  simp only[oJ] at h;split at h
  ·rename_i d hd
   split at h
   ·rename_i hl
    cases h;obtain⟨v,h1,h2⟩:=vL hc.tt hd hl hi (hi.rep.sl y);exact⟨v,x9 (h1 E.w (aA.refl _)),h2⟩
   ·cases h
  ·cases h
theorem wQ(hc:bI P C){E0 E:Env}{st:St}{a:Act}(hi:Inv C.N E0 E st a):∀(res:List ResultVar) (l:List Cn),oK C st res=some l→
 ∃vs:List Value,vs.length=res.length∧(res.mapM (oL a.tmps)).run P E.w= .ok vs E.w∧∀s,ak E st.ob st.nx (bE l s) (vs.getD s undef)
 |[],l,h=>by
  cases h;exact⟨[],rfl,rfl,fun s=>trivial⟩
 |x::r,l,h=>by
  simp only[oK] at h;split at h
  ·rename_i c hx
   split at h
   ·rename_i l' hr
    cases h;obtain⟨v,h1,h2⟩:=A9 hc hx rfl hi;obtain⟨vs,h3,h4,h5⟩:=wQ hc hi r l' hr;refine⟨v::vs,by simp[h3],?_,fun s=> ?_⟩
    ·rw[List.mapM_cons,Sem.run_bind,h1]
     simp only[Result.andThen_ok,Sem.run_bind];rw[h4];rfl
    ·cases s with
     |zero=>exact h2
     |succ s=>simpa[bE] using h5 s
   ·cases h
  ·cases h
theorem Bf{fn:Func}{res:List ResultVar}(h:fn.results=res.toArray){tm:Array Value}{w:World}{vs:List Value}(hl:vs.length=res.length)
 (hm:(res.mapM (oL tm)).run P w= .ok vs w):∃v,(results fn tm).run P w= .ok v w∧nu res.length vs.toArray v:=by
 have hrun:(results fn tm).run P w= .ok (if h:vs.toArray.size=1 then vs.toArray[0] else .tuple vs.toArray) w:=by
  unfold results;rw[h];simp only[List.mapM_toArray,Sem.run_bind,Sem.run_map];show(((res.mapM (oL tm)).run P w).andThen _).andThen _=_;rw[hm];rfl
 refine⟨_,hrun,?_⟩;rw[←hl]
 match vs with
 |[]=>exact⟨[],rfl,rfl,fun i hi=>by simp at hi⟩
 |[t]=>exact rfl
 |t::u::r=>
  refine⟨t::u::r,rfl,rfl,fun i hi=> ?_⟩;simp only[Array.getD_eq_getD_getElem?,List.getElem?_toArray];rw[List.getElem?_eq_getElem (by simpa using hi)];rfl
end
end Go.Am
end
section
namespace Go.Am
def aD(P:Program)(C:Ctx){R:Type}(c:Code)(kn:St→Option R)(kx:Nat→St→Option R)(kr:St→Option R)(F:St→Option R):Prop:=
 ∀(r:R) (Q:Exit→Act→World→Prop) (E0 E:Env) (st:St) (a:Act),F st=some r→Inv C.N E0 E st a→
  (∀st E a,kn st=some r→Inv C.N E0 E st a→Q .normal a E.w)→
  (∀i st E a,kx i st=some r→Inv C.N E0 E st a→Q (.exit i) a E.w)→
  (∀st E a,kr st=some r→Inv C.N E0 E st a→Q .ret a E.w)→c.wp P Q a E.w
def fq(P:Program)(C:Ctx){R:Type}(cut:Nat→Option (Cut R)):Code→(St→Option R)→(Nat→St→Option R)→(St→Option R)→Prop
 | .seq a b,kn,kx,kr=>match cut (key b) with
   |some c=>fq P C cut a (fun st=>c.go st) kx kr∧aD P C b kn kx kr c.go
   |none=>fq P C cut a (exec C cut b kn kx kr) kx kr∧fq P C cut b kn kx kr
 | .cond _ a b,kn,kx,kr=>fq P C cut a kn kx kr∧fq P C cut b kn kx kr
 | .block id a,kn,kx,kr=>fq P C cut a kn (fun i=>match Nat.beq i id with|true=>kn|false=>kx i) kr
 | .loop a,kn,kx,kr=>match cut (key a) with
   |some c=>aD P C (.loop a) kn kx kr c.go
   |none=>True
 | .region id ops true,kn,kx,kr=>match cut (id+1000000) with
   |some c=>aD P C (.region id ops true) kn kx kr c.go
   |none=>True
 |_,_,_,_=>True
section
variable{P:Program}{C:Ctx}{R:Type}
theorem uN{c:Cut R}{st:St}{r:R}(h:c.go st=some r):∃x m,gy false false c.s (iX c.s st.sl st)=some (x,m)∧c.J x=some r:=by
 unfold Cut.go at h;split at h
 ·rename_i x m hm
  exact⟨x,m,hm,h⟩
 ·cases h
structure mZ(N:Nat)(E0 E:Env)(st:St)(a:Act)(E':Env)(st':St):Prop where
 w:E'.w=E.w
 inv:Inv N E0 E' st' a
 sl:st'.sl=st.sl
 nx:st'.nx=st.nx
 rep:∀c v,ak E st.ob st.nx c v→ak E' st'.ob st'.nx c v
theorem yD{N:Nat}{E0:Env}{a:Act}(objs:List (Nat×OS)):∀(cs:CS) (c:Cn) (E:Env) (st:St),Inv N E0 E st a→∃E',mZ N E0 E st a E' {st with ob:=jU objs cs c st.ob}:=by
 have same:∀(E:Env) (st:St),Inv N E0 E st a→∃E',mZ N E0 E st a E' {st with ob:=st.ob}:=fun E st h=>⟨E,rfl,h,rfl,rfl,fun _ _ h=>h⟩;intro cs
 induction cs with
 |h j=>
  intro c E st h;cases c with
  |h i=>
   simp only[jU];split
   ·obtain⟨E',o⟩:=qg (.h i) h
    exact⟨E',o.w,o.inv,rfl,rfl,fun c v hv=>fA o.ev hv⟩
   ·exact same E st h
  |_=>exact same E st h
 |agg a ih=>
  intro c E st h;cases c with
  |agg x=>exact ih x E st h
  |_=>exact same E st h
 |cons a b iha ihb=>
  intro c E st h;cases c with
  |cons x y=>
   obtain⟨E1,h1⟩:=iha x E st h;obtain⟨E2,h2⟩:=ihb y E1 _ h1.inv;exact⟨E2,h2.w.trans h1.w,h2.inv,rfl,rfl,fun c v hv=>h2.rep c v (h1.rep c v hv)⟩
  |_=>exact same E st h
 |_=>intro c E st h;exact same E st h
theorem uo{N:Nat}{E0:Env}{a:Act}(objs:List (Nat×OS))(sl:Nat→Cn):∀(l:List (Nat×CS)) (E:Env) (st:St),Inv N E0 E st a→∃E',mZ N E0 E st a E' {st with ob:=qh objs sl l st.ob}
 |[],E,st,h=>⟨E,rfl,h,rfl,rfl,fun _ _ h=>h⟩
 |x::r,E,st,h=>by
  obtain⟨E1,h1⟩:=yD objs x.2 (sl x.1) E st h;obtain⟨E2,h2⟩:=uo objs sl r E1 _ h1.inv;exact⟨E2,h2.w.trans h1.w,h2.inv,rfl,rfl,fun c v hv=>h2.rep c v (h1.rep c v hv)⟩
theorem uq{N:Nat}{E0 E:Env}{a:Act}{st:St}(s:SS)(sl:Nat→Cn)(h:Inv N E0 E st a):∃E',mZ N E0 E st a E' (iX s sl st):=by
 unfold iX;split
 ·exact uo s.objs sl s.slots E st h
 ·exact⟨E,rfl,h,rfl,rfl,fun _ _ h=>h⟩
theorem nR{N:Nat}{E0 E:Env}{a:Act}{c:Cut R}{st:St}{r:R}(h:c.go st=some r)(hi:Inv N E0 E st a):∃x m st1 E1,gy false false c.s st1=some (x,m)∧c.J x=some r∧Inv N E0 E1 st1 a∧E1.w=E.w:=by
 obtain⟨x,m,h1,h2⟩:=uN h;obtain⟨E',k⟩:=uq c.s st.sl hi;exact⟨x,m,_,E',h1,h2,k.inv,k.w⟩
theorem yT(hc:bI P C){cut:Nat→Option (Cut R)}:∀(c:Code) (kn:St→Option R) (kx:Nat→St→Option R) (kr:St→Option R),fq P C cut c kn kx kr→aD P C c kn kx kr (exec C cut c kn kx kr):=by
 intro c
 induction c with
 |skip=>intro kn kx kr _ r Q E0 E st a h hi hn _ _;exact wp_skip (hn st E a h hi)
 |region id ops draw=>
  intro kn kx kr ho r Q E0 E st a h hi hn hx hr;simp only[exec] at h;cases draw with
  |true=>
   simp only at h;simp only[fq] at ho;cases hcut:cut (id+1000000) with
   |some c=>
    simp only[hcut] at h ho;exact ho r Q E0 E st a h hi hn hx hr
   |none=>
    simp only[hcut] at h;split at h
    ·rename_i hok
     exact yK hc h hok hi (fun st' E' a' hk hi'=>hn st' E' a' hk hi')
    ·cases h
  |false=>
   simp only at h;refine wp_region_list ?_;have:=wO (Q:=Q) (all:=ops) (E0:=E0) hc BK (ops.size+ops.size+1) R false [] ops.toList st kn r E a [] false h (by simp) hi (fun s b hl=>by cases hl) fun st' E' a' hk hi' _ _=>hn st' E' a' hk hi';simpa using this
 |seq a b iha ihb=>
  intro kn kx kr ho r Q E0 E st act h hi hn hx hr;simp only[exec] at h;simp only[fq] at ho;refine wp_seq ?_;have hx':∀i st E a,kx i st=some r→Inv C.N E0 E st a→Exit.then (b.wp P Q) Q (.exit i) a E.w:=fun i st E a hk hi'=>hx i st E a hk hi';have hr':∀st E a,kr st=some r→Inv C.N E0 E st a→Exit.then (b.wp P Q) Q .ret a E.w:=fun st E a hk hi'=>hr st E a hk hi';cases hcut:cut (key b) with
  |some c=>
   simp only[hcut] at h ho;exact iha _ _ _ ho.1 r _ E0 E st act h hi (fun st' E' a' hk hi'=>ho.2 r Q E0 E' st' a' hk hi' hn hx hr) hx' hr'
  |none=>
   simp only[hcut] at h ho;exact iha _ _ _ ho.1 r _ E0 E st act h hi (fun st' E' a' hk hi'=>ihb _ _ _ ho.2 r Q E0 E' st' a' hk hi' hn hx hr) hx' hr'
 |cond x a b iha ihb=>
  intro kn kx kr ho r Q E0 E st act h hi hn hx hr;simp only[exec,nE] at h;split at h
  ·rename_i t ht
   refine wp_cond (lT ht hi.rep) ?_;cases t with
   |true=>exact iha _ _ _ ho.1 r Q E0 E st act h hi hn hx hr
   |false=>exact ihb _ _ _ ho.2 r Q E0 E st act h hi hn hx hr
  ·cases h
 |block id a iha=>
  intro kn kx kr ho r Q E0 E st act h hi hn hx hr;refine wp_block ?_;refine iha _ _ _ ho r _ E0 E st act h hi (fun st' E' a' hk hi'=>hn st' E' a' hk hi') (fun i st' E' a' hk hi'=> ?_) (fun st' E' a' hk hi'=>hr st' E' a' hk hi');show Exit.inBlock id Q (.exit i) a' E'.w;simp only[Exit.inBlock];cases e:Nat.beq i id with
  |true=>
   simp only[e] at hk;rw[if_pos (Nat.eq_of_beq_eq_true e)];exact hn st' E' a' hk hi'
  |false=>
   simp only[e] at hk;rw[if_neg (fun e'=>by rw[e'] at e;simp at e)];exact hx i st' E' a' hk hi'
 |loop a iha=>
  intro kn kx kr ho r Q E0 E st act h hi hn hx hr;simp only[exec] at h;simp only[fq] at ho;split at h
  ·rename_i c hcut
   rw[hcut] at ho;exact ho r Q E0 E st act h hi hn hx hr
  ·cases h
 |exit id=>intro kn kx kr _ r Q E0 E st a h hi hn hx _;exact wp_exit (hx id st E a h hi)
 |ret=>intro kn kx kr _ r Q E0 E st a h hi hn hx hr;exact wp_ret (hr st E a h hi)
 |_=>intro kn kx kr _ r Q E0 E st a h;cases h
theorem aD.cut{c:Code}{kn:St→Option R}{kx:Nat→St→Option R}{kr:St→Option R}{F:St→Option R}(h:aD P C c kn kx kr F)(k:Cut R)(hk:∀x,F (k.s.st x)=k.J x):aD P C c kn kx kr k.go:=by
 intro r Q E0 E st a hg hi hn hx hr;obtain⟨x,m,st1,E1,hm,hJ,hi,hw1⟩:=nR hg hi;rw[←hw1];obtain⟨E1,hw,hi1⟩:=nI hm hi;rw[←hw];exact h r Q E0 E1 (k.s.st x) a (by rw[hk x];exact hJ) hi1 hn hx hr
theorem aD.loop{c:Code}{kn:St→Option R}{kx:Nat→St→Option R}{kr:St→Option R}(s:SS)(J:Nat→s.Den→Option R)(F:Nat→St→Option R)
 (h0:∀x,J 0 x=none) (h:∀n,aD P C c (Cut.go ⟨s,J n⟩) kx kr (F n)) (hF:∀n x,F n (s.st x)=J (n+1) x) (n:Nat):aD P C (.loop c) kn kx kr (Cut.go ⟨s,J n⟩):=by
 intro r Q E0 E st a hg hi hn hx hr
 have round:∀n st E a,Cut.go ⟨s,J n⟩ st=some r→Inv C.N E0 E st a→∀(b:Frame) (k:List Item) (cs:List Frame),
  ∃e a' w',Q e a' w'∧Arrives P (lone (b.at a (.code c:: .inLoop c::k)) cs E.w) b k cs e a' w':=by
  intro n
  induction n with
  |zero=>
   intro st E a hg hi;obtain⟨x,m,hm,hJ⟩:=uN hg;have hJ:J 0 x=some r:=hJ;rw[h0] at hJ;cases hJ
  |succ n ih=>
   intro st E a hg hi b k cs;obtain⟨x,m,st1,E1,hm,hJ,hi,hw1⟩:=nR hg hi;obtain⟨E1,hw,hi1⟩:=nI hm hi;rw[hw1] at hw
   have hwp:=h n r (Exit.then (fun a' w'=>∃st' E',E'.w=w'∧Cut.go ⟨s,J n⟩ st'=some r∧Inv C.N E0 E' st' a') Q) E0 E1 (s.st x) a (by rw[hF];exact hJ) hi1
    (fun st' E' a' hk hi'=>⟨st',E',rfl,hk,hi'⟩) (fun i st' E' a' hk hi'=>hx i st' E' a' hk hi') (fun st' E' a' hk hi'=>hr st' E' a' hk hi')
   rw[hw] at hwp;obtain⟨e,a₁,w₁,hq,harr⟩:=hwp b (.inLoop c::k) cs;cases e with
   |normal=>
    obtain⟨st',E',rfl,hk,hi'⟩:=hq;obtain⟨e₂,a₂,w₂,hq₂,harr₂⟩:=ih st' E' a₁ hk hi' b k cs;exact⟨e₂,a₂,w₂,hq₂,.of_steps (Steps.trans harr (.one step_inLoop)) harr₂⟩
   |exit id=>exact⟨_,a₁,w₁,hq,.pass (x:= .inLoop c) rfl (fun _ _=> .inl (by simp)) harr⟩
   |goto l=>exact⟨_,a₁,w₁,hq,.pass (x:= .inLoop c) rfl (fun _ _=> .inl (by simp)) harr⟩
   |ret=>exact⟨_,a₁,w₁,hq,.pass (x:= .inLoop c) rfl (fun _ _=> .inl (by simp)) harr⟩
   |panic ch=>exact⟨_,a₁,w₁,hq,.pass (x:= .inLoop c) rfl (fun _ _=> .inl (by simp)) harr⟩
   |outgrown=>exact⟨_,a₁,w₁,hq,.pass (x:= .inLoop c) rfl (fun _ _=> .inl (by simp)) harr⟩
 intro b k cs;obtain⟨e,a',w',hq,harr⟩:=round n st E a hg hi b k cs;exact⟨e,a',w',hq,.of_steps (.one step_loop) harr⟩
theorem aD.draw(hc:bI P C){id:Nat}{ops:Array Oper}{kn:St→Option R}{kx:Nat→St→Option R}{kr:St→Option R}(k:Cut R)(orders:List (List Nat))
 (hok:(Region.noSelect ops&&eH C ops ops.size (Array.replicate ops.size false) orders)=true) (h:∀ord,ord∈orders→∀x,runK C ops ord (k.s.st x) kn=k.J x):
 aD P C (.region id ops true) kn kx kr k.go:=by
 intro r Q E0 E st a hg hi hn hx hr;obtain⟨x,m,st1,E1,hm,hJ,hi,hw1⟩:=nR hg hi;rw[←hw1];obtain⟨E1,hw,hi1⟩:=nI hm hi;rw[←hw];simp only[Bool.and_eq_true] at hok;refine Code.wp_mono (Q:=calm Q) (fun e a w q=>by cases e<;>first|exact q|exact q.elim) ?_;refine wp_region_any hc.mixed (oZ (T:=dS C ops) _ _ _ _ ?_);have hi':=hi1.grew (w:={E1.w with drawn:=E1.w.drawn+1}) ⟨rfl,rfl,rfl,Nat.le_refl _,fun _ _=>rfl⟩;exact y_ hc hok.1 (fun st' E' a' hk hi'=>hn st' E' a' hk hi') ops.size _ orders [] (k.s.st x) _ a hok.2 (fun ord ho=>by have:=h ord ho x;unfold runK at this;rw[this];exact hJ) hi' (fun s b hl=>by cases hl)
theorem aD.late(hc:bI P C){id:Nat}{ops:Array Oper}{kn:St→Option R}{kx:Nat→St→Option R}{kr:St→Option R}(k:Cut R)(lits:List Nat)(ord:List (Nat×List Nat))
 (hok:(Region.noSelect ops&&gX C ops lits (Array.replicate ops.size false) ord)=true) (h:∀x,ig C ops ord [] (k.s.st x) kn=k.J x):
 aD P C (.region id ops true) kn kx kr k.go:=by
 intro r Q E0 E st a hg hi hn hx hr;obtain⟨x,m,st1,E1,hm,hJ,hi,hw1⟩:=nR hg hi;rw[←hw1];obtain⟨E1,hw,hi1⟩:=nI hm hi;rw[←hw];simp only[Bool.and_eq_true] at hok;refine Code.wp_mono (Q:=calm Q) (fun e a w q=>by cases e<;>first|exact q|exact q.elim) ?_;refine wp_region_any hc.mixed (oZ (T:=dS C ops) _ _ _ _ ?_);have hi':=hi1.grew (w:={E1.w with drawn:=E1.w.drawn+1}) ⟨rfl,rfl,rfl,Nat.le_refl _,fun _ _=>rfl⟩;refine vE hc hok.1 (fun st' E' a' hk hi'=>hn st' E' a' hk hi') ops.size ord _ _ [] (k.s.st x) _ a hok.2 (by rw[h x];exact hJ) hi' (fun s b hl=>by cases hl) ?_ ?_
 ·refine⟨by simp,by simp,fun i hi=>hi,fun i hi hv=> ?_⟩
  rw[hi] at hv;cases hv
 ·simp[cntF,List.countP_replicate]
def r9(C:Ctx)(s:SS)(res:List ResultVar)(st:St):Option s.Den:=
 match oK C st res with
 |some l=>match gy false false s ⟨bE l,(iX s (bE l) st).ob,st.nx⟩ with
  |some (x,_)=>some x
  |none=>none
 |none=>none
def qY:List (Nat×CS)→Nat→Bool
 |[],_=>false
 |x::r,n=>match Nat.beq x.1 n with
  |true=>match x.2 with
   | .h _=>true
   |_=>false
  |false=>qY r n
def mM(l:List (Nat×CS)):Nat→List ResultVar→St→St
 |_,[],st=>st
 |n,x::r,st=>mM l (n+1) r (match x with
  | .tmp s=>match qY l n with
    |true=>rU st s
    |false=>st
  |_=>st)
theorem rV{N:Nat}{E0:Env}{a:Act}(l:List (Nat×CS)):∀(res:List ResultVar) (n:Nat) (E:Env) (st:St),Inv N E0 E st a→∃E',E'.w=E.w∧Inv N E0 E' (mM l n res st) a
 |[],n,E,st,h=>⟨E,rfl,h⟩
 |x::r,n,E,st,h=>by
  have same:∃E',E'.w=E.w∧Inv N E0 E' (mM l (n+1) r st) a:=rV l r (n+1) E st h;cases x with
  |tmp s=>
   simp only[mM];cases qY l n with
   |false=>exact same
   |true=>
    obtain⟨E1,w1,h1⟩:=AP s h;obtain⟨E2,w2,h2⟩:=rV l r (n+1) E1 _ h1;exact⟨E2,w2.trans w1,h2⟩
  |cell _ _=>exact same
def mQ(C:Ctx)(s:SS)(res:List ResultVar)(st:St):Option s.Den:=r9 C s res (mM s.slots 0 res st)
theorem zV{N:Nat}{E0 E E':Env}{st:St}{a:Act}{m:Mt}{ids:List Nat}(hi:Inv N E0 E st a)(e1:Ext E ⟨[],[],st.ob,st.nx⟩ E' m)(k:lF ids m.fz false m.sig):Fr E0 (into E' m):=by
 refine hi.fr.trans ⟨by rw[show(into E' m).w=E.w from e1.w],by rw[show(into E' m).w=E.w from e1.w],by rw[show(into E' m).w=E.w from e1.w],by rw[show(into E' m).w=E.w from e1.w];exact Nat.le_refl _,
  fun b _ _=>by rw[show(into E' m).w=E.w from e1.w],?_,fun b hb=> .inl (by rw[e1.Z];exact hb),?_,?_⟩
 ·intro j b hb
  simp only[into] at hb;split at hb
  ·rename_i i hi'
   exact .inl ⟨i,by rw[←e1.B];exact hb⟩
  ·simp at hb
 ·intro b hb
  rcases hb with hb|⟨i,_,hb⟩
  ·exact .inl (by rw[←e1.Z];exact hb)
  ·exact .inr (.inl ⟨i,by rw[←e1.B];exact hb⟩)
 ·intro j hj
  have hlt:j<st.nx:=Nat.lt_of_lt_of_le hj hi.nx;show(match aC m.sig j with|some i=>E'.af i|none=>E'.af j)=_;split
  ·rename_i i hi'
   rcases k.own rfl j i hi' with rfl|h1
   ·exact e1.af j hlt
   ·omega
  ·exact e1.af j hlt
theorem y8(hc:bI P C){f:FuncId}{fn:Func}{code:Code}{c:dm}{res:List ResultVar}(hf:P.funcs[f]?=some fn)(hb:fn.body=some code)(hn:fn.name≠ "runtime.NumGoroutine")
 (hN:C.N=fn.ntmps) (hres:fn.results=res.toArray) (hnr:c.fO=res.length) (hna:c.nargs≤fn.ntmps)
 (G:c.aX.Den→St→Option c.au.Den) (hS:∀x,aD P C code (mQ C c.au res) (fun _ _=>none) (mQ C c.au res) (G x)) (hF:∀x,G x (c.aX.st x)=c.F x):
 gH P f c:=by
 intro E args x y hsz zk hr;have hcall:(callFunc f args).run P E.w= .ok (.enter f args) E.w:=by
  unfold callFunc;simp[hf,hn,hb]
 unfold gI;rw[hcall];refine calls_of_wp hf hb ?_;have hi:Inv C.N E E (c.aX.st x) {tmps:=args++Array.replicate (fn.ntmps-args.size) undef,defers:=[]}:=by
  refine⟨⟨fun s=> ?_,hr.ob,hr.lt,hr.dj,hr.nd,hr.bb,hr.zb⟩,Fr.refl E,rfl,?_,Nat.le_max_left _ _⟩
  ·have e:(args++Array.replicate (fn.ntmps-args.size) undef).getD s undef=args.getD s undef:=by
    simp only[Array.getD_eq_getD_getElem?,Array.getElem?_append];split
    ·rfl
    ·rename_i hlt
     rw[Array.getElem?_replicate,show args[s]?=none from Array.getElem?_eq_none (Nat.le_of_not_lt hlt)];split<;>rfl
   rw[e];exact hr.sl s
  ·simp only[Array.size_append,Array.size_replicate];omega
 have yY:∀st E' a,r9 C c.au res st=some y→Inv C.N E E' st a→a.defers=[]∧∃v,(results fn a.tmps).run P E'.w= .ok v E'.w∧
  ∃E2 tm,E2.w=E'.w∧Fr E E2∧aR E2 (c.au.st y) tm∧nu c.fO tm v:=by
  intro st E' a hk hi';unfold r9 at hk;split at hk
  ·rename_i l hl
   split at hk
   ·rename_i y' m hm
    cases hk;obtain⟨vs,h1,h2,h3⟩:=wQ hc hi' res l hl;obtain⟨v,h4,h5⟩:=Bf (P:=P) hres h1 h2;obtain⟨E2,kc⟩:=uq c.au (bE l) hi';have hnx:=kc.nx
    have hr':aR E2 ⟨bE l,(iX c.au (bE l) st).ob,st.nx⟩ vs.toArray:=
     ⟨fun s=>by have:=kc.rep _ _ (h3 s);rw[hnx] at this;simpa using this,by rw[←hnx];exact kc.inv.rep.ob,by rw[←hnx];exact kc.inv.rep.lt,kc.inv.rep.dj,kc.inv.rep.nd,kc.inv.rep.bb,kc.inv.rep.zb⟩
    obtain⟨E1,e1,e2,k,_,hr2⟩:=rA hm hr';exact⟨hi'.defers,v,h4,into E1 m,_,e1.w.trans kc.w,zV (st:=iX c.au (bE l) st) kc.inv (by rw[hnx];exact e1) k,hr2,by rw[hnr];exact h5⟩
   ·cases hk
  ·cases hk
 have fin:∀st E' a,mQ C c.au res st=some y→Inv C.N E E' st a→a.defers=[]∧∃v,(results fn a.tmps).run P E'.w= .ok v E'.w∧
  ∃E2 tm,E2.w=E'.w∧Fr E E2∧aR E2 (c.au.st y) tm∧nu c.fO tm v:=by
  intro st E' a hk hi';obtain⟨E1,w1,h1⟩:=rV c.au.slots res 0 E' st hi';rw[←w1];exact yY _ E1 a hk h1
 exact hS x y _ E E _ _ (by rw[hF];exact zk) hi (fun st E' a hk hi'=>fin st E' a hk hi') (fun i st E' a hk _=>by cases hk) (fun st E' a hk hi'=>fin st E' a hk hi')
end
end Go.Am
end
section
namespace Go.Am
def eu:Ty→List Value→Option (List Value)
 | .int k,.int k' n::r=>match decide (k=k')&&decide (n=0) with
   |true=>some r
   |false=>none
 | .bool,.bool false::r=>some r
 | .str,.string ⟨⟨[]⟩⟩::r=>some r
 | .list _ _,.slice none 0 0::r=>some r
 | .nil,r=>some r
 | .cons a b,r=>match eu a r with
   |some r1=>eu b r1
   |none=>none
 | .st a,r=>eu a r
 | .ptr,v::r=>match v.oneCell' with
   |true=>some r
   |false=>none
 |_,_=>none
theorem Cb:∀(u:Ty) (l r:List Value),eu u l=some r→∃c,l=c++r∧ZR u c:=by
 intro u
 induction u with
 |int k=>
  intro l r h;unfold eu at h;split at h<;>try (cases h;done)
  all_goals first|(rename_i heq;cases heq)|skip
  ·split at h
   ·rename_i hd
    cases h;simp only[Bool.and_eq_true,decide_eq_true_eq] at hd;obtain⟨rfl,rfl⟩:=hd;exact⟨_,rfl,rfl⟩
   ·cases h
 |bool=>
  intro l r h;unfold eu at h;split at h<;>try (cases h;done)
  all_goals first|(rename_i heq;cases heq;done)|skip
  all_goals (cases h;exact⟨[_],rfl,rfl⟩)
 |str=>
  intro l r h;unfold eu at h;split at h<;>try (cases h;done)
  all_goals first|(rename_i heq;cases heq;done)|skip
  all_goals (cases h;exact⟨[_],rfl,rfl⟩)
 |list e t _=>
  intro l r h;unfold eu at h;split at h<;>try (cases h;done)
  all_goals first|(rename_i heq;cases heq;done)|skip
  all_goals (cases h;exact⟨[_],rfl,rfl⟩)
 |nil=>
  intro l r h;unfold eu at h;cases h;exact⟨[],rfl,rfl⟩
 |cons a b iha ihb=>
  intro l r h;simp only[eu] at h;split at h
  ·rename_i r1 h1
   obtain⟨c,rfl,hc⟩:=iha _ _ h1;obtain⟨d,rfl,hd⟩:=ihb _ _ h;exact⟨c++d,by simp,c,d,rfl,hc,hd⟩
  ·cases h
 |st a ih=>
  intro l r h;simp only[eu] at h;exact ih l r h
 |ptr=>
  intro l r h;cases l with
  |nil=>simp[eu] at h
  |cons v l=>
   simp only[eu] at h;split at h
   ·rename_i h1
    cases h;exact⟨[v],rfl,v,rfl,h1⟩
   ·cases h
def rC:Bool→Value→Bool
 |true,.agg _=>true
 |true,_=>false
 |false,.agg _=>false
 |false,_=>true
def v_{α:Type}:Option (List α)→Bool
 |some []=>true
 |_=>false
def nW(P:Program)(t:TypeId)(u:Ty):Bool:=
 match P.info? t with
 |some i=>Nat.beq i.size u.size&&(match i.zero with
  |some z=>v_ (eu u z.cells.toList)&&(rC u.isAgg z&&(Nat.blt 0 u.size&&(Nat.ble i.bytes 32768&&(match decide (u= .int .u8) with
   |true=>Nat.beq i.bytes 1
   |false=>true))))
  |none=>false)
 |none=>false
theorem u_{P:Program}{t:TypeId}{u:Ty}(h:nW P t u=true):gJ P t u:=by
 unfold nW at h;split at h
 ·rename_i i hi
  rw[Bool.and_eq_true] at h;obtain⟨h1,h2⟩:=h;split at h2
  ·rename_i z hz
   simp only[Bool.and_eq_true] at h2;obtain⟨h3,h4,h5,h6,h7⟩:=h2;refine⟨i,z,hi,Nat.eq_of_beq_eq_true h1,hz,?_,Nat.le_of_ble_eq_true h5,Nat.le_of_ble_eq_true h6,?_,?_⟩
   ·unfold v_ at h3
    split at h3
    ·rename_i hq
     obtain⟨c,hc,hr⟩:=Cb _ _ _ hq;rw[hc,List.append_nil];exact hr
    ·cases h3
   ·cases ha:u.isAgg with
    |true=>
     rw[ha] at h4;cases z<;>simp only[rC] at h4<;>first|(cases h4;done)|skip
     simp[mkV,Value.cells]
    |false=>
     rw[ha] at h4;cases z<;>simp only[rC] at h4<;>first|(cases h4;done)|skip
     all_goals simp[mkV,Value.cells]
   ·intro hu
    subst hu;exact Nat.eq_of_beq_eq_true (by simpa using h7)
  ·cases h2
 ·cases h
def lJ(P:Program)(t:TypeId)(a:Ty):Bool:=
 match P.underlying t with
 |some (.struct _)=>a.isAgg
 |some (.array _ _)=>false
 |some _=> !a.isAgg
 |none=>false
theorem pU{P:Program}{t:TypeId}{a:Ty}(h:lJ P t a=true):fB P t a:=by
 unfold lJ at h;unfold fB;split at h
 ·rename_i hu;rw[hu];exact h
 ·cases h
 ·rename_i d h1 h2 hu
  rw[hu];have h:a.isAgg=false:=by simpa using h
  cases d<;>first|exact h|(exact absurd rfl (h1 _))|(exact absurd rfl (h2 _ _))
 ·cases h
def fieldsB(P:Program):List Field→Nat→Ty→Bool
 |[],_,.nil=>true
 |f::fs,off,.cons a b=>Nat.beq f.offset off&&((match P.info? f.type with
  |some i=>Nat.beq i.size a.size
  |none=>false)&&(lJ P f.type a&&(Nat.blt 0 a.size&&(f.name != "_"&&fieldsB P fs (off+a.size) b))))
 |_,_,_=>false
theorem yX{P:Program}:∀(l:List Field) (off:Nat) (u:Ty),fieldsB P l off u=true→kZ P l off u:=by
 intro l
 induction l with
 |nil=>intro off u h;cases u<;>first|trivial|(simp[fieldsB] at h;done)
 |cons f fs ih=>
  intro off u h;cases u<;>simp only[fieldsB] at h<;>first|(cases h;done)|skip
  simp only[Bool.and_eq_true] at h;obtain⟨h1,h2,h3,h4,h5,h6⟩:=h;refine⟨Nat.eq_of_beq_eq_true h1,?_,pU h3,Nat.le_of_ble_eq_true h4,by simpa using h5,ih _ _ h6⟩;split at h2
  ·rename_i i hi;exact⟨i,hi,Nat.eq_of_beq_eq_true h2⟩
  ·cases h2
def sJ(P:Program)(t:TypeId)(u:Ty):Bool:=
 nW P t u&&(match u,P.underlying t with
  | .int k,some (.int k')=>decide (k=k')
  | .bool,some .bool=>true
  | .str,some .string=>true
  | .list e v,some (.slice e')=>Nat.beq e e'&&(nW P e v&&lJ P e v)
  | .st fs,some (.struct fields)=>fieldsB P fields.toList 0 fs&& !P.stoodInHeld t
  | .ptr,some (.struct _)=>false
  | .ptr,some (.array _ _)=>false
  | .ptr,some _=>true
  |_,_=>false)
theorem BV{P:Program}{t:TypeId}{u:Ty}(h:sJ P t u=true):aT P t u:=by
 unfold sJ at h;rw[Bool.and_eq_true] at h;obtain⟨h0,h⟩:=h;refine⟨u_ h0,?_⟩;cases hu:P.underlying t with
 |none=>rw[hu] at h;cases u<;>simp at h
 |some d=>
  rw[hu] at h;cases u with
  |int k=>cases d<;>simp only at h<;>first|(cases h;done)|(obtain rfl:=of_decide_eq_true h;rfl)
  |bool=>cases d<;>simp only at h<;>first|(cases h;done)|rfl
  |str=>cases d<;>simp only at h<;>first|(cases h;done)|rfl
  |list e v=>
   cases d<;>simp only at h<;>first|(cases h;done)|skip
   simp only[Bool.and_eq_true] at h;obtain rfl:=Nat.eq_of_beq_eq_true h.1;exact⟨rfl,u_ h.2.1,pU h.2.2⟩
  |st fs=>
   cases d<;>simp only at h<;>first|(cases h;done)|skip
   simp only[Bool.and_eq_true,Bool.not_eq_true'] at h;exact⟨_,rfl,yX _ _ _ h.1,h.2⟩
  |ptr=>
   refine⟨d,rfl,fun fs e=> ?_,fun n e he=> ?_⟩
   ·subst e;simp at h
   ·subst he;simp at h
  |nil=>cases d<;>simp at h
  |cons a b=>cases d<;>simp at h
def fC(P:Program):Ty→TypeId→List Field→Nat→Bool
 | .int k,t,_,_=>match P.underlying t with
   |some (.int k')=>decide (k=k')
   |_=>false
 | .bool,t,_,_=>match P.underlying t with
   |some .bool=>true
   |_=>false
 | .str,t,_,_=>match P.underlying t with
   |some .string=>true
   |_=>false
 | .st fs,t,_,_=>match P.underlying t with
   |some (.struct fields)=> !P.stoodInHeld t&&(fC P fs 0 fields.toList 0&&fs.isRow)
   |_=>false
 | .nil,_,l,_=>l.isEmpty
 | .cons a b,_,l,off=>match l with
   |f::r=>Nat.beq f.offset off&&(f.name != "_"&&((match P.info? f.type with
    |some i=>Nat.beq i.size a.size
    |none=>false)&&(lJ P f.type a&&(Nat.blt 0 a.size&&(fC P a f.type [] 0&&(fC P b 0 r (off+a.size)&&(!a.isRow&&b.isRow)))))))
   |[]=>false
 | .list _ _,_,_,_=>false
 | .ptr,_,_,_=>false
theorem yM{P:Program}:∀(u:Ty) (t:TypeId) (l:List Field) (off:Nat),fC P u t l off=true→dn P u t l off:=by
 intro u
 induction u with
 |int k=>intro t l off h;simp only[fC] at h;split at h<;>first|(rename_i hu;rw[show k=_ from of_decide_eq_true h];exact hu)|cases h
 |bool=>intro t l off h;simp only[fC] at h;split at h<;>first|(rename_i hu;exact hu)|cases h
 |str=>intro t l off h;simp only[fC] at h;split at h<;>first|(rename_i hu;exact hu)|cases h
 |list e t _=>intro t l off h;cases h
 |ptr=>intro t l off h;cases h
 |nil=>intro t l off h;simp only[fC] at h;exact List.isEmpty_iff.1 h
 |st fs ih=>
  intro t l off h;simp only[fC] at h;split at h
  ·rename_i hu
   simp only[Bool.and_eq_true,Bool.not_eq_true'] at h;exact⟨_,hu,h.1,ih _ _ _ h.2.1,h.2.2⟩
  ·cases h
 |cons a b iha ihb=>
  intro t l off h;simp only[fC] at h;split at h
  ·simp only[Bool.and_eq_true,Bool.not_eq_true'] at h
   obtain⟨h1,h2,h3,h4,h5,h6,h7,h8,h9⟩:=h;refine⟨_,_,rfl,Nat.eq_of_beq_eq_true h1,by simpa using h2,?_,pU h4,Nat.le_of_ble_eq_true h5,iha _ _ _ h6,ihb _ _ _ h7,h8,h9⟩;split at h3
   ·rename_i i hi;exact⟨i,hi,Nat.eq_of_beq_eq_true h3⟩
   ·cases h3
  ·cases h
def kU:List (Nat×Ty)→Nat→Option Ty
 |[],_=>none
 |x::r,n=>match Nat.beq x.1 n with
  |true=>some x.2
  |false=>kU r n
theorem sM{n:Nat}{u:Ty}:∀{l:List (Nat×Ty)},kU l n=some u→(n,u)∈l
 |[],h=>by cases h
 |x::r,h=>by
  simp only[kU] at h;split at h
  ·rename_i e
   cases h;obtain⟨a,b⟩:=x;have:=Nat.eq_of_beq_eq_true e;simp only at this;subst this;exact List.mem_cons_self ..
  ·exact List.mem_cons_of_mem _ (sM h)
def sI(P:Program)(l:List (Nat×Ty)):Bool:=
 l.all fun x=>sJ P x.1 x.2&&(match x.2.isAgg&&x.2.flat with
  |true=>fC P x.2 x.1 [] 0&& !P.eqGuardType P.depth x.1
  |false=>true)
theorem BQ{P:Program}{l:List (Nat×Ty)}(h:sI P l=true):∀t u,kU l t=some u→aT P t u:=by
 intro t u hu;have:=List.all_eq_true.1 h _ (sM hu);rw[Bool.and_eq_true] at this;exact BV this.1
theorem table_eq{P:Program}{l:List (Nat×Ty)}(h:sI P l=true):∀t u,kU l t=some u→u.isAgg=true→u.flat=true→dn P u t [] 0∧P.eqGuardType P.depth t=false:=by
 intro t u hu h1 h2;have:=List.all_eq_true.1 h _ (sM hu);simp only[h1,h2,Bool.and_self,Bool.and_eq_true,Bool.not_eq_true'] at this;exact⟨yM _ _ _ _ this.2.1,this.2.2⟩
end Go.Am
end
section
namespace Go.Am
def Code.l:Code→Code
 | .seq a _=>a
 | .block _ a=>a
 | .loop a=>a
 | .cond _ a _=>a
 |c=>c
def Code.r:Code→Code
 | .seq _ a=>a
 | .cond _ _ a=>a
 |c=>c
def uf(f:Func):Code:=f.body.getD .skip
def q9{R:Type}(id:Nat)(kn:St→Option R)(kx:Nat→St→Option R):Nat→St→Option R:=fun i=>match Nat.beq i id with
 |true=>kn
 |false=>kx i
def qZ{R:Type}(C:Ctx)(x:Operand)(F G:St→Option R):St→Option R:=fun st=>match nE C st x with
 |some t=>cond t (F st) (G st)
 |none=>none
section
variable{P:Program}{C:Ctx}{R:Type}
theorem xL:∀(c:Code) (kn:St→Option R) (kx:Nat→St→Option R) (kr:St→Option R),fq P C (fun _=>none) c kn kx kr:=by
 intro c
 induction c with
 |seq a b iha ihb=>intro kn kx kr;exact⟨iha _ _ _,ihb _ _ _⟩
 |cond x a b iha ihb=>intro kn kx kr;exact⟨iha _ _ _,ihb _ _ _⟩
 |block id a iha=>intro kn kx kr;exact iha _ _ _
 |region id ops draw=>intro kn kx kr;cases draw<;>exact trivial
 |_=>intros;exact trivial
theorem aD.exec(hc:bI P C)(c:Code)(kn:St→Option R)(kx:Nat→St→Option R)(kr:St→Option R):aD P C c kn kx kr (exec C (fun _=>none) c kn kx kr):=
 yT hc c kn kx kr (xL c kn kx kr)
theorem aD.seq{c:Code}{kn:St→Option R}{kx:Nat→St→Option R}{kr:St→Option R}{F G:St→Option R}(e:c= .seq (Code.l c) (Code.r c))(hb:aD P C (Code.r c) kn kx kr G)(ha:aD P C (Code.l c) G kx kr F):
 aD P C c kn kx kr F:=by
 intro r Q E0 E st act h hi hn hx hr;rw[e];exact wp_seq (ha r _ E0 E st act h hi (fun st' E' a' hk hi'=>hb r Q E0 E' st' a' hk hi' hn hx hr) (fun i st E a hk hi'=>hx i st E a hk hi') (fun st E a hk hi'=>hr st E a hk hi'))
theorem aD.block{c:Code}{id:Nat}{kn:St→Option R}{kx:Nat→St→Option R}{kr:St→Option R}{F:St→Option R}(e:c= .block id (Code.l c))(ha:aD P C (Code.l c) kn (q9 id kn kx) kr F):aD P C c kn kx kr F:=by
 intro r Q E0 E st act h hi hn hx hr;rw[e];refine wp_block (ha r _ E0 E st act h hi (fun st' E' a' hk hi'=>hn st' E' a' hk hi') (fun i st' E' a' hk hi'=> ?_) (fun st' E' a' hk hi'=>hr st' E' a' hk hi'));show Exit.inBlock id Q (.exit i) a' E'.w;simp only[Exit.inBlock];unfold q9 at hk;cases e:Nat.beq i id with
 |true=>
  simp only[e] at hk;rw[if_pos (Nat.eq_of_beq_eq_true e)];exact hn st' E' a' hk hi'
 |false=>
  simp only[e] at hk;rw[if_neg (fun e'=>by rw[e'] at e;simp at e)];exact hx i st' E' a' hk hi'
theorem aD.cond{c:Code}{x:Operand}{kn:St→Option R}{kx:Nat→St→Option R}{kr:St→Option R}{F G:St→Option R}(e:c= .cond x (Code.l c) (Code.r c))(ha:aD P C (Code.l c) kn kx kr F)(hb:aD P C (Code.r c) kn kx kr G):
 aD P C c kn kx kr (qZ C x F G):=by
 intro r Q E0 E st act h hi hn hx hr;rw[e];unfold qZ nE at h;split at h
 ·rename_i t ht
  refine wp_cond (lT ht hi.rep) ?_;cases t with
  |true=>exact ha r Q E0 E st act h hi hn hx hr
  |false=>exact hb r Q E0 E st act h hi hn hx hr
 ·cases h
theorem aD.loop'{c:Code}{kn:St→Option R}{kx:Nat→St→Option R}{kr:St→Option R}(e:c= .loop (Code.l c))(s:SS)(J:Nat→s.Den→Option R)(F:Nat→St→Option R)
 (h0:∀x,J 0 x=none) (h:∀n,aD P C (Code.l c) (Cut.go ⟨s,J n⟩) kx kr (F n)) (hF:∀n x,F n (s.st x)=J (n+1) x) (n:Nat):aD P C c kn kx kr (Cut.go ⟨s,J n⟩):=by
 rw[e];exact aD.loop s J F h0 h hF n
theorem aD.draw'(hc:bI P C){c:Code}{id:Nat}{ops:Array Oper}{kn:St→Option R}{kx:Nat→St→Option R}{kr:St→Option R}(e:c= .region id ops true)(k:Cut R)(orders:List (List Nat))
 (hok:(Region.noSelect ops&&eH C ops ops.size (Array.replicate ops.size false) orders)=true) (h:∀ord,ord∈orders→∀x,runK C ops ord (k.s.st x) kn=k.J x):aD P C c kn kx kr k.go:=by
 rw[e];exact aD.draw hc k orders hok h
end
end Go.Am
end
section
namespace Go.Am
theorem Cc{P:Program}{f:FuncId}{c:dm}(h:∀x,c.F x=none):gH P f c:=by
 intro E args x y hsz hF hr;rw[h x] at hF;cases hF
def Code.ops:Code→Array Oper
 | .region _ ops _=>ops
 |_=> #[]
theorem aD.fork{P:Program}{C:Ctx}{R:Type}(hc:bI P C){c:Code}{id:Nat}{kn:St→Option R}{kx:Nat→St→Option R}{kr:St→Option R}(e:c= .region id (Code.ops c) true)(k:Cut R)(orders:List (List Nat))
 (hok:(Region.noSelect (Code.ops c)&&eH C (Code.ops c) (Code.ops c).size (Array.replicate (Code.ops c).size false) orders)=true)
 (h:∀ord,ord∈orders→∀x,runK C (Code.ops c) ord (k.s.st x) kn=k.J x):aD P C c kn kx kr k.go:=
 aD.draw' hc e k orders hok h
theorem aD.zZ{P:Program}{C:Ctx}{R:Type}(hc:bI P C){c:Code}{id:Nat}{kn:St→Option R}{kx:Nat→St→Option R}{kr:St→Option R}(e:c= .region id (Code.ops c) true)(k:Cut R)(lits:List Nat)(ord:List (Nat×List Nat))
 (hok:(Region.noSelect (Code.ops c)&&gX C (Code.ops c) lits (Array.replicate (Code.ops c).size false) ord)=true)
 (h:∀x,ig C (Code.ops c) ord [] (k.s.st x) kn=k.J x):aD P C c kn kx kr k.go:=by
 have:=aD.late (R:=R) hc (id:=id) (ops:=Code.ops c) (kn:=kn) (kx:=kx) (kr:=kr) k lits ord hok h;rw[e];exact this
theorem AO{P:List Nat→Prop}:∀ord,ord∈([]:List (List Nat))→P ord:=fun _ h=>(List.not_mem_nil h).elim
theorem AL{P:List Nat→Prop}{o:List Nat}{l:List (List Nat)}(h:P o)(t:∀ord,ord∈l→P ord):∀ord,ord∈o::l→P ord:=by
 intro ord ho;rcases List.mem_cons.1 ho with rfl|ho
 ·exact h
 ·exact t ord ho
structure Fc(P:Program) where
 f:Nat
 c:dm
 ok:gH P f c
def lN{P:Program}:List (Fc P)→Nat→List dm
 |[],_=>[]
 |x::r,n=>match Nat.beq x.f n with
  |true=>x.c::lN r n
  |false=>lN r n
theorem qi{P:Program}{n:Nat}{c:dm}:∀{l:List (Fc P)},c∈lN l n→gH P n c
 |[],h=>by cases h
 |x::r,h=>by
  simp only[lN] at h;split at h
  ·rename_i e
   rcases List.mem_cons.1 h with rfl|h
   ·rw[←Nat.eq_of_beq_eq_true e];exact x.ok
   ·exact qi h
  ·exact qi h
def ow:List (Nat×Nat×Nat)→TypeId→Option (TypeId×TypeId)
 |[],_=>none
 |x::r,t=>match Nat.beq x.1 t with
  |true=>some x.2
  |false=>ow r t
def ry(P:Program)(l:List (Nat×Nat×Nat)):Bool:=l.all fun x=>match P.underlying x.1 with
 |some (.map k e)=>Nat.beq k x.2.1&&Nat.beq e x.2.2
 |_=>false
theorem vO{P:Program}{t k e:Nat}:∀{l:List (Nat×Nat×Nat)},ry P l=true→ow l t=some (k,e)→P.underlying t=some (.map k e)
 |[],_,h=>by cases h
 |x::r,hb,h=>by
  simp only[ry,List.all_cons,Bool.and_eq_true] at hb;simp only[ow] at h;split at h
  ·rename_i ht
   obtain rfl:=Nat.eq_of_beq_eq_true ht;obtain⟨a,b,c⟩:=x;simp only[Option.some.injEq,Prod.mk.injEq] at h;obtain⟨rfl,rfl⟩:=h;have:=hb.1;split at this
   ·rename_i k' e' hu
    simp only[Bool.and_eq_true] at this;rw[hu,Nat.eq_of_beq_eq_true this.1,Nat.eq_of_beq_eq_true this.2]
   ·cases this
  ·exact vO hb.2 h
theorem Cg{P:Program}{tys:List (Nat×Ty)}{mps:List (Nat×Nat×Nat)}(ht:sI P tys=true)(hp:ry P mps=true)(hm:P.follows .mixedOrders=true)(l:List (Fc P))(N:Nat)(br:Nat→Bool):
 bI P ⟨kU tys,lN l,N,br,ow mps⟩ where
 tt:=BQ ht
 phi:=fun g c hc=>qi hc
 mixed:=hm
 eq:=table_eq ht
 mt:=fun _ _ _=>vO hp
def Code.nC:Code→Nat
 | .block i _=>i
 | .region i _ _=>i
 |_=>0
def Code.test:Code→Operand
 | .cond x _ _=>x
 |_=> .tmp 0
namespace W
variable{P:Program}{C:Ctx}{R:Type}{c:Code}{kn:St→Option R}{kx:Nat→St→Option R}{kr:St→Option R}{F G:St→Option R}
theorem X(hc:bI P C):aD P C c kn kx kr (exec C (fun _=>none) c kn kx kr):=aD.exec hc c kn kx kr
theorem Q(hb:aD P C (Code.r c) kn kx kr G)(ha:aD P C (Code.l c) G kx kr F)(e:c= .seq (Code.l c) (Code.r c):=by kernel_rfl):aD P C c kn kx kr F:=aD.seq e hb ha
theorem B(ha:aD P C (Code.l c) kn (q9 (Code.nC c) kn kx) kr F)(e:c= .block (Code.nC c) (Code.l c):=by kernel_rfl):aD P C c kn kx kr F:=aD.block e ha
theorem D(ha:aD P C (Code.l c) kn kx kr F)(hb:aD P C (Code.r c) kn kx kr G)(e:c= .cond (Code.test c) (Code.l c) (Code.r c):=by kernel_rfl):aD P C c kn kx kr (qZ C (Code.test c) F G):=aD.cond e ha hb
theorem T(h:aD P C c kn kx kr F)(s:SS)(J:s.Den→Option R)(hk:∀x,F (s.st x)=J x:=by intro x;kernel_rfl):aD P C c kn kx kr (Cut.go ⟨s,J⟩):=aD.cut h ⟨s,J⟩ hk
theorem L(s:SS)(J:Nat→s.Den→Option R)(n:Nat){F:Nat→St→Option R}(h:∀n,aD P C (Code.l c) (Cut.go ⟨s,J n⟩) kx kr (F n))
 (hF:∀n x,F n (s.st x)=J (n+1) x:=by intro n x;kernel_rfl) (h0:∀x,J 0 x=none:=by intro x;rfl) (e:c= .loop (Code.l c):=by kernel_rfl):aD P C c kn kx kr (Cut.go ⟨s,J n⟩):=aD.loop' e s J F h0 h hF n
theorem K(hc:bI P C)(s:SS)(J:s.Den→Option R)(orders:List (List Nat))
 (h:∀ord,ord∈orders→∀x,runK C (Code.ops c) ord (s.st x) kn=J x) (e:c= .region (Code.nC c) (Code.ops c) true:=by kernel_rfl)
 (hok:(Region.noSelect (Code.ops c)&&eH C (Code.ops c) (Code.ops c).size (Array.replicate (Code.ops c).size false) orders)=true:=by kernel_rfl):aD P C c kn kx kr (Cut.go ⟨s,J⟩):=aD.fork hc e ⟨s,J⟩ orders hok h
theorem A(hc:bI P C)(s:SS)(J:s.Den→Option R)(lits:List Nat)(ord:List (Nat×List Nat))
 (h:∀x,ig C (Code.ops c) ord [] (s.st x) kn=J x:=by intro x;kernel_rfl) (e:c= .region (Code.nC c) (Code.ops c) true:=by kernel_rfl)
 (hok:(Region.noSelect (Code.ops c)&&gX C (Code.ops c) lits (Array.replicate (Code.ops c).size false) ord)=true:=by kernel_rfl):aD P C c kn kx kr (Cut.go ⟨s,J⟩):=aD.zZ hc e ⟨s,J⟩ lits ord hok h
theorem N{P:List Nat→Prop}:∀ord,ord∈([]:List (List Nat))→P ord:=AO
theorem O{P:List Nat→Prop}{o:List Nat}{l:List (List Nat)}(h:P o)(t:∀ord,ord∈l→P ord):∀ord,ord∈o::l→P ord:=AL h t
theorem ok(hc:bI P C){f:FuncId}(fn:Func){c:dm}{G:c.aX.Den→St→Option c.au.Den}(hS:bI P C→∀x,aD P C (uf fn) (mQ C c.au fn.results.toList) (fun _ _=>none) (mQ C c.au fn.results.toList) (G x))
 (hF:∀x,G x (c.aX.st x)=c.F x:=by intro x;kernel_rfl) (hf:P.funcs[f]?=some fn:=by kernel_rfl) (hb:fn.body=some (uf fn):=by kernel_rfl) (hn:fn.name≠ "runtime.NumGoroutine":=by decide)
 (hN:C.N=fn.ntmps:=by kernel_rfl) (hnr:c.fO=fn.results.toList.length:=by kernel_rfl) (hna:c.nargs.ble fn.ntmps=true:=by kernel_rfl):gH P f c:=
 y8 hc hf hb hn hN rfl hnr (Nat.le_of_ble_eq_true hna) G (hS hc) hF
end W
end Go.Am
end
