/- an abstract machine over the model: what it holds, how it steps, and that its steps are sound -/
import Derived.Test.YtbhpckfakcoojaaAmOps12
import Derived.Laws.StructEq
import Derived.KernelRfl
set_option linter.unnecessarySimpa false
set_option linter.unusedSimpArgs false
set_option linter.unusedVariables false
set_option linter.unusedSectionVars false
section
namespace Go.Am
def Ty.isRow:Ty→Bool
 | .nil=>true
 | .cons _ _=>true
 |_=>false
def fU(P:Program):Ty→TypeId→List Field→Nat→Prop
 | .int k,t,_,_=>P.underlying t=some (.int k)
 | .bool,t,_,_=>P.underlying t=some .bool
 | .str,t,_,_=>P.underlying t=some .string
 | .st fs,t,_,_=>∃fields,P.underlying t=some (.struct fields)∧P.stoodInHeld t=false∧fU P fs 0 fields.toList 0∧fs.isRow=true
 | .nil,_,l,_=>l=[]
 | .cons a b,_,l,off=>∃f r,l=f::r∧f.offset=off∧f.name≠ "_"∧(∃i,P.info? f.type=some i∧i.size=a.size)∧eH P f.type a∧0<a.size∧fU P a f.type [] 0∧fU P b 0 r (off+a.size)∧a.isRow=false∧b.isRow=true
 | .list _ _,_,_,_=>False
 | .ptr,_,_,_=>False
section
variable{P:Program}{w:World}
theorem uu{t:TypeId}{a:Ty}{xs:Array Value}{pre cs post:List Value}{v:Value}(hag:eH P t a)(hi:∃i,P.info? t=some i∧i.size=a.size)(h0:0<a.size)
 (hx:xs.toList=pre++(cs++post)) (hl:cs.length=a.size) (hm:mkV a.isAgg cs v) (u:World):(part t xs pre.length).run P u= .ok v u:=by
 obtain⟨i,h1,h2⟩:=hi;unfold part;rw[Sem.run_bind,uq hag];simp only[Result.andThen_ok];cases ha:a.isAgg with
 |true=>
  rw[ha] at hm;have hm:v= .agg cs.toArray:=hm;simp only[if_true];simp only[sizeOf,typeInfo,Sem.run_bind,run_program,Result.andThen_ok,h1,Sem.run_pure,h2];simp only[hm];have:xs.extract pre.length (pre.length+a.size)=cs.toArray:=by
   apply Array.ext';rw[Array.toList_extract,hx];simp[List.extract,hl]
  simp[this]
 |false=>
  rw[ha] at hm;have hm:cs=[v]:=hm;subst hm;simp only[Bool.false_eq_true,if_false];have:xs[pre.length]?=some v:=by
   rw[←Array.getElem?_toList,hx];simp
  rw[this];rfl
theorem wB{S:Nat→Prop}(w:World):∀(u:Ty),
 (u.isRow=false→∀(d:Nat) (t:TypeId) (x y:u.Den) (cs ds:List Value) (r:Bool) (v v':Value),u.ht≤d→fU P u t [] 0→Rd w S u x cs→Rd w S u y ds→eP u x y=some r→mkV u.isAgg cs v→mkV u.isAgg ds v'→
  (Op.equalIn d t v v').run P w= .ok r w)∧
 (u.isRow=true→∀(d:Nat) (l:List Field) (off:Nat) (x y:u.Den) (xs ys:Array Value) (pre pre' cs ds:List Value) (r:Bool),u.ht≤d→fU P u 0 l off→Rd w S u x cs→Rd w S u y ds→eP u x y=some r→
  xs.toList=pre++cs→ys.toList=pre'++ds→pre.length=off→pre'.length=off→(Op.eqFields d xs ys l).run P w= .ok r w):=by
 intro u
 induction u with
 |int k=>
  refine⟨fun _ d t x y cs ds r v v' hd he h1 h2 hr m1 m2=> ?_,by simp[Ty.isRow]⟩;have h1:cs=[.int k x]:=h1;have h2:ds=[.int k y]:=h2;have m1:cs=[v]:=m1;have m2:ds=[v']:=m2;rw[h1] at m1;rw[h2] at m2;simp only[List.cons.injEq,and_true] at m1 m2;subst m1 m2;obtain⟨d,rfl⟩:∃e,d=e+1:=⟨d-1,by have:(1:Nat)≤d:=hd;omega⟩;simp only[eP,Option.some.injEq] at hr;subst hr;exact run_equalIn_int w d t k k x y he
 |bool=>
  refine⟨fun _ d t x y cs ds r v v' hd he h1 h2 hr m1 m2=> ?_,by simp[Ty.isRow]⟩;have h1:cs=[.bool x]:=h1;have h2:ds=[.bool y]:=h2;have m1:cs=[v]:=m1;have m2:ds=[v']:=m2;rw[h1] at m1;rw[h2] at m2;simp only[List.cons.injEq,and_true] at m1 m2;subst m1 m2;obtain⟨d,rfl⟩:∃e,d=e+1:=⟨d-1,by have:(1:Nat)≤d:=hd;omega⟩;simp only[eP,Option.some.injEq] at hr;subst hr;exact Go.run_equalIn_bool w d t x y he
 |str=>
  refine⟨fun _ d t x y cs ds r v v' hd he h1 h2 hr m1 m2=> ?_,by simp[Ty.isRow]⟩;have h1:cs=[.string x]:=h1;have h2:ds=[.string y]:=h2;have m1:cs=[v]:=m1;have m2:ds=[v']:=m2;rw[h1] at m1;rw[h2] at m2;simp only[List.cons.injEq,and_true] at m1 m2;subst m1 m2;obtain⟨d,rfl⟩:∃e,d=e+1:=⟨d-1,by have:(1:Nat)≤d:=hd;omega⟩;simp only[eP,Option.some.injEq] at hr;subst hr;exact run_equalIn_string w d t x y he
 |list e t _=>exact⟨fun _ d t x y cs ds r v v' hd he=>he.elim,by simp[Ty.isRow]⟩
 |ptr=>exact⟨fun _ d t x y cs ds r v v' hd he=>he.elim,by simp[Ty.isRow]⟩
 |nil=>
  refine⟨by simp[Ty.isRow],fun _ d l off x y xs ys pre pre' cs ds r hd he h1 h2 hr _ _ _ _=> ?_⟩;have he:l=[]:=he;subst he;simp only[eP,Option.some.injEq] at hr;subst hr;rfl
 |st fs ih=>
  refine⟨fun _ d t x y cs ds r v v' hd he h1 h2 hr m1 m2=> ?_,by simp[Ty.isRow]⟩;obtain⟨fields,he1,he2,wY,hrow⟩:=he;have m1:v= .agg cs.toArray:=m1;have m2:v'= .agg ds.toArray:=m2;subst m1 m2;obtain⟨d,rfl⟩:∃e,d=e+1:=⟨d-1,by have:fs.ht+1≤d:=hd;omega⟩;have hf:P.fieldsOf t=fields:=by unfold Program.fieldsOf;rw[he1]
  rw[run_equalIn_agg w d t _ _ (by rw[hf];exact he1) he2,hf];exact ih.2 hrow d fields.toList 0 x y _ _ [] [] cs ds r (by have:fs.ht+1≤d+1:=hd;omega) wY h1 h2 hr (by simp) (by simp) rfl rfl
 |cons a b iha ihb=>
  refine⟨by simp[Ty.isRow],fun _ d l off x y xs ys pre pre' cs ds r hd he h1 h2 hr q1 q2 q3 q4=> ?_⟩;obtain⟨f,l',rfl,e1,e2,e3,e4,e5,e6,e7,rY,hbr⟩:=he;obtain⟨c1,c2,rfl,h11,h12⟩:=h1;obtain⟨d1,d2,rfl,h21,h22⟩:=h2;simp only[eP] at hr;split at hr
  ·rename_i p q hp hq
   simp only[Option.some.injEq] at hr;subst hr;have l1:=aI _ _ _ h11;have l2:=aI _ _ _ h21;have hmk:∀(cs:List Value),cs.length=a.size→a.isRow=false→(a.isAgg=false→a.size=1)→∃v,mkV a.isAgg cs v:=by
    intro cs hl _ h1;cases ha:a.isAgg with
    |true=>exact⟨_,rfl⟩
    |false=>
     rw[h1 ha] at hl
     match cs,hl with
     |[v],_=>exact⟨v,rfl⟩
   have hnr:a.isRow=false∧(a.isAgg=false→a.size=1):=by
    refine⟨rY,fun h=> ?_⟩;cases a<;>first|rfl|(simp[Ty.isAgg] at h;done)|(simp[Ty.isRow] at rY;done)
   obtain⟨v,m1⟩:=hmk c1 l1 hnr.1 hnr.2;obtain⟨v',m2⟩:=hmk d1 l2 hnr.1 hnr.2;have xm:=uu (P:=P) (xs:=xs) (pre:=pre) (post:=c2) e4 e3 e5 (by rw[q1]) l1 m1 w;have xq:=uu (P:=P) (xs:=ys) (pre:=pre') (post:=d2) e4 e3 e5 (by rw[q2]) l2 m2 w;have hd1:a.ht≤d:=Nat.le_trans (Nat.le_max_left _ _) hd;have hd2:b.ht≤d:=Nat.le_trans (Nat.le_max_right _ _) hd;have heq:=iha.1 hnr.1 d f.type x.1 y.1 c1 d1 p v v' hd1 e6 h11 h21 hp m1 m2;have hrest:=ihb.2 hbr d l' (off+a.size) x.2 y.2 xs ys (pre++c1) (pre'++d1) c2 d2 q hd2 e7 h12 h22 hq (by rw[q1];simp) (by rw[q2];simp) (by rw[List.length_append,q3,l1]) (by rw[List.length_append,q4,l2]);simp only[Op.eqFields,e2,ne_eq,not_false_eq_true,if_true,Sem.run_bind];rw[e1,←q3,xm];simp only[Result.andThen_ok];rw[q3,←q4,xq];simp only[Result.andThen_ok,heq];cases p with
   |true=>simp only[Bool.not_true,Bool.false_eq_true,if_false,Bool.true_and];exact hrest
   |false=>simp
  ·cases hr
end
section
variable{P:Program}{R:Type}{C:Ctx}{o:Oper}{st:St}{k:St→Option R}{r:R}{E0 E:Env}{a:Act}{K:Act→World→Prop}{Q:Exit→Act→World→Prop}{g:Bool}
theorem wz(heq:∀t u,C.tt t=some u→u.isAgg=true→u.flat=true→fU P u t [] 0∧P.eqGuardType P.depth t=false){op:BinOp}{t yt:TypeId}{X Y:Operand}{c d:Cn}{x y:DV}(ho:o.op= .binOp op t X Y yt)
 (hx:cK c=some x) (hy:cK d=some y) (hk:ji C o op t x y st k=some r) (h:Inv C.N E0 E st a) (hX:ak E st.ob st.nx c (a.eval X)) (hY:ak E st.ob st.nx d (a.eval Y))
 (hK:∀st' E' v,k st'=some r→Inv C.N E0 E' st' (a.put o.dst v)→aO P C g o a v E.w E'.w→K (a.put o.dst v) E'.w):o.wp P a E.w K Q:=by
 have hnd:∀{c:Cn} {x:DV},cK c=some x→c≠ .dead:=by intro c x h e;subst e;cases h
 obtain⟨cs,h1,m1⟩:=dX hX (hnd hx);obtain⟨ds,h2,m2⟩:=dX hY (hnd hy);obtain⟨r1,_,g1⟩:=jo c x cs hx h1;obtain⟨r2,_,g2⟩:=jo d y ds hy h2;unfold ji at hk;split at hk
 ·rename_i kE
  simp only[Bool.and_eq_true] at kE;obtain⟨c1,c2,c3,c4⟩:=kE;split at hk
  ·rename_i b hb
   have hb:=dB hb;subst hb;split at hk
   ·rename_i q hq
    have hT:C.tt t=some x.ty:=by
     split at c1
     ·rename_i u hu;rw[hu,of_decide_eq_true c1]
     ·cases c1
    obtain⟨e1,e2⟩:=heq _ _ hT c2 c3;rw[←g1,c2] at m1;rw[←g2] at m2;have m2:mkV x.ty.isAgg ds (a.eval Y):=m2;rw[c2] at m2;have o7:a.eval X= .agg cs.toArray:=m1;have sI:a.eval Y= .agg ds.toArray:=m2;have hrow:x.ty.isRow=false:=by
     generalize x.ty=u at c2;cases u<;>first|rfl|cases c2
    have hrun:∀u,(Op.equalIn 10000 t (.agg cs.toArray) (.agg ds.toArray)).run P u= .ok q u:=fun u=>
     (wB (S:=fun _=>False) u x.ty).1 hrow 10000 t x.v b cs ds q _ _ (Nat.le_trans (Nat.le_of_ble_eq_true c4) (by omega)) e1 (gq _ c3 _ _ r1) (gq _ c3 _ _ r2) hq (by rw[c2];rfl) (by rw[c2];rfl)
    split at hk
    ·exact aQ hk h (fun u _=>by unfold execOp;simp[ho,o7,sI,run_eqGuard_agg u _ t X Y _ _ e2,run_eql_struct,hrun]) (gu ..) hK
    ·exact aQ hk h (fun u _=>by unfold execOp;simp[ho,o7,sI,run_eqGuard_agg u _ t X Y _ _ e2,run_neq_struct,hrun]) (gu ..) hK
    ·cases hk
   ·cases hk
  ·cases hk
 ·cases hk
end
end Go.Am
end
section
namespace Go.Am
structure Ext(E:Env)(m:Mt)(E':Env)(m':Mt):Prop where
 w:E'.w=E.w
 Z:E'.Z=E.Z
 B:E'.B=E.B
 af:∀i,i<m.nx→E'.af i=E.af i
 nx:m.nx≤m'.nx
 ob:∀i,i<m.nx→m'.ob i=m.ob i
 sig:∀j i,aA m.sig j=some i→aA m'.sig j=some i
 fz:∀i,i∈m.fz→i∈m'.fz
theorem Ext.refl(E:Env)(m:Mt):Ext E m E m:=⟨rfl,rfl,rfl,fun _ _=>rfl,Nat.le_refl _,fun _ _=>rfl,fun _ _ h=>h,fun _ h=>h⟩
theorem Ext.trans{E E1 E2:Env}{m m1 m2:Mt}(h:Ext E m E1 m1)(k:Ext E1 m1 E2 m2):Ext E m E2 m2:=
 ⟨k.w.trans h.w,k.Z.trans h.Z,k.B.trans h.B,fun i hi=>(k.af i (Nat.lt_of_lt_of_le hi h.nx)).trans (h.af i hi),Nat.le_trans h.nx k.nx,
  fun i hi=>(k.ob i (Nat.lt_of_lt_of_le hi h.nx)).trans (h.ob i hi),fun j i e=>k.sig j i (h.sig j i e),fun i e=>k.fz i (h.fz i e)⟩
theorem Ext.ev{E E':Env}{m m':Mt}(h:Ext E m E' m'):Ev E m.ob m.nx E' m'.ob m'.nx where
 le:=h.nx
 af:=h.af
 z:=fun b hb=>by rw[h.Z];exact hb
 hz:=fun b _=>by rw[h.w]
 lay:=fun i hi u hu=>by rw[h.ob i hi] at hu;exact hu
 bx:=fun i hi hu=>by rw[h.ob i hi] at hu;exact hu
 obs:=fun i hi fz v e t xs ho=>⟨fz,v,xs,by rw[h.ob i hi] at ho;exact ho,rfl,Nat.le_refl _,fun _=>⟨rfl,fun b hb=>⟨by rw[h.w],by rw[h.B,h.Z];exact hb⟩⟩⟩
structure Vw(E:Env)(m:Mt)(F:Env)(nx:Nat):Prop where
 w:F.w=E.w
 z:∀b,E.Z b→F.Z b
 fz:∀i,i∈m.fz→∀b,b∈E.B i→F.Z b
 af:∀j i,aA m.sig j=some i→j<nx∧F.af j=E.af i
 lt:∀j i,aA m.sig j=some i→i<m.nx
theorem Vw.back{E E':Env}{m m':Mt}{F:Env}{nx:Nat}(h:Ext E m E' m')(v:Vw E' m' F nx)(hl:∀j i,aA m.sig j=some i→i<m.nx):Vw E m F nx where
 w:=v.w.trans h.w
 z:=fun b hb=>v.z b (by rw[h.Z];exact hb)
 fz:=fun i hi b hb=>v.fz i (h.fz i hi) b (by rw[h.B];exact hb)
 af:=fun j i e=>⟨(v.af j i (h.sig j i e)).1,((v.af j i (h.sig j i e)).2).trans (h.af i (hl j i e))⟩
 lt:=hl
def qL(m:Mt):Prop:=∀j i,aA m.sig j=some i→i<m.nx
theorem uN{tmp:Bool}{E:Env}{tq:Nat}:∀(c:Cn) (m m':Mt) (d:DV) (cs:List Value),bG tmp m c=some (d,m')→(∀i,aK E m.ob tq i (m.ob i))→
 av E m.ob tq c false cs→m'.sig=m.sig∧m'.ob=m.ob∧m'.nx=m.nx∧(∀i,i∈m.fz→i∈m'.fz)∧d.ty.isAgg=c.isAgg∧
 ∀F:Env,F.w=E.w→(∀b,E.Z b→F.Z b)→(∀i,i∈m'.fz→∀b,b∈E.B i→F.Z b)→Rd F.w F.Z d.ty d.v cs:=by
 intro c
 induction c with
 |ro b d0=>
  intro m m' d cs h ah hc;cases b with
  |none=>
   simp only[bG,Option.some.injEq,Prod.mk.injEq] at h;obtain⟨rfl,rfl⟩:=h;exact⟨rfl,rfl,rfl,fun _ h=>h,rfl,fun F hw hz hf=>aM hz (fun b _=>by rw[hw]) _ _ _ (hc.2.2 trivial)⟩
  |some p=>
   obtain⟨i,aj⟩:=p;simp only[bG] at h;split at h
   ·rename_i fz v e t xs hi
    split at h
    ·rename_i hv
     cases h;have hv:=Nat.eq_of_beq_eq_true hv;subst hv;refine⟨rfl,rfl,rfl,fun _ h=>List.mem_cons_of_mem _ h,rfl,fun F hw hz hf=> ?_⟩;refine aM (fun b hb=> ?_) (fun b _=>by rw[hw]) _ _ _ (hc.2.2 (by simp only[live,fresh,hi]));rcases hb with hb|hb
     ·exact hf i (List.mem_cons_self ..) b hb
     ·exact hz b hb
    ·cases h
   ·cases h
 |bD e t=>
  intro m m' d cs h ah hc;simp only[bG,Option.some.injEq,Prod.mk.injEq] at h;obtain⟨rfl,rfl⟩:=h;have hc:cs=[.slice none 0 0]:=hc;refine⟨rfl,rfl,rfl,fun _ h=>h,rfl,fun F hw hz hf=> ?_⟩;exact⟨none,0,0,[],hc,rfl,Nat.le_refl _,rfl,by simp,by intro j u hu;simp at hu,by omega,fun _=>rfl⟩
 |h i=>
  intro m m' d cs h ah hc;simp only[bG] at h;have ho:=ah i;split at h
  ·rename_i fz v e t xs hi
   rw[hi] at ho;have hcs:cs=[E.af i]:=hc.2.2;subst hcs;cases fz with
   |own=>
    cases h;refine⟨rfl,rfl,rfl,fun _ h=>List.mem_cons_of_mem _ h,rfl,fun F hw hz hf=> ?_⟩;exact aM (fun b hb=>hf i (List.mem_cons_self ..) b hb) (fun b _=>by rw[hw]) _ _ _ (dL _ _ _ _ ho)
   |aU=>
    cases h;refine⟨rfl,rfl,rfl,fun _ h=>List.mem_cons_of_mem _ h,rfl,fun F hw hz hf=> ?_⟩;exact aM (fun b hb=>hz b hb) (fun b _=>by rw[hw]) _ _ _ ho.1
   |shl=>
    cases h;refine⟨rfl,rfl,rfl,fun _ h=>List.mem_cons_of_mem _ h,rfl,fun F hw hz hf=> ?_⟩;exact aM (fun b hb=>hb.elim (fun hb=>hf i (List.mem_cons_self ..) b hb) (hz b)) (fun b _=>by rw[hw]) _ _ _ (lu ho)
   |hole _ _ _=>cases h
  ·cases h
 |sub i ix path aj d0=>
  intro m m' d cs h ah hc;simp only[bG] at h;split at h
  ·rename_i fz v e t xs hi
   split at h
   ·rename_i hv
    cases h;have hv:=Nat.eq_of_beq_eq_true hv;obtain⟨_,_,_,_,h5⟩:=hc;rw[hi] at h5;have h6:=(h5 hv).1;refine⟨rfl,rfl,rfl,fun _ h=>List.mem_cons_of_mem _ h,rfl,fun F hw hz hf=> ?_⟩;refine aM (fun b hb=> ?_) (fun b _=>by rw[hw]) _ _ _ h6;rcases hb with hb|hb
    ·exact hf i (List.mem_cons_self ..) b hb
    ·exact hz b hb
   ·cases h
  ·cases h
 |nil=>
  intro m m' d cs h ah hc;simp only[bG,Option.some.injEq,Prod.mk.injEq] at h;obtain⟨rfl,rfl⟩:=h;exact⟨rfl,rfl,rfl,fun _ h=>h,rfl,fun F hw hz hf=>hc⟩
 |cons a b iha ihb=>
  intro m m' d cs h ah hc;simp only[bG] at h;split at h
  ·rename_i x m1 h1
   split at h
   ·rename_i y m2 h2
    cases h;obtain⟨ca,cb,rfl,hca,hcb⟩:=hc;obtain⟨s1,o1,n1,f1,g1,k1⟩:=iha _ _ _ _ h1 ah hca;obtain⟨s2,o2,n2,f2,g2,k2⟩:=ihb _ _ _ _ h2 (by rw[o1];exact ah) (by rw[o1];exact hcb);exact⟨s2.trans s1,o2.trans o1,n2.trans n1,fun i h=>f2 i (f1 i h),rfl,fun F hw hz hf=>⟨ca,cb,rfl,k1 F hw hz (fun i hi=>hf i (f2 i hi)),k2 F hw hz hf⟩⟩
   ·cases h
  ·cases h
 |agg a ih=>
  intro m m' d cs h ah hc;simp only[bG] at h;split at h
  ·rename_i x m1 h1
   cases h;obtain⟨s1,o1,n1,f1,g1,k1⟩:=ih _ _ _ _ h1 ah hc;exact⟨s1,o1,n1,f1,rfl,fun F hw hz hf=>k1 F hw hz hf⟩
  ·cases h
 |pre i aj e0 t0 ys=>
  intro m m' d cs h ah hc;simp only[bG] at h;split at h
  ·rename_i fz v e t xs hi
   split at h
   ·rename_i hv
    cases h;have hv:=Nat.eq_of_beq_eq_true hv;subst hv;refine⟨rfl,rfl,rfl,fun _ h=>List.mem_cons_of_mem _ h,rfl,fun F hw hz hf=> ?_⟩;refine aM (fun b hb=> ?_) (fun b _=>by rw[hw]) _ _ _ (hc.1.2.2 (by simp only[live,fresh,hi]));rcases hb with hb|hb
    ·exact hf i (List.mem_cons_self ..) b hb
    ·exact hz b hb
   ·cases h
  ·cases h
 |p i=>intro m m' d cs h ah hc;simp[bG] at h
 |addr _ _ _ _ _ _=>intro m m' d cs h ah hc;simp[bG] at h
 |aV b d0=>intro m m' d cs h ah hc;simp[bG] at h
 |fn f c _=>intro m m' d cs h ah hc;simp[bG] at h
 |bX c _=>intro m m' d cs h ah hc;simp[bG] at h
 |cst v=>intro m m' d cs h ah hc;simp[bG] at h
 |any=>intro m m' d cs h ah hc;simp[bG] at h
 |dead=>intro m m' d cs h ah hc;simp[bG] at h
theorem Ext.same{E:Env}{m m':Mt}(s:m'.sig=m.sig)(o:m'.ob=m.ob)(n:m'.nx=m.nx)(f:∀i,i∈m.fz→i∈m'.fz):Ext E m E m':=
 ⟨rfl,rfl,rfl,fun _ _=>rfl,by rw[n];exact Nat.le_refl _,fun i _=>by rw[o],fun j i h=>by rw[s];exact h,f⟩
structure bq(E:Env)(m:Mt)(tm:Array Value):Prop where
 rep:aT E ⟨fun _=> .dead,m.ob,m.nx⟩ tm
 lt:qL m
theorem bq.ob{E:Env}{m:Mt}{tm:Array Value}(h:bq E m tm)(i:Nat):aK E m.ob m.nx i (m.ob i):=h.rep.ob i
theorem bq.same{E:Env}{m m':Mt}{tm:Array Value}(h:bq E m tm)(s:m'.sig=m.sig)(o:m'.ob=m.ob)(n:m'.nx=m.nx):bq E m' tm:=
 ⟨by rw[o,n];exact h.rep,fun j i e=>by rw[n];rw[s] at e;exact h.lt j i e⟩
theorem dz{j i k:Nat}{s:List (Nat×Nat)}:aA ((j,i)::s) k=if j=k then some i else aA s k:=by
 simp only[aA];by_cases e:j=k
 ·subst e;simp
 ·have:Nat.beq j k=false:=by
   cases h:Nat.beq j k with
   |false=>rfl
   |true=>exact absurd (Nat.eq_of_beq_eq_true h) e
  simp[this,e]
theorem pV{E:Env}{m m':Mt}{tm:Array Value}{j i:Nat}(h:m.put j i=some m')(ok:bq E m tm)(hi:i<m.nx):
 Ext E m E m'∧bq E m' tm∧aA m'.sig j=some i:=by
 unfold Mt.put at h;split at h
 ·rename_i i' hs
  split at h
  ·rename_i hb
   obtain rfl:=Nat.eq_of_beq_eq_true hb;cases h;exact⟨Ext.refl _ _,ok,hs⟩
  ·cases h
 ·rename_i hs
  cases h;refine⟨⟨rfl,rfl,rfl,fun _ _=>rfl,Nat.le_refl _,fun _ _=>rfl,fun k l e=> ?_,fun _ h=>h⟩,⟨ok.rep,fun k l e=> ?_⟩,?_⟩
  ·show aA ((j,i)::m.sig) k=some l
   rw[dz];split
   ·rename_i e';subst e';rw[hs] at e;cases e
   ·exact e
  ·have e:aA ((j,i)::m.sig) k=some l:=e
   rw[dz] at e;split at e
   ·cases e;exact hi
   ·exact ok.lt k l e
  ·show aA ((j,i)::m.sig) j=some i
   rw[dz,if_pos rfl]
theorem sV{E:Env}{m:Mt}{tm:Array Value}{j:Nat}{o:Ob}{v:Value}(ok:bq E m tm)(hs:aA m.sig j=none)
 (ho:∀F:Env,F.af m.nx=v→F.B m.nx=[]→∀ob nx,aK F ob nx m.nx o):
 Ext E m {E with af:=upd E.af m.nx v} {m with sig:=(j,m.nx)::m.sig,ob:=upd m.ob m.nx o,nx:=m.nx+1}∧
 bq {E with af:=upd E.af m.nx v} {m with sig:=(j,m.nx)::m.sig,ob:=upd m.ob m.nx o,nx:=m.nx+1} tm:=by
 have rW:Ext E m {E with af:=upd E.af m.nx v} {m with sig:=(j,m.nx)::m.sig,ob:=upd m.ob m.nx o,nx:=m.nx+1}:=
  ⟨rfl,rfl,rfl,fun i hi=>aD _ _ _ _ (by omega),Nat.le_succ _,fun i hi=>aD _ _ _ _ (by omega),fun k l e=>by
   show aA ((j,m.nx)::m.sig) k=some l;rw[dz];split
   ·rename_i e';subst e';rw[hs] at e;cases e
   ·exact e,fun _ h=>h⟩
 have hB:E.B m.nx=[]:=by
  have:=ok.rep.ob m.nx;have hd:=ok.rep.lt m.nx (Nat.le_refl _);simp only at hd this;rw[hd] at this;exact this
 refine⟨rW,⟨⟨fun s=>trivial,fun i=> ?_,fun i hi=> ?_,ok.rep.dj,ok.rep.nd,ok.rep.bb,ok.rep.zb⟩,fun k l e=> ?_⟩⟩
 ·by_cases e:i=m.nx
  ·subst e
   show aK _ _ _ _ (upd m.ob m.nx o m.nx);rw[upd_same];exact ho {E with af:=upd E.af m.nx v} (upd_same _ _ _) hB _ _
  ·show aK _ _ _ _ (upd m.ob m.nx o i)
   rw[aD _ _ _ _ e];exact dR rW.ev (aD _ _ _ _ e) rfl (fun _ _=>rfl) (ok.rep.ob i)
 ·have hi':m.nx+1≤i:=hi
  show upd m.ob m.nx o i=_;rw[aD _ _ _ _ (by omega)];exact ok.rep.lt i (by show m.nx≤i;omega)
 ·have e:aA ((j,m.nx)::m.sig) k=some l:=e
  rw[dz] at e;show l<m.nx+1;split at e
  ·cases e;omega
  ·have:=ok.lt k l e;omega
theorem vT:∀(cs:CS) (x:cs.Den),cs.cn x≠ .dead
 | .ro _,_,h| .h _,_,h| .p _,_,h| .aV _,_,h| .any,_,h| .fn _ _,_,h| .nil,_,h| .cons _ _,_,h| .agg _,_,h=>by simp[CS.cn] at h
theorem l9{tmp:Bool}{tm:Array Value}:∀(cs:CS) (c:Cn) (m m':Mt) (x:cs.Den) (E:Env) (md:Bool) (vs:List Value),bz tmp m cs c=some (x,m')→bq E m tm→
 av E m.ob m.nx c md vs→(md=true→cs.caps=true)→
 ∃E',Ext E m E' m'∧bq E' m' tm∧(cs.cn x).isAgg=c.isAgg∧∀F ob nx,Vw E' m' F nx→av F ob nx (cs.cn x) md vs:=by
 intro cs
 induction cs with
 |ro t=>
  intro c m m' x E md vs h ok hc hm;cases md with
  |true=>simp[CS.caps] at hm
  |false=>
   simp only[bz] at h;split at h
   ·rename_i d m1 h1
    split at h
    ·rename_i y h2
     cases h;have:=dB h2;subst this;obtain⟨s1,o1,n1,f1,g1,k1⟩:=uN c m m' _ vs h1 ok.ob hc;refine⟨E,Ext.same s1 o1 n1 f1,ok.same s1 o1 n1,g1,fun F ob nx v=> ?_⟩;have hrd:=k1 F v.w v.z v.fz;exact⟨aI _ _ _ hrd,trivial,fun _=>hrd⟩
    ·cases h
   ·cases h
 |h j=>
  intro c m m' x E md vs h ok hc hm;cases c<;>(try simp only[bz] at h)<;>try (cases h;done)
  ·rename_i e t
   split at h
   ·cases h
   ·rename_i hs
    cases h;have hc:vs=[.slice none 0 0]:=by cases md<;>exact hc
    obtain⟨h1,h2⟩:=sV (o:= .sl .own 0 e t []) (v:= .slice none 0 0) ok hs (fun F hr hB ob nx=>by
     show Ow F.w (.list e t) [] [F.af m.nx] (F.B m.nx);rw[hr,hB];exact⟨.slice none 0 0,[],[],rfl,⟨by simp,.inl ⟨rfl,rfl⟩⟩,⟨rfl,rfl⟩,by simp[Value.ownBlock]⟩)
    refine⟨_,h1,h2,rfl,fun F ob nx v=> ?_⟩;obtain⟨k1,k2⟩:=v.af j m.nx (by show aA ((j,m.nx)::m.sig) j=_;rw[dz,if_pos rfl]);have k2:=k2.trans (upd_same E.af m.nx (Value.slice none 0 0));have:av F ob nx (.h j) md vs↔j<nx∧(F.af j).oneCell'=true∧vs=[F.af j]:=by cases md<;>exact Iff.rfl
    exact this.2 ⟨k1,by rw[k2];rfl,by rw[k2];exact hc⟩
  ·rename_i i
   have key:∀m1,m.put j i=some m1→some ((),m1)=some (x,m')→∃E',Ext E m E' m'∧bq E' m' tm∧((CS.h j).cn x).isAgg=(Cn.h i).isAgg∧∀F ob nx,Vw E' m' F nx→av F ob nx ((CS.h j).cn x) md vs:=by
    intro m1 h1 h;cases h;have hc:i<m.nx∧(E.af i).oneCell'=true∧vs=[E.af i]:=by cases md<;>exact hc
    obtain⟨h2,h3,h4⟩:=pV h1 ok hc.1;refine⟨E,h2,h3,rfl,fun F ob nx v=> ?_⟩;obtain⟨k1,k2⟩:=v.af j i h4;have:av F ob nx (.h j) md vs↔j<nx∧(F.af j).oneCell'=true∧vs=[F.af j]:=by cases md<;>exact Iff.rfl
    exact this.2 ⟨k1,by rw[k2];exact hc.2.1,by rw[k2];exact hc.2.2⟩
   split at h
   ·split at h
    ·rename_i m1 h1
     exact key m1 h1 h
    ·cases h
   ·split at h
    ·rename_i m1 h1
     exact key m1 h1 h
    ·cases h
   ·cases h
 |p j=>
  intro c m m' x E md vs h ok hc hm;cases c<;>(try simp only[bz] at h)<;>try (cases h;done)
  ·rename_i i
   split at h
   ·rename_i m1 h1
    cases h;have hc:i<m.nx∧(E.af i).oneCell'=true∧vs=[E.af i]:=by cases md<;>exact hc
    obtain⟨h2,h3,h4⟩:=pV h1 ok hc.1;refine⟨E,h2,h3,rfl,fun F ob nx v=> ?_⟩;obtain⟨k1,k2⟩:=v.af j i h4;have:av F ob nx (.p j) md vs↔j<nx∧(F.af j).oneCell'=true∧vs=[F.af j]:=by cases md<;>exact Iff.rfl
    exact this.2 ⟨k1,by rw[k2];exact hc.2.1,by rw[k2];exact hc.2.2⟩
   ·cases h
  ·rename_i v0
   have hv0:v0= .pointer none:=by
    cases v0 with
    |pointer a=>cases a with
     |none=>rfl
     |some a=>simp[bz] at h
    |_=>simp[bz] at h
   subst hv0;simp only[bz] at h;split at h
   ·cases h
   ·rename_i hs
    cases h;have hc:vs=[.pointer none]:=by cases md<;>exact hc.2
    obtain⟨h1,h2⟩:=sV (o:= .aW false .nil .nil) (v:= .pointer none) ok hs (fun F hr hB ob nx=>⟨hr,hB,[],rfl⟩);refine⟨_,h1,h2,rfl,fun F ob nx v=> ?_⟩;obtain⟨k1,k2⟩:=v.af j m.nx (by show aA ((j,m.nx)::m.sig) j=_;rw[dz,if_pos rfl]);have k2:=k2.trans (upd_same E.af m.nx (Value.pointer none));have:av F ob nx (.p j) md vs↔j<nx∧(F.af j).oneCell'=true∧vs=[F.af j]:=by cases md<;>exact Iff.rfl
    exact this.2 ⟨k1,by rw[k2];rfl,by rw[k2];exact hc⟩
 |any=>
  intro c m m' x E md vs h ok hc hm;have fin:(∃v:Value,v.oneCell'=true∧vs=[v])→m'=m→c.isAgg=false→∃E',Ext E m E' m'∧bq E' m' tm∧(CS.any.cn x).isAgg=c.isAgg∧∀F ob nx,Vw E' m' F nx→av F ob nx (CS.any.cn x) md vs:=by
   intro hv hm hca;subst hm;exact⟨E,Ext.refl _ _,ok,hca.symm,fun F ob nx v=>by cases md<;>exact hv⟩
  cases c<;>(try simp only[bz] at h)<;>try (cases h;done)
  ·cases h
   have hc:vs=[.slice none 0 0]:=by cases md<;>exact hc
   exact fin ⟨_,rfl,hc⟩ rfl rfl
  ·rename_i i
   cases h;have hc:i<m.nx∧(E.af i).oneCell'=true∧vs=[E.af i]:=by cases md<;>exact hc
   exact fin ⟨_,hc.2.1,hc.2.2⟩ rfl rfl
  ·cases h
   have hc:∃v:Value,v.oneCell'=true∧vs=[v]:=by cases md<;>exact hc
   exact fin hc rfl rfl
 |aV t=>
  intro c m m' x E md vs h ok hc hm;have key:∀F ob nx (y:t.Den) md,av F ob nx (.aV none ⟨t,y⟩) md vs↔(True∧∃ad,vs=[.pointer (some ad)]∧ad.spot=none∧(True→F.Z ad.block∧∃f,Rd F.w F.Z t y f∧gP F.w (some ad) f)):=by
   intro F ob nx y md;cases md<;>exact Iff.rfl
  cases c<;>(try simp only[bz] at h)<;>try (cases h;done)
  ·rename_i i
   have hc:i<m.nx∧(E.af i).oneCell'=true∧vs=[E.af i]:=by cases md<;>exact hc
   split at h
   ·rename_i u c0 hi
    split at h
    ·rename_i d m1 h1
     split at h
     ·rename_i y hy
      cases h;have:=dB hy;subst this;have ah:=ok.ob i;rw[hi] at ah;obtain⟨g,cs,ct,b1,b2,b3,b4,b5⟩:=ah;obtain⟨s1,o1,n1,f1,g1,k1⟩:=uN c0 m m1 _ cs h1 ok.ob b3;refine⟨E,Ext.same s1 o1 n1 (fun i hi=>List.mem_cons_of_mem _ (f1 i hi)),ok.same s1 o1 n1,rfl,fun F ob nx v=> ?_⟩;have hrd:=k1 F v.w v.z (fun i hi=>v.fz i (List.mem_cons_of_mem _ hi));refine(key F ob nx _ md).2 ⟨trivial,⟨g,0,none⟩,by rw[hc.2.2,b1],rfl,fun _=>⟨v.fz i (List.mem_cons_self ..) g (by rw[b5];simp),cs,hrd,?_⟩⟩;intro j u' hu;refine⟨_,rfl,?_⟩;rw[v.w];simp only[World.cell?,b2,Nat.zero_add];simpa using hu
     ·cases h
    ·cases h
   ·cases h
  ·rename_i b d
   have hc:bO m.ob m.nx b∧∃ad,vs=[.pointer (some ad)]∧ad.spot=none∧
    (live m.ob b→src E b ad.block∧∃f,Rd E.w (src E b) d.ty d.v f∧gP E.w (some ad) f):=by cases md<;>exact hc
   obtain⟨_,ad,h1,h2,h3⟩:=hc;cases b with
   |none=>
    simp only at h;split at h
    ·rename_i y hy
     cases h;have:=dB hy;subst this;refine⟨E,Ext.refl _ _,ok,rfl,fun F ob nx v=> ?_⟩;obtain⟨h4,f,h5,h6⟩:=h3 trivial;refine(key F ob nx _ md).2 ⟨trivial,ad,h1,h2,fun _=>⟨v.z _ h4,f,aM v.z (fun b _=>by rw[v.w]) _ _ _ h5,by rw[v.w];exact h6⟩⟩
    ·cases h
   |some p=>
    obtain⟨i,aj⟩:=p;simp only at h;split at h
    ·rename_i fz v0 e t0 xs hi
     split at h
     ·rename_i hv
      obtain rfl:=Nat.eq_of_beq_eq_true hv;split at h
      ·rename_i y hy
       cases h;have:=dB hy;subst this;refine⟨E,⟨rfl,rfl,rfl,fun _ _=>rfl,Nat.le_refl _,fun _ _=>rfl,fun _ _ h=>h,fun _ h=>List.mem_cons_of_mem _ h⟩,⟨ok.rep,ok.lt⟩,rfl,fun F ob nx v=> ?_⟩;obtain⟨h4,f,h5,h6⟩:=h3 (by simp only[live,fresh,hi]);have hS:∀b,src E (some (i,v0)) b→F.Z b:=fun b hb=>by
        rcases hb with hb|hb
        ·exact v.fz i (List.mem_cons_self ..) b hb
        ·exact v.z b hb
       refine(key F ob nx _ md).2 ⟨trivial,ad,h1,h2,fun _=>⟨hS _ h4,f,aM hS (fun b _=>by rw[v.w]) _ _ _ h5,by rw[v.w];exact h6⟩⟩
      ·cases h
     ·cases h
    ·cases h
 |fn f cs ih=>
  intro c m m' x E md vs h ok hc hm;cases c<;>(try simp only[bz] at h)<;>try (cases h;done)
  rename_i g c;split at h
  ·rename_i hg
   simp only[Bool.and_eq_true] at hg;obtain rfl:=Nat.eq_of_beq_eq_true hg.1;have hc:∃ws,vs=[.func (.func f) #[] ws.toArray]∧av E m.ob m.nx c true ws:=by cases md<;>exact hc
   obtain⟨ws,h1,h2⟩:=hc;obtain⟨E',e1,e2,e3,e4⟩:=ih c m m' x E true ws h ok h2 (fun _=>hg.2);refine⟨E',e1,e2,rfl,fun F ob nx v=> ?_⟩;have:=e4 F ob nx v;cases md<;>exact⟨ws,h1,this⟩
  ·cases h
 |nil=>
  intro c m m' x E md vs h ok hc hm;cases c<;>(try simp only[bz] at h)<;>try (cases h;done)
  cases h;exact⟨E,Ext.refl _ _,ok,rfl,fun F ob nx v=>by cases md<;>exact hc⟩
 |cons a b iha ihb=>
  intro c m m' x E md vs h ok hc hm;cases c<;>(try simp only[bz] at h)<;>try (cases h;done)
  rename_i ca cb;split at h
  ·rename_i u m1 h1
   split at h
   ·rename_i y m2 h2
    cases h;cases md with
    |false=>
     obtain⟨va,vb,rfl,ha,hb⟩:=hc;obtain⟨E1,e1,e2,e3,e4⟩:=iha ca m m1 u E false va h1 ok ha (by simp);obtain⟨E2,f1,f2,f3,f4⟩:=ihb cb m1 m' y E1 false vb h2 e2 (dV e1.ev _ _ _ hb) (by simp);exact⟨E2,e1.trans f1,f2,rfl,fun F ob nx v=>⟨va,vb,rfl,e4 F ob nx (v.back f1 e2.lt),f4 F ob nx v⟩⟩
    |true=>
     obtain⟨v0,vb,va,rfl,ha,hmk,hb⟩:=hc;obtain⟨E1,e1,e2,e3,e4⟩:=iha ca m m1 u E false va h1 ok ha (by simp);obtain⟨E2,f1,f2,f3,f4⟩:=ihb cb m1 m' y E1 true vb h2 e2 (dV e1.ev _ _ _ hb) (fun _=>by simpa[CS.caps] using hm rfl);exact⟨E2,e1.trans f1,f2,rfl,fun F ob nx v=>⟨v0,vb,va,rfl,e4 F ob nx (v.back f1 e2.lt),by rw[e3];exact hmk,f4 F ob nx v⟩⟩
   ·cases h
  ·cases h
 |agg a ih=>
  intro c m m' x E md vs h ok hc hm;cases md with
  |true=>simp[CS.caps] at hm
  |false=>
   cases c<;>(try simp only[bz] at h)<;>try (cases h;done)
   ·rename_i b d
    cases b with
    |some _=>simp[bz] at h
    |none=>
     simp only[bz] at h;split at h
     ·rename_i y hy
      have hrd:=hc.2.2 trivial;have hag:d.ty.isAgg=true:=by
       obtain⟨ty,v⟩:=d;cases ty<;>simp[gB] at hy<;>rfl
      have hex:=ku (ob:=m.ob) (nx:=m.nx) d.ty d.v vs hrd;rw[hy] at hex;obtain⟨E',e1,e2,e3,e4⟩:=ih y m m' x E false vs h ok hex (by simp);exact⟨E',e1,e2,hag.symm,fun F ob nx v=>e4 F ob nx v⟩
     ·cases h
   ·rename_i y
    obtain⟨E',e1,e2,e3,e4⟩:=ih y m m' x E false vs h ok hc (by simp);exact⟨E',e1,e2,rfl,fun F ob nx v=>e4 F ob nx v⟩
theorem o8{tmp:Bool}{tm:Array Value}{cs:CS}{c:Cn}{u:Ty}{m m':Mt}{x:cs.Den}{E:Env}{i j:Nat}(h:jE tmp m u cs c=some (x,m'))(ok:bq E m tm)
 (hs:aA m.sig j=some i) (hb:gL E m.ob m.nx i u c):
 ∃E',Ext E m E' m'∧bq E' m' tm∧∀F ob nx,Vw E' m' F nx→F.B j=E.B i→gL F ob nx j u (cs.cn x):=by
 unfold jE at h;split at h
 ·rename_i y m1 h1
  split at h
  ·rename_i hf
   cases h;obtain⟨g,vs,t,b1,b2,b3,b4,b5⟩:=hb;obtain⟨E',e1,e2,e3,e4⟩:=l9 cs c m m' x E false vs h1 ok b3 (by simp);refine⟨E',e1,e2,fun F ob nx v hB=>⟨g,vs,t,?_,by rw[v.w,e1.w];exact b2,e4 F ob nx v,hf,by rw[hB];exact b5⟩⟩;rw[(v.af j i (e1.sig j i hs)).2,e1.af i (ok.lt j i hs),b1]
  ·cases h
 ·cases h
theorem m_{E:Env}{ob:Nat→Ob}{nx:Nat}:∀(u:Ty),∃cs,av E ob nx (dP u) false cs
 | .int k=>⟨[.int k 0],rfl,trivial,fun _=>rfl⟩
 | .bool=>⟨[.bool false],rfl,trivial,fun _=>rfl⟩
 | .str=>⟨[.string ⟨#[]⟩],rfl,trivial,fun _=>rfl⟩
 | .list _ _=>⟨_,rfl⟩
 | .nil=>⟨[],rfl⟩
 | .cons a b=>by
   obtain⟨c,hc⟩:=m_ (E:=E) (ob:=ob) (nx:=nx) a;obtain⟨d,hd⟩:=m_ (E:=E) (ob:=ob) (nx:=nx) b;exact⟨c++d,c,d,rfl,hc,hd⟩
 | .st a=>m_ a
 | .ptr=>⟨[.pointer none],_,rfl,rfl⟩
theorem sK{tmp:Bool}{tm:Array Value}{o:OS}{m m':Mt}{x:o.Den}{E:Env}{i j:Nat}(h:dF tmp m o (m.ob i)=some (x,m'))(ok:bq E m tm)(hs:aA m.sig j=some i):
 ∃E',Ext E m E' m'∧bq E' m' tm∧∀F ob nx,Vw E' m' F nx→F.B j=E.B i→aK F ob nx j (o.ob x):=by
 have ah:=ok.ob i;generalize lV:m.ob i=oi at h ah;cases o with
 |sl e t=>
  cases oi<;>(try simp only[dF] at h)<;>try (cases h;done)
  rename_i fz aj e' t' xs;cases fz<;>simp only[dF] at h<;>try (cases h;done)
  split at h
  ·rename_i y hy
   cases h;have:=dB hy;cases this;refine⟨E,Ext.refl _ _,ok,fun F ob nx v hB=> ?_⟩;show Ow F.w (.list e t) _ [F.af j] (F.B j);rw[hB,(v.af j i hs).2,v.w];exact ah
  ·cases h
 |sh e t=>
  cases oi<;>(try simp only[dF] at h)<;>try (cases h;done)
  rename_i fz aj e' t' xs;cases fz<;>(try simp only[dF] at h)<;>try (cases h;done)
  ·cases xs with
   |cons z zs=>simp only[dF] at h;cases h
   |nil=>
    simp only[dF] at h;split at h
    ·rename_i y hy
     cases h;have:=dB hy;cases this;refine⟨E,Ext.refl _ _,ok,fun F ob nx v hB=> ?_⟩;show jV F.w F.Z e t _ (F.af j) (F.B j);rw[hB,(v.af j i hs).2,v.w];obtain⟨v',f,nb,k1,k2,k3,k4⟩:=ah;have k1:E.af i=v':=by simpa using k1
     obtain⟨rfl,rfl⟩:=k3;rw[k1];exact⟨[],k2,rfl,by simpa using k4⟩
    ·cases h
  ·split at h
   ·rename_i y hy
    cases h;have:=dB hy;cases this;refine⟨E,Ext.refl _ _,ok,fun F ob nx v hB=> ?_⟩;show jV F.w F.Z e t _ (F.af j) (F.B j);rw[hB,(v.af j i hs).2,v.w];obtain⟨f,k2,k3,k4⟩:=ah;exact⟨f,k2,eB (aM v.z (fun _ _=>rfl) t) _ _ k3,k4⟩
   ·cases h
 |box u cs=>
  cases oi<;>(try simp only[dF] at h)<;>try (cases h;done)
  rename_i u' c;split at h
  ·rename_i hu
   obtain rfl:=of_decide_eq_true hu;obtain⟨E',e1,e2,e3⟩:=o8 h ok hs ah;exact⟨E',e1,e2,e3⟩
  ·cases h
 |aW u cs=>
  cases oi<;>(try simp only[dF] at h)<;>try (cases h;done)
  ·rename_i u' c
   split at h
   ·rename_i hu
    obtain rfl:=of_decide_eq_true hu;split at h
    ·rename_i y m1 h1
     cases h;obtain⟨E',e1,e2,e3⟩:=o8 h1 ok hs ah;exact⟨E',e1,e2,e3⟩
    ·cases h
   ·cases h
  ·rename_i b u' c
   split at h
   ·cases b with
    |true=>cases h
    |false=>
     simp only at h;split at h
     ·rename_i y m1 h1
      cases h;obtain⟨cs0,hz⟩:=m_ (E:=E) (ob:=m.ob) (nx:=m.nx) u;obtain⟨E',e1,e2,_,e4⟩:=l9 cs _ m m' y E false cs0 h1 ok hz (by simp);exact⟨E',e1,e2,fun F ob nx v hB=>⟨by rw[(v.af j i (e1.sig j i hs)).2,e1.af i (ok.lt j i hs)];exact ah.1,by rw[hB];exact ah.2.1,cs0,e4 F ob nx v⟩⟩
     ·cases h
   ·split at h
    ·rename_i hu
     obtain rfl:=of_decide_eq_true hu;split at h
     ·rename_i y m1 h1
      cases h;cases b with
      |true=>
       obtain⟨E',e1,e2,e3⟩:=o8 h1 ok hs ah;exact⟨E',e1,e2,e3⟩
      |false=>
       unfold jE at h1;split at h1
       ·rename_i y' o7 h2
        split at h1
        ·cases h1
         obtain⟨cs0,hz⟩:=ah.2.2;obtain⟨E',e1,e2,_,e4⟩:=l9 cs _ m m' y E false cs0 h2 ok hz (by simp);exact⟨E',e1,e2,fun F ob nx v hB=>⟨by rw[(v.af j i (e1.sig j i hs)).2,e1.af i (ok.lt j i hs)];exact ah.1,by rw[hB];exact ah.2.1,cs0,e4 F ob nx v⟩⟩
        ·cases h1
       ·cases h1
     ·cases h
    ·cases h
theorem uZ{E:Env}{ob:Nat→Ob}{nx:Nat}{c:Cn}{v:Value}(hd:c≠ .dead)(h:ak E ob nx c v):∃cs,av E ob nx c false cs∧mkV c.isAgg cs v:=dX h hd
theorem xS{tmp:Bool}{m:Mt}{cs:CS}{c:Cn}{r}(h:bz tmp m cs c=some r):c≠ .dead:=by
 intro e;subst e;cases cs<;>simp[bz,bG] at h
theorem sO{tmp:Bool}{tm:Array Value}{cs:CS}{c:Cn}{m m':Mt}{x:cs.Den}{E:Env}{v:Value}(h:bz tmp m cs c=some (x,m'))(ok:bq E m tm)
 (hv:ak E m.ob m.nx c v):∃E',Ext E m E' m'∧bq E' m' tm∧∀F ob nx,Vw E' m' F nx→ak F ob nx (cs.cn x) v:=by
 obtain⟨vs,h1,h2⟩:=uZ (xS h) hv;obtain⟨E',e1,e2,e3,e4⟩:=l9 cs c m m' x E false vs h ok h1 (by simp);exact⟨E',e1,e2,fun F ob nx v=>ig vs (e4 F ob nx v) (by rw[e3];exact h2)⟩
theorem sN{tmp:Bool}{tm:Array Value}{sl:Nat→Cn}:∀(l:List (Nat×CS)) (m m':Mt) (x:eF l) (E:Env),l_ tmp sl l m=some (x,m')→bq E m tm→
 (∀s,ak E m.ob m.nx (sl s) (tm.getD s undef))→
 ∃E',Ext E m E' m'∧bq E' m' tm∧∀F ob nx,Vw E' m' F nx→∀s,ak F ob nx (bU l x s) (tm.getD s undef)
 |[],m,m',x,E,h,ok,hv=>by
  cases h;exact⟨E,Ext.refl _ _,ok,fun F ob nx v s=>trivial⟩
 |[a],m,m',x,E,h,ok,hv=>by
  obtain⟨E',e1,e2,e3⟩:=sO (show bz tmp m a.2 (sl a.1)=some (x,m') from h) ok (hv a.1);refine⟨E',e1,e2,fun F ob nx v s=> ?_⟩;show ak F ob nx (upd (fun _=> .dead) a.1 (a.2.cn x) s) _;by_cases e:s=a.1
  ·subst e;rw[upd_same];exact e3 F ob nx v
  ·rw[aD _ _ _ _ e];trivial
 |a::b::r,m,m',x,E,h,ok,hv=>by
  simp only[l_] at h;split at h
  ·rename_i u m1 h1
   split at h
   ·rename_i y m2 h2
    cases h;obtain⟨E1,e1,e2,e3⟩:=sO h1 ok (hv a.1);obtain⟨E2,f1,f2,f3⟩:=sN (b::r) m1 m' y E1 h2 e2 (fun s=>eG e1.ev (hv s));refine⟨E2,e1.trans f1,f2,fun F ob nx v s=> ?_⟩;show ak F ob nx (upd (bU (b::r) y) a.1 (a.2.cn u) s) _;by_cases e:s=a.1
    ·subst e;rw[upd_same];exact e3 F ob nx (v.back f1 e2.lt)
    ·rw[aD _ _ _ _ e];exact f3 F ob nx v s
   ·cases h
  ·cases h
def keys{α:Type}(l:List (Nat×α)):List Nat:=l.map (·.1)
theorem xU{tmp:Bool}{m:Mt}{o:OS}{r}(h:dF tmp m o .dead=some r):False:=by
 cases o<;>simp[dF] at h
theorem uM{below tmp:Bool}{E:Env}{m m0 m1:Mt}{tm:Array Value}{i j:Nat}{o:OS}{u:o.Den}(h:tell below m j=some (i,m0))(ok:bq E m tm)(h2:dF tmp m0 o (m0.ob i)=some (u,m1)):
 Ext E m E m0∧bq E m0 tm∧aA m0.sig j=some i:=by
 unfold tell at h;split at h
 ·rename_i i' hs
  cases h;exact⟨Ext.refl _ _,ok,hs⟩
 ·rename_i hs
  split at h
  ·cases h
  ·cases h
   have hlt:i<m.nx:=by
    rcases Nat.lt_or_ge i m.nx with h|h
    ·exact h
    ·have hd:m.ob i= .dead:=ok.rep.lt i h
     have h2:dF tmp _ o (m.ob i)=_:=h2;rw[hd] at h2;exact(xU h2).elim
   exact pV (m':={m with sig:=(i,i)::m.sig}) (by unfold Mt.put;rw[hs]) ok hlt
theorem sM{tmp below:Bool}{tm:Array Value}:∀(l:List (Nat×OS)) (m m':Mt) (x:gm l) (E:Env),kM tmp below l m=some (x,m')→bq E m tm→
 ∃E',Ext E m E' m'∧bq E' m' tm∧∀F ob nx,Vw E' m' F nx→(∀j i,aA m'.sig j=some i→F.B j=E'.B i)→∀j,(j∈keys l→aK F ob nx j (bS l x j))∧(j∉keys l→bS l x j= .dead)
 |[],m,m',x,E,h,ok=>by
  cases h;exact⟨E,Ext.refl _ _,ok,fun F ob nx v hB j=>⟨fun h=>by simp[keys] at h,fun _=>rfl⟩⟩
 |[a],m,m',x,E,h,ok=>by
  simp only[kM] at h;split at h
  ·rename_i i m0 ht
   obtain⟨t1,t2,hi⟩:=uM ht ok h;obtain⟨E',e1,e2,e3⟩:=sK h t2 hi;refine⟨E',t1.trans e1,e2,fun F ob nx v hB j=> ?_⟩;show(_→aK F ob nx j (upd (fun _=> .dead) a.1 (a.2.ob x) j))∧(_→upd (fun _=> .dead) a.1 (a.2.ob x) j= .dead);by_cases e:j=a.1
   ·subst e;rw[upd_same]
    exact⟨fun _=>e3 F ob nx v (by rw[hB _ _ (e1.sig _ _ hi),e1.B]),fun h=>absurd (by simp[keys]) h⟩
   ·rw[aD _ _ _ _ e]
    exact⟨fun h=>absurd (by simpa[keys] using h) e,fun _=>rfl⟩
  ·cases h
 |a::b::r,m,m',x,E,h,ok=>by
  simp only[kM] at h;split at h
  ·rename_i i m0 ht
   split at h
   ·rename_i u m1 h1
    split at h
    ·rename_i y m2 h2
     cases h;obtain⟨t1,t2,hi⟩:=uM ht ok h1;obtain⟨E1,e1,e2,e3⟩:=sK h1 t2 hi;obtain⟨E2,f1,f2,f3⟩:=sM (b::r) m1 m' y E1 h2 e2;refine⟨E2,t1.trans (e1.trans f1),f2,fun F ob nx v hB j=> ?_⟩;show(_→aK F ob nx j (upd (bS (b::r) y) a.1 (a.2.ob u) j))∧(_→upd (bS (b::r) y) a.1 (a.2.ob u) j= .dead);by_cases e:j=a.1
     ·subst e;rw[upd_same]
      exact⟨fun _=>e3 F ob nx (v.back f1 e2.lt) (by rw[hB _ _ (f1.sig _ _ (e1.sig _ _ hi)),f1.B,e1.B]),fun h=>absurd (by simp[keys]) h⟩
     ·rw[aD _ _ _ _ e]
      have hk:j∈keys (a::b::r)↔j∈keys (b::r):=by simp[keys,e]
      rw[hk];exact f3 F ob nx v hB j
    ·cases h
   ·cases h
  ·cases h
theorem iC(n:Nat):∀l,bL n l=true↔n∈l
 |[]=>by simp[bL]
 |x::r=>by
  simp only[bL];cases e:Nat.beq n x with
  |true=>simp[Nat.eq_of_beq_eq_true e]
  |false=>
   have:n≠x:=fun h=>by subst h;simp at e
   simp[iC n r,this]
theorem qa{j i:Nat}:∀{s:List (Nat×Nat)},aA s j=some i→(j,i)∈s
 |[],h=>by cases h
 |x::r,h=>by
  obtain⟨a,b⟩:=x;rw[dz] at h;split at h
  ·rename_i e;cases h;subst e;exact List.mem_cons_self ..
  ·exact List.mem_cons_of_mem _ (qa h)
structure jW(ids fz:List Nat)(below:Bool)(s:List (Nat×Nat)):Prop where
 ids:∀j i,aA s j=some i→j∈ids
 fz:∀j i,aA s j=some i→i∉fz
 one:∀j j' i,aA s j=some i→aA s j'=some i→j=j'
 low:below=true→∀j i,aA s j=some i→j<100
 own:below=false→∀j i,aA s j=some i→j=i∨100≤j
theorem uD{ids fz:List Nat}{below:Bool}:∀s,mR ids fz below s=true→jW ids fz below s∧(keys s).Nodup
 |[],_=>⟨⟨by simp[aA],by simp[aA],by simp[aA],by simp[aA],by simp[aA]⟩,List.nodup_nil⟩
 |x::r,h=>by
  obtain⟨a,b⟩:=x;simp only[mR,Bool.and_eq_true,Bool.not_eq_true'] at h;obtain⟨h1,h2,h3,h4,h5,h6⟩:=h;obtain⟨k,kn⟩:=uD r h6;have h2:b∉fz:=fun e=>by rw[(iC b fz).2 e] at h2;cases h2
  have h3:b∉r.map (·.2):=fun e=>by rw[(iC b _).2 e] at h3;cases h3
  have h4:a∉r.map (·.1):=fun e=>by rw[(iC a _).2 e] at h4;cases h4
  have h1:=(iC a ids).1 h1;have snd:∀j i,aA r j=some i→i∈r.map (·.2):=fun j i e=>List.mem_map.2 ⟨_,qa e,rfl⟩;refine⟨⟨?_,?_,?_,?_,?_⟩,?_⟩
  ·intro j i e
   rw[dz] at e;split at e
   ·rename_i e';subst e';exact h1
   ·exact k.ids j i e
  ·intro j i e
   rw[dz] at e;split at e
   ·cases e;exact h2
   ·exact k.fz j i e
  ·intro j j' i e e'
   rw[dz] at e e';split at e<;>split at e'
   ·omega
   ·cases e;exact absurd (snd _ _ e') h3
   ·cases e';exact absurd (snd _ _ e) h3
   ·exact k.one j j' i e e'
  ·intro hb j i e
   rw[dz] at e;split at e
   ·rename_i e';subst e'
    simp only[hb] at h5;exact Nat.le_of_ble_eq_true h5
   ·exact k.low hb j i e
  ·intro hb j i e
   rw[dz] at e;split at e
   ·rename_i e';subst e'
    cases e;simp only[hb,Bool.or_eq_true] at h5;rcases h5 with h5|h5
    ·exact .inl (Nat.eq_of_beq_eq_true h5)
    ·exact .inr (Nat.le_of_ble_eq_true h5)
   ·exact k.own hb j i e
  ·show(a::keys r).Nodup
   exact List.nodup_cons.2 ⟨h4,kn⟩
def into(E:Env)(m:Mt):Env where
 w:=E.w
 Z:=fun b=>E.Z b∨∃i,i∈m.fz∧b∈E.B i
 af:=fun j=>match aA m.sig j with
  |some i=>E.af i
  |none=>E.af j
 B:=fun j=>match aA m.sig j with
  |some i=>E.B i
  |none=>[]
theorem xH{E:Env}{m:Mt}{ids:List Nat}{below:Bool}{nx:Nat}(k:jW ids m.fz below m.sig)(hn:∀j,j∈ids→j<nx)(hl:qL m):Vw E m (into E m) nx where
 w:=rfl
 z:=fun b hb=> .inl hb
 fz:=fun i hi b hb=> .inr ⟨i,hi,hb⟩
 af:=fun j i e=>⟨hn j (k.ids j i e),by simp only[into,e]⟩
 lt:=hl
theorem sP:∀(l:List (Nat×OS)) (j:Nat),j∈keys l→j<bJ l
 |[],_,h=>by simp[keys] at h
 |x::r,j,h=>by
  simp only[keys,List.map_cons,List.mem_cons] at h;show j<Nat.max (x.1+1) (bJ r);rcases h with rfl|h
  ·exact Nat.lt_of_lt_of_le (Nat.lt_succ_self _) (Nat.le_max_left _ _)
  ·exact Nat.lt_of_lt_of_le (sP r j h) (Nat.le_max_right _ _)
theorem SS.yl(s:SS)(u:eF s.slots)(v:gm s.objs):s.pS (s.mk' u v)=u∧s.pO (s.mk' u v)=v:=by
 obtain⟨a,b⟩:=s;cases b with
 |nil=>exact⟨rfl,rfl⟩
 |cons x r=>exact⟨rfl,rfl⟩
theorem o9{tmp below:Bool}{s:SS}{st:St}{x:s.Den}{m:Mt}{E:Env}{tm:Array Value}(h:fJ tmp below s st=some (x,m))(hr:aT E st tm):
 ∃E',Ext E ⟨[],[],st.ob,st.nx⟩ E' m∧bq E' m tm∧jW (keys s.objs) m.fz below m.sig∧(keys m.sig).Nodup∧aT (into E' m) (s.st x) tm:=by
 unfold fJ at h;split at h
 ·rename_i u m1 h1
  split at h
  ·rename_i v m2 h2
   split at h
   ·rename_i h3
    cases h;have ok0:bq E ⟨[],[],st.ob,st.nx⟩ tm:=⟨⟨fun s=>trivial,hr.ob,hr.lt,hr.dj,hr.nd,hr.bb,hr.zb⟩,fun j i e=>by cases e⟩;obtain⟨E1,e1,e2,e3⟩:=sN s.slots _ m1 u E h1 ok0 hr.sl;obtain⟨E2,f1,f2,f3⟩:=sM s.objs m1 m v E1 h2 e2;obtain⟨k,kn⟩:=uD _ h3;have hnx:∀j,j∈keys s.objs→j<Nat.max 100 (bJ s.objs):=fun j hj=>Nat.lt_of_lt_of_le (sP _ _ hj) (Nat.le_max_right _ _);have vw:=xH (E:=E2) k hnx f2.lt;have hB:∀j i,aA m.sig j=some i→(into E2 m).B j=E2.B i:=fun j i e=>by simp only[into,e]
    refine⟨E2,e1.trans f1,f2,k,kn,?_⟩;have oJ:∀j b,b∈(into E2 m).B j→∃i,aA m.sig j=some i∧b∈E2.B i:=by
     intro j b hb;simp only[into] at hb;split at hb
     ·rename_i i hi;exact⟨i,hi,hb⟩
     ·simp at hb
    obtain⟨p1,p2⟩:=SS.yl s u v;have key:=f3 (into E2 m) (s.st (s.mk' u v)).ob (Nat.max 100 (bJ s.objs)) vw hB;refine⟨fun sl=> ?_,fun j=> ?_,fun j hj=> ?_,?_,?_,?_,?_⟩
    ·show ak _ _ _ (bU s.slots (s.pS (s.mk' u v)) sl) _
     rw[p1];exact e3 _ _ _ (vw.back f1 e2.lt) sl
    ·show aK _ _ _ j (bS s.objs (s.pO (s.mk' u v)) j)
     rw[p2];by_cases hj:j∈keys s.objs
     ·exact(key j).1 hj
     ·rw[(key j).2 hj]
      show(into E2 m).B j=[];simp only[into];split
      ·rename_i i hi;exact absurd (k.ids j i hi) hj
      ·rfl
    ·show bS s.objs (s.pO (s.mk' u v)) j=_
     rw[p2];refine(key j).2 fun hm=> ?_;have:=hnx j hm;have hj:Nat.max 100 (bJ s.objs)≤j:=hj;omega
    ·intro i j b hij hi hj
     obtain⟨i',hi1,hi2⟩:=oJ i b hi;obtain⟨j',hj1,hj2⟩:=oJ j b hj;have:i'≠j':=fun e=>hij (by subst e;exact k.one i j _ hi1 hj1);exact f2.rep.dj i' j' b this hi2 hj2
    ·intro i
     simp only[into];split
     ·exact f2.rep.nd _
     ·exact List.nodup_nil
    ·intro j b hb
     obtain⟨i,hi1,hi2⟩:=oJ j b hb;refine⟨(f2.rep.bb i b hi2).1,fun hz=> ?_⟩;rcases hz with hz|⟨i',h4,h5⟩
     ·exact(f2.rep.bb i b hi2).2 hz
     ·have:i≠i':=fun e=>k.fz j i hi1 (by rw[e];exact h4)
      exact f2.rep.dj i i' b this hi2 h5
    ·intro b hb
     rcases hb with hz|⟨i',h4,h5⟩
     ·exact f2.rep.zb b hz
     ·exact(f2.rep.bb i' b h5).1
   ·cases h
  ·cases h
 ·cases h
theorem nZ{N:Nat}{E0 E:Env}{st:St}{a:Act}{s:SS}{x:s.Den}{m:Mt}(h:fJ false false s st=some (x,m))(hi:Inv N E0 E st a):
 ∃E1,E1.w=E.w∧Inv N E0 E1 (s.st x) a:=by
 obtain⟨E',e1,e2,k,_,hr⟩:=o9 h hi.rep;refine⟨into E' m,e1.w,hr,?_,hi.defers,hi.size,Nat.le_max_left _ _⟩
 refine hi.fr.trans ⟨by rw[show(into E' m).w=E.w from e1.w],by rw[show(into E' m).w=E.w from e1.w],by rw[show(into E' m).w=E.w from e1.w],by rw[show(into E' m).w=E.w from e1.w];exact Nat.le_refl _,
  fun b _ _=>by rw[show(into E' m).w=E.w from e1.w],?_,fun b hb=> .inl (by rw[e1.Z];exact hb),?_,?_⟩
 ·intro j b hb
  simp only[into] at hb;split at hb
  ·rename_i i hi'
   exact .inl ⟨i,by rw[←e1.B];exact hb⟩
  ·simp at hb
 ·intro b hb
  rcases hb with hb|⟨i,_,hb⟩
  ·exact .inl (by rw[←e1.Z];exact hb)
  ·exact .inr (.inl ⟨i,by rw[←e1.B];exact hb⟩)
 ·intro j hj
  have hlt:j<st.nx:=Nat.lt_of_lt_of_le hj hi.nx;show(match aA m.sig j with|some i=>E'.af i|none=>E'.af j)=_;split
  ·rename_i i hi'
   rcases k.own rfl j i hi' with rfl|h1
   ·exact e1.af j hlt
   ·omega
  ·exact e1.af j hlt
end Go.Am
end
section
namespace Go.Am
def fZ(P:Program)(g:FuncId)(args:Array Value)(w:World)(R:Value→World→Prop):Prop:=
 match(callFunc g args).run P w with
 | .ok (.value v) w'=>R v w'
 | .ok (.enter f args') w'=>Calls P f args' w' fun
   | .returned v,w''=>R v w''
   |_,_=>False
 | .ok (.row row args') w'=>Rows P row args' w' R
 |_=>False
def nH:Nat→Array Value→Value→Prop
 |1,tm,v=>v=tm.getD 0 undef
 |n,tm,v=>∃vs:List Value,v= .tuple vs.toArray∧vs.length=n∧∀i,i<n→vs[i]?=some (tm.getD i undef)
def fV(P:Program)(g:FuncId)(c:cz):Prop:=
 ∀(E:Env) (args:Array Value) (x:c.aZ.Den) (y:c.au.Den),args.size=c.nargs→c.F x=some y→aT E (c.aZ.st x) args→
  fZ P g args E.w fun v w'=>∃E' tm,E'.w=w'∧Fr E E'∧aT E' (c.au.st y) tm∧nH c.fK tm v
theorem fZ.mono{P:Program}{g:FuncId}{args:Array Value}{w:World}{R R':Value→World→Prop}(h:fZ P g args w R)(k:∀v w',R v w'→R' v w'):fZ P g args w R':=by
 unfold fZ at h⊢;split at h
 ·exact k _ _ h
 ·intro cs
  obtain⟨e,w',fr,r,s⟩:=h cs;refine⟨e,w',fr,?_,s⟩;cases e with
  |returned v=>exact k _ _ r
  |panicked _=>exact r
  |outgrown=>exact r
 ·exact Rows.mono h k
 ·exact h.elim
theorem ze{P:Program}{o:Oper}{a:Act}{w:World}{K:Act→World→Prop}{Q:Exit→Act→World→Prop}{g:FuncId}{args:Array Value}{R:Value→World→Prop}
 (hrun:∀k:Next→World→Prop,∀r,(callFunc g args).run P w=r→(execOp a.eval o).run P w=r) (h:fZ P g args w R) (hK:∀v w',R v w'→K (a.put o.dst v) w'):o.wp P a w K Q:=by
 unfold Oper.wp;rw[hrun (fun _ _=>True) _ rfl];have h:=h.mono hK;unfold fZ at h;split at h
 ·rename_i he;rw[he];exact h
 ·rename_i he
  rw[he];intro cs;obtain⟨e,w',fr,r,s⟩:=h cs;refine⟨e,w',fr,?_,s⟩;cases e with
  |returned v=>exact r
  |panicked _=>exact r.elim
  |outgrown=>exact r.elim
 ·rename_i he;rw[he];exact h
 ·exact h.elim
theorem ni{E F:Env}{ob aG:Nat→Ob}{nx nx':Nat}{f:Nat→Nat}(hw:F.w=E.w)(hr:∀j,j<nx→F.af (f j)=E.af j∧f j<nx'):
 ∀(cs:CS) (x:cs.Den) (md:Bool) (vs:List Value),((∀b,E.Z b→F.Z b)∨cs.aR=true)→av E ob nx (cs.cn x) md vs→av F aG nx' (bF f (cs.cn x)) md vs:=by
 intro cs
 induction cs with
 |ro t=>
  intro x md vs hz h;have key:∀(G:Env) ob nx,av G ob nx (.ro none ⟨t,x⟩) md vs↔(vs.length=t.size∧True∧(True→Rd G.w G.Z t x vs)):=by intro G ob nx;cases md<;>exact Iff.rfl
  have h:=(key E ob nx).1 h;refine(key F aG nx').2 ⟨h.1,trivial,fun _=> ?_⟩;rcases hz with hz|hz
  ·exact aM hz (fun b _=>by rw[hw]) _ _ _ (h.2.2 trivial)
  ·exact gq t hz x vs (h.2.2 trivial)
 |h j=>
  intro x md vs hz h;have key:∀(G:Env) ob nx j,av G ob nx (.h j) md vs↔(j<nx∧(G.af j).oneCell'=true∧vs=[G.af j]):=by intro G ob nx j;cases md<;>exact Iff.rfl
  have h:=(key E ob nx j).1 h;exact(key F aG nx' (f j)).2 ⟨(hr j h.1).2,by rw[(hr j h.1).1];exact h.2.1,by rw[(hr j h.1).1];exact h.2.2⟩
 |p j=>
  intro x md vs hz h;have key:∀(G:Env) ob nx j,av G ob nx (.p j) md vs↔(j<nx∧(G.af j).oneCell'=true∧vs=[G.af j]):=by intro G ob nx j;cases md<;>exact Iff.rfl
  have h:=(key E ob nx j).1 h;exact(key F aG nx' (f j)).2 ⟨(hr j h.1).2,by rw[(hr j h.1).1];exact h.2.1,by rw[(hr j h.1).1];exact h.2.2⟩
 |aV t=>
  intro x md vs hz h;have key:∀(G:Env) ob nx,av G ob nx (.aV none ⟨t,x⟩) md vs↔(True∧∃ad,vs=[.pointer (some ad)]∧ad.spot=none∧(True→G.Z ad.block∧∃f,Rd G.w G.Z t x f∧gP G.w (some ad) f)):=by
   intro G ob nx;cases md<;>exact Iff.rfl
  obtain⟨_,ad,h1,h2,h3⟩:=(key E ob nx).1 h;rcases hz with hz|hz
  ·obtain⟨h4,g,h5,h6⟩:=h3 trivial
   exact(key F aG nx').2 ⟨trivial,ad,h1,h2,fun _=>⟨hz _ h4,g,aM hz (fun b _=>by rw[hw]) _ _ _ h5,by rw[hw];exact h6⟩⟩
  ·simp[CS.aR] at hz
 |any=>
  intro x md vs hz h;have h:∃v:Value,v.oneCell'=true∧vs=[v]:=by cases md<;>exact h
  cases md<;>exact h
 |fn g c ih=>
  intro x md vs hz h;have key:∀(G:Env) ob nx c,av G ob nx (.fn g c) md vs↔∃ws,vs=[.func (.func g) #[] ws.toArray]∧av G ob nx c true ws:=by intro G ob nx c;cases md<;>exact Iff.rfl
  obtain⟨ws,h1,h2⟩:=(key E ob nx _).1 h;exact(key F aG nx' _).2 ⟨ws,h1,ih x true ws (by simpa[CS.aR] using hz) h2⟩
 |nil=>intro x md vs hz h;cases md<;>exact h
 |cons a b iha ihb=>
  intro x md vs hz h;have hza:(∀b,E.Z b→F.Z b)∨a.aR=true:=hz.imp id (fun h=>by simp[CS.aR] at h;exact h.1);have hzb:(∀b,E.Z b→F.Z b)∨b.aR=true:=hz.imp id (fun h=>by simp[CS.aR] at h;exact h.2);cases md with
  |false=>
   obtain⟨c,d,h1,h2,h3⟩:=h;exact⟨c,d,h1,iha x.1 false c hza h2,ihb x.2 false d hzb h3⟩
  |true=>
   obtain⟨v,vs',c,h1,h2,h3,h4⟩:=h;refine⟨v,vs',c,h1,iha x.1 false c hza h2,?_,ihb x.2 true vs' hzb h4⟩;have:(bF f (a.cn x.1)).isAgg=(a.cn x.1).isAgg:=by cases a<;>rfl
   rw[this];exact h3
 |agg a ih=>
  intro x md vs hz h;have key:∀(G:Env) ob nx c,av G ob nx (.agg c) md vs↔av G ob nx c false vs:=by intro G ob nx c;cases md<;>exact Iff.rfl
  exact(key F aG nx' _).2 (ih x false vs (by simpa[CS.aR] using hz) ((key E ob nx _).1 h))
theorem yz(f:Nat→Nat)(c:Cn):(bF f c).isAgg=c.isAgg:=by cases c<;>rfl
theorem yx(f:Nat→Nat):∀(u:Ty) (c:Cn),fits u c=true→fits u (bF f c)=true:=by
 intro u
 induction u with
 |st a ih=>
  intro c h;cases c<;>simp only[fits] at h<;>try (cases h;done)
  exact ih _ h
 |cons a b iha ihb=>
  intro c h;cases c<;>simp only[fits] at h<;>try (cases h;done)
  simp only[Bool.and_eq_true] at h;simp only[bF,fits,Bool.and_eq_true];exact⟨iha _ h.1,ihb _ h.2⟩
 |_=>
  intro c h;cases c<;>first|exact h|(simp[fits] at h;done)|(simp only[bF];simpa[fits] using h)
theorem uF:∀(l:List (Nat×CS)) (x:eF l) (s:Nat),bU l x s= .dead∨∃cs y,(l.any fun z=>z.2==cs)=true∧cs∈l.map (·.2)∧bU l x s=CS.cn cs y
 |[],_,_=> .inl rfl
 |[a],x,s=>by
  show upd (fun _=> .dead) a.1 (a.2.cn x) s= .dead∨∃cs y,_∧_∧upd (fun _=> .dead) a.1 (a.2.cn x) s=_;by_cases e:s=a.1
  ·subst e;rw[upd_same];exact .inr ⟨a.2,x,by simp,by simp,rfl⟩
  ·rw[aD _ _ _ _ e];exact .inl rfl
 |a::b::r,x,s=>by
  show upd (bU (b::r) x.2) a.1 (a.2.cn x.1) s= .dead∨∃cs y,_∧_∧upd (bU (b::r) x.2) a.1 (a.2.cn x.1) s=_;by_cases e:s=a.1
  ·subst e;rw[upd_same];exact .inr ⟨a.2,x.1,by simp,by simp,rfl⟩
  ·rw[aD _ _ _ _ e]
   rcases uF (b::r) x.2 s with h|⟨cs,y,h0,h1,h2⟩
   ·exact .inl h
   ·exact .inr ⟨cs,y,by simp only[List.any_cons] at h0⊢;simp[h0],List.mem_cons_of_mem _ h1,h2⟩
theorem mF:∀(l:List (Nat×OS)) (x:gm l) (j:Nat),(j∉keys l∧bS l x j= .dead)∨∃os y,os∈l.map (·.2)∧dS l j=some os∧bS l x j=OS.ob os y
 |[],_,_=> .inl ⟨by simp[keys],rfl⟩
 |[a],x,s=>by
  show(_∧upd (fun _=> .dead) a.1 (a.2.ob x) s= .dead)∨∃cs y,_∧_∧upd (fun _=> .dead) a.1 (a.2.ob x) s=_;by_cases e:s=a.1
  ·subst e;rw[upd_same];exact .inr ⟨a.2,x,by simp,by simp[dS],rfl⟩
  ·rw[aD _ _ _ _ e];exact .inl ⟨by simpa[keys] using e,rfl⟩
 |a::b::r,x,s=>by
  show(_∧upd (bS (b::r) x.2) a.1 (a.2.ob x.1) s= .dead)∨∃cs y,_∧_∧upd (bS (b::r) x.2) a.1 (a.2.ob x.1) s=_;by_cases e:s=a.1
  ·subst e;rw[upd_same];exact .inr ⟨a.2,x.1,by simp,by simp[dS],rfl⟩
  ·rw[aD _ _ _ _ e]
   have hne:Nat.beq a.1 s=false:=by
    cases h:Nat.beq a.1 s with
    |false=>rfl
    |true=>exact absurd (Nat.eq_of_beq_eq_true h).symm e
   rcases mF (b::r) x.2 s with⟨h0,h⟩|⟨cs,y,h1,h2,h3⟩
   ·exact .inl ⟨by simp only[keys,List.map_cons,List.mem_cons] at h0⊢;simp[e];simpa using h0,h⟩
   ·exact .inr ⟨cs,y,List.mem_cons_of_mem _ h1,by simp only[dS,hne] at h2⊢;exact h2,h3⟩
theorem u6{E F:Env}{ob aG:Nat→Ob}{nx nx':Nat}{f:Nat→Nat}(hw:F.w=E.w)(hr:∀j,j<nx→F.af (f j)=E.af j∧f j<nx')
 (l:List (Nat×CS)) (x:eF l) (s:Nat) (v:Value) (hz:(∀b,E.Z b→F.Z b)∨(l.all fun z=>z.2.aR)=true) (h:ak E ob nx (bU l x s) v):ak F aG nx' (bF f (bU l x s)) v:=by
 rcases uF l x s with e|⟨cs,y,_,h1,e⟩
 ·rw[e];trivial
 ·rw[e] at h⊢
  obtain⟨vs,h2,h3⟩:=dX h (vT cs y);refine ig vs (ni hw hr cs y false vs (hz.imp id fun hz=> ?_) h2) (by rw[yz];exact h3);obtain⟨z,hz1,hz2⟩:=List.mem_map.1 h1;have:=List.all_eq_true.1 hz z hz1;rw[hz2] at this;exact this
theorem uV{E F:Env}{ob aG:Nat→Ob}{nx nx':Nat}{f:Nat→Nat}(hw:F.w=E.w)(hr:∀j,j<nx→F.af (f j)=E.af j∧f j<nx')
 (os:OS) (y:os.Den) (j i aj:Nat) (hi:F.af i=E.af j) (hB:F.B i=E.B j) (hz:(∀b,E.Z b→F.Z b)∨os.aR=true) (h:aK E ob nx j (os.ob y)):aK F aG nx' i (dU f aj (os.ob y)):=by
 have box:∀(u:Ty) (c:CS) (y:c.Den),((∀b,E.Z b→F.Z b)∨c.aR=true)→gL E ob nx j u (c.cn y)→gL F aG nx' i u (bF f (c.cn y)):=by
  intro u c y hz h;obtain⟨g,cs,t,h1,h2,h3,h4,h5⟩:=h;exact⟨g,cs,t,by rw[hi];exact h1,by rw[hw];exact h2,ni hw hr c y false cs hz h3,yx f u _ h4,by rw[hB];exact h5⟩
 cases os with
 |sl e t=>
  show Ow F.w (.list e t) y [F.af i] (F.B i);rw[hi,hB,hw];exact h
 |sh e t=>
  show jV F.w F.Z e t y (F.af i) (F.B i);rw[hi,hB,hw];obtain⟨f,h1,h2,h3⟩:=h;rcases hz with hz|hz
  ·exact⟨f,h1,eB (aM hz (fun _ _=>rfl) t) _ _ h2,h3⟩
  ·cases hz
 |box u c=>exact box u c y hz h
 |aW u c=>
  obtain⟨b,y⟩:=y;cases b with
  |true=>exact box u c y hz h
  |false=>exact⟨by rw[hi];exact h.1,by rw[hB];exact h.2.1,h.2.2.imp fun cs hc=>ni hw hr c y false cs hz hc⟩
theorem xK(f:Nat→Nat)(v:Nat)(o:Ob):(dU f v o).lay=o.lay:=by cases o<;>rfl
theorem vQ(f:Nat→Nat)(v:Nat)(o:Ob):(dU f v o).bn=o.bn:=by cases o<;>rfl
theorem gY{i j:Nat}:∀{s:List (Nat×Nat)},(keys s).Nodup→inv s i=some j→aA s j=some i
 |[],_,h=>by cases h
 |x::r,hn,h=>by
  obtain⟨a,b⟩:=x;have hn:a∉keys r∧(keys r).Nodup:=List.nodup_cons.1 hn;simp only[inv] at h;rw[dz];split at h
  ·rename_i hb
   cases h;rw[if_pos rfl,Nat.eq_of_beq_eq_true hb]
  ·have:=gY hn.2 h
   have hne:a≠j:=fun e=>hn.1 (by subst e;exact List.mem_map.2 ⟨_,qa this,rfl⟩);rw[if_neg hne];exact this
theorem kI{i:Nat}:∀{s:List (Nat×Nat)},inv s i=none→∀j,aA s j≠some i
 |[],_,_=>by simp[aA]
 |x::r,h,j=>by
  obtain⟨a,b⟩:=x;simp only[inv] at h;rw[dz];split at h
  ·cases h
  ·rename_i hb
   split
   ·intro e;cases e;simp at hb
   ·exact kI h j
end Go.Am
end
section
namespace Go.Am
def aH(ro:Bool)(E' E2:Env)(m:Mt):Env where
 w:=E2.w
 Z:=if ro then E'.Z else E2.Z
 af:=fun i=>if i<m.nx then E'.af i else E2.af (i-m.nx)
 B:=fun i=>if i<m.nx then(match inv m.sig i with
  |some j=>E2.B j
  |none=>if !ro&&bL i m.fz then[] else E'.B i)
  else(match aA m.sig (i-m.nx) with
   |some _=>[]
   |none=>E2.B (i-m.nx))
theorem lN{gX:List (Nat×OS)}:∀{out:List (Nat×OS)} {j:Nat} {o o':OS},iL gX out=true→dS gX j=some o→dS out j=some o'→kindOk o o'=true
 |[],_,_,_,_,_,h=>by cases h
 |x::r,j,o,o',hk,hi,h=>by
  simp only[iL,Bool.and_eq_true] at hk;simp only[dS] at h;split at h
  ·rename_i e
   cases h;obtain rfl:=Nat.eq_of_beq_eq_true e;rw[hi] at hk;exact hk.1
  ·exact lN hk.2 hi h
theorem sF{o o':OS}(h:kindOk o o'=true)(x:o.Den)(y:o'.Den):(o'.ob y).lay=(o.ob x).lay∧(o'.ob y).bn=(o.ob x).bn∧
 ∀fz v e t xs,o'.ob y= .sl fz v e t xs→∃aN,o.ob x= .sl .own 0 e t aN:=by
 cases o<;>cases o'<;>simp only[kindOk] at h<;>first|(cases h;done)|skip
 ·rename_i e t e' t'
  simp only[Bool.and_eq_true] at h;obtain rfl:=Nat.eq_of_beq_eq_true h.1;obtain rfl:=of_decide_eq_true h.2;refine⟨rfl,rfl,fun fz v e2 t2 xs he=> ?_⟩;simp only[OS.ob,Ob.sl.injEq] at he;obtain⟨-,-,rfl,rfl,_⟩:=he;exact⟨x,rfl⟩
 all_goals
  obtain rfl:=of_decide_eq_true h;exact⟨rfl,rfl,fun fz v e2 t2 xs he=>by simp[OS.ob] at he⟩
theorem yj{w w':World}{e e':TypeId}{s s' n n':Nat}{v:Value}{f f':List Value}(h:w.ownsRow 0 e s v n f)(h':w'.ownsRow 0 e' s' v n' f'):n=n':=by
 rcases h.2 with⟨rfl,rfl⟩|⟨g,cap,cur,rfl,_⟩<;>rcases h'.2 with⟨h1,rfl⟩|⟨g',cap',cur',h1,_⟩<;>first|rfl|(cases h1;rfl)|cases h1
section
variable{N:Nat}{E0 E E' E2:Env}{st:St}{a:Act}{m:Mt}{c:cz}{x:c.aZ.Den}{y:c.au.Den}{tm args y8:Array Value}
theorem u7(hi:Inv N E0 E st a)(e:Ext E ⟨[],[],st.ob,st.nx⟩ E' m)(ok:bq E' m tm)(k:jW (keys c.aZ.objs) m.fz true m.sig)(kn:(keys m.sig).Nodup)
 (hm:∀j i,aA m.sig j=some i→∃o y,dS c.aZ.objs j=some o∧(m.ob i).lay=(OS.ob o y).lay∧(m.ob i).bn=(OS.ob o y).bn∧∀(e:TypeId) (t:Ty) (aN:List t.Den),OS.ob o y= .sl .own 0 e t aN→∃v0 kV,m.ob i= .sl .own v0 e t kV)
 (hk:iL c.aZ.objs c.au.objs=true) (f:Fr (into E' m) E2) (r2:aT E2 (c.au.st y) y8):
 Inv N E0 (aH c.au.aR E' E2 m) {sl:=st.sl,ob:=bg c m y,nx:=m.nx+Nat.max 100 (bJ c.au.objs)} a∧
 ∀s v,ak E2 (c.au.st y).ob (c.au.st y).nx (bU c.au.slots (c.au.pS y) s) v→
  ak (aH c.au.aR E' E2 m) (bg c m y) (m.nx+Nat.max 100 (bJ c.au.objs)) (bF (b_ m) (bU c.au.slots (c.au.pS y) s)) v:=by
 generalize hro:c.au.aR=ro;have zn:(into E' m).w=E'.w:=rfl;have IB:∀j i,aA m.sig j=some i→(into E' m).B j=E'.B i:=fun j i h=>by simp only[into,h]
 have jT:∀j b,b∈(into E' m).B j→∃i,aA m.sig j=some i∧b∈E'.B i:=by
  intro j b hb;simp only[into] at hb;split at hb
  ·rename_i i h;exact⟨i,h,hb⟩
  ·simp at hb
 have nC:∀j i,aA m.sig j=some i→E2.af j=E'.af i:=fun j i h=>by
  rw[f.af j (k.low rfl j i h)];simp only[into,h]
 have zm:∀i b,b∈E2.B i→b<E2.w.heap.size∧¬E2.Z b:=fun i b hb=>r2.bb i b hb;have still:∀b,b<E'.w.heap.size→(∀j,b∉(into E' m).B j)→E2.w.heap[b]?=E'.w.heap[b]?:=fun b hb ho=>f.block b hb ho;have pg:∀i b,(∀j,aA m.sig j≠some i)→b∈E'.B i→∀j,b∉(into E' m).B j:=by
  intro i b hn hb j hj;obtain⟨i',h1,h2⟩:=jT j b hj;exact ok.rep.dj i i' b (fun e=>hn j (by rw[e];exact h1)) hb h2
 have jQ:∀b,(into E' m).Z b→E2.w.heap[b]?=E'.w.heap[b]?:=by
  intro b hz;have hnot:∀j,b∉(into E' m).B j:=by
   intro j hj;obtain⟨i',h1,h2⟩:=jT j b hj;rcases hz with hz|⟨i,h3,h4⟩
   ·exact(ok.rep.bb i' b h2).2 hz
   ·exact ok.rep.dj i' i b (fun e=>k.fz j i' h1 (by rw[e];exact h3)) h2 h4
  refine still b ?_ hnot;rcases hz with hz|⟨i,h3,h4⟩
  ·exact ok.rep.zb b hz
  ·exact(ok.rep.bb i b h4).1
 have Z3:∀b,(aH ro E' E2 m).Z b→E2.Z b:=by
  intro b hb;simp only[aH] at hb;cases ro with
  |true=>simp only[if_true] at hb;exact f.z0 b (.inl hb)
  |false=>simpa using hb
 have nK:∀b,E'.Z b→(aH ro E' E2 m).Z b:=by
  intro b hb;simp only[aH];cases ro with
  |true=>simpa using hb
  |false=>simpa using f.z0 b (.inl hb)
 have uL:∀j,j<Nat.max 100 (bJ c.au.objs)→(aH ro E' E2 m).af (b_ m j)=E2.af j∧b_ m j<m.nx+Nat.max 100 (bJ c.au.objs):=by
  intro j hj;unfold b_;cases h:aA m.sig j with
  |some i=>
   have hlt:=ok.lt j i h;simp only;refine⟨?_,by omega⟩;simp only[aH,if_pos hlt];exact(nC j i h).symm
  |none=>
   simp only;refine⟨?_,by omega⟩;simp only[aH,if_neg (show ¬m.nx+j<m.nx by omega),Nat.add_sub_cancel_left]
 have hz:(∀b,E2.Z b→(aH ro E' E2 m).Z b)∨c.au.aR=true:=by
  cases ro with
  |true=>exact .inr hro
  |false=>exact .inl fun b hb=>by simpa[aH] using hb
 have xB:(∀b,E2.Z b→(aH ro E' E2 m).Z b)∨(c.au.slots.all fun z=>z.2.aR)=true:=hz.imp id (fun h=>by simp only[SS.aR,Bool.and_eq_true] at h;exact h.1);have xA:∀os,os∈c.au.objs.map (·.2)→(∀b,E2.Z b→(aH ro E' E2 m).Z b)∨os.aR=true:=by
  intro os hos;refine hz.imp id (fun h=> ?_);simp only[SS.aR,Bool.and_eq_true] at h;obtain⟨z,hz1,hz2⟩:=List.mem_map.1 hos;have:=List.all_eq_true.1 h.2 z hz1;rw[hz2] at this;exact this
 have pI:∀i j,i<m.nx→inv m.sig i=some j→bg c m y i=dU (b_ m) (mW (m.ob i)+1) (bS c.au.objs (c.au.pO y) j):=by
  intro i j h1 h2;unfold bg;rw[show Nat.blt i m.nx=true from Nat.ble_eq_true_of_le h1];simp only[h2]
 have pG:∀i,i<m.nx→inv m.sig i=none→(!ro&&bL i m.fz)=true→bg c m y i=fG (m.ob i):=by
  intro i h1 h2 h3;unfold bg;rw[show Nat.blt i m.nx=true from Nat.ble_eq_true_of_le h1];simp only[h2,hro,h3]
 have pJ:∀i,i<m.nx→inv m.sig i=none→(!ro&&bL i m.fz)=false→bg c m y i=m.ob i:=by
  intro i h1 h2 h3;unfold bg;rw[show Nat.blt i m.nx=true from Nat.ble_eq_true_of_le h1];simp only[h2,hro,h3]
 have qR:∀i,¬i<m.nx→Nat.blt i m.nx=false:=by
  intro i h;cases e:Nat.blt i m.nx with
  |false=>rfl
  |true=>exact absurd (Nat.le_of_ble_eq_true e) h
 have tu:∀i,¬i<m.nx→(∃q,aA m.sig (i-m.nx)=some q)→bg c m y i= .dead:=by
  intro i h1 ⟨q,h2⟩;unfold bg;rw[qR i h1];simp only[h2]
 have mE:∀i,¬i<m.nx→aA m.sig (i-m.nx)=none→bg c m y i=dU (b_ m) 0 (bS c.au.objs (c.au.pO y) (i-m.nx)):=by
  intro i h1 h2;unfold bg;rw[qR i h1];simp only[h2]
 have BS:∀i j,i<m.nx→inv m.sig i=some j→(aH ro E' E2 m).B i=E2.B j:=fun i j h1 h2=>by simp only[aH,if_pos h1,h2]
 have BF:∀i,i<m.nx→inv m.sig i=none→(!ro&&bL i m.fz)=true→(aH ro E' E2 m).B i=[]:=fun i h1 h2 h3=>by simp only[aH,if_pos h1,h2,h3,if_true]
 have BU:∀i,i<m.nx→inv m.sig i=none→(!ro&&bL i m.fz)=false→(aH ro E' E2 m).B i=E'.B i:=fun i h1 h2 h3=>by simp only[aH,if_pos h1,h2,h3];rfl
 have BD:∀i,¬i<m.nx→(∃q,aA m.sig (i-m.nx)=some q)→(aH ro E' E2 m).B i=[]:=fun i h1 ⟨q,h2⟩=>by simp only[aH,if_neg h1,h2]
 have BN:∀i,¬i<m.nx→aA m.sig (i-m.nx)=none→(aH ro E' E2 m).B i=E2.B (i-m.nx):=fun i h1 h2=>by simp only[aH,if_neg h1,h2]
 have tC:∀j i aj,(aH ro E' E2 m).af i=E2.af j→(aH ro E' E2 m).B i=E2.B j→
  aK (aH ro E' E2 m) (bg c m y) (m.nx+Nat.max 100 (bJ c.au.objs)) i (dU (b_ m) aj (bS c.au.objs (c.au.pO y) j)):=by
  intro j i aj h1 h2;have ho:aK E2 (c.au.st y).ob (c.au.st y).nx j (bS c.au.objs (c.au.pO y) j):=r2.ob j;rcases mF c.au.objs (c.au.pO y) j with⟨_,h3⟩|⟨os,z,h3,_,h4⟩
  ·rw[h3] at ho⊢
   show(aH ro E' E2 m).B i=[];rw[h2];exact ho
  ·rw[h4] at ho⊢
   exact uV (E:=E2) (F:=aH ro E' E2 m) rfl uL os z j i aj h1 h2 (xA os h3) ho
 have lay:∀i,i<m.nx→(∀u,(bg c m y i).lay=some u→(m.ob i).lay=some u)∧((bg c m y i).bn=true→(m.ob i).bn=true):=by
  intro i hi';cases hv:inv m.sig i with
  |some j=>
   rw[pI i j hi' hv,xK,vQ];have hs:=gY kn hv;obtain⟨o,z,h1,h2,h3,_⟩:=hm j i hs;rw[h2,h3];rcases mF c.au.objs (c.au.pO y) j with⟨_,h4⟩|⟨os,z',_,h5,h4⟩
   ·rw[h4];exact⟨fun u h=>by simp[Ob.lay] at h,fun h=>by simp[Ob.bn] at h⟩
   ·rw[h4]
    obtain⟨l1,l2,_⟩:=sF (lN hk h1 h5) z z';rw[l1,l2];exact⟨fun u h=>h,fun h=>h⟩
  |none=>
   cases hf:(!ro&&bL i m.fz) with
   |true=>
    rw[pG i hi' hv hf];cases m.ob i with
    |sl fz v e t xs=>cases fz<;>exact⟨fun u h=>by simpa[fG,Ob.lay] using h,fun h=>by simp[fG,Ob.bn] at h⟩
    |_=>exact⟨fun u h=>by simp[fG,Ob.lay] at h,fun h=>by simp[fG,Ob.bn] at h⟩
   |false=>
    rw[pJ i hi' hv hf];exact⟨fun _ h=>h,fun h=>h⟩
 have rH:∀i,(!ro&&bL i m.fz)=true→ro=false∧i∈m.fz:=by
  intro i h;cases ro with
  |true=>simp at h
  |false=>exact⟨rfl,(iC i m.fz).1 (by simpa using h)⟩
 have ev:Ev E' m.ob m.nx (aH ro E' E2 m) (bg c m y) (m.nx+Nat.max 100 (bJ c.au.objs)):=by
  refine⟨Nat.le_add_right _ _,fun i hi'=>by simp only[aH,if_pos hi'],nK,fun b hb=>jQ b (.inl hb),fun i hi'=>(lay i hi').1,fun i hi'=>(lay i hi').2,?_⟩;intro i hi' fz v e t xs ho;cases hv:inv m.sig i with
  |some j=>
   rw[pI i j hi' hv] at ho;have hs:=gY kn hv;obtain⟨o,z,h1,h2,h3,h3'⟩:=hm j i hs;rcases mF c.au.objs (c.au.pO y) j with⟨_,h4⟩|⟨os,z',_,h5,h4⟩
   ·rw[h4] at ho;simp[dU] at ho
   ·have pW:aK E2 (c.au.st y).ob (c.au.st y).nx j (bS c.au.objs (c.au.pO y) j):=r2.ob j
    rw[h4] at ho pW;cases hos:os.ob z' with
    |sl kC v2 e2 t2 dK=>
     rw[hos] at ho pW;simp only[dU,Ob.sl.injEq] at ho;obtain⟨rfl,rfl,rfl,rfl,hxs⟩:=ho;have hxs:=eq_of_heq hxs;subst hxs;obtain⟨aN,hx0⟩:=(sF (lN hk h1 h5) z z').2.2 _ _ _ _ _ hos;obtain⟨v0,kV,hx1⟩:=h3' _ _ aN hx0;have ah:=ok.rep.ob i;simp only[hx1] at ah;have hkk:=lN hk h1 h5;have hfz:kC= .own:=by
      cases os with
      |sl e t=>simp only[OS.ob,Ob.sl.injEq] at hos;exact hos.1.symm
      |sh e t=>cases o<;>simp[kindOk] at hkk
      |box u c=>simp[OS.ob] at hos
      |aW u c=>simp[OS.ob] at hos
     subst hfz;obtain⟨w1,f1,n1,a1,a2,_,_⟩:=ah;obtain⟨w2,f2,n2,b1,b2,_,_⟩:=pW;rw[nC j i hs,a1] at b1;obtain rfl:w1=w2:=by simpa using b1
     refine⟨.own,v0,kV,hx1,yj a2 b2,by rw[hx1];simp[mW],fun e=> ?_⟩;rw[hx1] at e;simp[mW] at e
    |box u c=>rw[hos] at ho;simp[dU] at ho
    |aW b u c=>rw[hos] at ho;simp[dU] at ho
    |dead=>rw[hos] at ho;simp[dU] at ho
  |none=>
   have hns:=kI hv;cases hf:(!ro&&bL i m.fz) with
   |true=>
    rw[pG i hi' hv hf] at ho;obtain⟨oP,hfz⟩:=rH i hf;cases hmo:m.ob i with
    |sl bH v0 e0 t0 aN=>
     rw[hmo] at ho;have ho:Ob.sl .aU v0 e0 t0 aN= .sl fz v e t xs:=by
      cases bH<;>simp only[fG] at ho<;>first|exact ho|cases ho
     simp only[Ob.sl.injEq] at ho;obtain⟨rfl,rfl,rfl,rfl,hxs⟩:=ho;have hxs:=eq_of_heq hxs;subst hxs;refine⟨bH,v0,_,rfl,rfl,Nat.le_refl _,fun _=>⟨rfl,fun b hb=> ?_⟩⟩;have hz':(into E' m).Z b:=by
      rcases hb with hb|hb
      ·exact .inr ⟨i,hfz,hb⟩
      ·exact .inl hb
     refine⟨jQ b hz',.inr ?_⟩;simp only[aH,oP];exact f.z0 b hz'
    |box u c=>rw[hmo] at ho;simp[fG] at ho
    |aW b u c=>rw[hmo] at ho;simp[fG] at ho
    |dead=>rw[hmo] at ho;simp[fG] at ho
   |false=>
    rw[pJ i hi' hv hf] at ho;refine⟨fz,v,xs,ho,rfl,Nat.le_refl _,fun _=>⟨rfl,fun b hb=> ?_⟩⟩;rcases hb with hb|hb
    ·exact⟨still b (ok.rep.bb i b hb).1 (pg i b hns hb),.inl (by rw[BU i hi' hv hf];exact hb)⟩
    ·exact⟨jQ b (.inl hb),.inr (nK b hb)⟩
 have origin:∀i b,b∈(aH ro E' E2 m).B i→(b∈E'.B i∧i<m.nx∧inv m.sig i=none∧(!ro&&bL i m.fz)=false)∨(∃j,b∈E2.B j∧((i<m.nx∧inv m.sig i=some j)∨(¬i<m.nx∧j=i-m.nx∧aA m.sig j=none))):=by
  intro i b hb;by_cases h1:i<m.nx
  ·cases hv:inv m.sig i with
   |some j=>rw[BS i j h1 hv] at hb;exact .inr ⟨j,hb,.inl ⟨h1,rfl⟩⟩
   |none=>
    cases hf:(!ro&&bL i m.fz) with
    |true=>rw[BF i h1 hv hf] at hb;simp at hb
    |false=>rw[BU i h1 hv hf] at hb;exact .inl ⟨hb,h1,rfl,rfl⟩
  ·cases hs:aA m.sig (i-m.nx) with
   |some q=>rw[BD i h1 ⟨q,hs⟩] at hb;simp at hb
   |none=>rw[BN i h1 hs] at hb;exact .inr ⟨_,hb,.inr ⟨h1,rfl,hs⟩⟩
 have ry:∀j b,b∈E2.B j→(∃j' i,aA m.sig j'=some i∧b∈E'.B i)∨E'.w.heap.size≤b:=by
  intro j b hb;rcases f.own j b hb with⟨j',h1⟩|h1
  ·obtain⟨i,h2,h3⟩:=jT j' b h1
   exact .inl ⟨j',i,h2,h3⟩
  ·exact .inr h1
 have apart:∀i j b,b∈E'.B i→inv m.sig i=none→b∈E2.B j→False:=by
  intro i j b hb hv hj;rcases ry j b hj with⟨j',i',h1,h2⟩|h1
  ·exact ok.rep.dj i i' b (fun e=>kI hv j' (by rw[e];exact h1)) hb h2
  ·have:=(ok.rep.bb i b hb).1;omega
 constructor
 ·have xw:aT E' {sl:=st.sl,ob:=m.ob,nx:=m.nx} a.tmps:=
   ⟨fun s=>eG e.ev (hi.rep.sl s),ok.rep.ob,ok.rep.lt,ok.rep.dj,ok.rep.nd,ok.rep.bb,ok.rep.zb⟩
  refine⟨xw.turn rfl ev ?_ ?_ ?_ ?_ ?_ ?_,?_,hi.defers,hi.size,Nat.le_trans hi.nx (Nat.le_trans e.nx (Nat.le_add_right _ _))⟩
  ·intro i
   by_cases h1:i<m.nx
   ·cases hv:inv m.sig i with
    |some j=>
     show aK _ _ _ i (bg c m y i);rw[pI i j h1 hv];refine tC j i _ ?_ (BS i j h1 hv);simp only[aH,if_pos h1];exact(nC j i (gY kn hv)).symm
    |none=>
     have hns:=kI hv;cases hf:(!ro&&bL i m.fz) with
     |true=>
      show aK _ _ _ i (bg c m y i);rw[pG i h1 hv hf];obtain⟨oP,hfz⟩:=rH i hf;have ah:=ok.rep.ob i;cases hmo:m.ob i with
      |sl bH v0 e0 t0 aN=>
       simp only[hmo] at ah;have z3:∀b,(into E' m).Z b→(aH ro E' E2 m).Z b:=fun b hb=>by simp only[aH,oP];exact f.z0 b hb
       have fin:Rd (aH ro E' E2 m).w (aH ro E' E2 m).Z (.list e0 t0) aN [E'.af i]→aK (aH ro E' E2 m) (bg c m y) (m.nx+Nat.max 100 (bJ c.au.objs)) i (.sl .aU v0 e0 t0 aN):=fun hrd=>by
        refine⟨?_,BF i h1 hv hf⟩;rw[show(aH ro E' E2 m).af i=E'.af i by simp only[aH,if_pos h1]];exact hrd
       cases bH with
       |own=>exact fin (aM (fun b hb=>z3 b (.inr ⟨i,hfz,hb⟩)) (fun b hb=>jQ b (.inr ⟨i,hfz,hb⟩)) _ _ _ (dL _ _ _ _ ah))
       |aU=>exact fin (aM (fun b hb=>z3 b (.inl hb)) (fun b hb=>jQ b (.inl hb)) _ _ _ ah.1)
       |shl=>exact fin (aM (fun b hb=>z3 b (hb.elim (fun hb=> .inr ⟨i,hfz,hb⟩) .inl)) (fun b hb=>jQ b (hb.elim (fun hb=> .inr ⟨i,hfz,hb⟩) .inl)) _ _ _ (lu ah))
       |hole _ _ _=>exact BF i h1 hv hf
      |box u c=>exact BF i h1 hv hf
      |aW b u c=>exact BF i h1 hv hf
      |dead=>exact BF i h1 hv hf
     |false=>
      show aK _ _ _ i (bg c m y i);rw[pJ i h1 hv hf];exact dR ev (by simp only[aH,if_pos h1]) (BU i h1 hv hf) (fun b hb=>still b (ok.rep.bb i b hb).1 (pg i b hns hb)) (ok.rep.ob i)
   ·cases hs:aA m.sig (i-m.nx) with
    |some q=>
     show aK _ _ _ i (bg c m y i);rw[tu i h1 ⟨q,hs⟩];exact BD i h1 ⟨q,hs⟩
    |none=>
     show aK _ _ _ i (bg c m y i);rw[mE i h1 hs];exact tC _ i _ (by simp only[aH,if_neg h1]) (BN i h1 hs)
  ·intro i hi'
   have hi':m.nx+Nat.max 100 (bJ c.au.objs)≤i:=hi';have h1:¬i<m.nx:=by omega
   show bg c m y i= .dead;cases hs:aA m.sig (i-m.nx) with
   |some q=>exact tu i h1 ⟨q,hs⟩
   |none=>
    rw[mE i h1 hs];have:bS c.au.objs (c.au.pO y) (i-m.nx)= .dead:=r2.lt (i-m.nx) (by show Nat.max 100 (bJ c.au.objs)≤_;omega);rw[this];rfl
  ·intro i i' b hne hb hb'
   rcases origin i b hb with⟨h1,_,h1v,_⟩|⟨j,h1,h2⟩<;>rcases origin i' b hb' with⟨h1',_,wS,_⟩|⟨j',h1',h2'⟩
   ·exact ok.rep.dj i i' b hne h1 h1'
   ·exact apart i j' b h1 h1v h1'
   ·exact apart i' j b h1' wS h1
   ·refine r2.dj j j' b ?_ h1 h1'
    intro wm;subst wm;rcases h2 with⟨h2,h3⟩|⟨h2,h3,h4⟩<;>rcases h2' with⟨h2',h3'⟩|⟨h2',h3',h4'⟩
    ·have p1:=gY kn h3
     have p2:=gY kn h3';rw[p1] at p2;exact hne (by simpa using p2)
    ·have p1:=gY kn h3
     rw[h4'] at p1;cases p1
    ·have p1:=gY kn h3'
     rw[h4] at p1;cases p1
    ·omega
  ·intro i
   by_cases h1:i<m.nx
   ·cases hv:inv m.sig i with
    |some j=>rw[BS i j h1 hv];exact r2.nd j
    |none=>
     cases hf:(!ro&&bL i m.fz) with
     |true=>rw[BF i h1 hv hf];exact List.nodup_nil
     |false=>rw[BU i h1 hv hf];exact ok.rep.nd i
   ·cases hs:aA m.sig (i-m.nx) with
    |some q=>rw[BD i h1 ⟨q,hs⟩];exact List.nodup_nil
    |none=>rw[BN i h1 hs];exact r2.nd _
  ·intro i b hb
   rcases origin i b hb with⟨h1,h2,h3,h4⟩|⟨j,h1,_⟩
   ·obtain⟨p1,p2⟩:=ok.rep.bb i b h1
    refine⟨Nat.lt_of_lt_of_le p1 f.size,fun hz3=> ?_⟩;cases ro with
    |true=>simp only[aH,if_true] at hz3;exact p2 hz3
    |false=>
     have hz3:E2.Z b:=by simpa[aH] using hz3
     rcases f.z1 b hz3 with hz|⟨j,hj⟩|hz
     ·rcases hz with hz|⟨i',h5,h6⟩
      ·exact p2 hz
      ·have:i≠i':=fun e=>by
        subst e;simp only[Bool.not_false,Bool.true_and] at h4;rw[(iC i m.fz).2 h5] at h4;cases h4
       exact ok.rep.dj i i' b this h1 h6
     ·exact pg i b (kI h3) h1 j hj
     ·have:E'.w.heap.size≤b:=hz
      omega
   ·exact⟨(r2.bb j b h1).1,fun hz3=>(r2.bb j b h1).2 (Z3 b hz3)⟩
  ·intro b hb
   exact r2.zb b (Z3 b hb)
  ·have hE:Fr E E':=⟨by rw[e.w],by rw[e.w],by rw[e.w],by rw[e.w];exact Nat.le_refl _,fun _ _ _=>by rw[e.w],fun i b hb=> .inl ⟨i,by rw[←e.B];exact hb⟩,fun b hb=>by rw[e.Z];exact hb,
    fun b hb=> .inl (by rw[←e.Z];exact hb),fun i hi'=>e.af i (Nat.lt_of_lt_of_le hi' hi.nx)⟩
   refine(hi.fr.trans hE).trans ⟨f.os,f.tape,f.output,f.size,?_,?_,nK,?_,?_⟩
   ·intro b hb ho
    refine still b hb fun j hj=> ?_;obtain⟨i,_,h2⟩:=jT j b hj;exact ho i h2
   ·intro i b hb
    rcases origin i b hb with⟨h1,_⟩|⟨j,h1,_⟩
    ·exact .inl ⟨i,h1⟩
    ·rcases ry j b h1 with⟨_,i',_,h2⟩|h2
     ·exact .inl ⟨i',h2⟩
     ·exact .inr h2
   ·intro b hb
    cases ro with
    |true=>simp only[aH,if_true] at hb;exact .inl hb
    |false=>
     have hb:E2.Z b:=by simpa[aH] using hb
     rcases f.z1 b hb with hz|⟨j,hj⟩|hz
     ·rcases hz with hz|⟨i',_,h6⟩
      ·exact .inl hz
      ·exact .inr (.inl ⟨i',h6⟩)
     ·obtain⟨i,_,h2⟩:=jT j b hj
      exact .inr (.inl ⟨i,h2⟩)
     ·exact .inr (.inr hz)
   ·intro i hi'
    have:i<m.nx:=Nat.lt_of_lt_of_le hi' (Nat.le_trans hi.nx e.nx);simp only[aH,if_pos this]
 ·intro s v hv
  exact u6 (E:=E2) (F:=aH ro E' E2 m) rfl uL _ _ s v xB hv
end
end Go.Am
end
section
namespace Go.Am
def fM(E:Env)(nx i:Nat)(p b q:List Nat)(cv:Value):Env:=⟨E.w,E.Z,upd E.af nx cv,upd (upd E.B i (p++q)) nx b⟩
theorem yJ{g:(t:Ty)→t.Den→Option t.Den}:∀(a:Ty) (n:Nat) (x y:a.Den) (o:Nat) (u:Ty),dO g a n x=some y→a.at n=some (o,u)→∃z z',g u z=some z':=by
 intro a
 induction a with
 |cons a b _ ihb=>
  intro n x y o u hg ha;cases n with
  |zero=>
   simp only[Ty.at,Option.some.injEq,Prod.mk.injEq] at ha;obtain⟨_,rfl⟩:=ha;simp only[dO] at hg;split at hg
   ·rename_i z hz;exact⟨_,z,hz⟩
   ·cases hg
  |succ n=>
   simp only[Ty.at] at ha;split at ha
   ·rename_i o' v' hb
    simp only[Option.some.injEq,Prod.mk.injEq] at ha;obtain⟨_,rfl⟩:=ha;simp only[dO] at hg;split at hg
    ·rename_i z hz;exact ihb n x.2 z o' v' hz hb
    ·cases hg
   ·cases ha
 |_=>intro n x y o u hg ha;simp[Ty.at] at ha
theorem uB:∀(path:List Nat) (d:DV) (t:Ty) (x y:t.Den) (off:Nat) (v:Ty),bN d path t x=some y→t.aL path=some (off,v)→v=d.ty
 |[],d,t,x,y,off,v,hs,ho=>by
  have:=dB (show bE t d=some y from hs);simp only[Ty.aL,Option.some.injEq,Prod.mk.injEq] at ho;rw[this,←ho.2]
 |f::r,d,t,x,y,off,v,hs,ho=>by
  simp only[Ty.aL] at ho;split at ho
  ·rename_i o1 u1 k1
   split at ho
   ·rename_i o2 u2 k2
    simp only[Option.some.injEq,Prod.mk.injEq] at ho;obtain⟨_,rfl⟩:=ho;cases t with
    |st ft=>
     obtain⟨z,z',hz⟩:=yJ (g:=bN d r) ft f x y o1 u1 hs k1;exact uB r d u1 z z' o2 u2 hz k2
    |_=>simp[Ty.dD] at k1
   ·cases ho
  ·cases ho
theorem tJ{N:Nat}{E0 E:Env}{st st':St}{a:Act}{i aj:Nat}{ix:Int}{path:List Nat}{e':TypeId}{u:Ty}{ys:List u.Den}{cv:Value}(ho:mH st i ix path aj e' u ys=some st')(h:Inv N E0 E st a)(hi:i<st.nx)(h0:0≤ix)
 (hsub:∀fz e t xs,st.ob i= .sl fz aj e t xs→jX E i t xs ix path ⟨.list e' u,ys⟩ [cv]):
 ∃E',E'.w=E.w∧Inv N E0 E' st' a∧Ev E st.ob st.nx E' st'.ob st'.nx∧st'.sl=st.sl∧st'.nx=st.nx+1∧E'.af st.nx=cv∧cv.oneCell'=true:=by
 unfold mH at ho;split at ho
 ·rename_i fz v e t xs ah
  split at ho
  ·split at ho
   ·rename_i hb
    obtain rfl:=Nat.eq_of_beq_eq_true hb;simp only[Option.some.injEq] at ho;subst ho;obtain⟨x,g,off,s1,s2,s3,s4,s5,s6⟩:=hsub _ _ _ _ ah;have hr:=h.rep.ob i;rw[ah] at hr;obtain⟨p,b,q,c,l1,l2,l3⟩:=qG hr (h.rep.nd i) s1 s2 s3;obtain⟨v2,f2,eX,rfl,l4⟩:=(show ∃v2 f2 eX,c=[v2]∧_ from l2);have hcv:v2=cv:=by
     obtain⟨g',cap,cur,x',off',q1,q2,q3,q4,q5,q6,q7,_⟩:=l3;rw[s3] at q4;simp only[Option.some.injEq,Prod.mk.injEq] at q4;obtain⟨rfl,_⟩:=q4;have:g'=g:=by rw[q1] at s4;simpa[bQ] using s4
     subst this;have e1:=s6 0 cv rfl;rw[cell_of_row E.w g' _ cur e (0,0) q2] at e1;have e2:=q7 0 v2 rfl;rw[e2] at e1;exact Option.some.inj e1
    subst hcv;have hnd:=h.rep.nd i;rw[l1,List.nodup_append,List.nodup_append] at hnd;have hpq:∀b',b'∈p++q→b'∈E.B i:=fun b' hb'=>by
     rw[l1];rcases List.mem_append.1 hb' with hb'|hb'
     ·simp[hb']
     ·simp[hb']
    have lT:∀b',b'∈b→b'∈E.B i:=fun b' hb'=>by rw[l1];simp[hb']
    have gU:∀b',b'∈p++q→b'∉b:=fun b' hb' hb2=>by
     rcases List.mem_append.1 hb' with hb'|hb'
     ·exact hnd.1.2.2 b' hb' b' hb2 rfl
     ·exact hnd.2.2 b' (List.mem_append.2 (.inr hb2)) b' hb' rfl
    have hone:v2.oneCell'=true:=lq _ _ _ _ l2 v2 (by simp);have hne:i≠st.nx:=by omega
    have mE:(upd (upd st.ob i (.sl (.hole ix path st.nx) (v+1) e t xs)) st.nx (.sl .own 0 e' u ys)) st.nx= .sl .own 0 e' u ys:=upd_same _ _ _;have bK:(upd (upd st.ob i (.sl (.hole ix path st.nx) (v+1) e t xs)) st.nx (.sl .own 0 e' u ys)) i= .sl (.hole ix path st.nx) (v+1) e t xs:=by rw[aD _ _ _ _ hne,upd_same]
    have bA:∀j,j≠i→j≠st.nx→(upd (upd st.ob i (.sl (.hole ix path st.nx) (v+1) e t xs)) st.nx (.sl .own 0 e' u ys)) j=st.ob j:=fun j h1 h2=>by rw[aD _ _ _ _ h2,aD _ _ _ _ h1]
    have BN:(fM E st.nx i p b q v2).B st.nx=b:=upd_same _ _ _;have BI:(fM E st.nx i p b q v2).B i=p++q:=by show upd (upd E.B i (p++q)) st.nx b i=_;rw[aD _ _ _ _ hne,upd_same]
    have BO:∀j,j≠i→j≠st.nx→(fM E st.nx i p b q v2).B j=E.B j:=fun j h1 h2=>by show upd (upd E.B i (p++q)) st.nx b j=_;rw[aD _ _ _ _ h2,aD _ _ _ _ h1]
    have mO:∀j,j<st.nx→(fM E st.nx i p b q v2).af j=E.af j:=fun j hj=>aD _ _ _ _ (by omega);have pX:(fM E st.nx i p b q v2).af st.nx=v2:=upd_same _ _ _;have from_:∀j b',b'∈(fM E st.nx i p b q v2).B j→(j=st.nx∧b'∈b)∨(j=i∧b'∈p++q)∨(j≠i∧j≠st.nx∧b'∈E.B j):=by
     intro j b' hb';by_cases h1:j=st.nx
     ·subst h1;rw[BN] at hb';exact .inl ⟨rfl,hb'⟩
     ·by_cases h2:j=i
      ·subst h2;rw[BI] at hb';exact .inr (.inl ⟨rfl,hb'⟩)
      ·rw[BO j h2 h1] at hb';exact .inr (.inr ⟨h2,h1,hb'⟩)
    have hev:∀j,j<st.nx→∀fz v' e2 t2 dK,(upd (upd st.ob i (.sl (.hole ix path st.nx) (v+1) e t xs)) st.nx (.sl .own 0 e' u ys)) j= .sl fz v' e2 t2 dK→
     ∃bH v0 aN,st.ob j= .sl bH v0 e2 t2 aN∧aN.length=dK.length∧v0≤v'∧(v0=v'→aN=dK∧∀b',b'∈E.B j→E.w.heap[b']?=E.w.heap[b']?∧b'∈(fM E st.nx i p b q v2).B j):=by
     intro j hj fz v' e2 t2 dK hoj;by_cases h2:j=i
     ·subst h2
      rw[bK] at hoj;cases hoj;exact⟨_,_,_,ah,rfl,Nat.le_succ _,fun e=>by omega⟩
     ·rw[bA j h2 (by omega)] at hoj
      exact⟨fz,v',dK,hoj,rfl,Nat.le_refl _,fun _=>⟨rfl,fun b' hb'=>⟨rfl,by rw[BO j h2 (by omega)];exact hb'⟩⟩⟩
    have jr:∀j,j<st.nx→(∀w,((upd (upd st.ob i (.sl (.hole ix path st.nx) (v+1) e t xs)) st.nx (.sl .own 0 e' u ys)) j).lay=some w→(st.ob j).lay=some w)∧
     (((upd (upd st.ob i (.sl (.hole ix path st.nx) (v+1) e t xs)) st.nx (.sl .own 0 e' u ys)) j).bn=true→(st.ob j).bn=true):=by
     intro j hj;by_cases h2:j=i
     ·subst h2
      rw[bK,ah];exact⟨fun w hw=>hw,fun hw=>by cases hw⟩
     ·rw[bA j h2 (by omega)]
      exact⟨fun _ h=>h,fun h=>h⟩
    have wT:Ev E st.ob st.nx (fM E st.nx i p b q v2) (upd (upd st.ob i (.sl (.hole ix path st.nx) (v+1) e t xs)) st.nx (.sl .own 0 e' u ys)) (st.nx+1):=
     ⟨Nat.le_succ _,mO,fun _ h=>h,fun _ _=>rfl,fun j hj=>(jr j hj).1,fun j hj=>(jr j hj).2,fun j hj fz v' e2 t2 dK hoj=>by
      obtain⟨bH,v0,aN,k0,k1,k2,k3⟩:=hev j hj fz v' e2 t2 dK hoj;exact⟨bH,v0,aN,k0,k1,k2,fun e=>⟨(k3 e).1,fun b' hb'=>⟨rfl,hb'.imp (fun hb'=>((k3 e).2 b' hb').2) id⟩⟩⟩⟩
    refine⟨fM E st.nx i p b q v2,rfl,h.gen rfl ⟨rfl,rfl,rfl,Nat.le_refl _,fun _ _ _=>rfl⟩ rfl (Nat.le_succ _) mO hev jr ?_ ?_ ?_ ?_ ?_,wT,rfl,rfl,pX,hone⟩
    ·intro ev j
     by_cases h1:j=st.nx
     ·subst h1
      show aK _ _ _ _ ((upd (upd st.ob i (.sl (.hole ix path st.nx) (v+1) e t xs)) st.nx (.sl .own 0 e' u ys)) st.nx);rw[mE];show Ow _ _ _ _ _;rw[pX,BN];exact l2
     ·by_cases h2:j=i
      ·subst h2
       show aK _ _ _ _ ((upd (upd st.ob j (.sl (.hole ix path st.nx) (v+1) e t xs)) st.nx (.sl .own 0 e' u ys)) j);rw[bK];refine⟨Nat.lt_succ_self _,p,q,e',u,BI,h0,?_⟩;rw[pX,mO j hi];exact l3
      ·show aK _ _ _ _ ((upd (upd st.ob i (.sl (.hole ix path st.nx) (v+1) e t xs)) st.nx (.sl .own 0 e' u ys)) j)
       rw[bA j h2 h1];by_cases h3:j<st.nx
       ·exact dR ev (mO j h3) (BO j h2 h1) (fun _ _=>rfl) (h.rep.ob j)
       ·have hd:=h.rep.lt j (by omega)
        have hb:=h.rep.ob j;rw[hd] at hb⊢;show(fM E st.nx i p b q v2).B j=[];rw[BO j h2 h1];exact hb
    ·intro j hj
     have hj:st.nx+1≤j:=hj;show(upd (upd st.ob i (.sl (.hole ix path st.nx) (v+1) e t xs)) st.nx (.sl .own 0 e' u ys)) j=_;rw[bA j (by omega) (by omega)];exact h.rep.lt j (by omega)
    ·intro i1 j b' hij hb1 hb2
     rcases from_ i1 b' hb1 with⟨rfl,h1⟩|⟨rfl,h1⟩|⟨h1,h2,h3⟩<;>rcases from_ j b' hb2 with⟨rfl,g1⟩|⟨rfl,g1⟩|⟨g1,g2,g3⟩
     ·exact hij rfl
     ·exact gU b' g1 h1
     ·exact h.rep.dj _ _ b' (fun e=>g1 e.symm) (lT b' h1) g3
     ·exact gU b' h1 g1
     ·exact hij rfl
     ·exact h.rep.dj _ _ b' (fun e=>g1 e.symm) (hpq b' h1) g3
     ·exact h.rep.dj _ _ b' h1 h3 (lT b' g1)
     ·exact h.rep.dj _ _ b' h1 h3 (hpq b' g1)
     ·exact h.rep.dj _ _ b' hij h3 g3
    ·intro j
     by_cases h1:j=st.nx
     ·subst h1;rw[BN];exact hnd.1.2.1
     ·by_cases h2:j=i
      ·subst h2
       rw[BI,List.nodup_append];exact⟨hnd.1.1,hnd.2.1,fun b1 hb1 b2 hb2=>hnd.2.2 b1 (List.mem_append.2 (.inl hb1)) b2 hb2⟩
      ·rw[BO j h2 h1];exact h.rep.nd j
    ·intro j b' hb'
     rcases from_ j b' hb' with⟨rfl,h1⟩|⟨rfl,h1⟩|⟨h1,h2,h3⟩
     ·exact⟨.inl ⟨i,lT b' h1⟩,(h.rep.bb i b' (lT b' h1)).1⟩
     ·exact⟨.inl ⟨_,hpq b' h1⟩,(h.rep.bb _ b' (hpq b' h1)).1⟩
     ·exact⟨.inl ⟨j,h3⟩,(h.rep.bb j b' h3).1⟩
   ·cases ho
  ·cases ho
 ·cases ho
theorem yP{cur:Array Value}{o:Nat}{v:Value}(h:cur[o]?=some v):(splice cur.toList o [v]).toArray=cur:=by
 have hlt:=(Array.getElem?_eq_some_iff.1 h).1;have hv:=(Array.getElem?_eq_some_iff.1 h).2;apply Array.ext';simp only[splice,List.length_singleton];have h1:cur.toList.drop o=v::cur.toList.drop (o+1):=by
  rw[List.drop_eq_getElem_cons (by simpa using hlt)]
  congr 1
 rw[List.append_assoc,List.singleton_append,←h1,List.take_append_drop]
theorem vS{N:Nat}{R:Type}{E0 E:Env}{st:St}{a:Act}{d:Option Nat}{i:Nat}{k:St→Option R}{r:R}(hk:iA d i st k=some r)(h:Inv N E0 E st a):
 ∃st' E',k st'=some r∧Inv N E0 E' st' a∧E'.w=E.w:=by
 unfold iA at hk;split at hk
 ·rename_i ix path m aj e t xs ah
  split at hk
  ·rename_i zy e' u ys oN
   split at hk
   ·exact⟨st,E,hk,h,rfl⟩
   ·obtain⟨x,hx1,hk2⟩:=Option.bind_eq_some_iff.1 hk
    clear hk;obtain⟨h0,_,h2,_⟩:=iM hx1;split at hk2
    ·rename_i y hy
     have hr:=h.rep.ob i;rw[ah] at hr;obtain⟨hm,p,q,e2,u2,l1,_,l3⟩:=hr;obtain⟨g,cap,cur,x0,off,q1,q2,q3,q4,q5,q6,q7,q8⟩:=l3;rw[h2] at q3;obtain rfl:=Option.some.inj q3;have hty:=uB path _ t x y off _ hy q4;simp only[Ty.list.injEq] at hty;obtain⟨rfl,rfl⟩:=hty;have hrm:=h.rep.ob m;rw[oN] at hrm;have hrm:Ow E.w (.list e2 u2) ys [E.af m] (E.B m):=hrm;have lV:m≠i:=fun e=>by subst e;rw[ah] at oN;cases oN
     have hil:i<st.nx:=by
      rcases Nat.lt_or_ge i st.nx with hh|hh
      ·exact hh
      ·rw[h.rep.lt i hh] at ah;cases ah
     have hcell:=q7 0 (E.af m) rfl;obtain⟨x',m1,m2⟩:=q8 E.w ys [E.af m] (E.B m) (by rw[q2];congr 2;exact(yP hcell).symm) (fun _ _ _=>rfl) hrm;rw[hy] at m1;obtain rfl:=Option.some.inj m1;have hpq:∀b',b'∈p++q→b'∈E.B i:=fun b' hb'=>by rw[l1];exact hb'
     have hnd:=h.rep.nd i;rw[l1] at hnd;have gU:∀b',b'∈p++q→b'∉E.B m:=fun b' hb' hb2=>h.rep.dj m i b' lV hb2 (hpq b' hb')
     let E':Env:=⟨E.w,E.Z,E.af,upd (upd E.B m []) i (p++E.B m++q)⟩
     have bK:(upd (upd st.ob m .dead) i (.sl .own (aj+1) e t (xs.set ix.toNat y))) i= .sl .own (aj+1) e t (xs.set ix.toNat y):=upd_same _ _ _;have mD:(upd (upd st.ob m .dead) i (.sl .own (aj+1) e t (xs.set ix.toNat y))) m= .dead:=by rw[aD _ _ _ _ lV,upd_same]
     have bA:∀j,j≠i→j≠m→(upd (upd st.ob m .dead) i (.sl .own (aj+1) e t (xs.set ix.toNat y))) j=st.ob j:=fun j h1 h2=>by rw[aD _ _ _ _ h1,aD _ _ _ _ h2]
     have BI:E'.B i=p++E.B m++q:=upd_same _ _ _;have BM:E'.B m=[]:=by show upd (upd E.B m []) i _ m=_;rw[aD _ _ _ _ lV,upd_same]
     have BO:∀j,j≠i→j≠m→E'.B j=E.B j:=fun j h1 h2=>by show upd (upd E.B m []) i _ j=_;rw[aD _ _ _ _ h1,aD _ _ _ _ h2]
     have from_:∀j b',b'∈E'.B j→(j=i∧(b'∈p++q∨b'∈E.B m))∨(j≠i∧j≠m∧b'∈E.B j):=by
      intro j b' hb';by_cases h1:j=i
      ·subst h1
       rw[BI] at hb';refine .inl ⟨rfl,?_⟩;rcases List.mem_append.1 hb' with hb'|hb'
       ·rcases List.mem_append.1 hb' with hb'|hb'
        ·exact .inl (List.mem_append.2 (.inl hb'))
        ·exact .inr hb'
       ·exact .inl (List.mem_append.2 (.inr hb'))
      ·by_cases h2:j=m
       ·subst h2;rw[BM] at hb';simp at hb'
       ·rw[BO j h1 h2] at hb';exact .inr ⟨h1,h2,hb'⟩
     refine⟨_,E',hk2,h.gen rfl ⟨rfl,rfl,rfl,Nat.le_refl _,fun _ _ _=>rfl⟩ rfl (Nat.le_refl _) (fun _ _=>rfl) ?_ ?_ ?_ ?_ ?_ ?_ ?_,rfl⟩
     ·intro j hj fz v' e3 t3 uQ hoj
      have hoj:(upd (upd st.ob m .dead) i (.sl .own (aj+1) e t (xs.set ix.toNat y))) j= .sl fz v' e3 t3 uQ:=hoj;by_cases h1:j=i
      ·subst h1
       rw[bK] at hoj;cases hoj;exact⟨_,_,_,ah,by simp,Nat.le_succ _,fun e=>by omega⟩
      ·by_cases h2:j=m
       ·subst h2;rw[mD] at hoj;cases hoj
       ·rw[bA j h1 h2] at hoj
        exact⟨fz,v',uQ,hoj,rfl,Nat.le_refl _,fun _=>⟨rfl,fun b' hb'=>⟨rfl,by rw[BO j h1 h2];exact hb'⟩⟩⟩
     ·intro j hj
      show(∀w,((upd (upd st.ob m .dead) i (.sl .own (aj+1) e t (xs.set ix.toNat y))) j).lay=some w→(st.ob j).lay=some w)∧(((upd (upd st.ob m .dead) i (.sl .own (aj+1) e t (xs.set ix.toNat y))) j).bn=true→(st.ob j).bn=true);by_cases h1:j=i
      ·subst h1
       rw[bK,ah];exact⟨fun w hw=>hw,fun hw=>by cases hw⟩
      ·by_cases h2:j=m
       ·subst h2
        rw[mD];exact⟨fun w hw=>by simp[Ob.lay] at hw,fun hw=>by simp[Ob.bn] at hw⟩
       ·rw[bA j h1 h2]
        exact⟨fun _ h=>h,fun h=>h⟩
     ·intro ev j
      show aK _ _ _ _ ((upd (upd st.ob m .dead) i (.sl .own (aj+1) e t (xs.set ix.toNat y))) j);by_cases h1:j=i
      ·subst h1
       rw[bK];show Ow _ _ _ _ _;rw[BI];exact m2
      ·by_cases h2:j=m
       ·subst h2;rw[mD];exact BM
       ·rw[bA j h1 h2]
        exact dR ev rfl (BO j h1 h2) (fun _ _=>rfl) (h.rep.ob j)
     ·intro j hj
      show(upd (upd st.ob m .dead) i (.sl .own (aj+1) e t (xs.set ix.toNat y))) j=_;have hj:st.nx≤j:=hj;by_cases h2:j=m
      ·subst h2;exact mD
      ·rw[bA j (by omega) h2]
       exact h.rep.lt j hj
     ·intro i1 j b' hij hb1 hb2
      rcases from_ i1 b' hb1 with⟨rfl,h1⟩|⟨h1,h2,h3⟩<;>rcases from_ j b' hb2 with⟨rfl,g1⟩|⟨g1,g2,g3⟩
      ·exact hij rfl
      ·rcases h1 with h1|h1
       ·exact h.rep.dj _ _ b' hij (hpq b' h1) g3
       ·exact h.rep.dj _ _ b' (fun e=>g2 e.symm) h1 g3
      ·rcases g1 with g1|g1
       ·exact h.rep.dj _ _ b' hij h3 (hpq b' g1)
       ·exact h.rep.dj _ _ b' h2 h3 g1
      ·exact h.rep.dj _ _ b' hij h3 g3
     ·intro j
      by_cases h1:j=i
      ·subst h1
       rw[BI];rw[List.nodup_append] at hnd;rw[List.nodup_append,List.nodup_append];refine⟨⟨hnd.1,h.rep.nd m,fun b1 hb1 b2 hb2 e=> ?_⟩,hnd.2.1,fun b1 hb1 b2 hb2 e=> ?_⟩
       ·subst e;exact gU b1 (List.mem_append.2 (.inl hb1)) hb2
       ·subst e
        rcases List.mem_append.1 hb1 with hb1|hb1
        ·exact hnd.2.2 b1 hb1 b1 hb2 rfl
        ·exact gU b1 (List.mem_append.2 (.inr hb2)) hb1
      ·by_cases h2:j=m
       ·subst h2;rw[BM];exact List.nodup_nil
       ·rw[BO j h1 h2];exact h.rep.nd j
     ·intro j b' hb'
      rcases from_ j b' hb' with⟨rfl,h1|h1⟩|⟨h1,h2,h3⟩
      ·exact⟨.inl ⟨_,hpq b' h1⟩,(h.rep.bb _ b' (hpq b' h1)).1⟩
      ·exact⟨.inl ⟨m,h1⟩,(h.rep.bb m b' h1).1⟩
      ·exact⟨.inl ⟨j,h3⟩,(h.rep.bb j b' h3).1⟩
    ·cases hk2
  ·exact⟨st,E,hk,h,rfl⟩
 ·cases hk
structure jU(N:Nat)(E0 E:Env)(st:St)(a:Act)(E':Env)(st':St):Prop where
 w:E'.w=E.w
 inv:Inv N E0 E' st' a
 ev:Ev E st.ob st.nx E' st'.ob st'.nx
 sl:st'.sl=st.sl
theorem x_{N:Nat}{E0 E:Env}{st:St}{a:Act}(h:Inv N E0 E st a):∀(cs:CS) (c c':Cn) (st':St) (i:Nat) (md:Bool) (vs:List Value),dH st cs c=some (c',st',i)→av E st.ob st.nx c md vs→
 ∃E',jU N E0 E st a E' st'∧av E' st'.ob st'.nx c' md vs∧c'.isAgg=c.isAgg:=by
 intro cs
 induction cs with
 |h j=>
  intro c c' st' i md vs ho hc;cases c with
  |sub i0 ix path aj d=>
   obtain⟨ty,ys⟩:=d;cases ty with
   |list e u=>
    simp only[dH] at ho;split at ho
    ·rename_i st2 hop
     simp only[Option.some.injEq,Prod.mk.injEq] at ho;obtain⟨rfl,rfl,rfl⟩:=ho;obtain⟨⟨k0,k1⟩,k2,k3,k4,k5⟩:(vs.length=1∧∀x,x∈vs→x.oneCell'=true)∧_:=by cases md<;>exact hc
     obtain⟨v,rfl⟩:∃v,vs=[v]:=by
      match vs,k0 with
      |[v],_=>exact⟨v,rfl⟩
     obtain⟨E',e1,e2,e3,e4,e5,e6,e7⟩:=tJ hop h k2 k3 (fun fz e0 t xs ah=>by rw[ah] at k5;exact(k5 rfl).2);refine⟨E',⟨e1,e2,e3,e4⟩,?_,rfl⟩;have:av E' st2.ob st2.nx (.h st.nx) md [v]↔st.nx<st2.nx∧(E'.af st.nx).oneCell'=true∧[v]=[E'.af st.nx]:=by cases md<;>exact Iff.rfl
     exact this.2 ⟨by omega,by rw[e6];exact e7,by rw[e6]⟩
    ·cases ho
   |_=>simp[dH] at ho
  |_=>simp[dH] at ho
 |agg a ih=>
  intro c c' st' i md vs ho hc;cases c with
  |agg x=>
   simp only[dH] at ho;split at ho
   ·rename_i x' st2 i2 hx
    simp only[Option.some.injEq,Prod.mk.injEq] at ho;obtain⟨rfl,rfl,rfl⟩:=ho;have hc:av E st.ob st.nx x false vs:=by cases md<;>exact hc
    obtain⟨E',e1,e2,_⟩:=ih _ _ _ _ false vs hx hc;exact⟨E',e1,by cases md<;>exact e2,rfl⟩
   ·cases ho
  |_=>simp[dH] at ho
 |cons a b iha ihb=>
  intro c c' st' i md vs ho hc;cases c with
  |cons x y=>
   simp only[dH] at ho;split at ho
   ·rename_i x' st2 i2 hx
    simp only[Option.some.injEq,Prod.mk.injEq] at ho;obtain⟨rfl,rfl,rfl⟩:=ho;cases md with
    |false=>
     obtain⟨c1,c2,h0,h1,h2⟩:=hc;obtain⟨E',e1,e2,_⟩:=iha _ _ _ _ false c1 hx h1;exact⟨E',e1,⟨c1,c2,h0,e2,dV e1.ev _ _ _ h2⟩,rfl⟩
    |true=>
     obtain⟨v,ws,c1,h0,h1,h2,h3⟩:=hc;obtain⟨E',e1,e2,e3⟩:=iha _ _ _ _ false c1 hx h1;exact⟨E',e1,⟨v,ws,c1,h0,e2,by rw[e3];exact h2,dV e1.ev _ _ _ h3⟩,rfl⟩
   ·split at ho
    ·rename_i y' st2 i2 hy
     simp only[Option.some.injEq,Prod.mk.injEq] at ho;obtain⟨rfl,rfl,rfl⟩:=ho;cases md with
     |false=>
      obtain⟨c1,c2,h0,h1,h2⟩:=hc;obtain⟨E',e1,e2,_⟩:=ihb _ _ _ _ false c2 hy h2;exact⟨E',e1,⟨c1,c2,h0,dV e1.ev _ _ _ h1,e2⟩,rfl⟩
     |true=>
      obtain⟨v,ws,c1,h0,h1,h2,h3⟩:=hc;obtain⟨E',e1,e2,e3⟩:=ihb _ _ _ _ true ws hy h3;exact⟨E',e1,⟨v,ws,c1,h0,dV e1.ev _ _ _ h1,h2,e2⟩,rfl⟩
    ·cases ho
  |_=>simp[dH] at ho
 |_=>intro c c' st' i md vs ho;cases c<;>simp[dH] at ho
theorem yc{N:Nat}{E0 E:Env}{st st':St}{a:Act}{cs:CS}{c c':Cn}{i:Nat}{v:Value}(ho:dH st cs c=some (c',st',i))(h:Inv N E0 E st a)(hv:ak E st.ob st.nx c v):
 ∃E',jU N E0 E st a E' st'∧ak E' st'.ob st'.nx c' v:=by
 have hd:c≠ .dead:=by intro e;subst e;cases cs<;>simp[dH] at ho
 obtain⟨vs,h1,h2⟩:=dX hv hd;obtain⟨E',e1,e2,e3⟩:=x_ h cs c c' st' i false vs ho h1;exact⟨E',e1,ig vs e2 (by rw[e3];exact h2)⟩
theorem tH{N:Nat}{E0 E:Env}{st st':St}{a:Act}{i:Nat}{vs:Nat→Value}:∀(l:List (Nat×CS)) (n:Nat) (args args':List Cn),jH l n args st=some (args',st',i)→Inv N E0 E st a→(∀j,ak E st.ob st.nx (bC args j) (vs j))→
 args'.length=args.length∧∃E',jU N E0 E st a E' st'∧∀j,ak E' st'.ob st'.nx (bC args' j) (vs j)
 |[],_,_,_,ho,_,_=>by simp[jH] at ho
 |x::r,n,[],_,ho,_,_=>by simp[jH] at ho
 |x::r,n,c::cs,args',ho,h,hv=>by
  simp only[jH] at ho;split at ho
  ·split at ho
   ·rename_i c' st2 i2 hc
    simp only[Option.some.injEq,Prod.mk.injEq] at ho;obtain⟨rfl,rfl,rfl⟩:=ho;obtain⟨E',e1,e2⟩:=yc hc h (hv 0);refine⟨rfl,E',e1,fun j=> ?_⟩;cases j with
    |zero=>exact e2
    |succ j=>exact eG e1.ev (hv (j+1))
   ·split at ho
    ·rename_i l' st2 i2 hl
     simp only[Option.some.injEq,Prod.mk.injEq] at ho;obtain⟨rfl,rfl,rfl⟩:=ho;obtain⟨e0,E',e1,e2⟩:=tH (vs:=fun j=>vs (j+1)) r (n+1) cs l' hl h (fun j=>hv (j+1));refine⟨by simp[e0],E',e1,fun j=> ?_⟩;cases j with
     |zero=>exact eG e1.ev (hv 0)
     |succ j=>exact e2 j
    ·cases ho
  ·cases ho
theorem nW{N:Nat}{E0 E:Env}{st:St}{a:Act}(c:Cn)(h:Inv N E0 E st a):∃E',jU N E0 E st a E' {st with ob:=je c st.ob}:=by
 have same:jU N E0 E st a E st:=⟨rfl,h,⟨Nat.le_refl _,fun _ _=>rfl,fun _ h=>h,fun _ _=>rfl,fun _ _ _ h=>h,fun _ _ h=>h,fun i hi fz v e t xs ho=>⟨fz,v,xs,ho,rfl,Nat.le_refl _,fun _=>⟨rfl,fun b hb=>⟨rfl,hb⟩⟩⟩⟩,rfl⟩;unfold je;split
 ·rename_i i
  split
  ·rename_i fz v e t xs ah
   split
   ·have hr:=h.rep.ob i
    rw[ah] at hr;obtain⟨v',f,nb,k1,k2,k3,k4⟩:=hr;have k1:E.af i=v':=by simpa using k1
    have hil:i<st.nx:=by
     rcases Nat.lt_or_ge i st.nx with hh|hh
     ·exact hh
     ·rw[h.rep.lt i hh] at ah;cases ah
    have hnd:=h.rep.nd i;rw[k4,List.nodup_append] at hnd;have hnb:∀b,b∈nb→b∈E.B i:=fun b hb=>by rw[k4];exact List.mem_append.2 (.inr hb)
    let E':Env:=⟨E.w,fun b=>E.Z b∨b∈nb,E.af,upd E.B i v'.ownBlock.toList⟩
    have bK:(upd st.ob i (.sl .shl v e t xs)) i= .sl .shl v e t xs:=upd_same _ _ _;have bA:∀j,j≠i→(upd st.ob i (.sl .shl v e t xs)) j=st.ob j:=fun j hj=>aD _ _ _ _ hj;have BI:E'.B i=v'.ownBlock.toList:=upd_same _ _ _;have BO:∀j,j≠i→E'.B j=E.B j:=fun j hj=>aD _ _ _ _ hj;have dA:∀j b,b∈E'.B j→b∈E.B j:=fun j b hb=>by
     by_cases hj:j=i
     ·subst hj;rw[BI] at hb;rw[k4];exact List.mem_append.2 (.inl hb)
     ·rw[BO j hj] at hb;exact hb
    have ev:Ev E st.ob st.nx E' (upd st.ob i (.sl .shl v e t xs)) st.nx:=by
     refine⟨Nat.le_refl _,fun _ _=>rfl,fun b hb=> .inl hb,fun _ _=>rfl,fun j hj u hu=> ?_,fun j hj hu=> ?_,fun j hj fz v2 e2 t2 dK ho=> ?_⟩
     ·by_cases hji:j=i
      ·subst hji;rw[bK] at hu;rw[ah];exact hu
      ·rw[bA j hji] at hu;exact hu
     ·by_cases hji:j=i
      ·subst hji;rw[bK] at hu;cases hu
      ·rw[bA j hji] at hu;exact hu
     ·by_cases hji:j=i
      ·subst hji
       rw[bK] at ho;cases ho;refine⟨_,_,_,ah,rfl,Nat.le_refl _,fun _=>⟨rfl,fun b hb=>⟨rfl,?_⟩⟩⟩;rcases hb with hb|hb
       ·rw[k4] at hb
        rcases List.mem_append.1 hb with hb|hb
        ·exact .inl (by rw[BI];exact hb)
        ·exact .inr (.inr hb)
       ·exact .inr (.inl hb)
      ·rw[bA j hji] at ho
       exact⟨fz,v2,dK,ho,rfl,Nat.le_refl _,fun _=>⟨rfl,fun b hb=>⟨rfl,hb.imp (fun hb=>by rw[BO j hji];exact hb) .inl⟩⟩⟩
    refine⟨E',rfl,⟨h.rep.turn (st':={st with ob:=upd st.ob i (.sl .shl v e t xs)}) rfl ev ?_ ?_ ?_ ?_ ?_ ?_,?_,h.defers,h.size,h.nx⟩,ev,rfl⟩
    ·intro j
     show aK _ _ _ _ (upd st.ob i (.sl .shl v e t xs) j);by_cases hji:j=i
     ·subst hji
      rw[bK];refine⟨f,by rw[show E'.af j=E.af j from rfl,k1];exact k2,?_,by rw[BI,show E'.af j=E.af j from rfl,k1]⟩;exact kZ xs f nb (fun x c b hb hx=>aM (fun q hq=> .inr (hb q hq)) (fun _ _=>rfl) t x c (dL t x c b hx)) k3
     ·rw[bA j hji]
      exact dR ev rfl (BO j hji) (fun _ _=>rfl) (h.rep.ob j)
    ·intro j hj
     show upd st.ob i (.sl .shl v e t xs) j=_;have hj:st.nx≤j:=hj;rw[bA j (by omega)];exact h.rep.lt j hj
    ·intro i1 j b hij h1 h2
     exact h.rep.dj i1 j b hij (dA _ _ h1) (dA _ _ h2)
    ·intro j
     by_cases hji:j=i
     ·subst hji;rw[BI];exact hnd.1
     ·rw[BO j hji];exact h.rep.nd j
    ·intro j b hb
     refine⟨(h.rep.bb j b (dA j b hb)).1,fun hz=> ?_⟩;rcases hz with hz|hz
     ·exact(h.rep.bb j b (dA j b hb)).2 hz
     ·by_cases hji:j=i
      ·subst hji
       rw[BI] at hb;exact hnd.2.2 b hb b hz rfl
      ·rw[BO j hji] at hb
       exact h.rep.dj j i b hji hb (hnb b hz)
    ·intro b hb
     rcases hb with hb|hb
     ·exact h.rep.zb b hb
     ·exact(h.rep.bb i b (hnb b hb)).1
    ·exact h.fr.trans ⟨rfl,rfl,rfl,Nat.le_refl _,fun _ _ _=>rfl,fun j b hb=> .inl ⟨j,dA j b hb⟩,fun b hb=> .inl hb,fun b hb=>hb.imp id (fun hb=> .inl ⟨i,hnb b hb⟩),fun _ _=>rfl⟩
   ·exact⟨E,same⟩
  ·exact⟨E,same⟩
 ·exact⟨E,same⟩
section
variable{P:Program}{R:Type}{C:Ctx}{o:Oper}{st:St}{k:St→Option R}{r:R}{E0 E:Env}{a:Act}{K:Act→World→Prop}{Q:Exit→Act→World→Prop}{g:Bool}
theorem vo(ay:∀t u,C.tt t=some u→aY P t u){pure:Bool}{t t2:TypeId}{S X:Operand}{s x:Cn}(ho:o.op= .call {callee:= .builtin .append,args:= #[S,X],argTypes:= #[t,t2]})(hgf:g=false)
 (hk:iV C pure o t t2 s x st k=some r) (h:Inv C.N E0 E st a) (hs:ak E st.ob st.nx s (a.eval S)) (hx:ak E st.ob st.nx x (a.eval X))
 (hK:∀st' E' v,k st'=some r→Inv C.N E0 E' st' (a.put o.dst v)→aO P C g o a v E.w E'.w→K (a.put o.dst v) E'.w):o.wp P a E.w K Q:=by
 unfold iV at hk;split at hk
 ·obtain⟨E1,o1⟩:=nW s h
  obtain⟨E2,o2⟩:=nW (st:={st with ob:=je s st.ob}) x o1.inv;have hw:E2.w=E.w:=o2.w.trans o1.w;refine hw▸vC ay ho hgf hk o2.inv (eG o2.ev (eG o1.ev hs)) (eG o2.ev (eG o1.ev hx)) ?_;intro jN E3 v hk3 hi3 hp3;exact hK jN E3 v hk3 hi3 (by rw[←hw];exact hp3)
 ·split at hk
  ·rename_i i ix path aj e u ys
   split at hk
   ·rename_i st' hop
    obtain⟨vs,⟨k1,k2,k3,k4,k5⟩,hm⟩:=hs;have hm:vs=[a.eval S]:=hm;subst hm;obtain⟨E',e1,e2,e3,e4,e5,e6,e7⟩:=tJ hop h k2 k3 (fun fz e0 t xs ah=>by rw[ah] at k5;exact(k5 rfl).2);refine e1▸qM (pure:=pure) (s:= .h st.nx) (x:=x) ay ho hgf hk e2 ⟨[a.eval S],⟨by omega,by rw[e6];exact e7,by rw[e6]⟩,rfl⟩ (eG e3 hx) ?_;intro jN E3 v hk3 hi3 hp3;exact hK jN E3 v hk3 hi3 (by rw[←e1];exact hp3)
   ·cases hk
  ·exact qM ay ho hgf hk h hs hx hK
end
end Go.Am
end
section
namespace Go.Am
def Kd(o:Ob)(os:OS):Prop:=
 ∃z,o.lay=(OS.ob os z).lay∧o.bn=(OS.ob os z).bn∧∀(e:TypeId) (t:Ty) (aN:List t.Den),OS.ob os z= .sl .own 0 e t aN→∃v0 kV,o= .sl .own v0 e t kV
theorem xJ{o:Ob}{os:OS}(h:jA o os=true):Kd o os:=by
 cases o with
 |sl fz aj e t xs=>
  cases fz<;>cases os<;>simp only[jA] at h<;>try (cases h;done)
  rename_i e' t';simp only[Bool.and_eq_true] at h;obtain rfl:=Nat.eq_of_beq_eq_true h.1;obtain rfl:=of_decide_eq_true h.2;refine⟨(by exact[]),rfl,rfl,fun e t aN he=> ?_⟩;simp only[OS.ob,Ob.sl.injEq] at he;obtain⟨-,-,rfl,rfl,_⟩:=he;exact⟨aj,_,rfl⟩
 |box u c=>
  cases os<;>simp only[jA] at h<;>try (cases h;done)
  ·rename_i v cs
   obtain rfl:=of_decide_eq_true h;exact⟨cs.dflt,rfl,rfl,fun e t aN he=>by simp[OS.ob] at he⟩
  ·rename_i v cs
   obtain rfl:=of_decide_eq_true h;exact⟨(true,cs.dflt),rfl,rfl,fun e t aN he=>by simp[OS.ob] at he⟩
 |aW b u c=>
  cases os<;>simp only[jA] at h<;>try (cases h;done)
  rename_i v cs;obtain rfl:=of_decide_eq_true h;exact⟨(true,cs.dflt),rfl,rfl,fun e t aN he=>by simp[OS.ob] at he⟩
 |dead=>cases os<;>simp only[jA] at h<;>cases h
theorem sD{m:Mt}{objs:List (Nat×OS)}:∀{s:List (Nat×Nat)},jB m objs s=true→∀j i,aA s j=some i→∃o,dS objs j=some o∧Kd (m.ob i) o
 |[],_,j,i,h=>by cases h
 |x::r,hk,j,i,h=>by
  obtain⟨a,b⟩:=x;simp only[jB,Bool.and_eq_true] at hk;rw[dz] at h;split at h
  ·rename_i e
   cases h;subst e;have h1:=hk.1;split at h1
   ·rename_i o ho;exact⟨o,ho,xJ h1⟩
   ·cases h1
  ·exact sD hk.2 j i h
theorem ko{C:Ctx}{st:St}{E:Env}{a:Act}(hr:aT E st a.tmps):∀(xs:List Operand) (ts:List TypeId) (l:List Cn),dM C st xs ts=some l→
 l.length=xs.length∧∀i,ak E st.ob st.nx (bC l i) ((xs.map a.eval).getD i undef)
 |[],ts,l,h=>by
  cases h;exact⟨rfl,fun i=>trivial⟩
 |x::r,ts,l,h=>by
  simp only[dM] at h;split at h
  ·rename_i c l' h1 h2
   cases h;obtain⟨h3,h4⟩:=ko hr r _ _ h2;refine⟨by simp[h3],fun i=> ?_⟩;cases i with
   |zero=>exact a_ h1 hr
   |succ i=>simpa[bC] using h4 i
  ·cases h
theorem uO{E:Env}{ob:Nat→Ob}{nx:Nat}:∀(c:Cn) (l:List Cn) (vs:List Value),mV c=some l→av E ob nx c true vs→
 l.length=vs.length∧∀i,ak E ob nx (bC l i) (vs.getD i undef)
 | .nil,l,vs,h,hc=>by
   cases h;have hc:vs=[]:=hc;subst hc;exact⟨rfl,fun i=>trivial⟩
 | .cons a b,l,vs,h,hc=>by
   simp only[mV] at h;split at h
   ·rename_i l' h1
    cases h;obtain⟨v,ws,c,rfl,h2,h3,h4⟩:=hc;obtain⟨h5,h6⟩:=uO b l' ws h1 h4;refine⟨by simp[h5],fun i=> ?_⟩;cases i with
    |zero=>exact ig c h2 h3
    |succ i=>simpa[bC] using h6 i
   ·cases h
 | .ro _ _,l,vs,h,hc| .bD _ _,l,vs,h,hc| .h _,l,vs,h,hc| .p _,l,vs,h,hc| .addr _ _ _ _ _ _,l,vs,h,hc| .aV _ _,l,vs,h,hc| .sub _ _ _ _ _,l,vs,h,hc
 | .fn _ _,l,vs,h,hc| .bX _,l,vs,h,hc| .agg _,l,vs,h,hc| .cst _,l,vs,h,hc| .any,l,vs,h,hc| .dead,l,vs,h,hc=>by cases h
theorem qP:∀(l r:List Cn) (i:Nat),bC (l++r) i=if i<l.length then bC l i else bC r (i-l.length)
 |[],r,i=>by simp
 |c::l,r,0=>by simp[bC]
 |c::l,r,i+1=>by
  show bC (l++r) i=_;rw[qP l r i];simp[bC]
theorem tZ{E2 E3:Env}{pE pF:Nat→Ob}{pq pz:Nat}{c:cz}{m:Mt}{y:c.au.Den}{tm:Array Value}
 (h:∀s,ak E3 pF pz (bF (b_ m) (bU c.au.slots (c.au.pS y) s)) (tm.getD s undef)):
 ∀(n i:Nat) (vs:List Value),vs.length=n→(∀q,q<n→vs[q]?=some (tm.getD (i+q) undef))→av E3 pF pz (bF (b_ m) (kN c y n i)) true vs
 |0,i,vs,hl,hv=>by
  have:vs=[]:=List.eq_nil_of_length_eq_zero hl;exact this
 |n+1,i,vs,hl,hv=>by
  cases vs with
  |nil=>simp at hl
  |cons v ws=>
   have h0:=hv 0 (Nat.succ_pos _);simp only[List.getElem?_cons_zero,Option.some.injEq,Nat.add_zero] at h0
   have hr:=tZ (E2:=E2) (pE:=pE) (pq:=pq) h n (i+1) ws (by simpa using hl) (fun q hq=>by
    have:=hv (q+1) (by omega);simpa[Nat.add_assoc,Nat.add_comm 1 q] using this)
   have hi:=h i;rw[←h0] at hi;show av E3 pF pz (.cons (bF (b_ m) (bU c.au.slots (c.au.pS y) i)) (bF (b_ m) (kN c y n (i+1)))) true (v::ws);generalize bF (b_ m) (bU c.au.slots (c.au.pS y) i)=q at hi;by_cases hd:q= .dead
   ·subst hd
    exact⟨v,ws,[v],rfl,trivial,rfl,hr⟩
   ·obtain⟨cs,h1,h2⟩:=dX hi hd
    exact⟨v,ws,cs,rfl,h1,h2,hr⟩
section
variable{P:Program}{R:Type}{C:Ctx}{o:Oper}{st:St}{k:St→Option R}{r:R}{E0 E:Env}{a:Act}{K:Act→World→Prop}{Q:Exit→Act→World→Prop}{g:Bool}
theorem qV{pure:Bool}{f:FuncId}{args:List Cn}{argv:Array Value}{c:cz}{x:c.aZ.Den}{y:c.au.Den}{m:Mt}(hc:fV P f c)(bM:g=true→pure=true)(hst:still C o=false)(hal:gF o=false)
 (hm:fJ c.au.aR true c.aZ ⟨bC args,st.ob,st.nx⟩=some (x,m))
 (hno:(pure&& !(isNil m.sig&&(c.au.aR||isNil m.fz)))=false∧iL c.aZ.objs c.au.objs=true∧Nat.beq args.length c.nargs=true∧jB m c.aZ.objs m.sig=true) (hF:c.F x=some y)
 (hk:az C o (kP c m y) {sl:=st.sl,ob:=bg c m y,nx:=m.nx+Nat.max 100 (bJ c.au.objs)} k=some r) (h:Inv C.N E0 E st a)
 (hsz:argv.size=args.length) (hargs:∀i,ak E st.ob st.nx (bC args i) (argv.getD i undef)) (hrun:∀q,(callFunc f argv).run P E.w=q→(execOp a.eval o).run P E.w=q)
 (hK:∀st' E' v,k st'=some r→Inv C.N E0 E' st' (a.put o.dst v)→aO P C g o a v E.w E'.w→K (a.put o.dst v) E'.w):o.wp P a E.w K Q:=by
 have hrep:aT E ⟨bC args,st.ob,st.nx⟩ argv:=⟨hargs,h.rep.ob,h.rep.lt,h.rep.dj,h.rep.nd,h.rep.bb,h.rep.zb⟩;obtain⟨E',e1,e2,e3,e4,e5⟩:=o9 hm hrep;have hkd:=sD hno.2.2.2;have hfn:=hc (into E' m) argv x y (hsz.trans (Nat.eq_of_beq_eq_true hno.2.2.1)) hF e5;rw[show(into E' m).w=E.w from e1.w] at hfn;refine ze (fun _=>hrun) hfn ?_;rintro v w' ⟨E2,tm,rfl,fr,r2,hret⟩
 obtain⟨hinv,hval⟩:=u7 h e1 e2 e3 e4 (fun j i hji=>by
  obtain⟨o,ho,z,h1,h2,h3⟩:=hkd j i hji;exact⟨o,z,ho,h1,h2,h3⟩) hno.2.1 fr r2
 have hv:ak (aH c.au.aR E' E2 m) (bg c m y) (m.nx+Nat.max 100 (bJ c.au.objs)) (kP c m y) v:=by
  have hall:∀s,ak (aH c.au.aR E' E2 m) (bg c m y) (m.nx+Nat.max 100 (bJ c.au.objs)) (bF (b_ m) (bU c.au.slots (c.au.pS y) s)) (tm.getD s undef):=
   fun s=>hval s _ (r2.sl s)
  unfold kP
  have qg:(∃vs:List Value,v= .tuple vs.toArray∧vs.length=c.fK∧∀i,i<c.fK→vs[i]?=some (tm.getD i undef))→
   ak (aH c.au.aR E' E2 m) (bg c m y) (m.nx+Nat.max 100 (bJ c.au.objs)) (.bX (bF (b_ m) (kN c y c.fK 0))) v:=by
   rintro⟨vs,rfl,hl,hv⟩;exact⟨_,⟨vs,rfl,tZ (E2:=E2) (pE:=fun _=> .dead) (pq:=0) hall c.fK 0 vs hl (fun q hq=>by rw[Nat.zero_add];exact hv q hq)⟩,rfl⟩
  generalize hn:c.fK=n at hret qg
  match n with
  |0=>exact qg hret
  |1=>
   have hret:v=tm.getD 0 undef:=hret;rw[hret];exact hall 0
  |n+2=>exact qg hret
 refine fo (G:=fun a'=>K a' (aH c.au.aR E' E2 m).w) hk hinv hv (fun st' hk' hi=>hK st' _ _ hk' hi (.loud hst (fun hg=> ?_) (fun hh=>by rw[hal] at hh;cases hh)));have hp:=bM hg;have hnil:m.sig=[]:=by
  have:=hno.1;simp only[hp,Bool.true_and,Bool.not_eq_false',Bool.and_eq_true] at this;cases hs:m.sig with
  |nil=>rfl
  |cons x r=>rw[hs] at this;simp[isNil] at this
 have hw:(into E' m).w=E.w:=e1.w;refine⟨by rw[←hw];exact fr.os,by rw[←hw];exact fr.tape,by rw[←hw];exact fr.output,by rw[←hw];exact fr.size,fun b hb=> ?_⟩;rw[←hw];refine fr.block b (by rw[hw];exact hb) (fun i=> ?_);simp[into,hnil,aA]
theorem lF{pure:Bool}{f:FuncId}{args:List Cn}{argv:Array Value}:∀(cons:List cz),(∀c,c∈cons→fV P f c)→(g=true→pure=true)→still C o=false→gF o=false→gz C pure o args st k cons=some r→Inv C.N E0 E st a→
 argv.size=args.length→(∀i,ak E st.ob st.nx (bC args i) (argv.getD i undef))→(∀q,(callFunc f argv).run P E.w=q→(execOp a.eval o).run P E.w=q)→
 (∀st' E' v,k st'=some r→Inv C.N E0 E' st' (a.put o.dst v)→aO P C g o a v E.w E'.w→K (a.put o.dst v) E'.w)→o.wp P a E.w K Q
 |[],_,_,_,_,hk,_,_,_,_,_=>by cases hk
 |c::cons,hcs,bM,hst,hal,hk,h,hsz,hargs,hrun,hK=>by
  simp only[gz] at hk;split at hk
  ·rename_i args' st2 i hop
   split at hk
   ·cases hk
   ·rename_i hpure
    split at hk
    ·exact lF cons (fun c hc=>hcs c (List.mem_cons_of_mem _ hc)) bM hst hal hk h hsz hargs hrun hK
    ·rename_i x m hm
     split at hk
     ·cases hk
     ·rename_i hno
      simp only[Bool.not_eq_false',Bool.and_eq_true] at hno;cases hF:c.F x with
      |none=>rw[hF] at hk;cases hk
      |some y=>
       rw[hF] at hk;simp only[Option.bind_some] at hk;obtain⟨hl,E2,ho1,ho2⟩:=tH (vs:=fun j=>argv.getD j undef) c.aZ.slots 0 args args' hop h hargs;have hw:=ho1.w;refine hw▸qV (pure:=false) (g:=g) (hcs c (List.mem_cons_self ..)) (fun hg=>by have:=bM hg;simp_all) hst hal hm ⟨rfl,hno.1,hno.2.1,hno.2.2⟩ hF hk ho1.inv (hsz.trans hl.symm) ho2 (by rw[hw];exact hrun) ?_;intro jN E3 v hk3 hi3 hp3;obtain⟨yR,E4,hk4,hi4,hw4⟩:=vS hk3 hi3;rw[←hw4];exact hK yR E4 v hk4 hi4 (by rw[hw4,←hw];exact hp3)
  ·split at hk
   ·exact lF cons (fun c hc=>hcs c (List.mem_cons_of_mem _ hc)) bM hst hal hk h hsz hargs hrun hK
   ·rename_i x m hm
    split at hk
    ·cases hk
    ·rename_i hno
     simp only[Bool.or_eq_false_iff,Bool.not_eq_false',Bool.and_eq_true] at hno;cases hF:c.F x with
     |none=>rw[hF] at hk;cases hk
     |some y=>
      rw[hF] at hk;simp only[Option.bind_some] at hk;exact qV (hcs c (List.mem_cons_self ..)) bM hst hal hm ⟨hno.1,hno.2.1,hno.2.2.1,hno.2.2.2⟩ hF hk h hsz hargs hrun hK
end
end Go.Am
end
section
namespace Go.Am
structure bY(P:Program)(C:Ctx):Prop where
 tt:∀t u,C.tt t=some u→aY P t u
 phi:∀g c,c∈C.phi g→fV P g c
 mixed:P.follows .mixedOrders=true
 eq:∀t u,C.tt t=some u→u.isAgg=true→u.flat=true→fU P u t [] 0∧P.eqGuardType P.depth t=false
theorem qQ{α:Type}{xs:Array α}{a:α}(h:xs.toList=[a]):xs= #[a]:=by
 rw[←xs.toArray_toList,h]
theorem lD{α:Type}{xs:Array α}{a b:α}(h:xs.toList=[a,b]):xs= #[a,b]:=by
 rw[←xs.toArray_toList,h]
section
variable{P:Program}{R:Type}{C:Ctx}{o:Oper}{st:St}{k:St→Option R}{r:R}{E0 E:Env}{a:Act}{K:Act→World→Prop}{Q:Exit→Act→World→Prop}{g:Bool}
theorem qX{a:Act}(hr:aT E st a.tmps):∀(xs:List Operand) (ts:List TypeId) (l:List Cn),dM C st xs ts=some l→av E st.ob st.nx (caps l) true (xs.map a.eval)
 |[],ts,l,h=>by cases h;exact rfl
 |x::r,ts,l,h=>by
  simp only[dM] at h;split at h
  ·rename_i c l' h1 h2
   cases h;have hv:=a_ h1 hr;have hd:c≠ .dead:=by
    intro e;subst e;unfold ev at h1;split at h1
    ·split at h1
     ·cases h1
     ·cases h1
     ·rename_i _ hs _;simp only[Option.some.injEq] at h1;exact hs h1
    ·rename_i v
     unfold lI at h1;split at h1<;>first|(cases h1;done)|skip
     split at h1<;>cases h1
    ·cases h1
    ·cases h1
   obtain⟨cs,h3,h4⟩:=dX hv hd;exact⟨_,_,cs,rfl,h3,h4,qX hr r _ _ h2⟩
  ·cases h
theorem wD{a:Act}(hr:aT E st a.tmps){xs:Array Operand}{ts:List TypeId}{c:Cn}(h:dM C st xs.toList ts=some [c]):∃X,xs= #[X]∧ak E st.ob st.nx c (a.eval X):=by
 obtain⟨h1,h2⟩:=ko hr xs.toList ts _ h
 match hx:xs.toList,h1 with
 |[X],_=>
  refine⟨X,qQ hx,?_⟩;have:=h2 0;rw[hx] at this;exact this
theorem oq{a:Act}(hr:aT E st a.tmps){xs:Array Operand}{ts:List TypeId}{c d:Cn}(h:dM C st xs.toList ts=some [c,d]):∃X Y,xs= #[X,Y]∧ak E st.ob st.nx c (a.eval X)∧ak E st.ob st.nx d (a.eval Y):=by
 obtain⟨h1,h2⟩:=ko hr xs.toList ts _ h
 match hx:xs.toList,h1 with
 |[X,Y],_=>
  refine⟨X,Y,lD hx,?_,?_⟩
  ·have:=h2 0
   rw[hx] at this;exact this
  ·have:=h2 1
   rw[hx] at this;exact this
theorem wC{a:Act}(hr:aT E st a.tmps){xs:Array Operand}{ts:List TypeId}{c d:Cn}(h:jl C st xs.toList ts=some [c,d]):∃X Y,xs= #[X,Y]∧ak E st.ob st.nx c (a.eval X)∧ak E st.ob st.nx d (a.eval Y):=by
 match hx:xs.toList with
 |[]=>rw[hx] at h;simp[jl] at h
 |[X]=>rw[hx] at h;simp[jl] at h
 |X::Y::Z::W=>rw[hx] at h;simp[jl] at h
 |[X,Y]=>
  rw[hx] at h;simp only[jl] at h;split at h
  ·rename_i c' d' h1 h2
   simp only[Option.some.injEq,List.cons.injEq,and_true] at h;obtain⟨rfl,rfl⟩:=h;exact⟨X,Y,lD hx,wE h1 hr,a_ h2 hr⟩
  ·cases h
theorem x9(hc:bY P C){pure:Bool}(bM:g=true→pure=true)(hk:jG C pure o st k=some r)(h:Inv C.N E0 E st a)
 (hK:∀st' E' v,k st'=some r→Inv C.N E0 E' st' (a.put o.dst v)→aO P C g o a v E.w E'.w→K (a.put o.dst v) E'.w):o.wp P a E.w K Q:=by
 have hr:=h.rep;have hgf:∀{b:Bool},pure=false→g=false:=by
  intro _ hp;cases hg:g with
  |false=>rfl
  |true=>rw[bM hg] at hp;cases hp
 unfold jG at hk;split at hk
 ·
   rename_i X ho;split at hk
   ·rename_i c hX
    exact sS (.inl ho) hk h (a_ hX hr) hK
   ·cases hk
 ·
   rename_i X ho;split at hk
   ·cases hk
   ·split at hk
    ·rename_i c hX
     exact sS (.inr ho) hk h (a_ hX hr) hK
    ·cases hk
 ·
   rename_i t ho;split at hk
   ·rename_i u hT
    split at hk
    ·rename_i hf
     exact u_ hc.tt ho hT hf hk h hK
    ·cases hk
   ·cases hk
 ·
   rename_i t X ho;split at hk
   ·rename_i c hX
    split at hk
    ·rename_i b hb
     split at hk
     ·split at hk
      ·rename_i hf
       exact vK ho hb hf hk h (a_ hX hr) hK
      ·cases hk
     ·cases hk
    ·cases hk
   ·cases hk
 ·
   rename_i t ps ho;split at hk
   ·rename_i l hl
    split at hk
    ·rename_i c hb
     exact vP hc.tt ho (lK hr _ _ hl) hb hk h hK
    ·cases hk
   ·cases hk
 ·
   rename_i t len ps ho;split at hk
   ·cases hk
   ·exact vO hc.tt ho (hgf (b:=true) rfl) hk h hK
 ·
   rename_i t X ho;split at hk
   ·rename_i c hX
    split at hk
    ·rename_i d hd
     split at hk
     ·rename_i hl
      exact xP hc.tt ho hd hl hk h (a_ hX hr) hK
     ·cases hk
    ·cases hk
   ·cases hk
 ·
   rename_i t A X ho;split at hk
   ·cases hk
   ·split at hk
    ·rename_i c d hA hX
     split at hk
     ·rename_i hd
      exact yT hc.tt ho (hgf (b:=true) rfl) hd hk h (a_ hA hr) (a_ hX hr) hK
     ·cases hk
    ·cases hk
 ·
   rename_i X ho;split at hk
   ·rename_i c hX
    have hv:=a_ hX hr;split at hk
    ·rename_i i
     split at hk
     ·rename_i u c' ah
      refine mo ho hk h hv (.inl ?_) hK;obtain⟨cs,h1,h2⟩:=hv;have ho:=hr.ob i;rw[ah] at ho;obtain⟨gg,cs',t,k1,_⟩:=ho;have e1:cs=[E.af i]:=h1.2.2;have e2:cs=[a.eval X]:=h2;rw[e1,k1] at e2;exact⟨_,(by simpa using e2.symm)⟩
     ·rename_i b u d ah
      split at hk
      ·cases hk
      ·cases b with
       |false=>cases hk
       |true=>
        simp only[cond_true] at hk;exact xV ho ah hk h hv hK
     ·cases hk
    ·refine mo ho hk h hv (.inl ?_) hK
     obtain⟨cs,h1,h2⟩:=hv;obtain⟨_,_,⟨gg,_,e1⟩,_⟩:=h1;have e2:cs=[a.eval X]:=h2;rw[e1] at e2;exact⟨_,(by simpa using e2.symm)⟩
    ·refine mo ho hk h hv (.inl ?_) hK
     obtain⟨cs,h1,h2⟩:=hv;obtain⟨_,ad,e1,_⟩:=h1;have e2:cs=[a.eval X]:=h2;rw[e1] at e2;exact⟨_,(by simpa using e2.symm)⟩
    ·refine mo ho hk h hv (.inr ?_) hK
     obtain⟨cs,h1,h2⟩:=hv;obtain⟨vs,e1,_⟩:=h1;have e2:cs=[a.eval X]:=h2;rw[e1] at e2;exact⟨_,_,(by simpa using e2.symm)⟩
    ·cases hk
   ·cases hk
 ·
   rename_i op xt X Y yt ho;split at hk
   ·rename_i c d hX hY
    split at hk
    ·split at hk
     ·rename_i x y hx hy
      exact wz hc.eq ho hx hy hk h (a_ hX hr) (a_ hY hr) hK
     ·cases hk
    ·exact vJ hc.tt ho hk h (a_ hX hr) (a_ hY hr) hK
   ·cases hk
 ·
   rename_i op t X ho;split at hk
   ·rename_i c hX
    exact za ho hk h (a_ hX hr) hK
   ·cases hk
 ·
   rename_i ts td X ho;split at hk
   ·rename_i c hX
    exact vX hc.tt ho hk h (a_ hX hr) hK
   ·cases hk
 ·
   rename_i s X f ho;split at hk
   ·rename_i c hX
    split at hk
    ·rename_i d hd
     exact wL hc.tt ho hd hk h (a_ hX hr) hK
    ·cases hk
   ·cases hk
 ·
   rename_i t X I ho;split at hk
   ·rename_i c d hX hI
    exact xD hc.tt ho hk h (a_ hX hr) (a_ hI hr) hK
   ·cases hk
 ·
   rename_i t X I ho;split at hk
   ·rename_i c d hX hI
    exact xF hc.tt ho hk h (a_ hX hr) (a_ hI hr) hK
   ·cases hk
 ·
   rename_i t X LO HI ho;split at hk
   ·rename_i c hX
    split at hk
    ·rename_i lo hi hlo hhi
     have key:∀(L:Option Operand) (l:Option Int),(match L with
      |none=>some none
      |some l=>(match ev C st 0 l with
       |some (.ro none ⟨.int _,n⟩)=>some (some n)
       |_=>(none:Option (Option Int))))=some l→∃kl,L.map a.eval=l.map fun n=>Value.int kl n:=by
      intro L l hl;cases L with
      |none=>cases hl;exact⟨.i64,rfl⟩
      |some x=>
       simp only at hl;split at hl
       ·rename_i kk n hx
        cases hl;exact⟨kk,by simp[dW (a_ hx hr)]⟩
       ·cases hl
     obtain⟨kl,h1⟩:=key _ _ hlo;obtain⟨kh,h2⟩:=key _ _ hhi;exact yO hc.tt ho h1 h2 hk h (a_ hX hr) hK
    ·cases hk
   ·cases hk
 ·
   rename_i t n m ho;split at hk
   ·rename_i hnm
    obtain rfl:=Nat.eq_of_beq_eq_true hnm;split at hk
    ·rename_i kk x hs
     have hv:=hr.sl n;rw[hs] at hv;exact sJ hc.tt ho hk h (dW hv) (dW hv) hK
    ·cases hk
   ·cases hk
 ·rename_i t k1 n k2 m ho
  split at hk
  ·rename_i hnm
   obtain rfl:=of_decide_eq_true hnm;exact sJ hc.tt ho hk h rfl rfl hK
  ·cases hk
 ·
   rename_i f fs cs ho;split at hk
   ·rename_i hfs
    split at hk
    ·rename_i l hl
     have w_:fs= #[]:=by rw[←fs.toArray_toList,hfs]
     refine aQ (v:= .func (.func f) #[] (cs.toList.map a.eval).toArray) hk h ?_ ?_ hK
     ·intro u _
      unfold execOp;simp[ho,Instr.makeFunc,w_];apply Array.ext';simp
     ·exact⟨_,⟨_,rfl,qX hr _ _ _ hl⟩,rfl⟩
    ·cases hk
   ·cases hk
 ·
   rename_i X ix ho;split at hk
   ·rename_i c hX
    split at hk
    ·rename_i d hd
     exact wH ho hd hk h (a_ hX hr) hK
    ·cases hk
   ·cases hk
 ·
   rename_i c ho;obtain⟨callee,args,ats⟩:=c;simp only at hk;split at hk
   ·rename_i f
    split at hk
    ·rename_i l hl
     obtain⟨hl1,hl2⟩:=ko hr _ _ _ hl;refine lF (argv:=args.map a.eval) (C.phi f) (fun c hc'=>hc.phi f c hc') bM (by simp[still,ho]) (by simp[gF,ho]) hk h (by rw[hl1];simp) (fun i=> ?_) ?_ hK
     ·have:=hl2 i
      have e:(args.map a.eval).getD i undef=(args.toList.map a.eval).getD i undef:=by
       rw[←Array.toList_map];simp
      rw[e];exact this
     ·intro q hq
      unfold execOp;simp only[ho];simp[resolve,Act.eval,Deferred.ofValue,invoke,hq]
    ·cases hk
   ·rename_i X hne
    split at hk
    ·rename_i f cs l hfn hl
     split at hk
     ·rename_i rr hrr
      obtain⟨hl1,hl2⟩:=ko hr _ _ _ hl;have hv:=a_ hfn hr;obtain⟨ws,hw1,hw2⟩:=hv;obtain⟨vs,e1,h5⟩:=hw1;have e2:ws=[a.eval X]:=hw2;rw[e1] at e2;have hX:a.eval X= .func (.func f) #[] vs.toArray:=by simpa using e2.symm
      obtain⟨hu1,hu2⟩:=uO _ _ _ hrr h5;refine lF (argv:=args.map a.eval++vs.toArray) (C.phi f) (fun c hc'=>hc.phi f c hc') bM (by simp[still,ho]) (by simp[gF,ho]) hk h (by rw[List.length_append,hl1,hu1];simp) (fun i=> ?_) ?_ hK
      ·rw[qP]
       have e:(args.map a.eval++vs.toArray).getD i undef=if i<l.length then(args.toList.map a.eval).getD i undef else vs.getD (i-l.length) undef:=by
        have:args.map a.eval++vs.toArray=(args.toList.map a.eval++vs).toArray:=by
         rw[←Array.toList_map];apply Array.ext';simp
        rw[this];have:∀(xs:List Value) i,xs.toArray.getD i undef=xs.getD i undef:=by intro xs i;simp
        rw[this,List.getD_eq_getElem?_getD,List.getElem?_append];simp only[List.length_map,hl1];split<;>simp[List.getD_eq_getElem?_getD]
       rw[e];split
       ·exact hl2 i
       ·exact hu2 _
      ·intro q hq
       unfold execOp;simp only[ho];simp[resolve,hX,Deferred.ofValue,invoke,hq]
     ·cases hk
    ·cases hk
   ·split at hk
    ·rename_i x t hl hts
     obtain⟨X,rfl,hX⟩:=wD hr hl;obtain rfl:=qQ hts;exact xO hc.tt ho hk h hX hK
    ·cases hk
   ·split at hk
    ·rename_i s x t t2 hl hts
     obtain⟨X,Y,rfl,hX,hY⟩:=wC hr hl;obtain rfl:=lD hts;split at hk
     ·cases hk
     ·exact vo hc.tt ho (hgf (b:=true) rfl) hk h hX hY hK
    ·cases hk
   ·split at hk
    ·rename_i s x t t2 hl hts
     obtain⟨X,Y,rfl,hX,hY⟩:=oq hr hl;obtain rfl:=lD hts;split at hk
     ·cases hk
     ·exact vZ hc.tt ho (hgf (b:=true) rfl) hk h hX hY hK
    ·cases hk
   ·split at hk
    ·rename_i ka x kb y hl
     obtain⟨X,Y,rfl,hX,hY⟩:=oq hr hl;exact sQ true ho hk h hX hY hK
    ·cases hk
   ·split at hk
    ·rename_i ka x kb y hl
     obtain⟨X,Y,rfl,hX,hY⟩:=oq hr hl;exact sQ false ho hk h hX hY hK
    ·cases hk
   ·cases hk
 ·cases hk
end
end Go.Am
end
section
namespace Go.Am
def aP(l:List Oper)(a a':Act):Prop:=∀s,(∀o,o∈l→o.dst≠some s)→a'.tmps.getD s undef=a.tmps.getD s undef
theorem aP.refl(l:List Oper)(a:Act):aP l a a:=fun _ _=>rfl
theorem aP.trans{l:List Oper}{a b c:Act}(h:aP l a b)(k:aP l b c):aP l a c:=fun s hs=>(k s hs).trans (h s hs)
theorem aP.sub{l l':List Oper}{a b:Act}(h:aP l a b)(hs:∀o,o∈l→o∈l'):aP l' a b:=fun s k=>h s fun o ho=>k o (hs o ho)
theorem mI{a:Act}{d:Option Nat}{v:Value}{s:Nat}(h:d≠some s):(a.put d v).tmps.getD s undef=a.tmps.getD s undef:=by
 cases d with
 |none=>rfl
 |some d=>
  simp only[Act.put,Array.getD_eq_getD_getElem?];rw[Array.getElem?_setIfInBounds_ne (by intro e;exact h (by rw[e]))]
theorem aP.one{o:Oper}{a:Act}{v:Value}:aP [o] a (a.put o.dst v):=fun s hs=>mI (hs o (List.mem_cons_self ..))
def bP(dec:List (Nat×Bool))(a:Act):Prop:=∀s b,dh dec s=some b→a.tmps.getD s undef= .bool b
theorem uf(l:List (Nat×Bool)):bB none l=l:=by cases l<;>rfl
theorem lZ{d s:Nat}{b:Bool}:∀{l:List (Nat×Bool)},dh (bB (some d) l) s=some b→s≠d∧dh l s=some b
 |[],h=>by cases h
 |x::r,h=>by
  simp only[bB] at h;split at h
  ·rename_i hx
   have:=lZ h;refine⟨this.1,?_⟩;have hne:Nat.beq x.1 s=false:=by
    cases e:Nat.beq x.1 s with
    |false=>rfl
    |true=>exact absurd ((Nat.eq_of_beq_eq_true e).symm.trans (Nat.eq_of_beq_eq_true hx)) this.1
   simp only[dh,hne];exact this.2
  ·rename_i hx
   simp only[dh] at h⊢;split at h
   ·rename_i hs
    exact⟨fun e=>by rw[Nat.eq_of_beq_eq_true hs,e] at hx;simp at hx,h⟩
   ·exact lZ h
theorem bP.rm{dec:List (Nat×Bool)}{a a':Act}{o:Oper}(h:bP dec a)(ht:aP [o] a a'):bP (bB o.dst dec) a':=by
 intro s b hl;cases hd:o.dst with
 |none=>
  rw[hd,uf] at hl;rw[ht s (fun o' ho'=>by simp at ho';subst ho';rw[hd];simp)];exact h s b hl
 |some d=>
  rw[hd] at hl;obtain⟨h1,h2⟩:=lZ hl;rw[ht s (fun o' ho'=>by simp at ho';subst ho';rw[hd];simp;exact fun e=>h1 e.symm)];exact h s b h2
theorem oZ{s:Nat}{b:Bool}:∀{l:List Oper} {dec:List (Nat×Bool)},dh (fq l dec) s=some b→(∀o,o∈l→o.dst≠some s)∧dh dec s=some b
 |[],_,h=>⟨fun o ho=>(List.not_mem_nil ho).elim,h⟩
 |o::r,dec,h=>by
  simp only[fq] at h;cases hd:o.dst with
  |none=>
   rw[hd,uf] at h;obtain⟨h1,h2⟩:=oZ (l:=r) h;exact⟨fun o' ho'=>by rcases List.mem_cons.1 ho' with rfl|ho';(rw[hd];simp);exact h1 o' ho',h2⟩
  |some d=>
   rw[hd] at h;obtain⟨h0,h⟩:=lZ h;obtain⟨h1,h2⟩:=oZ (l:=r) h;exact⟨fun o' ho'=>by rcases List.mem_cons.1 ho' with rfl|ho';(rw[hd];intro e;exact h0 (by simpa using e.symm));exact h1 o' ho',h2⟩
theorem bP.fq{dec:List (Nat×Bool)}{a a':Act}{l:List Oper}(h:bP dec a)(ht:aP l a a'):bP (fq l dec) a':=by
 intro s b hl;obtain⟨h1,h2⟩:=oZ hl;rw[ht s h1];exact h s b h2
theorem mZ{all:Array Oper}{tm:Array Value}{j s:Nat}{b:Bool}(hd:fD all j=some s)(h:tm.getD s undef= .bool b):yielded all tm j=some b:=by
 unfold yielded;have h1:(all[j]?).bind (·.dst)=some s:=by
  unfold fD at hd;cases e:all[j]? with
  |none=>rw[e] at hd;cases hd
  |some o=>rw[e] at hd;exact hd
 rw[h1];simp only[Option.bind_some];rw[Array.getD_eq_getD_getElem?] at h;cases e:tm[s]? with
 |none=>rw[e] at h;simp[undef] at h
 |some v=>rw[e] at h;simp only[Option.getD_some] at h;subst h;rfl
theorem ql{all:Array Oper}{tm:Array Value}{j s:Nat}(hd:fD all j=some s)(h:tm.getD s undef=undef):yielded all tm j=none:=by
 unfold yielded;have h1:(all[j]?).bind (·.dst)=some s:=by
  unfold fD at hd;cases e:all[j]? with
  |none=>rw[e] at hd;cases hd
  |some o=>rw[e] at hd;exact hd
 rw[h1];simp only[Option.bind_some];rw[Array.getD_eq_getD_getElem?] at h;cases e:tm[s]? with
 |none=>rfl
 |some v=>rw[e] at h;simp only[Option.getD_some] at h;subst h;rfl
theorem uH{s:Nat}:∀{l:List Oper} {g r:List Oper} {p:Oper},mU s l=some (g,p,r)→l=g++p::r∧∃x y,p.op= .pick (.tmp s) x y
 |[],_,_,_,h=>by cases h
 |o::l,g,r,p,h=>by
  simp only[mU] at h;split at h
  ·rename_i hp
   cases h;refine⟨rfl,?_⟩;split at hp
   ·rename_i t x y ho
    obtain rfl:=Nat.eq_of_beq_eq_true hp;exact⟨x,y,ho⟩
   ·cases hp
  ·split at h
   ·rename_i g' p' q' h'
    cases h;obtain⟨h1,h2⟩:=uH h';exact⟨by rw[h1];rfl,h2⟩
   ·cases h
theorem rz(n:Nat):∀l,gZ.lJ n l=true→n∈l
 |[],h=>by cases h
 |x::r,h=>by
  simp only[gZ.lJ] at h;split at h
  ·rename_i e;rw[Nat.eq_of_beq_eq_true e];exact List.mem_cons_self ..
  ·exact List.mem_cons_of_mem _ (rz n r h)
section
variable{P:Program}{C:Ctx}{E0 E:Env}{Q:Exit→Act→World→Prop}{all:Array Oper}
theorem Inv.dead{N:Nat}{st:St}{a:Act}{o:Oper}{v:Value}(h:Inv N E0 E st a):Inv N E0 E (j4 o st) (a.put o.dst v):=by
 unfold j4;cases hd:o.dst with
 |none=>exact h
 |some d=>exact⟨h.rep.dead v,h.fr,h.defers,by simp[Act.put,h.size],h.nx⟩
theorem Inv.cu{N:Nat}{st:St}{a:Act}{o:Oper}(h:Inv N E0 E st a):Inv N E0 E (cu o st) (a.put o.dst undef):=by
 unfold Am.cu;cases hd:o.dst with
 |none=>exact h
 |some d=>
  refine⟨⟨fun s=> ?_,h.rep.ob,h.rep.lt,h.rep.dj,h.rep.nd,h.rep.bb,h.rep.zb⟩,h.fr,h.defers,by simp[Act.put,h.size],h.nx⟩;show ak E st.ob st.nx (upd st.sl d (.bX .nil) s) _;by_cases e:s=d
  ·subst e
   rw[upd_same];have:(a.put (some s) undef).tmps.getD s undef=undef:=by
    simp only[Act.put,Array.getD_eq_getD_getElem?];by_cases hlt:s<a.tmps.size
    ·rw[Array.getElem?_setIfInBounds_self_of_lt hlt];rfl
    ·rw[Array.getElem?_eq_none (by simpa using Nat.le_of_not_lt hlt)];rfl
   rw[this];exact⟨[undef],⟨[],rfl,rfl⟩,rfl⟩
  ·rw[aD _ _ _ _ e,mI (by simpa using fun h=>e h.symm)]
   exact h.rep.sl s
structure Stp(P:Program)(C:Ctx)(Q:Exit→Act→World→Prop)(all:Array Oper)(W:List Oper→Act→World→Prop):Prop where
 take:∀o l a w v,Region.wanted o (yielded all a.tmps)=true→still C o=true→(∀u,(dN o=false∨aB w u)→(execOp a.eval o).run P u= .ok (.value v) u)→W l (a.put o.dst v) w→W (o::l) a w
 oh:∀o l a w,Region.wanted o (yielded all a.tmps)=true→still C o=false→o.wp P a w (fun a' w'=>(gF o=true→aB w w')∧W l a' w') Q→W (o::l) a w
 skip:∀o l a w,Region.wanted o (yielded all a.tmps)=false→W l (a.put o.dst undef) w→W (o::l) a w
theorem uP{o:Oper}{a:Act}{w:World}{F:Prop}(h:o.wp P a w (fun _ _=>F) (fun _ _ _=>False)):F:=by
 unfold Oper.wp at h;generalize(execOp a.eval o).run P w=q at h;cases q with
 |ok n w'=>
  cases n<;>simp only[Oper.upon] at h<;>first|exact h|exact h.elim|skip
  ·obtain⟨e,w'',fr,hR,_⟩:=h []
   cases e with
   |returned v=>exact hR
   |panicked c=>exact hR.elim
   |outgrown=>obtain⟨_,_,hf⟩:=hR;exact hf.elim
  ·obtain⟨v,w'',hR,_⟩:=h default []
   exact hR
 |halt x w'=>cases x<;>simp only[Oper.upon] at h<;>exact h.elim
variable{W:List Oper→Act→World→Prop}
theorem uE(hW:Stp P C Q all W){s:Nat}{want:Bool}:∀(aC:List Oper) (acc:List Nat) (a:Act) (w:World) (rest:List Oper),gZ all s want acc aC=true→a.tmps.getD s undef= .bool (!want)→
 (∀q,q∈acc→q≠s→a.tmps.getD q undef=undef)→
 (∀a',aP aC a a'→a'.tmps.size=a.tmps.size→a'.defers=a.defers→W rest a' w)→W (aC++rest) a w
 |[],acc,a,w,rest,_,_,_,hK=>hK a (aP.refl _ _) rfl rfl
 |o::aC,acc,a,w,rest,h,hs,hacc,hK=>by
  simp only[gZ,Bool.and_eq_true,Bool.not_eq_true'] at h;obtain⟨h1,h2,h3⟩:=h;have hds:o.dst≠some s:=by
   intro e;rw[e] at h1;simp[oU] at h1
  have hnw:Region.wanted o (yielded all a.tmps)=false:=by
   split at h2
   ·rename_i j w' hg
    split at h2
    ·rename_i s' hd
     simp only[Bool.or_eq_true,Bool.and_eq_true,Bool.not_eq_true',beq_iff_eq] at h2;unfold Region.wanted;rw[hg];simp only;rcases h2 with⟨e1,e2⟩|⟨e1,e2⟩
     ·obtain rfl:=Nat.eq_of_beq_eq_true e1
      subst e2;rw[mZ hd hs];cases w'<;>rfl
     ·rw[ql hd (hacc _ (rz _ _ e2) (fun e=>by rw[e] at e1;simp at e1))]
      rfl
    ·cases h2
   ·cases h2
  refine hW.skip _ _ _ _ hnw ?_;refine uE hW aC (q9 o.dst acc) (a.put o.dst undef) w rest h3 (by rw[mI hds];exact hs) ?_ ?_
  ·intro q hq xu
   by_cases oO:o.dst=some q
   ·rw[oO]
    simp only[Act.put,Array.getD_eq_getD_getElem?];by_cases hlt:q<a.tmps.size
    ·rw[Array.getElem?_setIfInBounds_self_of_lt hlt];rfl
    ·rw[Array.getElem?_eq_none (by simpa using Nat.le_of_not_lt hlt)];rfl
   ·rw[mI oO]
    refine hacc q ?_ xu;cases hd:o.dst with
    |none=>rw[hd] at hq;exact hq
    |some d=>
     rw[hd] at hq;rcases List.mem_cons.1 hq with rfl|hq
     ·exact absurd hd oO
     ·exact hq
  ·intro a' ht hsz hdf
   refine hK a' ?_ (by rw[hsz];cases o.dst<;>simp[Act.put]) (by rw[hdf];cases o.dst<;>rfl);exact aP.trans (aP.one.sub (fun q hq=>by simp at hq;subst hq;exact List.mem_cons_self ..)) (ht.sub fun q hq=>List.mem_cons_of_mem _ hq)
theorem og:∀(aC:List Oper) (st:St) (s:Nat),(bI aC st).sl s= .dead∨((bI aC st).sl s=st.sl s∧∀o,o∈aC→o.dst≠some s)
 |[],st,s=> .inr ⟨rfl,fun o ho=>(List.not_mem_nil ho).elim⟩
 |o::aC,st,s=>by
  simp only[bI,j4];cases hd:o.dst with
  |none=>
   simp only;rcases og aC st s with h|⟨h1,h2⟩
   ·exact .inl h
   ·exact .inr ⟨h1,fun q hq=>by rcases List.mem_cons.1 hq with rfl|hq;(rw[hd];simp);exact h2 q hq⟩
  |some d=>
   simp only;by_cases e:s=d
   ·subst e;exact .inl (upd_same _ _ _)
   ·rw[aD _ _ _ _ e]
    rcases og aC st s with h|⟨h1,h2⟩
    ·exact .inl h
    ·exact .inr ⟨h1,fun q hq=>by rcases List.mem_cons.1 hq with rfl|hq;(rw[hd];intro k;exact e (by simpa using k.symm));exact h2 q hq⟩
theorem n_:∀(aC:List Oper) (st:St),(bI aC st).ob=st.ob∧(bI aC st).nx=st.nx
 |[],st=>⟨rfl,rfl⟩
 |o::aC,st=>by
  simp only[bI,j4];cases o.dst with
  |none=>exact n_ aC st
  |some d=>exact n_ aC st
theorem Inv.bI{N:Nat}{st:St}{a a':Act}{aC:List Oper}(h:Inv N E0 E st a)(ht:aP aC a a')(hsz:a'.tmps.size=a.tmps.size)(hdf:a'.defers=a.defers):Inv N E0 E (bI aC st) a':=by
 obtain⟨h1,h2⟩:=n_ aC st;refine⟨⟨fun s=> ?_,?_,?_,h.rep.dj,h.rep.nd,h.rep.bb,h.rep.zb⟩,h.fr,by rw[hdf];exact h.defers,by rw[hsz];exact h.size,by rw[h2];exact h.nx⟩
 ·rw[h1,h2]
  rcases og aC st s with h3|⟨h3,h4⟩
  ·rw[h3];trivial
  ·rw[h3,ht s h4];exact h.rep.sl s
 ·rw[h1,h2];exact h.rep.ob
 ·rw[h1,h2];exact h.rep.lt
theorem tT(hW:Stp P C Q all W){st:St}{a a1:Act}{pk:Oper}{X Y:Operand}{s d:Nat}{b v:Bool}{w1:World}{dec:List (Nat×Bool)}{aC rest:List Oper}(hi:Inv C.N E0 E st a)(hg:aB E.w w1)(ht:aP aC a a1)
 (hsz:a1.tmps.size=a.tmps.size) (hdf:a1.defers=a.defers) (hop:pk.op= .pick (.tmp s) X Y) (hd:pk.dst=some d) (hdN:d<C.N) (hpk:pU all (fq aC dec) pk=true) (hdec:bP dec a)
 (hs:a1.tmps.getD s undef= .bool b) (hv:(if b then a1.eval X else a1.eval Y)= .bool v)
 (hK:∀a2,aP (aC++[pk]) a a2→Inv C.N E0 {E with w:=w1} {(bI aC st) with sl:=upd (bI aC st).sl d (.ro none ⟨.bool,v⟩)} a2→bP (bB (some d) (fq aC dec)) a2→W rest a2 w1):
 W (pk::rest) a1 w1:=by
 have rT:=hdec.fq ht;have hw:Region.wanted pk (yielded all a1.tmps)=true:=by
  unfold Region.wanted;unfold pU at hpk;split at hpk
  ·rename_i hg;rw[hg]
  ·rename_i j w hg
   rw[hg];simp only;split at hpk
   ·rename_i s' hds
    split at hpk
    ·rename_i v' hl
     rw[mZ hds (rT _ _ hl)];simp only[beq_iff_eq] at hpk;subst hpk;simp
    ·cases hpk
   ·cases hpk
 have hinv:Inv C.N E0 {E with w:=w1} (bI aC st) a1:=(hi.grew hg).bI ht hsz hdf;refine hW.take _ _ _ _ (.bool v) hw (by simp[still,hop]) ?_ ?_
 ·intro u _
  unfold execOp;have hc:a1.eval (.tmp s)= .bool b:=hs;simp only[hop,hc];cases b<;>simpa[asBool] using hv
 ·have hput:=hinv.put (d:=d) (c:= .ro none ⟨.bool,v⟩) (v:= .bool v) hdN (gu ..)
  have htp:aP [pk] a1 (a1.put pk.dst (.bool v)):=aP.one;rw[hd] at htp⊢;refine hK _ (aP.trans (ht.sub fun q hq=>List.mem_append.2 (.inl hq)) (htp.sub fun q hq=>List.mem_append.2 (.inr hq))) hput ?_;have:=rT.rm (o:=pk) (a':=a1.put (some d) (.bool v)) htp;rw[hd] at this;exact this
theorem mG(hc:bY P C){R:Type}{o:Oper}{st:St}{k:St→Option R}{r:R}{a:Act}{K:Act→World→Prop}{g pure:Bool}{dec:List (Nat×Bool)}(hdec:bP dec a)(bM:g=true→pure=true)
 (hk:dG C pure dec o st k=some r) (h:Inv C.N E0 E st a)
 (hK:∀st' E' v,k st'=some r→Inv C.N E0 E' st' (a.put o.dst v)→aO P C g o a v E.w E'.w→K (a.put o.dst v) E'.w):o.wp P a E.w K Q:=by
 unfold dG at hk;split at hk
 ·rename_i z hz
  split at hk
  ·rename_i c hc'
   have hp:∃s x y v,o.op= .pick (.tmp s) x y∧dh dec s=some v∧z=(if v then x else y):=by
    unfold tQ at hz;split at hz
    ·rename_i s x y ho
     split at hz
     ·rename_i hl;obtain rfl:=Option.some.inj hz;exact⟨s,_,y,true,ho,hl,rfl⟩
     ·rename_i hl;obtain rfl:=Option.some.inj hz;exact⟨s,x,_,false,ho,hl,rfl⟩
     ·cases hz
    ·cases hz
   obtain⟨s,x,y,v,ho,hl,hzz⟩:=hp;subst hzz;have hs:=hdec s v hl;refine aQ (v:=a.eval (if v then x else y)) hk h (fun u _=> ?_) (a_ hc' h.rep) hK;have he:a.eval (.tmp s)= .bool v:=hs;unfold execOp;simp only[ho,he];cases v<;>simp[asBool]
  ·cases hk
 ·exact x9 hc bM hk h hK
theorem tY(hc:bY P C)(hW:Stp P C Q all W):∀(n:Nat) (R:Type) (pure:Bool) (dec:List (Nat×Bool)) (l:List Oper) (st:St) (k:St→Option R) (r:R) (E:Env) (a:Act) (rest:List Oper) (g:Bool),
 dm C all R n pure dec l st k=some r→(g=true→pure=true)→Inv C.N E0 E st a→bP dec a→
 (∀st' E' a',k st'=some r→Inv C.N E0 E' st' a'→(g=true→aB E.w E'.w)→aP l a a'→W rest a' E'.w)→W (l++rest) a E.w:=by
 intro n
 induction n with
 |zero=>intro R pure dec l st k r E a rest g hk;cases l<;>cases hk
 |succ n ih=>
  intro R pure dec l st k r E a rest g hk bM hi hdec hK;cases l with
  |nil=>exact hK st E a hk hi (fun _=>aB.refl _) (aP.refl _ _)
  |cons o l=>
   have j_:Region.wanted o (yielded all a.tmps)=true→dG C pure dec o st (fun s1=>dm C all R n pure (bB o.dst dec) l s1 k)=some r→W (o::(l++rest)) a E.w:=by
    intro hw hk;have go:∀st' E' v,dm C all R n pure (bB o.dst dec) l st' k=some r→Inv C.N E0 E' st' (a.put o.dst v)→(g=true→aB E.w E'.w)→W (l++rest) (a.put o.dst v) E'.w:=by
     intro st' E' v hk' hi' hg';refine ih R pure _ l st' k r E' _ rest g hk' bM hi' (hdec.rm aP.one) fun fQ h_ a'' eU eT hg'' ht=> ?_;exact hK fQ h_ a'' eU eT (fun e=>(hg' e).trans (hg'' e)) (aP.trans (aP.one.sub fun q hq=>by simp at hq;subst hq;exact List.mem_cons_self ..) (ht.sub fun q hq=>List.mem_cons_of_mem _ hq))
    cases hs:still C o with
    |true=>
     refine uP (P:=P) (o:=o) (a:=a) (w:=E.w) ?_;refine mG (g:=g) hc hdec bM hk hi fun st' E' v hk' hi' fI=> ?_;obtain⟨e1,e2⟩:=fI.run hs;have:=go st' E' v hk' hi' fI.grew;rw[e1] at this;exact hW.take _ _ _ _ v hw hs e2 this
    |false=>
     refine hW.oh _ _ _ _ hw hs ?_;exact mG (g:=g) hc hdec bM hk hi fun st' E' v hk' hi' fI=>⟨fI.al,go st' E' v hk' hi' fI.grew⟩
   simp only[dm] at hk;show W (o::(l++rest)) a E.w;split at hk
   ·rename_i hg
    exact j_ (by simp[Region.wanted,hg]) hk
   ·rename_i j want hg
    split at hk
    ·cases hk
    ·rename_i s hds
     split at hk
     ·rename_i v hl
      have hy:=mZ hds (hdec s v hl);split at hk
      ·rename_i hvw
       simp only[beq_iff_eq] at hvw;subst hvw;exact j_ (by simp[Region.wanted,hg,hy]) hk
      ·rename_i hvw
       refine hW.skip _ _ _ _ (by simp only[Region.wanted,hg,hy];cases v<;>cases want<;>first|rfl|(exact absurd rfl hvw)|(simp at hvw)) ?_;refine ih R pure _ l (cu o st) k r E _ rest g hk bM hi.cu (hdec.rm aP.one) fun fQ h_ a'' eU eT hg'' ht=> ?_;exact hK fQ h_ a'' eU eT hg'' (aP.trans (aP.one.sub fun q hq=>by simp at hq;subst hq;exact List.mem_cons_self ..) (ht.sub fun q hq=>List.mem_cons_of_mem _ hq))
     ·split at hk
      ·rename_i b hsl
       split at hk
       ·have hsv:a.tmps.getD s undef= .bool b:=by
         have:=hi.rep.sl s;rw[hsl] at this;exact gQ this
        have rR:bP ((s,b)::dec) a:=by
         intro q b' hl;simp only[dh] at hl;split at hl
         ·rename_i e;cases hl;rw[←Nat.eq_of_beq_eq_true e];exact hsv
         ·exact hdec q b' hl
        cases b with
        |true=>exact ih R pure _ (o::l) st k r E a rest g hk bM hi rR hK
        |false=>exact ih R pure _ (o::l) st k r E a rest g hk bM hi rR hK
       split at hk
       ·rename_i aC pk rest' hsp
        obtain⟨hl1,X',Y',hop⟩:=uH hsp;split at hk
        ·rename_i x y hop'
         rw[hop] at hop';cases hop';split at hk
         ·rename_i d hd
          split at hk
          ·rename_i kE
           simp only[Bool.and_eq_true] at kE;obtain⟨hdN,rZ,hpk⟩:=kE;have hdN:=Nat.le_of_ble_eq_true hdN;have hsv:a.tmps.getD s undef= .bool b:=by
            have:=hi.rep.sl s;rw[hsl] at this;exact gQ this
           have rX:∀q,q∈aC→q.dst≠some s:=by
            have:∀(aC:List Oper) (acc:List Nat),gZ all s want acc aC=true→∀q,q∈aC→q.dst≠some s:=by
             intro aC
             induction aC with
             |nil=>intro acc _ q hq;simp at hq
             |cons o' aC ih'=>
              intro acc h q hq;simp only[gZ,Bool.and_eq_true,Bool.not_eq_true'] at h;rcases List.mem_cons.1 hq with rfl|hq
              ·intro e;rw[e] at h;simp[oU] at h
              ·exact ih' _ h.2.2 q hq
            exact this aC [] rZ
           obtain⟨v,hv,hk⟩:=Option.bind_eq_some_iff.1 hk;rw[show(o::(l++rest))=aC++(pk::(rest'++rest)) by rw[←List.cons_append,hl1];simp];have hmem:∀q,q∈aC++[pk]→q∈o::l:=by rw[hl1];intro q hq;simp only[List.mem_append,List.mem_singleton] at hq;rcases hq with hq|rfl<;>simp[*]
           have fin:∀w1 a2,aB E.w w1→aP (aC++[pk]) a a2→Inv C.N E0 {E with w:=w1} {(bI aC st) with sl:=upd (bI aC st).sl d (.ro none ⟨.bool,v⟩)} a2→
            bP (bB (some d) (fq aC dec)) a2→W (rest'++rest) a2 w1:=by
            intro w1 a2 hg1 ht2 hi2 hd2;refine ih R pure _ rest' _ k r {E with w:=w1} a2 rest g hk bM hi2 hd2 fun fQ h_ a'' eU eT hg'' ht=> ?_;exact hK fQ h_ a'' eU eT (fun e=>hg1.trans (hg'' e)) (aP.trans (ht2.sub hmem) (ht.sub fun q hq=>by rw[hl1];simp[hq]))
           have out:b= !want→(if b then fE C (bI aC st) X' else fE C (bI aC st) Y')=some v→W (aC++(pk::(rest'++rest))) a E.w:=by
            intro hb hev;refine uE hW aC [] a E.w _ rZ (by rw[hsv,hb]) (fun q hq=>by simp at hq) fun a1 ht hsz hdf=> ?_;have hi1:=hi.bI ht hsz hdf;refine tT hW (b:=b) (v:=v) hi (aB.refl _) ht hsz hdf hop hd hdN hpk hdec (by rw[ht s rX];exact hsv) ?_ fun a2 ht2 hi2 hd2=>fin E.w a2 (aB.refl _) ht2 hi2 hd2;cases b with
            |true=>exact kg hev hi1.rep
            |false=>exact kg hev hi1.rep
           have gX:∀z,z=(if b then X' else Y')→dm C all Bool n true ((s,b)::dec) aC st (fun s1=>fE C s1 z)=some v→W (aC++(pk::(rest'++rest))) a E.w:=by
            intro z hz hev;refine ih Bool true _ aC st _ v E a (pk::(rest'++rest)) true hev (fun _=>rfl) hi ?_ ?_
            ·intro q b' hl
             simp only[dh] at hl;split at hl
             ·rename_i e;cases hl;rw[←Nat.eq_of_beq_eq_true e];exact hsv
             ·exact hdec q b' hl
            ·intro st1 E1 a1 wZ hi1 hg1 ht1
             refine tT hW (b:=b) (v:=v) hi (hg1 rfl) ht1 (by rw[hi1.size,hi.size]) (by rw[hi1.defers,hi.defers]) hop hd hdN hpk hdec (by rw[ht1 s rX];exact hsv) ?_ fun a2 ht2 hi2 hd2=>fin E1.w a2 (hg1 rfl) ht2 hi2 hd2;have:=kg wZ hi1.rep;rw[hz] at this;cases b with
             |true=>exact this
             |false=>exact this
           cases b with
           |true=>
            cases want with
            |true=>exact gX X' rfl hv
            |false=>exact out rfl hv
           |false=>
            cases want with
            |true=>exact out rfl hv
            |false=>exact gX Y' rfl hv
          ·cases hk
         ·cases hk
        ·cases hk
       ·cases hk
      ·rename_i hsl
       have hsv:a.tmps.getD s undef=undef:=by
        have:=hi.rep.sl s;rw[hsl] at this;obtain⟨cs,⟨vs,h1,h2⟩,h3⟩:=this;have h2:vs=[]:=h2;have h3:cs=[_]:=h3;rw[h3,h2] at h1;simpa[undef] using h1
       refine hW.skip _ _ _ _ (by simp only[Region.wanted,hg,ql hds hsv];rfl) ?_;refine ih R pure _ l (cu o st) k r E _ rest g hk bM hi.cu (hdec.rm aP.one) fun fQ h_ a'' eU eT hg'' ht=> ?_;exact hK fQ h_ a'' eU eT hg'' (aP.trans (aP.one.sub fun q hq=>by simp at hq;subst hq;exact List.mem_cons_self ..) (ht.sub fun q hq=>List.mem_cons_of_mem _ hq))
      ·cases hk
theorem yY:Stp P C Q all (wpList P all Q) where
 take:=fun o l a w v hw hs hr h=>by
  unfold wpList;rw[if_pos hw];exact .inl (fB (hr w (.inr (aB.refl _))) h)
 oh:=fun o l a w hw hs h=>by
  unfold wpList;rw[if_pos hw];exact .inl (Oper.wp_mono (fun _ _ h=>h.2) h)
 skip:=fun o l a w hw h=>by
  unfold wpList;rw[if_neg (by rw[hw];simp)];exact h
end
end Go.Am
end
section
namespace Go.Am
section
variable{P:Program}{ops:Array Oper}{Q:Exit→Act→World→Prop}{md:Region.Mode}{T:Nat→Bool}
def gK(P:Program)(md:Region.Mode)(ops:Array Oper)(T:Nat→Bool)(Q:Exit→Act→World→Prop):Nat→Array Bool→Act→World→Prop
 |0,listed,a,w=>Region.ready md ops listed=[]∧Q .normal a w
 |fuel+1,listed,a,w=>
  (Region.ready md ops listed=[]→Q .normal a w)∧
  ∀i∈Region.ready md ops listed,wpOp P ops Q i (fun a' w'=>(T i=true→aB w w')∧gK P md ops T Q fuel (listed.setIfInBounds i true) a' w') a w
theorem qj:∀(fuel:Nat) (listed:Array Bool) (a:Act) (w:World),gK P md ops T Q fuel listed a w→wpAny P md ops Q fuel listed a w
 |0,_,_,_,h=>h
 |fuel+1,_,_,_,h=>⟨h.1,fun i hi=>wpOp_mono (fun a' w' h'=>qj fuel _ a' w' h'.2) (h.2 i hi)⟩
theorem mX{i:Nat}{oi:Oper}{v:Value}{ld:Bool}(hi:ops[i]?=some oi)(hsel:∀(j:Nat) (o:Oper) cs b,ops[j]?=some o→o.op≠ .select cs b)
 (hQ:∀c a w,Q (.panic c) (a.put oi.dst v) w→Q (.panic c) a w):
 ∀(fuel:Nat) (listed:Array Bool) (a:Act) (w:World),
  (∀j oj,ops[j]?=some oj→j≠i→listed.getD j true=false→(∀e∈oj.after,Region.binds md e=true→e.on≠i)→oi.apart ops oj=true∧(ld=true→T j=true))→
  i∈Region.ready md ops listed→YieldsIf P ops (fun u=>ld=false∨aB w u) oi v a→
  gK P md ops T Q fuel (listed.setIfInBounds i true) (a.put oi.dst v) w→gK P md ops T Q (fuel+1) listed a w:=by
 intro fuel
 induction fuel with
 |zero=>
  intro listed a w _ hr hy H;refine⟨fun h=>(by rw[h] at hr;cases hr),fun j hj=> ?_⟩;by_cases hji:j=i
  ·subst hji;exact hy.wpOp hi (.inr (aB.refl _)) ⟨fun _=>aB.refl _,H⟩
  ·have:=ready_mono hj hji
   rw[H.1] at this;cases this
 |succ fuel ih=>
  intro listed a w hfree hr hy H;refine⟨fun h=>(by rw[h] at hr;cases hr),fun j hj=> ?_⟩;by_cases hji:j=i
  ·subst hji;exact hy.wpOp hi (.inr (aB.refl _)) ⟨fun _=>aB.refl _,H⟩
  ·have h1:=H.2 j (ready_mono hj hji)
   obtain⟨hjun,oj,hoj,hall⟩:=mem_ready.1 hj;have hnot:∀e∈oj.after,Region.binds md e=true→e.on≠i:=fun e he hb heq=>by
    have h1:=hall e he hb;have h0:=(mem_ready.1 hr).1;rw[heq] at h1;rcases Nat.lt_or_ge i listed.size with h'|h'
    ·simp[h'] at h0 h1;rw[h0] at h1;cases h1
    ·simp[Array.getElem?_eq_none h'] at h1
   obtain⟨hap,hT⟩:=hfree j oj hoj hji hjun hnot;have h2:=wpOp_putIf hoj hap (fun cs b=>hsel i oi cs b hi) (fun cs b=>hsel j oj cs b hoj) hQ hy h1
   have hfree':∀k ok,ops[k]?=some ok→k≠i→(listed.setIfInBounds j true).getD k true=false→
    (∀e∈ok.after,Region.binds md e=true→e.on≠i)→oi.apart ops ok=true∧(ld=true→T k=true):=fun k ok hk hki hun hno=>by
    refine hfree k ok hk hki ?_ hno;by_cases hjk:j=k
    ·subst hjk;exact hjun
    ·rw[getD_set_ne true hjk] at hun;exact hun
   refine wpOp_mono (fun a' w' h3=>⟨h3.2.1,ih (listed.setIfInBounds j true) a' w' hfree' (ready_mono hr (Ne.symm hji)) ?_ ?_⟩) h2
   ·rcases h3.1 with⟨p1,p2⟩|p
    ·refine .inl ⟨p1,fun u hu=>p2 u ?_⟩
     rcases hu with hu|hu
     ·exact .inl hu
     ·cases ld with
      |false=>exact .inl rfl
      |true=>exact .inr ((h3.2.1 (hT rfl)).trans hu)
    ·exact .inr p
   ·rw[Array.setIfInBounds_comm _ _ hji]
    exact h3.2.2
end
def calm(Q:Exit→Act→World→Prop):Exit→Act→World→Prop
 | .normal,a,w=>Q .normal a w
 |_,_,_=>False
section
variable{P:Program}{C:Ctx}{E0 E:Env}{Q:Exit→Act→World→Prop}{ops:Array Oper}
def fu(C:Ctx)(ops:Array Oper)(j:Nat):Bool:=
 match ops[j]? with
 |some o=>mh C o
 |none=>true
def v_(P:Program)(C:Ctx)(Q:Exit→Act→World→Prop)(ops:Array Oper)(l:List Oper)(a:Act)(w:World):Prop:=
 ∀(rest:List Nat) (listed:Array Bool),rest.map (fun i=>ops[i]?)=l.map some→gV C ops listed rest=true→gK P .any ops (fu C ops) (calm Q) l.length listed a w
theorem lS{listed:Array Bool}{i:Nat}{o:Oper}(hi:ops[i]?=some o)(hf:Region.free .any ops listed i=true)(hl:dN o=true→lY C ops listed i=true):
 ∀j oj,ops[j]?=some oj→j≠i→listed.getD j true=false→(∀e∈oj.after,Region.binds .any e=true→e.on≠i)→o.apart ops oj=true∧(dN o=true→fu C ops j=true):=by
 intro j oj hj hne hun hno;refine⟨Region.free_spec hi hf j oj hj hne hun hno,fun h=> ?_⟩;have h:=hl h;simp only[lY,List.all_eq_true,List.mem_range] at h;have h1:=h j (Array.getElem?_eq_some_iff.1 hj).1;simp only[hj,Bool.or_eq_true,beq_iff_eq,hne,false_or,hun,Bool.false_eq_true] at h1;simp only[fu,hj];rcases h1 with h1|h1
 ·obtain⟨e,he,hb⟩:=Array.any_eq_true'.1 h1
  simp only[Bool.and_eq_true,beq_iff_eq] at hb;exact absurd hb.2 (hno e he hb.1)
 ·exact h1
theorem pR{o:Oper}{l:List Oper}{i:Nat}{listed:Array Bool}{a:Act}{w:World}(hr:Region.ready .any ops listed=[i])
 (h:wpOp P ops (calm Q) i (fun a' w'=>(fu C ops i=true→aB w w')∧gK P .any ops (fu C ops) (calm Q) l.length (listed.setIfInBounds i true) a' w') a w):
 gK P .any ops (fu C ops) (calm Q) (o::l).length listed a w:=
 by
 simp only[List.length_cons,gK];refine⟨fun e=> ?_,fun j hj=> ?_⟩
 ·rw[hr] at e;cases e
 ·rw[hr] at hj
  obtain rfl:=List.mem_singleton.1 hj;exact h
theorem yX(hsel:Region.noSelect ops=true):Stp P C (calm Q) ops (v_ P C Q ops) where
 take:=fun o l a w v hw hs hrun h=>by
  intro rest listed hm hok;cases rest with
  |nil=>cases hm
  |cons i rest=>
   simp only[List.map_cons,List.cons.injEq] at hm;obtain⟨hi,hm⟩:=hm;simp only[gV,hi,Bool.and_eq_true] at hok;have hy:YieldsIf P ops (fun u=>dN o=false∨aB w u) o v a:= .inl ⟨hw,hrun⟩;have H:=h rest _ hm hok.2;rcases Bool.or_eq_true_iff.1 hok.1 with h1|h1
   ·simp only[Bool.and_eq_true] at h1
    obtain⟨h1,h2,h3,h4⟩:=h1;refine mX hi (Region.noSelect_spec hsel) (fun c a w hq=>hq) l.length listed a w (lS hi h2 (fun e=>by simpa[e] using h4)) (by simpa using h3) hy H
   ·split at h1
    ·rename_i j hr
     obtain rfl:=Nat.eq_of_beq_eq_true h1;exact pR hr (hy.wpOp hi (.inr (aB.refl _)) ⟨fun _=>aB.refl _,H⟩)
    ·cases h1
 oh:=fun o l a w hw hs h=>by
  intro rest listed hm hok;cases rest with
  |nil=>cases hm
  |cons i rest=>
   simp only[List.map_cons,List.cons.injEq] at hm;obtain⟨hi,hm⟩:=hm;simp only[gV,hi,hs,Bool.false_and,Bool.false_or,Bool.and_eq_true] at hok;obtain⟨h1,h2⟩:=hok;split at h1
   ·rename_i j hr
    obtain rfl:=Nat.eq_of_beq_eq_true h1;refine pR hr ?_;unfold wpOp;simp only[hi,hw,if_true];refine .inl (Oper.wp_mono (fun a' w' h'=>⟨fun e=> ?_,h'.2 rest _ hm h2⟩) h);simp[fu,mh,hi,hs] at e;exact h'.1 e
   ·cases h1
 skip:=fun o l a w hw h=>by
  intro rest listed hm hok;cases rest with
  |nil=>cases hm
  |cons i rest=>
   simp only[List.map_cons,List.cons.injEq] at hm;obtain⟨hi,hm⟩:=hm;simp only[gV,hi,Bool.and_eq_true] at hok;have hy:YieldsIf P ops (fun u=>dN o=false∨aB w u) o undef a:= .inr ⟨hw,rfl⟩;have H:=h rest _ hm hok.2;rcases Bool.or_eq_true_iff.1 hok.1 with h1|h1
   ·simp only[Bool.and_eq_true] at h1
    obtain⟨h1,h2,h3,h4⟩:=h1;refine mX hi (Region.noSelect_spec hsel) (fun c a w hq=>hq) l.length listed a w (lS hi h2 (fun e=>by simpa[e] using h4)) (by simpa using h3) hy H
   ·split at h1
    ·rename_i j hr
     obtain rfl:=Nat.eq_of_beq_eq_true h1;exact pR hr (hy.wpOp hi (.inr (aB.refl _)) ⟨fun _=>aB.refl _,H⟩)
    ·cases h1
theorem wh(hc:bY P C){R:Type}{st:St}{k:St→Option R}{r:R}{a:Act}{id:Nat}(h:dm C ops R (ops.size+ops.size+1) false [] ops.toList st k=some r)
 (hok:(Region.noSelect ops&&gV C ops (Array.replicate ops.size false) (List.range ops.size))=true) (hi:Inv C.N E0 E st a)
 (hn:∀st' E' a',k st'=some r→Inv C.N E0 E' st' a'→Q .normal a' E'.w):(Code.region id ops true).wp P Q a E.w:=by
 simp only[Bool.and_eq_true] at hok;refine Code.wp_mono (Q:=calm Q) (fun e a w q=>by cases e<;>first|exact q|exact q.elim) ?_;refine wp_region_any hc.mixed (qj (T:=fu C ops) _ _ _ _ ?_);have hi':=hi.grew (w:={E.w with drawn:=E.w.drawn+1}) ⟨rfl,rfl,rfl,Nat.le_refl _,fun _ _=>rfl⟩
 have:=tY (Q:=calm Q) (all:=ops) (E0:=E0) hc (yX (Q:=Q) hok.1) (ops.size+ops.size+1) R false [] ops.toList st k r _ a [] false h (by simp) hi' (fun s b hl=>by cases hl)
  (fun st' E' a' hk hi' _ _=>by
   intro rest listed hm hok';cases rest with
   |cons x r=>cases hm
   |nil=>
    refine⟨?_,hn st' E' a' hk hi'⟩;simpa[gV] using hok')
 have:=this (List.range ops.size) (Array.replicate ops.size false) ?_ hok.2
 ·simpa using this
 ·simp only[List.append_nil]
  apply List.ext_getElem?
  intro i;simp only[List.getElem?_map,List.getElem?_range'];by_cases hlt:i<ops.size
  ·simp[hlt]
  ·simp[hlt]
end
end Go.Am
end
section
namespace Go.Am
section
variable{R:Type}{C:Ctx}{o:Oper}
theorem bW(c:Cn)(st:St)(k:St→Option R):az C o c st k=(az C o c st some).bind k:=by
 unfold az;split
 ·rfl
 ·split<;>rfl
theorem cB{b:Bool}{x:Option R}{y:Option St}{k:St→Option R}(h:x=y.bind k):cond b x none=(cond b y none).bind k:=by
 cases b with
 |true=>exact h
 |false=>rfl
theorem bV{α:Type}{m:Option α}{f:α→Option R}{g:α→Option St}{k:St→Option R}(h:∀x,f x=(g x).bind k):m.bind f=(m.bind g).bind k:=by
 cases m with
 |none=>rfl
 |some x=>exact h x
theorem vI(op:BinOp)(t:TypeId)(x y:Cn)(st:St)(k:St→Option R):iY C o op t x y st k=(iY C o op t x y st some).bind k:=by
 unfold iY;repeat' (first|rfl|exact bW _ _ _|(refine cB ?_)|(refine bV fun _=> ?_)|split)
theorem wu(op:BinOp)(t:TypeId)(x y:DV)(st:St)(k:St→Option R):ji C o op t x y st k=(ji C o op t x y st some).bind k:=by
 unfold ji;repeat' (first|rfl|exact bW _ _ _|(refine cB ?_)|(refine bV fun _=> ?_)|split)
theorem y_(op:UnOp)(x:Cn)(st:St)(k:St→Option R):jP C o op x st k=(jP C o op x st some).bind k:=by
 unfold jP;repeat' (first|rfl|exact bW _ _ _|(refine cB ?_)|(refine bV fun _=> ?_)|split)
theorem yU(ty:TypeId)(i:Nat)(ix:Int)(path:List Nat)(c:Cn)(st:St)(k:St→Option R):storeT C.tt ty st i ix path c k=(storeT C.tt ty st i ix path c some).bind k:=by
 unfold storeT;repeat' (first|rfl|(refine cB ?_)|(refine bV fun _=> ?_)|split)
theorem vR(d:Option Nat)(i:Nat)(st:St)(k:St→Option R):iA d i st k=(iA d i st some).bind k:=by
 unfold iA;repeat' (first|rfl|(refine bV fun _=> ?_)|split)
theorem yS(ty:TypeId)(a c:Cn)(st:St)(k:St→Option R):g_ C.tt ty st a c k=(g_ C.tt ty st a c some).bind k:=by
 unfold g_;repeat' (first|rfl|exact yU _ _ _ _ _ _ _|exact bW _ _ _|(refine cB ?_)|(refine bV fun _=> ?_)|split)
theorem xC(ty:TypeId)(a c:Cn)(st:St)(k:St→Option R):jw C o ty a c st k=(jw C o ty a c st some).bind k:=by
 unfold jw;repeat' (first|rfl|exact bW _ _ _|(refine cB ?_)|(refine bV fun _=> ?_)|split)
theorem xE(ty:TypeId)(a c:Cn)(st:St)(k:St→Option R):jy C o ty a c st k=(jy C o ty a c st some).bind k:=by
 unfold jy;repeat' (first|rfl|exact bW _ _ _|(refine cB ?_)|(refine bV fun _=> ?_)|split)
theorem yN(ty:TypeId)(a:Cn)(l h:Option Int)(st:St)(k:St→Option R):jL C o ty a l h st k=(jL C o ty a l h st some).bind k:=by
 unfold jL;repeat' (first|rfl|exact bW _ _ _|(refine cB ?_)|(refine bV fun _=> ?_)|split)
theorem xN(ty:TypeId)(a:Cn)(st:St)(k:St→Option R):jD C o ty a st k=(jD C o ty a st some).bind k:=by
 unfold jD;repeat' (first|rfl|exact bW _ _ _|(refine cB ?_)|(refine bV fun _=> ?_)|split)
theorem vg(p:Bool)(t t2:TypeId)(a c:Cn)(st:St)(k:St→Option R):iq C p o t t2 a c st k=(iq C p o t t2 a c st some).bind k:=by
 unfold iq;repeat' (first|rfl|exact bW _ _ _|(refine cB ?_)|(refine bV fun _=> ?_)|split)
theorem vB(t t2:TypeId)(a c:Cn)(st:St)(k:St→Option R):iW C o t t2 a c st k=(iW C o t t2 a c st some).bind k:=by
 unfold iW;repeat' (first|rfl|exact bW _ _ _|(refine cB ?_)|(refine bV fun _=> ?_)|split)
theorem vk(p:Bool)(t t2:TypeId)(a c:Cn)(st:St)(k:St→Option R):iV C p o t t2 a c st k=(iV C p o t t2 a c st some).bind k:=by
 unfold iV;repeat' (first|rfl|exact vg _ _ _ _ _ _ _|exact vB _ _ _ _ _ _|split)
theorem vY(t t2:TypeId)(a c:Cn)(st:St)(k:St→Option R):jg C o t t2 a c st k=(jg C o t t2 a c st some).bind k:=by
 unfold jg;repeat' (first|rfl|exact bW _ _ _|(refine cB ?_)|(refine bV fun _=> ?_)|split)
theorem xR(t:TypeId)(n:Int)(st:St)(k:St→Option R):iJ C o t n st k=(iJ C o t n st some).bind k:=by
 unfold iJ;repeat' (first|rfl|exact bW _ _ _|(refine cB ?_)|(refine bV fun _=> ?_)|split)
theorem vN(p:Bool)(t:TypeId)(n:Nat)(ps:List (Nat×Operand))(st:St)(k:St→Option R):iZ C p o t n ps st k=(iZ C p o t n ps st some).bind k:=by
 unfold iZ;repeat' (first|rfl|exact bW _ _ _|(refine cB ?_)|(refine bV fun _=> ?_)|split)
theorem qW(p:Bool)(args:List Cn)(st:St)(k:St→Option R):∀l:List cz,gz C p o args st k l=(gz C p o args st some l).bind k
 |[]=>rfl
 |c::l=>by
  have ih:=qW p args st k l;simp only[gz];split
  ·split
   ·rfl
   ·split
    ·exact ih
    ·split
     ·rfl
     ·refine bV fun y=> ?_
      rw[bW,bW _ _ (fun st2=>iA _ _ st2 some),Option.bind_assoc]
      congr 1
      funext st2;exact vR _ _ _ _
  ·split
   ·exact ih
   ·repeat' (first|rfl|exact bW _ _ _|(refine cB ?_)|(refine bV fun _=> ?_)|split)
theorem vW(ts td:TypeId)(c:Cn)(st:St)(k:St→Option R):jf C o ts td c st k=(jf C o ts td c st some).bind k:=by
 unfold jf;repeat' (first|rfl|exact bW _ _ _|(refine cB ?_)|(refine bV fun _=> ?_)|split)
theorem x8(p:Bool)(st:St)(k:St→Option R):jG C p o st k=(jG C p o st some).bind k:=by
 unfold jG
 repeat' (first|rfl|(first|exact bW _ _ _|exact vI _ _ _ _ _ _|exact y_ _ _ _ _|exact yS _ _ _ _ _|exact xC _ _ _ _ _|exact xE _ _ _ _ _)|(first|exact wu _ _ _ _ _ _|exact yN _ _ _ _ _ _|exact xN _ _ _ _|exact vk _ _ _ _ _ _ _|exact xR _ _ _ _|exact vY _ _ _ _ _ _|exact vN _ _ _ _ _ _|exact qW _ _ _ _ _|exact vW _ _ _ _ _)|(refine cB ?_)|(refine bV fun _=> ?_)|split)
end
end Go.Am
end
section
namespace Go.Am
section
variable{P:Program}{C:Ctx}{E0 E:Env}{Q:Exit→Act→World→Prop}{ops:Array Oper}{R:Type}
theorem mg{i:Nat}{r:List Nat}:∀{l:List (List Nat)},r∈dn i l→(i::r)∈l
 |[],h=>by simp[dn] at h
 |[]::rest,h=>List.mem_cons_of_mem _ (mg (l:=rest) (by simpa[dn] using h))
 |(j::q)::rest,h=>by
  simp only[dn] at h;split at h
  ·rename_i e
   obtain rfl:=Nat.eq_of_beq_eq_true e;rcases List.mem_cons.1 h with rfl|h
   ·exact List.mem_cons_self ..
   ·exact List.mem_cons_of_mem _ (mg h)
  ·exact List.mem_cons_of_mem _ (mg h)
theorem wN{n:Nat}{listed:Array Bool}(h:dY C ops n listed []=true):False:=by
 cases n with
 |zero=>simp[dY] at h
 |succ n=>
  simp only[dY] at h;split at h
  ·simp at h
  ·cases h
theorem xZ{dec:List (Nat×Bool)}{o:Oper}{p:Bool}{st:St}{k:St→Option R}:dG C p dec o st k=(dG C p dec o st some).bind k:=by
 unfold dG;split
 ·split
  ·exact bW _ _ _
  ·rfl
 ·exact x8 _ _ _
def jh(ops:Array Oper)(dec:List (Nat×Bool))(o:Oper)(st:St):List (Nat×Bool):=
 match o.guard with
 |none=>dec
 |some (j,_)=>match fD ops j with
  |none=>dec
  |some s=>match dh dec s with
   |some _=>dec
   |none=>match st.sl s with
    | .ro none ⟨.bool,b⟩=>(s,b)::dec
    |_=>dec
theorem bP.cons{dec:List (Nat×Bool)}{a:Act}{s:Nat}{b:Bool}(h:bP dec a)(hs:a.tmps.getD s undef= .bool b):bP ((s,b)::dec) a:=by
 intro s' b' hl;simp only[dh] at hl;split at hl
 ·rename_i e
  obtain rfl:=Nat.eq_of_beq_eq_true e;obtain rfl:=Option.some.inj hl;exact hs
 ·exact h s' b' hl
theorem qb{dec:List (Nat×Bool)}{o:Oper}{st:St}{a:Act}{K:List (Nat×Bool)→St→Option R}{r:R}(h:kS C ops dec o st K=some r)(hi:Inv C.N E0 E st a)(hdec:bP dec a):
 bP (jh ops dec o st) a∧((Region.wanted o (yielded ops a.tmps)=true∧∃st',dG C false (jh ops dec o st) o st some=some st'∧K (bB o.dst (jh ops dec o st)) st'=some r)∨
  (Region.wanted o (yielded ops a.tmps)=false∧K (bB o.dst (jh ops dec o st)) (cu o st)=some r)):=by
 have j_:∀d,dG C false d o st (K (bB o.dst d))=some r→∃st',dG C false d o st some=some st'∧K (bB o.dst d) st'=some r:=by
  intro d hd;rw[xZ] at hd;exact Option.bind_eq_some_iff.1 hd
 have guarded:∀(d:List (Nat×Bool)) (v want:Bool) (j s:Nat),o.guard=some (j,want)→fD ops j=some s→a.tmps.getD s undef= .bool v→stepG C d v want o st K=some r→
  ((Region.wanted o (yielded ops a.tmps)=true∧∃st',dG C false d o st some=some st'∧K (bB o.dst d) st'=some r)∨(Region.wanted o (yielded ops a.tmps)=false∧K (bB o.dst d) (cu o st)=some r)):=by
  intro d v want j s hg hds hs hk;have hy:=mZ hds hs;unfold stepG at hk;split at hk
  ·rename_i hvw
   simp only[beq_iff_eq] at hvw;subst hvw;exact .inl ⟨by simp[Region.wanted,hg,hy],j_ _ hk⟩
  ·rename_i hvw
   refine .inr ⟨?_,hk⟩;simp only[Region.wanted,hg,hy];cases v<;>cases want<;>first|rfl|(exact absurd rfl hvw)|(simp at hvw)
 unfold kS at h;unfold jh;split at h
 ·rename_i hg
  rw[hg];exact⟨hdec,.inl ⟨by simp[Region.wanted,hg],j_ _ h⟩⟩
 ·rename_i j want hg
  rw[hg];simp only;split at h
  ·cases h
  ·rename_i s hds
   rw[hds];simp only;split at h
   ·rename_i v hl
    rw[hl];exact⟨hdec,guarded _ _ _ _ _ hg hds (hdec s v hl) h⟩
   ·rename_i hl
    rw[hl];simp only;split at h
    ·rename_i b hsl
     have hsv:a.tmps.getD s undef= .bool b:=by
      have:=hi.rep.sl s;rw[hsl] at this;exact gQ this
     rw[hsl];simp only;cases b with
     |true=>exact⟨hdec.cons hsv,guarded _ _ _ _ _ hg hds hsv h⟩
     |false=>exact⟨hdec.cons hsv,guarded _ _ _ _ _ hg hds hsv h⟩
    ·rename_i hsl
     have hsv:a.tmps.getD s undef=undef:=by
      have:=hi.rep.sl s;rw[hsl] at this;obtain⟨cs,⟨vs,h1,h2⟩,h3⟩:=this;have h2:vs=[]:=h2;have h3:cs=[_]:=h3;rw[h3,h2] at h1;simpa[undef] using h1
     rw[hsl];simp only;exact⟨hdec,.inr ⟨by simp only[Region.wanted,hg,ql hds hsv];rfl,h⟩⟩
    ·cases h
theorem rV{i:Nat}{orders:List (List Nat)}{dec:List (Nat×Bool)}{st:St}{a:Act}{k:St→Option R}{r:R}(h:∀ord,ord∈orders→fO C ops ord dec st k=some r)(hne:dn i orders≠[])(hi:Inv C.N E0 E st a)(hdec:bP dec a):
 ∃o dec',ops[i]?=some o∧bP dec' a∧((Region.wanted o (yielded ops a.tmps)=true∧∃st',dG C false dec' o st some=some st'∧∀ord,ord∈dn i orders→fO C ops ord (bB o.dst dec') st' k=some r)∨
  (Region.wanted o (yielded ops a.tmps)=false∧∀ord,ord∈dn i orders→fO C ops ord (bB o.dst dec') (cu o st) k=some r)):=by
 have key:∀ord,ord∈dn i orders→∃o,ops[i]?=some o∧kS C ops dec o st (fun dec' st'=>fO C ops ord dec' st' k)=some r:=by
  intro ord ho;have h1:=h _ (mg ho);simp only[fO] at h1;split at h1
  ·rename_i o hi
   exact⟨o,hi,h1⟩
  ·cases h1
 obtain⟨x,l,hx⟩:=List.exists_cons_of_ne_nil hne;obtain⟨o,ho,hs⟩:=key x (by rw[hx];exact List.mem_cons_self ..);obtain⟨q1,q2⟩:=qb hs hi hdec;refine⟨o,jh ops dec o st,ho,q1,?_⟩;have all:∀ord,ord∈dn i orders→kS C ops dec o st (fun dec' st'=>fO C ops ord dec' st' k)=some r:=by
  intro ord kG;obtain⟨o',ho',hs'⟩:=key ord kG;rw[ho] at ho';cases ho';exact hs'
 rcases q2 with⟨hw,st',e1,_⟩|⟨hw,_⟩
 ·refine .inl ⟨hw,st',e1,fun ord kG=> ?_⟩
  rcases(qb (all ord kG) hi hdec).2 with⟨_,fQ,ru,e2'⟩|⟨hw',_⟩
  ·rw[e1] at ru
   cases ru;exact e2'
  ·rw[hw] at hw';cases hw'
 ·refine .inr ⟨hw,fun ord kG=> ?_⟩
  rcases(qb (all ord kG) hi hdec).2 with⟨hw',_⟩|⟨_,e2'⟩
  ·rw[hw] at hw';cases hw'
  ·exact e2'
theorem wO(hc:bY P C)(hsel:Region.noSelect ops=true){k:St→Option R}{r:R}(hn:∀st' E' a',k st'=some r→Inv C.N E0 E' st' a'→Q .normal a' E'.w):
 ∀(n:Nat) (listed:Array Bool) (orders:List (List Nat)) (dec:List (Nat×Bool)) (st:St) (E:Env) (a:Act),dY C ops n listed orders=true→(∀ord,ord∈orders→fO C ops ord dec st k=some r)→Inv C.N E0 E st a→bP dec a→
 gK P .any ops (fu C ops) (calm Q) n listed a E.w:=by
 have fin:∀(orders:List (List Nat)) (dec:List (Nat×Bool)) (st:St) (E:Env) (a:Act),orders.any (·.isEmpty)=true→(∀ord,ord∈orders→fO C ops ord dec st k=some r)→Inv C.N E0 E st a→calm Q .normal a E.w:=by
  intro orders dec st E a h hall hi;obtain⟨ord,ho,he⟩:=List.any_eq_true.1 h;have:ord=[]:=by simpa using he
  subst this;exact hn st E a (hall [] ho) hi
 intro n
 induction n with
 |zero=>
  intro listed orders dec st E a hok hall hi hdec;simp only[dY,Bool.and_eq_true] at hok;exact⟨by simpa using hok.1,fin orders dec st E a hok.2 hall hi⟩
 |succ n ih=>
  intro listed orders dec st E a hok hall hi hdec;simp only[dY] at hok;split at hok
  ·rename_i hr
   exact⟨fun _=>fin orders dec st E a hok hall hi,fun j hj=>by rw[hr] at hj;cases hj⟩
  ·rename_i rs hr
   split at hok
   ·rename_i i t rest
    split at hok
    ·rename_i htk
     have hne:dn i ((i::t)::rest)≠[]:=by simp[dn]
     obtain⟨o,dec',ho,hd',hcase⟩:=rV hall hne hi hdec;simp only[uK,ho,Bool.and_eq_true] at htk;obtain⟨h1,h2,h3,h4⟩:=htk;rcases hcase with⟨hw,st',hop,htl⟩|⟨hw,htl⟩
     ·refine uP (P:=P) (o:=o) (a:=a) (w:=E.w) ?_
      refine mG (g:=false) hc hd' (by simp) hop hi fun fQ E' v hk' hi' fI=> ?_;cases hk';obtain⟨e1,e2⟩:=fI.run h1;have H:=ih _ _ _ st' E' _ hok htl hi' (hd'.rm aP.one);rw[e1] at H;exact mX ho (Region.noSelect_spec hsel) (fun c a w hq=>hq) n listed a E.w (lS ho h2 (fun e=>by simpa[e] using h4)) (by simpa using h3) (.inl ⟨hw,e2⟩) H
     ·have H:=ih _ _ _ (cu o st) E _ hok htl hi.cu (hd'.rm aP.one)
      have hy:YieldsIf P ops (fun u=>dN o=false∨aB E.w u) o undef a:= .inr ⟨hw,rfl⟩;exact mX ho (Region.noSelect_spec hsel) (fun c a w hq=>hq) n listed a E.w (lS ho h2 (fun e=>by simpa[e] using h4)) (by simpa using h3) hy H
    ·refine⟨fun e=>absurd e hr,fun j hj=> ?_⟩
     have lW:=List.all_eq_true.1 hok j hj;have hne:dn j ((i::t)::rest)≠[]:=fun e=>by rw[e] at lW;exact wN lW
     obtain⟨o,dec',ho,hd',hcase⟩:=rV hall hne hi hdec;rcases hcase with⟨hw,st',hop,htl⟩|⟨hw,htl⟩
     ·unfold wpOp
      simp only[ho,hw,if_true];refine .inl (mG (g:=false) hc hd' (by simp) hop hi fun fQ E' v hk' hi' fI=> ?_);cases hk';refine⟨fun e=> ?_,ih _ _ _ st' E' _ lW htl hi' (hd'.rm aP.one)⟩;simp only[fu,ho,mh,Bool.or_eq_true] at e;rcases e with e|e
      ·rw[(fI.run e).1];exact aB.refl _
      ·exact fI.al e
     ·have H:=ih _ _ _ (cu o st) E _ lW htl hi.cu (hd'.rm aP.one)
      have hy:YieldsIf P ops (fun u=>dN o=false∨aB E.w u) o undef a:= .inr ⟨hw,rfl⟩;exact hy.wpOp ho (.inr (aB.refl _)) ⟨fun _=>aB.refl _,H⟩
   ·cases hok
end
end Go.Am
end
section
namespace Go.Am
def mJ(C:Ctx)(st:St):ResultVar→Option Cn
 | .tmp t=>some (st.sl t)
 | .cell a t=>match kK st (st.sl a) with
   |some d=>match kJ C.tt t d.isAgg d.size with
    |true=>some d
    |false=>none
   |none=>none
def mK(C:Ctx)(st:St):List ResultVar→Option (List Cn)
 |[]=>some []
 |x::r=>match mJ C st x with
  |some c=>match mK C st r with
   |some l=>some (c::l)
   |none=>none
  |none=>none
section
variable{P:Program}{C:Ctx}
theorem vG{t:TypeId}{x v:Value}{w w':World}(h:(Instr.loadAt t x).run P w= .ok v w'):(do loadVar t (←asAddr x):Sem Value).run P w= .ok v w':=by
 unfold Instr.loadAt at h;cases x with
 |pointer a=>
  cases a with
  |some a=>simpa[Instr.sureAddr,asAddr] using h
  |none=>simp[Instr.sureAddr] at h
 |_=>simp[Instr.sureAddr] at h
def mM(tm:Array Value):ResultVar→Sem Value
 | .tmp t=>pure (tm.getD t undef)
 | .cell y t=>do loadVar t (←asAddr (tm.getD y undef))
theorem yA(hc:bY P C){N:Nat}{E0 E:Env}{st:St}{a:Act}{x:ResultVar}{c:Cn}(h:mJ C st x=some c)(hN:N=C.N)(hi:Inv N E0 E st a):
 ∃v,(mM a.tmps x).run P E.w= .ok v E.w∧ak E st.ob st.nx c v:=by
 subst hN;cases x with
 |tmp t=>
  simp only[mJ,Option.some.injEq] at h;subst h;exact⟨_,rfl,hi.rep.sl t⟩
 |cell y t=>
  simp only[mJ] at h;split at h
  ·rename_i d hd
   split at h
   ·rename_i hl
    cases h;obtain⟨v,h1,h2⟩:=sH hc.tt hd hl hi (hi.rep.sl y);exact⟨v,vG (h1 E.w (aB.refl _)),h2⟩
   ·cases h
  ·cases h
theorem t_(hc:bY P C){E0 E:Env}{st:St}{a:Act}(hi:Inv C.N E0 E st a):∀(res:List ResultVar) (l:List Cn),mK C st res=some l→
 ∃vs:List Value,vs.length=res.length∧(res.mapM (mM a.tmps)).run P E.w= .ok vs E.w∧∀s,ak E st.ob st.nx (bC l s) (vs.getD s undef)
 |[],l,h=>by
  cases h;exact⟨[],rfl,rfl,fun s=>trivial⟩
 |x::r,l,h=>by
  simp only[mK] at h;split at h
  ·rename_i c hx
   split at h
   ·rename_i l' hr
    cases h;obtain⟨v,h1,h2⟩:=yA hc hx rfl hi;obtain⟨vs,h3,h4,h5⟩:=t_ hc hi r l' hr;refine⟨v::vs,by simp[h3],?_,fun s=> ?_⟩
    ·rw[List.mapM_cons,Sem.run_bind,h1]
     simp only[Result.andThen_ok,Sem.run_bind];rw[h4];rfl
    ·cases s with
     |zero=>exact h2
     |succ s=>simpa[bC] using h5 s
   ·cases h
  ·cases h
theorem yG{fn:Func}{res:List ResultVar}(h:fn.results=res.toArray){tm:Array Value}{w:World}{vs:List Value}(hl:vs.length=res.length)
 (hm:(res.mapM (mM tm)).run P w= .ok vs w):∃v,(results fn tm).run P w= .ok v w∧nH res.length vs.toArray v:=by
 have hrun:(results fn tm).run P w= .ok (if h:vs.toArray.size=1 then vs.toArray[0] else .tuple vs.toArray) w:=by
  unfold results;rw[h];simp only[List.mapM_toArray,Sem.run_bind,Sem.run_map];show(((res.mapM (mM tm)).run P w).andThen _).andThen _=_;rw[hm];rfl
 refine⟨_,hrun,?_⟩;rw[←hl]
 match vs with
 |[]=>exact⟨[],rfl,rfl,fun i hi=>by simp at hi⟩
 |[t]=>exact rfl
 |t::u::r=>
  refine⟨t::u::r,rfl,rfl,fun i hi=> ?_⟩;simp only[Array.getD_eq_getD_getElem?,List.getElem?_toArray];rw[List.getElem?_eq_getElem (by simpa using hi)];rfl
end
end Go.Am
end
section
namespace Go.Am
def aF(P:Program)(C:Ctx){R:Type}(c:Code)(kn:St→Option R)(kx:Nat→St→Option R)(kr:St→Option R)(F:St→Option R):Prop:=
 ∀(r:R) (Q:Exit→Act→World→Prop) (E0 E:Env) (st:St) (a:Act),F st=some r→Inv C.N E0 E st a→
  (∀st E a,kn st=some r→Inv C.N E0 E st a→Q .normal a E.w)→
  (∀i st E a,kx i st=some r→Inv C.N E0 E st a→Q (.exit i) a E.w)→
  (∀st E a,kr st=some r→Inv C.N E0 E st a→Q .ret a E.w)→c.wp P Q a E.w
def eD(P:Program)(C:Ctx){R:Type}(cut:Nat→Option (Cut R)):Code→(St→Option R)→(Nat→St→Option R)→(St→Option R)→Prop
 | .seq a b,kn,kx,kr=>match cut (key b) with
   |some c=>eD P C cut a (fun st=>c.go st) kx kr∧aF P C b kn kx kr c.go
   |none=>eD P C cut a (exec C cut b kn kx kr) kx kr∧eD P C cut b kn kx kr
 | .cond _ a b,kn,kx,kr=>eD P C cut a kn kx kr∧eD P C cut b kn kx kr
 | .block id a,kn,kx,kr=>eD P C cut a kn (fun i=>match Nat.beq i id with|true=>kn|false=>kx i) kr
 | .loop a,kn,kx,kr=>match cut (key a) with
   |some c=>aF P C (.loop a) kn kx kr c.go
   |none=>True
 | .region id ops true,kn,kx,kr=>match cut (id+1000000) with
   |some c=>aF P C (.region id ops true) kn kx kr c.go
   |none=>True
 |_,_,_,_=>True
section
variable{P:Program}{C:Ctx}{R:Type}
theorem rO{c:Cut R}{st:St}{r:R}(h:c.go st=some r):∃x m,fJ false false c.s (iB c.s st.sl st)=some (x,m)∧c.J x=some r:=by
 unfold Cut.go at h;split at h
 ·rename_i x m hm
  exact⟨x,m,hm,h⟩
 ·cases h
structure kX(N:Nat)(E0 E:Env)(st:St)(a:Act)(E':Env)(st':St):Prop where
 w:E'.w=E.w
 inv:Inv N E0 E' st' a
 sl:st'.sl=st.sl
 nx:st'.nx=st.nx
 rep:∀c v,ak E st.ob st.nx c v→ak E' st'.ob st'.nx c v
theorem vU{N:Nat}{E0:Env}{a:Act}(objs:List (Nat×OS)):∀(cs:CS) (c:Cn) (E:Env) (st:St),Inv N E0 E st a→∃E',kX N E0 E st a E' {st with ob:=jd objs cs c st.ob}:=by
 have same:∀(E:Env) (st:St),Inv N E0 E st a→∃E',kX N E0 E st a E' {st with ob:=st.ob}:=fun E st h=>⟨E,rfl,h,rfl,rfl,fun _ _ h=>h⟩;intro cs
 induction cs with
 |h j=>
  intro c E st h;cases c with
  |h i=>
   simp only[jd];split
   ·obtain⟨E',o⟩:=nW (.h i) h
    exact⟨E',o.w,o.inv,rfl,rfl,fun c v hv=>eG o.ev hv⟩
   ·exact same E st h
  |_=>exact same E st h
 |agg a ih=>
  intro c E st h;cases c with
  |agg x=>exact ih x E st h
  |_=>exact same E st h
 |cons a b iha ihb=>
  intro c E st h;cases c with
  |cons x y=>
   obtain⟨E1,h1⟩:=iha x E st h;obtain⟨E2,h2⟩:=ihb y E1 _ h1.inv;exact⟨E2,h2.w.trans h1.w,h2.inv,rfl,rfl,fun c v hv=>h2.rep c v (h1.rep c v hv)⟩
  |_=>exact same E st h
 |_=>intro c E st h;exact same E st h
theorem qY{N:Nat}{E0:Env}{a:Act}(objs:List (Nat×OS))(sl:Nat→Cn):∀(l:List (Nat×CS)) (E:Env) (st:St),Inv N E0 E st a→∃E',kX N E0 E st a E' {st with ob:=nX objs sl l st.ob}
 |[],E,st,h=>⟨E,rfl,h,rfl,rfl,fun _ _ h=>h⟩
 |x::r,E,st,h=>by
  obtain⟨E1,h1⟩:=vU objs x.2 (sl x.1) E st h;obtain⟨E2,h2⟩:=qY objs sl r E1 _ h1.inv;exact⟨E2,h2.w.trans h1.w,h2.inv,rfl,rfl,fun c v hv=>h2.rep c v (h1.rep c v hv)⟩
theorem qZ{N:Nat}{E0 E:Env}{a:Act}{st:St}(s:SS)(sl:Nat→Cn)(h:Inv N E0 E st a):∃E',kX N E0 E st a E' (iB s sl st):=by
 unfold iB;split
 ·exact qY s.objs sl s.slots E st h
 ·exact⟨E,rfl,h,rfl,rfl,fun _ _ h=>h⟩
theorem oI{N:Nat}{E0 E:Env}{a:Act}{c:Cut R}{st:St}{r:R}(h:c.go st=some r)(hi:Inv N E0 E st a):∃x m st1 E1,fJ false false c.s st1=some (x,m)∧c.J x=some r∧Inv N E0 E1 st1 a∧E1.w=E.w:=by
 obtain⟨x,m,h1,h2⟩:=rO h;obtain⟨E',k⟩:=qZ c.s st.sl hi;exact⟨x,m,_,E',h1,h2,k.inv,k.w⟩
theorem wF(hc:bY P C){cut:Nat→Option (Cut R)}:∀(c:Code) (kn:St→Option R) (kx:Nat→St→Option R) (kr:St→Option R),eD P C cut c kn kx kr→aF P C c kn kx kr (exec C cut c kn kx kr):=by
 intro c
 induction c with
 |skip=>intro kn kx kr _ r Q E0 E st a h hi hn _ _;exact wp_skip (hn st E a h hi)
 |region id ops draw=>
  intro kn kx kr ho r Q E0 E st a h hi hn hx hr;simp only[exec] at h;cases draw with
  |true=>
   simp only at h;simp only[eD] at ho;cases hcut:cut (id+1000000) with
   |some c=>
    simp only[hcut] at h ho;exact ho r Q E0 E st a h hi hn hx hr
   |none=>
    simp only[hcut] at h;split at h
    ·rename_i hok
     exact wh hc h hok hi (fun st' E' a' hk hi'=>hn st' E' a' hk hi')
    ·cases h
  |false=>
   simp only at h;refine wp_region_list ?_;have:=tY (Q:=Q) (all:=ops) (E0:=E0) hc yY (ops.size+ops.size+1) R false [] ops.toList st kn r E a [] false h (by simp) hi (fun s b hl=>by cases hl) fun st' E' a' hk hi' _ _=>hn st' E' a' hk hi';simpa using this
 |seq a b iha ihb=>
  intro kn kx kr ho r Q E0 E st act h hi hn hx hr;simp only[exec] at h;simp only[eD] at ho;refine wp_seq ?_;have hx':∀i st E a,kx i st=some r→Inv C.N E0 E st a→Exit.then (b.wp P Q) Q (.exit i) a E.w:=fun i st E a hk hi'=>hx i st E a hk hi';have hr':∀st E a,kr st=some r→Inv C.N E0 E st a→Exit.then (b.wp P Q) Q .ret a E.w:=fun st E a hk hi'=>hr st E a hk hi';cases hcut:cut (key b) with
  |some c=>
   simp only[hcut] at h ho;exact iha _ _ _ ho.1 r _ E0 E st act h hi (fun st' E' a' hk hi'=>ho.2 r Q E0 E' st' a' hk hi' hn hx hr) hx' hr'
  |none=>
   simp only[hcut] at h ho;exact iha _ _ _ ho.1 r _ E0 E st act h hi (fun st' E' a' hk hi'=>ihb _ _ _ ho.2 r Q E0 E' st' a' hk hi' hn hx hr) hx' hr'
 |cond x a b iha ihb=>
  intro kn kx kr ho r Q E0 E st act h hi hn hx hr;simp only[exec,lG] at h;split at h
  ·rename_i t ht
   refine wp_cond (kg ht hi.rep) ?_;cases t with
   |true=>exact iha _ _ _ ho.1 r Q E0 E st act h hi hn hx hr
   |false=>exact ihb _ _ _ ho.2 r Q E0 E st act h hi hn hx hr
  ·cases h
 |block id a iha=>
  intro kn kx kr ho r Q E0 E st act h hi hn hx hr;refine wp_block ?_;refine iha _ _ _ ho r _ E0 E st act h hi (fun st' E' a' hk hi'=>hn st' E' a' hk hi') (fun i st' E' a' hk hi'=> ?_) (fun st' E' a' hk hi'=>hr st' E' a' hk hi');show Exit.inBlock id Q (.exit i) a' E'.w;simp only[Exit.inBlock];cases e:Nat.beq i id with
  |true=>
   simp only[e] at hk;rw[if_pos (Nat.eq_of_beq_eq_true e)];exact hn st' E' a' hk hi'
  |false=>
   simp only[e] at hk;rw[if_neg (fun e'=>by rw[e'] at e;simp at e)];exact hx i st' E' a' hk hi'
 |loop a iha=>
  intro kn kx kr ho r Q E0 E st act h hi hn hx hr;simp only[exec] at h;simp only[eD] at ho;split at h
  ·rename_i c hcut
   rw[hcut] at ho;exact ho r Q E0 E st act h hi hn hx hr
  ·cases h
 |exit id=>intro kn kx kr _ r Q E0 E st a h hi hn hx _;exact wp_exit (hx id st E a h hi)
 |ret=>intro kn kx kr _ r Q E0 E st a h hi hn hx hr;exact wp_ret (hr st E a h hi)
 |_=>intro kn kx kr _ r Q E0 E st a h;cases h
theorem aF.cut{c:Code}{kn:St→Option R}{kx:Nat→St→Option R}{kr:St→Option R}{F:St→Option R}(h:aF P C c kn kx kr F)(k:Cut R)(hk:∀x,F (k.s.st x)=k.J x):aF P C c kn kx kr k.go:=by
 intro r Q E0 E st a hg hi hn hx hr;obtain⟨x,m,st1,E1,hm,hJ,hi,hw1⟩:=oI hg hi;rw[←hw1];obtain⟨E1,hw,hi1⟩:=nZ hm hi;rw[←hw];exact h r Q E0 E1 (k.s.st x) a (by rw[hk x];exact hJ) hi1 hn hx hr
theorem aF.loop{c:Code}{kn:St→Option R}{kx:Nat→St→Option R}{kr:St→Option R}(s:SS)(J:Nat→s.Den→Option R)(F:Nat→St→Option R)
 (h0:∀x,J 0 x=none) (h:∀n,aF P C c (Cut.go ⟨s,J n⟩) kx kr (F n)) (hF:∀n x,F n (s.st x)=J (n+1) x) (n:Nat):aF P C (.loop c) kn kx kr (Cut.go ⟨s,J n⟩):=by
 intro r Q E0 E st a hg hi hn hx hr
 have round:∀n st E a,Cut.go ⟨s,J n⟩ st=some r→Inv C.N E0 E st a→∀(b:Frame) (k:List Item) (cs:List Frame),
  ∃e a' w',Q e a' w'∧Arrives P (lone (b.at a (.code c:: .inLoop c::k)) cs E.w) b k cs e a' w':=by
  intro n
  induction n with
  |zero=>
   intro st E a hg hi;obtain⟨x,m,hm,hJ⟩:=rO hg;have hJ:J 0 x=some r:=hJ;rw[h0] at hJ;cases hJ
  |succ n ih=>
   intro st E a hg hi b k cs;obtain⟨x,m,st1,E1,hm,hJ,hi,hw1⟩:=oI hg hi;obtain⟨E1,hw,hi1⟩:=nZ hm hi;rw[hw1] at hw
   have hwp:=h n r (Exit.then (fun a' w'=>∃st' E',E'.w=w'∧Cut.go ⟨s,J n⟩ st'=some r∧Inv C.N E0 E' st' a') Q) E0 E1 (s.st x) a (by rw[hF];exact hJ) hi1
    (fun st' E' a' hk hi'=>⟨st',E',rfl,hk,hi'⟩) (fun i st' E' a' hk hi'=>hx i st' E' a' hk hi') (fun st' E' a' hk hi'=>hr st' E' a' hk hi')
   rw[hw] at hwp;obtain⟨e,a₁,w₁,hq,harr⟩:=hwp b (.inLoop c::k) cs;cases e with
   |normal=>
    obtain⟨st',E',rfl,hk,hi'⟩:=hq;obtain⟨e₂,a₂,w₂,hq₂,harr₂⟩:=ih st' E' a₁ hk hi' b k cs;exact⟨e₂,a₂,w₂,hq₂,.of_steps (Steps.trans harr (.one step_inLoop)) harr₂⟩
   |exit id=>exact⟨_,a₁,w₁,hq,.pass (x:= .inLoop c) rfl (fun _ _=> .inl (by simp)) harr⟩
   |goto l=>exact⟨_,a₁,w₁,hq,.pass (x:= .inLoop c) rfl (fun _ _=> .inl (by simp)) harr⟩
   |ret=>exact⟨_,a₁,w₁,hq,.pass (x:= .inLoop c) rfl (fun _ _=> .inl (by simp)) harr⟩
   |panic ch=>exact⟨_,a₁,w₁,hq,.pass (x:= .inLoop c) rfl (fun _ _=> .inl (by simp)) harr⟩
   |outgrown=>exact⟨_,a₁,w₁,hq,.pass (x:= .inLoop c) rfl (fun _ _=> .inl (by simp)) harr⟩
 intro b k cs;obtain⟨e,a',w',hq,harr⟩:=round n st E a hg hi b k cs;exact⟨e,a',w',hq,.of_steps (.one step_loop) harr⟩
theorem aF.draw(hc:bY P C){id:Nat}{ops:Array Oper}{kn:St→Option R}{kx:Nat→St→Option R}{kr:St→Option R}(k:Cut R)(orders:List (List Nat))
 (hok:(Region.noSelect ops&&dY C ops ops.size (Array.replicate ops.size false) orders)=true) (h:∀ord,ord∈orders→∀x,runK C ops ord (k.s.st x) kn=k.J x):
 aF P C (.region id ops true) kn kx kr k.go:=by
 intro r Q E0 E st a hg hi hn hx hr;obtain⟨x,m,st1,E1,hm,hJ,hi,hw1⟩:=oI hg hi;rw[←hw1];obtain⟨E1,hw,hi1⟩:=nZ hm hi;rw[←hw];simp only[Bool.and_eq_true] at hok;refine Code.wp_mono (Q:=calm Q) (fun e a w q=>by cases e<;>first|exact q|exact q.elim) ?_;refine wp_region_any hc.mixed (qj (T:=fu C ops) _ _ _ _ ?_);have hi':=hi1.grew (w:={E1.w with drawn:=E1.w.drawn+1}) ⟨rfl,rfl,rfl,Nat.le_refl _,fun _ _=>rfl⟩;exact wO hc hok.1 (fun st' E' a' hk hi'=>hn st' E' a' hk hi') ops.size _ orders [] (k.s.st x) _ a hok.2 (fun ord ho=>by have:=h ord ho x;unfold runK at this;rw[this];exact hJ) hi' (fun s b hl=>by cases hl)
def jJ(C:Ctx)(s:SS)(res:List ResultVar)(st:St):Option s.Den:=
 match mK C st res with
 |some l=>match fJ false false s ⟨bC l,(iB s (bC l) st).ob,st.nx⟩ with
  |some (x,_)=>some x
  |none=>none
 |none=>none
theorem xG{N:Nat}{E0 E E':Env}{st:St}{a:Act}{m:Mt}{ids:List Nat}(hi:Inv N E0 E st a)(e1:Ext E ⟨[],[],st.ob,st.nx⟩ E' m)(k:jW ids m.fz false m.sig):Fr E0 (into E' m):=by
 refine hi.fr.trans ⟨by rw[show(into E' m).w=E.w from e1.w],by rw[show(into E' m).w=E.w from e1.w],by rw[show(into E' m).w=E.w from e1.w],by rw[show(into E' m).w=E.w from e1.w];exact Nat.le_refl _,
  fun b _ _=>by rw[show(into E' m).w=E.w from e1.w],?_,fun b hb=> .inl (by rw[e1.Z];exact hb),?_,?_⟩
 ·intro j b hb
  simp only[into] at hb;split at hb
  ·rename_i i hi'
   exact .inl ⟨i,by rw[←e1.B];exact hb⟩
  ·simp at hb
 ·intro b hb
  rcases hb with hb|⟨i,_,hb⟩
  ·exact .inl (by rw[←e1.Z];exact hb)
  ·exact .inr (.inl ⟨i,by rw[←e1.B];exact hb⟩)
 ·intro j hj
  have hlt:j<st.nx:=Nat.lt_of_lt_of_le hj hi.nx;show(match aA m.sig j with|some i=>E'.af i|none=>E'.af j)=_;split
  ·rename_i i hi'
   rcases k.own rfl j i hi' with rfl|h1
   ·exact e1.af j hlt
   ·omega
  ·exact e1.af j hlt
theorem wM(hc:bY P C){f:FuncId}{fn:Func}{code:Code}{c:cz}{res:List ResultVar}(hf:P.funcs[f]?=some fn)(hb:fn.body=some code)(hn:fn.name≠ "runtime.NumGoroutine")
 (hN:C.N=fn.ntmps) (hres:fn.results=res.toArray) (hnr:c.fK=res.length) (hna:c.nargs≤fn.ntmps)
 (G:c.aZ.Den→St→Option c.au.Den) (hS:∀x,aF P C code (jJ C c.au res) (fun _ _=>none) (jJ C c.au res) (G x)) (hF:∀x,G x (c.aZ.st x)=c.F x):
 fV P f c:=by
 intro E args x y hsz wU hr;have hcall:(callFunc f args).run P E.w= .ok (.enter f args) E.w:=by
  unfold callFunc;simp[hf,hn,hb]
 unfold fZ;rw[hcall];refine calls_of_wp hf hb ?_;have hi:Inv C.N E E (c.aZ.st x) {tmps:=args++Array.replicate (fn.ntmps-args.size) undef,defers:=[]}:=by
  refine⟨⟨fun s=> ?_,hr.ob,hr.lt,hr.dj,hr.nd,hr.bb,hr.zb⟩,Fr.refl E,rfl,?_,Nat.le_max_left _ _⟩
  ·have e:(args++Array.replicate (fn.ntmps-args.size) undef).getD s undef=args.getD s undef:=by
    simp only[Array.getD_eq_getD_getElem?,Array.getElem?_append];split
    ·rfl
    ·rename_i hlt
     rw[Array.getElem?_replicate,show args[s]?=none from Array.getElem?_eq_none (Nat.le_of_not_lt hlt)];split<;>rfl
   rw[e];exact hr.sl s
  ·simp only[Array.size_append,Array.size_replicate];omega
 have fin:∀st E' a,jJ C c.au res st=some y→Inv C.N E E' st a→a.defers=[]∧∃v,(results fn a.tmps).run P E'.w= .ok v E'.w∧
  ∃E2 tm,E2.w=E'.w∧Fr E E2∧aT E2 (c.au.st y) tm∧nH c.fK tm v:=by
  intro st E' a hk hi';unfold jJ at hk;split at hk
  ·rename_i l hl
   split at hk
   ·rename_i y' m hm
    cases hk;obtain⟨vs,h1,h2,h3⟩:=t_ hc hi' res l hl;obtain⟨v,h4,h5⟩:=yG (P:=P) hres h1 h2;obtain⟨E2,kc⟩:=qZ c.au (bC l) hi';have hnx:=kc.nx
    have hr':aT E2 ⟨bC l,(iB c.au (bC l) st).ob,st.nx⟩ vs.toArray:=
     ⟨fun s=>by have:=kc.rep _ _ (h3 s);rw[hnx] at this;simpa using this,by rw[←hnx];exact kc.inv.rep.ob,by rw[←hnx];exact kc.inv.rep.lt,kc.inv.rep.dj,kc.inv.rep.nd,kc.inv.rep.bb,kc.inv.rep.zb⟩
    obtain⟨E1,e1,e2,k,_,hr2⟩:=o9 hm hr';exact⟨hi'.defers,v,h4,into E1 m,_,e1.w.trans kc.w,xG (st:=iB c.au (bC l) st) kc.inv (by rw[hnx];exact e1) k,hr2,by rw[hnr];exact h5⟩
   ·cases hk
  ·cases hk
 exact hS x y _ E E _ _ (by rw[hF];exact wU) hi (fun st E' a hk hi'=>fin st E' a hk hi') (fun i st E' a hk _=>by cases hk) (fun st E' a hk hi'=>fin st E' a hk hi')
end
end Go.Am
end
section
namespace Go.Am
def dQ:Ty→List Value→Option (List Value)
 | .int k,.int k' n::r=>match decide (k=k')&&decide (n=0) with
   |true=>some r
   |false=>none
 | .bool,.bool false::r=>some r
 | .str,.string ⟨⟨[]⟩⟩::r=>some r
 | .list _ _,.slice none 0 0::r=>some r
 | .nil,r=>some r
 | .cons a b,r=>match dQ a r with
   |some r1=>dQ b r1
   |none=>none
 | .st a,r=>dQ a r
 | .ptr,v::r=>match v.oneCell' with
   |true=>some r
   |false=>none
 |_,_=>none
theorem zg:∀(u:Ty) (l r:List Value),dQ u l=some r→∃c,l=c++r∧ZR u c:=by
 intro u
 induction u with
 |int k=>
  intro l r h;unfold dQ at h;split at h<;>try (cases h;done)
  all_goals first|(rename_i heq;cases heq)|skip
  ·split at h
   ·rename_i hd
    cases h;simp only[Bool.and_eq_true,decide_eq_true_eq] at hd;obtain⟨rfl,rfl⟩:=hd;exact⟨_,rfl,rfl⟩
   ·cases h
 |bool=>
  intro l r h;unfold dQ at h;split at h<;>try (cases h;done)
  all_goals first|(rename_i heq;cases heq;done)|skip
  all_goals (cases h;exact⟨[_],rfl,rfl⟩)
 |str=>
  intro l r h;unfold dQ at h;split at h<;>try (cases h;done)
  all_goals first|(rename_i heq;cases heq;done)|skip
  all_goals (cases h;exact⟨[_],rfl,rfl⟩)
 |list e t _=>
  intro l r h;unfold dQ at h;split at h<;>try (cases h;done)
  all_goals first|(rename_i heq;cases heq;done)|skip
  all_goals (cases h;exact⟨[_],rfl,rfl⟩)
 |nil=>
  intro l r h;unfold dQ at h;cases h;exact⟨[],rfl,rfl⟩
 |cons a b iha ihb=>
  intro l r h;simp only[dQ] at h;split at h
  ·rename_i r1 h1
   obtain⟨c,rfl,hc⟩:=iha _ _ h1;obtain⟨d,rfl,hd⟩:=ihb _ _ h;exact⟨c++d,by simp,c,d,rfl,hc,hd⟩
  ·cases h
 |st a ih=>
  intro l r h;simp only[dQ] at h;exact ih l r h
 |ptr=>
  intro l r h;cases l with
  |nil=>simp[dQ] at h
  |cons v l=>
   simp only[dQ] at h;split at h
   ·rename_i h1
    cases h;exact⟨[v],rfl,v,rfl,h1⟩
   ·cases h
def o_:Bool→Value→Bool
 |true,.agg _=>true
 |true,_=>false
 |false,.agg _=>false
 |false,_=>true
def sW{α:Type}:Option (List α)→Bool
 |some []=>true
 |_=>false
def lX(P:Program)(t:TypeId)(u:Ty):Bool:=
 match P.info? t with
 |some i=>Nat.beq i.size u.size&&(match i.zero with
  |some z=>sW (dQ u z.cells.toList)&&(o_ u.isAgg z&&(Nat.blt 0 u.size&&(Nat.ble i.bytes 32768&&(match decide (u= .int .u8) with
   |true=>Nat.beq i.bytes 1
   |false=>true))))
  |none=>false)
 |none=>false
theorem sj{P:Program}{t:TypeId}{u:Ty}(h:lX P t u=true):f_ P t u:=by
 unfold lX at h;split at h
 ·rename_i i hi
  rw[Bool.and_eq_true] at h;obtain⟨h1,h2⟩:=h;split at h2
  ·rename_i z hz
   simp only[Bool.and_eq_true] at h2;obtain⟨h3,h4,h5,h6,h7⟩:=h2;refine⟨i,z,hi,Nat.eq_of_beq_eq_true h1,hz,?_,Nat.le_of_ble_eq_true h5,Nat.le_of_ble_eq_true h6,?_,?_⟩
   ·unfold sW at h3
    split at h3
    ·rename_i hq
     obtain⟨c,hc,hr⟩:=zg _ _ _ hq;rw[hc,List.append_nil];exact hr
    ·cases h3
   ·cases ha:u.isAgg with
    |true=>
     rw[ha] at h4;cases z<;>simp only[o_] at h4<;>first|(cases h4;done)|skip
     simp[mkV,Value.cells]
    |false=>
     rw[ha] at h4;cases z<;>simp only[o_] at h4<;>first|(cases h4;done)|skip
     all_goals simp[mkV,Value.cells]
   ·intro hu
    subst hu;exact Nat.eq_of_beq_eq_true (by simpa using h7)
  ·cases h2
 ·cases h
def j3(P:Program)(t:TypeId)(a:Ty):Bool:=
 match P.underlying t with
 |some (.struct _)=>a.isAgg
 |some (.array _ _)=>false
 |some _=> !a.isAgg
 |none=>false
theorem nL{P:Program}{t:TypeId}{a:Ty}(h:j3 P t a=true):eH P t a:=by
 unfold j3 at h;unfold eH;split at h
 ·rename_i hu;rw[hu];exact h
 ·cases h
 ·rename_i d h1 h2 hu
  rw[hu];have h:a.isAgg=false:=by simpa using h
  cases d<;>first|exact h|(exact absurd rfl (h1 _))|(exact absurd rfl (h2 _ _))
 ·cases h
def fieldsB(P:Program):List Field→Nat→Ty→Bool
 |[],_,.nil=>true
 |f::fs,off,.cons a b=>Nat.beq f.offset off&&((match P.info? f.type with
  |some i=>Nat.beq i.size a.size
  |none=>false)&&(j3 P f.type a&&(Nat.blt 0 a.size&&(f.name != "_"&&fieldsB P fs (off+a.size) b))))
 |_,_,_=>false
theorem wI{P:Program}:∀(l:List Field) (off:Nat) (u:Ty),fieldsB P l off u=true→jS P l off u:=by
 intro l
 induction l with
 |nil=>intro off u h;cases u<;>first|trivial|(simp[fieldsB] at h;done)
 |cons f fs ih=>
  intro off u h;cases u<;>simp only[fieldsB] at h<;>first|(cases h;done)|skip
  simp only[Bool.and_eq_true] at h;obtain⟨h1,h2,h3,h4,h5,h6⟩:=h;refine⟨Nat.eq_of_beq_eq_true h1,?_,nL h3,Nat.le_of_ble_eq_true h4,by simpa using h5,ih _ _ h6⟩;split at h2
  ·rename_i i hi;exact⟨i,hi,Nat.eq_of_beq_eq_true h2⟩
  ·cases h2
def qd(P:Program)(t:TypeId)(u:Ty):Bool:=
 lX P t u&&(match u,P.underlying t with
  | .int k,some (.int k')=>decide (k=k')
  | .bool,some .bool=>true
  | .str,some .string=>true
  | .list e v,some (.slice e')=>Nat.beq e e'&&(lX P e v&&j3 P e v)
  | .st fs,some (.struct fields)=>fieldsB P fields.toList 0 fs&& !P.stoodInHeld t
  | .ptr,some (.struct _)=>false
  | .ptr,some (.array _ _)=>false
  | .ptr,some _=>true
  |_,_=>false)
theorem y9{P:Program}{t:TypeId}{u:Ty}(h:qd P t u=true):aY P t u:=by
 unfold qd at h;rw[Bool.and_eq_true] at h;obtain⟨h0,h⟩:=h;refine⟨sj h0,?_⟩;cases hu:P.underlying t with
 |none=>rw[hu] at h;cases u<;>simp at h
 |some d=>
  rw[hu] at h;cases u with
  |int k=>cases d<;>simp only at h<;>first|(cases h;done)|(obtain rfl:=of_decide_eq_true h;rfl)
  |bool=>cases d<;>simp only at h<;>first|(cases h;done)|rfl
  |str=>cases d<;>simp only at h<;>first|(cases h;done)|rfl
  |list e v=>
   cases d<;>simp only at h<;>first|(cases h;done)|skip
   simp only[Bool.and_eq_true] at h;obtain rfl:=Nat.eq_of_beq_eq_true h.1;exact⟨rfl,sj h.2.1,nL h.2.2⟩
  |st fs=>
   cases d<;>simp only at h<;>first|(cases h;done)|skip
   simp only[Bool.and_eq_true,Bool.not_eq_true'] at h;exact⟨_,rfl,wI _ _ _ h.1,h.2⟩
  |ptr=>
   refine⟨d,rfl,fun fs e=> ?_,fun n e he=> ?_⟩
   ·subst e;simp at h
   ·subst he;simp at h
  |nil=>cases d<;>simp at h
  |cons a b=>cases d<;>simp at h
def eO(P:Program):Ty→TypeId→List Field→Nat→Bool
 | .int k,t,_,_=>match P.underlying t with
   |some (.int k')=>decide (k=k')
   |_=>false
 | .bool,t,_,_=>match P.underlying t with
   |some .bool=>true
   |_=>false
 | .str,t,_,_=>match P.underlying t with
   |some .string=>true
   |_=>false
 | .st fs,t,_,_=>match P.underlying t with
   |some (.struct fields)=> !P.stoodInHeld t&&(eO P fs 0 fields.toList 0&&fs.isRow)
   |_=>false
 | .nil,_,l,_=>l.isEmpty
 | .cons a b,_,l,off=>match l with
   |f::r=>Nat.beq f.offset off&&(f.name != "_"&&((match P.info? f.type with
    |some i=>Nat.beq i.size a.size
    |none=>false)&&(j3 P f.type a&&(Nat.blt 0 a.size&&(eO P a f.type [] 0&&(eO P b 0 r (off+a.size)&&(!a.isRow&&b.isRow)))))))
   |[]=>false
 | .list _ _,_,_,_=>false
 | .ptr,_,_,_=>false
theorem wo{P:Program}:∀(u:Ty) (t:TypeId) (l:List Field) (off:Nat),eO P u t l off=true→fU P u t l off:=by
 intro u
 induction u with
 |int k=>intro t l off h;simp only[eO] at h;split at h<;>first|(rename_i hu;rw[show k=_ from of_decide_eq_true h];exact hu)|cases h
 |bool=>intro t l off h;simp only[eO] at h;split at h<;>first|(rename_i hu;exact hu)|cases h
 |str=>intro t l off h;simp only[eO] at h;split at h<;>first|(rename_i hu;exact hu)|cases h
 |list e t _=>intro t l off h;cases h
 |ptr=>intro t l off h;cases h
 |nil=>intro t l off h;simp only[eO] at h;exact List.isEmpty_iff.1 h
 |st fs ih=>
  intro t l off h;simp only[eO] at h;split at h
  ·rename_i hu
   simp only[Bool.and_eq_true,Bool.not_eq_true'] at h;exact⟨_,hu,h.1,ih _ _ _ h.2.1,h.2.2⟩
  ·cases h
 |cons a b iha ihb=>
  intro t l off h;simp only[eO] at h;split at h
  ·simp only[Bool.and_eq_true,Bool.not_eq_true'] at h
   obtain⟨h1,h2,h3,h4,h5,h6,h7,h8,h9⟩:=h;refine⟨_,_,rfl,Nat.eq_of_beq_eq_true h1,by simpa using h2,?_,nL h4,Nat.le_of_ble_eq_true h5,iha _ _ _ h6,ihb _ _ _ h7,h8,h9⟩;split at h3
   ·rename_i i hi;exact⟨i,hi,Nat.eq_of_beq_eq_true h3⟩
   ·cases h3
  ·cases h
def jO:List (Nat×Ty)→Nat→Option Ty
 |[],_=>none
 |x::r,n=>match Nat.beq x.1 n with
  |true=>some x.2
  |false=>jO r n
theorem qh{n:Nat}{u:Ty}:∀{l:List (Nat×Ty)},jO l n=some u→(n,u)∈l
 |[],h=>by cases h
 |x::r,h=>by
  simp only[jO] at h;split at h
  ·rename_i e
   cases h;obtain⟨a,b⟩:=x;have:=Nat.eq_of_beq_eq_true e;simp only at this;subst this;exact List.mem_cons_self ..
  ·exact List.mem_cons_of_mem _ (qh h)
def qc(P:Program)(l:List (Nat×Ty)):Bool:=
 l.all fun x=>qd P x.1 x.2&&(match x.2.isAgg&&x.2.flat with
  |true=>eO P x.2 x.1 [] 0&& !P.eqGuardType P.depth x.1
  |false=>true)
theorem y7{P:Program}{l:List (Nat×Ty)}(h:qc P l=true):∀t u,jO l t=some u→aY P t u:=by
 intro t u hu;have:=List.all_eq_true.1 h _ (qh hu);rw[Bool.and_eq_true] at this;exact y9 this.1
theorem table_eq{P:Program}{l:List (Nat×Ty)}(h:qc P l=true):∀t u,jO l t=some u→u.isAgg=true→u.flat=true→fU P u t [] 0∧P.eqGuardType P.depth t=false:=by
 intro t u hu h1 h2;have:=List.all_eq_true.1 h _ (qh hu);simp only[h1,h2,Bool.and_self,Bool.and_eq_true,Bool.not_eq_true'] at this;exact⟨wo _ _ _ _ this.2.1,this.2.2⟩
end Go.Am
end
section
namespace Go.Am
def Code.l:Code→Code
 | .seq a _=>a
 | .block _ a=>a
 | .loop a=>a
 | .cond _ a _=>a
 |c=>c
def Code.r:Code→Code
 | .seq _ a=>a
 | .cond _ _ a=>a
 |c=>c
def qU(f:Func):Code:=f.body.getD .skip
def oW{R:Type}(id:Nat)(kn:St→Option R)(kx:Nat→St→Option R):Nat→St→Option R:=fun i=>match Nat.beq i id with
 |true=>kn
 |false=>kx i
def oV{R:Type}(C:Ctx)(x:Operand)(F G:St→Option R):St→Option R:=fun st=>match lG C st x with
 |some t=>cond t (F st) (G st)
 |none=>none
section
variable{P:Program}{C:Ctx}{R:Type}
theorem uW:∀(c:Code) (kn:St→Option R) (kx:Nat→St→Option R) (kr:St→Option R),eD P C (fun _=>none) c kn kx kr:=by
 intro c
 induction c with
 |seq a b iha ihb=>intro kn kx kr;exact⟨iha _ _ _,ihb _ _ _⟩
 |cond x a b iha ihb=>intro kn kx kr;exact⟨iha _ _ _,ihb _ _ _⟩
 |block id a iha=>intro kn kx kr;exact iha _ _ _
 |region id ops draw=>intro kn kx kr;cases draw<;>exact trivial
 |_=>intros;exact trivial
theorem aF.exec(hc:bY P C)(c:Code)(kn:St→Option R)(kx:Nat→St→Option R)(kr:St→Option R):aF P C c kn kx kr (exec C (fun _=>none) c kn kx kr):=
 wF hc c kn kx kr (uW c kn kx kr)
theorem aF.seq{c:Code}{kn:St→Option R}{kx:Nat→St→Option R}{kr:St→Option R}{F G:St→Option R}(e:c= .seq (Code.l c) (Code.r c))(hb:aF P C (Code.r c) kn kx kr G)(ha:aF P C (Code.l c) G kx kr F):
 aF P C c kn kx kr F:=by
 intro r Q E0 E st act h hi hn hx hr;rw[e];exact wp_seq (ha r _ E0 E st act h hi (fun st' E' a' hk hi'=>hb r Q E0 E' st' a' hk hi' hn hx hr) (fun i st E a hk hi'=>hx i st E a hk hi') (fun st E a hk hi'=>hr st E a hk hi'))
theorem aF.block{c:Code}{id:Nat}{kn:St→Option R}{kx:Nat→St→Option R}{kr:St→Option R}{F:St→Option R}(e:c= .block id (Code.l c))(ha:aF P C (Code.l c) kn (oW id kn kx) kr F):aF P C c kn kx kr F:=by
 intro r Q E0 E st act h hi hn hx hr;rw[e];refine wp_block (ha r _ E0 E st act h hi (fun st' E' a' hk hi'=>hn st' E' a' hk hi') (fun i st' E' a' hk hi'=> ?_) (fun st' E' a' hk hi'=>hr st' E' a' hk hi'));show Exit.inBlock id Q (.exit i) a' E'.w;simp only[Exit.inBlock];unfold oW at hk;cases e:Nat.beq i id with
 |true=>
  simp only[e] at hk;rw[if_pos (Nat.eq_of_beq_eq_true e)];exact hn st' E' a' hk hi'
 |false=>
  simp only[e] at hk;rw[if_neg (fun e'=>by rw[e'] at e;simp at e)];exact hx i st' E' a' hk hi'
theorem aF.cond{c:Code}{x:Operand}{kn:St→Option R}{kx:Nat→St→Option R}{kr:St→Option R}{F G:St→Option R}(e:c= .cond x (Code.l c) (Code.r c))(ha:aF P C (Code.l c) kn kx kr F)(hb:aF P C (Code.r c) kn kx kr G):
 aF P C c kn kx kr (oV C x F G):=by
 intro r Q E0 E st act h hi hn hx hr;rw[e];unfold oV lG at h;split at h
 ·rename_i t ht
  refine wp_cond (kg ht hi.rep) ?_;cases t with
  |true=>exact ha r Q E0 E st act h hi hn hx hr
  |false=>exact hb r Q E0 E st act h hi hn hx hr
 ·cases h
theorem aF.loop'{c:Code}{kn:St→Option R}{kx:Nat→St→Option R}{kr:St→Option R}(e:c= .loop (Code.l c))(s:SS)(J:Nat→s.Den→Option R)(F:Nat→St→Option R)
 (h0:∀x,J 0 x=none) (h:∀n,aF P C (Code.l c) (Cut.go ⟨s,J n⟩) kx kr (F n)) (hF:∀n x,F n (s.st x)=J (n+1) x) (n:Nat):aF P C c kn kx kr (Cut.go ⟨s,J n⟩):=by
 rw[e];exact aF.loop s J F h0 h hF n
theorem aF.draw'(hc:bY P C){c:Code}{id:Nat}{ops:Array Oper}{kn:St→Option R}{kx:Nat→St→Option R}{kr:St→Option R}(e:c= .region id ops true)(k:Cut R)(orders:List (List Nat))
 (hok:(Region.noSelect ops&&dY C ops ops.size (Array.replicate ops.size false) orders)=true) (h:∀ord,ord∈orders→∀x,runK C ops ord (k.s.st x) kn=k.J x):aF P C c kn kx kr k.go:=by
 rw[e];exact aF.draw hc k orders hok h
end
end Go.Am
end
section
namespace Go.Am
theorem zh{P:Program}{f:FuncId}{c:cz}(h:∀x,c.F x=none):fV P f c:=by
 intro E args x y hsz hF hr;rw[h x] at hF;cases hF
def Code.ops:Code→Array Oper
 | .region _ ops _=>ops
 |_=> #[]
theorem aF.fork{P:Program}{C:Ctx}{R:Type}(hc:bY P C){c:Code}{id:Nat}{kn:St→Option R}{kx:Nat→St→Option R}{kr:St→Option R}(e:c= .region id (Code.ops c) true)(k:Cut R)(orders:List (List Nat))
 (hok:(Region.noSelect (Code.ops c)&&dY C (Code.ops c) (Code.ops c).size (Array.replicate (Code.ops c).size false) orders)=true)
 (h:∀ord,ord∈orders→∀x,runK C (Code.ops c) ord (k.s.st x) kn=k.J x):aF P C c kn kx kr k.go:=
 aF.draw' hc e k orders hok h
theorem yg{P:List Nat→Prop}:∀ord,ord∈([]:List (List Nat))→P ord:=fun _ h=>(List.not_mem_nil h).elim
theorem yf{P:List Nat→Prop}{o:List Nat}{l:List (List Nat)}(h:P o)(t:∀ord,ord∈l→P ord):∀ord,ord∈o::l→P ord:=by
 intro ord ho;rcases List.mem_cons.1 ho with rfl|ho
 ·exact h
 ·exact t ord ho
structure Fc(P:Program) where
 f:Nat
 c:cz
 ok:fV P f c
def j5{P:Program}:List (Fc P)→Nat→List cz
 |[],_=>[]
 |x::r,n=>match Nat.beq x.f n with
  |true=>x.c::j5 r n
  |false=>j5 r n
theorem nY{P:Program}{n:Nat}{c:cz}:∀{l:List (Fc P)},c∈j5 l n→fV P n c
 |[],h=>by cases h
 |x::r,h=>by
  simp only[j5] at h;split at h
  ·rename_i e
   rcases List.mem_cons.1 h with rfl|h
   ·rw[←Nat.eq_of_beq_eq_true e];exact x.ok
   ·exact nY h
  ·exact nY h
theorem zk{P:Program}{tys:List (Nat×Ty)}(ht:qc P tys=true)(hm:P.follows .mixedOrders=true)(l:List (Fc P))(N:Nat)(br:Nat→Bool):
 bY P ⟨jO tys,j5 l,N,br⟩ where
 tt:=y7 ht
 phi:=fun g c hc=>nY hc
 mixed:=hm
 eq:=table_eq ht
def Code.nP:Code→Nat
 | .block i _=>i
 | .region i _ _=>i
 |_=>0
def Code.test:Code→Operand
 | .cond x _ _=>x
 |_=> .tmp 0
namespace W
variable{P:Program}{C:Ctx}{R:Type}{c:Code}{kn:St→Option R}{kx:Nat→St→Option R}{kr:St→Option R}{F G:St→Option R}
theorem X(hc:bY P C):aF P C c kn kx kr (exec C (fun _=>none) c kn kx kr):=aF.exec hc c kn kx kr
theorem Q(hb:aF P C (Code.r c) kn kx kr G)(ha:aF P C (Code.l c) G kx kr F)(e:c= .seq (Code.l c) (Code.r c):=by kernel_rfl):aF P C c kn kx kr F:=aF.seq e hb ha
theorem B(ha:aF P C (Code.l c) kn (oW (Code.nP c) kn kx) kr F)(e:c= .block (Code.nP c) (Code.l c):=by kernel_rfl):aF P C c kn kx kr F:=aF.block e ha
theorem D(ha:aF P C (Code.l c) kn kx kr F)(hb:aF P C (Code.r c) kn kx kr G)(e:c= .cond (Code.test c) (Code.l c) (Code.r c):=by kernel_rfl):aF P C c kn kx kr (oV C (Code.test c) F G):=aF.cond e ha hb
theorem T(h:aF P C c kn kx kr F)(s:SS)(J:s.Den→Option R)(hk:∀x,F (s.st x)=J x:=by intro x;kernel_rfl):aF P C c kn kx kr (Cut.go ⟨s,J⟩):=aF.cut h ⟨s,J⟩ hk
theorem L(s:SS)(J:Nat→s.Den→Option R)(n:Nat){F:Nat→St→Option R}(h:∀n,aF P C (Code.l c) (Cut.go ⟨s,J n⟩) kx kr (F n))
 (hF:∀n x,F n (s.st x)=J (n+1) x:=by intro n x;kernel_rfl) (h0:∀x,J 0 x=none:=by intro x;rfl) (e:c= .loop (Code.l c):=by kernel_rfl):aF P C c kn kx kr (Cut.go ⟨s,J n⟩):=aF.loop' e s J F h0 h hF n
theorem K(hc:bY P C)(s:SS)(J:s.Den→Option R)(orders:List (List Nat))
 (h:∀ord,ord∈orders→∀x,runK C (Code.ops c) ord (s.st x) kn=J x) (e:c= .region (Code.nP c) (Code.ops c) true:=by kernel_rfl)
 (hok:(Region.noSelect (Code.ops c)&&dY C (Code.ops c) (Code.ops c).size (Array.replicate (Code.ops c).size false) orders)=true:=by kernel_rfl):aF P C c kn kx kr (Cut.go ⟨s,J⟩):=aF.fork hc e ⟨s,J⟩ orders hok h
theorem N{P:List Nat→Prop}:∀ord,ord∈([]:List (List Nat))→P ord:=yg
theorem O{P:List Nat→Prop}{o:List Nat}{l:List (List Nat)}(h:P o)(t:∀ord,ord∈l→P ord):∀ord,ord∈o::l→P ord:=yf h t
theorem ok(hc:bY P C){f:FuncId}(fn:Func){c:cz}{G:c.aZ.Den→St→Option c.au.Den}(hS:bY P C→∀x,aF P C (qU fn) (jJ C c.au fn.results.toList) (fun _ _=>none) (jJ C c.au fn.results.toList) (G x))
 (hF:∀x,G x (c.aZ.st x)=c.F x:=by intro x;kernel_rfl) (hf:P.funcs[f]?=some fn:=by kernel_rfl) (hb:fn.body=some (qU fn):=by kernel_rfl) (hn:fn.name≠ "runtime.NumGoroutine":=by decide)
 (hN:C.N=fn.ntmps:=by kernel_rfl) (hnr:c.fK=fn.results.toList.length:=by kernel_rfl) (hna:c.nargs.ble fn.ntmps=true:=by kernel_rfl):fV P f c:=
 wM hc hf hb hn hN rfl hnr (Nat.le_of_ble_eq_true hna) G (hS hc) hF
end W
end Go.Am
end
