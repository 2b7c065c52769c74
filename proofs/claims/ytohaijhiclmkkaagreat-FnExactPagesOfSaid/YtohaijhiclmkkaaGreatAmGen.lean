/- an abstract machine over the model: what it holds, how it steps, and that its steps are sound -/
import Derived.Test.YtohaijhiclmkkaaGreatAmOps12
import Derived.Laws.StructEq
import Derived.KernelRfl
set_option linter.unnecessarySimpa false
set_option linter.unusedSimpArgs false
set_option linter.unusedVariables false
set_option linter.unusedSectionVars false
section
set_option linter.unusedVariables false
set_option linter.unusedSimpArgs false
namespace Go.Am
def Ty.isRow:Ty→Bool
 | .nil=>true
 | .cons _ _=>true
 |_=>false
def EqT (P:Program):Ty→TypeId→List Field→Nat→Prop
 | .int k,t,_,_=>P.underlying t=some (.int k)
 | .bool,t,_,_=>P.underlying t=some .bool
 | .str,t,_,_=>P.underlying t=some .string
 | .st fs,t,_,_=>∃fields,P.underlying t=some (.struct fields)∧P.stoodInHeld t=false∧EqT P fs 0 fields.toList 0∧fs.isRow=true
 | .nil,_,l,_=>l=[]
 | .cons a b,_,l,off=>∃f r,l=f::r∧f.offset=off∧f.name≠ "_"∧(∃i,P.info? f.type=some i∧i.size=a.size)∧aggOk P f.type a∧0<a.size∧EqT P a f.type [] 0∧EqT P b 0 r (off+a.size)∧a.isRow=false∧b.isRow=true
 | .list _ _,_,_,_=>False
 | .ptr,_,_,_=>False
section
variable {P:Program} {w:World}
theorem run_part {t:TypeId} {a:Ty} {xs:Array Value} {pre cs post:List Value} {v:Value} (hag:aggOk P t a) (hi:∃i,P.info? t=some i∧i.size=a.size) (h0:0<a.size)
 (hx:xs.toList=pre++(cs++post)) (hl:cs.length=a.size) (hm:mkV a.isAgg cs v) (u:World):(part t xs pre.length).run P u= .ok v u:=by
 obtain ⟨i,h1,h2⟩:=hi
 unfold part
 rw [Sem.run_bind,run_isAgg hag]
 simp only [Result.andThen_ok]
 cases ha:a.isAgg with
 |true=>
  rw [ha] at hm
  have hm:v= .agg cs.toArray:=hm
  simp only [if_true]
  simp only [sizeOf,typeInfo,Sem.run_bind,run_program,Result.andThen_ok,h1,Sem.run_pure,h2]
  simp only [hm]
  have:xs.extract pre.length (pre.length+a.size)=cs.toArray:=by
   apply Array.ext'
   rw [Array.toList_extract,hx]
   simp [List.extract,hl]
  simp [this]
 |false=>
  rw [ha] at hm
  have hm:cs=[v]:=hm
  subst hm
  simp only [Bool.false_eq_true,if_false]
  have:xs[pre.length]?=some v:=by
   rw [←Array.getElem?_toList,hx]
   simp
  rw [this]
  rfl
theorem equalIn_sound {S:Nat→Prop} (w:World):∀(u:Ty),
 (u.isRow=false→∀(d:Nat) (t:TypeId) (x y:u.Den) (cs ds:List Value) (r:Bool) (v v':Value),u.ht≤d→EqT P u t [] 0→Rd w S u x cs→Rd w S u y ds→eqD u x y=some r→mkV u.isAgg cs v→mkV u.isAgg ds v'→
  (Op.equalIn d t v v').run P w= .ok r w)∧
 (u.isRow=true→∀(d:Nat) (l:List Field) (off:Nat) (x y:u.Den) (xs ys:Array Value) (pre pre' cs ds:List Value) (r:Bool),u.ht≤d→EqT P u 0 l off→Rd w S u x cs→Rd w S u y ds→eqD u x y=some r→
  xs.toList=pre++cs→ys.toList=pre'++ds→pre.length=off→pre'.length=off→(Op.eqFields d xs ys l).run P w= .ok r w):=by
 intro u
 induction u with
 |int k=>
  refine ⟨fun _ d t x y cs ds r v v' hd he h1 h2 hr m1 m2=> ?_,by simp [Ty.isRow]⟩
  have h1:cs=[.int k x]:=h1
  have h2:ds=[.int k y]:=h2
  have m1:cs=[v]:=m1
  have m2:ds=[v']:=m2
  rw [h1] at m1;rw [h2] at m2
  simp only [List.cons.injEq,and_true] at m1 m2
  subst m1 m2
  obtain ⟨d,rfl⟩:∃e,d=e+1:=⟨d-1,by have:(1:Nat)≤d:=hd;omega⟩
  simp only [eqD,Option.some.injEq] at hr
  subst hr
  exact run_equalIn_int w d t k k x y he
 |bool=>
  refine ⟨fun _ d t x y cs ds r v v' hd he h1 h2 hr m1 m2=> ?_,by simp [Ty.isRow]⟩
  have h1:cs=[.bool x]:=h1
  have h2:ds=[.bool y]:=h2
  have m1:cs=[v]:=m1
  have m2:ds=[v']:=m2
  rw [h1] at m1;rw [h2] at m2
  simp only [List.cons.injEq,and_true] at m1 m2
  subst m1 m2
  obtain ⟨d,rfl⟩:∃e,d=e+1:=⟨d-1,by have:(1:Nat)≤d:=hd;omega⟩
  simp only [eqD,Option.some.injEq] at hr
  subst hr
  exact Go.run_equalIn_bool w d t x y he
 |str=>
  refine ⟨fun _ d t x y cs ds r v v' hd he h1 h2 hr m1 m2=> ?_,by simp [Ty.isRow]⟩
  have h1:cs=[.string x]:=h1
  have h2:ds=[.string y]:=h2
  have m1:cs=[v]:=m1
  have m2:ds=[v']:=m2
  rw [h1] at m1;rw [h2] at m2
  simp only [List.cons.injEq,and_true] at m1 m2
  subst m1 m2
  obtain ⟨d,rfl⟩:∃e,d=e+1:=⟨d-1,by have:(1:Nat)≤d:=hd;omega⟩
  simp only [eqD,Option.some.injEq] at hr
  subst hr
  exact run_equalIn_string w d t x y he
 |list e t _=>exact ⟨fun _ d t x y cs ds r v v' hd he=>he.elim,by simp [Ty.isRow]⟩
 |ptr=>exact ⟨fun _ d t x y cs ds r v v' hd he=>he.elim,by simp [Ty.isRow]⟩
 |nil=>
  refine ⟨by simp [Ty.isRow],fun _ d l off x y xs ys pre pre' cs ds r hd he h1 h2 hr _ _ _ _=> ?_⟩
  have he:l=[]:=he
  subst he
  simp only [eqD,Option.some.injEq] at hr
  subst hr
  rfl
 |st fs ih=>
  refine ⟨fun _ d t x y cs ds r v v' hd he h1 h2 hr m1 m2=> ?_,by simp [Ty.isRow]⟩
  obtain ⟨fields,he1,he2,he3,hrow⟩:=he
  have m1:v= .agg cs.toArray:=m1
  have m2:v'= .agg ds.toArray:=m2
  subst m1 m2
  obtain ⟨d,rfl⟩:∃e,d=e+1:=⟨d-1,by have:fs.ht+1≤d:=hd;omega⟩
  have hf:P.fieldsOf t=fields:=by unfold Program.fieldsOf;rw [he1]
  rw [run_equalIn_agg w d t _ _ (by rw [hf];exact he1) he2,hf]
  exact ih.2 hrow d fields.toList 0 x y _ _ [] [] cs ds r (by have:fs.ht+1≤d+1:=hd;omega) he3 h1 h2 hr (by simp) (by simp) rfl rfl
 |cons a b iha ihb=>
  refine ⟨by simp [Ty.isRow],fun _ d l off x y xs ys pre pre' cs ds r hd he h1 h2 hr q1 q2 q3 q4=> ?_⟩
  obtain ⟨f,l',rfl,e1,e2,e3,e4,e5,e6,e7,hnr1,hbr⟩:=he
  obtain ⟨c1,c2,rfl,h11,h12⟩:=h1
  obtain ⟨d1,d2,rfl,h21,h22⟩:=h2
  simp only [eqD] at hr
  split at hr
  ·rename_i p q hp hq
   simp only [Option.some.injEq] at hr
   subst hr
   have l1:=Rd_length _ _ _ h11
   have l2:=Rd_length _ _ _ h21
   have hmk:∀(cs:List Value),cs.length=a.size→a.isRow=false→(a.isAgg=false→a.size=1)→∃v,mkV a.isAgg cs v:=by
    intro cs hl _ h1
    cases ha:a.isAgg with
    |true=>exact ⟨_,rfl⟩
    |false=>
     rw [h1 ha] at hl
     match cs,hl with
     |[v],_=>exact ⟨v,rfl⟩
   have hnr:a.isRow=false∧(a.isAgg=false→a.size=1):=by
    refine ⟨hnr1,fun h=> ?_⟩
    cases a<;>first|rfl|(simp [Ty.isAgg] at h;done)|(simp [Ty.isRow] at hnr1;done)
   obtain ⟨v,m1⟩:=hmk c1 l1 hnr.1 hnr.2
   obtain ⟨v',m2⟩:=hmk d1 l2 hnr.1 hnr.2
   have hpart1:=run_part (P:=P) (xs:=xs) (pre:=pre) (post:=c2) e4 e3 e5 (by rw [q1]) l1 m1 w
   have hpart2:=run_part (P:=P) (xs:=ys) (pre:=pre') (post:=d2) e4 e3 e5 (by rw [q2]) l2 m2 w
   have hd1:a.ht≤d:=Nat.le_trans (Nat.le_max_left _ _) hd
   have hd2:b.ht≤d:=Nat.le_trans (Nat.le_max_right _ _) hd
   have heq:=iha.1 hnr.1 d f.type x.1 y.1 c1 d1 p v v' hd1 e6 h11 h21 hp m1 m2
   have hrest:=ihb.2 hbr d l' (off+a.size) x.2 y.2 xs ys (pre++c1) (pre'++d1) c2 d2 q hd2 e7 h12 h22 hq (by rw [q1];simp) (by rw [q2];simp) (by rw [List.length_append,q3,l1]) (by rw [List.length_append,q4,l2])
   simp only [Op.eqFields,e2,ne_eq,not_false_eq_true,if_true,Sem.run_bind]
   rw [e1,←q3,hpart1]
   simp only [Result.andThen_ok]
   rw [q3,←q4,hpart2]
   simp only [Result.andThen_ok,heq]
   cases p with
   |true=>simp only [Bool.not_true,Bool.false_eq_true,if_false,Bool.true_and];exact hrest
   |false=>simp
  ·cases hr
end
section
variable {P:Program} {R:Type} {C:Ctx} {o:Oper} {st:St} {k:St→Option R} {r:R} {E0 E:Env} {a:Act} {K:Act→World→Prop} {Q:Exit→Act→World→Prop} {g:Bool}
theorem eqK_sound (heq:∀t u,C.tt t=some u→u.isAgg=true→u.flat=true→EqT P u t [] 0∧P.eqGuardType P.depth t=false) {op:BinOp} {t yt:TypeId} {X Y:Operand} {c d:Cn} {x y:DV} (ho:o.op= .binOp op t X Y yt)
 (hx:flatDV c=some x) (hy:flatDV d=some y) (hk:eqK C o op t x y st k=some r) (h:Inv C.N E0 E st a) (hX:VRep E st.ob st.nx c (a.eval X)) (hY:VRep E st.ob st.nx d (a.eval Y))
 (hK:∀st' E' v,k st'=some r→Inv C.N E0 E' st' (a.put o.dst v)→Pur P C g o a v E.w E'.w→K (a.put o.dst v) E'.w):o.wp P a E.w K Q:=by
 have hnd:∀{c:Cn} {x:DV},flatDV c=some x→c≠ .dead:=by intro c x h e;subst e;cases h
 obtain ⟨cs,h1,m1⟩:=VRep_one hX (hnd hx)
 obtain ⟨ds,h2,m2⟩:=VRep_one hY (hnd hy)
 obtain ⟨r1,_,g1⟩:=flatDV_sound c x cs hx h1
 obtain ⟨r2,_,g2⟩:=flatDV_sound d y ds hy h2
 unfold eqK at hk
 split at hk
 ·rename_i hchk
  simp only [Bool.and_eq_true] at hchk
  obtain ⟨c1,c2,c3,c4⟩:=hchk
  split at hk
  ·rename_i b hb
   have hb:=castDV_eq hb
   subst hb
   split at hk
   ·rename_i q hq
    have hT:C.tt t=some x.ty:=by
     split at c1
     ·rename_i u hu;rw [hu,of_decide_eq_true c1]
     ·cases c1
    obtain ⟨e1,e2⟩:=heq _ _ hT c2 c3
    rw [←g1,c2] at m1
    rw [←g2] at m2
    have m2:mkV x.ty.isAgg ds (a.eval Y):=m2
    rw [c2] at m2
    have m1':a.eval X= .agg cs.toArray:=m1
    have m2':a.eval Y= .agg ds.toArray:=m2
    have hrow:x.ty.isRow=false:=by
     generalize x.ty=u at c2
     cases u<;>first|rfl|cases c2
    have hrun:∀u,(Op.equalIn 10000 t (.agg cs.toArray) (.agg ds.toArray)).run P u= .ok q u:=fun u=>
     (equalIn_sound (S:=fun _=>False) u x.ty).1 hrow 10000 t x.v b cs ds q _ _ (Nat.le_trans (Nat.le_of_ble_eq_true c4) (by omega)) e1 (Rd_flat _ c3 _ _ r1) (Rd_flat _ c3 _ _ r2) hq (by rw [c2];rfl) (by rw [c2];rfl)
    split at hk
    ·exact quiet_sound hk h (fun u _=>by unfold execOp;simp [ho,m1',m2',run_eqGuard_agg u _ t X Y _ _ e2,run_eql_struct,hrun]) (VRep_bool ..) hK
    ·exact quiet_sound hk h (fun u _=>by unfold execOp;simp [ho,m1',m2',run_eqGuard_agg u _ t X Y _ _ e2,run_neq_struct,hrun]) (VRep_bool ..) hK
    ·cases hk
   ·cases hk
  ·cases hk
 ·cases hk
end
end Go.Am
end
section
set_option linter.unusedVariables false
set_option linter.unusedSimpArgs false
namespace Go.Am
structure Ext (E:Env) (m:Mt) (E':Env) (m':Mt):Prop where
 w:E'.w=E.w
 Z:E'.Z=E.Z
 B:E'.B=E.B
 rho:∀i,i<m.nx→E'.rho i=E.rho i
 nx:m.nx≤m'.nx
 ob:∀i,i<m.nx→m'.ob i=m.ob i
 sig:∀j i,sigAt m.sig j=some i→sigAt m'.sig j=some i
 fz:∀i,i∈m.fz→i∈m'.fz
theorem Ext.refl (E:Env) (m:Mt):Ext E m E m:=⟨rfl,rfl,rfl,fun _ _=>rfl,Nat.le_refl _,fun _ _=>rfl,fun _ _ h=>h,fun _ h=>h⟩
theorem Ext.trans {E E1 E2:Env} {m m1 m2:Mt} (h:Ext E m E1 m1) (k:Ext E1 m1 E2 m2):Ext E m E2 m2:=
 ⟨k.w.trans h.w,k.Z.trans h.Z,k.B.trans h.B,fun i hi=>(k.rho i (Nat.lt_of_lt_of_le hi h.nx)).trans (h.rho i hi),Nat.le_trans h.nx k.nx,
  fun i hi=>(k.ob i (Nat.lt_of_lt_of_le hi h.nx)).trans (h.ob i hi),fun j i e=>k.sig j i (h.sig j i e),fun i e=>k.fz i (h.fz i e)⟩
theorem Ext.ev {E E':Env} {m m':Mt} (h:Ext E m E' m'):Ev E m.ob m.nx E' m'.ob m'.nx where
 le:=h.nx
 rho:=h.rho
 z:=fun b hb=>by rw [h.Z];exact hb
 hz:=fun b _=>by rw [h.w]
 lay:=fun i hi u hu=>by rw [h.ob i hi] at hu;exact hu
 bx:=fun i hi hu=>by rw [h.ob i hi] at hu;exact hu
 obs:=fun i hi fz v e t xs ho=>⟨fz,v,xs,by rw [h.ob i hi] at ho;exact ho,rfl,Nat.le_refl _,fun _=>⟨rfl,fun b hb=>⟨by rw [h.w],by rw [h.B,h.Z];exact hb⟩⟩⟩
structure Vw (E:Env) (m:Mt) (F:Env) (nx:Nat):Prop where
 w:F.w=E.w
 z:∀b,E.Z b→F.Z b
 fz:∀i,i∈m.fz→∀b,b∈E.B i→F.Z b
 rho:∀j i,sigAt m.sig j=some i→j<nx∧F.rho j=E.rho i
 lt:∀j i,sigAt m.sig j=some i→i<m.nx
theorem Vw.back {E E':Env} {m m':Mt} {F:Env} {nx:Nat} (h:Ext E m E' m') (v:Vw E' m' F nx) (hl:∀j i,sigAt m.sig j=some i→i<m.nx):Vw E m F nx where
 w:=v.w.trans h.w
 z:=fun b hb=>v.z b (by rw [h.Z];exact hb)
 fz:=fun i hi b hb=>v.fz i (h.fz i hi) b (by rw [h.B];exact hb)
 rho:=fun j i e=>⟨(v.rho j i (h.sig j i e)).1,((v.rho j i (h.sig j i e)).2).trans (h.rho i (hl j i e))⟩
 lt:=hl
def SigLt (m:Mt):Prop:=∀j i,sigAt m.sig j=some i→i<m.nx
theorem Rd_view {E F:Env} {m:Mt} {nx:Nat} (v:Vw E m F nx) {S:Nat→Prop} (hS:∀b,S b→F.Z b) (t:Ty) (x:t.Den) (cs:List Value) (h:Rd E.w S t x cs):Rd F.w F.Z t x cs:=
 Rd_mono hS (fun b _=>by rw [v.w]) t x cs h
theorem toDV_sound {tmp:Bool} {E:Env} {nx0:Nat}:∀(c:Cn) (m m':Mt) (d:DV) (cs:List Value),toDV tmp m c=some (d,m')→(∀i,ObOk E m.ob nx0 i (m.ob i))→
 CRep E m.ob nx0 c false cs→m'.sig=m.sig∧m'.ob=m.ob∧m'.nx=m.nx∧(∀i,i∈m.fz→i∈m'.fz)∧d.ty.isAgg=c.isAgg∧
 ∀F:Env,F.w=E.w→(∀b,E.Z b→F.Z b)→(∀i,i∈m'.fz→∀b,b∈E.B i→F.Z b)→Rd F.w F.Z d.ty d.v cs:=by
 intro c
 induction c with
 |ro b d0=>
  intro m m' d cs h hob hc
  cases b with
  |none=>
   simp only [toDV,Option.some.injEq,Prod.mk.injEq] at h
   obtain ⟨rfl,rfl⟩:=h
   exact ⟨rfl,rfl,rfl,fun _ h=>h,rfl,fun F hw hz hf=>Rd_mono hz (fun b _=>by rw [hw]) _ _ _ (hc.2.2 trivial)⟩
  |some p=>
   obtain ⟨i,ver⟩:=p
   simp only [toDV] at h
   split at h
   ·rename_i fz v e t xs hi
    split at h
    ·rename_i hv
     cases h
     have hv:=Nat.eq_of_beq_eq_true hv
     subst hv
     refine ⟨rfl,rfl,rfl,fun _ h=>List.mem_cons_of_mem _ h,rfl,fun F hw hz hf=> ?_⟩
     refine Rd_mono (fun b hb=> ?_) (fun b _=>by rw [hw]) _ _ _ (hc.2.2 (by simp only [live,fresh,hi]))
     rcases hb with hb|hb
     ·exact hf i (List.mem_cons_self ..) b hb
     ·exact hz b hb
    ·cases h
   ·cases h
 |nils e t=>
  intro m m' d cs h hob hc
  simp only [toDV,Option.some.injEq,Prod.mk.injEq] at h
  obtain ⟨rfl,rfl⟩:=h
  have hc:cs=[.slice none 0 0]:=hc
  refine ⟨rfl,rfl,rfl,fun _ h=>h,rfl,fun F hw hz hf=> ?_⟩
  exact ⟨none,0,0,[],hc,rfl,Nat.le_refl _,rfl,by simp,by intro j u hu;simp at hu,by omega,fun _=>rfl⟩
 |h i=>
  intro m m' d cs h hob hc
  simp only [toDV] at h
  have ho:=hob i
  split at h
  ·rename_i fz v e t xs hi
   rw [hi] at ho
   have hcs:cs=[E.rho i]:=hc.2.2
   subst hcs
   cases fz with
   |own=>
    cases h
    refine ⟨rfl,rfl,rfl,fun _ h=>List.mem_cons_of_mem _ h,rfl,fun F hw hz hf=> ?_⟩
    exact Rd_mono (fun b hb=>hf i (List.mem_cons_self ..) b hb) (fun b _=>by rw [hw]) _ _ _ (Ow_Rd _ _ _ _ ho)
   |frz=>
    cases h
    refine ⟨rfl,rfl,rfl,fun _ h=>List.mem_cons_of_mem _ h,rfl,fun F hw hz hf=> ?_⟩
    exact Rd_mono (fun b hb=>hz b hb) (fun b _=>by rw [hw]) _ _ _ ho.1
   |shl=>
    cases h
    refine ⟨rfl,rfl,rfl,fun _ h=>List.mem_cons_of_mem _ h,rfl,fun F hw hz hf=> ?_⟩
    exact Rd_mono (fun b hb=>hb.elim (fun hb=>hf i (List.mem_cons_self ..) b hb) (hz b)) (fun b _=>by rw [hw]) _ _ _ (ShOk_Rd ho)
   |hole _ _ _=>cases h
  ·cases h
 |sub i ix path ver d0=>
  intro m m' d cs h hob hc
  simp only [toDV] at h
  split at h
  ·rename_i fz v e t xs hi
   split at h
   ·rename_i hv
    cases h
    have hv:=Nat.eq_of_beq_eq_true hv
    obtain ⟨_,_,_,_,h5⟩:=hc
    rw [hi] at h5
    have h6:=(h5 hv).1
    refine ⟨rfl,rfl,rfl,fun _ h=>List.mem_cons_of_mem _ h,rfl,fun F hw hz hf=> ?_⟩
    refine Rd_mono (fun b hb=> ?_) (fun b _=>by rw [hw]) _ _ _ h6
    rcases hb with hb|hb
    ·exact hf i (List.mem_cons_self ..) b hb
    ·exact hz b hb
   ·cases h
  ·cases h
 |nil=>
  intro m m' d cs h hob hc
  simp only [toDV,Option.some.injEq,Prod.mk.injEq] at h
  obtain ⟨rfl,rfl⟩:=h
  exact ⟨rfl,rfl,rfl,fun _ h=>h,rfl,fun F hw hz hf=>hc⟩
 |cons a b iha ihb=>
  intro m m' d cs h hob hc
  simp only [toDV] at h
  split at h
  ·rename_i x m1 h1
   split at h
   ·rename_i y m2 h2
    cases h
    obtain ⟨ca,cb,rfl,hca,hcb⟩:=hc
    obtain ⟨s1,o1,n1,f1,g1,k1⟩:=iha _ _ _ _ h1 hob hca
    obtain ⟨s2,o2,n2,f2,g2,k2⟩:=ihb _ _ _ _ h2 (by rw [o1];exact hob) (by rw [o1];exact hcb)
    exact ⟨s2.trans s1,o2.trans o1,n2.trans n1,fun i h=>f2 i (f1 i h),rfl,fun F hw hz hf=>⟨ca,cb,rfl,k1 F hw hz (fun i hi=>hf i (f2 i hi)),k2 F hw hz hf⟩⟩
   ·cases h
  ·cases h
 |agg a ih=>
  intro m m' d cs h hob hc
  simp only [toDV] at h
  split at h
  ·rename_i x m1 h1
   cases h
   obtain ⟨s1,o1,n1,f1,g1,k1⟩:=ih _ _ _ _ h1 hob hc
   exact ⟨s1,o1,n1,f1,rfl,fun F hw hz hf=>k1 F hw hz hf⟩
  ·cases h
 |p i=>intro m m' d cs h hob hc;simp [toDV] at h
 |addr _ _ _ _ _ _=>intro m m' d cs h hob hc;simp [toDV] at h
 |rdp b d0=>intro m m' d cs h hob hc;simp [toDV] at h
 |fn f c _=>intro m m' d cs h hob hc;simp [toDV] at h
 |tup c _=>intro m m' d cs h hob hc;simp [toDV] at h
 |cst v=>intro m m' d cs h hob hc;simp [toDV] at h
 |any=>intro m m' d cs h hob hc;simp [toDV] at h
 |dead=>intro m m' d cs h hob hc;simp [toDV] at h
theorem Ext.same {E:Env} {m m':Mt} (s:m'.sig=m.sig) (o:m'.ob=m.ob) (n:m'.nx=m.nx) (f:∀i,i∈m.fz→i∈m'.fz):Ext E m E m':=
 ⟨rfl,rfl,rfl,fun _ _=>rfl,by rw [n];exact Nat.le_refl _,fun i _=>by rw [o],fun j i h=>by rw [s];exact h,f⟩
structure MOk (E:Env) (m:Mt) (tm:Array Value):Prop where
 rep:Rep E ⟨fun _=> .dead,m.ob,m.nx⟩ tm
 lt:SigLt m
theorem MOk.ob {E:Env} {m:Mt} {tm:Array Value} (h:MOk E m tm) (i:Nat):ObOk E m.ob m.nx i (m.ob i):=h.rep.ob i
theorem MOk.same {E:Env} {m m':Mt} {tm:Array Value} (h:MOk E m tm) (s:m'.sig=m.sig) (o:m'.ob=m.ob) (n:m'.nx=m.nx):MOk E m' tm:=
 ⟨by rw [o,n];exact h.rep,fun j i e=>by rw [n];rw [s] at e;exact h.lt j i e⟩
theorem sigAt_cons {j i k:Nat} {s:List (Nat×Nat)}:sigAt ((j,i)::s) k=if j=k then some i else sigAt s k:=by
 simp only [sigAt]
 by_cases e:j=k
 ·subst e;simp
 ·have:Nat.beq j k=false:=by
   cases h:Nat.beq j k with
   |false=>rfl
   |true=>exact absurd (Nat.eq_of_beq_eq_true h) e
  simp [this,e]
theorem put_sound {E:Env} {m m':Mt} {tm:Array Value} {j i:Nat} (h:m.put j i=some m') (ok:MOk E m tm) (hi:i<m.nx):
 Ext E m E m'∧MOk E m' tm∧sigAt m'.sig j=some i:=by
 unfold Mt.put at h
 split at h
 ·rename_i i' hs
  split at h
  ·rename_i hb
   obtain rfl:=Nat.eq_of_beq_eq_true hb
   cases h
   exact ⟨Ext.refl _ _,ok,hs⟩
  ·cases h
 ·rename_i hs
  cases h
  refine ⟨⟨rfl,rfl,rfl,fun _ _=>rfl,Nat.le_refl _,fun _ _=>rfl,fun k l e=> ?_,fun _ h=>h⟩,⟨ok.rep,fun k l e=> ?_⟩,?_⟩
  ·show sigAt ((j,i)::m.sig) k=some l
   rw [sigAt_cons]
   split
   ·rename_i e';subst e';rw [hs] at e;cases e
   ·exact e
  ·have e:sigAt ((j,i)::m.sig) k=some l:=e
   rw [sigAt_cons] at e
   split at e
   ·cases e;exact hi
   ·exact ok.lt k l e
  ·show sigAt ((j,i)::m.sig) j=some i
   rw [sigAt_cons,if_pos rfl]
theorem new_sound {E:Env} {m:Mt} {tm:Array Value} {j:Nat} {o:Ob} {v:Value} (ok:MOk E m tm) (hs:sigAt m.sig j=none)
 (ho:∀F:Env,F.rho m.nx=v→F.B m.nx=[]→∀ob nx,ObOk F ob nx m.nx o):
 Ext E m {E with rho:=upd E.rho m.nx v} {m with sig:=(j,m.nx)::m.sig,ob:=upd m.ob m.nx o,nx:=m.nx+1}∧
 MOk {E with rho:=upd E.rho m.nx v} {m with sig:=(j,m.nx)::m.sig,ob:=upd m.ob m.nx o,nx:=m.nx+1} tm:=by
 have hext:Ext E m {E with rho:=upd E.rho m.nx v} {m with sig:=(j,m.nx)::m.sig,ob:=upd m.ob m.nx o,nx:=m.nx+1}:=
  ⟨rfl,rfl,rfl,fun i hi=>upd_other _ _ _ _ (by omega),Nat.le_succ _,fun i hi=>upd_other _ _ _ _ (by omega),fun k l e=>by
   show sigAt ((j,m.nx)::m.sig) k=some l
   rw [sigAt_cons]
   split
   ·rename_i e';subst e';rw [hs] at e;cases e
   ·exact e,fun _ h=>h⟩
 have hB:E.B m.nx=[]:=by
  have:=ok.rep.ob m.nx
  have hd:=ok.rep.lt m.nx (Nat.le_refl _)
  simp only at hd this
  rw [hd] at this
  exact this
 refine ⟨hext,⟨⟨fun s=>trivial,fun i=> ?_,fun i hi=> ?_,ok.rep.dj,ok.rep.nd,ok.rep.bb,ok.rep.zb⟩,fun k l e=> ?_⟩⟩
 ·by_cases e:i=m.nx
  ·subst e
   show ObOk _ _ _ _ (upd m.ob m.nx o m.nx)
   rw [upd_same]
   exact ho {E with rho:=upd E.rho m.nx v} (upd_same _ _ _) hB _ _
  ·show ObOk _ _ _ _ (upd m.ob m.nx o i)
   rw [upd_other _ _ _ _ e]
   exact ObOk_ev hext.ev (upd_other _ _ _ _ e) rfl (fun _ _=>rfl) (ok.rep.ob i)
 ·have hi':m.nx+1≤i:=hi
  show upd m.ob m.nx o i=_
  rw [upd_other _ _ _ _ (by omega)]
  exact ok.rep.lt i (by show m.nx≤i;omega)
 ·have e:sigAt ((j,m.nx)::m.sig) k=some l:=e
  rw [sigAt_cons] at e
  show l<m.nx+1
  split at e
  ·cases e;omega
  ·have:=ok.lt k l e;omega
theorem cn_nodead:∀(cs:CS) (x:cs.Den),cs.cn x≠ .dead
 | .ro _,_,h| .h _,_,h| .p _,_,h| .rdp _,_,h| .any,_,h| .fn _ _,_,h| .nil,_,h| .cons _ _,_,h| .agg _,_,h=>by simp [CS.cn] at h
theorem matchC_sound {tmp:Bool} {tm:Array Value}:∀(cs:CS) (c:Cn) (m m':Mt) (x:cs.Den) (E:Env) (md:Bool) (vs:List Value),matchC tmp m cs c=some (x,m')→MOk E m tm→
 CRep E m.ob m.nx c md vs→(md=true→cs.caps=true)→
 ∃E',Ext E m E' m'∧MOk E' m' tm∧(cs.cn x).isAgg=c.isAgg∧∀F ob nx,Vw E' m' F nx→CRep F ob nx (cs.cn x) md vs:=by
 intro cs
 induction cs with
 |ro t=>
  intro c m m' x E md vs h ok hc hm
  cases md with
  |true=>simp [CS.caps] at hm
  |false=>
   simp only [matchC] at h
   split at h
   ·rename_i d m1 h1
    split at h
    ·rename_i y h2
     cases h
     have:=castDV_eq h2
     subst this
     obtain ⟨s1,o1,n1,f1,g1,k1⟩:=toDV_sound c m m' _ vs h1 ok.ob hc
     refine ⟨E,Ext.same s1 o1 n1 f1,ok.same s1 o1 n1,g1,fun F ob nx v=> ?_⟩
     have hrd:=k1 F v.w v.z v.fz
     exact ⟨Rd_length _ _ _ hrd,trivial,fun _=>hrd⟩
    ·cases h
   ·cases h
 |h j=>
  intro c m m' x E md vs h ok hc hm
  cases c<;>(try simp only [matchC] at h)<;>try (cases h;done)
  ·rename_i e t
   split at h
   ·cases h
   ·rename_i hs
    cases h
    have hc:vs=[.slice none 0 0]:=by cases md<;>exact hc
    obtain ⟨h1,h2⟩:=new_sound (o:= .sl .own 0 e t []) (v:= .slice none 0 0) ok hs (fun F hr hB ob nx=>by
     show Ow F.w (.list e t) [] [F.rho m.nx] (F.B m.nx)
     rw [hr,hB]
     exact ⟨.slice none 0 0,[],[],rfl,⟨by simp,.inl ⟨rfl,rfl⟩⟩,⟨rfl,rfl⟩,by simp [Value.ownBlock]⟩)
    refine ⟨_,h1,h2,rfl,fun F ob nx v=> ?_⟩
    obtain ⟨k1,k2⟩:=v.rho j m.nx (by show sigAt ((j,m.nx)::m.sig) j=_;rw [sigAt_cons,if_pos rfl])
    have k2:=k2.trans (upd_same E.rho m.nx (Value.slice none 0 0))
    have:CRep F ob nx (.h j) md vs↔j<nx∧(F.rho j).oneCell'=true∧vs=[F.rho j]:=by cases md<;>exact Iff.rfl
    exact this.2 ⟨k1,by rw [k2];rfl,by rw [k2];exact hc⟩
  ·rename_i i
   have key:∀m1,m.put j i=some m1→some ((),m1)=some (x,m')→∃E',Ext E m E' m'∧MOk E' m' tm∧((CS.h j).cn x).isAgg=(Cn.h i).isAgg∧∀F ob nx,Vw E' m' F nx→CRep F ob nx ((CS.h j).cn x) md vs:=by
    intro m1 h1 h
    cases h
    have hc:i<m.nx∧(E.rho i).oneCell'=true∧vs=[E.rho i]:=by cases md<;>exact hc
    obtain ⟨h2,h3,h4⟩:=put_sound h1 ok hc.1
    refine ⟨E,h2,h3,rfl,fun F ob nx v=> ?_⟩
    obtain ⟨k1,k2⟩:=v.rho j i h4
    have:CRep F ob nx (.h j) md vs↔j<nx∧(F.rho j).oneCell'=true∧vs=[F.rho j]:=by cases md<;>exact Iff.rfl
    exact this.2 ⟨k1,by rw [k2];exact hc.2.1,by rw [k2];exact hc.2.2⟩
   split at h
   ·split at h
    ·rename_i m1 h1
     exact key m1 h1 h
    ·cases h
   ·split at h
    ·rename_i m1 h1
     exact key m1 h1 h
    ·cases h
   ·cases h
 |p j=>
  intro c m m' x E md vs h ok hc hm
  cases c<;>(try simp only [matchC] at h)<;>try (cases h;done)
  ·rename_i i
   split at h
   ·rename_i m1 h1
    cases h
    have hc:i<m.nx∧(E.rho i).oneCell'=true∧vs=[E.rho i]:=by cases md<;>exact hc
    obtain ⟨h2,h3,h4⟩:=put_sound h1 ok hc.1
    refine ⟨E,h2,h3,rfl,fun F ob nx v=> ?_⟩
    obtain ⟨k1,k2⟩:=v.rho j i h4
    have:CRep F ob nx (.p j) md vs↔j<nx∧(F.rho j).oneCell'=true∧vs=[F.rho j]:=by cases md<;>exact Iff.rfl
    exact this.2 ⟨k1,by rw [k2];exact hc.2.1,by rw [k2];exact hc.2.2⟩
   ·cases h
  ·rename_i v0
   have hv0:v0= .pointer none:=by
    cases v0 with
    |pointer a=>cases a with
     |none=>rfl
     |some a=>simp [matchC] at h
    |_=>simp [matchC] at h
   subst hv0
   simp only [matchC] at h
   split at h
   ·cases h
   ·rename_i hs
    cases h
    have hc:vs=[.pointer none]:=by cases md<;>exact hc.2
    obtain ⟨h1,h2⟩:=new_sound (o:= .obox false .nil .nil) (v:= .pointer none) ok hs (fun F hr hB ob nx=>⟨hr,hB,[],rfl⟩)
    refine ⟨_,h1,h2,rfl,fun F ob nx v=> ?_⟩
    obtain ⟨k1,k2⟩:=v.rho j m.nx (by show sigAt ((j,m.nx)::m.sig) j=_;rw [sigAt_cons,if_pos rfl])
    have k2:=k2.trans (upd_same E.rho m.nx (Value.pointer none))
    have:CRep F ob nx (.p j) md vs↔j<nx∧(F.rho j).oneCell'=true∧vs=[F.rho j]:=by cases md<;>exact Iff.rfl
    exact this.2 ⟨k1,by rw [k2];rfl,by rw [k2];exact hc⟩
 |any=>
  intro c m m' x E md vs h ok hc hm
  have fin:(∃v:Value,v.oneCell'=true∧vs=[v])→m'=m→c.isAgg=false→∃E',Ext E m E' m'∧MOk E' m' tm∧(CS.any.cn x).isAgg=c.isAgg∧∀F ob nx,Vw E' m' F nx→CRep F ob nx (CS.any.cn x) md vs:=by
   intro hv hm hca
   subst hm
   exact ⟨E,Ext.refl _ _,ok,hca.symm,fun F ob nx v=>by cases md<;>exact hv⟩
  cases c<;>(try simp only [matchC] at h)<;>try (cases h;done)
  ·cases h
   have hc:vs=[.slice none 0 0]:=by cases md<;>exact hc
   exact fin ⟨_,rfl,hc⟩ rfl rfl
  ·rename_i i
   cases h
   have hc:i<m.nx∧(E.rho i).oneCell'=true∧vs=[E.rho i]:=by cases md<;>exact hc
   exact fin ⟨_,hc.2.1,hc.2.2⟩ rfl rfl
  ·cases h
   have hc:∃v:Value,v.oneCell'=true∧vs=[v]:=by cases md<;>exact hc
   exact fin hc rfl rfl
 |rdp t=>
  intro c m m' x E md vs h ok hc hm
  have key:∀F ob nx (y:t.Den) md,CRep F ob nx (.rdp none ⟨t,y⟩) md vs↔(True∧∃ad,vs=[.pointer (some ad)]∧ad.spot=none∧(True→F.Z ad.block∧∃f,Rd F.w F.Z t y f∧RowAt F.w (some ad) f)):=by
   intro F ob nx y md;cases md<;>exact Iff.rfl
  cases c<;>(try simp only [matchC] at h)<;>try (cases h;done)
  ·rename_i i
   have hc:i<m.nx∧(E.rho i).oneCell'=true∧vs=[E.rho i]:=by cases md<;>exact hc
   split at h
   ·rename_i u c0 hi
    split at h
    ·rename_i d m1 h1
     split at h
     ·rename_i y hy
      cases h
      have:=castDV_eq hy
      subst this
      have hob:=ok.ob i
      rw [hi] at hob
      obtain ⟨g,cs,ct,b1,b2,b3,b4,b5⟩:=hob
      obtain ⟨s1,o1,n1,f1,g1,k1⟩:=toDV_sound c0 m m1 _ cs h1 ok.ob b3
      refine ⟨E,Ext.same s1 o1 n1 (fun i hi=>List.mem_cons_of_mem _ (f1 i hi)),ok.same s1 o1 n1,rfl,fun F ob nx v=> ?_⟩
      have hrd:=k1 F v.w v.z (fun i hi=>v.fz i (List.mem_cons_of_mem _ hi))
      refine (key F ob nx _ md).2 ⟨trivial,⟨g,0,none⟩,by rw [hc.2.2,b1],rfl,fun _=>⟨v.fz i (List.mem_cons_self ..) g (by rw [b5];simp),cs,hrd,?_⟩⟩
      intro j u' hu
      refine ⟨_,rfl,?_⟩
      rw [v.w]
      simp only [World.cell?,b2,Nat.zero_add]
      simpa using hu
     ·cases h
    ·cases h
   ·cases h
  ·rename_i b d
   have hc:srcLt m.ob m.nx b∧∃ad,vs=[.pointer (some ad)]∧ad.spot=none∧
    (live m.ob b→src E b ad.block∧∃f,Rd E.w (src E b) d.ty d.v f∧RowAt E.w (some ad) f):=by cases md<;>exact hc
   obtain ⟨_,ad,h1,h2,h3⟩:=hc
   cases b with
   |none=>
    simp only at h
    split at h
    ·rename_i y hy
     cases h
     have:=castDV_eq hy
     subst this
     refine ⟨E,Ext.refl _ _,ok,rfl,fun F ob nx v=> ?_⟩
     obtain ⟨h4,f,h5,h6⟩:=h3 trivial
     refine (key F ob nx _ md).2 ⟨trivial,ad,h1,h2,fun _=>⟨v.z _ h4,f,Rd_mono v.z (fun b _=>by rw [v.w]) _ _ _ h5,by rw [v.w];exact h6⟩⟩
    ·cases h
   |some p=>
    obtain ⟨i,ver⟩:=p
    simp only at h
    split at h
    ·rename_i fz v0 e t0 xs hi
     split at h
     ·rename_i hv
      obtain rfl:=Nat.eq_of_beq_eq_true hv
      split at h
      ·rename_i y hy
       cases h
       have:=castDV_eq hy
       subst this
       refine ⟨E,⟨rfl,rfl,rfl,fun _ _=>rfl,Nat.le_refl _,fun _ _=>rfl,fun _ _ h=>h,fun _ h=>List.mem_cons_of_mem _ h⟩,⟨ok.rep,ok.lt⟩,rfl,fun F ob nx v=> ?_⟩
       obtain ⟨h4,f,h5,h6⟩:=h3 (by simp only [live,fresh,hi])
       have hS:∀b,src E (some (i,v0)) b→F.Z b:=fun b hb=>by
        rcases hb with hb|hb
        ·exact v.fz i (List.mem_cons_self ..) b hb
        ·exact v.z b hb
       refine (key F ob nx _ md).2 ⟨trivial,ad,h1,h2,fun _=>⟨hS _ h4,f,Rd_mono hS (fun b _=>by rw [v.w]) _ _ _ h5,by rw [v.w];exact h6⟩⟩
      ·cases h
     ·cases h
    ·cases h
 |fn f cs ih=>
  intro c m m' x E md vs h ok hc hm
  cases c<;>(try simp only [matchC] at h)<;>try (cases h;done)
  rename_i g c
  split at h
  ·rename_i hg
   simp only [Bool.and_eq_true] at hg
   obtain rfl:=Nat.eq_of_beq_eq_true hg.1
   have hc:∃ws,vs=[.func (.func f) #[] ws.toArray]∧CRep E m.ob m.nx c true ws:=by cases md<;>exact hc
   obtain ⟨ws,h1,h2⟩:=hc
   obtain ⟨E',e1,e2,e3,e4⟩:=ih c m m' x E true ws h ok h2 (fun _=>hg.2)
   refine ⟨E',e1,e2,rfl,fun F ob nx v=> ?_⟩
   have:=e4 F ob nx v
   cases md<;>exact ⟨ws,h1,this⟩
  ·cases h
 |nil=>
  intro c m m' x E md vs h ok hc hm
  cases c<;>(try simp only [matchC] at h)<;>try (cases h;done)
  cases h
  exact ⟨E,Ext.refl _ _,ok,rfl,fun F ob nx v=>by cases md<;>exact hc⟩
 |cons a b iha ihb=>
  intro c m m' x E md vs h ok hc hm
  cases c<;>(try simp only [matchC] at h)<;>try (cases h;done)
  rename_i ca cb
  split at h
  ·rename_i u m1 h1
   split at h
   ·rename_i y m2 h2
    cases h
    cases md with
    |false=>
     obtain ⟨va,vb,rfl,ha,hb⟩:=hc
     obtain ⟨E1,e1,e2,e3,e4⟩:=iha ca m m1 u E false va h1 ok ha (by simp)
     obtain ⟨E2,f1,f2,f3,f4⟩:=ihb cb m1 m' y E1 false vb h2 e2 (CRep_ev e1.ev _ _ _ hb) (by simp)
     exact ⟨E2,e1.trans f1,f2,rfl,fun F ob nx v=>⟨va,vb,rfl,e4 F ob nx (v.back f1 e2.lt),f4 F ob nx v⟩⟩
    |true=>
     obtain ⟨v0,vb,va,rfl,ha,hmk,hb⟩:=hc
     obtain ⟨E1,e1,e2,e3,e4⟩:=iha ca m m1 u E false va h1 ok ha (by simp)
     obtain ⟨E2,f1,f2,f3,f4⟩:=ihb cb m1 m' y E1 true vb h2 e2 (CRep_ev e1.ev _ _ _ hb) (fun _=>by simpa [CS.caps] using hm rfl)
     exact ⟨E2,e1.trans f1,f2,rfl,fun F ob nx v=>⟨v0,vb,va,rfl,e4 F ob nx (v.back f1 e2.lt),by rw [e3];exact hmk,f4 F ob nx v⟩⟩
   ·cases h
  ·cases h
 |agg a ih=>
  intro c m m' x E md vs h ok hc hm
  cases md with
  |true=>simp [CS.caps] at hm
  |false=>
   cases c<;>(try simp only [matchC] at h)<;>try (cases h;done)
   ·rename_i b d
    cases b with
    |some _=>simp [matchC] at h
    |none=>
     simp only [matchC] at h
     split at h
     ·rename_i y hy
      have hrd:=hc.2.2 trivial
      have hag:d.ty.isAgg=true:=by
       obtain ⟨ty,v⟩:=d
       cases ty<;>simp [expl] at hy<;>rfl
      have hex:=expl_rep (ob:=m.ob) (nx:=m.nx) d.ty d.v vs hrd
      rw [hy] at hex
      obtain ⟨E',e1,e2,e3,e4⟩:=ih y m m' x E false vs h ok hex (by simp)
      exact ⟨E',e1,e2,hag.symm,fun F ob nx v=>e4 F ob nx v⟩
     ·cases h
   ·rename_i y
    obtain ⟨E',e1,e2,e3,e4⟩:=ih y m m' x E false vs h ok hc (by simp)
    exact ⟨E',e1,e2,rfl,fun F ob nx v=>e4 F ob nx v⟩
theorem matchB_sound {tmp:Bool} {tm:Array Value} {cs:CS} {c:Cn} {u:Ty} {m m':Mt} {x:cs.Den} {E:Env} {i j:Nat} (h:matchB tmp m u cs c=some (x,m')) (ok:MOk E m tm)
 (hs:sigAt m.sig j=some i) (hb:BoxOk E m.ob m.nx i u c):
 ∃E',Ext E m E' m'∧MOk E' m' tm∧∀F ob nx,Vw E' m' F nx→F.B j=E.B i→BoxOk F ob nx j u (cs.cn x):=by
 unfold matchB at h
 split at h
 ·rename_i y m1 h1
  split at h
  ·rename_i hf
   cases h
   obtain ⟨g,vs,t,b1,b2,b3,b4,b5⟩:=hb
   obtain ⟨E',e1,e2,e3,e4⟩:=matchC_sound cs c m m' x E false vs h1 ok b3 (by simp)
   refine ⟨E',e1,e2,fun F ob nx v hB=>⟨g,vs,t,?_,by rw [v.w,e1.w];exact b2,e4 F ob nx v,hf,by rw [hB];exact b5⟩⟩
   rw [(v.rho j i (e1.sig j i hs)).2,e1.rho i (ok.lt j i hs),b1]
  ·cases h
 ·cases h
theorem zeroC_ex {E:Env} {ob:Nat→Ob} {nx:Nat}:∀(u:Ty),∃cs,CRep E ob nx (zeroC u) false cs
 | .int k=>⟨[.int k 0],rfl,trivial,fun _=>rfl⟩
 | .bool=>⟨[.bool false],rfl,trivial,fun _=>rfl⟩
 | .str=>⟨[.string ⟨#[]⟩],rfl,trivial,fun _=>rfl⟩
 | .list _ _=>⟨_,rfl⟩
 | .nil=>⟨[],rfl⟩
 | .cons a b=>by
   obtain ⟨c,hc⟩:=zeroC_ex (E:=E) (ob:=ob) (nx:=nx) a
   obtain ⟨d,hd⟩:=zeroC_ex (E:=E) (ob:=ob) (nx:=nx) b
   exact ⟨c++d,c,d,rfl,hc,hd⟩
 | .st a=>zeroC_ex a
 | .ptr=>⟨[.pointer none],_,rfl,rfl⟩
theorem matchO_sound {tmp:Bool} {tm:Array Value} {o:OS} {m m':Mt} {x:o.Den} {E:Env} {i j:Nat} (h:matchO tmp m o (m.ob i)=some (x,m')) (ok:MOk E m tm) (hs:sigAt m.sig j=some i):
 ∃E',Ext E m E' m'∧MOk E' m' tm∧∀F ob nx,Vw E' m' F nx→F.B j=E.B i→ObOk F ob nx j (o.ob x):=by
 have hob:=ok.ob i
 generalize hmi:m.ob i=oi at h hob
 cases o with
 |sl e t=>
  cases oi<;>(try simp only [matchO] at h)<;>try (cases h;done)
  rename_i fz ver e' t' xs
  cases fz<;>simp only [matchO] at h<;>try (cases h;done)
  split at h
  ·rename_i y hy
   cases h
   have:=castDV_eq hy
   cases this
   refine ⟨E,Ext.refl _ _,ok,fun F ob nx v hB=> ?_⟩
   show Ow F.w (.list e t) _ [F.rho j] (F.B j)
   rw [hB,(v.rho j i hs).2,v.w]
   exact hob
  ·cases h
 |sh e t=>
  cases oi<;>(try simp only [matchO] at h)<;>try (cases h;done)
  rename_i fz ver e' t' xs
  cases fz<;>(try simp only [matchO] at h)<;>try (cases h;done)
  ·cases xs with
   |cons z zs=>simp only [matchO] at h;cases h
   |nil=>
    simp only [matchO] at h
    split at h
    ·rename_i y hy
     cases h
     have:=castDV_eq hy
     cases this
     refine ⟨E,Ext.refl _ _,ok,fun F ob nx v hB=> ?_⟩
     show ShOk F.w F.Z e t _ (F.rho j) (F.B j)
     rw [hB,(v.rho j i hs).2,v.w]
     obtain ⟨v',f,nb,k1,k2,k3,k4⟩:=hob
     have k1:E.rho i=v':=by simpa using k1
     obtain ⟨rfl,rfl⟩:=k3
     rw [k1]
     exact ⟨[],k2,rfl,by simpa using k4⟩
    ·cases h
  ·split at h
   ·rename_i y hy
    cases h
    have:=castDV_eq hy
    cases this
    refine ⟨E,Ext.refl _ _,ok,fun F ob nx v hB=> ?_⟩
    show ShOk F.w F.Z e t _ (F.rho j) (F.B j)
    rw [hB,(v.rho j i hs).2,v.w]
    obtain ⟨f,k2,k3,k4⟩:=hob
    exact ⟨f,k2,Els_mono (Rd_mono v.z (fun _ _=>rfl) t) _ _ k3,k4⟩
   ·cases h
 |box u cs=>
  cases oi<;>(try simp only [matchO] at h)<;>try (cases h;done)
  rename_i u' c
  split at h
  ·rename_i hu
   obtain rfl:=of_decide_eq_true hu
   obtain ⟨E',e1,e2,e3⟩:=matchB_sound h ok hs hob
   exact ⟨E',e1,e2,e3⟩
  ·cases h
 |obox u cs=>
  cases oi<;>(try simp only [matchO] at h)<;>try (cases h;done)
  ·rename_i u' c
   split at h
   ·rename_i hu
    obtain rfl:=of_decide_eq_true hu
    split at h
    ·rename_i y m1 h1
     cases h
     obtain ⟨E',e1,e2,e3⟩:=matchB_sound h1 ok hs hob
     exact ⟨E',e1,e2,e3⟩
    ·cases h
   ·cases h
  ·rename_i b u' c
   split at h
   ·cases b with
    |true=>cases h
    |false=>
     simp only at h
     split at h
     ·rename_i y m1 h1
      cases h
      obtain ⟨cs0,hz⟩:=zeroC_ex (E:=E) (ob:=m.ob) (nx:=m.nx) u
      obtain ⟨E',e1,e2,_,e4⟩:=matchC_sound cs _ m m' y E false cs0 h1 ok hz (by simp)
      exact ⟨E',e1,e2,fun F ob nx v hB=>⟨by rw [(v.rho j i (e1.sig j i hs)).2,e1.rho i (ok.lt j i hs)];exact hob.1,by rw [hB];exact hob.2.1,cs0,e4 F ob nx v⟩⟩
     ·cases h
   ·split at h
    ·rename_i hu
     obtain rfl:=of_decide_eq_true hu
     split at h
     ·rename_i y m1 h1
      cases h
      cases b with
      |true=>
       obtain ⟨E',e1,e2,e3⟩:=matchB_sound h1 ok hs hob
       exact ⟨E',e1,e2,e3⟩
      |false=>
       unfold matchB at h1
       split at h1
       ·rename_i y' m1' h2
        split at h1
        ·cases h1
         obtain ⟨cs0,hz⟩:=hob.2.2
         obtain ⟨E',e1,e2,_,e4⟩:=matchC_sound cs _ m m' y E false cs0 h2 ok hz (by simp)
         exact ⟨E',e1,e2,fun F ob nx v hB=>⟨by rw [(v.rho j i (e1.sig j i hs)).2,e1.rho i (ok.lt j i hs)];exact hob.1,by rw [hB];exact hob.2.1,cs0,e4 F ob nx v⟩⟩
        ·cases h1
       ·cases h1
     ·cases h
    ·cases h
theorem VRep_of {E:Env} {ob:Nat→Ob} {nx:Nat} {c:Cn} {v:Value} (hd:c≠ .dead) (h:VRep E ob nx c v):∃cs,CRep E ob nx c false cs∧mkV c.isAgg cs v:=VRep_one h hd
theorem matchC_nodead {tmp:Bool} {m:Mt} {cs:CS} {c:Cn} {r} (h:matchC tmp m cs c=some r):c≠ .dead:=by
 intro e
 subst e
 cases cs<;>simp [matchC,toDV] at h
theorem matchV_sound {tmp:Bool} {tm:Array Value} {cs:CS} {c:Cn} {m m':Mt} {x:cs.Den} {E:Env} {v:Value} (h:matchC tmp m cs c=some (x,m')) (ok:MOk E m tm)
 (hv:VRep E m.ob m.nx c v):∃E',Ext E m E' m'∧MOk E' m' tm∧∀F ob nx,Vw E' m' F nx→VRep F ob nx (cs.cn x) v:=by
 obtain ⟨vs,h1,h2⟩:=VRep_of (matchC_nodead h) hv
 obtain ⟨E',e1,e2,e3,e4⟩:=matchC_sound cs c m m' x E false vs h ok h1 (by simp)
 exact ⟨E',e1,e2,fun F ob nx v=>VRep_mk vs (e4 F ob nx v) (by rw [e3];exact h2)⟩
theorem matchSl_sound {tmp:Bool} {tm:Array Value} {sl:Nat→Cn}:∀(l:List (Nat×CS)) (m m':Mt) (x:SlD l) (E:Env),matchSl tmp sl l m=some (x,m')→MOk E m tm→
 (∀s,VRep E m.ob m.nx (sl s) (tm.getD s undef))→
 ∃E',Ext E m E' m'∧MOk E' m' tm∧∀F ob nx,Vw E' m' F nx→∀s,VRep F ob nx (slOf l x s) (tm.getD s undef)
 |[],m,m',x,E,h,ok,hv=>by
  cases h
  exact ⟨E,Ext.refl _ _,ok,fun F ob nx v s=>trivial⟩
 |[a],m,m',x,E,h,ok,hv=>by
  obtain ⟨E',e1,e2,e3⟩:=matchV_sound (show matchC tmp m a.2 (sl a.1)=some (x,m') from h) ok (hv a.1)
  refine ⟨E',e1,e2,fun F ob nx v s=> ?_⟩
  show VRep F ob nx (upd (fun _=> .dead) a.1 (a.2.cn x) s) _
  by_cases e:s=a.1
  ·subst e;rw [upd_same];exact e3 F ob nx v
  ·rw [upd_other _ _ _ _ e];trivial
 |a::b::r,m,m',x,E,h,ok,hv=>by
  simp only [matchSl] at h
  split at h
  ·rename_i u m1 h1
   split at h
   ·rename_i y m2 h2
    cases h
    obtain ⟨E1,e1,e2,e3⟩:=matchV_sound h1 ok (hv a.1)
    obtain ⟨E2,f1,f2,f3⟩:=matchSl_sound (b::r) m1 m' y E1 h2 e2 (fun s=>VRep_ev e1.ev (hv s))
    refine ⟨E2,e1.trans f1,f2,fun F ob nx v s=> ?_⟩
    show VRep F ob nx (upd (slOf (b::r) y) a.1 (a.2.cn u) s) _
    by_cases e:s=a.1
    ·subst e;rw [upd_same];exact e3 F ob nx (v.back f1 e2.lt)
    ·rw [upd_other _ _ _ _ e];exact f3 F ob nx v s
   ·cases h
  ·cases h
def keys {α:Type} (l:List (Nat×α)):List Nat:=l.map (·.1)
theorem matchO_dead {tmp:Bool} {m:Mt} {o:OS} {r} (h:matchO tmp m o .dead=some r):False:=by
 cases o<;>simp [matchO] at h
theorem tell_sound {below tmp:Bool} {E:Env} {m m0 m1:Mt} {tm:Array Value} {i j:Nat} {o:OS} {u:o.Den} (h:tell below m j=some (i,m0)) (ok:MOk E m tm) (h2:matchO tmp m0 o (m0.ob i)=some (u,m1)):
 Ext E m E m0∧MOk E m0 tm∧sigAt m0.sig j=some i:=by
 unfold tell at h
 split at h
 ·rename_i i' hs
  cases h
  exact ⟨Ext.refl _ _,ok,hs⟩
 ·rename_i hs
  split at h
  ·cases h
  ·cases h
   have hlt:i<m.nx:=by
    rcases Nat.lt_or_ge i m.nx with h|h
    ·exact h
    ·have hd:m.ob i= .dead:=ok.rep.lt i h
     have h2:matchO tmp _ o (m.ob i)=_:=h2
     rw [hd] at h2
     exact (matchO_dead h2).elim
   exact put_sound (m':={m with sig:=(i,i)::m.sig}) (by unfold Mt.put;rw [hs]) ok hlt
theorem matchOb_sound {tmp below:Bool} {tm:Array Value}:∀(l:List (Nat×OS)) (m m':Mt) (x:ObD l) (E:Env),matchOb tmp below l m=some (x,m')→MOk E m tm→
 ∃E',Ext E m E' m'∧MOk E' m' tm∧∀F ob nx,Vw E' m' F nx→(∀j i,sigAt m'.sig j=some i→F.B j=E'.B i)→∀j,(j∈keys l→ObOk F ob nx j (obOf l x j))∧(j∉keys l→obOf l x j= .dead)
 |[],m,m',x,E,h,ok=>by
  cases h
  exact ⟨E,Ext.refl _ _,ok,fun F ob nx v hB j=>⟨fun h=>by simp [keys] at h,fun _=>rfl⟩⟩
 |[a],m,m',x,E,h,ok=>by
  simp only [matchOb] at h
  split at h
  ·rename_i i m0 ht
   obtain ⟨t1,t2,hi⟩:=tell_sound ht ok h
   obtain ⟨E',e1,e2,e3⟩:=matchO_sound h t2 hi
   refine ⟨E',t1.trans e1,e2,fun F ob nx v hB j=> ?_⟩
   show (_→ObOk F ob nx j (upd (fun _=> .dead) a.1 (a.2.ob x) j))∧(_→upd (fun _=> .dead) a.1 (a.2.ob x) j= .dead)
   by_cases e:j=a.1
   ·subst e;rw [upd_same]
    exact ⟨fun _=>e3 F ob nx v (by rw [hB _ _ (e1.sig _ _ hi),e1.B]),fun h=>absurd (by simp [keys]) h⟩
   ·rw [upd_other _ _ _ _ e]
    exact ⟨fun h=>absurd (by simpa [keys] using h) e,fun _=>rfl⟩
  ·cases h
 |a::b::r,m,m',x,E,h,ok=>by
  simp only [matchOb] at h
  split at h
  ·rename_i i m0 ht
   split at h
   ·rename_i u m1 h1
    split at h
    ·rename_i y m2 h2
     cases h
     obtain ⟨t1,t2,hi⟩:=tell_sound ht ok h1
     obtain ⟨E1,e1,e2,e3⟩:=matchO_sound h1 t2 hi
     obtain ⟨E2,f1,f2,f3⟩:=matchOb_sound (b::r) m1 m' y E1 h2 e2
     refine ⟨E2,t1.trans (e1.trans f1),f2,fun F ob nx v hB j=> ?_⟩
     show (_→ObOk F ob nx j (upd (obOf (b::r) y) a.1 (a.2.ob u) j))∧(_→upd (obOf (b::r) y) a.1 (a.2.ob u) j= .dead)
     by_cases e:j=a.1
     ·subst e;rw [upd_same]
      exact ⟨fun _=>e3 F ob nx (v.back f1 e2.lt) (by rw [hB _ _ (f1.sig _ _ (e1.sig _ _ hi)),f1.B,e1.B]),fun h=>absurd (by simp [keys]) h⟩
     ·rw [upd_other _ _ _ _ e]
      have hk:j∈keys (a::b::r)↔j∈keys (b::r):=by simp [keys,e]
      rw [hk]
      exact f3 F ob nx v hB j
    ·cases h
   ·cases h
  ·cases h
theorem elemB_iff (n:Nat):∀l,elemB n l=true↔n∈l
 |[]=>by simp [elemB]
 |x::r=>by
  simp only [elemB]
  cases e:Nat.beq n x with
  |true=>simp [Nat.eq_of_beq_eq_true e]
  |false=>
   have:n≠x:=fun h=>by subst h;simp at e
   simp [elemB_iff n r,this]
theorem sigAt_mem {j i:Nat}:∀{s:List (Nat×Nat)},sigAt s j=some i→(j,i)∈s
 |[],h=>by cases h
 |x::r,h=>by
  obtain ⟨a,b⟩:=x
  rw [sigAt_cons] at h
  split at h
  ·rename_i e;cases h;subst e;exact List.mem_cons_self ..
  ·exact List.mem_cons_of_mem _ (sigAt_mem h)
structure SigOk (ids fz:List Nat) (below:Bool) (s:List (Nat×Nat)):Prop where
 ids:∀j i,sigAt s j=some i→j∈ids
 fz:∀j i,sigAt s j=some i→i∉fz
 one:∀j j' i,sigAt s j=some i→sigAt s j'=some i→j=j'
 low:below=true→∀j i,sigAt s j=some i→j<100
 own:below=false→∀j i,sigAt s j=some i→j=i∨100≤j
theorem sigOk_sound {ids fz:List Nat} {below:Bool}:∀s,sigOk ids fz below s=true→SigOk ids fz below s∧(keys s).Nodup
 |[],_=>⟨⟨by simp [sigAt],by simp [sigAt],by simp [sigAt],by simp [sigAt],by simp [sigAt]⟩,List.nodup_nil⟩
 |x::r,h=>by
  obtain ⟨a,b⟩:=x
  simp only [sigOk,Bool.and_eq_true,Bool.not_eq_true'] at h
  obtain ⟨h1,h2,h3,h4,h5,h6⟩:=h
  obtain ⟨k,kn⟩:=sigOk_sound r h6
  have h2:b∉fz:=fun e=>by rw [(elemB_iff b fz).2 e] at h2;cases h2
  have h3:b∉r.map (·.2):=fun e=>by rw [(elemB_iff b _).2 e] at h3;cases h3
  have h4:a∉r.map (·.1):=fun e=>by rw [(elemB_iff a _).2 e] at h4;cases h4
  have h1:=(elemB_iff a ids).1 h1
  have snd:∀j i,sigAt r j=some i→i∈r.map (·.2):=fun j i e=>List.mem_map.2 ⟨_,sigAt_mem e,rfl⟩
  refine ⟨⟨?_,?_,?_,?_,?_⟩,?_⟩
  ·intro j i e
   rw [sigAt_cons] at e
   split at e
   ·rename_i e';subst e';exact h1
   ·exact k.ids j i e
  ·intro j i e
   rw [sigAt_cons] at e
   split at e
   ·cases e;exact h2
   ·exact k.fz j i e
  ·intro j j' i e e'
   rw [sigAt_cons] at e e'
   split at e<;>split at e'
   ·omega
   ·cases e;exact absurd (snd _ _ e') h3
   ·cases e';exact absurd (snd _ _ e) h3
   ·exact k.one j j' i e e'
  ·intro hb j i e
   rw [sigAt_cons] at e
   split at e
   ·rename_i e';subst e'
    simp only [hb] at h5
    exact Nat.le_of_ble_eq_true h5
   ·exact k.low hb j i e
  ·intro hb j i e
   rw [sigAt_cons] at e
   split at e
   ·rename_i e';subst e'
    cases e
    simp only [hb,Bool.or_eq_true] at h5
    rcases h5 with h5|h5
    ·exact .inl (Nat.eq_of_beq_eq_true h5)
    ·exact .inr (Nat.le_of_ble_eq_true h5)
   ·exact k.own hb j i e
  ·show (a::keys r).Nodup
   exact List.nodup_cons.2 ⟨h4,kn⟩
def into (E:Env) (m:Mt):Env where
 w:=E.w
 Z:=fun b=>E.Z b∨∃i,i∈m.fz∧b∈E.B i
 rho:=fun j=>match sigAt m.sig j with
  |some i=>E.rho i
  |none=>E.rho j
 B:=fun j=>match sigAt m.sig j with
  |some i=>E.B i
  |none=>[]
theorem into_vw {E:Env} {m:Mt} {ids:List Nat} {below:Bool} {nx:Nat} (k:SigOk ids m.fz below m.sig) (hn:∀j,j∈ids→j<nx) (hl:SigLt m):Vw E m (into E m) nx where
 w:=rfl
 z:=fun b hb=> .inl hb
 fz:=fun i hi b hb=> .inr ⟨i,hi,hb⟩
 rho:=fun j i e=>⟨hn j (k.ids j i e),by simp only [into,e]⟩
 lt:=hl
theorem maxId_lt:∀(l:List (Nat×OS)) (j:Nat),j∈keys l→j<maxId l
 |[],_,h=>by simp [keys] at h
 |x::r,j,h=>by
  simp only [keys,List.map_cons,List.mem_cons] at h
  show j<Nat.max (x.1+1) (maxId r)
  rcases h with rfl|h
  ·exact Nat.lt_of_lt_of_le (Nat.lt_succ_self _) (Nat.le_max_left _ _)
  ·exact Nat.lt_of_lt_of_le (maxId_lt r j h) (Nat.le_max_right _ _)
theorem SS.pS_mk (s:SS) (u:SlD s.slots) (v:ObD s.objs):s.pS (s.mk' u v)=u∧s.pO (s.mk' u v)=v:=by
 obtain ⟨a,b⟩:=s
 cases b with
 |nil=>exact ⟨rfl,rfl⟩
 |cons x r=>exact ⟨rfl,rfl⟩
theorem matchSt_sound {tmp below:Bool} {s:SS} {st:St} {x:s.Den} {m:Mt} {E:Env} {tm:Array Value} (h:matchSt tmp below s st=some (x,m)) (hr:Rep E st tm):
 ∃E',Ext E ⟨[],[],st.ob,st.nx⟩ E' m∧MOk E' m tm∧SigOk (keys s.objs) m.fz below m.sig∧(keys m.sig).Nodup∧Rep (into E' m) (s.st x) tm:=by
 unfold matchSt at h
 split at h
 ·rename_i u m1 h1
  split at h
  ·rename_i v m2 h2
   split at h
   ·rename_i h3
    cases h
    have ok0:MOk E ⟨[],[],st.ob,st.nx⟩ tm:=⟨⟨fun s=>trivial,hr.ob,hr.lt,hr.dj,hr.nd,hr.bb,hr.zb⟩,fun j i e=>by cases e⟩
    obtain ⟨E1,e1,e2,e3⟩:=matchSl_sound s.slots _ m1 u E h1 ok0 hr.sl
    obtain ⟨E2,f1,f2,f3⟩:=matchOb_sound s.objs m1 m v E1 h2 e2
    obtain ⟨k,kn⟩:=sigOk_sound _ h3
    have hnx:∀j,j∈keys s.objs→j<Nat.max 100 (maxId s.objs):=fun j hj=>Nat.lt_of_lt_of_le (maxId_lt _ _ hj) (Nat.le_max_right _ _)
    have vw:=into_vw (E:=E2) k hnx f2.lt
    have hB:∀j i,sigAt m.sig j=some i→(into E2 m).B j=E2.B i:=fun j i e=>by simp only [into,e]
    refine ⟨E2,e1.trans f1,f2,k,kn,?_⟩
    have hBin:∀j b,b∈(into E2 m).B j→∃i,sigAt m.sig j=some i∧b∈E2.B i:=by
     intro j b hb
     simp only [into] at hb
     split at hb
     ·rename_i i hi;exact ⟨i,hi,hb⟩
     ·simp at hb
    obtain ⟨p1,p2⟩:=SS.pS_mk s u v
    have key:=f3 (into E2 m) (s.st (s.mk' u v)).ob (Nat.max 100 (maxId s.objs)) vw hB
    refine ⟨fun sl=> ?_,fun j=> ?_,fun j hj=> ?_,?_,?_,?_,?_⟩
    ·show VRep _ _ _ (slOf s.slots (s.pS (s.mk' u v)) sl) _
     rw [p1]
     exact e3 _ _ _ (vw.back f1 e2.lt) sl
    ·show ObOk _ _ _ j (obOf s.objs (s.pO (s.mk' u v)) j)
     rw [p2]
     by_cases hj:j∈keys s.objs
     ·exact (key j).1 hj
     ·rw [(key j).2 hj]
      show (into E2 m).B j=[]
      simp only [into]
      split
      ·rename_i i hi;exact absurd (k.ids j i hi) hj
      ·rfl
    ·show obOf s.objs (s.pO (s.mk' u v)) j=_
     rw [p2]
     refine (key j).2 fun hm=> ?_
     have:=hnx j hm
     have hj:Nat.max 100 (maxId s.objs)≤j:=hj
     omega
    ·intro i j b hij hi hj
     obtain ⟨i',hi1,hi2⟩:=hBin i b hi
     obtain ⟨j',hj1,hj2⟩:=hBin j b hj
     have:i'≠j':=fun e=>hij (by subst e;exact k.one i j _ hi1 hj1)
     exact f2.rep.dj i' j' b this hi2 hj2
    ·intro i
     simp only [into]
     split
     ·exact f2.rep.nd _
     ·exact List.nodup_nil
    ·intro j b hb
     obtain ⟨i,hi1,hi2⟩:=hBin j b hb
     refine ⟨(f2.rep.bb i b hi2).1,fun hz=> ?_⟩
     rcases hz with hz|⟨i',h4,h5⟩
     ·exact (f2.rep.bb i b hi2).2 hz
     ·have:i≠i':=fun e=>k.fz j i hi1 (by rw [e];exact h4)
      exact f2.rep.dj i i' b this hi2 h5
    ·intro b hb
     rcases hb with hz|⟨i',h4,h5⟩
     ·exact f2.rep.zb b hz
     ·exact (f2.rep.bb i' b h5).1
   ·cases h
  ·cases h
 ·cases h
theorem cut_sound {N:Nat} {E0 E:Env} {st:St} {a:Act} {s:SS} {x:s.Den} {m:Mt} (h:matchSt false false s st=some (x,m)) (hi:Inv N E0 E st a):
 ∃E1,E1.w=E.w∧Inv N E0 E1 (s.st x) a:=by
 obtain ⟨E',e1,e2,k,_,hr⟩:=matchSt_sound h hi.rep
 refine ⟨into E' m,e1.w,hr,?_,hi.defers,hi.size,Nat.le_max_left _ _⟩
 refine hi.fr.trans ⟨by rw [show (into E' m).w=E.w from e1.w],by rw [show (into E' m).w=E.w from e1.w],by rw [show (into E' m).w=E.w from e1.w],by rw [show (into E' m).w=E.w from e1.w];exact Nat.le_refl _,
  fun b _ _=>by rw [show (into E' m).w=E.w from e1.w],?_,fun b hb=> .inl (by rw [e1.Z];exact hb),?_,?_⟩
 ·intro j b hb
  simp only [into] at hb
  split at hb
  ·rename_i i hi'
   exact .inl ⟨i,by rw [←e1.B];exact hb⟩
  ·simp at hb
 ·intro b hb
  rcases hb with hb|⟨i,_,hb⟩
  ·exact .inl (by rw [←e1.Z];exact hb)
  ·exact .inr (.inl ⟨i,by rw [←e1.B];exact hb⟩)
 ·intro j hj
  have hlt:j<st.nx:=Nat.lt_of_lt_of_le hj hi.nx
  show (match sigAt m.sig j with|some i=>E'.rho i|none=>E'.rho j)=_
  split
  ·rename_i i hi'
   rcases k.own rfl j i hi' with rfl|h1
   ·exact e1.rho j hlt
   ·omega
  ·exact e1.rho j hlt
end Go.Am
end
section
set_option linter.unusedVariables false
set_option linter.unusedSimpArgs false
namespace Go.Am
def FnRes (P:Program) (g:FuncId) (args:Array Value) (w:World) (R:Value→World→Prop):Prop:=
 match (callFunc g args).run P w with
 | .ok (.value v) w'=>R v w'
 | .ok (.enter f args') w'=>Calls P f args' w' fun
   | .returned v,w''=>R v w''
   |_,_=>False
 | .ok (.row row args') w'=>Rows P row args' w' R
 |_=>False
def RetOk:Nat→Array Value→Value→Prop
 |1,tm,v=>v=tm.getD 0 undef
 |n,tm,v=>∃vs:List Value,v= .tuple vs.toArray∧vs.length=n∧∀i,i<n→vs[i]?=some (tm.getD i undef)
def FnOk (P:Program) (g:FuncId) (c:Con):Prop:=
 ∀(E:Env) (args:Array Value) (x:c.inS.Den) (y:c.outS.Den),args.size=c.nargs→c.F x=some y→Rep E (c.inS.st x) args→
  FnRes P g args E.w fun v w'=>∃E' tm,E'.w=w'∧Fr E E'∧Rep E' (c.outS.st y) tm∧RetOk c.nres tm v
theorem FnRes.mono {P:Program} {g:FuncId} {args:Array Value} {w:World} {R R':Value→World→Prop} (h:FnRes P g args w R) (k:∀v w',R v w'→R' v w'):FnRes P g args w R':=by
 unfold FnRes at h⊢
 split at h
 ·exact k _ _ h
 ·intro cs
  obtain ⟨e,w',fr,r,s⟩:=h cs
  refine ⟨e,w',fr,?_,s⟩
  cases e with
  |returned v=>exact k _ _ r
  |panicked _=>exact r
  |outgrown=>exact r
 ·exact Rows.mono h k
 ·exact h.elim
theorem wp_call {P:Program} {o:Oper} {a:Act} {w:World} {K:Act→World→Prop} {Q:Exit→Act→World→Prop} {g:FuncId} {args:Array Value} {R:Value→World→Prop}
 (hrun:∀k:Next→World→Prop,∀r,(callFunc g args).run P w=r→(execOp a.eval o).run P w=r) (h:FnRes P g args w R) (hK:∀v w',R v w'→K (a.put o.dst v) w'):o.wp P a w K Q:=by
 unfold Oper.wp
 rw [hrun (fun _ _=>True) _ rfl]
 have h:=h.mono hK
 unfold FnRes at h
 split at h
 ·rename_i he;rw [he];exact h
 ·rename_i he
  rw [he]
  intro cs
  obtain ⟨e,w',fr,r,s⟩:=h cs
  refine ⟨e,w',fr,?_,s⟩
  cases e with
  |returned v=>exact r
  |panicked _=>exact r.elim
  |outgrown=>exact r.elim
 ·rename_i he;rw [he];exact h
 ·exact h.elim
theorem CRep_frame {E F:Env} {ob ob':Nat→Ob} {nx nx':Nat} {f:Nat→Nat} (hw:F.w=E.w) (hr:∀j,j<nx→F.rho (f j)=E.rho j∧f j<nx'):
 ∀(cs:CS) (x:cs.Den) (md:Bool) (vs:List Value),((∀b,E.Z b→F.Z b)∨cs.noRo=true)→CRep E ob nx (cs.cn x) md vs→CRep F ob' nx' (renC f (cs.cn x)) md vs:=by
 intro cs
 induction cs with
 |ro t=>
  intro x md vs hz h
  have key:∀(G:Env) ob nx,CRep G ob nx (.ro none ⟨t,x⟩) md vs↔(vs.length=t.size∧True∧(True→Rd G.w G.Z t x vs)):=by intro G ob nx;cases md<;>exact Iff.rfl
  have h:=(key E ob nx).1 h
  refine (key F ob' nx').2 ⟨h.1,trivial,fun _=> ?_⟩
  rcases hz with hz|hz
  ·exact Rd_mono hz (fun b _=>by rw [hw]) _ _ _ (h.2.2 trivial)
  ·exact Rd_flat t hz x vs (h.2.2 trivial)
 |h j=>
  intro x md vs hz h
  have key:∀(G:Env) ob nx j,CRep G ob nx (.h j) md vs↔(j<nx∧(G.rho j).oneCell'=true∧vs=[G.rho j]):=by intro G ob nx j;cases md<;>exact Iff.rfl
  have h:=(key E ob nx j).1 h
  exact (key F ob' nx' (f j)).2 ⟨(hr j h.1).2,by rw [(hr j h.1).1];exact h.2.1,by rw [(hr j h.1).1];exact h.2.2⟩
 |p j=>
  intro x md vs hz h
  have key:∀(G:Env) ob nx j,CRep G ob nx (.p j) md vs↔(j<nx∧(G.rho j).oneCell'=true∧vs=[G.rho j]):=by intro G ob nx j;cases md<;>exact Iff.rfl
  have h:=(key E ob nx j).1 h
  exact (key F ob' nx' (f j)).2 ⟨(hr j h.1).2,by rw [(hr j h.1).1];exact h.2.1,by rw [(hr j h.1).1];exact h.2.2⟩
 |rdp t=>
  intro x md vs hz h
  have key:∀(G:Env) ob nx,CRep G ob nx (.rdp none ⟨t,x⟩) md vs↔(True∧∃ad,vs=[.pointer (some ad)]∧ad.spot=none∧(True→G.Z ad.block∧∃f,Rd G.w G.Z t x f∧RowAt G.w (some ad) f)):=by
   intro G ob nx;cases md<;>exact Iff.rfl
  obtain ⟨_,ad,h1,h2,h3⟩:=(key E ob nx).1 h
  rcases hz with hz|hz
  ·obtain ⟨h4,g,h5,h6⟩:=h3 trivial
   exact (key F ob' nx').2 ⟨trivial,ad,h1,h2,fun _=>⟨hz _ h4,g,Rd_mono hz (fun b _=>by rw [hw]) _ _ _ h5,by rw [hw];exact h6⟩⟩
  ·simp [CS.noRo] at hz
 |any=>
  intro x md vs hz h
  have h:∃v:Value,v.oneCell'=true∧vs=[v]:=by cases md<;>exact h
  cases md<;>exact h
 |fn g c ih=>
  intro x md vs hz h
  have key:∀(G:Env) ob nx c,CRep G ob nx (.fn g c) md vs↔∃ws,vs=[.func (.func g) #[] ws.toArray]∧CRep G ob nx c true ws:=by intro G ob nx c;cases md<;>exact Iff.rfl
  obtain ⟨ws,h1,h2⟩:=(key E ob nx _).1 h
  exact (key F ob' nx' _).2 ⟨ws,h1,ih x true ws (by simpa [CS.noRo] using hz) h2⟩
 |nil=>intro x md vs hz h;cases md<;>exact h
 |cons a b iha ihb=>
  intro x md vs hz h
  have hza:(∀b,E.Z b→F.Z b)∨a.noRo=true:=hz.imp id (fun h=>by simp [CS.noRo] at h;exact h.1)
  have hzb:(∀b,E.Z b→F.Z b)∨b.noRo=true:=hz.imp id (fun h=>by simp [CS.noRo] at h;exact h.2)
  cases md with
  |false=>
   obtain ⟨c,d,h1,h2,h3⟩:=h
   exact ⟨c,d,h1,iha x.1 false c hza h2,ihb x.2 false d hzb h3⟩
  |true=>
   obtain ⟨v,vs',c,h1,h2,h3,h4⟩:=h
   refine ⟨v,vs',c,h1,iha x.1 false c hza h2,?_,ihb x.2 true vs' hzb h4⟩
   have:(renC f (a.cn x.1)).isAgg=(a.cn x.1).isAgg:=by cases a<;>rfl
   rw [this];exact h3
 |agg a ih=>
  intro x md vs hz h
  have key:∀(G:Env) ob nx c,CRep G ob nx (.agg c) md vs↔CRep G ob nx c false vs:=by intro G ob nx c;cases md<;>exact Iff.rfl
  exact (key F ob' nx' _).2 (ih x false vs (by simpa [CS.noRo] using hz) ((key E ob nx _).1 h))
theorem renC_isAgg (f:Nat→Nat) (c:Cn):(renC f c).isAgg=c.isAgg:=by cases c<;>rfl
theorem renC_fits (f:Nat→Nat):∀(u:Ty) (c:Cn),fits u c=true→fits u (renC f c)=true:=by
 intro u
 induction u with
 |st a ih=>
  intro c h
  cases c<;>simp only [fits] at h<;>try (cases h;done)
  exact ih _ h
 |cons a b iha ihb=>
  intro c h
  cases c<;>simp only [fits] at h<;>try (cases h;done)
  simp only [Bool.and_eq_true] at h
  simp only [renC,fits,Bool.and_eq_true]
  exact ⟨iha _ h.1,ihb _ h.2⟩
 |_=>
  intro c h
  cases c<;>first|exact h|(simp [fits] at h;done)|(simp only [renC];simpa [fits] using h)
theorem slOf_cases:∀(l:List (Nat×CS)) (x:SlD l) (s:Nat),slOf l x s= .dead∨∃cs y,(l.any fun z=>z.2==cs)=true∧cs∈l.map (·.2)∧slOf l x s=CS.cn cs y
 |[],_,_=> .inl rfl
 |[a],x,s=>by
  show upd (fun _=> .dead) a.1 (a.2.cn x) s= .dead∨∃cs y,_∧_∧upd (fun _=> .dead) a.1 (a.2.cn x) s=_
  by_cases e:s=a.1
  ·subst e;rw [upd_same];exact .inr ⟨a.2,x,by simp,by simp,rfl⟩
  ·rw [upd_other _ _ _ _ e];exact .inl rfl
 |a::b::r,x,s=>by
  show upd (slOf (b::r) x.2) a.1 (a.2.cn x.1) s= .dead∨∃cs y,_∧_∧upd (slOf (b::r) x.2) a.1 (a.2.cn x.1) s=_
  by_cases e:s=a.1
  ·subst e;rw [upd_same];exact .inr ⟨a.2,x.1,by simp,by simp,rfl⟩
  ·rw [upd_other _ _ _ _ e]
   rcases slOf_cases (b::r) x.2 s with h|⟨cs,y,h0,h1,h2⟩
   ·exact .inl h
   ·exact .inr ⟨cs,y,by simp only [List.any_cons] at h0⊢;simp [h0],List.mem_cons_of_mem _ h1,h2⟩
theorem obOf_cases:∀(l:List (Nat×OS)) (x:ObD l) (j:Nat),(j∉keys l∧obOf l x j= .dead)∨∃os y,os∈l.map (·.2)∧findO l j=some os∧obOf l x j=OS.ob os y
 |[],_,_=> .inl ⟨by simp [keys],rfl⟩
 |[a],x,s=>by
  show (_∧upd (fun _=> .dead) a.1 (a.2.ob x) s= .dead)∨∃cs y,_∧_∧upd (fun _=> .dead) a.1 (a.2.ob x) s=_
  by_cases e:s=a.1
  ·subst e;rw [upd_same];exact .inr ⟨a.2,x,by simp,by simp [findO],rfl⟩
  ·rw [upd_other _ _ _ _ e];exact .inl ⟨by simpa [keys] using e,rfl⟩
 |a::b::r,x,s=>by
  show (_∧upd (obOf (b::r) x.2) a.1 (a.2.ob x.1) s= .dead)∨∃cs y,_∧_∧upd (obOf (b::r) x.2) a.1 (a.2.ob x.1) s=_
  by_cases e:s=a.1
  ·subst e;rw [upd_same];exact .inr ⟨a.2,x.1,by simp,by simp [findO],rfl⟩
  ·rw [upd_other _ _ _ _ e]
   have hne:Nat.beq a.1 s=false:=by
    cases h:Nat.beq a.1 s with
    |false=>rfl
    |true=>exact absurd (Nat.eq_of_beq_eq_true h).symm e
   rcases obOf_cases (b::r) x.2 s with ⟨h0,h⟩|⟨cs,y,h1,h2,h3⟩
   ·exact .inl ⟨by simp only [keys,List.map_cons,List.mem_cons] at h0⊢;simp [e];simpa using h0,h⟩
   ·exact .inr ⟨cs,y,List.mem_cons_of_mem _ h1,by simp only [findO,hne] at h2⊢;exact h2,h3⟩
theorem VRep_ren {E F:Env} {ob ob':Nat→Ob} {nx nx':Nat} {f:Nat→Nat} (hw:F.w=E.w) (hr:∀j,j<nx→F.rho (f j)=E.rho j∧f j<nx')
 (l:List (Nat×CS)) (x:SlD l) (s:Nat) (v:Value) (hz:(∀b,E.Z b→F.Z b)∨(l.all fun z=>z.2.noRo)=true) (h:VRep E ob nx (slOf l x s) v):VRep F ob' nx' (renC f (slOf l x s)) v:=by
 rcases slOf_cases l x s with e|⟨cs,y,_,h1,e⟩
 ·rw [e];trivial
 ·rw [e] at h⊢
  obtain ⟨vs,h2,h3⟩:=VRep_one h (cn_nodead cs y)
  refine VRep_mk vs (CRep_frame hw hr cs y false vs (hz.imp id fun hz=> ?_) h2) (by rw [renC_isAgg];exact h3)
  obtain ⟨z,hz1,hz2⟩:=List.mem_map.1 h1
  have:=List.all_eq_true.1 hz z hz1
  rw [hz2] at this
  exact this
theorem ObOk_ren {E F:Env} {ob ob':Nat→Ob} {nx nx':Nat} {f:Nat→Nat} (hw:F.w=E.w) (hr:∀j,j<nx→F.rho (f j)=E.rho j∧f j<nx')
 (os:OS) (y:os.Den) (j i ver:Nat) (hi:F.rho i=E.rho j) (hB:F.B i=E.B j) (hz:(∀b,E.Z b→F.Z b)∨os.noRo=true) (h:ObOk E ob nx j (os.ob y)):ObOk F ob' nx' i (renO f ver (os.ob y)):=by
 have box:∀(u:Ty) (c:CS) (y:c.Den),((∀b,E.Z b→F.Z b)∨c.noRo=true)→BoxOk E ob nx j u (c.cn y)→BoxOk F ob' nx' i u (renC f (c.cn y)):=by
  intro u c y hz h
  obtain ⟨g,cs,t,h1,h2,h3,h4,h5⟩:=h
  exact ⟨g,cs,t,by rw [hi];exact h1,by rw [hw];exact h2,CRep_frame hw hr c y false cs hz h3,renC_fits f u _ h4,by rw [hB];exact h5⟩
 cases os with
 |sl e t=>
  show Ow F.w (.list e t) y [F.rho i] (F.B i)
  rw [hi,hB,hw]
  exact h
 |sh e t=>
  show ShOk F.w F.Z e t y (F.rho i) (F.B i)
  rw [hi,hB,hw]
  obtain ⟨f,h1,h2,h3⟩:=h
  rcases hz with hz|hz
  ·exact ⟨f,h1,Els_mono (Rd_mono hz (fun _ _=>rfl) t) _ _ h2,h3⟩
  ·cases hz
 |box u c=>exact box u c y hz h
 |obox u c=>
  obtain ⟨b,y⟩:=y
  cases b with
  |true=>exact box u c y hz h
  |false=>exact ⟨by rw [hi];exact h.1,by rw [hB];exact h.2.1,h.2.2.imp fun cs hc=>CRep_frame hw hr c y false cs hz hc⟩
theorem lay_ren (f:Nat→Nat) (v:Nat) (o:Ob):(renO f v o).lay=o.lay:=by cases o<;>rfl
theorem bx_ren (f:Nat→Nat) (v:Nat) (o:Ob):(renO f v o).isBx=o.isBx:=by cases o<;>rfl
theorem inv_sig {i j:Nat}:∀{s:List (Nat×Nat)},(keys s).Nodup→inv s i=some j→sigAt s j=some i
 |[],_,h=>by cases h
 |x::r,hn,h=>by
  obtain ⟨a,b⟩:=x
  have hn:a∉keys r∧(keys r).Nodup:=List.nodup_cons.1 hn
  simp only [inv] at h
  rw [sigAt_cons]
  split at h
  ·rename_i hb
   cases h
   rw [if_pos rfl,Nat.eq_of_beq_eq_true hb]
  ·have:=inv_sig hn.2 h
   have hne:a≠j:=fun e=>hn.1 (by subst e;exact List.mem_map.2 ⟨_,sigAt_mem this,rfl⟩)
   rw [if_neg hne]
   exact this
theorem inv_none {i:Nat}:∀{s:List (Nat×Nat)},inv s i=none→∀j,sigAt s j≠some i
 |[],_,_=>by simp [sigAt]
 |x::r,h,j=>by
  obtain ⟨a,b⟩:=x
  simp only [inv] at h
  rw [sigAt_cons]
  split at h
  ·cases h
  ·rename_i hb
   split
   ·intro e;cases e;simp at hb
   ·exact inv_none h j
theorem inv_of_sig {i j:Nat} {s:List (Nat×Nat)} (hn:(keys s).Nodup) (h1:∀j j',sigAt s j=some i→sigAt s j'=some i→j=j') (h:sigAt s j=some i):inv s i=some j:=by
 cases e:inv s i with
 |none=>exact absurd h (inv_none e j)
 |some j'=>rw [h1 j j' h (inv_sig hn e)]
end Go.Am
end
section
set_option linter.unusedVariables false
set_option linter.unusedSimpArgs false
namespace Go.Am
def aft (ro:Bool) (E' E2:Env) (m:Mt):Env where
 w:=E2.w
 Z:=if ro then E'.Z else E2.Z
 rho:=fun i=>if i<m.nx then E'.rho i else E2.rho (i-m.nx)
 B:=fun i=>if i<m.nx then (match inv m.sig i with
  |some j=>E2.B j
  |none=>if !ro&&elemB i m.fz then [] else E'.B i)
  else (match sigAt m.sig (i-m.nx) with
   |some _=>[]
   |none=>E2.B (i-m.nx))
theorem findO_kind {inn:List (Nat×OS)}:∀{out:List (Nat×OS)} {j:Nat} {o o':OS},objsOk inn out=true→findO inn j=some o→findO out j=some o'→kindOk o o'=true
 |[],_,_,_,_,_,h=>by cases h
 |x::r,j,o,o',hk,hi,h=>by
  simp only [objsOk,Bool.and_eq_true] at hk
  simp only [findO] at h
  split at h
  ·rename_i e
   cases h
   obtain rfl:=Nat.eq_of_beq_eq_true e
   rw [hi] at hk
   exact hk.1
  ·exact findO_kind hk.2 hi h
theorem kindOk_lay {o o':OS} (h:kindOk o o'=true) (x:o.Den) (y:o'.Den):(o'.ob y).lay=(o.ob x).lay∧(o'.ob y).isBx=(o.ob x).isBx∧
 ∀fz v e t xs,o'.ob y= .sl fz v e t xs→∃xs0,o.ob x= .sl .own 0 e t xs0:=by
 cases o<;>cases o'<;>simp only [kindOk] at h<;>first|(cases h;done)|skip
 ·rename_i e t e' t'
  simp only [Bool.and_eq_true] at h
  obtain rfl:=Nat.eq_of_beq_eq_true h.1
  obtain rfl:=of_decide_eq_true h.2
  refine ⟨rfl,rfl,fun fz v e2 t2 xs he=> ?_⟩
  simp only [OS.ob,Ob.sl.injEq] at he
  obtain ⟨-,-,rfl,rfl,_⟩:=he
  exact ⟨x,rfl⟩
 all_goals
  obtain rfl:=of_decide_eq_true h
  exact ⟨rfl,rfl,fun fz v e2 t2 xs he=>by simp [OS.ob] at he⟩
theorem ownsRow_len {w w':World} {e e':TypeId} {s s' n n':Nat} {v:Value} {f f':List Value} (h:w.ownsRow 0 e s v n f) (h':w'.ownsRow 0 e' s' v n' f'):n=n':=by
 rcases h.2 with ⟨rfl,rfl⟩|⟨g,cap,cur,rfl,_⟩<;>rcases h'.2 with ⟨h1,rfl⟩|⟨g',cap',cur',h1,_⟩<;>first|rfl|(cases h1;rfl)|cases h1
section
variable {N:Nat} {E0 E E' E2:Env} {st:St} {a:Act} {m:Mt} {c:Con} {x:c.inS.Den} {y:c.outS.Den} {tm args tm2:Array Value}
theorem after_sound (hi:Inv N E0 E st a) (e:Ext E ⟨[],[],st.ob,st.nx⟩ E' m) (ok:MOk E' m tm) (k:SigOk (keys c.inS.objs) m.fz true m.sig) (kn:(keys m.sig).Nodup)
 (hm:∀j i,sigAt m.sig j=some i→∃o y,findO c.inS.objs j=some o∧(m.ob i).lay=(OS.ob o y).lay∧(m.ob i).isBx=(OS.ob o y).isBx∧∀(e:TypeId) (t:Ty) (xs0:List t.Den),OS.ob o y= .sl .own 0 e t xs0→∃v0 xs1,m.ob i= .sl .own v0 e t xs1)
 (hk:objsOk c.inS.objs c.outS.objs=true) (f:Fr (into E' m) E2) (r2:Rep E2 (c.outS.st y) tm2):
 Inv N E0 (aft c.outS.noRo E' E2 m) {sl:=st.sl,ob:=afterOb c m y,nx:=m.nx+Nat.max 100 (maxId c.outS.objs)} a∧
 ∀s v,VRep E2 (c.outS.st y).ob (c.outS.st y).nx (slOf c.outS.slots (c.outS.pS y) s) v→
  VRep (aft c.outS.noRo E' E2 m) (afterOb c m y) (m.nx+Nat.max 100 (maxId c.outS.objs)) (renC (tau m) (slOf c.outS.slots (c.outS.pS y) s)) v:=by
 generalize hro:c.outS.noRo=ro
 have hIw:(into E' m).w=E'.w:=rfl
 have IB:∀j i,sigAt m.sig j=some i→(into E' m).B j=E'.B i:=fun j i h=>by simp only [into,h]
 have IBn:∀j b,b∈(into E' m).B j→∃i,sigAt m.sig j=some i∧b∈E'.B i:=by
  intro j b hb
  simp only [into] at hb
  split at hb
  ·rename_i i h;exact ⟨i,h,hb⟩
  ·simp at hb
 have Irho:∀j i,sigAt m.sig j=some i→E2.rho j=E'.rho i:=fun j i h=>by
  rw [f.rho j (k.low rfl j i h)];simp only [into,h]
 have e2lt:∀i b,b∈E2.B i→b<E2.w.heap.size∧¬E2.Z b:=fun i b hb=>r2.bb i b hb
 have still:∀b,b<E'.w.heap.size→(∀j,b∉(into E' m).B j)→E2.w.heap[b]?=E'.w.heap[b]?:=fun b hb ho=>f.block b hb ho
 have notsig:∀i b,(∀j,sigAt m.sig j≠some i)→b∈E'.B i→∀j,b∉(into E' m).B j:=by
  intro i b hn hb j hj
  obtain ⟨i',h1,h2⟩:=IBn j b hj
  exact ok.rep.dj i i' b (fun e=>hn j (by rw [e];exact h1)) hb h2
 have zstill:∀b,(into E' m).Z b→E2.w.heap[b]?=E'.w.heap[b]?:=by
  intro b hz
  have hnot:∀j,b∉(into E' m).B j:=by
   intro j hj
   obtain ⟨i',h1,h2⟩:=IBn j b hj
   rcases hz with hz|⟨i,h3,h4⟩
   ·exact (ok.rep.bb i' b h2).2 hz
   ·exact ok.rep.dj i' i b (fun e=>k.fz j i' h1 (by rw [e];exact h3)) h2 h4
  refine still b ?_ hnot
  rcases hz with hz|⟨i,h3,h4⟩
  ·exact ok.rep.zb b hz
  ·exact (ok.rep.bb i b h4).1
 have Z3:∀b,(aft ro E' E2 m).Z b→E2.Z b:=by
  intro b hb
  simp only [aft] at hb
  cases ro with
  |true=>simp only [if_true] at hb;exact f.z0 b (.inl hb)
  |false=>simpa using hb
 have Z3':∀b,E'.Z b→(aft ro E' E2 m).Z b:=by
  intro b hb
  simp only [aft]
  cases ro with
  |true=>simpa using hb
  |false=>simpa using f.z0 b (.inl hb)
 have tauok:∀j,j<Nat.max 100 (maxId c.outS.objs)→(aft ro E' E2 m).rho (tau m j)=E2.rho j∧tau m j<m.nx+Nat.max 100 (maxId c.outS.objs):=by
  intro j hj
  unfold tau
  cases h:sigAt m.sig j with
  |some i=>
   have hlt:=ok.lt j i h
   simp only
   refine ⟨?_,by omega⟩
   simp only [aft,if_pos hlt]
   exact (Irho j i h).symm
  |none=>
   simp only
   refine ⟨?_,by omega⟩
   simp only [aft,if_neg (show ¬m.nx+j<m.nx by omega),Nat.add_sub_cancel_left]
 have hz:(∀b,E2.Z b→(aft ro E' E2 m).Z b)∨c.outS.noRo=true:=by
  cases ro with
  |true=>exact .inr hro
  |false=>exact .inl fun b hb=>by simpa [aft] using hb
 have hzS:(∀b,E2.Z b→(aft ro E' E2 m).Z b)∨(c.outS.slots.all fun z=>z.2.noRo)=true:=hz.imp id (fun h=>by simp only [SS.noRo,Bool.and_eq_true] at h;exact h.1)
 have hzO:∀os,os∈c.outS.objs.map (·.2)→(∀b,E2.Z b→(aft ro E' E2 m).Z b)∨os.noRo=true:=by
  intro os hos
  refine hz.imp id (fun h=> ?_)
  simp only [SS.noRo,Bool.and_eq_true] at h
  obtain ⟨z,hz1,hz2⟩:=List.mem_map.1 hos
  have:=List.all_eq_true.1 h.2 z hz1
  rw [hz2] at this
  exact this
 have obS:∀i j,i<m.nx→inv m.sig i=some j→afterOb c m y i=renO (tau m) (verOf (m.ob i)+1) (obOf c.outS.objs (c.outS.pO y) j):=by
  intro i j h1 h2
  unfold afterOb
  rw [show Nat.blt i m.nx=true from Nat.ble_eq_true_of_le h1]
  simp only [h2]
 have obF:∀i,i<m.nx→inv m.sig i=none→(!ro&&elemB i m.fz)=true→afterOb c m y i=frzO (m.ob i):=by
  intro i h1 h2 h3
  unfold afterOb
  rw [show Nat.blt i m.nx=true from Nat.ble_eq_true_of_le h1]
  simp only [h2,hro,h3]
 have obU:∀i,i<m.nx→inv m.sig i=none→(!ro&&elemB i m.fz)=false→afterOb c m y i=m.ob i:=by
  intro i h1 h2 h3
  unfold afterOb
  rw [show Nat.blt i m.nx=true from Nat.ble_eq_true_of_le h1]
  simp only [h2,hro,h3]
 have bltf:∀i,¬i<m.nx→Nat.blt i m.nx=false:=by
  intro i h
  cases e:Nat.blt i m.nx with
  |false=>rfl
  |true=>exact absurd (Nat.le_of_ble_eq_true e) h
 have obD:∀i,¬i<m.nx→(∃q,sigAt m.sig (i-m.nx)=some q)→afterOb c m y i= .dead:=by
  intro i h1 ⟨q,h2⟩
  unfold afterOb
  rw [bltf i h1]
  simp only [h2]
 have obN:∀i,¬i<m.nx→sigAt m.sig (i-m.nx)=none→afterOb c m y i=renO (tau m) 0 (obOf c.outS.objs (c.outS.pO y) (i-m.nx)):=by
  intro i h1 h2
  unfold afterOb
  rw [bltf i h1]
  simp only [h2]
 have BS:∀i j,i<m.nx→inv m.sig i=some j→(aft ro E' E2 m).B i=E2.B j:=fun i j h1 h2=>by simp only [aft,if_pos h1,h2]
 have BF:∀i,i<m.nx→inv m.sig i=none→(!ro&&elemB i m.fz)=true→(aft ro E' E2 m).B i=[]:=fun i h1 h2 h3=>by simp only [aft,if_pos h1,h2,h3,if_true]
 have BU:∀i,i<m.nx→inv m.sig i=none→(!ro&&elemB i m.fz)=false→(aft ro E' E2 m).B i=E'.B i:=fun i h1 h2 h3=>by simp only [aft,if_pos h1,h2,h3];rfl
 have BD:∀i,¬i<m.nx→(∃q,sigAt m.sig (i-m.nx)=some q)→(aft ro E' E2 m).B i=[]:=fun i h1 ⟨q,h2⟩=>by simp only [aft,if_neg h1,h2]
 have BN:∀i,¬i<m.nx→sigAt m.sig (i-m.nx)=none→(aft ro E' E2 m).B i=E2.B (i-m.nx):=fun i h1 h2=>by simp only [aft,if_neg h1,h2]
 have obren:∀j i ver,(aft ro E' E2 m).rho i=E2.rho j→(aft ro E' E2 m).B i=E2.B j→
  ObOk (aft ro E' E2 m) (afterOb c m y) (m.nx+Nat.max 100 (maxId c.outS.objs)) i (renO (tau m) ver (obOf c.outS.objs (c.outS.pO y) j)):=by
  intro j i ver h1 h2
  have ho:ObOk E2 (c.outS.st y).ob (c.outS.st y).nx j (obOf c.outS.objs (c.outS.pO y) j):=r2.ob j
  rcases obOf_cases c.outS.objs (c.outS.pO y) j with ⟨_,h3⟩|⟨os,z,h3,_,h4⟩
  ·rw [h3] at ho⊢
   show (aft ro E' E2 m).B i=[]
   rw [h2];exact ho
  ·rw [h4] at ho⊢
   exact ObOk_ren (E:=E2) (F:=aft ro E' E2 m) rfl tauok os z j i ver h1 h2 (hzO os h3) ho
 have lay:∀i,i<m.nx→(∀u,(afterOb c m y i).lay=some u→(m.ob i).lay=some u)∧((afterOb c m y i).isBx=true→(m.ob i).isBx=true):=by
  intro i hi'
  cases hv:inv m.sig i with
  |some j=>
   rw [obS i j hi' hv,lay_ren,bx_ren]
   have hs:=inv_sig kn hv
   obtain ⟨o,z,h1,h2,h3,_⟩:=hm j i hs
   rw [h2,h3]
   rcases obOf_cases c.outS.objs (c.outS.pO y) j with ⟨_,h4⟩|⟨os,z',_,h5,h4⟩
   ·rw [h4];exact ⟨fun u h=>by simp [Ob.lay] at h,fun h=>by simp [Ob.isBx] at h⟩
   ·rw [h4]
    obtain ⟨l1,l2,_⟩:=kindOk_lay (findO_kind hk h1 h5) z z'
    rw [l1,l2]
    exact ⟨fun u h=>h,fun h=>h⟩
  |none=>
   cases hf:(!ro&&elemB i m.fz) with
   |true=>
    rw [obF i hi' hv hf]
    cases m.ob i with
    |sl fz v e t xs=>cases fz<;>exact ⟨fun u h=>by simpa [frzO,Ob.lay] using h,fun h=>by simp [frzO,Ob.isBx] at h⟩
    |_=>exact ⟨fun u h=>by simp [frzO,Ob.lay] at h,fun h=>by simp [frzO,Ob.isBx] at h⟩
   |false=>
    rw [obU i hi' hv hf]
    exact ⟨fun _ h=>h,fun h=>h⟩
 have fzmem:∀i,(!ro&&elemB i m.fz)=true→ro=false∧i∈m.fz:=by
  intro i h
  cases ro with
  |true=>simp at h
  |false=>exact ⟨rfl,(elemB_iff i m.fz).1 (by simpa using h)⟩
 have ev:Ev E' m.ob m.nx (aft ro E' E2 m) (afterOb c m y) (m.nx+Nat.max 100 (maxId c.outS.objs)):=by
  refine ⟨Nat.le_add_right _ _,fun i hi'=>by simp only [aft,if_pos hi'],Z3',fun b hb=>zstill b (.inl hb),fun i hi'=>(lay i hi').1,fun i hi'=>(lay i hi').2,?_⟩
  intro i hi' fz v e t xs ho
  cases hv:inv m.sig i with
  |some j=>
   rw [obS i j hi' hv] at ho
   have hs:=inv_sig kn hv
   obtain ⟨o,z,h1,h2,h3,h3'⟩:=hm j i hs
   rcases obOf_cases c.outS.objs (c.outS.pO y) j with ⟨_,h4⟩|⟨os,z',_,h5,h4⟩
   ·rw [h4] at ho;simp [renO] at ho
   ·have r2o:ObOk E2 (c.outS.st y).ob (c.outS.st y).nx j (obOf c.outS.objs (c.outS.pO y) j):=r2.ob j
    rw [h4] at ho r2o
    cases hos:os.ob z' with
    |sl fz2 v2 e2 t2 xs2=>
     rw [hos] at ho r2o
     simp only [renO,Ob.sl.injEq] at ho
     obtain ⟨rfl,rfl,rfl,rfl,hxs⟩:=ho
     have hxs:=eq_of_heq hxs
     subst hxs
     obtain ⟨xs0,hx0⟩:=(kindOk_lay (findO_kind hk h1 h5) z z').2.2 _ _ _ _ _ hos
     obtain ⟨v0,xs1,hx1⟩:=h3' _ _ xs0 hx0
     have hob:=ok.rep.ob i
     simp only [hx1] at hob
     have hkk:=findO_kind hk h1 h5
     have hfz:fz2= .own:=by
      cases os with
      |sl e t=>simp only [OS.ob,Ob.sl.injEq] at hos;exact hos.1.symm
      |sh e t=>cases o<;>simp [kindOk] at hkk
      |box u c=>simp [OS.ob] at hos
      |obox u c=>simp [OS.ob] at hos
     subst hfz
     obtain ⟨w1,f1,n1,a1,a2,_,_⟩:=hob
     obtain ⟨w2,f2,n2,b1,b2,_,_⟩:=r2o
     rw [Irho j i hs,a1] at b1
     obtain rfl:w1=w2:=by simpa using b1
     refine ⟨.own,v0,xs1,hx1,ownsRow_len a2 b2,by rw [hx1];simp [verOf],fun e=> ?_⟩
     rw [hx1] at e
     simp [verOf] at e
    |box u c=>rw [hos] at ho;simp [renO] at ho
    |obox b u c=>rw [hos] at ho;simp [renO] at ho
    |dead=>rw [hos] at ho;simp [renO] at ho
  |none=>
   have hns:=inv_none hv
   cases hf:(!ro&&elemB i m.fz) with
   |true=>
    rw [obF i hi' hv hf] at ho
    obtain ⟨hro',hfz⟩:=fzmem i hf
    cases hmo:m.ob i with
    |sl fz0 v0 e0 t0 xs0=>
     rw [hmo] at ho
     have ho:Ob.sl .frz v0 e0 t0 xs0= .sl fz v e t xs:=by
      cases fz0<;>simp only [frzO] at ho<;>first|exact ho|cases ho
     simp only [Ob.sl.injEq] at ho
     obtain ⟨rfl,rfl,rfl,rfl,hxs⟩:=ho
     have hxs:=eq_of_heq hxs
     subst hxs
     refine ⟨fz0,v0,_,rfl,rfl,Nat.le_refl _,fun _=>⟨rfl,fun b hb=> ?_⟩⟩
     have hz':(into E' m).Z b:=by
      rcases hb with hb|hb
      ·exact .inr ⟨i,hfz,hb⟩
      ·exact .inl hb
     refine ⟨zstill b hz',.inr ?_⟩
     simp only [aft,hro']
     exact f.z0 b hz'
    |box u c=>rw [hmo] at ho;simp [frzO] at ho
    |obox b u c=>rw [hmo] at ho;simp [frzO] at ho
    |dead=>rw [hmo] at ho;simp [frzO] at ho
   |false=>
    rw [obU i hi' hv hf] at ho
    refine ⟨fz,v,xs,ho,rfl,Nat.le_refl _,fun _=>⟨rfl,fun b hb=> ?_⟩⟩
    rcases hb with hb|hb
    ·exact ⟨still b (ok.rep.bb i b hb).1 (notsig i b hns hb),.inl (by rw [BU i hi' hv hf];exact hb)⟩
    ·exact ⟨zstill b (.inl hb),.inr (Z3' b hb)⟩
 have origin:∀i b,b∈(aft ro E' E2 m).B i→(b∈E'.B i∧i<m.nx∧inv m.sig i=none∧(!ro&&elemB i m.fz)=false)∨(∃j,b∈E2.B j∧((i<m.nx∧inv m.sig i=some j)∨(¬i<m.nx∧j=i-m.nx∧sigAt m.sig j=none))):=by
  intro i b hb
  by_cases h1:i<m.nx
  ·cases hv:inv m.sig i with
   |some j=>rw [BS i j h1 hv] at hb;exact .inr ⟨j,hb,.inl ⟨h1,rfl⟩⟩
   |none=>
    cases hf:(!ro&&elemB i m.fz) with
    |true=>rw [BF i h1 hv hf] at hb;simp at hb
    |false=>rw [BU i h1 hv hf] at hb;exact .inl ⟨hb,h1,rfl,rfl⟩
  ·cases hs:sigAt m.sig (i-m.nx) with
   |some q=>rw [BD i h1 ⟨q,hs⟩] at hb;simp at hb
   |none=>rw [BN i h1 hs] at hb;exact .inr ⟨_,hb,.inr ⟨h1,rfl,hs⟩⟩
 have e2own:∀j b,b∈E2.B j→(∃j' i,sigAt m.sig j'=some i∧b∈E'.B i)∨E'.w.heap.size≤b:=by
  intro j b hb
  rcases f.own j b hb with ⟨j',h1⟩|h1
  ·obtain ⟨i,h2,h3⟩:=IBn j' b h1
   exact .inl ⟨j',i,h2,h3⟩
  ·exact .inr h1
 have apart:∀i j b,b∈E'.B i→inv m.sig i=none→b∈E2.B j→False:=by
  intro i j b hb hv hj
  rcases e2own j b hj with ⟨j',i',h1,h2⟩|h1
  ·exact ok.rep.dj i i' b (fun e=>inv_none hv j' (by rw [e];exact h1)) hb h2
  ·have:=(ok.rep.bb i b hb).1;omega
 constructor
 ·have hrep0:Rep E' {sl:=st.sl,ob:=m.ob,nx:=m.nx} a.tmps:=
   ⟨fun s=>VRep_ev e.ev (hi.rep.sl s),ok.rep.ob,ok.rep.lt,ok.rep.dj,ok.rep.nd,ok.rep.bb,ok.rep.zb⟩
  refine ⟨hrep0.turn rfl ev ?_ ?_ ?_ ?_ ?_ ?_,?_,hi.defers,hi.size,Nat.le_trans hi.nx (Nat.le_trans e.nx (Nat.le_add_right _ _))⟩
  ·intro i
   by_cases h1:i<m.nx
   ·cases hv:inv m.sig i with
    |some j=>
     show ObOk _ _ _ i (afterOb c m y i)
     rw [obS i j h1 hv]
     refine obren j i _ ?_ (BS i j h1 hv)
     simp only [aft,if_pos h1]
     exact (Irho j i (inv_sig kn hv)).symm
    |none=>
     have hns:=inv_none hv
     cases hf:(!ro&&elemB i m.fz) with
     |true=>
      show ObOk _ _ _ i (afterOb c m y i)
      rw [obF i h1 hv hf]
      obtain ⟨hro',hfz⟩:=fzmem i hf
      have hob:=ok.rep.ob i
      cases hmo:m.ob i with
      |sl fz0 v0 e0 t0 xs0=>
       simp only [hmo] at hob
       have z3:∀b,(into E' m).Z b→(aft ro E' E2 m).Z b:=fun b hb=>by simp only [aft,hro'];exact f.z0 b hb
       have fin:Rd (aft ro E' E2 m).w (aft ro E' E2 m).Z (.list e0 t0) xs0 [E'.rho i]→ObOk (aft ro E' E2 m) (afterOb c m y) (m.nx+Nat.max 100 (maxId c.outS.objs)) i (.sl .frz v0 e0 t0 xs0):=fun hrd=>by
        refine ⟨?_,BF i h1 hv hf⟩
        rw [show (aft ro E' E2 m).rho i=E'.rho i by simp only [aft,if_pos h1]]
        exact hrd
       cases fz0 with
       |own=>exact fin (Rd_mono (fun b hb=>z3 b (.inr ⟨i,hfz,hb⟩)) (fun b hb=>zstill b (.inr ⟨i,hfz,hb⟩)) _ _ _ (Ow_Rd _ _ _ _ hob))
       |frz=>exact fin (Rd_mono (fun b hb=>z3 b (.inl hb)) (fun b hb=>zstill b (.inl hb)) _ _ _ hob.1)
       |shl=>exact fin (Rd_mono (fun b hb=>z3 b (hb.elim (fun hb=> .inr ⟨i,hfz,hb⟩) .inl)) (fun b hb=>zstill b (hb.elim (fun hb=> .inr ⟨i,hfz,hb⟩) .inl)) _ _ _ (ShOk_Rd hob))
       |hole _ _ _=>exact BF i h1 hv hf
      |box u c=>exact BF i h1 hv hf
      |obox b u c=>exact BF i h1 hv hf
      |dead=>exact BF i h1 hv hf
     |false=>
      show ObOk _ _ _ i (afterOb c m y i)
      rw [obU i h1 hv hf]
      exact ObOk_ev ev (by simp only [aft,if_pos h1]) (BU i h1 hv hf) (fun b hb=>still b (ok.rep.bb i b hb).1 (notsig i b hns hb)) (ok.rep.ob i)
   ·cases hs:sigAt m.sig (i-m.nx) with
    |some q=>
     show ObOk _ _ _ i (afterOb c m y i)
     rw [obD i h1 ⟨q,hs⟩]
     exact BD i h1 ⟨q,hs⟩
    |none=>
     show ObOk _ _ _ i (afterOb c m y i)
     rw [obN i h1 hs]
     exact obren _ i _ (by simp only [aft,if_neg h1]) (BN i h1 hs)
  ·intro i hi'
   have hi':m.nx+Nat.max 100 (maxId c.outS.objs)≤i:=hi'
   have h1:¬i<m.nx:=by omega
   show afterOb c m y i= .dead
   cases hs:sigAt m.sig (i-m.nx) with
   |some q=>exact obD i h1 ⟨q,hs⟩
   |none=>
    rw [obN i h1 hs]
    have:obOf c.outS.objs (c.outS.pO y) (i-m.nx)= .dead:=r2.lt (i-m.nx) (by show Nat.max 100 (maxId c.outS.objs)≤_;omega)
    rw [this];rfl
  ·intro i i' b hne hb hb'
   rcases origin i b hb with ⟨h1,_,h1v,_⟩|⟨j,h1,h2⟩<;>rcases origin i' b hb' with ⟨h1',_,h1v',_⟩|⟨j',h1',h2'⟩
   ·exact ok.rep.dj i i' b hne h1 h1'
   ·exact apart i j' b h1 h1v h1'
   ·exact apart i' j b h1' h1v' h1
   ·refine r2.dj j j' b ?_ h1 h1'
    intro ejj
    subst ejj
    rcases h2 with ⟨h2,h3⟩|⟨h2,h3,h4⟩<;>rcases h2' with ⟨h2',h3'⟩|⟨h2',h3',h4'⟩
    ·have p1:=inv_sig kn h3
     have p2:=inv_sig kn h3'
     rw [p1] at p2
     exact hne (by simpa using p2)
    ·have p1:=inv_sig kn h3
     rw [h4'] at p1;cases p1
    ·have p1:=inv_sig kn h3'
     rw [h4] at p1;cases p1
    ·omega
  ·intro i
   by_cases h1:i<m.nx
   ·cases hv:inv m.sig i with
    |some j=>rw [BS i j h1 hv];exact r2.nd j
    |none=>
     cases hf:(!ro&&elemB i m.fz) with
     |true=>rw [BF i h1 hv hf];exact List.nodup_nil
     |false=>rw [BU i h1 hv hf];exact ok.rep.nd i
   ·cases hs:sigAt m.sig (i-m.nx) with
    |some q=>rw [BD i h1 ⟨q,hs⟩];exact List.nodup_nil
    |none=>rw [BN i h1 hs];exact r2.nd _
  ·intro i b hb
   rcases origin i b hb with ⟨h1,h2,h3,h4⟩|⟨j,h1,_⟩
   ·obtain ⟨p1,p2⟩:=ok.rep.bb i b h1
    refine ⟨Nat.lt_of_lt_of_le p1 f.size,fun hz3=> ?_⟩
    cases ro with
    |true=>simp only [aft,if_true] at hz3;exact p2 hz3
    |false=>
     have hz3:E2.Z b:=by simpa [aft] using hz3
     rcases f.z1 b hz3 with hz|⟨j,hj⟩|hz
     ·rcases hz with hz|⟨i',h5,h6⟩
      ·exact p2 hz
      ·have:i≠i':=fun e=>by
        subst e
        simp only [Bool.not_false,Bool.true_and] at h4
        rw [(elemB_iff i m.fz).2 h5] at h4
        cases h4
       exact ok.rep.dj i i' b this h1 h6
     ·exact notsig i b (inv_none h3) h1 j hj
     ·have:E'.w.heap.size≤b:=hz
      omega
   ·exact ⟨(r2.bb j b h1).1,fun hz3=>(r2.bb j b h1).2 (Z3 b hz3)⟩
  ·intro b hb
   exact r2.zb b (Z3 b hb)
  ·have hE:Fr E E':=⟨by rw [e.w],by rw [e.w],by rw [e.w],by rw [e.w];exact Nat.le_refl _,fun _ _ _=>by rw [e.w],fun i b hb=> .inl ⟨i,by rw [←e.B];exact hb⟩,fun b hb=>by rw [e.Z];exact hb,
    fun b hb=> .inl (by rw [←e.Z];exact hb),fun i hi'=>e.rho i (Nat.lt_of_lt_of_le hi' hi.nx)⟩
   refine (hi.fr.trans hE).trans ⟨f.os,f.tape,f.output,f.size,?_,?_,Z3',?_,?_⟩
   ·intro b hb ho
    refine still b hb fun j hj=> ?_
    obtain ⟨i,_,h2⟩:=IBn j b hj
    exact ho i h2
   ·intro i b hb
    rcases origin i b hb with ⟨h1,_⟩|⟨j,h1,_⟩
    ·exact .inl ⟨i,h1⟩
    ·rcases e2own j b h1 with ⟨_,i',_,h2⟩|h2
     ·exact .inl ⟨i',h2⟩
     ·exact .inr h2
   ·intro b hb
    cases ro with
    |true=>simp only [aft,if_true] at hb;exact .inl hb
    |false=>
     have hb:E2.Z b:=by simpa [aft] using hb
     rcases f.z1 b hb with hz|⟨j,hj⟩|hz
     ·rcases hz with hz|⟨i',_,h6⟩
      ·exact .inl hz
      ·exact .inr (.inl ⟨i',h6⟩)
     ·obtain ⟨i,_,h2⟩:=IBn j b hj
      exact .inr (.inl ⟨i,h2⟩)
     ·exact .inr (.inr hz)
   ·intro i hi'
    have:i<m.nx:=Nat.lt_of_lt_of_le hi' (Nat.le_trans hi.nx e.nx)
    simp only [aft,if_pos this]
 ·intro s v hv
  exact VRep_ren (E:=E2) (F:=aft ro E' E2 m) rfl tauok _ _ s v hzS hv
end
end Go.Am
end
section
set_option linter.unusedVariables false
set_option linter.unusedSimpArgs false
namespace Go.Am
def openE (E:Env) (nx i:Nat) (p b q:List Nat) (cv:Value):Env:=⟨E.w,E.Z,upd E.rho nx cv,upd (upd E.B i (p++q)) nx b⟩
theorem setF_ty {g:(t:Ty)→t.Den→Option t.Den}:∀(a:Ty) (n:Nat) (x y:a.Den) (o:Nat) (u:Ty),setF g a n x=some y→a.at n=some (o,u)→∃z z',g u z=some z':=by
 intro a
 induction a with
 |cons a b _ ihb=>
  intro n x y o u hg ha
  cases n with
  |zero=>
   simp only [Ty.at,Option.some.injEq,Prod.mk.injEq] at ha
   obtain ⟨_,rfl⟩:=ha
   simp only [setF] at hg
   split at hg
   ·rename_i z hz;exact ⟨_,z,hz⟩
   ·cases hg
  |succ n=>
   simp only [Ty.at] at ha
   split at ha
   ·rename_i o' v' hb
    simp only [Option.some.injEq,Prod.mk.injEq] at ha
    obtain ⟨_,rfl⟩:=ha
    simp only [setF] at hg
    split at hg
    ·rename_i z hz;exact ihb n x.2 z o' v' hz hb
    ·cases hg
   ·cases ha
 |_=>intro n x y o u hg ha;simp [Ty.at] at ha
theorem setP_ty:∀(path:List Nat) (d:DV) (t:Ty) (x y:t.Den) (off:Nat) (v:Ty),setP d path t x=some y→t.offP path=some (off,v)→v=d.ty
 |[],d,t,x,y,off,v,hs,ho=>by
  have:=castDV_eq (show castDV t d=some y from hs)
  simp only [Ty.offP,Option.some.injEq,Prod.mk.injEq] at ho
  rw [this,←ho.2]
 |f::r,d,t,x,y,off,v,hs,ho=>by
  simp only [Ty.offP] at ho
  split at ho
  ·rename_i o1 u1 k1
   split at ho
   ·rename_i o2 u2 k2
    simp only [Option.some.injEq,Prod.mk.injEq] at ho
    obtain ⟨_,rfl⟩:=ho
    cases t with
    |st ft=>
     obtain ⟨z,z',hz⟩:=setF_ty (g:=setP d r) ft f x y o1 u1 hs k1
     exact setP_ty r d u1 z z' o2 u2 hz k2
    |_=>simp [Ty.fld] at k1
   ·cases ho
  ·cases ho
theorem opn1_sound {N:Nat} {E0 E:Env} {st st':St} {a:Act} {i ver:Nat} {ix:Int} {path:List Nat} {e':TypeId} {u:Ty} {ys:List u.Den} {cv:Value} (ho:opn1 st i ix path ver e' u ys=some st') (h:Inv N E0 E st a) (hi:i<st.nx) (h0:0≤ix)
 (hsub:∀fz e t xs,st.ob i= .sl fz ver e t xs→SubAt E i t xs ix path ⟨.list e' u,ys⟩ [cv]):
 ∃E',E'.w=E.w∧Inv N E0 E' st' a∧Ev E st.ob st.nx E' st'.ob st'.nx∧st'.sl=st.sl∧st'.nx=st.nx+1∧E'.rho st.nx=cv∧cv.oneCell'=true:=by
 unfold opn1 at ho
 split at ho
 ·rename_i fz v e t xs hob
  split at ho
  ·split at ho
   ·rename_i hb
    obtain rfl:=Nat.eq_of_beq_eq_true hb
    simp only [Option.some.injEq] at ho
    subst ho
    obtain ⟨x,g,off,s1,s2,s3,s4,s5,s6⟩:=hsub _ _ _ _ hob
    have hr:=h.rep.ob i
    rw [hob] at hr
    obtain ⟨p,b,q,c,l1,l2,l3⟩:=Ow_lens hr (h.rep.nd i) s1 s2 s3
    obtain ⟨v2,f2,nb2,rfl,l4⟩:=(show ∃v2 f2 nb2,c=[v2]∧_ from l2)
    have hcv:v2=cv:=by
     obtain ⟨g',cap,cur,x',off',q1,q2,q3,q4,q5,q6,q7,_⟩:=l3
     rw [s3] at q4
     simp only [Option.some.injEq,Prod.mk.injEq] at q4
     obtain ⟨rfl,_⟩:=q4
     have:g'=g:=by rw [q1] at s4;simpa [blkOf] using s4
     subst this
     have e1:=s6 0 cv rfl
     rw [cell_of_row E.w g' _ cur e (0,0) q2] at e1
     have e2:=q7 0 v2 rfl
     rw [e2] at e1
     exact Option.some.inj e1
    subst hcv
    have hnd:=h.rep.nd i
    rw [l1,List.nodup_append,List.nodup_append] at hnd
    have hpq:∀b',b'∈p++q→b'∈E.B i:=fun b' hb'=>by
     rw [l1]
     rcases List.mem_append.1 hb' with hb'|hb'
     ·simp [hb']
     ·simp [hb']
    have hbB:∀b',b'∈b→b'∈E.B i:=fun b' hb'=>by rw [l1];simp [hb']
    have dis:∀b',b'∈p++q→b'∉b:=fun b' hb' hb2=>by
     rcases List.mem_append.1 hb' with hb'|hb'
     ·exact hnd.1.2.2 b' hb' b' hb2 rfl
     ·exact hnd.2.2 b' (List.mem_append.2 (.inr hb2)) b' hb' rfl
    have hone:v2.oneCell'=true:=Ow_one _ _ _ _ l2 v2 (by simp)
    have hne:i≠st.nx:=by omega
    have obN:(upd (upd st.ob i (.sl (.hole ix path st.nx) (v+1) e t xs)) st.nx (.sl .own 0 e' u ys)) st.nx= .sl .own 0 e' u ys:=upd_same _ _ _
    have obI:(upd (upd st.ob i (.sl (.hole ix path st.nx) (v+1) e t xs)) st.nx (.sl .own 0 e' u ys)) i= .sl (.hole ix path st.nx) (v+1) e t xs:=by rw [upd_other _ _ _ _ hne,upd_same]
    have obO:∀j,j≠i→j≠st.nx→(upd (upd st.ob i (.sl (.hole ix path st.nx) (v+1) e t xs)) st.nx (.sl .own 0 e' u ys)) j=st.ob j:=fun j h1 h2=>by rw [upd_other _ _ _ _ h2,upd_other _ _ _ _ h1]
    have BN:(openE E st.nx i p b q v2).B st.nx=b:=upd_same _ _ _
    have BI:(openE E st.nx i p b q v2).B i=p++q:=by show upd (upd E.B i (p++q)) st.nx b i=_;rw [upd_other _ _ _ _ hne,upd_same]
    have BO:∀j,j≠i→j≠st.nx→(openE E st.nx i p b q v2).B j=E.B j:=fun j h1 h2=>by show upd (upd E.B i (p++q)) st.nx b j=_;rw [upd_other _ _ _ _ h2,upd_other _ _ _ _ h1]
    have rhoO:∀j,j<st.nx→(openE E st.nx i p b q v2).rho j=E.rho j:=fun j hj=>upd_other _ _ _ _ (by omega)
    have rhoN:(openE E st.nx i p b q v2).rho st.nx=v2:=upd_same _ _ _
    have from_:∀j b',b'∈(openE E st.nx i p b q v2).B j→(j=st.nx∧b'∈b)∨(j=i∧b'∈p++q)∨(j≠i∧j≠st.nx∧b'∈E.B j):=by
     intro j b' hb'
     by_cases h1:j=st.nx
     ·subst h1;rw [BN] at hb';exact .inl ⟨rfl,hb'⟩
     ·by_cases h2:j=i
      ·subst h2;rw [BI] at hb';exact .inr (.inl ⟨rfl,hb'⟩)
      ·rw [BO j h2 h1] at hb';exact .inr (.inr ⟨h2,h1,hb'⟩)
    have hev:∀j,j<st.nx→∀fz v' e2 t2 xs2,(upd (upd st.ob i (.sl (.hole ix path st.nx) (v+1) e t xs)) st.nx (.sl .own 0 e' u ys)) j= .sl fz v' e2 t2 xs2→
     ∃fz0 v0 xs0,st.ob j= .sl fz0 v0 e2 t2 xs0∧xs0.length=xs2.length∧v0≤v'∧(v0=v'→xs0=xs2∧∀b',b'∈E.B j→E.w.heap[b']?=E.w.heap[b']?∧b'∈(openE E st.nx i p b q v2).B j):=by
     intro j hj fz v' e2 t2 xs2 hoj
     by_cases h2:j=i
     ·subst h2
      rw [obI] at hoj
      cases hoj
      exact ⟨_,_,_,hob,rfl,Nat.le_succ _,fun e=>by omega⟩
     ·rw [obO j h2 (by omega)] at hoj
      exact ⟨fz,v',xs2,hoj,rfl,Nat.le_refl _,fun _=>⟨rfl,fun b' hb'=>⟨rfl,by rw [BO j h2 (by omega)];exact hb'⟩⟩⟩
    have hlay:∀j,j<st.nx→(∀w,((upd (upd st.ob i (.sl (.hole ix path st.nx) (v+1) e t xs)) st.nx (.sl .own 0 e' u ys)) j).lay=some w→(st.ob j).lay=some w)∧
     (((upd (upd st.ob i (.sl (.hole ix path st.nx) (v+1) e t xs)) st.nx (.sl .own 0 e' u ys)) j).isBx=true→(st.ob j).isBx=true):=by
     intro j hj
     by_cases h2:j=i
     ·subst h2
      rw [obI,hob]
      exact ⟨fun w hw=>hw,fun hw=>by cases hw⟩
     ·rw [obO j h2 (by omega)]
      exact ⟨fun _ h=>h,fun h=>h⟩
    have hEv:Ev E st.ob st.nx (openE E st.nx i p b q v2) (upd (upd st.ob i (.sl (.hole ix path st.nx) (v+1) e t xs)) st.nx (.sl .own 0 e' u ys)) (st.nx+1):=
     ⟨Nat.le_succ _,rhoO,fun _ h=>h,fun _ _=>rfl,fun j hj=>(hlay j hj).1,fun j hj=>(hlay j hj).2,fun j hj fz v' e2 t2 xs2 hoj=>by
      obtain ⟨fz0,v0,xs0,k0,k1,k2,k3⟩:=hev j hj fz v' e2 t2 xs2 hoj
      exact ⟨fz0,v0,xs0,k0,k1,k2,fun e=>⟨(k3 e).1,fun b' hb'=>⟨rfl,hb'.imp (fun hb'=>((k3 e).2 b' hb').2) id⟩⟩⟩⟩
    refine ⟨openE E st.nx i p b q v2,rfl,h.gen rfl ⟨rfl,rfl,rfl,Nat.le_refl _,fun _ _ _=>rfl⟩ rfl (Nat.le_succ _) rhoO hev hlay ?_ ?_ ?_ ?_ ?_,hEv,rfl,rfl,rhoN,hone⟩
    ·intro ev j
     by_cases h1:j=st.nx
     ·subst h1
      show ObOk _ _ _ _ ((upd (upd st.ob i (.sl (.hole ix path st.nx) (v+1) e t xs)) st.nx (.sl .own 0 e' u ys)) st.nx)
      rw [obN]
      show Ow _ _ _ _ _
      rw [rhoN,BN]
      exact l2
     ·by_cases h2:j=i
      ·subst h2
       show ObOk _ _ _ _ ((upd (upd st.ob j (.sl (.hole ix path st.nx) (v+1) e t xs)) st.nx (.sl .own 0 e' u ys)) j)
       rw [obI]
       refine ⟨Nat.lt_succ_self _,p,q,e',u,BI,h0,?_⟩
       rw [rhoN,rhoO j hi]
       exact l3
      ·show ObOk _ _ _ _ ((upd (upd st.ob i (.sl (.hole ix path st.nx) (v+1) e t xs)) st.nx (.sl .own 0 e' u ys)) j)
       rw [obO j h2 h1]
       by_cases h3:j<st.nx
       ·exact ObOk_ev ev (rhoO j h3) (BO j h2 h1) (fun _ _=>rfl) (h.rep.ob j)
       ·have hd:=h.rep.lt j (by omega)
        have hb:=h.rep.ob j
        rw [hd] at hb⊢
        show (openE E st.nx i p b q v2).B j=[]
        rw [BO j h2 h1];exact hb
    ·intro j hj
     have hj:st.nx+1≤j:=hj
     show (upd (upd st.ob i (.sl (.hole ix path st.nx) (v+1) e t xs)) st.nx (.sl .own 0 e' u ys)) j=_
     rw [obO j (by omega) (by omega)]
     exact h.rep.lt j (by omega)
    ·intro i1 j b' hij hb1 hb2
     rcases from_ i1 b' hb1 with ⟨rfl,h1⟩|⟨rfl,h1⟩|⟨h1,h2,h3⟩<;>rcases from_ j b' hb2 with ⟨rfl,g1⟩|⟨rfl,g1⟩|⟨g1,g2,g3⟩
     ·exact hij rfl
     ·exact dis b' g1 h1
     ·exact h.rep.dj _ _ b' (fun e=>g1 e.symm) (hbB b' h1) g3
     ·exact dis b' h1 g1
     ·exact hij rfl
     ·exact h.rep.dj _ _ b' (fun e=>g1 e.symm) (hpq b' h1) g3
     ·exact h.rep.dj _ _ b' h1 h3 (hbB b' g1)
     ·exact h.rep.dj _ _ b' h1 h3 (hpq b' g1)
     ·exact h.rep.dj _ _ b' hij h3 g3
    ·intro j
     by_cases h1:j=st.nx
     ·subst h1;rw [BN];exact hnd.1.2.1
     ·by_cases h2:j=i
      ·subst h2
       rw [BI,List.nodup_append]
       exact ⟨hnd.1.1,hnd.2.1,fun b1 hb1 b2 hb2=>hnd.2.2 b1 (List.mem_append.2 (.inl hb1)) b2 hb2⟩
      ·rw [BO j h2 h1];exact h.rep.nd j
    ·intro j b' hb'
     rcases from_ j b' hb' with ⟨rfl,h1⟩|⟨rfl,h1⟩|⟨h1,h2,h3⟩
     ·exact ⟨.inl ⟨i,hbB b' h1⟩,(h.rep.bb i b' (hbB b' h1)).1⟩
     ·exact ⟨.inl ⟨_,hpq b' h1⟩,(h.rep.bb _ b' (hpq b' h1)).1⟩
     ·exact ⟨.inl ⟨j,h3⟩,(h.rep.bb j b' h3).1⟩
   ·cases ho
  ·cases ho
 ·cases ho
theorem splice_same {cur:Array Value} {o:Nat} {v:Value} (h:cur[o]?=some v):(splice cur.toList o [v]).toArray=cur:=by
 have hlt:=(Array.getElem?_eq_some_iff.1 h).1
 have hv:=(Array.getElem?_eq_some_iff.1 h).2
 apply Array.ext'
 simp only [splice,List.length_singleton]
 have h1:cur.toList.drop o=v::cur.toList.drop (o+1):=by
  rw [List.drop_eq_getElem_cons (by simpa using hlt)]
  congr 1
 rw [List.append_assoc,List.singleton_append,←h1,List.take_append_drop]
theorem closeS_sound {N:Nat} {R:Type} {E0 E:Env} {st:St} {a:Act} {d:Option Nat} {i:Nat} {k:St→Option R} {r:R} (hk:closeS d i st k=some r) (h:Inv N E0 E st a):
 ∃st' E',k st'=some r∧Inv N E0 E' st' a∧E'.w=E.w:=by
 unfold closeS at hk
 split at hk
 ·rename_i ix path m ver e t xs hob
  split at hk
  ·rename_i ver2 e' u ys hom
   split at hk
   ·exact ⟨st,E,hk,h,rfl⟩
   ·obtain ⟨x,hx1,hk2⟩:=Option.bind_eq_some_iff.1 hk
    clear hk
    obtain ⟨h0,_,h2,_⟩:=rdL_spec hx1
    split at hk2
    ·rename_i y hy
     have hr:=h.rep.ob i
     rw [hob] at hr
     obtain ⟨hm,p,q,e2,u2,l1,_,l3⟩:=hr
     obtain ⟨g,cap,cur,x0,off,q1,q2,q3,q4,q5,q6,q7,q8⟩:=l3
     rw [h2] at q3
     obtain rfl:=Option.some.inj q3
     have hty:=setP_ty path _ t x y off _ hy q4
     simp only [Ty.list.injEq] at hty
     obtain ⟨rfl,rfl⟩:=hty
     have hrm:=h.rep.ob m
     rw [hom] at hrm
     have hrm:Ow E.w (.list e2 u2) ys [E.rho m] (E.B m):=hrm
     have hmi:m≠i:=fun e=>by subst e;rw [hob] at hom;cases hom
     have hil:i<st.nx:=by
      rcases Nat.lt_or_ge i st.nx with hh|hh
      ·exact hh
      ·rw [h.rep.lt i hh] at hob;cases hob
     have hcell:=q7 0 (E.rho m) rfl
     obtain ⟨x',m1,m2⟩:=q8 E.w ys [E.rho m] (E.B m) (by rw [q2];congr 2;exact (splice_same hcell).symm) (fun _ _ _=>rfl) hrm
     rw [hy] at m1
     obtain rfl:=Option.some.inj m1
     have hpq:∀b',b'∈p++q→b'∈E.B i:=fun b' hb'=>by rw [l1];exact hb'
     have hnd:=h.rep.nd i
     rw [l1] at hnd
     have dis:∀b',b'∈p++q→b'∉E.B m:=fun b' hb' hb2=>h.rep.dj m i b' hmi hb2 (hpq b' hb')
     let E':Env:=⟨E.w,E.Z,E.rho,upd (upd E.B m []) i (p++E.B m++q)⟩
     have obI:(upd (upd st.ob m .dead) i (.sl .own (ver+1) e t (xs.set ix.toNat y))) i= .sl .own (ver+1) e t (xs.set ix.toNat y):=upd_same _ _ _
     have obM:(upd (upd st.ob m .dead) i (.sl .own (ver+1) e t (xs.set ix.toNat y))) m= .dead:=by rw [upd_other _ _ _ _ hmi,upd_same]
     have obO:∀j,j≠i→j≠m→(upd (upd st.ob m .dead) i (.sl .own (ver+1) e t (xs.set ix.toNat y))) j=st.ob j:=fun j h1 h2=>by rw [upd_other _ _ _ _ h1,upd_other _ _ _ _ h2]
     have BI:E'.B i=p++E.B m++q:=upd_same _ _ _
     have BM:E'.B m=[]:=by show upd (upd E.B m []) i _ m=_;rw [upd_other _ _ _ _ hmi,upd_same]
     have BO:∀j,j≠i→j≠m→E'.B j=E.B j:=fun j h1 h2=>by show upd (upd E.B m []) i _ j=_;rw [upd_other _ _ _ _ h1,upd_other _ _ _ _ h2]
     have from_:∀j b',b'∈E'.B j→(j=i∧(b'∈p++q∨b'∈E.B m))∨(j≠i∧j≠m∧b'∈E.B j):=by
      intro j b' hb'
      by_cases h1:j=i
      ·subst h1
       rw [BI] at hb'
       refine .inl ⟨rfl,?_⟩
       rcases List.mem_append.1 hb' with hb'|hb'
       ·rcases List.mem_append.1 hb' with hb'|hb'
        ·exact .inl (List.mem_append.2 (.inl hb'))
        ·exact .inr hb'
       ·exact .inl (List.mem_append.2 (.inr hb'))
      ·by_cases h2:j=m
       ·subst h2;rw [BM] at hb';simp at hb'
       ·rw [BO j h1 h2] at hb';exact .inr ⟨h1,h2,hb'⟩
     refine ⟨_,E',hk2,h.gen rfl ⟨rfl,rfl,rfl,Nat.le_refl _,fun _ _ _=>rfl⟩ rfl (Nat.le_refl _) (fun _ _=>rfl) ?_ ?_ ?_ ?_ ?_ ?_ ?_,rfl⟩
     ·intro j hj fz v' e3 t3 xs3 hoj
      have hoj:(upd (upd st.ob m .dead) i (.sl .own (ver+1) e t (xs.set ix.toNat y))) j= .sl fz v' e3 t3 xs3:=hoj
      by_cases h1:j=i
      ·subst h1
       rw [obI] at hoj
       cases hoj
       exact ⟨_,_,_,hob,by simp,Nat.le_succ _,fun e=>by omega⟩
      ·by_cases h2:j=m
       ·subst h2;rw [obM] at hoj;cases hoj
       ·rw [obO j h1 h2] at hoj
        exact ⟨fz,v',xs3,hoj,rfl,Nat.le_refl _,fun _=>⟨rfl,fun b' hb'=>⟨rfl,by rw [BO j h1 h2];exact hb'⟩⟩⟩
     ·intro j hj
      show (∀w,((upd (upd st.ob m .dead) i (.sl .own (ver+1) e t (xs.set ix.toNat y))) j).lay=some w→(st.ob j).lay=some w)∧(((upd (upd st.ob m .dead) i (.sl .own (ver+1) e t (xs.set ix.toNat y))) j).isBx=true→(st.ob j).isBx=true)
      by_cases h1:j=i
      ·subst h1
       rw [obI,hob]
       exact ⟨fun w hw=>hw,fun hw=>by cases hw⟩
      ·by_cases h2:j=m
       ·subst h2
        rw [obM]
        exact ⟨fun w hw=>by simp [Ob.lay] at hw,fun hw=>by simp [Ob.isBx] at hw⟩
       ·rw [obO j h1 h2]
        exact ⟨fun _ h=>h,fun h=>h⟩
     ·intro ev j
      show ObOk _ _ _ _ ((upd (upd st.ob m .dead) i (.sl .own (ver+1) e t (xs.set ix.toNat y))) j)
      by_cases h1:j=i
      ·subst h1
       rw [obI]
       show Ow _ _ _ _ _
       rw [BI]
       exact m2
      ·by_cases h2:j=m
       ·subst h2;rw [obM];exact BM
       ·rw [obO j h1 h2]
        exact ObOk_ev ev rfl (BO j h1 h2) (fun _ _=>rfl) (h.rep.ob j)
     ·intro j hj
      show (upd (upd st.ob m .dead) i (.sl .own (ver+1) e t (xs.set ix.toNat y))) j=_
      have hj:st.nx≤j:=hj
      by_cases h2:j=m
      ·subst h2;exact obM
      ·rw [obO j (by omega) h2]
       exact h.rep.lt j hj
     ·intro i1 j b' hij hb1 hb2
      rcases from_ i1 b' hb1 with ⟨rfl,h1⟩|⟨h1,h2,h3⟩<;>rcases from_ j b' hb2 with ⟨rfl,g1⟩|⟨g1,g2,g3⟩
      ·exact hij rfl
      ·rcases h1 with h1|h1
       ·exact h.rep.dj _ _ b' hij (hpq b' h1) g3
       ·exact h.rep.dj _ _ b' (fun e=>g2 e.symm) h1 g3
      ·rcases g1 with g1|g1
       ·exact h.rep.dj _ _ b' hij h3 (hpq b' g1)
       ·exact h.rep.dj _ _ b' h2 h3 g1
      ·exact h.rep.dj _ _ b' hij h3 g3
     ·intro j
      by_cases h1:j=i
      ·subst h1
       rw [BI]
       rw [List.nodup_append] at hnd
       rw [List.nodup_append,List.nodup_append]
       refine ⟨⟨hnd.1,h.rep.nd m,fun b1 hb1 b2 hb2 e=> ?_⟩,hnd.2.1,fun b1 hb1 b2 hb2 e=> ?_⟩
       ·subst e;exact dis b1 (List.mem_append.2 (.inl hb1)) hb2
       ·subst e
        rcases List.mem_append.1 hb1 with hb1|hb1
        ·exact hnd.2.2 b1 hb1 b1 hb2 rfl
        ·exact dis b1 (List.mem_append.2 (.inr hb2)) hb1
      ·by_cases h2:j=m
       ·subst h2;rw [BM];exact List.nodup_nil
       ·rw [BO j h1 h2];exact h.rep.nd j
     ·intro j b' hb'
      rcases from_ j b' hb' with ⟨rfl,h1|h1⟩|⟨h1,h2,h3⟩
      ·exact ⟨.inl ⟨_,hpq b' h1⟩,(h.rep.bb _ b' (hpq b' h1)).1⟩
      ·exact ⟨.inl ⟨m,h1⟩,(h.rep.bb m b' h1).1⟩
      ·exact ⟨.inl ⟨j,h3⟩,(h.rep.bb j b' h3).1⟩
    ·cases hk2
  ·exact ⟨st,E,hk,h,rfl⟩
 ·cases hk
theorem getF_at:∀(t:Ty) (n:Nat) (x:t.Den) (e:DV),getF t n x=some e→∃oo,t.at n=some (oo,e.ty):=by
 intro t
 induction t with
 |cons a b _ ihb=>
  intro n x e hh
  cases n with
  |zero=>
   simp only [getF,Option.some.injEq] at hh
   subst hh
   exact ⟨0,rfl⟩
  |succ n=>
   obtain ⟨oo,hu⟩:=ihb n x.2 e hh
   exact ⟨a.size+oo,by simp [Ty.at,hu]⟩
 |_=>intro n x e hh;cases n<;>simp [getF] at hh
structure Opnd (N:Nat) (E0 E:Env) (st:St) (a:Act) (E':Env) (st':St):Prop where
 w:E'.w=E.w
 inv:Inv N E0 E' st' a
 ev:Ev E st.ob st.nx E' st'.ob st'.nx
 sl:st'.sl=st.sl
theorem openC_rep {N:Nat} {E0 E:Env} {st:St} {a:Act} (h:Inv N E0 E st a):∀(cs:CS) (c c':Cn) (st':St) (i:Nat) (md:Bool) (vs:List Value),openC st cs c=some (c',st',i)→CRep E st.ob st.nx c md vs→
 ∃E',Opnd N E0 E st a E' st'∧CRep E' st'.ob st'.nx c' md vs∧c'.isAgg=c.isAgg:=by
 intro cs
 induction cs with
 |h j=>
  intro c c' st' i md vs ho hc
  cases c with
  |sub i0 ix path ver d=>
   obtain ⟨ty,ys⟩:=d
   cases ty with
   |list e u=>
    simp only [openC] at ho
    split at ho
    ·rename_i st2 hop
     simp only [Option.some.injEq,Prod.mk.injEq] at ho
     obtain ⟨rfl,rfl,rfl⟩:=ho
     obtain ⟨⟨k0,k1⟩,k2,k3,k4,k5⟩:(vs.length=1∧∀x,x∈vs→x.oneCell'=true)∧_:=by cases md<;>exact hc
     obtain ⟨v,rfl⟩:∃v,vs=[v]:=by
      match vs,k0 with
      |[v],_=>exact ⟨v,rfl⟩
     obtain ⟨E',e1,e2,e3,e4,e5,e6,e7⟩:=opn1_sound hop h k2 k3 (fun fz e0 t xs hob=>by rw [hob] at k5;exact (k5 rfl).2)
     refine ⟨E',⟨e1,e2,e3,e4⟩,?_,rfl⟩
     have:CRep E' st2.ob st2.nx (.h st.nx) md [v]↔st.nx<st2.nx∧(E'.rho st.nx).oneCell'=true∧[v]=[E'.rho st.nx]:=by cases md<;>exact Iff.rfl
     exact this.2 ⟨by omega,by rw [e6];exact e7,by rw [e6]⟩
    ·cases ho
   |_=>simp [openC] at ho
  |_=>simp [openC] at ho
 |agg a ih=>
  intro c c' st' i md vs ho hc
  cases c with
  |agg x=>
   simp only [openC] at ho
   split at ho
   ·rename_i x' st2 i2 hx
    simp only [Option.some.injEq,Prod.mk.injEq] at ho
    obtain ⟨rfl,rfl,rfl⟩:=ho
    have hc:CRep E st.ob st.nx x false vs:=by cases md<;>exact hc
    obtain ⟨E',e1,e2,_⟩:=ih _ _ _ _ false vs hx hc
    exact ⟨E',e1,by cases md<;>exact e2,rfl⟩
   ·cases ho
  |_=>simp [openC] at ho
 |cons a b iha ihb=>
  intro c c' st' i md vs ho hc
  cases c with
  |cons x y=>
   simp only [openC] at ho
   split at ho
   ·rename_i x' st2 i2 hx
    simp only [Option.some.injEq,Prod.mk.injEq] at ho
    obtain ⟨rfl,rfl,rfl⟩:=ho
    cases md with
    |false=>
     obtain ⟨c1,c2,h0,h1,h2⟩:=hc
     obtain ⟨E',e1,e2,_⟩:=iha _ _ _ _ false c1 hx h1
     exact ⟨E',e1,⟨c1,c2,h0,e2,CRep_ev e1.ev _ _ _ h2⟩,rfl⟩
    |true=>
     obtain ⟨v,ws,c1,h0,h1,h2,h3⟩:=hc
     obtain ⟨E',e1,e2,e3⟩:=iha _ _ _ _ false c1 hx h1
     exact ⟨E',e1,⟨v,ws,c1,h0,e2,by rw [e3];exact h2,CRep_ev e1.ev _ _ _ h3⟩,rfl⟩
   ·split at ho
    ·rename_i y' st2 i2 hy
     simp only [Option.some.injEq,Prod.mk.injEq] at ho
     obtain ⟨rfl,rfl,rfl⟩:=ho
     cases md with
     |false=>
      obtain ⟨c1,c2,h0,h1,h2⟩:=hc
      obtain ⟨E',e1,e2,_⟩:=ihb _ _ _ _ false c2 hy h2
      exact ⟨E',e1,⟨c1,c2,h0,CRep_ev e1.ev _ _ _ h1,e2⟩,rfl⟩
     |true=>
      obtain ⟨v,ws,c1,h0,h1,h2,h3⟩:=hc
      obtain ⟨E',e1,e2,e3⟩:=ihb _ _ _ _ true ws hy h3
      exact ⟨E',e1,⟨v,ws,c1,h0,CRep_ev e1.ev _ _ _ h1,h2,e2⟩,rfl⟩
    ·cases ho
  |_=>simp [openC] at ho
 |_=>intro c c' st' i md vs ho;cases c<;>simp [openC] at ho
theorem openC_sound {N:Nat} {E0 E:Env} {st st':St} {a:Act} {cs:CS} {c c':Cn} {i:Nat} {v:Value} (ho:openC st cs c=some (c',st',i)) (h:Inv N E0 E st a) (hv:VRep E st.ob st.nx c v):
 ∃E',Opnd N E0 E st a E' st'∧VRep E' st'.ob st'.nx c' v:=by
 have hd:c≠ .dead:=by intro e;subst e;cases cs<;>simp [openC] at ho
 obtain ⟨vs,h1,h2⟩:=VRep_one hv hd
 obtain ⟨E',e1,e2,e3⟩:=openC_rep h cs c c' st' i false vs ho h1
 exact ⟨E',e1,VRep_mk vs e2 (by rw [e3];exact h2)⟩
theorem openL_sound {N:Nat} {E0 E:Env} {st st':St} {a:Act} {i:Nat} {vs:Nat→Value}:∀(l:List (Nat×CS)) (n:Nat) (args args':List Cn),openL l n args st=some (args',st',i)→Inv N E0 E st a→(∀j,VRep E st.ob st.nx (argSl args j) (vs j))→
 args'.length=args.length∧∃E',Opnd N E0 E st a E' st'∧∀j,VRep E' st'.ob st'.nx (argSl args' j) (vs j)
 |[],_,_,_,ho,_,_=>by simp [openL] at ho
 |x::r,n,[],_,ho,_,_=>by simp [openL] at ho
 |x::r,n,c::cs,args',ho,h,hv=>by
  simp only [openL] at ho
  split at ho
  ·split at ho
   ·rename_i c' st2 i2 hc
    simp only [Option.some.injEq,Prod.mk.injEq] at ho
    obtain ⟨rfl,rfl,rfl⟩:=ho
    obtain ⟨E',e1,e2⟩:=openC_sound hc h (hv 0)
    refine ⟨rfl,E',e1,fun j=> ?_⟩
    cases j with
    |zero=>exact e2
    |succ j=>exact VRep_ev e1.ev (hv (j+1))
   ·split at ho
    ·rename_i l' st2 i2 hl
     simp only [Option.some.injEq,Prod.mk.injEq] at ho
     obtain ⟨rfl,rfl,rfl⟩:=ho
     obtain ⟨e0,E',e1,e2⟩:=openL_sound (vs:=fun j=>vs (j+1)) r (n+1) cs l' hl h (fun j=>hv (j+1))
     refine ⟨by simp [e0],E',e1,fun j=> ?_⟩
     cases j with
     |zero=>exact VRep_ev e1.ev (hv 0)
     |succ j=>exact e2 j
    ·cases ho
  ·cases ho
theorem coH_sound {N:Nat} {E0 E:Env} {st:St} {a:Act} (c:Cn) (h:Inv N E0 E st a):∃E',Opnd N E0 E st a E' {st with ob:=coH c st.ob}:=by
 have same:Opnd N E0 E st a E st:=⟨rfl,h,⟨Nat.le_refl _,fun _ _=>rfl,fun _ h=>h,fun _ _=>rfl,fun _ _ _ h=>h,fun _ _ h=>h,fun i hi fz v e t xs ho=>⟨fz,v,xs,ho,rfl,Nat.le_refl _,fun _=>⟨rfl,fun b hb=>⟨rfl,hb⟩⟩⟩⟩,rfl⟩
 unfold coH
 split
 ·rename_i i
  split
  ·rename_i fz v e t xs hob
   split
   ·have hr:=h.rep.ob i
    rw [hob] at hr
    obtain ⟨v',f,nb,k1,k2,k3,k4⟩:=hr
    have k1:E.rho i=v':=by simpa using k1
    have hil:i<st.nx:=by
     rcases Nat.lt_or_ge i st.nx with hh|hh
     ·exact hh
     ·rw [h.rep.lt i hh] at hob;cases hob
    have hnd:=h.rep.nd i
    rw [k4,List.nodup_append] at hnd
    have hnb:∀b,b∈nb→b∈E.B i:=fun b hb=>by rw [k4];exact List.mem_append.2 (.inr hb)
    let E':Env:=⟨E.w,fun b=>E.Z b∨b∈nb,E.rho,upd E.B i v'.ownBlock.toList⟩
    have obI:(upd st.ob i (.sl .shl v e t xs)) i= .sl .shl v e t xs:=upd_same _ _ _
    have obO:∀j,j≠i→(upd st.ob i (.sl .shl v e t xs)) j=st.ob j:=fun j hj=>upd_other _ _ _ _ hj
    have BI:E'.B i=v'.ownBlock.toList:=upd_same _ _ _
    have BO:∀j,j≠i→E'.B j=E.B j:=fun j hj=>upd_other _ _ _ _ hj
    have Bsub:∀j b,b∈E'.B j→b∈E.B j:=fun j b hb=>by
     by_cases hj:j=i
     ·subst hj;rw [BI] at hb;rw [k4];exact List.mem_append.2 (.inl hb)
     ·rw [BO j hj] at hb;exact hb
    have ev:Ev E st.ob st.nx E' (upd st.ob i (.sl .shl v e t xs)) st.nx:=by
     refine ⟨Nat.le_refl _,fun _ _=>rfl,fun b hb=> .inl hb,fun _ _=>rfl,fun j hj u hu=> ?_,fun j hj hu=> ?_,fun j hj fz v2 e2 t2 xs2 ho=> ?_⟩
     ·by_cases hji:j=i
      ·subst hji;rw [obI] at hu;rw [hob];exact hu
      ·rw [obO j hji] at hu;exact hu
     ·by_cases hji:j=i
      ·subst hji;rw [obI] at hu;cases hu
      ·rw [obO j hji] at hu;exact hu
     ·by_cases hji:j=i
      ·subst hji
       rw [obI] at ho
       cases ho
       refine ⟨_,_,_,hob,rfl,Nat.le_refl _,fun _=>⟨rfl,fun b hb=>⟨rfl,?_⟩⟩⟩
       rcases hb with hb|hb
       ·rw [k4] at hb
        rcases List.mem_append.1 hb with hb|hb
        ·exact .inl (by rw [BI];exact hb)
        ·exact .inr (.inr hb)
       ·exact .inr (.inl hb)
      ·rw [obO j hji] at ho
       exact ⟨fz,v2,xs2,ho,rfl,Nat.le_refl _,fun _=>⟨rfl,fun b hb=>⟨rfl,hb.imp (fun hb=>by rw [BO j hji];exact hb) .inl⟩⟩⟩
    refine ⟨E',rfl,⟨h.rep.turn (st':={st with ob:=upd st.ob i (.sl .shl v e t xs)}) rfl ev ?_ ?_ ?_ ?_ ?_ ?_,?_,h.defers,h.size,h.nx⟩,ev,rfl⟩
    ·intro j
     show ObOk _ _ _ _ (upd st.ob i (.sl .shl v e t xs) j)
     by_cases hji:j=i
     ·subst hji
      rw [obI]
      refine ⟨f,by rw [show E'.rho j=E.rho j from rfl,k1];exact k2,?_,by rw [BI,show E'.rho j=E.rho j from rfl,k1]⟩
      exact OEls_Els xs f nb (fun x c b hb hx=>Rd_mono (fun q hq=> .inr (hb q hq)) (fun _ _=>rfl) t x c (Ow_Rd t x c b hx)) k3
     ·rw [obO j hji]
      exact ObOk_ev ev rfl (BO j hji) (fun _ _=>rfl) (h.rep.ob j)
    ·intro j hj
     show upd st.ob i (.sl .shl v e t xs) j=_
     have hj:st.nx≤j:=hj
     rw [obO j (by omega)]
     exact h.rep.lt j hj
    ·intro i1 j b hij h1 h2
     exact h.rep.dj i1 j b hij (Bsub _ _ h1) (Bsub _ _ h2)
    ·intro j
     by_cases hji:j=i
     ·subst hji;rw [BI];exact hnd.1
     ·rw [BO j hji];exact h.rep.nd j
    ·intro j b hb
     refine ⟨(h.rep.bb j b (Bsub j b hb)).1,fun hz=> ?_⟩
     rcases hz with hz|hz
     ·exact (h.rep.bb j b (Bsub j b hb)).2 hz
     ·by_cases hji:j=i
      ·subst hji
       rw [BI] at hb
       exact hnd.2.2 b hb b hz rfl
      ·rw [BO j hji] at hb
       exact h.rep.dj j i b hji hb (hnb b hz)
    ·intro b hb
     rcases hb with hb|hb
     ·exact h.rep.zb b hb
     ·exact (h.rep.bb i b (hnb b hb)).1
    ·exact h.fr.trans ⟨rfl,rfl,rfl,Nat.le_refl _,fun _ _ _=>rfl,fun j b hb=> .inl ⟨j,Bsub j b hb⟩,fun b hb=> .inl hb,fun b hb=>hb.imp id (fun hb=> .inl ⟨i,hnb b hb⟩),fun _ _=>rfl⟩
   ·exact ⟨E,same⟩
  ·exact ⟨E,same⟩
 ·exact ⟨E,same⟩
section
variable {P:Program} {R:Type} {C:Ctx} {o:Oper} {st:St} {k:St→Option R} {r:R} {E0 E:Env} {a:Act} {K:Act→World→Prop} {Q:Exit→Act→World→Prop} {g:Bool}
theorem appOK_sound (htt:∀t u,C.tt t=some u→TOk P t u) {pure:Bool} {t t2:TypeId} {S X:Operand} {s x:Cn} (ho:o.op= .call {callee:= .builtin .append,args:= #[S,X],argTypes:= #[t,t2]}) (hgf:g=false)
 (hk:appOK C pure o t t2 s x st k=some r) (h:Inv C.N E0 E st a) (hs:VRep E st.ob st.nx s (a.eval S)) (hx:VRep E st.ob st.nx x (a.eval X))
 (hK:∀st' E' v,k st'=some r→Inv C.N E0 E' st' (a.put o.dst v)→Pur P C g o a v E.w E'.w→K (a.put o.dst v) E'.w):o.wp P a E.w K Q:=by
 unfold appOK at hk
 split at hk
 ·obtain ⟨E1,o1⟩:=coH_sound s h
  obtain ⟨E2,o2⟩:=coH_sound (st:={st with ob:=coH s st.ob}) x o1.inv
  have hw:E2.w=E.w:=o2.w.trans o1.w
  refine hw▸appShK_sound htt ho hgf hk o2.inv (VRep_ev o2.ev (VRep_ev o1.ev hs)) (VRep_ev o2.ev (VRep_ev o1.ev hx)) ?_
  intro st3 E3 v hk3 hi3 hp3
  exact hK st3 E3 v hk3 hi3 (by rw [←hw];exact hp3)
 ·split at hk
  ·rename_i i ix path ver e u ys
   split at hk
   ·rename_i st' hop
    obtain ⟨vs,⟨k1,k2,k3,k4,k5⟩,hm⟩:=hs
    have hm:vs=[a.eval S]:=hm
    subst hm
    obtain ⟨E',e1,e2,e3,e4,e5,e6,e7⟩:=opn1_sound hop h k2 k3 (fun fz e0 t xs hob=>by rw [hob] at k5;exact (k5 rfl).2)
    refine e1▸appK_sound (pure:=pure) (s:= .h st.nx) (x:=x) htt ho hgf hk e2 ⟨[a.eval S],⟨by omega,by rw [e6];exact e7,by rw [e6]⟩,rfl⟩ (VRep_ev e3 hx) ?_
    intro st3 E3 v hk3 hi3 hp3
    exact hK st3 E3 v hk3 hi3 (by rw [←e1];exact hp3)
   ·cases hk
  ·exact appK_sound htt ho hgf hk h hs hx hK
end
end Go.Am
end
section
set_option linter.unusedVariables false
set_option linter.unusedSimpArgs false
namespace Go.Am
def Kd (o:Ob) (os:OS):Prop:=
 ∃z,o.lay=(OS.ob os z).lay∧o.isBx=(OS.ob os z).isBx∧∀(e:TypeId) (t:Ty) (xs0:List t.Den),OS.ob os z= .sl .own 0 e t xs0→∃v0 xs1,o= .sl .own v0 e t xs1
theorem kdB_sound {o:Ob} {os:OS} (h:kdB o os=true):Kd o os:=by
 cases o with
 |sl fz ver e t xs=>
  cases fz<;>cases os<;>simp only [kdB] at h<;>try (cases h;done)
  rename_i e' t'
  simp only [Bool.and_eq_true] at h
  obtain rfl:=Nat.eq_of_beq_eq_true h.1
  obtain rfl:=of_decide_eq_true h.2
  refine ⟨(by exact []),rfl,rfl,fun e t xs0 he=> ?_⟩
  simp only [OS.ob,Ob.sl.injEq] at he
  obtain ⟨-,-,rfl,rfl,_⟩:=he
  exact ⟨ver,_,rfl⟩
 |box u c=>
  cases os<;>simp only [kdB] at h<;>try (cases h;done)
  ·rename_i v cs
   obtain rfl:=of_decide_eq_true h
   exact ⟨cs.dflt,rfl,rfl,fun e t xs0 he=>by simp [OS.ob] at he⟩
  ·rename_i v cs
   obtain rfl:=of_decide_eq_true h
   exact ⟨(true,cs.dflt),rfl,rfl,fun e t xs0 he=>by simp [OS.ob] at he⟩
 |obox b u c=>
  cases os<;>simp only [kdB] at h<;>try (cases h;done)
  rename_i v cs
  obtain rfl:=of_decide_eq_true h
  exact ⟨(true,cs.dflt),rfl,rfl,fun e t xs0 he=>by simp [OS.ob] at he⟩
 |dead=>cases os<;>simp only [kdB] at h<;>cases h
theorem kdsB_sound {m:Mt} {objs:List (Nat×OS)}:∀{s:List (Nat×Nat)},kdsB m objs s=true→∀j i,sigAt s j=some i→∃o,findO objs j=some o∧Kd (m.ob i) o
 |[],_,j,i,h=>by cases h
 |x::r,hk,j,i,h=>by
  obtain ⟨a,b⟩:=x
  simp only [kdsB,Bool.and_eq_true] at hk
  rw [sigAt_cons] at h
  split at h
  ·rename_i e
   cases h
   subst e
   have h1:=hk.1
   split at h1
   ·rename_i o ho;exact ⟨o,ho,kdB_sound h1⟩
   ·cases h1
  ·exact kdsB_sound hk.2 j i h
theorem evL_sound {C:Ctx} {st:St} {E:Env} {a:Act} (hr:Rep E st a.tmps):∀(xs:List Operand) (ts:List TypeId) (l:List Cn),evL C st xs ts=some l→
 l.length=xs.length∧∀i,VRep E st.ob st.nx (argSl l i) ((xs.map a.eval).getD i undef)
 |[],ts,l,h=>by
  cases h
  exact ⟨rfl,fun i=>trivial⟩
 |x::r,ts,l,h=>by
  simp only [evL] at h
  split at h
  ·rename_i c l' h1 h2
   cases h
   obtain ⟨h3,h4⟩:=evL_sound hr r _ _ h2
   refine ⟨by simp [h3],fun i=> ?_⟩
   cases i with
   |zero=>exact ev_sound h1 hr
   |succ i=>simpa [argSl] using h4 i
  ·cases h
theorem uncaps_sound {E:Env} {ob:Nat→Ob} {nx:Nat}:∀(c:Cn) (l:List Cn) (vs:List Value),uncaps c=some l→CRep E ob nx c true vs→
 l.length=vs.length∧∀i,VRep E ob nx (argSl l i) (vs.getD i undef)
 | .nil,l,vs,h,hc=>by
   cases h
   have hc:vs=[]:=hc
   subst hc
   exact ⟨rfl,fun i=>trivial⟩
 | .cons a b,l,vs,h,hc=>by
   simp only [uncaps] at h
   split at h
   ·rename_i l' h1
    cases h
    obtain ⟨v,ws,c,rfl,h2,h3,h4⟩:=hc
    obtain ⟨h5,h6⟩:=uncaps_sound b l' ws h1 h4
    refine ⟨by simp [h5],fun i=> ?_⟩
    cases i with
    |zero=>exact VRep_mk c h2 h3
    |succ i=>simpa [argSl] using h6 i
   ·cases h
 | .ro _ _,l,vs,h,hc| .nils _ _,l,vs,h,hc| .h _,l,vs,h,hc| .p _,l,vs,h,hc| .addr _ _ _ _ _ _,l,vs,h,hc| .rdp _ _,l,vs,h,hc| .sub _ _ _ _ _,l,vs,h,hc
 | .fn _ _,l,vs,h,hc| .tup _,l,vs,h,hc| .agg _,l,vs,h,hc| .cst _,l,vs,h,hc| .any,l,vs,h,hc| .dead,l,vs,h,hc=>by cases h
theorem argSl_append:∀(l r:List Cn) (i:Nat),argSl (l++r) i=if i<l.length then argSl l i else argSl r (i-l.length)
 |[],r,i=>by simp
 |c::l,r,0=>by simp [argSl]
 |c::l,r,i+1=>by
  show argSl (l++r) i=_
  rw [argSl_append l r i]
  simp [argSl]
theorem resC_sound {E2 E3:Env} {ob2 ob3:Nat→Ob} {nx2 nx3:Nat} {c:Con} {m:Mt} {y:c.outS.Den} {tm:Array Value}
 (h:∀s,VRep E3 ob3 nx3 (renC (tau m) (slOf c.outS.slots (c.outS.pS y) s)) (tm.getD s undef)):
 ∀(n i:Nat) (vs:List Value),vs.length=n→(∀q,q<n→vs[q]?=some (tm.getD (i+q) undef))→CRep E3 ob3 nx3 (renC (tau m) (resC c y n i)) true vs
 |0,i,vs,hl,hv=>by
  have:vs=[]:=List.eq_nil_of_length_eq_zero hl
  exact this
 |n+1,i,vs,hl,hv=>by
  cases vs with
  |nil=>simp at hl
  |cons v ws=>
   have h0:=hv 0 (Nat.succ_pos _)
   simp only [List.getElem?_cons_zero,Option.some.injEq,Nat.add_zero] at h0
   have hr:=resC_sound (E2:=E2) (ob2:=ob2) (nx2:=nx2) h n (i+1) ws (by simpa using hl) (fun q hq=>by
    have:=hv (q+1) (by omega)
    simpa [Nat.add_assoc,Nat.add_comm 1 q] using this)
   have hi:=h i
   rw [←h0] at hi
   show CRep E3 ob3 nx3 (.cons (renC (tau m) (slOf c.outS.slots (c.outS.pS y) i)) (renC (tau m) (resC c y n (i+1)))) true (v::ws)
   generalize renC (tau m) (slOf c.outS.slots (c.outS.pS y) i)=q at hi
   by_cases hd:q= .dead
   ·subst hd
    exact ⟨v,ws,[v],rfl,trivial,rfl,hr⟩
   ·obtain ⟨cs,h1,h2⟩:=VRep_one hi hd
    exact ⟨v,ws,cs,rfl,h1,h2,hr⟩
section
variable {P:Program} {R:Type} {C:Ctx} {o:Oper} {st:St} {k:St→Option R} {r:R} {E0 E:Env} {a:Act} {K:Act→World→Prop} {Q:Exit→Act→World→Prop} {g:Bool}
theorem call1_sound {pure:Bool} {f:FuncId} {args:List Cn} {argv:Array Value} {c:Con} {x:c.inS.Den} {y:c.outS.Den} {m:Mt} (hc:FnOk P f c) (hgp:g=true→pure=true) (hst:still C o=false) (hal:isAl o=false)
 (hm:matchSt c.outS.noRo true c.inS ⟨argSl args,st.ob,st.nx⟩=some (x,m))
 (hno:(pure&& !(isNil m.sig&&(c.outS.noRo||isNil m.fz)))=false∧objsOk c.inS.objs c.outS.objs=true∧Nat.beq args.length c.nargs=true∧kdsB m c.inS.objs m.sig=true) (hF:c.F x=some y)
 (hk:putK C o (retC c m y) {sl:=st.sl,ob:=afterOb c m y,nx:=m.nx+Nat.max 100 (maxId c.outS.objs)} k=some r) (h:Inv C.N E0 E st a)
 (hsz:argv.size=args.length) (hargs:∀i,VRep E st.ob st.nx (argSl args i) (argv.getD i undef)) (hrun:∀q,(callFunc f argv).run P E.w=q→(execOp a.eval o).run P E.w=q)
 (hK:∀st' E' v,k st'=some r→Inv C.N E0 E' st' (a.put o.dst v)→Pur P C g o a v E.w E'.w→K (a.put o.dst v) E'.w):o.wp P a E.w K Q:=by
 have hrep:Rep E ⟨argSl args,st.ob,st.nx⟩ argv:=⟨hargs,h.rep.ob,h.rep.lt,h.rep.dj,h.rep.nd,h.rep.bb,h.rep.zb⟩
 obtain ⟨E',e1,e2,e3,e4,e5⟩:=matchSt_sound hm hrep
 have hkd:=kdsB_sound hno.2.2.2
 have hfn:=hc (into E' m) argv x y (hsz.trans (Nat.eq_of_beq_eq_true hno.2.2.1)) hF e5
 rw [show (into E' m).w=E.w from e1.w] at hfn
 refine wp_call (fun _=>hrun) hfn ?_
 rintro v w' ⟨E2,tm,rfl,fr,r2,hret⟩
 obtain ⟨hinv,hval⟩:=after_sound h e1 e2 e3 e4 (fun j i hji=>by
  obtain ⟨o,ho,z,h1,h2,h3⟩:=hkd j i hji
  exact ⟨o,z,ho,h1,h2,h3⟩) hno.2.1 fr r2
 have hv:VRep (aft c.outS.noRo E' E2 m) (afterOb c m y) (m.nx+Nat.max 100 (maxId c.outS.objs)) (retC c m y) v:=by
  have hall:∀s,VRep (aft c.outS.noRo E' E2 m) (afterOb c m y) (m.nx+Nat.max 100 (maxId c.outS.objs)) (renC (tau m) (slOf c.outS.slots (c.outS.pS y) s)) (tm.getD s undef):=
   fun s=>hval s _ (r2.sl s)
  unfold retC
  have tupcase:(∃vs:List Value,v= .tuple vs.toArray∧vs.length=c.nres∧∀i,i<c.nres→vs[i]?=some (tm.getD i undef))→
   VRep (aft c.outS.noRo E' E2 m) (afterOb c m y) (m.nx+Nat.max 100 (maxId c.outS.objs)) (.tup (renC (tau m) (resC c y c.nres 0))) v:=by
   rintro ⟨vs,rfl,hl,hv⟩
   exact ⟨_,⟨vs,rfl,resC_sound (E2:=E2) (ob2:=fun _=> .dead) (nx2:=0) hall c.nres 0 vs hl (fun q hq=>by rw [Nat.zero_add];exact hv q hq)⟩,rfl⟩
  generalize hn:c.nres=n at hret tupcase
  match n with
  |0=>exact tupcase hret
  |1=>
   have hret:v=tm.getD 0 undef:=hret
   rw [hret]
   exact hall 0
  |n+2=>exact tupcase hret
 refine putK_sound (G:=fun a'=>K a' (aft c.outS.noRo E' E2 m).w) hk hinv hv (fun st' hk' hi=>hK st' _ _ hk' hi (.loud hst (fun hg=> ?_) (fun hh=>by rw [hal] at hh;cases hh)))
 have hp:=hgp hg
 have hnil:m.sig=[]:=by
  have:=hno.1
  simp only [hp,Bool.true_and,Bool.not_eq_false',Bool.and_eq_true] at this
  cases hs:m.sig with
  |nil=>rfl
  |cons x r=>rw [hs] at this;simp [isNil] at this
 have hw:(into E' m).w=E.w:=e1.w
 refine ⟨by rw [←hw];exact fr.os,by rw [←hw];exact fr.tape,by rw [←hw];exact fr.output,by rw [←hw];exact fr.size,fun b hb=> ?_⟩
 rw [←hw]
 refine fr.block b (by rw [hw];exact hb) (fun i=> ?_)
 simp [into,hnil,sigAt]
theorem callK_sound {pure:Bool} {f:FuncId} {args:List Cn} {argv:Array Value}:∀(cons:List Con),(∀c,c∈cons→FnOk P f c)→(g=true→pure=true)→still C o=false→isAl o=false→callK C pure o args st k cons=some r→Inv C.N E0 E st a→
 argv.size=args.length→(∀i,VRep E st.ob st.nx (argSl args i) (argv.getD i undef))→(∀q,(callFunc f argv).run P E.w=q→(execOp a.eval o).run P E.w=q)→
 (∀st' E' v,k st'=some r→Inv C.N E0 E' st' (a.put o.dst v)→Pur P C g o a v E.w E'.w→K (a.put o.dst v) E'.w)→o.wp P a E.w K Q
 |[],_,_,_,_,hk,_,_,_,_,_=>by cases hk
 |c::cons,hcs,hgp,hst,hal,hk,h,hsz,hargs,hrun,hK=>by
  simp only [callK] at hk
  split at hk
  ·rename_i args' st2 i hop
   split at hk
   ·cases hk
   ·rename_i hpure
    split at hk
    ·exact callK_sound cons (fun c hc=>hcs c (List.mem_cons_of_mem _ hc)) hgp hst hal hk h hsz hargs hrun hK
    ·rename_i x m hm
     split at hk
     ·cases hk
     ·rename_i hno
      simp only [Bool.not_eq_false',Bool.and_eq_true] at hno
      cases hF:c.F x with
      |none=>rw [hF] at hk;cases hk
      |some y=>
       rw [hF] at hk
       simp only [Option.bind_some] at hk
       obtain ⟨hl,E2,ho1,ho2⟩:=openL_sound (vs:=fun j=>argv.getD j undef) c.inS.slots 0 args args' hop h hargs
       have hw:=ho1.w
       refine hw▸call1_sound (pure:=false) (g:=g) (hcs c (List.mem_cons_self ..)) (fun hg=>by have:=hgp hg;simp_all) hst hal hm ⟨rfl,hno.1,hno.2.1,hno.2.2⟩ hF hk ho1.inv (hsz.trans hl.symm) ho2 (by rw [hw];exact hrun) ?_
       intro st3 E3 v hk3 hi3 hp3
       obtain ⟨st4,E4,hk4,hi4,hw4⟩:=closeS_sound hk3 hi3
       rw [←hw4]
       exact hK st4 E4 v hk4 hi4 (by rw [hw4,←hw];exact hp3)
  ·split at hk
   ·exact callK_sound cons (fun c hc=>hcs c (List.mem_cons_of_mem _ hc)) hgp hst hal hk h hsz hargs hrun hK
   ·rename_i x m hm
    split at hk
    ·cases hk
    ·rename_i hno
     simp only [Bool.or_eq_false_iff,Bool.not_eq_false',Bool.and_eq_true] at hno
     cases hF:c.F x with
     |none=>rw [hF] at hk;cases hk
     |some y=>
      rw [hF] at hk
      simp only [Option.bind_some] at hk
      exact call1_sound (hcs c (List.mem_cons_self ..)) hgp hst hal hm ⟨hno.1,hno.2.1,hno.2.2.1,hno.2.2.2⟩ hF hk h hsz hargs hrun hK
end
end Go.Am
end
section
set_option linter.unusedVariables false
set_option linter.unusedSimpArgs false
namespace Go.Am
structure CtxOk (P:Program) (C:Ctx):Prop where
 tt:∀t u,C.tt t=some u→TOk P t u
 phi:∀g c,c∈C.phi g→FnOk P g c
 mixed:P.follows .mixedOrders=true
 eq:∀t u,C.tt t=some u→u.isAgg=true→u.flat=true→EqT P u t [] 0∧P.eqGuardType P.depth t=false
theorem arr1 {α:Type} {xs:Array α} {a:α} (h:xs.toList=[a]):xs= #[a]:=by
 rw [←xs.toArray_toList,h]
theorem arr2 {α:Type} {xs:Array α} {a b:α} (h:xs.toList=[a,b]):xs= #[a,b]:=by
 rw [←xs.toArray_toList,h]
section
variable {P:Program} {R:Type} {C:Ctx} {o:Oper} {st:St} {k:St→Option R} {r:R} {E0 E:Env} {a:Act} {K:Act→World→Prop} {Q:Exit→Act→World→Prop} {g:Bool}
theorem caps_sound {a:Act} (hr:Rep E st a.tmps):∀(xs:List Operand) (ts:List TypeId) (l:List Cn),evL C st xs ts=some l→CRep E st.ob st.nx (caps l) true (xs.map a.eval)
 |[],ts,l,h=>by cases h;exact rfl
 |x::r,ts,l,h=>by
  simp only [evL] at h
  split at h
  ·rename_i c l' h1 h2
   cases h
   have hv:=ev_sound h1 hr
   have hd:c≠ .dead:=by
    intro e;subst e
    unfold ev at h1
    split at h1
    ·split at h1
     ·cases h1
     ·rename_i _ hs;simp only [Option.some.injEq] at h1;exact hs h1
    ·rename_i v
     unfold constCn at h1
     split at h1<;>first|(cases h1;done)|skip
     split at h1<;>cases h1
    ·cases h1
    ·cases h1
   obtain ⟨cs,h3,h4⟩:=VRep_one hv hd
   exact ⟨_,_,cs,rfl,h3,h4,caps_sound hr r _ _ h2⟩
  ·cases h
theorem evL_one {a:Act} (hr:Rep E st a.tmps) {xs:Array Operand} {ts:List TypeId} {c:Cn} (h:evL C st xs.toList ts=some [c]):∃X,xs= #[X]∧VRep E st.ob st.nx c (a.eval X):=by
 obtain ⟨h1,h2⟩:=evL_sound hr xs.toList ts _ h
 match hx:xs.toList,h1 with
 |[X],_=>
  refine ⟨X,arr1 hx,?_⟩
  have:=h2 0
  rw [hx] at this
  exact this
theorem evL_two {a:Act} (hr:Rep E st a.tmps) {xs:Array Operand} {ts:List TypeId} {c d:Cn} (h:evL C st xs.toList ts=some [c,d]):∃X Y,xs= #[X,Y]∧VRep E st.ob st.nx c (a.eval X)∧VRep E st.ob st.nx d (a.eval Y):=by
 obtain ⟨h1,h2⟩:=evL_sound hr xs.toList ts _ h
 match hx:xs.toList,h1 with
 |[X,Y],_=>
  refine ⟨X,Y,arr2 hx,?_,?_⟩
  ·have:=h2 0
   rw [hx] at this
   exact this
  ·have:=h2 1
   rw [hx] at this
   exact this
theorem opK_sound (hc:CtxOk P C) {pure:Bool} (hgp:g=true→pure=true) (hk:opK C pure o st k=some r) (h:Inv C.N E0 E st a)
 (hK:∀st' E' v,k st'=some r→Inv C.N E0 E' st' (a.put o.dst v)→Pur P C g o a v E.w E'.w→K (a.put o.dst v) E'.w):o.wp P a E.w K Q:=by
 have hr:=h.rep
 have hgf:∀{b:Bool},pure=false→g=false:=by
  intro _ hp
  cases hg:g with
  |false=>rfl
  |true=>rw [hgp hg] at hp;cases hp
 unfold opK at hk
 split at hk
 ·
   rename_i X ho
   split at hk
   ·rename_i c hX
    exact move_sound (.inl ho) hk h (ev_sound hX hr) hK
   ·cases hk
 ·
   rename_i X ho
   split at hk
   ·cases hk
   ·split at hk
    ·rename_i c hX
     exact move_sound (.inr ho) hk h (ev_sound hX hr) hK
    ·cases hk
 ·
   rename_i t ho
   split at hk
   ·rename_i u hT
    split at hk
    ·rename_i hf
     exact alloc_sound hc.tt ho hT hf hk h hK
    ·cases hk
   ·cases hk
 ·
   rename_i t X ho
   split at hk
   ·rename_i c hX
    split at hk
    ·rename_i b hb
     split at hk
     ·split at hk
      ·rename_i hf
       exact box_sound ho hb hf hk h (ev_sound hX hr) hK
      ·cases hk
     ·cases hk
    ·cases hk
   ·cases hk
 ·
   rename_i t ps ho
   split at hk
   ·rename_i l hl
    split at hk
    ·rename_i c hb
     exact build_sound hc.tt ho (evParts_sound hr _ _ hl) hb hk h hK
    ·cases hk
   ·cases hk
 ·
   rename_i t len ps ho
   split at hk
   ·cases hk
   ·exact buildSliceK_sound hc.tt ho (hgf (b:=true) rfl) hk h hK
 ·
   rename_i t X ho
   split at hk
   ·rename_i c hX
    split at hk
    ·rename_i d hd
     split at hk
     ·rename_i hl
      exact load_sound hc.tt ho hd hl hk h (ev_sound hX hr) hK
     ·cases hk
    ·cases hk
   ·cases hk
 ·
   rename_i t A X ho
   split at hk
   ·cases hk
   ·split at hk
    ·rename_i c d hA hX
     split at hk
     ·rename_i hd
      exact storeK_sound hc.tt ho (hgf (b:=true) rfl) hd hk h (ev_sound hA hr) (ev_sound hX hr) hK
     ·cases hk
    ·cases hk
 ·
   rename_i X ho
   split at hk
   ·rename_i c hX
    have hv:=ev_sound hX hr
    split at hk
    ·rename_i i
     split at hk
     ·rename_i u c' hob
      refine nilCheck_same ho hk h hv (.inl ?_) hK
      obtain ⟨cs,h1,h2⟩:=hv
      have ho:=hr.ob i
      rw [hob] at ho
      obtain ⟨gg,cs',t,k1,_⟩:=ho
      have e1:cs=[E.rho i]:=h1.2.2
      have e2:cs=[a.eval X]:=h2
      rw [e1,k1] at e2
      exact ⟨_,(by simpa using e2.symm)⟩
     ·rename_i b u d hob
      split at hk
      ·cases hk
      ·cases b with
       |false=>cases hk
       |true=>
        simp only [cond_true] at hk
        exact nilCheck_box ho hob hk h hv hK
     ·cases hk
    ·refine nilCheck_same ho hk h hv (.inl ?_) hK
     obtain ⟨cs,h1,h2⟩:=hv
     obtain ⟨_,_,⟨gg,_,e1⟩,_⟩:=h1
     have e2:cs=[a.eval X]:=h2
     rw [e1] at e2
     exact ⟨_,(by simpa using e2.symm)⟩
    ·refine nilCheck_same ho hk h hv (.inl ?_) hK
     obtain ⟨cs,h1,h2⟩:=hv
     obtain ⟨_,ad,e1,_⟩:=h1
     have e2:cs=[a.eval X]:=h2
     rw [e1] at e2
     exact ⟨_,(by simpa using e2.symm)⟩
    ·refine nilCheck_same ho hk h hv (.inr ?_) hK
     obtain ⟨cs,h1,h2⟩:=hv
     obtain ⟨vs,e1,_⟩:=h1
     have e2:cs=[a.eval X]:=h2
     rw [e1] at e2
     exact ⟨_,_,(by simpa using e2.symm)⟩
    ·cases hk
   ·cases hk
 ·
   rename_i op xt X Y yt ho
   split at hk
   ·rename_i c d hX hY
    split at hk
    ·split at hk
     ·rename_i x y hx hy
      exact eqK_sound hc.eq ho hx hy hk h (ev_sound hX hr) (ev_sound hY hr) hK
     ·cases hk
    ·exact binK_sound hc.tt ho hk h (ev_sound hX hr) (ev_sound hY hr) hK
   ·cases hk
 ·
   rename_i op t X ho
   split at hk
   ·rename_i c hX
    exact unK_sound ho hk h (ev_sound hX hr) hK
   ·cases hk
 ·
   rename_i ts td X ho
   split at hk
   ·rename_i c hX
    exact convK_sound hc.tt ho hk h (ev_sound hX hr) hK
   ·cases hk
 ·
   rename_i s X f ho
   split at hk
   ·rename_i c hX
    split at hk
    ·rename_i d hd
     exact fldAddr_sound hc.tt ho hd hk h (ev_sound hX hr) hK
    ·cases hk
   ·cases hk
 ·
   rename_i t X I ho
   split at hk
   ·rename_i c d hX hI
    exact indexAddrK_sound hc.tt ho hk h (ev_sound hX hr) (ev_sound hI hr) hK
   ·cases hk
 ·
   rename_i t X I ho
   split at hk
   ·rename_i c d hX hI
    exact indexK_sound hc.tt ho hk h (ev_sound hX hr) (ev_sound hI hr) hK
   ·cases hk
 ·
   rename_i t X LO HI ho
   split at hk
   ·rename_i c hX
    split at hk
    ·rename_i lo hi hlo hhi
     have key:∀(L:Option Operand) (l:Option Int),(match L with
      |none=>some none
      |some l=>(match ev C st 0 l with
       |some (.ro none ⟨.int _,n⟩)=>some (some n)
       |_=>(none:Option (Option Int))))=some l→∃kl,L.map a.eval=l.map fun n=>Value.int kl n:=by
      intro L l hl
      cases L with
      |none=>cases hl;exact ⟨.i64,rfl⟩
      |some x=>
       simp only at hl
       split at hl
       ·rename_i kk n hx
        cases hl
        exact ⟨kk,by simp [VRep_int_inv (ev_sound hx hr)]⟩
       ·cases hl
     obtain ⟨kl,h1⟩:=key _ _ hlo
     obtain ⟨kh,h2⟩:=key _ _ hhi
     exact sliceK_sound hc.tt ho h1 h2 hk h (ev_sound hX hr) hK
    ·cases hk
   ·cases hk
 ·
   rename_i t n m ho
   split at hk
   ·rename_i hnm
    obtain rfl:=Nat.eq_of_beq_eq_true hnm
    split at hk
    ·rename_i kk x hs
     have hv:=hr.sl n
     rw [hs] at hv
     exact makeK_sound hc.tt ho hk h (VRep_int_inv hv) (VRep_int_inv hv) hK
    ·cases hk
   ·cases hk
 ·rename_i t k1 n k2 m ho
  split at hk
  ·rename_i hnm
   obtain rfl:=of_decide_eq_true hnm
   exact makeK_sound hc.tt ho hk h rfl rfl hK
  ·cases hk
 ·
   rename_i f fs cs ho
   split at hk
   ·rename_i hfs
    split at hk
    ·rename_i l hl
     have hfs':fs= #[]:=by rw [←fs.toArray_toList,hfs]
     refine quiet_sound (v:= .func (.func f) #[] (cs.toList.map a.eval).toArray) hk h ?_ ?_ hK
     ·intro u _
      unfold execOp
      simp [ho,Instr.makeFunc,hfs']
      apply Array.ext'
      simp
     ·exact ⟨_,⟨_,rfl,caps_sound hr _ _ _ hl⟩,rfl⟩
    ·cases hk
   ·cases hk
 ·
   rename_i X ix ho
   split at hk
   ·rename_i c hX
    split at hk
    ·rename_i d hd
     exact extract_sound ho hd hk h (ev_sound hX hr) hK
    ·cases hk
   ·cases hk
 ·
   rename_i c ho
   obtain ⟨callee,args,ats⟩:=c
   simp only at hk
   split at hk
   ·rename_i f
    split at hk
    ·rename_i l hl
     obtain ⟨hl1,hl2⟩:=evL_sound hr _ _ _ hl
     refine callK_sound (argv:=args.map a.eval) (C.phi f) (fun c hc'=>hc.phi f c hc') hgp (by simp [still,ho]) (by simp [isAl,ho]) hk h (by rw [hl1];simp) (fun i=> ?_) ?_ hK
     ·have:=hl2 i
      have e:(args.map a.eval).getD i undef=(args.toList.map a.eval).getD i undef:=by
       rw [←Array.toList_map];simp
      rw [e];exact this
     ·intro q hq
      unfold execOp
      simp only [ho]
      simp [resolve,Act.eval,Deferred.ofValue,invoke,hq]
    ·cases hk
   ·rename_i X hne
    split at hk
    ·rename_i f cs l hfn hl
     split at hk
     ·rename_i rr hrr
      obtain ⟨hl1,hl2⟩:=evL_sound hr _ _ _ hl
      have hv:=ev_sound hfn hr
      obtain ⟨ws,hw1,hw2⟩:=hv
      obtain ⟨vs,e1,h5⟩:=hw1
      have e2:ws=[a.eval X]:=hw2
      rw [e1] at e2
      have hX:a.eval X= .func (.func f) #[] vs.toArray:=by simpa using e2.symm
      obtain ⟨hu1,hu2⟩:=uncaps_sound _ _ _ hrr h5
      refine callK_sound (argv:=args.map a.eval++vs.toArray) (C.phi f) (fun c hc'=>hc.phi f c hc') hgp (by simp [still,ho]) (by simp [isAl,ho]) hk h (by rw [List.length_append,hl1,hu1];simp) (fun i=> ?_) ?_ hK
      ·rw [argSl_append]
       have e:(args.map a.eval++vs.toArray).getD i undef=if i<l.length then (args.toList.map a.eval).getD i undef else vs.getD (i-l.length) undef:=by
        have:args.map a.eval++vs.toArray=(args.toList.map a.eval++vs).toArray:=by
         rw [←Array.toList_map]
         apply Array.ext'
         simp
        rw [this]
        have:∀(xs:List Value) i,xs.toArray.getD i undef=xs.getD i undef:=by intro xs i;simp
        rw [this,List.getD_eq_getElem?_getD,List.getElem?_append]
        simp only [List.length_map,hl1]
        split<;>simp [List.getD_eq_getElem?_getD]
       rw [e]
       split
       ·exact hl2 i
       ·exact hu2 _
      ·intro q hq
       unfold execOp
       simp only [ho]
       simp [resolve,hX,Deferred.ofValue,invoke,hq]
     ·cases hk
    ·cases hk
   ·split at hk
    ·rename_i x t hl hts
     obtain ⟨X,rfl,hX⟩:=evL_one hr hl
     obtain rfl:=arr1 hts
     exact lenK_sound hc.tt ho hk h hX hK
    ·cases hk
   ·split at hk
    ·rename_i s x t t2 hl hts
     obtain ⟨X,Y,rfl,hX,hY⟩:=evL_two hr hl
     obtain rfl:=arr2 hts
     split at hk
     ·cases hk
     ·exact appOK_sound hc.tt ho (hgf (b:=true) rfl) hk h hX hY hK
    ·cases hk
   ·split at hk
    ·rename_i s x t t2 hl hts
     obtain ⟨X,Y,rfl,hX,hY⟩:=evL_two hr hl
     obtain rfl:=arr2 hts
     split at hk
     ·cases hk
     ·exact copyK_sound hc.tt ho (hgf (b:=true) rfl) hk h hX hY hK
    ·cases hk
   ·split at hk
    ·rename_i ka x kb y hl
     obtain ⟨X,Y,rfl,hX,hY⟩:=evL_two hr hl
     exact minmax_sound true ho hk h hX hY hK
    ·cases hk
   ·split at hk
    ·rename_i ka x kb y hl
     obtain ⟨X,Y,rfl,hX,hY⟩:=evL_two hr hl
     exact minmax_sound false ho hk h hX hY hK
    ·cases hk
   ·cases hk
 ·cases hk
end
end Go.Am
end
section
set_option linter.unusedVariables false
set_option linter.unusedSimpArgs false
namespace Go.Am
def Tch (l:List Oper) (a a':Act):Prop:=∀s,(∀o,o∈l→o.dst≠some s)→a'.tmps.getD s undef=a.tmps.getD s undef
theorem Tch.refl (l:List Oper) (a:Act):Tch l a a:=fun _ _=>rfl
theorem Tch.trans {l:List Oper} {a b c:Act} (h:Tch l a b) (k:Tch l b c):Tch l a c:=fun s hs=>(k s hs).trans (h s hs)
theorem Tch.sub {l l':List Oper} {a b:Act} (h:Tch l a b) (hs:∀o,o∈l→o∈l'):Tch l' a b:=fun s k=>h s fun o ho=>k o (hs o ho)
theorem put_other {a:Act} {d:Option Nat} {v:Value} {s:Nat} (h:d≠some s):(a.put d v).tmps.getD s undef=a.tmps.getD s undef:=by
 cases d with
 |none=>rfl
 |some d=>
  simp only [Act.put,Array.getD_eq_getD_getElem?]
  rw [Array.getElem?_setIfInBounds_ne (by intro e;exact h (by rw [e]))]
theorem Tch.one {o:Oper} {a:Act} {v:Value}:Tch [o] a (a.put o.dst v):=fun s hs=>put_other (hs o (List.mem_cons_self ..))
def DecOk (dec:List (Nat×Bool)) (a:Act):Prop:=∀s b,lookB dec s=some b→a.tmps.getD s undef= .bool b
theorem rmB_none (l:List (Nat×Bool)):rmB none l=l:=by cases l<;>rfl
theorem lookB_rm {d s:Nat} {b:Bool}:∀{l:List (Nat×Bool)},lookB (rmB (some d) l) s=some b→s≠d∧lookB l s=some b
 |[],h=>by cases h
 |x::r,h=>by
  simp only [rmB] at h
  split at h
  ·rename_i hx
   have:=lookB_rm h
   refine ⟨this.1,?_⟩
   have hne:Nat.beq x.1 s=false:=by
    cases e:Nat.beq x.1 s with
    |false=>rfl
    |true=>exact absurd ((Nat.eq_of_beq_eq_true e).symm.trans (Nat.eq_of_beq_eq_true hx)) this.1
   simp only [lookB,hne];exact this.2
  ·rename_i hx
   simp only [lookB] at h⊢
   split at h
   ·rename_i hs
    exact ⟨fun e=>by rw [Nat.eq_of_beq_eq_true hs,e] at hx;simp at hx,h⟩
   ·exact lookB_rm h
theorem DecOk.rm {dec:List (Nat×Bool)} {a a':Act} {o:Oper} (h:DecOk dec a) (ht:Tch [o] a a'):DecOk (rmB o.dst dec) a':=by
 intro s b hl
 cases hd:o.dst with
 |none=>
  rw [hd,rmB_none] at hl
  rw [ht s (fun o' ho'=>by simp at ho';subst ho';rw [hd];simp)]
  exact h s b hl
 |some d=>
  rw [hd] at hl
  obtain ⟨h1,h2⟩:=lookB_rm hl
  rw [ht s (fun o' ho'=>by simp at ho';subst ho';rw [hd];simp;exact fun e=>h1 e.symm)]
  exact h s b h2
theorem lookB_rmL {s:Nat} {b:Bool}:∀{l:List Oper} {dec:List (Nat×Bool)},lookB (rmL l dec) s=some b→(∀o,o∈l→o.dst≠some s)∧lookB dec s=some b
 |[],_,h=>⟨fun o ho=>(List.not_mem_nil ho).elim,h⟩
 |o::r,dec,h=>by
  simp only [rmL] at h
  cases hd:o.dst with
  |none=>
   rw [hd,rmB_none] at h
   obtain ⟨h1,h2⟩:=lookB_rmL (l:=r) h
   exact ⟨fun o' ho'=>by rcases List.mem_cons.1 ho' with rfl|ho';(rw [hd];simp);exact h1 o' ho',h2⟩
  |some d=>
   rw [hd] at h
   obtain ⟨h0,h⟩:=lookB_rm h
   obtain ⟨h1,h2⟩:=lookB_rmL (l:=r) h
   exact ⟨fun o' ho'=>by rcases List.mem_cons.1 ho' with rfl|ho';(rw [hd];intro e;exact h0 (by simpa using e.symm));exact h1 o' ho',h2⟩
theorem DecOk.rmL {dec:List (Nat×Bool)} {a a':Act} {l:List Oper} (h:DecOk dec a) (ht:Tch l a a'):DecOk (rmL l dec) a':=by
 intro s b hl
 obtain ⟨h1,h2⟩:=lookB_rmL hl
 rw [ht s h1]
 exact h s b h2
theorem yielded_some {all:Array Oper} {tm:Array Value} {j s:Nat} {b:Bool} (hd:dstOf all j=some s) (h:tm.getD s undef= .bool b):yielded all tm j=some b:=by
 unfold yielded
 have h1:(all[j]?).bind (·.dst)=some s:=by
  unfold dstOf at hd
  cases e:all[j]? with
  |none=>rw [e] at hd;cases hd
  |some o=>rw [e] at hd;exact hd
 rw [h1]
 simp only [Option.bind_some]
 rw [Array.getD_eq_getD_getElem?] at h
 cases e:tm[s]? with
 |none=>rw [e] at h;simp [undef] at h
 |some v=>rw [e] at h;simp only [Option.getD_some] at h;subst h;rfl
theorem yielded_undef {all:Array Oper} {tm:Array Value} {j s:Nat} (hd:dstOf all j=some s) (h:tm.getD s undef=undef):yielded all tm j=none:=by
 unfold yielded
 have h1:(all[j]?).bind (·.dst)=some s:=by
  unfold dstOf at hd
  cases e:all[j]? with
  |none=>rw [e] at hd;cases hd
  |some o=>rw [e] at hd;exact hd
 rw [h1]
 simp only [Option.bind_some]
 rw [Array.getD_eq_getD_getElem?] at h
 cases e:tm[s]? with
 |none=>rfl
 |some v=>rw [e] at h;simp only [Option.getD_some] at h;subst h;rfl
theorem splitPick_spec {s:Nat}:∀{l:List Oper} {g r:List Oper} {p:Oper},splitPick s l=some (g,p,r)→l=g++p::r∧∃x y,p.op= .pick (.tmp s) x y
 |[],_,_,_,h=>by cases h
 |o::l,g,r,p,h=>by
  simp only [splitPick] at h
  split at h
  ·rename_i hp
   cases h
   refine ⟨rfl,?_⟩
   split at hp
   ·rename_i t x y ho
    obtain rfl:=Nat.eq_of_beq_eq_true hp
    exact ⟨x,y,ho⟩
   ·cases hp
  ·split at h
   ·rename_i g' p' q' h'
    cases h
    obtain ⟨h1,h2⟩:=splitPick_spec h'
    exact ⟨by rw [h1];rfl,h2⟩
   ·cases h
theorem elemN_iff (n:Nat):∀l,skipB.elemN n l=true→n∈l
 |[],h=>by cases h
 |x::r,h=>by
  simp only [skipB.elemN] at h
  split at h
  ·rename_i e;rw [Nat.eq_of_beq_eq_true e];exact List.mem_cons_self ..
  ·exact List.mem_cons_of_mem _ (elemN_iff n r h)
section
variable {P:Program} {C:Ctx} {E0 E:Env} {Q:Exit→Act→World→Prop} {all:Array Oper}
theorem Inv.dead {N:Nat} {st:St} {a:Act} {o:Oper} {v:Value} (h:Inv N E0 E st a):Inv N E0 E (bdead o st) (a.put o.dst v):=by
 unfold bdead
 cases hd:o.dst with
 |none=>exact h
 |some d=>exact ⟨h.rep.dead v,h.fr,h.defers,by simp [Act.put,h.size],h.nx⟩
theorem Inv.udead {N:Nat} {st:St} {a:Act} {o:Oper} (h:Inv N E0 E st a):Inv N E0 E (udead o st) (a.put o.dst undef):=by
 unfold Am.udead
 cases hd:o.dst with
 |none=>exact h
 |some d=>
  refine ⟨⟨fun s=> ?_,h.rep.ob,h.rep.lt,h.rep.dj,h.rep.nd,h.rep.bb,h.rep.zb⟩,h.fr,h.defers,by simp [Act.put,h.size],h.nx⟩
  show VRep E st.ob st.nx (upd st.sl d (.tup .nil) s) _
  by_cases e:s=d
  ·subst e
   rw [upd_same]
   have:(a.put (some s) undef).tmps.getD s undef=undef:=by
    simp only [Act.put,Array.getD_eq_getD_getElem?]
    by_cases hlt:s<a.tmps.size
    ·rw [Array.getElem?_setIfInBounds_self_of_lt hlt];rfl
    ·rw [Array.getElem?_eq_none (by simpa using Nat.le_of_not_lt hlt)];rfl
   rw [this]
   exact ⟨[undef],⟨[],rfl,rfl⟩,rfl⟩
  ·rw [upd_other _ _ _ _ e,put_other (by simpa using fun h=>e h.symm)]
   exact h.rep.sl s
structure Stp (P:Program) (C:Ctx) (Q:Exit→Act→World→Prop) (all:Array Oper) (W:List Oper→Act→World→Prop):Prop where
 take:∀o l a w v,Region.wanted o (yielded all a.tmps)=true→still C o=true→(∀u,(isLd o=false∨Grew w u)→(execOp a.eval o).run P u= .ok (.value v) u)→W l (a.put o.dst v) w→W (o::l) a w
 doo:∀o l a w,Region.wanted o (yielded all a.tmps)=true→still C o=false→o.wp P a w (fun a' w'=>(isAl o=true→Grew w w')∧W l a' w') Q→W (o::l) a w
 skip:∀o l a w,Region.wanted o (yielded all a.tmps)=false→W l (a.put o.dst undef) w→W (o::l) a w
theorem wp_ex {o:Oper} {a:Act} {w:World} {F:Prop} (h:o.wp P a w (fun _ _=>F) (fun _ _ _=>False)):F:=by
 unfold Oper.wp at h
 generalize (execOp a.eval o).run P w=q at h
 cases q with
 |ok n w'=>
  cases n<;>simp only [Oper.upon] at h<;>first|exact h|exact h.elim|skip
  ·obtain ⟨e,w'',fr,hR,_⟩:=h []
   cases e with
   |returned v=>exact hR
   |panicked c=>exact hR.elim
   |outgrown=>obtain ⟨_,_,hf⟩:=hR;exact hf.elim
  ·obtain ⟨v,w'',hR,_⟩:=h default []
   exact hR
 |halt x w'=>cases x<;>simp only [Oper.upon] at h<;>exact h.elim
variable {W:List Oper→Act→World→Prop}
theorem skip_sound (hW:Stp P C Q all W) {s:Nat} {want:Bool}:∀(grp:List Oper) (acc:List Nat) (a:Act) (w:World) (rest:List Oper),skipB all s want acc grp=true→a.tmps.getD s undef= .bool (!want)→
 (∀q,q∈acc→q≠s→a.tmps.getD q undef=undef)→
 (∀a',Tch grp a a'→a'.tmps.size=a.tmps.size→a'.defers=a.defers→W rest a' w)→W (grp++rest) a w
 |[],acc,a,w,rest,_,_,_,hK=>hK a (Tch.refl _ _) rfl rfl
 |o::grp,acc,a,w,rest,h,hs,hacc,hK=>by
  simp only [skipB,Bool.and_eq_true,Bool.not_eq_true'] at h
  obtain ⟨h1,h2,h3⟩:=h
  have hds:o.dst≠some s:=by
   intro e;rw [e] at h1;simp [isD] at h1
  have hnw:Region.wanted o (yielded all a.tmps)=false:=by
   split at h2
   ·rename_i j w' hg
    split at h2
    ·rename_i s' hd
     simp only [Bool.or_eq_true,Bool.and_eq_true,Bool.not_eq_true',beq_iff_eq] at h2
     unfold Region.wanted
     rw [hg]
     simp only
     rcases h2 with ⟨e1,e2⟩|⟨e1,e2⟩
     ·obtain rfl:=Nat.eq_of_beq_eq_true e1
      subst e2
      rw [yielded_some hd hs]
      cases w'<;>rfl
     ·rw [yielded_undef hd (hacc _ (elemN_iff _ _ e2) (fun e=>by rw [e] at e1;simp at e1))]
      rfl
    ·cases h2
   ·cases h2
  refine hW.skip _ _ _ _ hnw ?_
  refine skip_sound hW grp (consO o.dst acc) (a.put o.dst undef) w rest h3 (by rw [put_other hds];exact hs) ?_ ?_
  ·intro q hq hqs
   by_cases hqd:o.dst=some q
   ·rw [hqd]
    simp only [Act.put,Array.getD_eq_getD_getElem?]
    by_cases hlt:q<a.tmps.size
    ·rw [Array.getElem?_setIfInBounds_self_of_lt hlt];rfl
    ·rw [Array.getElem?_eq_none (by simpa using Nat.le_of_not_lt hlt)];rfl
   ·rw [put_other hqd]
    refine hacc q ?_ hqs
    cases hd:o.dst with
    |none=>rw [hd] at hq;exact hq
    |some d=>
     rw [hd] at hq
     rcases List.mem_cons.1 hq with rfl|hq
     ·exact absurd hd hqd
     ·exact hq
  ·intro a' ht hsz hdf
   refine hK a' ?_ (by rw [hsz];cases o.dst<;>simp [Act.put]) (by rw [hdf];cases o.dst<;>rfl)
   exact Tch.trans (Tch.one.sub (fun q hq=>by simp at hq;subst hq;exact List.mem_cons_self ..)) (ht.sub fun q hq=>List.mem_cons_of_mem _ hq)
theorem deadAll_sl:∀(grp:List Oper) (st:St) (s:Nat),(deadAll grp st).sl s= .dead∨((deadAll grp st).sl s=st.sl s∧∀o,o∈grp→o.dst≠some s)
 |[],st,s=> .inr ⟨rfl,fun o ho=>(List.not_mem_nil ho).elim⟩
 |o::grp,st,s=>by
  simp only [deadAll,bdead]
  cases hd:o.dst with
  |none=>
   simp only
   rcases deadAll_sl grp st s with h|⟨h1,h2⟩
   ·exact .inl h
   ·exact .inr ⟨h1,fun q hq=>by rcases List.mem_cons.1 hq with rfl|hq;(rw [hd];simp);exact h2 q hq⟩
  |some d=>
   simp only
   by_cases e:s=d
   ·subst e;exact .inl (upd_same _ _ _)
   ·rw [upd_other _ _ _ _ e]
    rcases deadAll_sl grp st s with h|⟨h1,h2⟩
    ·exact .inl h
    ·exact .inr ⟨h1,fun q hq=>by rcases List.mem_cons.1 hq with rfl|hq;(rw [hd];intro k;exact e (by simpa using k.symm));exact h2 q hq⟩
theorem deadAll_ob:∀(grp:List Oper) (st:St),(deadAll grp st).ob=st.ob∧(deadAll grp st).nx=st.nx
 |[],st=>⟨rfl,rfl⟩
 |o::grp,st=>by
  simp only [deadAll,bdead]
  cases o.dst with
  |none=>exact deadAll_ob grp st
  |some d=>exact deadAll_ob grp st
theorem Inv.deadAll {N:Nat} {st:St} {a a':Act} {grp:List Oper} (h:Inv N E0 E st a) (ht:Tch grp a a') (hsz:a'.tmps.size=a.tmps.size) (hdf:a'.defers=a.defers):Inv N E0 E (deadAll grp st) a':=by
 obtain ⟨h1,h2⟩:=deadAll_ob grp st
 refine ⟨⟨fun s=> ?_,?_,?_,h.rep.dj,h.rep.nd,h.rep.bb,h.rep.zb⟩,h.fr,by rw [hdf];exact h.defers,by rw [hsz];exact h.size,by rw [h2];exact h.nx⟩
 ·rw [h1,h2]
  rcases deadAll_sl grp st s with h3|⟨h3,h4⟩
  ·rw [h3];trivial
  ·rw [h3,ht s h4];exact h.rep.sl s
 ·rw [h1,h2];exact h.rep.ob
 ·rw [h1,h2];exact h.rep.lt
theorem pick_sound (hW:Stp P C Q all W) {st:St} {a a1:Act} {pk:Oper} {X Y:Operand} {s d:Nat} {b v:Bool} {w1:World} {dec:List (Nat×Bool)} {grp rest:List Oper} (hi:Inv C.N E0 E st a) (hg:Grew E.w w1) (ht:Tch grp a a1)
 (hsz:a1.tmps.size=a.tmps.size) (hdf:a1.defers=a.defers) (hop:pk.op= .pick (.tmp s) X Y) (hd:pk.dst=some d) (hdN:d<C.N) (hpk:pkOk all (rmL grp dec) pk=true) (hdec:DecOk dec a)
 (hs:a1.tmps.getD s undef= .bool b) (hv:(if b then a1.eval X else a1.eval Y)= .bool v)
 (hK:∀a2,Tch (grp++[pk]) a a2→Inv C.N E0 {E with w:=w1} {(deadAll grp st) with sl:=upd (deadAll grp st).sl d (.ro none ⟨.bool,v⟩)} a2→DecOk (rmB (some d) (rmL grp dec)) a2→W rest a2 w1):
 W (pk::rest) a1 w1:=by
 have hdec1:=hdec.rmL ht
 have hw:Region.wanted pk (yielded all a1.tmps)=true:=by
  unfold Region.wanted
  unfold pkOk at hpk
  split at hpk
  ·rename_i hg;rw [hg]
  ·rename_i j w hg
   rw [hg]
   simp only
   split at hpk
   ·rename_i s' hds
    split at hpk
    ·rename_i v' hl
     rw [yielded_some hds (hdec1 _ _ hl)]
     simp only [beq_iff_eq] at hpk
     subst hpk
     simp
    ·cases hpk
   ·cases hpk
 have hinv:Inv C.N E0 {E with w:=w1} (deadAll grp st) a1:=(hi.grew hg).deadAll ht hsz hdf
 refine hW.take _ _ _ _ (.bool v) hw (by simp [still,hop]) ?_ ?_
 ·intro u _
  unfold execOp
  have hc:a1.eval (.tmp s)= .bool b:=hs
  simp only [hop,hc]
  cases b<;>simpa [asBool] using hv
 ·have hput:=hinv.put (d:=d) (c:= .ro none ⟨.bool,v⟩) (v:= .bool v) hdN (VRep_bool ..)
  have htp:Tch [pk] a1 (a1.put pk.dst (.bool v)):=Tch.one
  rw [hd] at htp⊢
  refine hK _ (Tch.trans (ht.sub fun q hq=>List.mem_append.2 (.inl hq)) (htp.sub fun q hq=>List.mem_append.2 (.inr hq))) hput ?_
  have:=hdec1.rm (o:=pk) (a':=a1.put (some d) (.bool v)) htp
  rw [hd] at this
  exact this
theorem opD_sound (hc:CtxOk P C) {R:Type} {o:Oper} {st:St} {k:St→Option R} {r:R} {a:Act} {K:Act→World→Prop} {g pure:Bool} {dec:List (Nat×Bool)} (hdec:DecOk dec a) (hgp:g=true→pure=true)
 (hk:opD C pure dec o st k=some r) (h:Inv C.N E0 E st a)
 (hK:∀st' E' v,k st'=some r→Inv C.N E0 E' st' (a.put o.dst v)→Pur P C g o a v E.w E'.w→K (a.put o.dst v) E'.w):o.wp P a E.w K Q:=by
 unfold opD at hk
 split at hk
 ·rename_i z hz
  split at hk
  ·rename_i c hc'
   have hp:∃s x y v,o.op= .pick (.tmp s) x y∧lookB dec s=some v∧z=(if v then x else y):=by
    unfold pickD at hz
    split at hz
    ·rename_i s x y ho
     split at hz
     ·rename_i hl;obtain rfl:=Option.some.inj hz;exact ⟨s,_,y,true,ho,hl,rfl⟩
     ·rename_i hl;obtain rfl:=Option.some.inj hz;exact ⟨s,x,_,false,ho,hl,rfl⟩
     ·cases hz
    ·cases hz
   obtain ⟨s,x,y,v,ho,hl,hzz⟩:=hp
   subst hzz
   have hs:=hdec s v hl
   refine quiet_sound (v:=a.eval (if v then x else y)) hk h (fun u _=> ?_) (ev_sound hc' h.rep) hK
   have he:a.eval (.tmp s)= .bool v:=hs
   unfold execOp
   simp only [ho,he]
   cases v<;>simp [asBool]
  ·cases hk
 ·exact opK_sound hc hgp hk h hK
theorem regK_sound (hc:CtxOk P C) (hW:Stp P C Q all W):∀(n:Nat) (R:Type) (pure:Bool) (dec:List (Nat×Bool)) (l:List Oper) (st:St) (k:St→Option R) (r:R) (E:Env) (a:Act) (rest:List Oper) (g:Bool),
 regK C all R n pure dec l st k=some r→(g=true→pure=true)→Inv C.N E0 E st a→DecOk dec a→
 (∀st' E' a',k st'=some r→Inv C.N E0 E' st' a'→(g=true→Grew E.w E'.w)→Tch l a a'→W rest a' E'.w)→W (l++rest) a E.w:=by
 intro n
 induction n with
 |zero=>intro R pure dec l st k r E a rest g hk;cases l<;>cases hk
 |succ n ih=>
  intro R pure dec l st k r E a rest g hk hgp hi hdec hK
  cases l with
  |nil=>exact hK st E a hk hi (fun _=>Grew.refl _) (Tch.refl _ _)
  |cons o l=>
   have doit:Region.wanted o (yielded all a.tmps)=true→opD C pure dec o st (fun s1=>regK C all R n pure (rmB o.dst dec) l s1 k)=some r→W (o::(l++rest)) a E.w:=by
    intro hw hk
    have go:∀st' E' v,regK C all R n pure (rmB o.dst dec) l st' k=some r→Inv C.N E0 E' st' (a.put o.dst v)→(g=true→Grew E.w E'.w)→W (l++rest) (a.put o.dst v) E'.w:=by
     intro st' E' v hk' hi' hg'
     refine ih R pure _ l st' k r E' _ rest g hk' hgp hi' (hdec.rm Tch.one) fun st'' E'' a'' hk'' hi'' hg'' ht=> ?_
     exact hK st'' E'' a'' hk'' hi'' (fun e=>(hg' e).trans (hg'' e)) (Tch.trans (Tch.one.sub fun q hq=>by simp at hq;subst hq;exact List.mem_cons_self ..) (ht.sub fun q hq=>List.mem_cons_of_mem _ hq))
    cases hs:still C o with
    |true=>
     refine wp_ex (P:=P) (o:=o) (a:=a) (w:=E.w) ?_
     refine opD_sound (g:=g) hc hdec hgp hk hi fun st' E' v hk' hi' hpur=> ?_
     obtain ⟨e1,e2⟩:=hpur.run hs
     have:=go st' E' v hk' hi' hpur.grew
     rw [e1] at this
     exact hW.take _ _ _ _ v hw hs e2 this
    |false=>
     refine hW.doo _ _ _ _ hw hs ?_
     exact opD_sound (g:=g) hc hdec hgp hk hi fun st' E' v hk' hi' hpur=>⟨hpur.al,go st' E' v hk' hi' hpur.grew⟩
   simp only [regK] at hk
   show W (o::(l++rest)) a E.w
   split at hk
   ·rename_i hg
    exact doit (by simp [Region.wanted,hg]) hk
   ·rename_i j want hg
    split at hk
    ·cases hk
    ·rename_i s hds
     split at hk
     ·rename_i v hl
      have hy:=yielded_some hds (hdec s v hl)
      split at hk
      ·rename_i hvw
       simp only [beq_iff_eq] at hvw
       subst hvw
       exact doit (by simp [Region.wanted,hg,hy]) hk
      ·rename_i hvw
       refine hW.skip _ _ _ _ (by simp only [Region.wanted,hg,hy];cases v<;>cases want<;>first|rfl|(exact absurd rfl hvw)|(simp at hvw)) ?_
       refine ih R pure _ l (udead o st) k r E _ rest g hk hgp hi.udead (hdec.rm Tch.one) fun st'' E'' a'' hk'' hi'' hg'' ht=> ?_
       exact hK st'' E'' a'' hk'' hi'' hg'' (Tch.trans (Tch.one.sub fun q hq=>by simp at hq;subst hq;exact List.mem_cons_self ..) (ht.sub fun q hq=>List.mem_cons_of_mem _ hq))
     ·split at hk
      ·rename_i b hsl
       split at hk
       ·have hsv:a.tmps.getD s undef= .bool b:=by
         have:=hi.rep.sl s
         rw [hsl] at this
         exact VRep_bool_inv this
        have hdec':DecOk ((s,b)::dec) a:=by
         intro q b' hl
         simp only [lookB] at hl
         split at hl
         ·rename_i e;cases hl;rw [←Nat.eq_of_beq_eq_true e];exact hsv
         ·exact hdec q b' hl
        cases b with
        |true=>exact ih R pure _ (o::l) st k r E a rest g hk hgp hi hdec' hK
        |false=>exact ih R pure _ (o::l) st k r E a rest g hk hgp hi hdec' hK
       split at hk
       ·rename_i grp pk rest' hsp
        obtain ⟨hl1,X',Y',hop⟩:=splitPick_spec hsp
        split at hk
        ·rename_i x y hop'
         rw [hop] at hop'
         cases hop'
         split at hk
         ·rename_i d hd
          split at hk
          ·rename_i hchk
           simp only [Bool.and_eq_true] at hchk
           obtain ⟨hdN,hskip,hpk⟩:=hchk
           have hdN:=Nat.le_of_ble_eq_true hdN
           have hsv:a.tmps.getD s undef= .bool b:=by
            have:=hi.rep.sl s
            rw [hsl] at this
            exact VRep_bool_inv this
           have hnos:∀q,q∈grp→q.dst≠some s:=by
            have:∀(grp:List Oper) (acc:List Nat),skipB all s want acc grp=true→∀q,q∈grp→q.dst≠some s:=by
             intro grp
             induction grp with
             |nil=>intro acc _ q hq;simp at hq
             |cons o' grp ih'=>
              intro acc h q hq
              simp only [skipB,Bool.and_eq_true,Bool.not_eq_true'] at h
              rcases List.mem_cons.1 hq with rfl|hq
              ·intro e;rw [e] at h;simp [isD] at h
              ·exact ih' _ h.2.2 q hq
            exact this grp [] hskip
           obtain ⟨v,hv,hk⟩:=Option.bind_eq_some_iff.1 hk
           rw [show (o::(l++rest))=grp++(pk::(rest'++rest)) by rw [←List.cons_append,hl1];simp]
           have hmem:∀q,q∈grp++[pk]→q∈o::l:=by rw [hl1];intro q hq;simp only [List.mem_append,List.mem_singleton] at hq;rcases hq with hq|rfl<;>simp [*]
           have fin:∀w1 a2,Grew E.w w1→Tch (grp++[pk]) a a2→Inv C.N E0 {E with w:=w1} {(deadAll grp st) with sl:=upd (deadAll grp st).sl d (.ro none ⟨.bool,v⟩)} a2→
            DecOk (rmB (some d) (rmL grp dec)) a2→W (rest'++rest) a2 w1:=by
            intro w1 a2 hg1 ht2 hi2 hd2
            refine ih R pure _ rest' _ k r {E with w:=w1} a2 rest g hk hgp hi2 hd2 fun st'' E'' a'' hk'' hi'' hg'' ht=> ?_
            exact hK st'' E'' a'' hk'' hi'' (fun e=>hg1.trans (hg'' e)) (Tch.trans (ht2.sub hmem) (ht.sub fun q hq=>by rw [hl1];simp [hq]))
           have out:b= !want→(if b then evB C (deadAll grp st) X' else evB C (deadAll grp st) Y')=some v→W (grp++(pk::(rest'++rest))) a E.w:=by
            intro hb hev
            refine skip_sound hW grp [] a E.w _ hskip (by rw [hsv,hb]) (fun q hq=>by simp at hq) fun a1 ht hsz hdf=> ?_
            have hi1:=hi.deadAll ht hsz hdf
            refine pick_sound hW (b:=b) (v:=v) hi (Grew.refl _) ht hsz hdf hop hd hdN hpk hdec (by rw [ht s hnos];exact hsv) ?_ fun a2 ht2 hi2 hd2=>fin E.w a2 (Grew.refl _) ht2 hi2 hd2
            cases b with
            |true=>exact evB_sound hev hi1.rep
            |false=>exact evB_sound hev hi1.rep
           have inn:∀z,z=(if b then X' else Y')→regK C all Bool n true ((s,b)::dec) grp st (fun s1=>evB C s1 z)=some v→W (grp++(pk::(rest'++rest))) a E.w:=by
            intro z hz hev
            refine ih Bool true _ grp st _ v E a (pk::(rest'++rest)) true hev (fun _=>rfl) hi ?_ ?_
            ·intro q b' hl
             simp only [lookB] at hl
             split at hl
             ·rename_i e;cases hl;rw [←Nat.eq_of_beq_eq_true e];exact hsv
             ·exact hdec q b' hl
            ·intro st1 E1 a1 hev1 hi1 hg1 ht1
             refine pick_sound hW (b:=b) (v:=v) hi (hg1 rfl) ht1 (by rw [hi1.size,hi.size]) (by rw [hi1.defers,hi.defers]) hop hd hdN hpk hdec (by rw [ht1 s hnos];exact hsv) ?_ fun a2 ht2 hi2 hd2=>fin E1.w a2 (hg1 rfl) ht2 hi2 hd2
             have:=evB_sound hev1 hi1.rep
             rw [hz] at this
             cases b with
             |true=>exact this
             |false=>exact this
           cases b with
           |true=>
            cases want with
            |true=>exact inn X' rfl hv
            |false=>exact out rfl hv
           |false=>
            cases want with
            |true=>exact out rfl hv
            |false=>exact inn Y' rfl hv
          ·cases hk
         ·cases hk
        ·cases hk
       ·cases hk
      ·rename_i hsl
       have hsv:a.tmps.getD s undef=undef:=by
        have:=hi.rep.sl s
        rw [hsl] at this
        obtain ⟨cs,⟨vs,h1,h2⟩,h3⟩:=this
        have h2:vs=[]:=h2
        have h3:cs=[_]:=h3
        rw [h3,h2] at h1
        simpa [undef] using h1
       refine hW.skip _ _ _ _ (by simp only [Region.wanted,hg,yielded_undef hds hsv];rfl) ?_
       refine ih R pure _ l (udead o st) k r E _ rest g hk hgp hi.udead (hdec.rm Tch.one) fun st'' E'' a'' hk'' hi'' hg'' ht=> ?_
       exact hK st'' E'' a'' hk'' hi'' hg'' (Tch.trans (Tch.one.sub fun q hq=>by simp at hq;subst hq;exact List.mem_cons_self ..) (ht.sub fun q hq=>List.mem_cons_of_mem _ hq))
      ·cases hk
theorem stp_list:Stp P C Q all (wpList P all Q) where
 take:=fun o l a w v hw hs hr h=>by
  unfold wpList
  rw [if_pos hw]
  exact .inl (wp_value (hr w (.inr (Grew.refl _))) h)
 doo:=fun o l a w hw hs h=>by
  unfold wpList
  rw [if_pos hw]
  exact .inl (Oper.wp_mono (fun _ _ h=>h.2) h)
 skip:=fun o l a w hw h=>by
  unfold wpList
  rw [if_neg (by rw [hw];simp)]
  exact h
end
end Go.Am
end
section
set_option linter.unusedVariables false
set_option linter.unusedSimpArgs false
namespace Go.Am
section
variable {P:Program} {ops:Array Oper} {Q:Exit→Act→World→Prop} {md:Region.Mode} {T:Nat→Bool}
def wpAnyR (P:Program) (md:Region.Mode) (ops:Array Oper) (T:Nat→Bool) (Q:Exit→Act→World→Prop):Nat→Array Bool→Act→World→Prop
 |0,listed,a,w=>Region.ready md ops listed=[]∧Q .normal a w
 |fuel+1,listed,a,w=>
  (Region.ready md ops listed=[]→Q .normal a w)∧
  ∀i∈Region.ready md ops listed,wpOp P ops Q i (fun a' w'=>(T i=true→Grew w w')∧wpAnyR P md ops T Q fuel (listed.setIfInBounds i true) a' w') a w
theorem wpAny_of_R:∀(fuel:Nat) (listed:Array Bool) (a:Act) (w:World),wpAnyR P md ops T Q fuel listed a w→wpAny P md ops Q fuel listed a w
 |0,_,_,_,h=>h
 |fuel+1,_,_,_,h=>⟨h.1,fun i hi=>wpOp_mono (fun a' w' h'=>wpAny_of_R fuel _ a' w' h'.2) (h.2 i hi)⟩
theorem wpAnyR_first {i:Nat} {oi:Oper} {v:Value} {ld:Bool} (hi:ops[i]?=some oi) (hsel:∀(j:Nat) (o:Oper) cs b,ops[j]?=some o→o.op≠ .select cs b)
 (hQ:∀c a w,Q (.panic c) (a.put oi.dst v) w→Q (.panic c) a w):
 ∀(fuel:Nat) (listed:Array Bool) (a:Act) (w:World),
  (∀j oj,ops[j]?=some oj→j≠i→listed.getD j true=false→(∀e∈oj.after,Region.binds md e=true→e.on≠i)→oi.apart ops oj=true∧(ld=true→T j=true))→
  i∈Region.ready md ops listed→YieldsIf P ops (fun u=>ld=false∨Grew w u) oi v a→
  wpAnyR P md ops T Q fuel (listed.setIfInBounds i true) (a.put oi.dst v) w→wpAnyR P md ops T Q (fuel+1) listed a w:=by
 intro fuel
 induction fuel with
 |zero=>
  intro listed a w _ hr hy H
  refine ⟨fun h=>(by rw [h] at hr;cases hr),fun j hj=> ?_⟩
  by_cases hji:j=i
  ·subst hji;exact hy.wpOp hi (.inr (Grew.refl _)) ⟨fun _=>Grew.refl _,H⟩
  ·have:=ready_mono hj hji
   rw [H.1] at this
   cases this
 |succ fuel ih=>
  intro listed a w hfree hr hy H
  refine ⟨fun h=>(by rw [h] at hr;cases hr),fun j hj=> ?_⟩
  by_cases hji:j=i
  ·subst hji;exact hy.wpOp hi (.inr (Grew.refl _)) ⟨fun _=>Grew.refl _,H⟩
  ·have h1:=H.2 j (ready_mono hj hji)
   obtain ⟨hjun,oj,hoj,hall⟩:=mem_ready.1 hj
   have hnot:∀e∈oj.after,Region.binds md e=true→e.on≠i:=fun e he hb heq=>by
    have h1:=hall e he hb
    have h0:=(mem_ready.1 hr).1
    rw [heq] at h1
    rcases Nat.lt_or_ge i listed.size with h'|h'
    ·simp [h'] at h0 h1;rw [h0] at h1;cases h1
    ·simp [Array.getElem?_eq_none h'] at h1
   obtain ⟨hap,hT⟩:=hfree j oj hoj hji hjun hnot
   have h2:=wpOp_putIf hoj hap (fun cs b=>hsel i oi cs b hi) (fun cs b=>hsel j oj cs b hoj) hQ hy h1
   have hfree':∀k ok,ops[k]?=some ok→k≠i→(listed.setIfInBounds j true).getD k true=false→
    (∀e∈ok.after,Region.binds md e=true→e.on≠i)→oi.apart ops ok=true∧(ld=true→T k=true):=fun k ok hk hki hun hno=>by
    refine hfree k ok hk hki ?_ hno
    by_cases hjk:j=k
    ·subst hjk;exact hjun
    ·rw [getD_set_ne true hjk] at hun;exact hun
   refine wpOp_mono (fun a' w' h3=>⟨h3.2.1,ih (listed.setIfInBounds j true) a' w' hfree' (ready_mono hr (Ne.symm hji)) ?_ ?_⟩) h2
   ·rcases h3.1 with ⟨p1,p2⟩|p
    ·refine .inl ⟨p1,fun u hu=>p2 u ?_⟩
     rcases hu with hu|hu
     ·exact .inl hu
     ·cases ld with
      |false=>exact .inl rfl
      |true=>exact .inr ((h3.2.1 (hT rfl)).trans hu)
    ·exact .inr p
   ·rw [Array.setIfInBounds_comm _ _ hji]
    exact h3.2.2
end
def calm (Q:Exit→Act→World→Prop):Exit→Act→World→Prop
 | .normal,a,w=>Q .normal a w
 |_,_,_=>False
section
variable {P:Program} {C:Ctx} {E0 E:Env} {Q:Exit→Act→World→Prop} {ops:Array Oper}
def stillAt (C:Ctx) (ops:Array Oper) (j:Nat):Bool:=
 match ops[j]? with
 |some o=>mild C o
 |none=>true
def drawW (P:Program) (C:Ctx) (Q:Exit→Act→World→Prop) (ops:Array Oper) (l:List Oper) (a:Act) (w:World):Prop:=
 ∀(rest:List Nat) (listed:Array Bool),rest.map (fun i=>ops[i]?)=l.map some→drawOk C ops listed rest=true→wpAnyR P .any ops (stillAt C ops) (calm Q) l.length listed a w
theorem free_of {listed:Array Bool} {i:Nat} {o:Oper} (hi:ops[i]?=some o) (hf:Region.free .any ops listed i=true) (hl:isLd o=true→ldFree C ops listed i=true):
 ∀j oj,ops[j]?=some oj→j≠i→listed.getD j true=false→(∀e∈oj.after,Region.binds .any e=true→e.on≠i)→o.apart ops oj=true∧(isLd o=true→stillAt C ops j=true):=by
 intro j oj hj hne hun hno
 refine ⟨Region.free_spec hi hf j oj hj hne hun hno,fun h=> ?_⟩
 have h:=hl h
 simp only [ldFree,List.all_eq_true,List.mem_range] at h
 have h1:=h j (Array.getElem?_eq_some_iff.1 hj).1
 simp only [hj,Bool.or_eq_true,beq_iff_eq,hne,false_or,hun,Bool.false_eq_true] at h1
 simp only [stillAt,hj]
 rcases h1 with h1|h1
 ·obtain ⟨e,he,hb⟩:=Array.any_eq_true'.1 h1
  simp only [Bool.and_eq_true,beq_iff_eq] at hb
  exact absurd hb.2 (hno e he hb.1)
 ·exact h1
theorem one_ready {o:Oper} {l:List Oper} {i:Nat} {listed:Array Bool} {a:Act} {w:World} (hr:Region.ready .any ops listed=[i])
 (h:wpOp P ops (calm Q) i (fun a' w'=>(stillAt C ops i=true→Grew w w')∧wpAnyR P .any ops (stillAt C ops) (calm Q) l.length (listed.setIfInBounds i true) a' w') a w):
 wpAnyR P .any ops (stillAt C ops) (calm Q) (o::l).length listed a w:=
 by
 simp only [List.length_cons,wpAnyR]
 refine ⟨fun e=> ?_,fun j hj=> ?_⟩
 ·rw [hr] at e;cases e
 ·rw [hr] at hj
  obtain rfl:=List.mem_singleton.1 hj
  exact h
theorem stp_draw (hsel:Region.noSelect ops=true):Stp P C (calm Q) ops (drawW P C Q ops) where
 take:=fun o l a w v hw hs hrun h=>by
  intro rest listed hm hok
  cases rest with
  |nil=>cases hm
  |cons i rest=>
   simp only [List.map_cons,List.cons.injEq] at hm
   obtain ⟨hi,hm⟩:=hm
   simp only [drawOk,hi,Bool.and_eq_true] at hok
   have hy:YieldsIf P ops (fun u=>isLd o=false∨Grew w u) o v a:= .inl ⟨hw,hrun⟩
   have H:=h rest _ hm hok.2
   rcases Bool.or_eq_true_iff.1 hok.1 with h1|h1
   ·simp only [Bool.and_eq_true] at h1
    obtain ⟨h1,h2,h3,h4⟩:=h1
    refine wpAnyR_first hi (Region.noSelect_spec hsel) (fun c a w hq=>hq) l.length listed a w (free_of hi h2 (fun e=>by simpa [e] using h4)) (by simpa using h3) hy H
   ·split at h1
    ·rename_i j hr
     obtain rfl:=Nat.eq_of_beq_eq_true h1
     exact one_ready hr (hy.wpOp hi (.inr (Grew.refl _)) ⟨fun _=>Grew.refl _,H⟩)
    ·cases h1
 doo:=fun o l a w hw hs h=>by
  intro rest listed hm hok
  cases rest with
  |nil=>cases hm
  |cons i rest=>
   simp only [List.map_cons,List.cons.injEq] at hm
   obtain ⟨hi,hm⟩:=hm
   simp only [drawOk,hi,hs,Bool.false_and,Bool.false_or,Bool.and_eq_true] at hok
   obtain ⟨h1,h2⟩:=hok
   split at h1
   ·rename_i j hr
    obtain rfl:=Nat.eq_of_beq_eq_true h1
    refine one_ready hr ?_
    unfold wpOp
    simp only [hi,hw,if_true]
    refine .inl (Oper.wp_mono (fun a' w' h'=>⟨fun e=> ?_,h'.2 rest _ hm h2⟩) h)
    simp [stillAt,mild,hi,hs] at e
    exact h'.1 e
   ·cases h1
 skip:=fun o l a w hw h=>by
  intro rest listed hm hok
  cases rest with
  |nil=>cases hm
  |cons i rest=>
   simp only [List.map_cons,List.cons.injEq] at hm
   obtain ⟨hi,hm⟩:=hm
   simp only [drawOk,hi,Bool.and_eq_true] at hok
   have hy:YieldsIf P ops (fun u=>isLd o=false∨Grew w u) o undef a:= .inr ⟨hw,rfl⟩
   have H:=h rest _ hm hok.2
   rcases Bool.or_eq_true_iff.1 hok.1 with h1|h1
   ·simp only [Bool.and_eq_true] at h1
    obtain ⟨h1,h2,h3,h4⟩:=h1
    refine wpAnyR_first hi (Region.noSelect_spec hsel) (fun c a w hq=>hq) l.length listed a w (free_of hi h2 (fun e=>by simpa [e] using h4)) (by simpa using h3) hy H
   ·split at h1
    ·rename_i j hr
     obtain rfl:=Nat.eq_of_beq_eq_true h1
     exact one_ready hr (hy.wpOp hi (.inr (Grew.refl _)) ⟨fun _=>Grew.refl _,H⟩)
    ·cases h1
theorem draw_sound (hc:CtxOk P C) {R:Type} {st:St} {k:St→Option R} {r:R} {a:Act} {id:Nat} (h:regK C ops R (ops.size+ops.size+1) false [] ops.toList st k=some r)
 (hok:(Region.noSelect ops&&drawOk C ops (Array.replicate ops.size false) (List.range ops.size))=true) (hi:Inv C.N E0 E st a)
 (hn:∀st' E' a',k st'=some r→Inv C.N E0 E' st' a'→Q .normal a' E'.w):(Code.region id ops true).wp P Q a E.w:=by
 simp only [Bool.and_eq_true] at hok
 refine Code.wp_mono (Q:=calm Q) (fun e a w q=>by cases e<;>first|exact q|exact q.elim) ?_
 refine wp_region_any hc.mixed (wpAny_of_R (T:=stillAt C ops) _ _ _ _ ?_)
 have hi':=hi.grew (w:={E.w with drawn:=E.w.drawn+1}) ⟨rfl,rfl,rfl,Nat.le_refl _,fun _ _=>rfl⟩
 have:=regK_sound (Q:=calm Q) (all:=ops) (E0:=E0) hc (stp_draw (Q:=Q) hok.1) (ops.size+ops.size+1) R false [] ops.toList st k r _ a [] false h (by simp) hi' (fun s b hl=>by cases hl)
  (fun st' E' a' hk hi' _ _=>by
   intro rest listed hm hok'
   cases rest with
   |cons x r=>cases hm
   |nil=>
    refine ⟨?_,hn st' E' a' hk hi'⟩
    simpa [drawOk] using hok')
 have:=this (List.range ops.size) (Array.replicate ops.size false) ?_ hok.2
 ·simpa using this
 ·simp only [List.append_nil]
  apply List.ext_getElem?
  intro i
  simp only [List.getElem?_map,List.getElem?_range']
  by_cases hlt:i<ops.size
  ·simp [hlt]
  ·simp [hlt]
end
end Go.Am
end
section
set_option linter.unusedVariables false
set_option linter.unusedSimpArgs false
namespace Go.Am
section
variable {R:Type} {C:Ctx} {o:Oper}
theorem putK_nf (c:Cn) (st:St) (k:St→Option R):putK C o c st k=(putK C o c st some).bind k:=by
 unfold putK
 split
 ·rfl
 ·split<;>rfl
theorem cond_nf {b:Bool} {x:Option R} {y:Option St} {k:St→Option R} (h:x=y.bind k):cond b x none=(cond b y none).bind k:=by
 cases b with
 |true=>exact h
 |false=>rfl
theorem bind_nf {α:Type} {m:Option α} {f:α→Option R} {g:α→Option St} {k:St→Option R} (h:∀x,f x=(g x).bind k):m.bind f=(m.bind g).bind k:=by
 cases m with
 |none=>rfl
 |some x=>exact h x
theorem binK_nf (op:BinOp) (t:TypeId) (x y:Cn) (st:St) (k:St→Option R):binK C o op t x y st k=(binK C o op t x y st some).bind k:=by
 unfold binK;repeat' (first|rfl|exact putK_nf _ _ _|(refine cond_nf ?_)|(refine bind_nf fun _=> ?_)|split)
theorem eqK_nf (op:BinOp) (t:TypeId) (x y:DV) (st:St) (k:St→Option R):eqK C o op t x y st k=(eqK C o op t x y st some).bind k:=by
 unfold eqK;repeat' (first|rfl|exact putK_nf _ _ _|(refine cond_nf ?_)|(refine bind_nf fun _=> ?_)|split)
theorem unK_nf (op:UnOp) (x:Cn) (st:St) (k:St→Option R):unK C o op x st k=(unK C o op x st some).bind k:=by
 unfold unK;repeat' (first|rfl|exact putK_nf _ _ _|(refine cond_nf ?_)|(refine bind_nf fun _=> ?_)|split)
theorem storeT_nf (ty:TypeId) (i:Nat) (ix:Int) (path:List Nat) (c:Cn) (st:St) (k:St→Option R):storeT C.tt ty st i ix path c k=(storeT C.tt ty st i ix path c some).bind k:=by
 unfold storeT;repeat' (first|rfl|(refine cond_nf ?_)|(refine bind_nf fun _=> ?_)|split)
theorem closeS_nf (d:Option Nat) (i:Nat) (st:St) (k:St→Option R):closeS d i st k=(closeS d i st some).bind k:=by
 unfold closeS;repeat' (first|rfl|(refine bind_nf fun _=> ?_)|split)
theorem storeK_nf (ty:TypeId) (a c:Cn) (st:St) (k:St→Option R):storeK C.tt ty st a c k=(storeK C.tt ty st a c some).bind k:=by
 unfold storeK;repeat' (first|rfl|exact storeT_nf _ _ _ _ _ _ _|exact putK_nf _ _ _|(refine cond_nf ?_)|(refine bind_nf fun _=> ?_)|split)
theorem indexAddrK_nf (ty:TypeId) (a c:Cn) (st:St) (k:St→Option R):indexAddrK C o ty a c st k=(indexAddrK C o ty a c st some).bind k:=by
 unfold indexAddrK;repeat' (first|rfl|exact putK_nf _ _ _|(refine cond_nf ?_)|(refine bind_nf fun _=> ?_)|split)
theorem indexK_nf (ty:TypeId) (a c:Cn) (st:St) (k:St→Option R):indexK C o ty a c st k=(indexK C o ty a c st some).bind k:=by
 unfold indexK;repeat' (first|rfl|exact putK_nf _ _ _|(refine cond_nf ?_)|(refine bind_nf fun _=> ?_)|split)
theorem sliceK_nf (ty:TypeId) (a:Cn) (l h:Option Int) (st:St) (k:St→Option R):sliceK C o ty a l h st k=(sliceK C o ty a l h st some).bind k:=by
 unfold sliceK;repeat' (first|rfl|exact putK_nf _ _ _|(refine cond_nf ?_)|(refine bind_nf fun _=> ?_)|split)
theorem lenK_nf (ty:TypeId) (a:Cn) (st:St) (k:St→Option R):lenK C o ty a st k=(lenK C o ty a st some).bind k:=by
 unfold lenK;repeat' (first|rfl|exact putK_nf _ _ _|(refine cond_nf ?_)|(refine bind_nf fun _=> ?_)|split)
theorem appK_nf (p:Bool) (t t2:TypeId) (a c:Cn) (st:St) (k:St→Option R):appK C p o t t2 a c st k=(appK C p o t t2 a c st some).bind k:=by
 unfold appK;repeat' (first|rfl|exact putK_nf _ _ _|(refine cond_nf ?_)|(refine bind_nf fun _=> ?_)|split)
theorem appShK_nf (t t2:TypeId) (a c:Cn) (st:St) (k:St→Option R):appShK C o t t2 a c st k=(appShK C o t t2 a c st some).bind k:=by
 unfold appShK;repeat' (first|rfl|exact putK_nf _ _ _|(refine cond_nf ?_)|(refine bind_nf fun _=> ?_)|split)
theorem appOK_nf (p:Bool) (t t2:TypeId) (a c:Cn) (st:St) (k:St→Option R):appOK C p o t t2 a c st k=(appOK C p o t t2 a c st some).bind k:=by
 unfold appOK;repeat' (first|rfl|exact appK_nf _ _ _ _ _ _ _|exact appShK_nf _ _ _ _ _ _|split)
theorem copyK_nf (t t2:TypeId) (a c:Cn) (st:St) (k:St→Option R):copyK C o t t2 a c st k=(copyK C o t t2 a c st some).bind k:=by
 unfold copyK;repeat' (first|rfl|exact putK_nf _ _ _|(refine cond_nf ?_)|(refine bind_nf fun _=> ?_)|split)
theorem makeK_nf (t:TypeId) (n:Int) (st:St) (k:St→Option R):makeK C o t n st k=(makeK C o t n st some).bind k:=by
 unfold makeK;repeat' (first|rfl|exact putK_nf _ _ _|(refine cond_nf ?_)|(refine bind_nf fun _=> ?_)|split)
theorem buildSliceK_nf (p:Bool) (t:TypeId) (n:Nat) (ps:List (Nat×Operand)) (st:St) (k:St→Option R):buildSliceK C p o t n ps st k=(buildSliceK C p o t n ps st some).bind k:=by
 unfold buildSliceK;repeat' (first|rfl|exact putK_nf _ _ _|(refine cond_nf ?_)|(refine bind_nf fun _=> ?_)|split)
theorem callK_nf (p:Bool) (args:List Cn) (st:St) (k:St→Option R):∀l:List Con,callK C p o args st k l=(callK C p o args st some l).bind k
 |[]=>rfl
 |c::l=>by
  have ih:=callK_nf p args st k l
  simp only [callK]
  split
  ·split
   ·rfl
   ·split
    ·exact ih
    ·split
     ·rfl
     ·refine bind_nf fun y=> ?_
      rw [putK_nf,putK_nf _ _ (fun st2=>closeS _ _ st2 some),Option.bind_assoc]
      congr 1
      funext st2
      exact closeS_nf _ _ _ _
  ·split
   ·exact ih
   ·repeat' (first|rfl|exact putK_nf _ _ _|(refine cond_nf ?_)|(refine bind_nf fun _=> ?_)|split)
theorem convK_nf (ts td:TypeId) (c:Cn) (st:St) (k:St→Option R):convK C o ts td c st k=(convK C o ts td c st some).bind k:=by
 unfold convK;repeat' (first|rfl|exact putK_nf _ _ _|(refine cond_nf ?_)|(refine bind_nf fun _=> ?_)|split)
theorem opK_nf (p:Bool) (st:St) (k:St→Option R):opK C p o st k=(opK C p o st some).bind k:=by
 unfold opK
 repeat' (first|rfl|(first|exact putK_nf _ _ _|exact binK_nf _ _ _ _ _ _|exact unK_nf _ _ _ _|exact storeK_nf _ _ _ _ _|exact indexAddrK_nf _ _ _ _ _|exact indexK_nf _ _ _ _ _)|(first|exact eqK_nf _ _ _ _ _ _|exact sliceK_nf _ _ _ _ _ _|exact lenK_nf _ _ _ _|exact appOK_nf _ _ _ _ _ _ _|exact makeK_nf _ _ _ _|exact copyK_nf _ _ _ _ _ _|exact buildSliceK_nf _ _ _ _ _ _|exact callK_nf _ _ _ _ _|exact convK_nf _ _ _ _ _)|(refine cond_nf ?_)|(refine bind_nf fun _=> ?_)|split)
end
end Go.Am
end
section
set_option linter.unusedVariables false
set_option linter.unusedSimpArgs false
namespace Go.Am
section
variable {P:Program} {C:Ctx} {E0 E:Env} {Q:Exit→Act→World→Prop} {ops:Array Oper} {R:Type}
theorem mem_tailsOf {i:Nat} {r:List Nat}:∀{l:List (List Nat)},r∈tailsOf i l→(i::r)∈l
 |[],h=>by simp [tailsOf] at h
 |[]::rest,h=>List.mem_cons_of_mem _ (mem_tailsOf (l:=rest) (by simpa [tailsOf] using h))
 |(j::q)::rest,h=>by
  simp only [tailsOf] at h
  split at h
  ·rename_i e
   obtain rfl:=Nat.eq_of_beq_eq_true e
   rcases List.mem_cons.1 h with rfl|h
   ·exact List.mem_cons_self ..
   ·exact List.mem_cons_of_mem _ (mem_tailsOf h)
  ·exact List.mem_cons_of_mem _ (mem_tailsOf h)
theorem forkOk_ne {n:Nat} {listed:Array Bool} (h:forkOk C ops n listed []=true):False:=by
 cases n with
 |zero=>simp [forkOk] at h
 |succ n=>
  simp only [forkOk] at h
  split at h
  ·simp at h
  ·cases h
theorem opD_nf {dec:List (Nat×Bool)} {o:Oper} {p:Bool} {st:St} {k:St→Option R}:opD C p dec o st k=(opD C p dec o st some).bind k:=by
 unfold opD
 split
 ·split
  ·exact putK_nf _ _ _
  ·rfl
 ·exact opK_nf _ _ _
def decOf (ops:Array Oper) (dec:List (Nat×Bool)) (o:Oper) (st:St):List (Nat×Bool):=
 match o.guard with
 |none=>dec
 |some (j,_)=>match dstOf ops j with
  |none=>dec
  |some s=>match lookB dec s with
   |some _=>dec
   |none=>match st.sl s with
    | .ro none ⟨.bool,b⟩=>(s,b)::dec
    |_=>dec
theorem DecOk.cons {dec:List (Nat×Bool)} {a:Act} {s:Nat} {b:Bool} (h:DecOk dec a) (hs:a.tmps.getD s undef= .bool b):DecOk ((s,b)::dec) a:=by
 intro s' b' hl
 simp only [lookB] at hl
 split at hl
 ·rename_i e
  obtain rfl:=Nat.eq_of_beq_eq_true e
  obtain rfl:=Option.some.inj hl
  exact hs
 ·exact h s' b' hl
theorem step_inv {dec:List (Nat×Bool)} {o:Oper} {st:St} {a:Act} {K:List (Nat×Bool)→St→Option R} {r:R} (h:stepK C ops dec o st K=some r) (hi:Inv C.N E0 E st a) (hdec:DecOk dec a):
 DecOk (decOf ops dec o st) a∧((Region.wanted o (yielded ops a.tmps)=true∧∃st',opD C false (decOf ops dec o st) o st some=some st'∧K (rmB o.dst (decOf ops dec o st)) st'=some r)∨
  (Region.wanted o (yielded ops a.tmps)=false∧K (rmB o.dst (decOf ops dec o st)) (udead o st)=some r)):=by
 have doit:∀d,opD C false d o st (K (rmB o.dst d))=some r→∃st',opD C false d o st some=some st'∧K (rmB o.dst d) st'=some r:=by
  intro d hd
  rw [opD_nf] at hd
  exact Option.bind_eq_some_iff.1 hd
 have guarded:∀(d:List (Nat×Bool)) (v want:Bool) (j s:Nat),o.guard=some (j,want)→dstOf ops j=some s→a.tmps.getD s undef= .bool v→stepG C d v want o st K=some r→
  ((Region.wanted o (yielded ops a.tmps)=true∧∃st',opD C false d o st some=some st'∧K (rmB o.dst d) st'=some r)∨(Region.wanted o (yielded ops a.tmps)=false∧K (rmB o.dst d) (udead o st)=some r)):=by
  intro d v want j s hg hds hs hk
  have hy:=yielded_some hds hs
  unfold stepG at hk
  split at hk
  ·rename_i hvw
   simp only [beq_iff_eq] at hvw
   subst hvw
   exact .inl ⟨by simp [Region.wanted,hg,hy],doit _ hk⟩
  ·rename_i hvw
   refine .inr ⟨?_,hk⟩
   simp only [Region.wanted,hg,hy]
   cases v<;>cases want<;>first|rfl|(exact absurd rfl hvw)|(simp at hvw)
 unfold stepK at h
 unfold decOf
 split at h
 ·rename_i hg
  rw [hg]
  exact ⟨hdec,.inl ⟨by simp [Region.wanted,hg],doit _ h⟩⟩
 ·rename_i j want hg
  rw [hg]
  simp only
  split at h
  ·cases h
  ·rename_i s hds
   rw [hds]
   simp only
   split at h
   ·rename_i v hl
    rw [hl]
    exact ⟨hdec,guarded _ _ _ _ _ hg hds (hdec s v hl) h⟩
   ·rename_i hl
    rw [hl]
    simp only
    split at h
    ·rename_i b hsl
     have hsv:a.tmps.getD s undef= .bool b:=by
      have:=hi.rep.sl s
      rw [hsl] at this
      exact VRep_bool_inv this
     rw [hsl]
     simp only
     cases b with
     |true=>exact ⟨hdec.cons hsv,guarded _ _ _ _ _ hg hds hsv h⟩
     |false=>exact ⟨hdec.cons hsv,guarded _ _ _ _ _ hg hds hsv h⟩
    ·rename_i hsl
     have hsv:a.tmps.getD s undef=undef:=by
      have:=hi.rep.sl s
      rw [hsl] at this
      obtain ⟨cs,⟨vs,h1,h2⟩,h3⟩:=this
      have h2:vs=[]:=h2
      have h3:cs=[_]:=h3
      rw [h3,h2] at h1
      simpa [undef] using h1
     rw [hsl]
     simp only
     exact ⟨hdec,.inr ⟨by simp only [Region.wanted,hg,yielded_undef hds hsv];rfl,h⟩⟩
    ·cases h
theorem head_run {i:Nat} {orders:List (List Nat)} {dec:List (Nat×Bool)} {st:St} {a:Act} {k:St→Option R} {r:R} (h:∀ord,ord∈orders→runD C ops ord dec st k=some r) (hne:tailsOf i orders≠[]) (hi:Inv C.N E0 E st a) (hdec:DecOk dec a):
 ∃o dec',ops[i]?=some o∧DecOk dec' a∧((Region.wanted o (yielded ops a.tmps)=true∧∃st',opD C false dec' o st some=some st'∧∀ord,ord∈tailsOf i orders→runD C ops ord (rmB o.dst dec') st' k=some r)∨
  (Region.wanted o (yielded ops a.tmps)=false∧∀ord,ord∈tailsOf i orders→runD C ops ord (rmB o.dst dec') (udead o st) k=some r)):=by
 have key:∀ord,ord∈tailsOf i orders→∃o,ops[i]?=some o∧stepK C ops dec o st (fun dec' st'=>runD C ops ord dec' st' k)=some r:=by
  intro ord ho
  have h1:=h _ (mem_tailsOf ho)
  simp only [runD] at h1
  split at h1
  ·rename_i o hi
   exact ⟨o,hi,h1⟩
  ·cases h1
 obtain ⟨x,l,hx⟩:=List.exists_cons_of_ne_nil hne
 obtain ⟨o,ho,hs⟩:=key x (by rw [hx];exact List.mem_cons_self ..)
 obtain ⟨q1,q2⟩:=step_inv hs hi hdec
 refine ⟨o,decOf ops dec o st,ho,q1,?_⟩
 have all:∀ord,ord∈tailsOf i orders→stepK C ops dec o st (fun dec' st'=>runD C ops ord dec' st' k)=some r:=by
  intro ord hord
  obtain ⟨o',ho',hs'⟩:=key ord hord
  rw [ho] at ho'
  cases ho'
  exact hs'
 rcases q2 with ⟨hw,st',e1,_⟩|⟨hw,_⟩
 ·refine .inl ⟨hw,st',e1,fun ord hord=> ?_⟩
  rcases (step_inv (all ord hord) hi hdec).2 with ⟨_,st'',e1',e2'⟩|⟨hw',_⟩
  ·rw [e1] at e1'
   cases e1'
   exact e2'
  ·rw [hw] at hw';cases hw'
 ·refine .inr ⟨hw,fun ord hord=> ?_⟩
  rcases (step_inv (all ord hord) hi hdec).2 with ⟨hw',_⟩|⟨_,e2'⟩
  ·rw [hw] at hw';cases hw'
  ·exact e2'
theorem fork_sound (hc:CtxOk P C) (hsel:Region.noSelect ops=true) {k:St→Option R} {r:R} (hn:∀st' E' a',k st'=some r→Inv C.N E0 E' st' a'→Q .normal a' E'.w):
 ∀(n:Nat) (listed:Array Bool) (orders:List (List Nat)) (dec:List (Nat×Bool)) (st:St) (E:Env) (a:Act),forkOk C ops n listed orders=true→(∀ord,ord∈orders→runD C ops ord dec st k=some r)→Inv C.N E0 E st a→DecOk dec a→
 wpAnyR P .any ops (stillAt C ops) (calm Q) n listed a E.w:=by
 have fin:∀(orders:List (List Nat)) (dec:List (Nat×Bool)) (st:St) (E:Env) (a:Act),orders.any (·.isEmpty)=true→(∀ord,ord∈orders→runD C ops ord dec st k=some r)→Inv C.N E0 E st a→calm Q .normal a E.w:=by
  intro orders dec st E a h hall hi
  obtain ⟨ord,ho,he⟩:=List.any_eq_true.1 h
  have:ord=[]:=by simpa using he
  subst this
  exact hn st E a (hall [] ho) hi
 intro n
 induction n with
 |zero=>
  intro listed orders dec st E a hok hall hi hdec
  simp only [forkOk,Bool.and_eq_true] at hok
  exact ⟨by simpa using hok.1,fin orders dec st E a hok.2 hall hi⟩
 |succ n ih=>
  intro listed orders dec st E a hok hall hi hdec
  simp only [forkOk] at hok
  split at hok
  ·rename_i hr
   exact ⟨fun _=>fin orders dec st E a hok hall hi,fun j hj=>by rw [hr] at hj;cases hj⟩
  ·rename_i rs hr
   split at hok
   ·rename_i i t rest
    split at hok
    ·rename_i htk
     have hne:tailsOf i ((i::t)::rest)≠[]:=by simp [tailsOf]
     obtain ⟨o,dec',ho,hd',hcase⟩:=head_run hall hne hi hdec
     simp only [takeable,ho,Bool.and_eq_true] at htk
     obtain ⟨h1,h2,h3,h4⟩:=htk
     rcases hcase with ⟨hw,st',hop,htl⟩|⟨hw,htl⟩
     ·refine wp_ex (P:=P) (o:=o) (a:=a) (w:=E.w) ?_
      refine opD_sound (g:=false) hc hd' (by simp) hop hi fun st'' E' v hk' hi' hpur=> ?_
      cases hk'
      obtain ⟨e1,e2⟩:=hpur.run h1
      have H:=ih _ _ _ st' E' _ hok htl hi' (hd'.rm Tch.one)
      rw [e1] at H
      exact wpAnyR_first ho (Region.noSelect_spec hsel) (fun c a w hq=>hq) n listed a E.w (free_of ho h2 (fun e=>by simpa [e] using h4)) (by simpa using h3) (.inl ⟨hw,e2⟩) H
     ·have H:=ih _ _ _ (udead o st) E _ hok htl hi.udead (hd'.rm Tch.one)
      have hy:YieldsIf P ops (fun u=>isLd o=false∨Grew E.w u) o undef a:= .inr ⟨hw,rfl⟩
      exact wpAnyR_first ho (Region.noSelect_spec hsel) (fun c a w hq=>hq) n listed a E.w (free_of ho h2 (fun e=>by simpa [e] using h4)) (by simpa using h3) hy H
    ·refine ⟨fun e=>absurd e hr,fun j hj=> ?_⟩
     have hokj:=List.all_eq_true.1 hok j hj
     have hne:tailsOf j ((i::t)::rest)≠[]:=fun e=>by rw [e] at hokj;exact forkOk_ne hokj
     obtain ⟨o,dec',ho,hd',hcase⟩:=head_run hall hne hi hdec
     rcases hcase with ⟨hw,st',hop,htl⟩|⟨hw,htl⟩
     ·unfold wpOp
      simp only [ho,hw,if_true]
      refine .inl (opD_sound (g:=false) hc hd' (by simp) hop hi fun st'' E' v hk' hi' hpur=> ?_)
      cases hk'
      refine ⟨fun e=> ?_,ih _ _ _ st' E' _ hokj htl hi' (hd'.rm Tch.one)⟩
      simp only [stillAt,ho,mild,Bool.or_eq_true] at e
      rcases e with e|e
      ·rw [(hpur.run e).1];exact Grew.refl _
      ·exact hpur.al e
     ·have H:=ih _ _ _ (udead o st) E _ hokj htl hi.udead (hd'.rm Tch.one)
      have hy:YieldsIf P ops (fun u=>isLd o=false∨Grew E.w u) o undef a:= .inr ⟨hw,rfl⟩
      exact hy.wpOp ho (.inr (Grew.refl _)) ⟨fun _=>Grew.refl _,H⟩
   ·cases hok
end
end Go.Am
end
section
set_option linter.unusedVariables false
set_option linter.unusedSimpArgs false
namespace Go.Am
def resCn (C:Ctx) (st:St):ResultVar→Option Cn
 | .tmp t=>some (st.sl t)
 | .cell a t=>match loadC st (st.sl a) with
   |some d=>match ldOk C.tt t d.isAgg d.size with
    |true=>some d
    |false=>none
   |none=>none
def resL (C:Ctx) (st:St):List ResultVar→Option (List Cn)
 |[]=>some []
 |x::r=>match resCn C st x with
  |some c=>match resL C st r with
   |some l=>some (c::l)
   |none=>none
  |none=>none
section
variable {P:Program} {C:Ctx}
theorem asAddr_of_load {t:TypeId} {x v:Value} {w w':World} (h:(Instr.loadAt t x).run P w= .ok v w'):(do loadVar t (←asAddr x):Sem Value).run P w= .ok v w':=by
 unfold Instr.loadAt at h
 cases x with
 |pointer a=>
  cases a with
  |some a=>simpa [Instr.sureAddr,asAddr] using h
  |none=>simp [Instr.sureAddr] at h
 |_=>simp [Instr.sureAddr] at h
def resSem (tm:Array Value):ResultVar→Sem Value
 | .tmp t=>pure (tm.getD t undef)
 | .cell y t=>do loadVar t (←asAddr (tm.getD y undef))
theorem resCn_sound (hc:CtxOk P C) {N:Nat} {E0 E:Env} {st:St} {a:Act} {x:ResultVar} {c:Cn} (h:resCn C st x=some c) (hN:N=C.N) (hi:Inv N E0 E st a):
 ∃v,(resSem a.tmps x).run P E.w= .ok v E.w∧VRep E st.ob st.nx c v:=by
 subst hN
 cases x with
 |tmp t=>
  simp only [resCn,Option.some.injEq] at h
  subst h
  exact ⟨_,rfl,hi.rep.sl t⟩
 |cell y t=>
  simp only [resCn] at h
  split at h
  ·rename_i d hd
   split at h
   ·rename_i hl
    cases h
    obtain ⟨v,h1,h2⟩:=load_val hc.tt hd hl hi (hi.rep.sl y)
    exact ⟨v,asAddr_of_load (h1 E.w (Grew.refl _)),h2⟩
   ·cases h
  ·cases h
theorem resL_sound (hc:CtxOk P C) {E0 E:Env} {st:St} {a:Act} (hi:Inv C.N E0 E st a):∀(res:List ResultVar) (l:List Cn),resL C st res=some l→
 ∃vs:List Value,vs.length=res.length∧(res.mapM (resSem a.tmps)).run P E.w= .ok vs E.w∧∀s,VRep E st.ob st.nx (argSl l s) (vs.getD s undef)
 |[],l,h=>by
  cases h
  exact ⟨[],rfl,rfl,fun s=>trivial⟩
 |x::r,l,h=>by
  simp only [resL] at h
  split at h
  ·rename_i c hx
   split at h
   ·rename_i l' hr
    cases h
    obtain ⟨v,h1,h2⟩:=resCn_sound hc hx rfl hi
    obtain ⟨vs,h3,h4,h5⟩:=resL_sound hc hi r l' hr
    refine ⟨v::vs,by simp [h3],?_,fun s=> ?_⟩
    ·rw [List.mapM_cons,Sem.run_bind,h1]
     simp only [Result.andThen_ok,Sem.run_bind]
     rw [h4]
     rfl
    ·cases s with
     |zero=>exact h2
     |succ s=>simpa [argSl] using h5 s
   ·cases h
  ·cases h
theorem run_results {fn:Func} {res:List ResultVar} (h:fn.results=res.toArray) {tm:Array Value} {w:World} {vs:List Value} (hl:vs.length=res.length)
 (hm:(res.mapM (resSem tm)).run P w= .ok vs w):∃v,(results fn tm).run P w= .ok v w∧RetOk res.length vs.toArray v:=by
 have hrun:(results fn tm).run P w= .ok (if h:vs.toArray.size=1 then vs.toArray[0] else .tuple vs.toArray) w:=by
  unfold results
  rw [h]
  simp only [List.mapM_toArray,Sem.run_bind,Sem.run_map]
  show (((res.mapM (resSem tm)).run P w).andThen _).andThen _=_
  rw [hm]
  rfl
 refine ⟨_,hrun,?_⟩
 rw [←hl]
 match vs with
 |[]=>exact ⟨[],rfl,rfl,fun i hi=>by simp at hi⟩
 |[t]=>exact rfl
 |t::u::r=>
  refine ⟨t::u::r,rfl,rfl,fun i hi=> ?_⟩
  simp only [Array.getD_eq_getD_getElem?,List.getElem?_toArray]
  rw [List.getElem?_eq_getElem (by simpa using hi)]
  rfl
end
end Go.Am
end
section
set_option linter.unusedVariables false
set_option linter.unusedSimpArgs false
namespace Go.Am
def Snd (P:Program) (C:Ctx) {R:Type} (c:Code) (kn:St→Option R) (kx:Nat→St→Option R) (kr:St→Option R) (F:St→Option R):Prop:=
 ∀(r:R) (Q:Exit→Act→World→Prop) (E0 E:Env) (st:St) (a:Act),F st=some r→Inv C.N E0 E st a→
  (∀st E a,kn st=some r→Inv C.N E0 E st a→Q .normal a E.w)→
  (∀i st E a,kx i st=some r→Inv C.N E0 E st a→Q (.exit i) a E.w)→
  (∀st E a,kr st=some r→Inv C.N E0 E st a→Q .ret a E.w)→c.wp P Q a E.w
def Obl (P:Program) (C:Ctx) {R:Type} (cut:Nat→Option (Cut R)):Code→(St→Option R)→(Nat→St→Option R)→(St→Option R)→Prop
 | .seq a b,kn,kx,kr=>match cut (key b) with
   |some c=>Obl P C cut a (fun st=>c.go st) kx kr∧Snd P C b kn kx kr c.go
   |none=>Obl P C cut a (exec C cut b kn kx kr) kx kr∧Obl P C cut b kn kx kr
 | .cond _ a b,kn,kx,kr=>Obl P C cut a kn kx kr∧Obl P C cut b kn kx kr
 | .block id a,kn,kx,kr=>Obl P C cut a kn (fun i=>match Nat.beq i id with|true=>kn|false=>kx i) kr
 | .loop a,kn,kx,kr=>match cut (key a) with
   |some c=>Snd P C (.loop a) kn kx kr c.go
   |none=>True
 | .region id ops true,kn,kx,kr=>match cut (id+1000000) with
   |some c=>Snd P C (.region id ops true) kn kx kr c.go
   |none=>True
 |_,_,_,_=>True
section
variable {P:Program} {C:Ctx} {R:Type}
theorem go_some0 {c:Cut R} {st:St} {r:R} (h:c.go st=some r):∃x m,matchSt false false c.s (coSt c.s st.sl st)=some (x,m)∧c.J x=some r:=by
 unfold Cut.go at h
 split at h
 ·rename_i x m hm
  exact ⟨x,m,hm,h⟩
 ·cases h
structure Cod (N:Nat) (E0 E:Env) (st:St) (a:Act) (E':Env) (st':St):Prop where
 w:E'.w=E.w
 inv:Inv N E0 E' st' a
 sl:st'.sl=st.sl
 nx:st'.nx=st.nx
 rep:∀c v,VRep E st.ob st.nx c v→VRep E' st'.ob st'.nx c v
theorem coC_sound {N:Nat} {E0:Env} {a:Act} (objs:List (Nat×OS)):∀(cs:CS) (c:Cn) (E:Env) (st:St),Inv N E0 E st a→∃E',Cod N E0 E st a E' {st with ob:=coC objs cs c st.ob}:=by
 have same:∀(E:Env) (st:St),Inv N E0 E st a→∃E',Cod N E0 E st a E' {st with ob:=st.ob}:=fun E st h=>⟨E,rfl,h,rfl,rfl,fun _ _ h=>h⟩
 intro cs
 induction cs with
 |h j=>
  intro c E st h
  cases c with
  |h i=>
   simp only [coC]
   split
   ·obtain ⟨E',o⟩:=coH_sound (.h i) h
    exact ⟨E',o.w,o.inv,rfl,rfl,fun c v hv=>VRep_ev o.ev hv⟩
   ·exact same E st h
  |_=>exact same E st h
 |agg a ih=>
  intro c E st h
  cases c with
  |agg x=>exact ih x E st h
  |_=>exact same E st h
 |cons a b iha ihb=>
  intro c E st h
  cases c with
  |cons x y=>
   obtain ⟨E1,h1⟩:=iha x E st h
   obtain ⟨E2,h2⟩:=ihb y E1 _ h1.inv
   exact ⟨E2,h2.w.trans h1.w,h2.inv,rfl,rfl,fun c v hv=>h2.rep c v (h1.rep c v hv)⟩
  |_=>exact same E st h
 |_=>intro c E st h;exact same E st h
theorem coL_sound {N:Nat} {E0:Env} {a:Act} (objs:List (Nat×OS)) (sl:Nat→Cn):∀(l:List (Nat×CS)) (E:Env) (st:St),Inv N E0 E st a→∃E',Cod N E0 E st a E' {st with ob:=coL objs sl l st.ob}
 |[],E,st,h=>⟨E,rfl,h,rfl,rfl,fun _ _ h=>h⟩
 |x::r,E,st,h=>by
  obtain ⟨E1,h1⟩:=coC_sound objs x.2 (sl x.1) E st h
  obtain ⟨E2,h2⟩:=coL_sound objs sl r E1 _ h1.inv
  exact ⟨E2,h2.w.trans h1.w,h2.inv,rfl,rfl,fun c v hv=>h2.rep c v (h1.rep c v hv)⟩
theorem coSt_sound {N:Nat} {E0 E:Env} {a:Act} {st:St} (s:SS) (sl:Nat→Cn) (h:Inv N E0 E st a):∃E',Cod N E0 E st a E' (coSt s sl st):=by
 unfold coSt
 split
 ·exact coL_sound s.objs sl s.slots E st h
 ·exact ⟨E,rfl,h,rfl,rfl,fun _ _ h=>h⟩
theorem go_some {N:Nat} {E0 E:Env} {a:Act} {c:Cut R} {st:St} {r:R} (h:c.go st=some r) (hi:Inv N E0 E st a):∃x m st1 E1,matchSt false false c.s st1=some (x,m)∧c.J x=some r∧Inv N E0 E1 st1 a∧E1.w=E.w:=by
 obtain ⟨x,m,h1,h2⟩:=go_some0 h
 obtain ⟨E',k⟩:=coSt_sound c.s st.sl hi
 exact ⟨x,m,_,E',h1,h2,k.inv,k.w⟩
theorem exec_sound (hc:CtxOk P C) {cut:Nat→Option (Cut R)}:∀(c:Code) (kn:St→Option R) (kx:Nat→St→Option R) (kr:St→Option R),Obl P C cut c kn kx kr→Snd P C c kn kx kr (exec C cut c kn kx kr):=by
 intro c
 induction c with
 |skip=>intro kn kx kr _ r Q E0 E st a h hi hn _ _;exact wp_skip (hn st E a h hi)
 |region id ops draw=>
  intro kn kx kr ho r Q E0 E st a h hi hn hx hr
  simp only [exec] at h
  cases draw with
  |true=>
   simp only at h
   simp only [Obl] at ho
   cases hcut:cut (id+1000000) with
   |some c=>
    simp only [hcut] at h ho
    exact ho r Q E0 E st a h hi hn hx hr
   |none=>
    simp only [hcut] at h
    split at h
    ·rename_i hok
     exact draw_sound hc h hok hi (fun st' E' a' hk hi'=>hn st' E' a' hk hi')
    ·cases h
  |false=>
   simp only at h
   refine wp_region_list ?_
   have:=regK_sound (Q:=Q) (all:=ops) (E0:=E0) hc stp_list (ops.size+ops.size+1) R false [] ops.toList st kn r E a [] false h (by simp) hi (fun s b hl=>by cases hl) fun st' E' a' hk hi' _ _=>hn st' E' a' hk hi'
   simpa using this
 |seq a b iha ihb=>
  intro kn kx kr ho r Q E0 E st act h hi hn hx hr
  simp only [exec] at h
  simp only [Obl] at ho
  refine wp_seq ?_
  have hx':∀i st E a,kx i st=some r→Inv C.N E0 E st a→Exit.then (b.wp P Q) Q (.exit i) a E.w:=fun i st E a hk hi'=>hx i st E a hk hi'
  have hr':∀st E a,kr st=some r→Inv C.N E0 E st a→Exit.then (b.wp P Q) Q .ret a E.w:=fun st E a hk hi'=>hr st E a hk hi'
  cases hcut:cut (key b) with
  |some c=>
   simp only [hcut] at h ho
   exact iha _ _ _ ho.1 r _ E0 E st act h hi (fun st' E' a' hk hi'=>ho.2 r Q E0 E' st' a' hk hi' hn hx hr) hx' hr'
  |none=>
   simp only [hcut] at h ho
   exact iha _ _ _ ho.1 r _ E0 E st act h hi (fun st' E' a' hk hi'=>ihb _ _ _ ho.2 r Q E0 E' st' a' hk hi' hn hx hr) hx' hr'
 |cond x a b iha ihb=>
  intro kn kx kr ho r Q E0 E st act h hi hn hx hr
  simp only [exec,condB] at h
  split at h
  ·rename_i t ht
   refine wp_cond (evB_sound ht hi.rep) ?_
   cases t with
   |true=>exact iha _ _ _ ho.1 r Q E0 E st act h hi hn hx hr
   |false=>exact ihb _ _ _ ho.2 r Q E0 E st act h hi hn hx hr
  ·cases h
 |block id a iha=>
  intro kn kx kr ho r Q E0 E st act h hi hn hx hr
  refine wp_block ?_
  refine iha _ _ _ ho r _ E0 E st act h hi (fun st' E' a' hk hi'=>hn st' E' a' hk hi') (fun i st' E' a' hk hi'=> ?_) (fun st' E' a' hk hi'=>hr st' E' a' hk hi')
  show Exit.inBlock id Q (.exit i) a' E'.w
  simp only [Exit.inBlock]
  cases e:Nat.beq i id with
  |true=>
   simp only [e] at hk
   rw [if_pos (Nat.eq_of_beq_eq_true e)]
   exact hn st' E' a' hk hi'
  |false=>
   simp only [e] at hk
   rw [if_neg (fun e'=>by rw [e'] at e;simp at e)]
   exact hx i st' E' a' hk hi'
 |loop a iha=>
  intro kn kx kr ho r Q E0 E st act h hi hn hx hr
  simp only [exec] at h
  simp only [Obl] at ho
  split at h
  ·rename_i c hcut
   rw [hcut] at ho
   exact ho r Q E0 E st act h hi hn hx hr
  ·cases h
 |exit id=>intro kn kx kr _ r Q E0 E st a h hi hn hx _;exact wp_exit (hx id st E a h hi)
 |ret=>intro kn kx kr _ r Q E0 E st a h hi hn hx hr;exact wp_ret (hr st E a h hi)
 |_=>intro kn kx kr _ r Q E0 E st a h;cases h
theorem Snd.cut {c:Code} {kn:St→Option R} {kx:Nat→St→Option R} {kr:St→Option R} {F:St→Option R} (h:Snd P C c kn kx kr F) (k:Cut R) (hk:∀x,F (k.s.st x)=k.J x):Snd P C c kn kx kr k.go:=by
 intro r Q E0 E st a hg hi hn hx hr
 obtain ⟨x,m,st1,E1,hm,hJ,hi,hw1⟩:=go_some hg hi
 rw [←hw1]
 obtain ⟨E1,hw,hi1⟩:=cut_sound hm hi
 rw [←hw]
 exact h r Q E0 E1 (k.s.st x) a (by rw [hk x];exact hJ) hi1 hn hx hr
theorem Snd.loop {c:Code} {kn:St→Option R} {kx:Nat→St→Option R} {kr:St→Option R} (s:SS) (J:Nat→s.Den→Option R) (F:Nat→St→Option R)
 (h0:∀x,J 0 x=none) (h:∀n,Snd P C c (Cut.go ⟨s,J n⟩) kx kr (F n)) (hF:∀n x,F n (s.st x)=J (n+1) x) (n:Nat):Snd P C (.loop c) kn kx kr (Cut.go ⟨s,J n⟩):=by
 intro r Q E0 E st a hg hi hn hx hr
 have round:∀n st E a,Cut.go ⟨s,J n⟩ st=some r→Inv C.N E0 E st a→∀(b:Frame) (k:List Item) (cs:List Frame),
  ∃e a' w',Q e a' w'∧Arrives P (lone (b.at a (.code c:: .inLoop c::k)) cs E.w) b k cs e a' w':=by
  intro n
  induction n with
  |zero=>
   intro st E a hg hi
   obtain ⟨x,m,hm,hJ⟩:=go_some0 hg
   have hJ:J 0 x=some r:=hJ
   rw [h0] at hJ;cases hJ
  |succ n ih=>
   intro st E a hg hi b k cs
   obtain ⟨x,m,st1,E1,hm,hJ,hi,hw1⟩:=go_some hg hi
   obtain ⟨E1,hw,hi1⟩:=cut_sound hm hi
   rw [hw1] at hw
   have hwp:=h n r (Exit.then (fun a' w'=>∃st' E',E'.w=w'∧Cut.go ⟨s,J n⟩ st'=some r∧Inv C.N E0 E' st' a') Q) E0 E1 (s.st x) a (by rw [hF];exact hJ) hi1
    (fun st' E' a' hk hi'=>⟨st',E',rfl,hk,hi'⟩) (fun i st' E' a' hk hi'=>hx i st' E' a' hk hi') (fun st' E' a' hk hi'=>hr st' E' a' hk hi')
   rw [hw] at hwp
   obtain ⟨e,a₁,w₁,hq,harr⟩:=hwp b (.inLoop c::k) cs
   cases e with
   |normal=>
    obtain ⟨st',E',rfl,hk,hi'⟩:=hq
    obtain ⟨e₂,a₂,w₂,hq₂,harr₂⟩:=ih st' E' a₁ hk hi' b k cs
    exact ⟨e₂,a₂,w₂,hq₂,.of_steps (Steps.trans harr (.one step_inLoop)) harr₂⟩
   |exit id=>exact ⟨_,a₁,w₁,hq,.pass (x:= .inLoop c) rfl (fun _ _=> .inl (by simp)) harr⟩
   |goto l=>exact ⟨_,a₁,w₁,hq,.pass (x:= .inLoop c) rfl (fun _ _=> .inl (by simp)) harr⟩
   |ret=>exact ⟨_,a₁,w₁,hq,.pass (x:= .inLoop c) rfl (fun _ _=> .inl (by simp)) harr⟩
   |panic ch=>exact ⟨_,a₁,w₁,hq,.pass (x:= .inLoop c) rfl (fun _ _=> .inl (by simp)) harr⟩
   |outgrown=>exact ⟨_,a₁,w₁,hq,.pass (x:= .inLoop c) rfl (fun _ _=> .inl (by simp)) harr⟩
 intro b k cs
 obtain ⟨e,a',w',hq,harr⟩:=round n st E a hg hi b k cs
 exact ⟨e,a',w',hq,.of_steps (.one step_loop) harr⟩
theorem Snd.draw (hc:CtxOk P C) {id:Nat} {ops:Array Oper} {kn:St→Option R} {kx:Nat→St→Option R} {kr:St→Option R} (k:Cut R) (orders:List (List Nat))
 (hok:(Region.noSelect ops&&forkOk C ops ops.size (Array.replicate ops.size false) orders)=true) (h:∀ord,ord∈orders→∀x,runK C ops ord (k.s.st x) kn=k.J x):
 Snd P C (.region id ops true) kn kx kr k.go:=by
 intro r Q E0 E st a hg hi hn hx hr
 obtain ⟨x,m,st1,E1,hm,hJ,hi,hw1⟩:=go_some hg hi
 rw [←hw1]
 obtain ⟨E1,hw,hi1⟩:=cut_sound hm hi
 rw [←hw]
 simp only [Bool.and_eq_true] at hok
 refine Code.wp_mono (Q:=calm Q) (fun e a w q=>by cases e<;>first|exact q|exact q.elim) ?_
 refine wp_region_any hc.mixed (wpAny_of_R (T:=stillAt C ops) _ _ _ _ ?_)
 have hi':=hi1.grew (w:={E1.w with drawn:=E1.w.drawn+1}) ⟨rfl,rfl,rfl,Nat.le_refl _,fun _ _=>rfl⟩
 exact fork_sound hc hok.1 (fun st' E' a' hk hi'=>hn st' E' a' hk hi') ops.size _ orders [] (k.s.st x) _ a hok.2 (fun ord ho=>by have:=h ord ho x;unfold runK at this;rw [this];exact hJ) hi' (fun s b hl=>by cases hl)
def retK (C:Ctx) (s:SS) (res:List ResultVar) (st:St):Option s.Den:=
 match resL C st res with
 |some l=>match matchSt false false s ⟨argSl l,(coSt s (argSl l) st).ob,st.nx⟩ with
  |some (x,_)=>some x
  |none=>none
 |none=>none
theorem into_fr {N:Nat} {E0 E E':Env} {st:St} {a:Act} {m:Mt} {ids:List Nat} (hi:Inv N E0 E st a) (e1:Ext E ⟨[],[],st.ob,st.nx⟩ E' m) (k:SigOk ids m.fz false m.sig):Fr E0 (into E' m):=by
 refine hi.fr.trans ⟨by rw [show (into E' m).w=E.w from e1.w],by rw [show (into E' m).w=E.w from e1.w],by rw [show (into E' m).w=E.w from e1.w],by rw [show (into E' m).w=E.w from e1.w];exact Nat.le_refl _,
  fun b _ _=>by rw [show (into E' m).w=E.w from e1.w],?_,fun b hb=> .inl (by rw [e1.Z];exact hb),?_,?_⟩
 ·intro j b hb
  simp only [into] at hb
  split at hb
  ·rename_i i hi'
   exact .inl ⟨i,by rw [←e1.B];exact hb⟩
  ·simp at hb
 ·intro b hb
  rcases hb with hb|⟨i,_,hb⟩
  ·exact .inl (by rw [←e1.Z];exact hb)
  ·exact .inr (.inl ⟨i,by rw [←e1.B];exact hb⟩)
 ·intro j hj
  have hlt:j<st.nx:=Nat.lt_of_lt_of_le hj hi.nx
  show (match sigAt m.sig j with|some i=>E'.rho i|none=>E'.rho j)=_
  split
  ·rename_i i hi'
   rcases k.own rfl j i hi' with rfl|h1
   ·exact e1.rho j hlt
   ·omega
  ·exact e1.rho j hlt
theorem fnOk (hc:CtxOk P C) {f:FuncId} {fn:Func} {code:Code} {c:Con} {res:List ResultVar} (hf:P.funcs[f]?=some fn) (hb:fn.body=some code) (hn:fn.name≠ "runtime.NumGoroutine")
 (hN:C.N=fn.ntmps) (hres:fn.results=res.toArray) (hnr:c.nres=res.length) (hna:c.nargs≤fn.ntmps)
 (G:c.inS.Den→St→Option c.outS.Den) (hS:∀x,Snd P C code (retK C c.outS res) (fun _ _=>none) (retK C c.outS res) (G x)) (hF:∀x,G x (c.inS.st x)=c.F x):
 FnOk P f c:=by
 intro E args x y hsz hFx hr
 have hcall:(callFunc f args).run P E.w= .ok (.enter f args) E.w:=by
  unfold callFunc
  simp [hf,hn,hb]
 unfold FnRes
 rw [hcall]
 refine calls_of_wp hf hb ?_
 have hi:Inv C.N E E (c.inS.st x) {tmps:=args++Array.replicate (fn.ntmps-args.size) undef,defers:=[]}:=by
  refine ⟨⟨fun s=> ?_,hr.ob,hr.lt,hr.dj,hr.nd,hr.bb,hr.zb⟩,Fr.refl E,rfl,?_,Nat.le_max_left _ _⟩
  ·have e:(args++Array.replicate (fn.ntmps-args.size) undef).getD s undef=args.getD s undef:=by
    simp only [Array.getD_eq_getD_getElem?,Array.getElem?_append]
    split
    ·rfl
    ·rename_i hlt
     rw [Array.getElem?_replicate,show args[s]?=none from Array.getElem?_eq_none (Nat.le_of_not_lt hlt)]
     split<;>rfl
   rw [e]
   exact hr.sl s
  ·simp only [Array.size_append,Array.size_replicate];omega
 have fin:∀st E' a,retK C c.outS res st=some y→Inv C.N E E' st a→a.defers=[]∧∃v,(results fn a.tmps).run P E'.w= .ok v E'.w∧
  ∃E2 tm,E2.w=E'.w∧Fr E E2∧Rep E2 (c.outS.st y) tm∧RetOk c.nres tm v:=by
  intro st E' a hk hi'
  unfold retK at hk
  split at hk
  ·rename_i l hl
   split at hk
   ·rename_i y' m hm
    cases hk
    obtain ⟨vs,h1,h2,h3⟩:=resL_sound hc hi' res l hl
    obtain ⟨v,h4,h5⟩:=run_results (P:=P) hres h1 h2
    obtain ⟨E2,kc⟩:=coSt_sound c.outS (argSl l) hi'
    have hnx:=kc.nx
    have hr':Rep E2 ⟨argSl l,(coSt c.outS (argSl l) st).ob,st.nx⟩ vs.toArray:=
     ⟨fun s=>by have:=kc.rep _ _ (h3 s);rw [hnx] at this;simpa using this,by rw [←hnx];exact kc.inv.rep.ob,by rw [←hnx];exact kc.inv.rep.lt,kc.inv.rep.dj,kc.inv.rep.nd,kc.inv.rep.bb,kc.inv.rep.zb⟩
    obtain ⟨E1,e1,e2,k,_,hr2⟩:=matchSt_sound hm hr'
    exact ⟨hi'.defers,v,h4,into E1 m,_,e1.w.trans kc.w,into_fr (st:=coSt c.outS (argSl l) st) kc.inv (by rw [hnx];exact e1) k,hr2,by rw [hnr];exact h5⟩
   ·cases hk
  ·cases hk
 exact hS x y _ E E _ _ (by rw [hF];exact hFx) hi (fun st E' a hk hi'=>fin st E' a hk hi') (fun i st E' a hk _=>by cases hk) (fun st E' a hk hi'=>fin st E' a hk hi')
end
end Go.Am
end
section
set_option linter.unusedVariables false
set_option linter.unusedSimpArgs false
namespace Go.Am
def zrB:Ty→List Value→Option (List Value)
 | .int k,.int k' n::r=>match decide (k=k')&&decide (n=0) with
   |true=>some r
   |false=>none
 | .bool,.bool false::r=>some r
 | .str,.string ⟨⟨[]⟩⟩::r=>some r
 | .list _ _,.slice none 0 0::r=>some r
 | .nil,r=>some r
 | .cons a b,r=>match zrB a r with
   |some r1=>zrB b r1
   |none=>none
 | .st a,r=>zrB a r
 | .ptr,v::r=>match v.oneCell' with
   |true=>some r
   |false=>none
 |_,_=>none
theorem zrB_sound:∀(u:Ty) (l r:List Value),zrB u l=some r→∃c,l=c++r∧ZR u c:=by
 intro u
 induction u with
 |int k=>
  intro l r h
  unfold zrB at h
  split at h<;>try (cases h;done)
  all_goals first|(rename_i heq;cases heq)|skip
  ·split at h
   ·rename_i hd
    cases h
    simp only [Bool.and_eq_true,decide_eq_true_eq] at hd
    obtain ⟨rfl,rfl⟩:=hd
    exact ⟨_,rfl,rfl⟩
   ·cases h
 |bool=>
  intro l r h
  unfold zrB at h
  split at h<;>try (cases h;done)
  all_goals first|(rename_i heq;cases heq;done)|skip
  all_goals (cases h;exact ⟨[_],rfl,rfl⟩)
 |str=>
  intro l r h
  unfold zrB at h
  split at h<;>try (cases h;done)
  all_goals first|(rename_i heq;cases heq;done)|skip
  all_goals (cases h;exact ⟨[_],rfl,rfl⟩)
 |list e t _=>
  intro l r h
  unfold zrB at h
  split at h<;>try (cases h;done)
  all_goals first|(rename_i heq;cases heq;done)|skip
  all_goals (cases h;exact ⟨[_],rfl,rfl⟩)
 |nil=>
  intro l r h
  unfold zrB at h
  cases h
  exact ⟨[],rfl,rfl⟩
 |cons a b iha ihb=>
  intro l r h
  simp only [zrB] at h
  split at h
  ·rename_i r1 h1
   obtain ⟨c,rfl,hc⟩:=iha _ _ h1
   obtain ⟨d,rfl,hd⟩:=ihb _ _ h
   exact ⟨c++d,by simp,c,d,rfl,hc,hd⟩
  ·cases h
 |st a ih=>
  intro l r h
  simp only [zrB] at h
  exact ih l r h
 |ptr=>
  intro l r h
  cases l with
  |nil=>simp [zrB] at h
  |cons v l=>
   simp only [zrB] at h
   split at h
   ·rename_i h1
    cases h
    exact ⟨[v],rfl,v,rfl,h1⟩
   ·cases h
def mkB:Bool→Value→Bool
 |true,.agg _=>true
 |true,_=>false
 |false,.agg _=>false
 |false,_=>true
def nilB {α:Type}:Option (List α)→Bool
 |some []=>true
 |_=>false
def infoB (P:Program) (t:TypeId) (u:Ty):Bool:=
 match P.info? t with
 |some i=>Nat.beq i.size u.size&&(match i.zero with
  |some z=>nilB (zrB u z.cells.toList)&&(mkB u.isAgg z&&(Nat.blt 0 u.size&&(Nat.ble i.bytes 32768&&(match decide (u= .int .u8) with
   |true=>Nat.beq i.bytes 1
   |false=>true))))
  |none=>false)
 |none=>false
theorem infoB_sound {P:Program} {t:TypeId} {u:Ty} (h:infoB P t u=true):InfoOk P t u:=by
 unfold infoB at h
 split at h
 ·rename_i i hi
  rw [Bool.and_eq_true] at h
  obtain ⟨h1,h2⟩:=h
  split at h2
  ·rename_i z hz
   simp only [Bool.and_eq_true] at h2
   obtain ⟨h3,h4,h5,h6,h7⟩:=h2
   refine ⟨i,z,hi,Nat.eq_of_beq_eq_true h1,hz,?_,Nat.le_of_ble_eq_true h5,Nat.le_of_ble_eq_true h6,?_,?_⟩
   ·unfold nilB at h3
    split at h3
    ·rename_i hq
     obtain ⟨c,hc,hr⟩:=zrB_sound _ _ _ hq
     rw [hc,List.append_nil]
     exact hr
    ·cases h3
   ·cases ha:u.isAgg with
    |true=>
     rw [ha] at h4
     cases z<;>simp only [mkB] at h4<;>first|(cases h4;done)|skip
     simp [mkV,Value.cells]
    |false=>
     rw [ha] at h4
     cases z<;>simp only [mkB] at h4<;>first|(cases h4;done)|skip
     all_goals simp [mkV,Value.cells]
   ·intro hu
    subst hu
    exact Nat.eq_of_beq_eq_true (by simpa using h7)
  ·cases h2
 ·cases h
def aggB (P:Program) (t:TypeId) (a:Ty):Bool:=
 match P.underlying t with
 |some (.struct _)=>a.isAgg
 |some (.array _ _)=>false
 |some _=> !a.isAgg
 |none=>false
theorem aggB_sound {P:Program} {t:TypeId} {a:Ty} (h:aggB P t a=true):aggOk P t a:=by
 unfold aggB at h
 unfold aggOk
 split at h
 ·rename_i hu;rw [hu];exact h
 ·cases h
 ·rename_i d h1 h2 hu
  rw [hu]
  have h:a.isAgg=false:=by simpa using h
  cases d<;>first|exact h|(exact absurd rfl (h1 _))|(exact absurd rfl (h2 _ _))
 ·cases h
def fieldsB (P:Program):List Field→Nat→Ty→Bool
 |[],_,.nil=>true
 |f::fs,off,.cons a b=>Nat.beq f.offset off&&((match P.info? f.type with
  |some i=>Nat.beq i.size a.size
  |none=>false)&&(aggB P f.type a&&(Nat.blt 0 a.size&&(f.name != "_"&&fieldsB P fs (off+a.size) b))))
 |_,_,_=>false
theorem fieldsB_sound {P:Program}:∀(l:List Field) (off:Nat) (u:Ty),fieldsB P l off u=true→FieldsOk P l off u:=by
 intro l
 induction l with
 |nil=>intro off u h;cases u<;>first|trivial|(simp [fieldsB] at h;done)
 |cons f fs ih=>
  intro off u h
  cases u<;>simp only [fieldsB] at h<;>first|(cases h;done)|skip
  simp only [Bool.and_eq_true] at h
  obtain ⟨h1,h2,h3,h4,h5,h6⟩:=h
  refine ⟨Nat.eq_of_beq_eq_true h1,?_,aggB_sound h3,Nat.le_of_ble_eq_true h4,by simpa using h5,ih _ _ h6⟩
  split at h2
  ·rename_i i hi;exact ⟨i,hi,Nat.eq_of_beq_eq_true h2⟩
  ·cases h2
def tokB (P:Program) (t:TypeId) (u:Ty):Bool:=
 infoB P t u&&(match u,P.underlying t with
  | .int k,some (.int k')=>decide (k=k')
  | .bool,some .bool=>true
  | .str,some .string=>true
  | .list e v,some (.slice e')=>Nat.beq e e'&&(infoB P e v&&aggB P e v)
  | .st fs,some (.struct fields)=>fieldsB P fields.toList 0 fs&& !P.stoodInHeld t
  | .ptr,some (.struct _)=>false
  | .ptr,some (.array _ _)=>false
  | .ptr,some _=>true
  |_,_=>false)
theorem tokB_sound {P:Program} {t:TypeId} {u:Ty} (h:tokB P t u=true):TOk P t u:=by
 unfold tokB at h
 rw [Bool.and_eq_true] at h
 obtain ⟨h0,h⟩:=h
 refine ⟨infoB_sound h0,?_⟩
 cases hu:P.underlying t with
 |none=>rw [hu] at h;cases u<;>simp at h
 |some d=>
  rw [hu] at h
  cases u with
  |int k=>cases d<;>simp only at h<;>first|(cases h;done)|(obtain rfl:=of_decide_eq_true h;rfl)
  |bool=>cases d<;>simp only at h<;>first|(cases h;done)|rfl
  |str=>cases d<;>simp only at h<;>first|(cases h;done)|rfl
  |list e v=>
   cases d<;>simp only at h<;>first|(cases h;done)|skip
   simp only [Bool.and_eq_true] at h
   obtain rfl:=Nat.eq_of_beq_eq_true h.1
   exact ⟨rfl,infoB_sound h.2.1,aggB_sound h.2.2⟩
  |st fs=>
   cases d<;>simp only at h<;>first|(cases h;done)|skip
   simp only [Bool.and_eq_true,Bool.not_eq_true'] at h
   exact ⟨_,rfl,fieldsB_sound _ _ _ h.1,h.2⟩
  |ptr=>
   refine ⟨d,rfl,fun fs e=> ?_,fun n e he=> ?_⟩
   ·subst e;simp at h
   ·subst he;simp at h
  |nil=>cases d<;>simp at h
  |cons a b=>cases d<;>simp at h
def eqB (P:Program):Ty→TypeId→List Field→Nat→Bool
 | .int k,t,_,_=>match P.underlying t with
   |some (.int k')=>decide (k=k')
   |_=>false
 | .bool,t,_,_=>match P.underlying t with
   |some .bool=>true
   |_=>false
 | .str,t,_,_=>match P.underlying t with
   |some .string=>true
   |_=>false
 | .st fs,t,_,_=>match P.underlying t with
   |some (.struct fields)=> !P.stoodInHeld t&&(eqB P fs 0 fields.toList 0&&fs.isRow)
   |_=>false
 | .nil,_,l,_=>l.isEmpty
 | .cons a b,_,l,off=>match l with
   |f::r=>Nat.beq f.offset off&&(f.name != "_"&&((match P.info? f.type with
    |some i=>Nat.beq i.size a.size
    |none=>false)&&(aggB P f.type a&&(Nat.blt 0 a.size&&(eqB P a f.type [] 0&&(eqB P b 0 r (off+a.size)&&(!a.isRow&&b.isRow)))))))
   |[]=>false
 | .list _ _,_,_,_=>false
 | .ptr,_,_,_=>false
theorem eqB_sound {P:Program}:∀(u:Ty) (t:TypeId) (l:List Field) (off:Nat),eqB P u t l off=true→EqT P u t l off:=by
 intro u
 induction u with
 |int k=>intro t l off h;simp only [eqB] at h;split at h<;>first|(rename_i hu;rw [show k=_ from of_decide_eq_true h];exact hu)|cases h
 |bool=>intro t l off h;simp only [eqB] at h;split at h<;>first|(rename_i hu;exact hu)|cases h
 |str=>intro t l off h;simp only [eqB] at h;split at h<;>first|(rename_i hu;exact hu)|cases h
 |list e t _=>intro t l off h;cases h
 |ptr=>intro t l off h;cases h
 |nil=>intro t l off h;simp only [eqB] at h;exact List.isEmpty_iff.1 h
 |st fs ih=>
  intro t l off h
  simp only [eqB] at h
  split at h
  ·rename_i hu
   simp only [Bool.and_eq_true,Bool.not_eq_true'] at h
   exact ⟨_,hu,h.1,ih _ _ _ h.2.1,h.2.2⟩
  ·cases h
 |cons a b iha ihb=>
  intro t l off h
  simp only [eqB] at h
  split at h
  ·simp only [Bool.and_eq_true,Bool.not_eq_true'] at h
   obtain ⟨h1,h2,h3,h4,h5,h6,h7,h8,h9⟩:=h
   refine ⟨_,_,rfl,Nat.eq_of_beq_eq_true h1,by simpa using h2,?_,aggB_sound h4,Nat.le_of_ble_eq_true h5,iha _ _ _ h6,ihb _ _ _ h7,h8,h9⟩
   split at h3
   ·rename_i i hi;exact ⟨i,hi,Nat.eq_of_beq_eq_true h3⟩
   ·cases h3
  ·cases h
def tyAt:List (Nat×Ty)→Nat→Option Ty
 |[],_=>none
 |x::r,n=>match Nat.beq x.1 n with
  |true=>some x.2
  |false=>tyAt r n
theorem tyAt_mem {n:Nat} {u:Ty}:∀{l:List (Nat×Ty)},tyAt l n=some u→(n,u)∈l
 |[],h=>by cases h
 |x::r,h=>by
  simp only [tyAt] at h
  split at h
  ·rename_i e
   cases h
   obtain ⟨a,b⟩:=x
   have:=Nat.eq_of_beq_eq_true e
   simp only at this
   subst this
   exact List.mem_cons_self ..
  ·exact List.mem_cons_of_mem _ (tyAt_mem h)
def tableB (P:Program) (l:List (Nat×Ty)):Bool:=
 l.all fun x=>tokB P x.1 x.2&&(match x.2.isAgg&&x.2.flat with
  |true=>eqB P x.2 x.1 [] 0&& !P.eqGuardType P.depth x.1
  |false=>true)
theorem table_tt {P:Program} {l:List (Nat×Ty)} (h:tableB P l=true):∀t u,tyAt l t=some u→TOk P t u:=by
 intro t u hu
 have:=List.all_eq_true.1 h _ (tyAt_mem hu)
 rw [Bool.and_eq_true] at this
 exact tokB_sound this.1
theorem table_eq {P:Program} {l:List (Nat×Ty)} (h:tableB P l=true):∀t u,tyAt l t=some u→u.isAgg=true→u.flat=true→EqT P u t [] 0∧P.eqGuardType P.depth t=false:=by
 intro t u hu h1 h2
 have:=List.all_eq_true.1 h _ (tyAt_mem hu)
 simp only [h1,h2,Bool.and_self,Bool.and_eq_true,Bool.not_eq_true'] at this
 exact ⟨eqB_sound _ _ _ _ this.2.1,this.2.2⟩
end Go.Am
end
section
set_option linter.unusedVariables false
set_option linter.unusedSimpArgs false
namespace Go.Am
def Code.l:Code→Code
 | .seq a _=>a
 | .block _ a=>a
 | .loop a=>a
 | .cond _ a _=>a
 |c=>c
def Code.r:Code→Code
 | .seq _ a=>a
 | .cond _ _ a=>a
 |c=>c
def bodyOf (f:Func):Code:=f.body.getD .skip
def kxB {R:Type} (id:Nat) (kn:St→Option R) (kx:Nat→St→Option R):Nat→St→Option R:=fun i=>match Nat.beq i id with
 |true=>kn
 |false=>kx i
def kCond {R:Type} (C:Ctx) (x:Operand) (F G:St→Option R):St→Option R:=fun st=>match condB C st x with
 |some t=>cond t (F st) (G st)
 |none=>none
section
variable {P:Program} {C:Ctx} {R:Type}
theorem Obl_none:∀(c:Code) (kn:St→Option R) (kx:Nat→St→Option R) (kr:St→Option R),Obl P C (fun _=>none) c kn kx kr:=by
 intro c
 induction c with
 |seq a b iha ihb=>intro kn kx kr;exact ⟨iha _ _ _,ihb _ _ _⟩
 |cond x a b iha ihb=>intro kn kx kr;exact ⟨iha _ _ _,ihb _ _ _⟩
 |block id a iha=>intro kn kx kr;exact iha _ _ _
 |region id ops draw=>intro kn kx kr;cases draw<;>exact trivial
 |_=>intros;exact trivial
theorem Snd.exec (hc:CtxOk P C) (c:Code) (kn:St→Option R) (kx:Nat→St→Option R) (kr:St→Option R):Snd P C c kn kx kr (exec C (fun _=>none) c kn kx kr):=
 exec_sound hc c kn kx kr (Obl_none c kn kx kr)
theorem Snd.seq {c:Code} {kn:St→Option R} {kx:Nat→St→Option R} {kr:St→Option R} {F G:St→Option R} (e:c= .seq (Code.l c) (Code.r c)) (hb:Snd P C (Code.r c) kn kx kr G) (ha:Snd P C (Code.l c) G kx kr F):
 Snd P C c kn kx kr F:=by
 intro r Q E0 E st act h hi hn hx hr
 rw [e]
 exact wp_seq (ha r _ E0 E st act h hi (fun st' E' a' hk hi'=>hb r Q E0 E' st' a' hk hi' hn hx hr) (fun i st E a hk hi'=>hx i st E a hk hi') (fun st E a hk hi'=>hr st E a hk hi'))
theorem Snd.block {c:Code} {id:Nat} {kn:St→Option R} {kx:Nat→St→Option R} {kr:St→Option R} {F:St→Option R} (e:c= .block id (Code.l c)) (ha:Snd P C (Code.l c) kn (kxB id kn kx) kr F):Snd P C c kn kx kr F:=by
 intro r Q E0 E st act h hi hn hx hr
 rw [e]
 refine wp_block (ha r _ E0 E st act h hi (fun st' E' a' hk hi'=>hn st' E' a' hk hi') (fun i st' E' a' hk hi'=> ?_) (fun st' E' a' hk hi'=>hr st' E' a' hk hi'))
 show Exit.inBlock id Q (.exit i) a' E'.w
 simp only [Exit.inBlock]
 unfold kxB at hk
 cases e:Nat.beq i id with
 |true=>
  simp only [e] at hk
  rw [if_pos (Nat.eq_of_beq_eq_true e)]
  exact hn st' E' a' hk hi'
 |false=>
  simp only [e] at hk
  rw [if_neg (fun e'=>by rw [e'] at e;simp at e)]
  exact hx i st' E' a' hk hi'
theorem Snd.cond {c:Code} {x:Operand} {kn:St→Option R} {kx:Nat→St→Option R} {kr:St→Option R} {F G:St→Option R} (e:c= .cond x (Code.l c) (Code.r c)) (ha:Snd P C (Code.l c) kn kx kr F) (hb:Snd P C (Code.r c) kn kx kr G):
 Snd P C c kn kx kr (kCond C x F G):=by
 intro r Q E0 E st act h hi hn hx hr
 rw [e]
 unfold kCond condB at h
 split at h
 ·rename_i t ht
  refine wp_cond (evB_sound ht hi.rep) ?_
  cases t with
  |true=>exact ha r Q E0 E st act h hi hn hx hr
  |false=>exact hb r Q E0 E st act h hi hn hx hr
 ·cases h
theorem Snd.loop' {c:Code} {kn:St→Option R} {kx:Nat→St→Option R} {kr:St→Option R} (e:c= .loop (Code.l c)) (s:SS) (J:Nat→s.Den→Option R) (F:Nat→St→Option R)
 (h0:∀x,J 0 x=none) (h:∀n,Snd P C (Code.l c) (Cut.go ⟨s,J n⟩) kx kr (F n)) (hF:∀n x,F n (s.st x)=J (n+1) x) (n:Nat):Snd P C c kn kx kr (Cut.go ⟨s,J n⟩):=by
 rw [e]
 exact Snd.loop s J F h0 h hF n
theorem Snd.draw' (hc:CtxOk P C) {c:Code} {id:Nat} {ops:Array Oper} {kn:St→Option R} {kx:Nat→St→Option R} {kr:St→Option R} (e:c= .region id ops true) (k:Cut R) (orders:List (List Nat))
 (hok:(Region.noSelect ops&&forkOk C ops ops.size (Array.replicate ops.size false) orders)=true) (h:∀ord,ord∈orders→∀x,runK C ops ord (k.s.st x) kn=k.J x):Snd P C c kn kx kr k.go:=by
 rw [e]
 exact Snd.draw hc k orders hok h
end
def conAt:List (Nat×List Con)→Nat→List Con
 |[],_=>[]
 |x::r,n=>match Nat.beq x.1 n with
  |true=>x.2
  |false=>conAt r n
theorem conAt_mem {n:Nat} {c:Con}:∀{l:List (Nat×List Con)},c∈conAt l n→∃cs,(n,cs)∈l∧c∈cs
 |[],h=>by cases h
 |x::r,h=>by
  simp only [conAt] at h
  split at h
  ·rename_i e
   obtain ⟨a,b⟩:=x
   have:=Nat.eq_of_beq_eq_true e
   simp only at this
   subst this
   exact ⟨b,List.mem_cons_self ..,h⟩
  ·obtain ⟨cs,h1,h2⟩:=conAt_mem h
   exact ⟨cs,List.mem_cons_of_mem _ h1,h2⟩
theorem ctxOk {P:Program} {tys:List (Nat×Ty)} {cons:List (Nat×List Con)} {N:Nat} {br:Nat→Bool} (ht:tableB P tys=true) (hm:P.follows .mixedOrders=true) (h:∀x,x∈cons→∀c,c∈x.2→FnOk P x.1 c):
 CtxOk P ⟨tyAt tys,conAt cons,N,br⟩ where
 tt:=table_tt ht
 phi:=fun g c hc=>by
  obtain ⟨cs,h1,h2⟩:=conAt_mem hc
  exact h _ h1 c h2
 mixed:=hm
 eq:=table_eq ht
end Go.Am
end
section
set_option linter.unusedVariables false
namespace Go.Am
theorem consOk_nil {P:Program}:∀x,x∈([]:List (Nat×List Con))→∀c,c∈x.2→FnOk P x.1 c:=fun _ h=>(List.not_mem_nil h).elim
theorem consOk_cons {P:Program} {f:Nat} {c:Con} {l:List (Nat×List Con)} (h:FnOk P f c) (k:∀x,x∈l→∀c,c∈x.2→FnOk P x.1 c):
 ∀x,x∈(f,[c])::l→∀c,c∈x.2→FnOk P x.1 c:=by
 intro x hx
 rcases List.mem_cons.1 hx with rfl|hx
 ·intro d hd
  simp only [List.mem_singleton] at hd
  subst hd
  exact h
 ·exact k x hx
theorem FnOk_none {P:Program} {f:FuncId} {c:Con} (h:∀x,c.F x=none):FnOk P f c:=by
 intro E args x y hsz hF hr
 rw [h x] at hF
 cases hF
def Code.ops:Code→Array Oper
 | .region _ ops _=>ops
 |_=> #[]
theorem Snd.fork {P:Program} {C:Ctx} {R:Type} (hc:CtxOk P C) {c:Code} {id:Nat} {kn:St→Option R} {kx:Nat→St→Option R} {kr:St→Option R} (e:c= .region id (Code.ops c) true) (k:Cut R) (orders:List (List Nat))
 (hok:(Region.noSelect (Code.ops c)&&forkOk C (Code.ops c) (Code.ops c).size (Array.replicate (Code.ops c).size false) orders)=true)
 (h:∀ord,ord∈orders→∀x,runK C (Code.ops c) ord (k.s.st x) kn=k.J x):Snd P C c kn kx kr k.go:=
 Snd.draw' hc e k orders hok h
theorem ords_nil {P:List Nat→Prop}:∀ord,ord∈([]:List (List Nat))→P ord:=fun _ h=>(List.not_mem_nil h).elim
theorem ords_cons {P:List Nat→Prop} {o:List Nat} {l:List (List Nat)} (h:P o) (t:∀ord,ord∈l→P ord):∀ord,ord∈o::l→P ord:=by
 intro ord ho
 rcases List.mem_cons.1 ho with rfl|ho
 ·exact h
 ·exact t ord ho
structure Fc (P:Program) where
 f:Nat
 c:Con
 ok:FnOk P f c
def conF {P:Program}:List (Fc P)→Nat→List Con
 |[],_=>[]
 |x::r,n=>match Nat.beq x.f n with
  |true=>x.c::conF r n
  |false=>conF r n
theorem conF_mem {P:Program} {n:Nat} {c:Con}:∀{l:List (Fc P)},c∈conF l n→FnOk P n c
 |[],h=>by cases h
 |x::r,h=>by
  simp only [conF] at h
  split at h
  ·rename_i e
   rcases List.mem_cons.1 h with rfl|h
   ·rw [←Nat.eq_of_beq_eq_true e];exact x.ok
   ·exact conF_mem h
  ·exact conF_mem h
theorem ctxF {P:Program} {tys:List (Nat×Ty)} (ht:tableB P tys=true) (hm:P.follows .mixedOrders=true) (l:List (Fc P)) (N:Nat) (br:Nat→Bool):
 CtxOk P ⟨tyAt tys,conF l,N,br⟩ where
 tt:=table_tt ht
 phi:=fun g c hc=>conF_mem hc
 mixed:=hm
 eq:=table_eq ht
def Code.bid:Code→Nat
 | .block i _=>i
 | .region i _ _=>i
 |_=>0
def Code.test:Code→Operand
 | .cond x _ _=>x
 |_=> .tmp 0
namespace W
variable {P:Program} {C:Ctx} {R:Type} {c:Code} {kn:St→Option R} {kx:Nat→St→Option R} {kr:St→Option R} {F G:St→Option R}
theorem X (hc:CtxOk P C):Snd P C c kn kx kr (exec C (fun _=>none) c kn kx kr):=Snd.exec hc c kn kx kr
theorem Q (hb:Snd P C (Code.r c) kn kx kr G) (ha:Snd P C (Code.l c) G kx kr F) (e:c= .seq (Code.l c) (Code.r c):=by kernel_rfl):Snd P C c kn kx kr F:=Snd.seq e hb ha
theorem B (ha:Snd P C (Code.l c) kn (kxB (Code.bid c) kn kx) kr F) (e:c= .block (Code.bid c) (Code.l c):=by kernel_rfl):Snd P C c kn kx kr F:=Snd.block e ha
theorem D (ha:Snd P C (Code.l c) kn kx kr F) (hb:Snd P C (Code.r c) kn kx kr G) (e:c= .cond (Code.test c) (Code.l c) (Code.r c):=by kernel_rfl):Snd P C c kn kx kr (kCond C (Code.test c) F G):=Snd.cond e ha hb
theorem T (h:Snd P C c kn kx kr F) (s:SS) (J:s.Den→Option R) (hk:∀x,F (s.st x)=J x:=by intro x;kernel_rfl):Snd P C c kn kx kr (Cut.go ⟨s,J⟩):=Snd.cut h ⟨s,J⟩ hk
theorem L (s:SS) (J:Nat→s.Den→Option R) (n:Nat) {F:Nat→St→Option R} (h:∀n,Snd P C (Code.l c) (Cut.go ⟨s,J n⟩) kx kr (F n))
 (hF:∀n x,F n (s.st x)=J (n+1) x:=by intro n x;kernel_rfl) (h0:∀x,J 0 x=none:=by intro x;rfl) (e:c= .loop (Code.l c):=by kernel_rfl):Snd P C c kn kx kr (Cut.go ⟨s,J n⟩):=Snd.loop' e s J F h0 h hF n
theorem K (hc:CtxOk P C) (s:SS) (J:s.Den→Option R) (orders:List (List Nat))
 (h:∀ord,ord∈orders→∀x,runK C (Code.ops c) ord (s.st x) kn=J x) (e:c= .region (Code.bid c) (Code.ops c) true:=by kernel_rfl)
 (hok:(Region.noSelect (Code.ops c)&&forkOk C (Code.ops c) (Code.ops c).size (Array.replicate (Code.ops c).size false) orders)=true:=by kernel_rfl):Snd P C c kn kx kr (Cut.go ⟨s,J⟩):=Snd.fork hc e ⟨s,J⟩ orders hok h
theorem N {P:List Nat→Prop}:∀ord,ord∈([]:List (List Nat))→P ord:=ords_nil
theorem O {P:List Nat→Prop} {o:List Nat} {l:List (List Nat)} (h:P o) (t:∀ord,ord∈l→P ord):∀ord,ord∈o::l→P ord:=ords_cons h t
theorem ok (hc:CtxOk P C) {f:FuncId} (fn:Func) {c:Con} {G:c.inS.Den→St→Option c.outS.Den} (hS:CtxOk P C→∀x,Snd P C (bodyOf fn) (retK C c.outS fn.results.toList) (fun _ _=>none) (retK C c.outS fn.results.toList) (G x))
 (hF:∀x,G x (c.inS.st x)=c.F x:=by intro x;kernel_rfl) (hf:P.funcs[f]?=some fn:=by kernel_rfl) (hb:fn.body=some (bodyOf fn):=by kernel_rfl) (hn:fn.name≠ "runtime.NumGoroutine":=by decide)
 (hN:C.N=fn.ntmps:=by kernel_rfl) (hnr:c.nres=fn.results.toList.length:=by kernel_rfl) (hna:c.nargs.ble fn.ntmps=true:=by kernel_rfl):FnOk P f c:=
 fnOk hc hf hb hn hN rfl hnr (Nat.le_of_ble_eq_true hna) G (hS hc) hF
end W
end Go.Am
end
