/- an abstract machine over the model: what it holds, how it steps, and that its steps are sound -/
import Derived.Test.YtceehofnlhfndaaAmGen
import Derived.WalkKit
import Derived.ProofKit
import Derived.OpenShut
import Derived.ShutString
import Derived.ChangeOld
import Derived.Below
import Derived.SizedLaws
set_option linter.unnecessarySimpa false
set_option linter.unusedSimpArgs false
set_option linter.unusedVariables false
set_option linter.unusedSectionVars false
section
namespace Go.Am
open Go.RowKit
def iB:(t:Ty)→t.Den→Prop
 | .int k,x=>(Lit.int k x).wf=true
 | .bool,_=>True
 | .str,s=>(s:ByteArray).size≤maxLen
 | .list _ t,xs=>List.length xs≤maxLen∧∀x,x∈(xs:List t.Den)→iB t x
 | .nil,_=>True
 | .cons a b,x=>iB a x.1∧iB b x.2
 | .st a,x=>iB a x
 | .ptr,_=>True
def eT(P:Program):Ty→TypeId→List Field→Nat→Bool
 | .int k,t,_,_=>match P.underlying t with
   |some (.int k')=>decide (k'=k)
   |_=>false
 | .bool,t,_,_=>match P.underlying t with
   |some .bool=>true
   |_=>false
 | .str,t,_,_=>match P.underlying t with
   |some .string=>true
   |_=>false
 | .list e v,t,_,_=>match P.underlying t with
   |some (.slice e')=>Nat.beq e' e&&(Nat.beq (P.cellsOf e) v.size&&(Nat.blt 0 v.size&&(!v.isRow&&eT P v e [] 0)))
   |_=>false
 | .st fs,t,_,_=>match P.underlying t with
   |some (.struct fields)=>fs.isRow&&(Nat.beq (P.cellsOf t) fs.size&&eT P fs 0 fields.toList 0)
   |_=>false
 | .nil,_,l,_=>l.isEmpty
 | .cons a b,_,l,off=>match l with
   |f::r=>Nat.beq f.offset off&&(Nat.beq (P.cellsOf f.type) a.size&&(!a.isRow&&(eT P a f.type [] 0&&(b.isRow&&eT P b 0 r (off+a.size)))))
   |[]=>false
 | .ptr,_,_,_=>false
section
variable{H:Type}{enc:TypeId×Value→H}{P:Program}{w:World}
theorem sU{α:Type}{R:α→List Value→Prop}{G:α→Prop}:∀(n:Nat) (row:Nat→Option (List Value)),(∀i,i<n→∃c x,row i=some c∧R x c∧G x)→
 ∃(xs:List α) (f:List Value),xs.length=n∧aU R xs f∧(∀x,x∈xs→G x)∧(List.range n).mapM row=some ((List.range n).map fun i=>(row i).getD [])∧f=((List.range n).map fun i=>(row i).getD []).flatten
 |0,row,h=>⟨[],[],rfl,rfl,fun x hx=>(List.not_mem_nil hx).elim,rfl,rfl⟩
 |n+1,row,h=>by
  obtain⟨c,x,h1,h2,h2'⟩:=h 0 (Nat.succ_pos _);obtain⟨xs,f,h3,h4,h4',h5,h6⟩:=sU n (fun i=>row (i+1)) fun i hi=>h (i+1) (by omega);refine⟨x::xs,c++f,by simp[h3],⟨c,f,rfl,h2,h4⟩,?_,?_,?_⟩
  ·intro y hy
   rcases List.mem_cons.1 hy with rfl|hy
   ·exact h2'
   ·exact h4' y hy
  ·rw[List.range_succ_eq_map,List.mapM_cons,h1,List.mapM_map]
   simp only[Option.bind_eq_bind,Option.bind_some,Function.comp_def];rw[h5];simp[h1,Function.comp_def]
  ·rw[List.range_succ_eq_map]
   simp[h1,h6,Function.comp_def]
theorem cells?_some{base:Nat}{a:Addr}{n:Nat}{c:List Value}(h:w.cells? base a n=some c):c.length=n∧∀j v,c[j]?=some v→w.cell? (a.add j)=some v:=by
 unfold World.cells? at h;split at h
 ·have hl:=mapM_some_length h
  refine⟨by simpa using hl,fun j v hj=> ?_⟩;have hj':j<n:=by
   have:=(List.getElem?_eq_some_iff.1 hj).1;rw[hl] at this;simpa using this
  rw[mapM_some_get h j j (by simp[hj'])];exact hj
 ·cases h
theorem AZ:∀(u:Ty) (t:TypeId) (l:List Field) (off:Nat),eT P u t l off=true→
 (u.isRow=false→∀fuel cs x,DataW.trod enc P w 0 (fun _=>true) true fuel t cs=some x→∃y:u.Den,Rd w (·<w.heap.size) u y cs∧iB u y)∧
 (u.isRow=true→∀(fuel:Nat) (cs:List Value),(∀(i:Nat) (f:Field),l[i]?=some f→∃x,DataW.trod enc P w 0 (fun _=>true) true fuel f.type ((cs.drop f.offset).take (P.cellsOf f.type))=some x)→cs.length=off+u.size→
  ∃y:u.Den,Rd w (·<w.heap.size) u y (cs.drop off)∧iB u y):=by
 intro u
 induction u with
 |int k=>
  intro t l off h;refine⟨fun _ fuel cs x hx=> ?_,fun hr=>by cases hr⟩;simp only[eT] at h;split at h
  ·rename_i k' hu
   obtain rfl:=of_decide_eq_true h;obtain⟨n,h1,_,h2⟩:=DataW.trod_int hu hx;exact⟨n,h1,h2⟩
  ·cases h
 |bool=>
  intro t l off h;refine⟨fun _ fuel cs x hx=> ?_,fun hr=>by cases hr⟩;simp only[eT] at h;split at h
  ·rename_i hu
   obtain⟨b,h1,_⟩:=DataW.trod_bool hu hx;exact⟨b,h1,trivial⟩
  ·cases h
 |str=>
  intro t l off h;refine⟨fun _ fuel cs x hx=> ?_,fun hr=>by cases hr⟩;simp only[eT] at h;split at h
  ·rename_i hu
   obtain⟨s,h1,_,h2⟩:=DataW.trod_string hu hx;exact⟨s,h1,h2⟩
  ·cases h
 |list e v ih=>
  intro t l off h;refine⟨fun _ fuel cs x hx=> ?_,fun hr=>by cases hr⟩;simp only[eT] at h;split at h
  ·rename_i e' hu
   simp only[Bool.and_eq_true,Bool.not_eq_true'] at h;obtain⟨h1,h2,h3,h4,h5⟩:=h;obtain rfl:=Nat.eq_of_beq_eq_true h1;have h2:=Nat.eq_of_beq_eq_true h2;have h3:0<v.size:=Nat.le_of_ble_eq_true h3;rcases DataW.trod_slice hu hx with⟨rfl,_⟩|⟨a,len,cap,elems,rest,n,_,rfl,_,_,hlc,hcm,hel,hget,hsp,_⟩
   ·exact⟨([]:List v.Den),⟨none,0,0,[],rfl,rfl,Nat.le_refl _,rfl,by simp,by intro j u hu;simp at hu,by omega,fun _=>rfl⟩,by simp,fun x hx=>(List.not_mem_nil hx).elim⟩
   ·have key:∀i,i<len→∃c y,w.cells? 0 (a.add (i*v.size)) v.size=some c∧Rd w (·<w.heap.size) v y c∧iB v y:=by
     intro i hi;have:=hget i hi;rw[h2] at this;have hi':i<elems.length:=by omega
     rw[List.getElem?_eq_getElem hi'] at this;obtain⟨c,hc,hx'⟩:=Option.bind_eq_some_iff.1 this;obtain⟨y,hy⟩:=(ih e' [] 0 h5).1 h4 _ _ _ hx';exact⟨c,y,hc,hy⟩
    obtain⟨xs,f,k1,k2,k3,_,k5⟩:=sU len (fun i=>w.cells? 0 (a.add (i*v.size)) v.size) key;have hfl:=fU (aH v) xs f k2;have cell:∀j u',f[j]?=some u'→w.cell? (a.add j)=some u':=by
     intro j u' hj;have hjl:j<len*v.size:=by
      have:=(List.getElem?_eq_some_iff.1 hj).1;rw[hfl,k1] at this;exact this
     have hi:j/v.size<len:=Nat.div_lt_of_lt_mul (by rw[Nat.mul_comm];exact hjl);obtain⟨c,y,hc,hy⟩:=key _ hi;have hxi:xs[j/v.size]?=some (xs[j/v.size]'(by omega)):=List.getElem?_eq_getElem (by omega);obtain⟨c2,q1,q2⟩:=kY (aH v) xs f k2 _ _ hxi;have hmod:=Nat.mod_lt j h3;have uT:j/v.size*v.size+j%v.size=j:=by rw[Nat.mul_comm];exact Nat.div_add_mod j v.size
     have zx:∀(n:Nat) (g:Nat→List Value),(∀i,i<n→(g i).length=v.size)→∀i,i<n→∀q,q<v.size→(((List.range n).map g).flatten)[i*v.size+q]?=(g i)[q]?:=by
      intro n
      induction n with
      |zero=>intro g _ i hi;omega
      |succ n ihn=>
       intro g hg i hi q hq;rw[List.range_succ_eq_map];simp only[List.map_cons,List.flatten_cons,List.map_map];cases i with
       |zero=>
        rw[Nat.zero_mul,Nat.zero_add,List.getElem?_append_left (by rw[hg 0 (by omega)];exact hq)]
       |succ i=>
        rw[List.getElem?_append_right (by rw[hg 0 (by omega),Nat.add_mul];omega),hg 0 (by omega)];have:(i+1)*v.size+q-v.size=i*v.size+q:=by rw[Nat.add_mul];omega
        rw[this];exact ihn (fun i=>g (i+1)) (fun i hi=>hg (i+1) (by omega)) i (by omega) q hq
     have hlen:∀i,i<len→((fun i=>(w.cells? 0 (a.add (i*v.size)) v.size).getD []) i).length=v.size:=by
      intro i hi;obtain⟨c',_,hc',_⟩:=key i hi;simp only[hc',Option.getD_some];exact(cells?_some hc').1
     have:=zx len _ hlen _ hi _ hmod;rw[←k5,uT,hj] at this;simp only[hc,Option.getD_some] at this;have:=(cells?_some hc).2 _ _ this.symm;rw[←this]
     congr 1
     have:∀(a:Addr) (p q:Nat),(a.add p).add q=a.add (p+q):=by
      intro a p q;unfold Addr.add;split<;>split<;>simp_all[Nat.add_assoc]<;>omega
     rw[this,uT]
    have spot:0<len→a.spot=none∧a.block<w.heap.size:=by
     intro hp;have hf0:0<f.length:=by rw[hfl,k1];exact Nat.mul_pos hp h3
     have h0:=cell 0 (f[0]'hf0) (List.getElem?_eq_getElem hf0);have h0:w.cell? a=some (f[0]'hf0):=by simpa[Addr.add] using h0
     refine⟨World.cell?_spot h0,?_⟩;rcases Nat.lt_or_ge a.block w.heap.size with h|h
     ·exact h
     ·simp[World.cell?,Array.getElem?_eq_none h] at h0
    refine⟨xs,⟨some a,len,cap,f,rfl,k1.symm,hlc,k2,fun ad e hp=>by cases e;exact spot hp,?_,fun _=>by simp,fun e=>by cases e⟩,by rw[k1];omega,k3⟩;intro j u' hj;refine⟨a,rfl,?_⟩;have hp:0<len:=by
     have:=(List.getElem?_eq_some_iff.1 hj).1;rw[hfl,k1] at this;exact Nat.pos_of_mul_pos_right (Nat.lt_of_le_of_lt (Nat.zero_le _) this)
    have:=cell j u' hj;rw[Addr.add_eq a (spot hp).1] at this;exact this
  ·cases h
 |nil=>
  intro t l off h;refine⟨(fun hr=>by cases hr),fun _ fuel cs hx hl=>⟨(),?_,trivial⟩⟩;show cs.drop off=[];apply List.drop_eq_nil_of_le;simp[Ty.size] at hl;omega
 |cons a b iha ihb=>
  intro t l off h;refine⟨(fun hr=>by cases hr),fun _ fuel cs hx hl=> ?_⟩;simp only[eT] at h;split at h
  ·rename_i f r
   simp only[Bool.and_eq_true,Bool.not_eq_true'] at h;obtain⟨h1,h2,h3,h4,h5,h6⟩:=h;have h1:=Nat.eq_of_beq_eq_true h1;have h2:=Nat.eq_of_beq_eq_true h2;obtain⟨x,hx0⟩:=hx 0 f rfl;rw[h1,h2] at hx0;obtain⟨y,hy1,hy2⟩:=(iha _ _ _ h4).1 h3 _ _ _ hx0;obtain⟨z,hz1,hz2⟩:=(ihb _ _ _ h6).2 h5 fuel cs (fun i f' hf'=>hx (i+1) f' hf') (by rw[hl,Ty.size];omega);refine⟨(y,z),⟨_,_,?_,hy1,hz1⟩,hy2,hz2⟩;rw[←List.drop_drop,List.take_append_drop]
  ·cases h
 |st a ih=>
  intro t l off h;refine⟨fun _ fuel cs x hx=> ?_,fun hr=>by cases hr⟩;simp only[eT] at h;split at h
  ·rename_i fields hu
   simp only[Bool.and_eq_true] at h;obtain⟨h1,h2,h3⟩:=h;have h2:=Nat.eq_of_beq_eq_true h2;obtain⟨xs,n,_,_,k1,k2,k3⟩:=DataW.trod_struct hu hx
   obtain⟨y,hy1,hy2⟩:=(ih _ _ _ h3).2 h1 n cs (fun i f hf=>by
    have hf':fields[i]?=some f:=by simpa using hf
    have:=k3 i f hf';have hi:i<xs.length:=by rw[k2];exact(Array.getElem?_eq_some_iff.1 hf').1
    exact⟨xs[i],by rw[this,List.getElem?_eq_getElem hi]⟩) (by rw[k1,h2];omega)
   refine⟨y,?_,hy2⟩;rw[List.drop_zero] at hy1;exact hy1
  ·cases h
 |ptr=>intro t l off h;cases h
theorem Cf{u:Ty}{t:TypeId}{v:Value}{d:DataW H}{ps:List MemPlace}(hb:eT P u t [] 0=true)(hr:u.isRow=false)(hag:mkV u.isAgg v.cells.toList v)(h:DataW.Trod enc P w 0 (fun _=>true) true t v d ps):
 ∃y:u.Den,iB u y∧∀ob nx,ak ⟨w,(·<w.heap.size),fun _=>undef,fun _=>[]⟩ ob nx (.ro none ⟨u,y⟩) v:=by
 obtain⟨fuel,hf⟩:=h;obtain⟨y,h1,h2⟩:=(AZ u t [] 0 hb).1 hr fuel _ _ hf;exact⟨y,h2,fun ob nx=>⟨v.cells.toList,⟨aH _ _ _ h1,trivial,fun _=>h1⟩,hag⟩⟩
theorem Co{f:FuncId}{fn:Func}{code:Code}{aX:List (Nat×CS)}{n:Nat}{F:SS.Den ⟨aX,[]⟩→Option Bool}{args:Array Value}{x:SS.Den ⟨aX,[]⟩}
 (h:gH P f ⟨⟨aX,[]⟩,⟨[(0,.ro .bool)],[]⟩,n,1,F⟩) (hf:P.funcs[f]?=some fn) (hb:fn.body=some code) (hn:fn.name≠ "runtime.NumGoroutine")
 (hsz:args.size=n) (hF:F x=some true)
 (hrep:∀s,ak ⟨w,(·<w.heap.size),fun _=>undef,fun _=>[]⟩ (fun _=> .dead) 100 (bZ aX (SS.pS ⟨aX,[]⟩ x) s) (args.getD s undef)):
 Calls P f args w fun e w'=>e= .returned (.bool true)∧Below w.heap.size w w':=by
 have hcall:(callFunc f args).run P w= .ok (.enter f args) w:=by
  unfold callFunc;simp[hf,hn,hb]
 have hr:aR ⟨w,(·<w.heap.size),fun _=>undef,fun _=>[]⟩ (SS.st ⟨aX,[]⟩ x) args:=
  ⟨hrep,fun i=>rfl,fun i _=>rfl,fun i j b _ hb=>(List.not_mem_nil hb).elim,fun i=>List.nodup_nil,fun i b hb=>(List.not_mem_nil hb).elim,fun b hb=>hb⟩
 have:=h _ args x true hsz hF hr;unfold gI at this;rw[hcall] at this;simp only at this;intro cs;obtain⟨e,w',fr,hR,hrest⟩:=this cs;refine⟨e,w',fr,?_,hrest⟩;cases e with
 |returned v=>
  obtain⟨E',tm,h1,h2,h3,h4⟩:=hR;subst h1;refine⟨?_,h2.os,h2.tape,h2.output,h2.size,fun k hk=>h2.block k hk fun i hi=>(List.not_mem_nil hi).elim⟩;have:=h3.sl 0;have h4:v=tm.getD 0 undef:=h4;rw[h4];have hv:tm.getD 0 undef= .bool true:=iE this;rw[hv]
 |panicked _=>exact hR.elim
 |outgrown=>exact hR.elim
end
end Go.Am
end
