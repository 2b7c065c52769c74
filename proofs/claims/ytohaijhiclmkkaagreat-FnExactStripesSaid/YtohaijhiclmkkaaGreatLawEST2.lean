/- plain laws of the claim's functions -/
import Derived.Test.YtohaijhiclmkkaaGreatLawEST1
import Derived.Test.YtohaijhiclmkkaaGreatAmRow
set_option linter.unnecessarySimpa false
set_option linter.unusedSimpArgs false
set_option linter.unusedVariables false
set_option linter.unusedSectionVars false
section
set_option maxRecDepth 4000
namespace Go.zJ
open Go.Am Go.Fn
variable(k:Nat)
def GC(x:Int):Prop:=0≤x∧x<256
def EP(x:Int):Nat:=1
def NI(k:Nat)(x:Int)(m:Int):Int:=IntKind.wrap .u8 m
theorem ML(x:Int)(h:GC x):EP x≤1:=Nat.le_refl _
theorem acN(hk:2000000≤k)(l:List Int)(hl:zG GC l):D5 k l=some ((),l):=by
 unfold D5;have h:=hl.1;rw[GD (by omega) (by omega),yZ];refine JM (D5.l3 k) (0:Int) GC ?_ ?_ l [] k (by omega) (by simpa using h) hl.2
 ·intro n l o
  simp only[D5.l3,BQ,y_]
 ·intro n pre x post o hx hp
  simp only[D5.l3,BR,yZ,Ai,yX,Hr,Ht,Hu,FB,EL,BV pre hp]
theorem acg(hk:2000000≤k)(l:List Int)(hl:zG GC l):E_ k l l=some true:=by
 unfold E_;have h:=hl.1;simp only[zB rfl,y_];refine H9 (E_.l4 k) GC ?_ ?_ l [] k (by omega) (by simpa using h) hl.2
 ·intro n l
  simp only[E_.l4,BQ,y_]
 ·intro n pre x post hx hp
  simp only[E_.l4,BR,yZ,Ai,yX,zB rfl,BH,decide_true,zq,y_,BV pre hp]
theorem acz(hk:2000000≤k)(l:List Int)(hl:zG GC l)(m:Int)(h0:0≤m)(hm:m+(zu EP l:Nat)≤4611686018427387904):Fh k m l=some (m+(zu EP l:Nat),Cs (NI k) EP l m):=by
 unfold Fh;have h:=hl.1;refine H_ (Fh.l2 k) (NI k) EP 1 GC 4611686018427387904 ML ?_ ?_ l [] k m (by omega) (by simpa using h) hl.2 h0 hm
 ·intro n m l
  simp only[Fh.l2,BQ,y_]
 ·intro n m pre x post hx h0 hm hp
  simp only[EP] at hm;have e0:IntKind.wrap .i64 (m+1)=m+1:=zh (by omega) (by omega);have eN:m+1=m+(EP x:Nat):=by simp only[EP]<;>omega
  simp only[Fh.l2,BR,yZ,Ai,yX,EL,e0,FP,BV pre hp];rw[eN];rfl
def Cg(x:Int):Prop:=True
def Lf(x:Int):Prop:=zM x
def BC(x:Int):Nat:=1
def mkInt(k:Nat)(x:Int)(m:Int):Int:=m
def H7(x:Int):Nat:=0
theorem Lc(x:Int)(h:Cg x):BC x≤1:=Nat.le_refl _
theorem aaQ(x:Int)(hg:Lf x)(h:H7 x≤1048576):Cg x:=trivial
theorem acR(hk:2000000≤k)(l:List Int)(hl:zG Cg l):Fz k l=some ((),l):=by
 unfold Fz;have h:=hl.1;rw[GD (by omega) (by omega),yZ];refine JM (Fz.l3 k) (0:Int) Cg ?_ ?_ l [] k (by omega) (by simpa using h) hl.2
 ·intro n l o
  simp only[Fz.l3,BQ,y_]
 ·intro n pre x post o hx hp
  simp only[Fz.l3,BR,yZ,Ai,yX,Hr,Ht,Hu,FB,EL,BV pre hp]
theorem OG(hk:2000000≤k)(l:List Int)(hl:zG Cg l):Ez k l l=some true:=by
 unfold Ez;have h:=hl.1;simp only[zB rfl,y_];refine H9 (Ez.l4 k) Cg ?_ ?_ l [] k (by omega) (by simpa using h) hl.2
 ·intro n l
  simp only[Ez.l4,BQ,y_]
 ·intro n pre x post hx hp
  simp only[Ez.l4,BR,yZ,Ai,yX,zB rfl,BH,decide_true,zq,y_,BV pre hp]
theorem OH(hk:2000000≤k)(l:List Int)(hl:zG Cg l)(m:Int)(h0:0≤m)(hm:m+(zu BC l:Nat)≤4611686018427387904):EB k m l=some (m+(zu BC l:Nat),Cs (mkInt k) BC l m):=by
 unfold EB;have h:=hl.1;refine H_ (EB.l2 k) (mkInt k) BC 1 Cg 4611686018427387904 Lc ?_ ?_ l [] k m (by omega) (by simpa using h) hl.2 h0 hm
 ·intro n m l
  simp only[EB.l2,BQ,y_]
 ·intro n m pre x post hx h0 hm hp
  simp only[BC] at hm;have e0:IntKind.wrap .i64 (m+1)=m+1:=zh (by omega) (by omega);have eN:m+1=m+(BC x:Nat):=by simp only[BC]<;>omega
  simp only[EB.l2,BR,yZ,Ai,yX,EL,e0,FP,BV pre hp];rw[eN];rfl
theorem acv(hk:2000000≤k)(l:List Int)(hl:zG Cg l)(m:Int)(h0:0≤m)(hm:m+(zu BC l:Nat)≤4611686018427387904):Fg k (Cs (mkInt k) BC l m) m=some (m+(zu BC l:Nat)):=by
 unfold Fg;have h:=hl.1;refine Mf (Fg.l2 k) (mkInt k) BC Cg 4611686018427387904 ?_ ?_ l [] k m (by omega) (by simpa using h) hl.2 h0 hm
 ·intro n m l
  simp only[Fg.l2,BQ,y_]
 ·intro n m pre x post hx h0 hm hp
  simp only[BC] at hm;have e0:IntKind.wrap .i64 (m+1)=m+1:=zh (by omega) (by omega);have eN:m+1=m+(BC x:Nat):=by simp only[BC]<;>omega
  simp only[Fg.l2,BR,yZ];simp only[mkInt,Ai,yX,BH,decide_true,zq,y_,zB rfl,bne_self_eq_false,beq_self_eq_true,e0,BV pre hp];rw[eN]
theorem acL(hk:2000000≤k)(l:List Int)(hl:l.length≤9223372036854775807)(hg:∀y,y∈l→Lf y)(m:Int)(h0:0≤m)(h1:m≤1048576):Kw k l m=some (CQ (l.length+zu H7 l) m):=by
 have e:∀l:List Int,zu H7 l=0:=fun l=>by
  induction l with
  |nil=>rfl
  |cons x r ih=>simp only[zu,ih,H7]
 unfold Kw;rw[e,zh (show -9223372036854775808≤m-(l.length:Int) by omega) (by omega),Nat.add_zero];by_cases c:(l.length:Int)≤m
 ·rw[zl (by omega),y_,EN c]
 ·rw[zi (by omega),yZ,D8 c]
def CW(x:zP):Prop:=zG Cg x.2.2.2.2.2.1
def Il(x:zP):Prop:=zM x.1∧zM x.2.1∧zM x.2.2.1∧zM x.2.2.2.1∧zM x.2.2.2.2.1∧(x.2.2.2.2.2.1.length≤9223372036854775807∧∀y,y∈x.2.2.2.2.2.1→Lf y)
def Ef(x:zP):Nat:=1+1+1+1+1+zu BC x.2.2.2.2.2.1
def FW(x:zP):Nat:=(x.2.2.2.2.2.1.length+zu H7 x.2.2.2.2.2.1)+0
def LC(k:Nat)(x:zP)(m:Int):zP:=(m,m+1,m+1+1,m+1+1+1,m+1+1+1+1,Cs (mkInt k) BC x.2.2.2.2.2.1 (m+1+1+1+1+1),())
theorem MM(x:zP)(h:CW x):Ef x≤1048581:=by
 have h0:zG Cg x.2.2.2.2.2.1:=h;have g5:=zG.tot h0 Lc;unfold Ef;omega
theorem aaN(x:zP)(hg:Il x)(h:FW x≤1048576):CW x:=by
 obtain⟨g0,g1,g2,g3,g4,g5⟩:=hg;unfold FW at h;exact⟨by omega,fun y hy=>aaQ y (g5.2 y hy) (by have:=I4 (f:=H7) _ _ hy;omega)⟩
theorem ZK{e1:TypeId}{x:zP}(h:gH (.st (.cons (.int .i64) (.cons (.int .i64) (.cons (.int .i64) (.cons (.int .i64) (.cons (.int .i64) (.cons (.list e1 (.int .i64)) .nil))))))) x):Il x:=by
 have hm:maxLen≤9223372036854775807:=by decide
 obtain⟨q0,q1,q2,q3,q4,q5,_⟩:=h;exact⟨EX q0,EX q1,EX q2,EX q3,EX q4,⟨Nat.le_trans q5.1 hm,fun y hy=>EX (q5.2 y hy)⟩⟩
theorem acO(hk:2000000≤k)(l:List zP)(hl:zG CW l):Fw k l=some ((),l):=by
 unfold Fw;have h:=hl.1;rw[GD (by omega) (by omega),yZ];refine JM (Fw.l3 k) ((0,0,0,0,0,[],()):zP) CW ?_ ?_ l [] k (by omega) (by simpa using h) hl.2
 ·intro n l o
  simp only[Fw.l3,BQ,y_]
 ·intro n pre x post o hx hp
  have o0:zG Cg x.2.2.2.2.2.1:=hx;have CL:zG Cg x.2.2.2.2.2.1:=o0;simp only[Fw.l3,BR,yZ,Ai,yX,Hr,Ht,Hu,FB,acR k hk _ CL,EL,BV pre hp]
theorem ach(hk:2000000≤k)(x:zP)(hx:CW x):F9 k x x=some true:=by
 have o0:zG Cg x.2.2.2.2.2.1:=hx;have CL:zG Cg x.2.2.2.2.2.1:=o0;simp only[zB rfl,BH,decide_true,zq,y_,yX,bne_self_eq_false,beq_self_eq_true,F9,F_,Ga,Gb,Gc,Gz,Gd,Gf,OG k hk _ CL]
theorem aci(hk:2000000≤k)(l:List zP)(hl:zG CW l):Fa k l l=some true:=by
 unfold Fa;have h:=hl.1;simp only[zB rfl,y_];refine H9 (Fa.l4 k) CW ?_ ?_ l [] k (by omega) (by simpa using h) hl.2
 ·intro n l
  simp only[Fa.l4,BQ,y_]
 ·intro n pre x post hx hp
  simp only[Fa.l4,BR,yZ,Ai,yX,ach k hk x hx,zq,y_,BV pre hp]
theorem acA(hk:2000000≤k)(l:List zP)(hl:zG CW l)(m:Int)(h0:0≤m)(hm:m+(zu Ef l:Nat)≤4611686018427387904):Fj k m l=some (m+(zu Ef l:Nat),Cs (LC k) Ef l m):=by
 unfold Fj;have h:=hl.1;refine H_ (Fj.l2 k) (LC k) Ef 1048581 CW 4611686018427387904 MM ?_ ?_ l [] k m (by omega) (by simpa using h) hl.2 h0 hm
 ·intro n m l
  simp only[Fj.l2,BQ,y_]
 ·intro n m pre x post hx h0 hm hp
  simp only[Ef] at hm;have o0:zG Cg x.2.2.2.2.2.1:=hx;have CL:zG Cg x.2.2.2.2.2.1:=o0;have p5:(0:Int)≤(zu BC x.2.2.2.2.2.1:Nat):=Int.natCast_nonneg _;have e0:IntKind.wrap .i64 (m+1)=m+1:=zh (by omega) (by omega);have e1:IntKind.wrap .i64 (m+1+1)=m+1+1:=zh (by omega) (by omega);have e2:IntKind.wrap .i64 (m+1+1+1)=m+1+1+1:=zh (by omega) (by omega);have e3:IntKind.wrap .i64 (m+1+1+1+1)=m+1+1+1+1:=zh (by omega) (by omega);have e4:IntKind.wrap .i64 (m+1+1+1+1+1)=m+1+1+1+1+1:=zh (by omega) (by omega);have r5:=OH k hk x.2.2.2.2.2.1 CL (m+1+1+1+1+1) (by omega) (by omega);have eN:m+1+1+1+1+1+(zu BC x.2.2.2.2.2.1:Nat)=m+(Ef x:Nat):=by simp only[Ef]<;>omega
  simp only[Fj.l2,BR,yZ,Ai,yX,EL,e0,e1,e2,e3,e4,r5,FP,BV pre hp];rw[eN];rfl
theorem acF(hk:2000000≤k)(x:zP)(hg:Il x)(m:Int)(h0:0≤m)(h1:m≤1048576):Kt k x m=some (CQ (FW x) m):=by
 obtain⟨g0,g1,g2,g3,g4,g5⟩:=hg;unfold Kt FW;rw[acL k hk x.2.2.2.2.2.1 g5.1 g5.2 (m) (by omega) (by omega)];by_cases c0:(((x.2.2.2.2.2.1.length+zu H7 x.2.2.2.2.2.1):Nat):Int)≤m
 rotate_left
 ·rw[D8 c0];simp only[yX,show decide ((-1:Int)<0)=true from rfl,yZ];rw[D8 (by omega)]
 rw[EN c0];simp only[yX];rw[zl (by omega),y_];rw[EN (by omega)];congr 1<;>omega
theorem acG(hk:2000000≤k)(l:List zP)(hl:l.length≤9223372036854775807)(hg:∀y,y∈l→Il y)(m:Int)(h0:0≤m)(h1:m≤1048576):EC k l m=some (CQ (l.length+zu FW l) m):=by
 refine Mh (EC k) (EC.l5 k) k FW hk (fun l m=>rfl) l m h0 h1 hl (fun hl m h0 h1=> ?_);refine Mg (EC.l5 k) FW Il ?_ ?_ l [] k m (by omega) (by simpa using hl) hg h0 h1
 ·intro n m l
  simp only[EC.l5,BQ,y_]
 ·intro n m pre x post hx h0 h1 hp
  simp only[EC.l5,BR,yZ,Ai,yX,BV pre hp];rw[acF k hk x hx m h0 h1];rfl
def EH(x:zg):Prop:=True
def G8(x:zg):Prop:=x.1.size≤9223372036854775807∧zM x.2.1∧zM x.2.2.1∧zM x.2.2.2.1
def Et(x:zg):Nat:=1+1+1+1
def DR(x:zg):Nat:=x.1.size+0
def NJ(k:Nat)(x:zg)(m:Int):zg:=(Jt k (m),m+1,m+1+1,m+1+1+1,())
theorem La(x:zg)(h:EH x):Et x≤4:=by
 unfold Et;omega
theorem aaO(x:zg)(hg:G8 x)(h:DR x≤1048576):EH x:=by
 trivial
theorem ZL{x:zg}(h:gH (.st (.cons .str (.cons (.int .i64) (.cons (.int .i64) (.cons (.int .i64) .nil))))) x):G8 x:=by
 have hm:maxLen≤9223372036854775807:=by decide
 obtain⟨q0,q1,q2,q3,_⟩:=h;exact⟨Nat.le_trans q0 hm,EX q1,EX q2,EX q3⟩
theorem acP(hk:2000000≤k)(l:List zg)(hl:zG EH l):Fx k l=some ((),l):=by
 unfold Fx;have h:=hl.1;rw[GD (by omega) (by omega),yZ];refine JM (Fx.l3 k) ((zk,0,0,0,()):zg) EH ?_ ?_ l [] k (by omega) (by simpa using h) hl.2
 ·intro n l o
  simp only[Fx.l3,BQ,y_]
 ·intro n pre x post o hx hp
  simp only[Fx.l3,BR,yZ,Ai,yX,Hr,Ht,Hu,FB,EL,BV pre hp]
theorem acj(hk:2000000≤k)(x:zg)(hx:EH x):F_ k x x=some true:=by
 simp only[zB rfl,BH,decide_true,zq,y_,yX,bne_self_eq_false,beq_self_eq_true,F9,F_,Ga,Gb,Gc,Gz,Gd,Gf]
theorem ack(hk:2000000≤k)(l:List zg)(hl:zG EH l):Fb k l l=some true:=by
 unfold Fb;have h:=hl.1;simp only[zB rfl,y_];refine H9 (Fb.l4 k) EH ?_ ?_ l [] k (by omega) (by simpa using h) hl.2
 ·intro n l
  simp only[Fb.l4,BQ,y_]
 ·intro n pre x post hx hp
  simp only[Fb.l4,BR,yZ,Ai,yX,acj k hk x hx,zq,y_,BV pre hp]
theorem acB(hk:2000000≤k)(l:List zg)(hl:zG EH l)(m:Int)(h0:0≤m)(hm:m+(zu Et l:Nat)≤4611686018427387904):Fp k m l=some (m+(zu Et l:Nat),Cs (NJ k) Et l m):=by
 unfold Fp;have h:=hl.1;refine H_ (Fp.l2 k) (NJ k) Et 4 EH 4611686018427387904 La ?_ ?_ l [] k m (by omega) (by simpa using h) hl.2 h0 hm
 ·intro n m l
  simp only[Fp.l2,BQ,y_]
 ·intro n m pre x post hx h0 hm hp
  simp only[Et] at hm;have e0:IntKind.wrap .i64 (m+1)=m+1:=zh (by omega) (by omega);have e1:IntKind.wrap .i64 (m+1+1)=m+1+1:=zh (by omega) (by omega);have e2:IntKind.wrap .i64 (m+1+1+1)=m+1+1+1:=zh (by omega) (by omega);have e3:IntKind.wrap .i64 (m+1+1+1+1)=m+1+1+1+1:=zh (by omega) (by omega);have eN:m+1+1+1+1=m+(Et x:Nat):=by simp only[Et]<;>omega
  simp only[Fp.l2,BR,yZ,Ai,yX,EL,e0,Ju k (by omega) (m) (by omega),e1,e2,e3,FP,BV pre hp];rw[eN];rfl
theorem acH(hk:2000000≤k)(x:zg)(hg:G8 x)(m:Int)(h0:0≤m)(h1:m≤1048576):Ku k x m=some (CQ (DR x) m):=by
 obtain⟨g0,g1,g2,g3⟩:=hg;unfold Ku DR;rw[zh (show -9223372036854775808≤m-(x.1.size:Int) by omega) (by omega)];by_cases c0:((x.1.size:Nat):Int)≤m
 rotate_left
 ·rw[zi (by omega),yZ,D8 (by omega)]
 rw[zl (by omega),y_];rw[EN (by omega)];congr 1<;>omega
theorem acI(hk:2000000≤k)(l:List zg)(hl:l.length≤9223372036854775807)(hg:∀y,y∈l→G8 y)(m:Int)(h0:0≤m)(h1:m≤1048576):ED k l m=some (CQ (l.length+zu DR l) m):=by
 refine Mh (ED k) (ED.l5 k) k DR hk (fun l m=>rfl) l m h0 h1 hl (fun hl m h0 h1=> ?_);refine Mg (ED.l5 k) DR G8 ?_ ?_ l [] k m (by omega) (by simpa using hl) hg h0 h1
 ·intro n m l
  simp only[ED.l5,BQ,y_]
 ·intro n m pre x post hx h0 h1 hp
  simp only[ED.l5,BR,yZ,Ai,yX,BV pre hp];rw[acH k hk x hx m h0 h1];rfl
def EI(x:zF):Prop:=zG CW x.2.1
def Im(x:zF):Prop:=zM x.1∧(x.2.1.length≤9223372036854775807∧∀y,y∈x.2.1→Il y)
def ER(x:zF):Nat:=1+zu Ef x.2.1
def FI(x:zF):Nat:=(x.2.1.length+zu FW x.2.1)+0
def NK(k:Nat)(x:zF)(m:Int):zF:=(m,Cs (LC k) Ef x.2.1 (m+1),())
theorem Lb(x:zF)(h:EI x):ER x≤1099516870657:=by
 have h0:zG CW x.2.1:=h;have g1:=zG.tot h0 MM;unfold ER;omega
theorem aaP(x:zF)(hg:Im x)(h:FI x≤1048576):EI x:=by
 obtain⟨g0,g1⟩:=hg;unfold FI at h;exact⟨by omega,fun y hy=>aaN y (g1.2 y hy) (by have:=I4 (f:=FW) _ _ hy;omega)⟩
theorem ZN{e1:TypeId}{e2:TypeId}{x:zF}(h:gH (.st (.cons (.int .i64) (.cons (.list e1 (.st (.cons (.int .i64) (.cons (.int .i64) (.cons (.int .i64) (.cons (.int .i64) (.cons (.int .i64) (.cons (.list e2 (.int .i64)) .nil)))))))) .nil))) x):Im x:=by
 have hm:maxLen≤9223372036854775807:=by decide
 obtain⟨q0,q1,_⟩:=h;exact⟨EX q0,⟨Nat.le_trans q1.1 hm,fun y hy=>ZK (q1.2 y hy)⟩⟩
theorem acQ(hk:2000000≤k)(l:List zF)(hl:zG EI l):Fy k l=some ((),l):=by
 unfold Fy;have h:=hl.1;rw[GD (by omega) (by omega),yZ];refine JM (Fy.l3 k) ((0,[],()):zF) EI ?_ ?_ l [] k (by omega) (by simpa using h) hl.2
 ·intro n l o
  simp only[Fy.l3,BQ,y_]
 ·intro n pre x post o hx hp
  have o0:zG CW x.2.1:=hx;have CL:zG CW x.2.1:=o0;simp only[Fy.l3,BR,yZ,Ai,yX,Hr,Ht,Hu,FB,acO k hk _ CL,EL,BV pre hp]
theorem acm(hk:2000000≤k)(x:zF)(hx:EI x):Ga k x x=some true:=by
 have o0:zG CW x.2.1:=hx;have CL:zG CW x.2.1:=o0;simp only[zB rfl,BH,decide_true,zq,y_,yX,bne_self_eq_false,beq_self_eq_true,F9,F_,Ga,Gb,Gc,Gz,Gd,Gf,aci k hk _ CL]
theorem acn(hk:2000000≤k)(l:List zF)(hl:zG EI l):Fe k l l=some true:=by
 unfold Fe;have h:=hl.1;simp only[zB rfl,y_];refine H9 (Fe.l4 k) EI ?_ ?_ l [] k (by omega) (by simpa using h) hl.2
 ·intro n l
  simp only[Fe.l4,BQ,y_]
 ·intro n pre x post hx hp
  simp only[Fe.l4,BR,yZ,Ai,yX,acm k hk x hx,zq,y_,BV pre hp]
theorem acC(hk:2000000≤k)(l:List zF)(hl:zG EI l)(m:Int)(h0:0≤m)(hm:m+(zu ER l:Nat)≤4611686018427387904):Fq k m l=some (m+(zu ER l:Nat),Cs (NK k) ER l m):=by
 unfold Fq;have h:=hl.1;refine H_ (Fq.l2 k) (NK k) ER 1099516870657 EI 4611686018427387904 Lb ?_ ?_ l [] k m (by omega) (by simpa using h) hl.2 h0 hm
 ·intro n m l
  simp only[Fq.l2,BQ,y_]
 ·intro n m pre x post hx h0 hm hp
  simp only[ER] at hm;have o0:zG CW x.2.1:=hx;have CL:zG CW x.2.1:=o0;have p1:(0:Int)≤(zu Ef x.2.1:Nat):=Int.natCast_nonneg _;have e0:IntKind.wrap .i64 (m+1)=m+1:=zh (by omega) (by omega);have r1:=acA k hk x.2.1 CL (m+1) (by omega) (by omega);have eN:m+1+(zu Ef x.2.1:Nat)=m+(ER x:Nat):=by simp only[ER]<;>omega
  simp only[Fq.l2,BR,yZ,Ai,yX,EL,e0,r1,FP,BV pre hp];rw[eN];rfl
theorem acJ(hk:2000000≤k)(x:zF)(hg:Im x)(m:Int)(h0:0≤m)(h1:m≤1048576):Kv k x m=some (CQ (FI x) m):=by
 obtain⟨g0,g1⟩:=hg;unfold Kv FI;rw[acG k hk x.2.1 g1.1 g1.2 (m) (by omega) (by omega)];by_cases c0:(((x.2.1.length+zu FW x.2.1):Nat):Int)≤m
 rotate_left
 ·rw[D8 c0];simp only[yX,show decide ((-1:Int)<0)=true from rfl,yZ];rw[D8 (by omega)]
 rw[EN c0];simp only[yX];rw[zl (by omega),y_];rw[EN (by omega)];congr 1<;>omega
theorem acK(hk:2000000≤k)(l:List zF)(hl:l.length≤9223372036854775807)(hg:∀y,y∈l→Im y)(m:Int)(h0:0≤m)(h1:m≤1048576):EE k l m=some (CQ (l.length+zu FI l) m):=by
 refine Mh (EE k) (EE.l5 k) k FI hk (fun l m=>rfl) l m h0 h1 hl (fun hl m h0 h1=> ?_);refine Mg (EE.l5 k) FI Im ?_ ?_ l [] k m (by omega) (by simpa using hl) hg h0 h1
 ·intro n m l
  simp only[EE.l5,BQ,y_]
 ·intro n m pre x post hx h0 h1 hp
  simp only[EE.l5,BR,yZ,Ai,yX,BV pre hp];rw[acJ k hk x hx m h0 h1];rfl
def LG(x:ze):Prop:=True
def Gu(x:ze):Nat:=1+1
theorem MQ(x:ze)(h:LG x):Gu x≤2:=by
 unfold Gu;omega
def LF(x:Bl):Prop:=LG x.2.2.1∧LG x.2.2.2.1
def GZ(x:Bl):Nat:=1+1+Gu x.2.2.1+Gu x.2.2.2.1
theorem Pj(x:Bl)(h:LF x):GZ x≤6:=by
 obtain⟨h0,h1⟩:=h;have g2:=MQ x.2.2.1 h0;have g3:=MQ x.2.2.2.1 h1;unfold GZ;omega
def El(x:AA):Prop:=LF x.2.1
def Bu(x:AA):Nat:=1+GZ x.2.1
def IJ(k:Nat)(x:AA)(m:Int):AA:=((Int.tmod (m) 3==0),(m+1,(Int.tmod (m+1+1) 3==0),(m+1+1+1,Jt k (m+1+1+1+1),()),(m+1+1+1+1+1,Jt k (m+1+1+1+1+1+1),()),()),())
theorem MN(x:AA)(h:El x):Bu x≤7:=by
 have h0:LF x.2.1:=h;have g1:=Pj x.2.1 h0;unfold Bu;omega
theorem aco(hk:2000000≤k)(x:AA)(hx:El x):Gb k x x=some true:=by
 simp only[zB rfl,BH,decide_true,zq,y_,yX,bne_self_eq_false,beq_self_eq_true,F9,F_,Ga,Gb,Gc,Gz,Gd,Gf]
theorem acp(hk:2000000≤k)(l:List AA)(hl:zG El l):Ff k l l=some true:=by
 unfold Ff;have h:=hl.1;simp only[zB rfl,y_];refine H9 (Ff.l4 k) El ?_ ?_ l [] k (by omega) (by simpa using h) hl.2
 ·intro n l
  simp only[Ff.l4,BQ,y_]
 ·intro n pre x post hx hp
  simp only[Ff.l4,BR,yZ,Ai,yX,aco k hk x hx,zq,y_,BV pre hp]
theorem acD(hk:2000000≤k)(l:List AA)(hl:zG El l)(m:Int)(h0:0≤m)(hm:m+(zu Bu l:Nat)≤4611686018427387904):Fu k m l=some (m+(zu Bu l:Nat),Cs (IJ k) Bu l m):=by
 unfold Fu;have h:=hl.1;refine H_ (Fu.l2 k) (IJ k) Bu 7 El 4611686018427387904 MN ?_ ?_ l [] k m (by omega) (by simpa using h) hl.2 h0 hm
 ·intro n m l
  simp only[Fu.l2,BQ,y_]
 ·intro n m pre x post hx h0 hm hp
  simp only[Bu,GZ,Gu] at hm;have e0:IntKind.wrap .i64 (m+1)=m+1:=zh (by omega) (by omega);have e1:IntKind.wrap .i64 (m+1+1)=m+1+1:=zh (by omega) (by omega);have e2:IntKind.wrap .i64 (m+1+1+1)=m+1+1+1:=zh (by omega) (by omega);have e3:IntKind.wrap .i64 (m+1+1+1+1)=m+1+1+1+1:=zh (by omega) (by omega);have e4:IntKind.wrap .i64 (m+1+1+1+1+1)=m+1+1+1+1+1:=zh (by omega) (by omega);have e5:IntKind.wrap .i64 (m+1+1+1+1+1+1)=m+1+1+1+1+1+1:=zh (by omega) (by omega);have e6:IntKind.wrap .i64 (m+1+1+1+1+1+1+1)=m+1+1+1+1+1+1+1:=zh (by omega) (by omega);have eN:m+1+1+1+1+1+1+1=m+(Bu x:Nat):=by simp only[Bu,GZ,Gu]<;>omega
  simp only[Fu.l2,BR,yZ,Ai,yX,EL,e0,e1,e2,e3,e4,Ju k (by omega) (m+1+1+1+1) (by omega),e5,e6,Ju k (by omega) (m+1+1+1+1+1+1) (by omega),FP,BV pre hp];rw[eN];rfl
theorem acw(hk:2000000≤k)(l:List AA)(hl:zG El l)(m:Int)(h0:0≤m)(hm:m+(zu Bu l:Nat)≤4611686018427387904):Cr k (Cs (IJ k) Bu l m) m=some (m+(zu Bu l:Nat)):=by
 unfold Cr;have h:=hl.1;refine Mf (Cr.l2 k) (IJ k) Bu El 4611686018427387904 ?_ ?_ l [] k m (by omega) (by simpa using h) hl.2 h0 hm
 ·intro n m l
  simp only[Cr.l2,BQ,y_]
 ·intro n m pre x post hx h0 hm hp
  simp only[Bu,GZ,Gu] at hm;have e0:IntKind.wrap .i64 (m+1)=m+1:=zh (by omega) (by omega);have e1:IntKind.wrap .i64 (m+1+1)=m+1+1:=zh (by omega) (by omega);have e2:IntKind.wrap .i64 (m+1+1+1)=m+1+1+1:=zh (by omega) (by omega);have e3:IntKind.wrap .i64 (m+1+1+1+1)=m+1+1+1+1:=zh (by omega) (by omega);have e4:IntKind.wrap .i64 (m+1+1+1+1+1)=m+1+1+1+1+1:=zh (by omega) (by omega);have e5:IntKind.wrap .i64 (m+1+1+1+1+1+1)=m+1+1+1+1+1+1:=zh (by omega) (by omega);have e6:IntKind.wrap .i64 (m+1+1+1+1+1+1+1)=m+1+1+1+1+1+1+1:=zh (by omega) (by omega);have eN:m+1+1+1+1+1+1+1=m+(Bu x:Nat):=by simp only[Bu,GZ,Gu]<;>omega
  simp only[Cr.l2,BR,yZ];simp only[IJ,Cr.d16,Cr.d22,Ai,yX,BH,decide_true,zq,y_,zB rfl,bne_self_eq_false,beq_self_eq_true,e0,e1,e2,e3,e4,Ju k (by omega) (m+1+1+1+1) (by omega),e5,e6,Ju k (by omega) (m+1+1+1+1+1+1) (by omega),BV pre hp];rw[eN]
def Gg(x:zo):Prop:=zG El x.2.1∧zG Cg x.2.2.1
def C_(x:zo):Nat:=1+zu Bu x.2.1+zu BC x.2.2.1
def Js(k:Nat)(x:zo)(m:Int):zo:=(m,Cs (IJ k) Bu x.2.1 (m+1),Cs (mkInt k) BC x.2.2.1 (m+1+(zu Bu x.2.1:Nat)),())
theorem MP(x:zo)(h:Gg x):C_ x≤8388609:=by
 obtain⟨h0,h1⟩:=h;have g1:=zG.tot h0 MN;have g2:=zG.tot h1 Lc;unfold C_;omega
theorem acs(hk:2000000≤k)(x:zo)(hx:Gg x):Gd k x x=some true:=by
 obtain⟨o0,o1⟩:=hx;have CL:zG El x.2.1:=o0;have Hq:zG Cg x.2.2.1:=o1;simp only[zB rfl,BH,decide_true,zq,y_,yX,bne_self_eq_false,beq_self_eq_true,F9,F_,Ga,Gb,Gc,Gz,Gd,Gf,acp k hk _ CL,OG k hk _ Hq]
theorem acu(hk:2000000≤k)(l:List zo)(hl:zG Gg l):Ej k l l=some true:=by
 unfold Ej;have h:=hl.1;simp only[zB rfl,y_];refine H9 (Ej.l4 k) Gg ?_ ?_ l [] k (by omega) (by simpa using h) hl.2
 ·intro n l
  simp only[Ej.l4,BQ,y_]
 ·intro n pre x post hx hp
  simp only[Ej.l4,BR,yZ,Ai,yX,acs k hk x hx,zq,y_,BV pre hp]
theorem acE(hk:2000000≤k)(l:List zo)(hl:zG Gg l)(m:Int)(h0:0≤m)(hm:m+(zu C_ l:Nat)≤4611686018427387904):Fv k m l=some (m+(zu C_ l:Nat),Cs (Js k) C_ l m):=by
 unfold Fv;have h:=hl.1;refine H_ (Fv.l2 k) (Js k) C_ 8388609 Gg 4611686018427387904 MP ?_ ?_ l [] k m (by omega) (by simpa using h) hl.2 h0 hm
 ·intro n m l
  simp only[Fv.l2,BQ,y_]
 ·intro n m pre x post hx h0 hm hp
  simp only[C_] at hm;obtain⟨o0,o1⟩:=hx;have CL:zG El x.2.1:=o0;have Hq:zG Cg x.2.2.1:=o1;have p1:(0:Int)≤(zu Bu x.2.1:Nat):=Int.natCast_nonneg _;have p2:(0:Int)≤(zu BC x.2.2.1:Nat):=Int.natCast_nonneg _;have e0:IntKind.wrap .i64 (m+1)=m+1:=zh (by omega) (by omega);have r1:=acD k hk x.2.1 CL (m+1) (by omega) (by omega);have r2:=OH k hk x.2.2.1 Hq (m+1+(zu Bu x.2.1:Nat)) (by omega) (by omega);have eN:m+1+(zu Bu x.2.1:Nat)+(zu BC x.2.2.1:Nat)=m+(C_ x:Nat):=by simp only[C_]<;>omega
  simp only[Fv.l2,BR,yZ,Ai,yX,EL,e0,r1,r2,FP,BV pre hp];rw[eN];rfl
theorem acy(hk:2000000≤k)(l:List zo)(hl:zG Gg l)(m:Int)(h0:0≤m)(hm:m+(zu C_ l:Nat)≤4611686018427387904):EA k (Cs (Js k) C_ l m) m=some (m+(zu C_ l:Nat)):=by
 unfold EA;have h:=hl.1;refine Mf (EA.l2 k) (Js k) C_ Gg 4611686018427387904 ?_ ?_ l [] k m (by omega) (by simpa using h) hl.2 h0 hm
 ·intro n m l
  simp only[EA.l2,BQ,y_]
 ·intro n m pre x post hx h0 hm hp
  simp only[C_] at hm;obtain⟨o0,o1⟩:=hx;have CL:zG El x.2.1:=o0;have Hq:zG Cg x.2.2.1:=o1;have p1:(0:Int)≤(zu Bu x.2.1:Nat):=Int.natCast_nonneg _;have p2:(0:Int)≤(zu BC x.2.2.1:Nat):=Int.natCast_nonneg _;have e0:IntKind.wrap .i64 (m+1)=m+1:=zh (by omega) (by omega);have r1:=acw k hk x.2.1 CL (m+1) (by omega) (by omega);have r2:=acv k hk x.2.2.1 Hq (m+1+(zu Bu x.2.1:Nat)) (by omega) (by omega);have eN:m+1+(zu Bu x.2.1:Nat)+(zu BC x.2.2.1:Nat)=m+(C_ x:Nat):=by simp only[C_]<;>omega
  simp only[EA.l2,BR,yZ];simp only[Js,Ai,yX,BH,decide_true,zq,y_,zB rfl,bne_self_eq_false,beq_self_eq_true,e0,r1,r2,zl (show ¬(m+1+(zu Bu x.2.1:Nat)<0) by omega),zl (show ¬(m+1+(zu Bu x.2.1:Nat)+(zu BC x.2.2.1:Nat)<0) by omega),BV pre hp];rw[eN]
def LD(x:zY):Prop:=zG EH x.1∧zG EI x.2.2.1
def Lg(x:zY):Prop:=(x.1.length≤9223372036854775807∧∀y,y∈x.1→G8 y)∧zM x.2.1∧(x.2.2.1.length≤9223372036854775807∧∀y,y∈x.2.2.1→Im y)
def MO(x:zY):Nat:=zu Et x.1+1+zu ER x.2.2.1
def IW(x:zY):Nat:=(x.1.length+zu DR x.1)+((x.2.2.1.length+zu FI x.2.2.1)+0)
theorem Ph(x:zY)(h:LD x):MO x≤1152927002170228737:=by
 obtain⟨h0,h1⟩:=h;have g0:=zG.tot h0 La;have g2:=zG.tot h1 Lb;unfold MO;omega
theorem aaR(x:zY)(hg:Lg x)(h:IW x≤1048576):LD x:=by
 obtain⟨g0,g1,g2⟩:=hg;unfold IW at h;exact⟨⟨by omega,fun y hy=>aaO y (g0.2 y hy) (by have:=I4 (f:=DR) _ _ hy;omega)⟩,⟨by omega,fun y hy=>aaP y (g2.2 y hy) (by have:=I4 (f:=FI) _ _ hy;omega)⟩⟩
theorem ZP{e1:TypeId}{e2:TypeId}{e3:TypeId}{e4:TypeId}{x:zY}(h:gH (.st (.cons (.list e1 (.st (.cons .str (.cons (.int .i64) (.cons (.int .i64) (.cons (.int .i64) .nil)))))) (.cons (.int .i64) (.cons (.list e2 (.st (.cons (.int .i64) (.cons (.list e3 (.st (.cons (.int .i64) (.cons (.int .i64) (.cons (.int .i64) (.cons (.int .i64) (.cons (.int .i64) (.cons (.list e4 (.int .i64)) .nil)))))))) .nil)))) .nil)))) x):Lg x:=by
 have hm:maxLen≤9223372036854775807:=by decide
 obtain⟨q0,q1,q2,_⟩:=h;exact⟨⟨Nat.le_trans q0.1 hm,fun y hy=>ZL (q0.2 y hy)⟩,EX q1,⟨Nat.le_trans q2.1 hm,fun y hy=>ZN (q2.2 y hy)⟩⟩
theorem acr(hk:2000000≤k)(x:zY)(hx:LD x):Gc k x x=some true:=by
 obtain⟨o0,o1⟩:=hx;have CL:zG EH x.1:=o0;have Hq:zG EI x.2.2.1:=o1;simp only[zB rfl,BH,decide_true,zq,y_,yX,bne_self_eq_false,beq_self_eq_true,F9,F_,Ga,Gb,Gc,Gz,Gd,Gf,ack k hk _ CL,acn k hk _ Hq]
theorem acM(hk:2000000≤k)(x:zY)(hg:Lg x)(m:Int)(h0:0≤m)(h1:m≤1048576):Ky k x m=some (CQ (IW x) m):=by
 obtain⟨g0,g1,g2⟩:=hg;unfold Ky IW;rw[acI k hk x.1 g0.1 g0.2 (m) (by omega) (by omega)];by_cases c0:(((x.1.length+zu DR x.1):Nat):Int)≤m
 rotate_left
 ·rw[D8 c0];simp only[yX,show decide ((-1:Int)<0)=true from rfl,yZ];rw[D8 (by omega)]
 rw[EN c0];simp only[yX];rw[zl (by omega),y_];rw[acK k hk x.2.2.1 g2.1 g2.2 (m-(((x.1.length+zu DR x.1):Nat):Int)) (by omega) (by omega)];by_cases c1:(((x.2.2.1.length+zu FI x.2.2.1):Nat):Int)≤m-(((x.1.length+zu DR x.1):Nat):Int)
 rotate_left
 ·rw[D8 c1];simp only[yX,show decide ((-1:Int)<0)=true from rfl,yZ];rw[D8 (by omega)]
 rw[EN c1];simp only[yX];rw[zl (by omega),y_];rw[EN (by omega)];congr 1<;>omega
end Go.zJ
end
section
namespace Go.zJ
open Go.Am Go.Fn
theorem ZO{t:Ty}{e:TypeId}{P:t.Den→Prop}(hP:∀x,gH t x→P x){l:List t.Den}(h:gH (.list e t) l):l.length≤9223372036854775807∧∀x,x∈l→P x:=
 ⟨Nat.le_trans h.1 (by decide),fun x hx=>hP x (h.2 x hx)⟩
theorem ZM{s:List zg}(hg:∀x,x∈s→G8 x){k:Nat}(hk:2000000≤k)(hsz:zu DR s≤1048576):∀c,c∈s→c.1.size<k∧c.1.size<1000000000∧zM c.2.2.2.1:=by
 intro c hc;have h1:=I4 (f:=DR) s c hc;obtain⟨_,_,_,h2⟩:=hg c hc;have h3:DR c=c.1.size+0:=rfl;exact⟨by omega,by omega,h2⟩
theorem ab4{x:Int}(h:(Lit.int .u8 x).wf=true):0≤x∧x<256:=by
 simp only[Lit.wf,Aa,Ae] at h;have h1:IntKind.min .u8=0:=by decide
 have h2:IntKind.max .u8=255:=by decide
 rw[h1,h2] at h;exact⟨by omega,by omega⟩
theorem ZJ{b:List Int}(h:gH (.list 0 (.int .u8)) b):∀x,x∈b→0≤x∧x<256:=
 (ZO (t:= .int .u8) (P:=fun x=>0≤x∧x<256) (fun x hx=>ab4 hx) h).2
theorem fnExactStripes(b:List Int)(h:gH (.list 0 (.int .u8)) b)(m:zY)(hm:gH (.st (.cons (.list 0 (.st (.cons .str (.cons (.int .i64) (.cons (.int .i64) (.cons (.int .i64) .nil)))))) (.cons (.int .i64) (.cons (.list 0 (.st (.cons (.int .i64) (.cons (.list 0 (.st (.cons (.int .i64) (.cons (.int .i64) (.cons (.int .i64) (.cons (.int .i64) (.cons (.int .i64) (.cons (.list 0 (.int .i64)) .nil)))))))) .nil)))) .nil)))) m)
 (t2:Int) (_:gH (.int .i64) t2):∃k,Dz k b m t2=some true:=by
 have g:=ZJ h;have gm:=ZP hm;clear h hm;obtain⟨s,rows,G,u⟩:=m;obtain rfl:u=():=rfl;refine⟨3000000,?_⟩;generalize hk:3000000=k;have hk':2000000≤k:=by omega
 clear hk;unfold Dz;by_cases c1:(b.length:Int)>1048576
 ·rw[zi c1];rfl
 ·have ob:zG GC b:=⟨by omega,g⟩
  rw[zl c1];simp only[y_,acM k hk' (s,rows,G,()) gm 1048576 (by decide) (by decide),yX];by_cases c2:((IW (s,rows,G,()):Nat):Int)≤1048576
  ·rw[EN c2,zl (by omega),y_]
   have om:=aaR _ gm (by omega);have os:zG EH s:=om.1;have oG:zG EI G:=om.2;have hsz:IW (s,rows,G,())=(s.length+zu DR s)+((G.length+zu FI G)+0):=rfl;have hn:=ZM (s:=s) gm.1.2 hk' (by omega);have hfit:Fit k G:=by
    intro x hx;have ox:zG CW x.2.1:=oG.2 x hx;have o1:=ox.1;refine⟨by omega,by omega,fun c hc=> ?_⟩;have oc:zG Cg c.2.2.2.2.2.1:=ox.2 c hc;have o2:=oc.1;exact⟨by omega,by omega⟩
   obtain⟨r,e1,e2,e3,e4⟩:=abP k hk' b (by omega) g s hn rows G hfit oG.1 t2;have oK:∀l:List AA,l.length≤1000→zG El l:=fun l hl=>⟨by omega,fun _ _=>⟨trivial,trivial⟩⟩;have oI:∀l:List Int,l.length≤1000→zG Cg l:=fun l hl=>⟨by omega,fun _ _=>trivial⟩;have ol:zG Gg r.2:=⟨e3,fun x hx=>⟨oK _ (e4 x hx).1,oI _ (e4 x hx).2⟩⟩;have n1:=zG.tot ob ML;have n2:=Ph _ om;have n3:=zG.tot ol MP;have n4:=zG.tot os La;have n5:=zG.tot oG Lb;have hq:=acr k hk' (s,rows,G,()) om;unfold Dz.d7 Dz.d15 Dz.d30
   simp only[FB,FP,acN k hk' b ob,acP k hk' s os,acQ k hk' G oG,yX,e1,e2,acu k hk' r.2 ol,acg k hk' b ob,hq,acz k hk' b ob 1 (by omega) (by omega),acB k hk' s os (1+(zu EP b:Nat)) (by omega) (by omega),acC k hk' G oG (1+(zu EP b:Nat)+(zu Et s:Nat)) (by omega) (by omega),beq_self_eq_true,zq,cst,AX,zB rfl,y_,
    zl (show ¬((1:Int)+(zu EP b:Nat)+(zu Et s:Nat)+(zu ER G:Nat)<0) by omega),acE k hk' r.2 ol 1 (by omega) (by omega),acy k hk' r.2 ol 1 (by omega) (by omega),zl (show ¬((1:Int)+(zu C_ r.2:Nat)<0) by omega)]
  ·rw[D8 c2];rfl
end Go.zJ
end
