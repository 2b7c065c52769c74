/- walks through the claim's functions -/
import Derived.Test.YtceehofnlhfndaaBase
import Derived.Test.YtceehofnlhfndaaMFRF0
set_option linter.unusedVariables false
set_option maxRecDepth 100000
namespace Go.Proofs.Ytceehofnlhfndaa
open Go.Am Go.Am.W Go.Fn
abbrev z0:CS:= .ro (.list 5 (.int .u8))
abbrev z1:CS:= .ro .bool
abbrev y2:Ty:= .int .i64
abbrev z3:CS:= .ro y2
abbrev z4:CS:= .p 100
abbrev w5:OS:= .box (.st (.cons (.list 5 (.int .u8)) (.cons y2 (.cons y2 .nil)))) (.agg (.cons z0 (.cons z3 (.cons z3 .nil))))
abbrev y6:Ty:= .st (.cons y2 (.cons y2 (.cons y2 (.cons .str (.cons y2 .nil)))))
abbrev z7:CS:= .ro .str
abbrev z8:CS:= .agg (.cons z3 (.cons z3 (.cons z3 (.cons z7 (.cons z3 .nil)))))
abbrev w9:OS:= .box y6 z8
abbrev Hl:Ty:= .list 43 y6
abbrev Em:CS:= .ro Hl
abbrev Oe:Ty:= .cons y2 (.cons y2 (.cons y2 .nil))
abbrev y13:Ty:= .st (.cons .str Oe)
abbrev Dm:CS:= .ro (.list 83 y13)
abbrev Eu:CS:= .h 101
abbrev v16:CS:= .cons z3 (.cons z3 (.cons z3 .nil))
abbrev z17:CS:= .agg (.cons z7 v16)
abbrev Gu:OS:= .box y13 z17
abbrev Gf:OS:= .sl 9 .str
abbrev z20:CS:= .h 100
abbrev CR:OS:= .sl 3 y2
abbrev y22:Ty:= .st (.cons y2 (.cons y2 (.cons y2 (.cons y2 (.cons y2 (.cons (.list 3 y2) .nil))))))
abbrev z23:CS:= .ro (.list 3 y2)
abbrev Ii:OS:= .box y22 (.agg (.cons z3 (.cons z3 (.cons z3 (.cons z3 (.cons z3 (.cons z23 .nil)))))))
abbrev z25:CS:= .p 102
abbrev FZ:Ty:= .st (.cons y2 (.cons (.list 70 y22) .nil))
abbrev y27:Ty:= .st (.cons (.list 83 y13) (.cons y2 (.cons (.list 60 FZ) .nil)))
abbrev z28:CS:= .ro (.list 60 FZ)
abbrev GI:OS:= .box y27 (.agg (.cons Dm (.cons z3 (.cons z28 .nil))))
abbrev z30:CS:= .ro (.list 70 y22)
abbrev IP:OS:= .box FZ (.agg (.cons z3 (.cons z30 .nil)))
abbrev w32:OS:= .sl 43 y6
abbrev z33:CS:= .p 101
abbrev z34:CS:= .h 102
abbrev z35:CS:= .p 0
abbrev Dx:OS:= .sl 83 y13
abbrev v37:CS:= .cons z3 (.cons (.h 105) .nil)
abbrev Mh:OS:= .box y27 (.agg (.cons (.h 104) v37))
abbrev v39:CS:= .cons z3 (.cons (.h 107) .nil)
abbrev Oh:OS:= .box y27 (.agg (.cons (.h 106) v39))
abbrev v41:CS:= .cons z3 (.cons (.h 108) .nil)
abbrev v42:CS:= .cons z3 (.cons (.h 109) .nil)
abbrev FI:OS:= .sl 60 FZ
abbrev IQ:OS:= .sl 70 y22
abbrev z45:CS:= .h 103
abbrev v46:CS:= .cons z3 (.cons (.h 104) .nil)
abbrev Oi:OS:= .box y27 (.agg (.cons z45 v46))
abbrev v48:CS:= .cons z3 (.cons (.h 106) .nil)
abbrev Oj:OS:= .box y27 (.agg (.cons (.h 105) v48))
abbrev v50:CS:= .cons z3 (.cons z45 .nil)
abbrev z51:CS:= .agg (.cons z20 (.cons z3 (.cons Eu .nil)))
abbrev z52:CS:= .ro (.list 9 .str)
abbrev Ji:Ty:= .st (.cons Hl (.cons (.list 3 y2) .nil))
abbrev z54:CS:= .agg (.cons Em (.cons (.h 10) .nil))
abbrev GZ:OS:= .box Ji z54
abbrev Jf:OS:= .a_ Ji z54
abbrev K3:Ty:= .st (.cons .ptr (.cons .bool .nil))
abbrev Fz:OS:= .box K3 (.agg (.cons (.p 10) (.cons z1 .nil)))
abbrev FB:OS:= .box Ji (.agg (.cons Em (.cons (.h 11) .nil)))
abbrev JX:OS:= .box y22 (.agg (.cons z3 (.cons z3 (.cons z3 (.cons z3 (.cons z3 (.cons z34 .nil)))))))
abbrev JY:OS:= .box y22 (.agg (.cons z3 (.cons z3 (.cons z3 (.cons z3 v50)))))
abbrev KQ:OS:= .box y22 (.agg (.cons z3 (.cons z3 (.cons z3 (.cons z3 v46)))))
abbrev JZ:OS:= .box y22 (.agg (.cons z3 (.cons z3 (.cons z3 (.cons z3 v37)))))
abbrev CO:OS:= .box (.st Oe) (.agg v16)
abbrev KT:OS:= .box y22 (.agg (.cons z3 (.cons z3 (.cons z3 (.cons z3 v48)))))
abbrev z66:CS:= .agg (.cons z3 (.cons z3 (.cons z3 (.cons z3 (.cons z3 (.cons z20 .nil))))))
abbrev Ol:OS:= .box y22 (.agg (.cons z3 (.cons z3 (.cons z3 (.cons z3 v39)))))
abbrev Om:OS:= .box y27 (.agg (.cons (.h 107) v41))
abbrev z69:CS:= .ro (.list 24 Hl)
abbrev FY:OS:= .sl 24 Hl
def Sa(k:Nat):dm:=⟨⟨[(0,z0)],[]⟩,⟨[(0,z1)],[]⟩,1,1,fun x=>LB k x⟩
theorem Sb(k:Nat):gH Try.prog 4 (Sa k):=ok (cx [] 6 nb) Try.f4 fun h x=>X h
def f4(k:Nat):Fc Try.prog:=⟨4,_,Sb k⟩
def PG:SS:=⟨[(0,z0),(3,z3),(4,z3)],[]⟩
def PD(k:Nat):dm:=⟨⟨[(0,z0)],[]⟩,⟨[(0,z4)],[(100,w5)]⟩,1,1,fun x=>Hf k x⟩
theorem PE(k:Nat):gH Try.prog 11 (PD k):=ok (cx [] 32 nb) Try.f11 fun h x=>Q (Q (Q (X h) (Q (B (L PG (fun n x=>Hf.l3 k n x.1 x.2.1 x.2.2) k fun n3=>X h)) (X h))) (X h)) (X h)
def f11(k:Nat):Fc Try.prog:=⟨11,_,PE k⟩
def SI(k:Nat):dm:=⟨⟨[(0,z3),(1,z3),(2,z3)],[]⟩,⟨[(0,z1)],[]⟩,3,1,fun x=>FV k x.1 x.2.1 x.2.2⟩
theorem SK(k:Nat):gH Try.prog 55 (SI k):=ok (cx [] 15 nb) Try.f55 fun h x=>X h
def f55(k:Nat):Fc Try.prog:=⟨55,_,SK k⟩
def Vd(k:Nat):dm:=⟨⟨[(0,z3)],[]⟩,⟨[(0,z1)],[]⟩,1,1,fun x=>Mc k x⟩
theorem Ve(k:Nat):gH Try.prog 89 (Vd k):=ok (cx [f55 k] 5 nb) Try.f89 fun h x=>X h
def f89(k:Nat):Fc Try.prog:=⟨89,_,Ve k⟩
def VE:SS:=⟨[(4,z1)],[]⟩
def VC(k:Nat):dm:=⟨⟨[(0,z3)],[]⟩,⟨[(0,z1)],[]⟩,1,1,fun x=>GG k x⟩
theorem VD(k:Nat):gH Try.prog 96 (VC k):=ok (cx [] 12 nb) Try.f96 fun h x=>Q (Q (X h) (Q (B (Q (T (X h) VE fun x=>GG.c9 k x) (X h))) (X h))) (X h)
def f96(k:Nat):Fc Try.prog:=⟨96,_,VD k⟩
def Vl(k:Nat):dm:=⟨⟨[(0,z3)],[]⟩,⟨[(0,z1)],[]⟩,1,1,fun x=>KN k x⟩
theorem Vm(k:Nat):gH Try.prog 90 (Vl k):=ok (cx [f96 k] 13 nb) Try.f90 fun h x=>X h
def f90(k:Nat):Fc Try.prog:=⟨90,_,Vm k⟩
def Uw:SS:=⟨[(1,z4),(4,z3),(5,z1)],[(100,w9)]⟩
def Uu(k:Nat):dm:=⟨⟨[(0,(.ro y6))],[]⟩,⟨[(0,z1)],[]⟩,1,1,fun x=>Iu k x⟩
theorem Uv(k:Nat):gH Try.prog 76 (Uu k):=ok (cx [f89 k,f90 k] 107 nb) Try.f76 fun h x=>Q (Q (X h) (Q (B (Q (T (X h) Uw fun x=>Iu.c4 k x.1.2.1 x.1.2.2 x.2) (X h))) (X h))) (X h)
def f76(k:Nat):Fc Try.prog:=⟨76,_,Uv k⟩
def SQ:SS:=⟨[(0,Em),(2,z3),(7,z4),(8,z3),(9,z3),(10,z3)],[(100,w9)]⟩
def Ke(F:(List Cu)→Int→Int→Option Int):dm:=⟨⟨[(0,Em),(1,z3),(2,z3)],[]⟩,⟨[(0,z3)],[]⟩,3,1,fun x=>F x.1 x.2.1 x.2.2⟩
theorem SN(k:Nat)(IA:(List Cu)→Int→Int→Option Int)(JP:gH Try.prog 56 (Ke IA)):gH Try.prog 56 (Ke (EL.b k IA)):=ok (cx [⟨56,_,JP⟩,f76 k] 89 nb) Try.f56 fun h x=>Q (Q (Q (Q (Q (Q (X h) (Q (B (L SQ (fun n x=>EL.l7 k IA n x.1.1 x.1.2.1 x.1.2.2.2.1 x.1.2.2.2.2.1 x.1.2.2.2.2.2 x.2) k fun n7=>X h)) (X h))) (X h)) (X h)) (X h)) (X h)) (X h)
theorem Nf(k:Nat):∀d,gH Try.prog 56 (Ke (EL.d k d))
 |0=>Cc (fun _=>rfl)
 |d+1=>let ih:=Nf k d
  SN k (EL.d k d) ih
theorem SL(k:Nat):gH Try.prog 56 (Ke (EL k)):=(Nf k k)
def f56(k:Nat):Fc Try.prog:=⟨56,_,SL k⟩
def Qv(k:Nat):dm:=⟨⟨[(0,Em)],[]⟩,⟨[(0,z1)],[]⟩,1,1,fun x=>Iq k x⟩
theorem Qw(k:Nat):gH Try.prog 24 (Qv k):=ok (cx [f55 k,f56 k] 26 nb) Try.f24 fun h x=>X h
def f24(k:Nat):Fc Try.prog:=⟨24,_,Qw k⟩
def Vp:SS:=⟨[(0,z7),(3,z3)],[]⟩
def Vn(k:Nat):dm:=⟨⟨[(0,z7)],[]⟩,⟨[(0,z1)],[]⟩,1,1,fun x=>H9 k x⟩
theorem Vo(k:Nat):gH Try.prog 91 (Vn k):=ok (cx [f55 k] 24 nb) Try.f91 fun h x=>Q (Q (Q (X h) (Q (B (L Vp (fun n x=>H9.l4 k n x.1 x.2) k fun n4=>X h)) (X h))) (X h)) (X h)
def f91(k:Nat):Fc Try.prog:=⟨91,_,Vo k⟩
def Vs:SS:=⟨[(4,z1)],[]⟩
def Vq(k:Nat):dm:=⟨⟨[(0,z3)],[]⟩,⟨[(0,z1)],[]⟩,1,1,fun x=>Hg k x⟩
theorem Vr(k:Nat):gH Try.prog 92 (Vq k):=ok (cx [] 10 nb) Try.f92 fun h x=>Q (Q (X h) (Q (B (Q (T (X h) Vs fun x=>Hg.c7 k x) (X h))) (X h))) (X h)
def f92(k:Nat):Fc Try.prog:=⟨92,_,Vr k⟩
def UC:SS:=⟨[(0,Dm),(2,z3),(7,z4),(8,z3),(9,Eu),(10,z3),(11,z3)],[(100,Gu),(101,Gf)]⟩
def UB:SS:=⟨[(0,Dm),(2,z3),(7,z4),(8,z3),(9,Eu),(10,z3)],[(100,Gu),(101,Gf)]⟩
def Kk(F:(List Cv)→Int→Int→Option Int):dm:=⟨⟨[(0,Dm),(1,z3),(2,z3)],[]⟩,⟨[(0,z3)],[]⟩,3,1,fun x=>F x.1 x.2.1 x.2.2⟩
theorem UA(k:Nat)(GM:(List Cv)→Int→Int→Option Int)(VZ:gH Try.prog 78 (Kk GM)):gH Try.prog 78 (Kk (DU.b k GM)):=ok (cx [f55 k,⟨78,_,VZ⟩,f91 k,f92 k] 119 nb) Try.f78 fun h x=>Q (Q (Q (Q (Q (Q (Q (Q (Q (X h) (Q (B (L UB (fun n x=>DU.Jv k GM n x.1.1 x.1.2.1 x.1.2.2.2.1 x.1.2.2.2.2.2 x.2.1 x.2.2) k fun n15=>Q (Q (X h) (B (Q (Q (X h) (Q (B (L UC (fun n x=>DU.Jw k GM (DU.Jv k GM n15) n x.1.1 x.1.2.1 x.1.2.2.2.1 x.1.2.2.2.2.2.1 x.1.2.2.2.2.2.2 x.2.1 x.2.2) k fun n20=>X h)) (X h))) (X h)))) (X h))) (X h))) (X h)) (X h)) (X h)) (X h)) (X h)) (X h)) (X h)) (X h)
theorem Nk(k:Nat):∀d,gH Try.prog 78 (Kk (DU.d k d))
 |0=>Cc (fun _=>rfl)
 |d+1=>let ih:=Nk k d
  UA k (DU.d k d) ih
theorem Uz(k:Nat):gH Try.prog 78 (Kk (DU k)):=(Nk k k)
def f78(k:Nat):Fc Try.prog:=⟨78,_,Uz k⟩
def Tn(k:Nat):dm:=⟨⟨[(0,Dm)],[]⟩,⟨[(0,z1)],[]⟩,1,1,fun x=>EB k x⟩
theorem Tp(k:Nat):gH Try.prog 60 (Tn k):=ok (cx [f55 k,f78 k] 13 nb) Try.f60 fun h x=>X h
def f60(k:Nat):Fc Try.prog:=⟨60,_,Tp k⟩
def QI:SS:=⟨[(0,Dm),(3,z20),(4,z3)],[(100,CR)]⟩
def QH:SS:=⟨[(0,Dm),(3,z20),(4,z3)],[(100,CR)]⟩
def QF(k:Nat):dm:=⟨⟨[(0,Dm)],[]⟩,⟨[(0,z20)],[(100,CR)]⟩,1,1,fun x=>ED k x⟩
theorem QG(k:Nat):gH Try.prog 28 (QF k):=ok (cx [] 23 nb) Try.f28 fun h x=>Q (Q (Q (X h) (Q (B (L QH (fun n x=>ED.l3 k n x.1.1 x.1.2.2 x.2) k fun n3=>Q (Q (T (X h) QI fun x=>ED.c4 k (ED.l3 k n3) x.1.1 x.1.2.2 x.2) (X h)) (X h))) (X h))) (X h)) (X h)
def f28(k:Nat):Fc Try.prog:=⟨28,_,QG k⟩
def Tz(k:Nat):dm:=⟨⟨[(0,Dm)],[]⟩,⟨[(0,z20)],[(100,CR)]⟩,1,1,fun x=>H7 k x⟩
theorem TA(k:Nat):gH Try.prog 63 (Tz k):=ok (cx [f28 k,f60 k] 9 nb) Try.f63 fun h x=>X h
def f63(k:Nat):Fc Try.prog:=⟨63,_,TA k⟩
def TC:SS:=⟨[(2,z4),(5,z3)],[(100,Ii)]⟩
def TE:SS:=⟨[(2,z4),(5,z3)],[(100,Ii)]⟩
def TB(k:Nat):dm:=⟨⟨[(0,(.ro y22)),(1,z3)],[]⟩,⟨[(0,z1)],[]⟩,2,1,fun x=>Fa k x.1 x.2⟩
theorem TD(k:Nat):gH Try.prog 64 (TB k):=ok (cx [f55 k] 73 nb) Try.f64 fun h x=>Q (Q (Q (X h) (Q (B (L TE (fun n x=>Fa.l4 k n x.1.2 x.2) k fun n4=>Q (Q (X h) (B (Q (X h) (K h TC (fun x=>Fa.d6 k (Fa.l4 k n4) x.1.2 x.2) [[0,2,1,3,4,5,6,7,8,9,10,11,12,13,14,15,16,17,18,19,20,21,22,23,24]] (O (fun x=>by kernel_rfl) (N)))))) (X h))) (X h))) (X h)) (X h)
def f64(k:Nat):Fc Try.prog:=⟨64,_,TD k⟩
def QU:SS:=⟨[(1,z4),(3,Eu),(4,z3),(5,z3),(6,z25),(7,z3)],[(100,GI),(101,CR),(102,IP)]⟩
def QV:SS:=⟨[(1,z4),(3,Eu),(4,z3),(5,z3)],[(100,GI),(101,CR)]⟩
def QS(k:Nat):dm:=⟨⟨[(0,(.ro y27))],[]⟩,⟨[(0,z1)],[]⟩,1,1,fun x=>Ea k x⟩
theorem QT(k:Nat):gH Try.prog 30 (QS k):=ok (cx [f55 k,f60 k,f63 k,f64 k] 74 nb) Try.f30 fun h x=>Q (Q (Q (Q (Q (X h) (Q (B (L QV (fun n x=>Ea.l6 k n x.1.2.2.1 x.1.2.2.2 x.2.1 x.2.2) k fun n6=>Q (Q (X h) (B (Q (Q (Q (Q (B (L QU (fun n x=>Ea.FP k (Ea.l6 k n6) n x.1.2.2.1 x.1.2.2.2.1 x.1.2.2.2.2.2 x.2.1 x.2.2.1 x.2.2.2) k fun n13=>X h)) (X h)) (X h)) (X h)) (X h)))) (X h))) (X h))) (X h)) (X h)) (X h)) (X h)
def f30(k:Nat):Fc Try.prog:=⟨30,_,QT k⟩
def Rz(k:Nat):dm:=⟨⟨[(0,z3),(1,z3)],[]⟩,⟨[(0,z8)],[]⟩,2,1,fun x=>JC k x.1 x.2⟩
theorem RA(k:Nat):gH Try.prog 42 (Rz k):=ok (cx [] 8 nb) Try.f42 fun h x=>X h
def f42(k:Nat):Fc Try.prog:=⟨42,_,RA k⟩
def RI:SS:=⟨[(0,Dm),(5,z20),(6,z3),(8,z3)],[(100,w32)]⟩
def RH:SS:=⟨[(0,Dm),(5,z20),(6,z3),(7,z33),(8,z3)],[(100,w32),(101,Gu)]⟩
def RF:SS:=⟨[(0,Dm),(5,z20),(6,z3),(7,z33),(8,z3)],[(100,w32),(101,Gu)]⟩
def RJ:SS:=⟨[(0,Dm),(5,z20),(6,z3)],[(100,w32)]⟩
def RB(k:Nat):dm:=⟨⟨[(0,Dm),(1,z3)],[]⟩,⟨[(0,z20)],[(100,w32)]⟩,2,1,fun x=>Ed k x.1 x.2⟩
theorem RD(k:Nat):gH Try.prog 43 (RB k):=ok (cx [] 72 nb) Try.f43 fun h x=>Q (Q (Q (X h) (Q (B (L RJ (fun n x=>Ed.l3 k n x.1.1 x.1.2.2 x.2) k fun n3=>Q (Q (X h) (B (Q (Q (Q (Q (T (Q (T (Q (Q (T (X h) RI fun x=>Ed.c15 k (Ed.l3 k n3) x.1.1 x.1.2.2.1 x.1.2.2.2 x.2) (X h)) (X h)) RH fun x=>Ed.c12 k (Ed.l3 k n3) x.1.1 x.1.2.2.1 x.1.2.2.2.2 x.2.1 x.2.2) (X h)) RF fun x=>Ed.c10 k (Ed.l3 k n3) x.1.1 x.1.2.2.1 x.1.2.2.2.2 x.2.1 x.2.2) (X h)) (X h)) (X h)) (X h)))) (X h))) (X h))) (X h)) (X h)
def f43(k:Nat):Fc Try.prog:=⟨43,_,RD k⟩
def RL(k:Nat):dm:=⟨⟨[(0,z3),(1,z3)],[]⟩,⟨[(0,z8)],[]⟩,2,1,fun x=>GY k x.1 x.2⟩
theorem RN(k:Nat):gH Try.prog 44 (RL k):=ok (cx [] 8 nb) Try.f44 fun h x=>X h
def f44(k:Nat):Fc Try.prog:=⟨44,_,RN k⟩
def Vv:SS:=⟨[(0,Dm),(1,z3),(5,z3),(6,z3)],[]⟩
def Kl(F:(List Cv)→Int→Option Int):dm:=⟨⟨[(0,Dm),(1,z3)],[]⟩,⟨[(0,z3)],[]⟩,2,1,fun x=>F x.1 x.2⟩
theorem Vu(k:Nat)(IE:(List Cv)→Int→Option Int)(V3:gH Try.prog 93 (Kl IE)):gH Try.prog 93 (Kl (ES.b k IE)):=ok (cx [⟨93,_,V3⟩] 22 nb) Try.f93 fun h x=>Q (Q (Q (X h) (Q (B (L Vv (fun n x=>ES.l3 k IE n x.1 x.2.1 x.2.2.1 x.2.2.2) k fun n3=>X h)) (X h))) (X h)) (X h)
theorem Nl(k:Nat):∀d,gH Try.prog 93 (Kl (ES.d k d))
 |0=>Cc (fun _=>rfl)
 |d+1=>let ih:=Nl k d
  Vu k (ES.d k d) ih
theorem Vt(k:Nat):gH Try.prog 93 (Kl (ES k)):=(Nl k k)
def f93(k:Nat):Fc Try.prog:=⟨93,_,Vt k⟩
def UG:SS:=⟨[(0,Dm),(1,z3),(5,z20),(6,z3)],[(100,CR)]⟩
def UF:SS:=⟨[(0,Dm),(1,z3),(5,z20),(6,z3)],[(100,CR)]⟩
def UD(k:Nat):dm:=⟨⟨[(0,Dm),(1,z3)],[]⟩,⟨[(0,z20)],[(100,CR)]⟩,2,1,fun x=>FX k x.1 x.2⟩
theorem UE(k:Nat):gH Try.prog 79 (UD k):=ok (cx [f93 k] 23 nb) Try.f79 fun h x=>Q (Q (Q (X h) (Q (B (L UF (fun n x=>FX.l3 k n x.1.1 x.1.2.1 x.1.2.2.2 x.2) k fun n3=>Q (Q (T (X h) UG fun x=>FX.c4 k (FX.l3 k n3) x.1.1 x.1.2.1 x.1.2.2.2 x.2) (X h)) (X h))) (X h))) (X h)) (X h)
def f79(k:Nat):Fc Try.prog:=⟨79,_,UE k⟩
def Tx:SS:=⟨[(0,Dm),(5,z20),(7,Eu),(8,z3)],[(100,Gf),(101,CR)]⟩
def Tv(k:Nat):dm:=⟨⟨[(0,Dm),(1,z3)],[]⟩,⟨[(0,z20)],[(100,Gf)]⟩,2,1,fun x=>Gc k x.1 x.2⟩
theorem Tw(k:Nat):gH Try.prog 62 (Tv k):=ok (cx [f55 k,f63 k,f79 k] 43 nb) Try.f62 fun h x=>Q (Q (Q (Q (Q (Q (X h) (Q (B (L Tx (fun n x=>Gc.l7 k n x.1.1 x.1.2.2.2 x.2.1 x.2.2) k fun n7=>X h)) (X h))) (X h)) (X h)) (X h)) (X h)) (X h)
def f62(k:Nat):Fc Try.prog:=⟨62,_,Tw k⟩
def RV:SS:=⟨[(6,z20)],[(100,w32)]⟩
def RP:SS:=⟨[(3,z4),(6,Eu)],[(100,Ii),(101,w32)]⟩
def RU:SS:=⟨[(3,z4),(5,Eu),(6,z34),(8,z3)],[(100,Ii),(101,Gf),(102,w32)]⟩
def RX:SS:=⟨[(3,z4),(5,Eu),(6,z34),(7,z3)],[(100,Ii),(101,Gf),(102,w32)]⟩
def RQ:SS:=⟨[(0,Dm),(3,z4),(5,Eu),(6,z34)],[(100,Ii),(101,Gf),(102,w32)]⟩
def RO(k:Nat):dm:=⟨⟨[(0,Dm),(1,(.ro y22))],[]⟩,⟨[(0,z20)],[(100,w32)]⟩,2,1,fun x=>Eh k x.1 x.2⟩
theorem RS(k:Nat):gH Try.prog 45 (RO k):=ok (cx [f28 k,f42 k,f44 k,f62 k] 102 nb) Try.f45 fun h x=>Q (Q (Q (Q (Q (Q (Q (Q (Q (T (X h) RV fun x=>Eh.c17 k x.2) (X h)) (K h RP (fun x=>Eh.d13 k x.2.1 x.2.2) [[0,2,3,5,6,8,9,11,12,1,4,7,10,13,14,15,16]] (O (fun x=>by kernel_rfl) (N)))) (Q (B (L RU (fun n x=>Eh.l10 k n x.1.2.2.2 x.2.1 x.2.2.1 x.2.2.2) k fun n10=>X h)) (X h))) (X h)) (Q (B (L RX (fun n x=>Eh.l5 k n x.1.2.2.2 x.2.1 x.2.2.1 x.2.2.2) k fun n5=>X h)) (X h))) (K h RQ (fun x=>Eh.d3 k x.1.1 x.2.1 x.2.2.1 x.2.2.2) [[0,1,2,4,12,3,5,6,7,8,9,10,11,13,14,15,16,17,18],[0,1,2,4,12,3,5,6,7,8,9,10,13,14,15,11,16,17,18],[0,1,2,4,12,3,5,6,7,8,9,13,14,15,10,11,16,17,18],[0,1,2,4,12,3,5,6,13,14,15,7,8,9,10,11,16,17,18],[0,1,2,4,12,3,13,14,15,5,6,7,8,9,10,11,16,17,18],[0,1,2,4,12,5,3,6,7,8,9,10,11,13,14,15,16,17,18],[0,1,2,4,12,5,3,6,7,8,9,10,13,14,15,11,16,17,18],[0,1,2,4,12,5,3,6,7,8,9,13,14,15,10,11,16,17,18],[0,1,2,4,12,5,3,6,13,14,15,7,8,9,10,11,16,17,18],[0,1,2,4,12,5,13,14,15,3,6,7,8,9,10,11,16,17,18],[0,1,2,4,12,13,14,15,3,5,6,7,8,9,10,11,16,17,18],[0,1,2,4,12,13,14,15,5,3,6,7,8,9,10,11,16,17,18]] (O (fun x=>by kernel_rfl) (O (fun x=>by kernel_rfl) (O (fun x=>by kernel_rfl) (O (fun x=>by kernel_rfl) (O (fun x=>by kernel_rfl) (O (fun x=>by kernel_rfl) (O (fun x=>by kernel_rfl) (O (fun x=>by kernel_rfl) (O (fun x=>by kernel_rfl) (O (fun x=>by kernel_rfl) (O (fun x=>by kernel_rfl) (O (fun x=>by kernel_rfl) (N))))))))))))))) (X h)) (X h)) (X h)
def f45(k:Nat):Fc Try.prog:=⟨45,_,RS k⟩
def PL:SS:=⟨[(1,z4),(4,Eu),(5,z34),(7,z3),(8,(.p 103)),(9,z3)],[(100,GI),(101,w32),(102,w32),(103,IP)]⟩
def PK:SS:=⟨[(1,z4),(4,Eu),(5,z34),(7,z3),(8,(.p 103)),(9,z3),(10,z3)],[(100,GI),(101,w32),(102,w32),(103,IP)]⟩
def PR:SS:=⟨[(1,z4),(4,Eu),(5,z34),(7,z3),(8,(.p 103)),(9,z3),(10,z3)],[(100,GI),(101,w32),(102,w32),(103,IP)]⟩
def PO:SS:=⟨[(1,z4),(4,Eu),(5,z34),(7,z3)],[(100,GI),(101,w32),(102,w32)]⟩
def PN:SS:=⟨[(1,z4),(4,Eu),(5,z34),(6,(.p 103))],[(100,GI),(101,w32),(102,w32),(103,w9)]⟩
def PI(k:Nat):dm:=⟨⟨[(0,(.ro y27))],[]⟩,⟨[(0,z20),(1,z1)],[(100,w32)]⟩,1,2,fun x=>Dz k x⟩
theorem PM(k:Nat):gH Try.prog 12 (PI k):=ok (cx [f24 k,f30 k,f42 k,f43 k,f44 k,f45 k] 101 nb) Try.f12 fun h x=>Q (Q (Q (Q (Q (Q (Q (Q (T (Q (Q (X h) (Q (B (L PO (fun n x=>Dz.C_ k n x.1.2.2.2 x.2.1 x.2.2.1 x.2.2.2) k fun n12=>Q (Q (X h) (B (Q (Q (Q (Q (K h PL (fun x=>Dz.d22 k (Dz.C_ k n12) x.1.2.2.2.1 x.1.2.2.2.2.2 x.2.1 x.2.2.1 x.2.2.2.1 x.2.2.2.2) [[0,1,3,2,4,5,6,7,8],[0,1,3,4,2,5,6,7,8]] (O (fun x=>by kernel_rfl) (O (fun x=>by kernel_rfl) (N)))) (Q (B (L PR (fun n x=>Dz.Gp k (Dz.C_ k n12) n x.1.2.2.2.1 x.1.2.2.2.2.2.1 x.1.2.2.2.2.2.2 x.2.1 x.2.2.1 x.2.2.2.1 x.2.2.2.2) k fun n18=>Q (Q (X h) (B (Q (X h) (K h PK (fun x=>Dz.d20 k (Dz.Gp k (Dz.C_ k n12) n18) x.1.2.2.2.1 x.1.2.2.2.2.2.1 x.1.2.2.2.2.2.2 x.2.1 x.2.2.1 x.2.2.2.1 x.2.2.2.2) [[0,1,3,5,2,4,6,7,8,9,10],[0,1,3,5,4,6,2,7,8,9,10],[0,1,3,5,4,6,7,2,8,9,10]] (O (fun x=>by kernel_rfl) (O (fun x=>by kernel_rfl) (O (fun x=>by kernel_rfl) (N)))))))) (X h))) (X h))) (X h)) (X h)) (X h)))) (X h))) (X h))) (X h)) PN fun x=>Dz.c10 k x.2.1 x.2.2.1 x.2.2.2.1 x.2.2.2.2) (X h)) (X h)) (X h)) (X h)) (X h)) (X h)) (X h)) (X h)
def f12(k:Nat):Fc Try.prog:=⟨12,_,PM k⟩
def R_:SS:=⟨[(3,z3)],[(0,w5)]⟩
def R8(k:Nat):dm:=⟨⟨[(0,z35)],[(0,w5)]⟩,⟨[(0,z3)],[(0,w5)]⟩,1,1,fun x=>GD k x.2⟩
theorem R9(k:Nat):gH Try.prog 49 (R8 k):=ok (cx [] 58 nb) Try.f49 fun h x=>Q (Q (Q (Q (T (X h) R_ fun x=>GD.c6 k x.1 x.2) (X h)) (X h)) (X h)) (X h)
def f49(k:Nat):Fc Try.prog:=⟨49,_,R9 k⟩
def P_(k:Nat):dm:=⟨⟨[(0,z35),(1,z3)],[(0,w5)]⟩,⟨[(0,z3)],[(0,w5)]⟩,2,1,fun x=>Eb k x.1.2 x.2⟩
theorem Qa(k:Nat):gH Try.prog 16 (P_ k):=ok (cx [f49 k] 37 nb) Try.f16 fun h x=>X h
def f16(k:Nat):Fc Try.prog:=⟨16,_,Qa k⟩
def P8(k:Nat):dm:=⟨⟨[(0,z35),(1,z3)],[(0,w5)]⟩,⟨[(0,z1)],[(0,w5)]⟩,2,1,fun x=>IM k x.1.2 x.2⟩
theorem P9(k:Nat):gH Try.prog 15 (P8 k):=ok (cx [f16 k] 9 nb) Try.f15 fun h x=>X h
def f15(k:Nat):Fc Try.prog:=⟨15,_,P9 k⟩
def Qd(k:Nat):dm:=⟨⟨[(0,z35),(1,z23)],[(0,w5)]⟩,⟨[(0,z3)],[(0,w5)]⟩,2,1,fun x=>Ih k x.1.2 x.2⟩
theorem Qe(k:Nat):gH Try.prog 18 (Qd k):=ok (cx [f16 k] 12 nb) Try.f18 fun h x=>X h
def f18(k:Nat):Fc Try.prog:=⟨18,_,Qe k⟩
def T_:SS:=⟨[(0,z35),(2,z3),(3,z20),(11,z3),(12,z3)],[(0,w5),(100,Dx)]⟩
def T9:SS:=⟨[(0,z35),(2,z3),(3,z20),(11,z3)],[(0,w5),(100,Dx)]⟩
def Ua:SS:=⟨[(0,z35),(1,z7),(2,z3),(3,(.h 10)),(9,z4)],[(0,w5),(10,Dx),(100,Gu)]⟩
def Ki(F:ByteArray→Int→CG→(List Cv)→Option (Unit×CG×(List Cv))):dm:=⟨⟨[(0,z35),(1,z7),(2,z3),(3,(.h 10))],[(0,w5),(10,Dx)]⟩,⟨[(0,z20)],[(0,w5),(100,Dx)]⟩,4,1,fun x=>F x.1.2.1 x.1.2.2.1 x.2.1 x.2.2⟩
theorem TZ(k:Nat)(Fp:ByteArray→Int→CG→(List Cv)→Option (Unit×CG×(List Cv)))(Ll:gH Try.prog 70 (Ki Fp)):gH Try.prog 70 (Ki (Dy.b k Fp)):=ok (cx [f15 k,f16 k,f18 k,⟨70,_,Ll⟩] 75 (fun s=>Nat.beq s 22||Nat.beq s 25)) Try.f70 fun h x=>Q (Q (Q (T (Q (Q (Q (Q (Q (Q (T (Q (X h) (Q (B (L T_ (fun n x=>Dy.FP k Fp n x.1.2.1 x.1.2.2.2.1 x.1.2.2.2.2 x.2.1 x.2.2) k fun n13=>X h)) (X h))) T9 fun x=>Dy.c12 k Fp x.1.2.1 x.1.2.2.2 x.2.1 x.2.2) (X h)) (X h)) (X h)) (X h)) (X h)) (X h)) Ua fun x=>Dy.c4 k Fp x.1.2.1 x.1.2.2.1 x.2.1 x.2.2.1 x.2.2.2) (X h)) (X h)) (X h)
theorem Ni(k:Nat):∀d,gH Try.prog 70 (Ki (Dy.d k d))
 |0=>Cc (fun _=>rfl)
 |d+1=>let ih:=Ni k d
  TZ k (Dy.d k d) ih
theorem TY(k:Nat):gH Try.prog 70 (Ki (Dy k)):=(Ni k k)
def f70(k:Nat):Fc Try.prog:=⟨70,_,TY k⟩
def R3:SS:=⟨[(0,z35),(3,z3)],[(0,w5)]⟩
def RY(k:Nat):dm:=⟨⟨[(0,z35)],[(0,w5)]⟩,⟨[(0,z20)],[(0,w5),(100,Dx)]⟩,1,1,fun x=>H8 k x.2⟩
theorem RZ(k:Nat):gH Try.prog 46 (RY k):=ok (cx [f16 k,f60 k,f70 k] 21 nb) Try.f46 fun h x=>Q (Q (X h) (Q (B (L R3 (fun n x=>H8.l2 k n x.1.2 x.2) k fun n2=>X h)) (X h))) (X h)
def f46(k:Nat):Fc Try.prog:=⟨46,_,RZ k⟩
def PV:SS:=⟨[(0,z35),(2,z4),(3,z33),(4,z3),(5,z3),(6,z3),(7,z25),(8,z3),(9,(.p 103))],[(0,w5),(100,Mh),(101,Oh),(102,(.box FZ (.agg v41))),(103,(.box y22 (.agg (.cons z3 (.cons z3 (.cons z3 (.cons z3 v42))))))),(104,Dx),(105,FI),(106,Dx),(107,FI),(108,IQ),(109,CR)]⟩
def PU:SS:=⟨[(0,z35),(2,z4),(3,z33),(4,z3),(5,z3),(6,z3),(7,z25),(8,z3)],[(0,w5),(100,Oi),(101,Oj),(102,(.box FZ (.agg v39))),(103,Dx),(104,FI),(105,Dx),(106,FI),(107,IQ)]⟩
def PX:SS:=⟨[(0,z35),(2,z4),(3,z33),(4,z3),(5,z3),(6,z3)],[(0,w5),(100,(.box y27 (.agg (.cons z34 v50)))),(101,Mh),(102,Dx),(103,FI),(104,Dx),(105,FI)]⟩
def PW:SS:=⟨[(0,z35),(2,z4),(3,z33),(4,z3),(5,z3)],[(0,w5),(100,Oi),(101,(.box y27 (.agg (.cons z34 v37)))),(102,Dx),(103,Dx),(104,FI),(105,FI)]⟩
def PS(k:Nat):dm:=⟨⟨[(0,z35)],[(0,w5)]⟩,⟨[(0,z51)],[(0,w5),(100,Dx),(101,FI)]⟩,1,1,fun x=>D5 k x.2⟩
theorem PT(k:Nat):gH Try.prog 13 (PS k):=ok (cx [f15 k,f16 k,f28 k,f46 k] 71 nb) Try.f13 fun h x=>Q (Q (Q (Q (Q (T (Q (X h) (Q (B (L PX (fun n x=>D5.l7 k n x.1.2.2.2.1 x.1.2.2.2.2.1 x.1.2.2.2.2.2 x.2.1 x.2.2.1 x.2.2.2.1 x.2.2.2.2.1 x.2.2.2.2.2.1 x.2.2.2.2.2.2.1 x.2.2.2.2.2.2.2) k fun n7=>Q (Q (X h) (B (Q (Q (X h) (Q (B (L PU (fun n x=>D5.EA k (D5.l7 k n7) n x.1.2.2.2.1 x.1.2.2.2.2.1 x.1.2.2.2.2.2.1 x.1.2.2.2.2.2.2.2 x.2.1 x.2.2.1 x.2.2.2.1 x.2.2.2.2.1 x.2.2.2.2.2.1 x.2.2.2.2.2.2.1 x.2.2.2.2.2.2.2.1 x.2.2.2.2.2.2.2.2.1 x.2.2.2.2.2.2.2.2.2) k fun n11=>Q (Q (X h) (B (Q (Q (T (X h) PV fun x=>D5.c17 k (D5.EA k (D5.l7 k n7) n11) x.1.2.2.2.1 x.1.2.2.2.2.1 x.1.2.2.2.2.2.1 x.1.2.2.2.2.2.2.2.1 x.2.1 x.2.2.1 x.2.2.2.1 x.2.2.2.2.1 x.2.2.2.2.2.1 x.2.2.2.2.2.2.1 x.2.2.2.2.2.2.2.1 x.2.2.2.2.2.2.2.2.1 x.2.2.2.2.2.2.2.2.2.1 x.2.2.2.2.2.2.2.2.2.2.1 x.2.2.2.2.2.2.2.2.2.2.2) (X h)) (X h)))) (X h))) (X h))) (X h)))) (X h))) (X h))) PW fun x=>D5.c6 k x.1.2.2.2.1 x.1.2.2.2.2 x.2.1 x.2.2.1 x.2.2.2.1 x.2.2.2.2.1 x.2.2.2.2.2.1 x.2.2.2.2.2.2.1 x.2.2.2.2.2.2.2) (X h)) (X h)) (X h)) (X h)) (X h)
def f13(k:Nat):Fc Try.prog:=⟨13,_,PT k⟩
def U3(k:Nat):dm:=⟨⟨[(0,z35)],[(0,w5)]⟩,⟨[(0,z3)],[(0,w5)]⟩,1,1,fun x=>KL k x.2⟩
theorem U4(k:Nat):gH Try.prog 85 (U3 k):=ok (cx [f16 k,f18 k] 13 nb) Try.f85 fun h x=>X h
def f85(k:Nat):Fc Try.prog:=⟨85,_,U4 k⟩
def VB:SS:=⟨[(0,z35),(5,z20),(6,z3),(7,z3)],[(0,w5),(100,(.sl 5 (.int .u8)))]⟩
def Vz(k:Nat):dm:=⟨⟨[(0,z35),(1,z3)],[(0,w5)]⟩,⟨[(0,z20)],[(0,w5),(100,(.sl 5 (.int .u8)))]⟩,2,1,fun x=>He k x.1.2 x.2⟩
theorem VA(k:Nat):gH Try.prog 95 (Vz k):=ok (cx [f16 k,f49 k] 25 nb) Try.f95 fun h x=>Q (Q (Q (Q (X h) (Q (B (L VB (fun n x=>He.l4 k n x.1.2.2.1 x.1.2.2.2 x.2.1 x.2.2) k fun n4=>X h)) (X h))) (X h)) (X h)) (X h)
def f95(k:Nat):Fc Try.prog:=⟨95,_,VA k⟩
def U5(k:Nat):dm:=⟨⟨[(0,z35),(1,z3)],[(0,w5)]⟩,⟨[(0,z7)],[(0,w5)]⟩,2,1,fun x=>JW k x.1.2 x.2⟩
theorem U6(k:Nat):gH Try.prog 86 (U5 k):=ok (cx [f95 k] 9 nb) Try.f86 fun h x=>X h
def f86(k:Nat):Fc Try.prog:=⟨86,_,U6 k⟩
def Uh:SS:=⟨[(0,z35),(1,z3),(3,z3),(4,z20),(13,z3),(14,z3),(15,z3),(16,z3)],[(0,w5),(100,w32)]⟩
def Ug:SS:=⟨[(0,z35),(1,z3),(3,z3),(4,z20),(13,z3),(14,z3),(15,z3),(16,z3)],[(0,w5),(100,w32)]⟩
def Uf:SS:=⟨[(0,z35),(1,z3),(3,z3),(4,z20),(13,z3),(14,z3)],[(0,w5),(100,w32)]⟩
def Ue:SS:=⟨[(0,z35),(1,z3),(3,z3),(4,z20),(12,z3),(13,z3)],[(0,w5),(100,w32)]⟩
def Ud:SS:=⟨[(0,z35),(1,z3),(3,z3),(4,z20),(12,z3),(13,z3)],[(0,w5),(100,w32)]⟩
def Ui:SS:=⟨[(0,z35),(1,z3),(3,z3),(4,(.h 10)),(11,z4)],[(0,w5),(10,w32),(100,w9)]⟩
def Kj(F:Int→Int→Int→CG→(List Cu)→Option (Unit×CG×(List Cu))):dm:=⟨⟨[(0,z35),(1,z3),(2,z3),(3,z3),(4,(.h 10))],[(0,w5),(10,w32)]⟩,⟨[(0,z20)],[(0,w5),(100,w32)]⟩,5,1,fun x=>F x.1.2.1 x.1.2.2.1 x.1.2.2.2.1 x.2.1 x.2.2⟩
theorem Uc(k:Nat)(Ew:Int→Int→Int→CG→(List Cu)→Option (Unit×CG×(List Cu)))(VY:gH Try.prog 71 (Kj Ew)):gH Try.prog 71 (Kj (Di.b k Ew)):=ok (cx [f15 k,f16 k,f18 k,⟨71,_,VY⟩,f85 k,f86 k] 113 nb) Try.f71 fun h x=>Q (Q (Q (T (Q (Q (Q (Q (Q (T (Q (T (Q (Q (Q (T (Q (Q (X h) (Q (B (L Ug (fun n x=>Di.Ie k Ew n x.1.2.1 x.1.2.2.1 x.1.2.2.2.2.1 x.1.2.2.2.2.2.1 x.1.2.2.2.2.2.2.1 x.1.2.2.2.2.2.2.2 x.2.1 x.2.2) k fun n24=>Q (Q (T (X h) Uh fun x=>Di.JJ k (Di.Ie k Ew n24) x.1.2.1 x.1.2.2.1 x.1.2.2.2.2.1 x.1.2.2.2.2.2.1 x.1.2.2.2.2.2.2.1 x.1.2.2.2.2.2.2.2 x.2.1 x.2.2) (X h)) (X h))) (X h))) (X h)) Uf fun x=>Di.J9 k Ew x.1.2.1 x.1.2.2.1 x.1.2.2.2.2.1 x.1.2.2.2.2.2 x.2.1 x.2.2) (X h)) (X h)) (X h)) Ue fun x=>Di.c18 k Ew x.1.2.1 x.1.2.2.1 x.1.2.2.2.2.1 x.1.2.2.2.2.2 x.2.1 x.2.2) (X h)) Ud fun x=>Di.c16 k Ew x.1.2.1 x.1.2.2.1 x.1.2.2.2.2.1 x.1.2.2.2.2.2 x.2.1 x.2.2) (X h)) (X h)) (X h)) (X h)) (X h)) Ui fun x=>Di.c9 k Ew x.1.2.1 x.1.2.2.1 x.2.1 x.2.2.1 x.2.2.2) (X h)) (X h)) (X h)
theorem Nj(k:Nat):∀d,gH Try.prog 71 (Kj (Di.d k d))
 |0=>Cc (fun _=>rfl)
 |d+1=>let ih:=Nj k d
  Uc k (Di.d k d) ih
theorem Ub(k:Nat):gH Try.prog 71 (Kj (Di k)):=(Nj k k)
def f71(k:Nat):Fc Try.prog:=⟨71,_,Ub k⟩
def R4(k:Nat):dm:=⟨⟨[(0,z35)],[(0,w5)]⟩,⟨[(0,z20)],[(0,w5),(100,w32)]⟩,1,1,fun x=>KM k x.2⟩
theorem R5(k:Nat):gH Try.prog 47 (R4 k):=ok (cx [f16 k,f71 k] 16 nb) Try.f47 fun h x=>X h
def f47(k:Nat):Fc Try.prog:=⟨47,_,R5 k⟩
def R6(k:Nat):dm:=⟨⟨[(0,z3),(1,z3)],[]⟩,⟨[(0,z3)],[]⟩,2,1,fun x=>KI k x.1 x.2⟩
theorem R7(k:Nat):gH Try.prog 48 (R6 k):=ok (cx [] 10 nb) Try.f48 fun h x=>X h
def f48(k:Nat):Fc Try.prog:=⟨48,_,R7 k⟩
def P7:SS:=⟨[(3,z20)],[(0,w5),(100,w32)]⟩
def PZ:SS:=⟨[(0,z35),(3,z20),(4,z3)],[(0,w5),(100,w32)]⟩
def P6:SS:=⟨[(0,z35),(3,z20),(5,z3)],[(0,w5),(100,w32)]⟩
def PY(k:Nat):dm:=⟨⟨[(0,z35)],[(0,w5)]⟩,⟨[(0,z20)],[(0,w5),(100,w32)]⟩,1,1,fun x=>Ec k x.2⟩
theorem P5(k:Nat):gH Try.prog 14 (PY k):=ok (cx [f16 k,f18 k,f47 k,f48 k] 92 nb) Try.f14 fun h x=>Q (Q (Q (Q (T (X h) P7 fun x=>Ec.c23 k x.2.1 x.2.2) (Q (B (Q (D (X h) (Q (D (X h) (Q (D (K h PZ (fun x=>Ec.d9 k x.1.2.2 x.2.1 x.2.2) [[0,1,2,3,4,5,8,6,7,9,10,11,12,13],[0,1,2,3,4,5,8,9,6,7,10,11,12,13]] (O (fun x=>by kernel_rfl) (O (fun x=>by kernel_rfl) (N)))) (Q (D (X h) (Q (D (X h) (Q (D (X h) (Q (D (Q (Q (X h) (Q (B (L P6 (fun n x=>Ec.GX k n x.1.2.2 x.2.1 x.2.2) k fun n19=>X h)) (X h))) (X h)) (X h)) (X h))) (X h))) (X h))) (X h))) (X h))) (X h))) (X h))) (X h))) (X h)) (X h)) (X h)
def f14(k:Nat):Fc Try.prog:=⟨14,_,P5 k⟩
def Qb(k:Nat):dm:=⟨⟨[(0,z35),(1,z52)],[(0,w5)]⟩,⟨[(0,z7)],[(0,w5)]⟩,2,1,fun x=>KJ k x.1.2 x.2⟩
theorem Qc(k:Nat):gH Try.prog 17 (Qb k):=ok (cx [f16 k] 12 nb) Try.f17 fun h x=>X h
def f17(k:Nat):Fc Try.prog:=⟨17,_,Qc k⟩
def Tm:SS:=⟨[(4,z20)],[(100,w32)]⟩
def Ti:SS:=⟨[(3,z4),(4,Eu),(6,z3)],[(100,w5),(101,w32)]⟩
def Tg(k:Nat):dm:=⟨⟨[(0,z0)],[]⟩,⟨[(0,z20)],[(100,w32)]⟩,1,1,fun x=>FU k x⟩
theorem Tj(k:Nat):gH Try.prog 5 (Tg k):=ok (cx [f11 k,f12 k,f13 k,f14 k,f15 k,f16 k,f17 k,f18 k] 74 nb) Try.f5 fun h x=>Q (Q (Q (Q (Q (T (X h) Tm fun x=>FU.c16 k x.2) (Q (D (Q (Q (B (Q (D (X h) (Q (D (K h Ti (fun x=>FU.d11 k x.1.2.2 x.2.1 x.2.2) [[0,1,2,3,4,5,7,6,8,9,10,11,12],[0,1,2,3,4,5,7,8,6,9,10,11,12]] (O (fun x=>by kernel_rfl) (O (fun x=>by kernel_rfl) (N)))) (X h)) (X h))) (X h))) (X h)) (X h)) (X h)) (X h))) (X h)) (X h)) (X h)) (X h)
def f5(k:Nat):Fc Try.prog:=⟨5,_,Tj k⟩
def Rq(k:Nat):dm:=⟨⟨[(0,z3),(1,z3),(2,z3)],[]⟩,⟨[(0,z1)],[]⟩,3,1,fun x=>Ff k x.1 x.2.1 x.2.2⟩
theorem Rs(k:Nat):gH Try.prog 39 (Rq k):=ok (cx [] 15 nb) Try.f39 fun h x=>X h
def f39(k:Nat):Fc Try.prog:=⟨39,_,Rs k⟩
def Vx(k:Nat):dm:=⟨⟨[(0,z3)],[]⟩,⟨[(0,z1)],[]⟩,1,1,fun x=>Km k x⟩
theorem Vy(k:Nat):gH Try.prog 94 (Vx k):=ok (cx [f39 k] 13 nb) Try.f94 fun h x=>X h
def f94(k:Nat):Fc Try.prog:=⟨94,_,Vy k⟩
def UY(k:Nat):dm:=⟨⟨[(0,(.ro y13))],[]⟩,⟨[(0,z1)],[]⟩,1,1,fun x=>Ko k x⟩
theorem UZ(k:Nat):gH Try.prog 83 (UY k):=ok (cx [f39 k,f94 k] 30 nb) Try.f83 fun h x=>X h
def f83(k:Nat):Fc Try.prog:=⟨83,_,UZ k⟩
def U2:SS:=⟨[(0,z7),(5,z3),(6,z3)],[]⟩
def U0(k:Nat):dm:=⟨⟨[(0,z7)],[]⟩,⟨[(0,z1)],[]⟩,1,1,fun x=>Ht k x⟩
theorem U1(k:Nat):gH Try.prog 84 (U0 k):=ok (cx [f39 k] 19 nb) Try.f84 fun h x=>Q (Q (X h) (Q (B (L U2 (fun n x=>Ht.l2 k n x.1 x.2.1 x.2.2) k fun n2=>X h)) (X h))) (X h)
def f84(k:Nat):Fc Try.prog:=⟨84,_,U1 k⟩
def TP:SS:=⟨[(0,Dm),(2,z3),(7,z3),(8,z20),(47,z3),(48,z3),(54,z20),(55,z3),(56,z3)],[(100,Gf)]⟩
def TQ:SS:=⟨[(0,Dm),(2,z3),(7,z3),(8,z20),(47,z3),(48,z3)],[(100,Gf)]⟩
def Kh(F:(List Cv)→Int→Int→Option Int):dm:=⟨⟨[(0,Dm),(1,z3),(2,z3)],[]⟩,⟨[(0,z3)],[]⟩,3,1,fun x=>F x.1 x.2.1 x.2.2⟩
theorem TN(k:Nat)(GL:(List Cv)→Int→Int→Option Int)(h68:gH Try.prog 68 (Kh GL)):gH Try.prog 68 (Kh (Dp.b k GL)):=ok (cx [⟨68,_,h68⟩,f83 k,f84 k] 85 nb) Try.f68 fun h x=>Q (Q (Q (Q (Q (X h) (Q (B (L TQ (fun n x=>Dp.l6 k GL n x.1.1 x.1.2.1 x.1.2.2.1 x.1.2.2.2.2.1 x.1.2.2.2.2.2 x.2) k fun n6=>Q (Q (Q (X h) (B (Q (Q (X h) (Q (B (L TP (fun n x=>Dp.l10 k GL (Dp.l6 k GL n6) n x.1.1 x.1.2.1 x.1.2.2.1 x.1.2.2.2.2.1 x.1.2.2.2.2.2.1 x.1.2.2.2.2.2.2.2.1 x.1.2.2.2.2.2.2.2.2 x.2) k fun n10=>X h)) (X h))) (X h)))) (X h)) (X h))) (X h))) (X h)) (X h)) (X h)) (X h)
theorem Nh(k:Nat):∀d,gH Try.prog 68 (Kh (Dp.d k d))
 |0=>Cc (fun _=>rfl)
 |d+1=>let ih:=Nh k d
  TN k (Dp.d k d) ih
theorem TM(k:Nat):gH Try.prog 68 (Kh (Dp k)):=(Nh k k)
def f68(k:Nat):Fc Try.prog:=⟨68,_,TM k⟩
def Ro(k:Nat):dm:=⟨⟨[(0,Dm)],[]⟩,⟨[(0,z1)],[]⟩,1,1,fun x=>EZ k x⟩
theorem Rp(k:Nat):gH Try.prog 38 (Ro k):=ok (cx [f39 k,f68 k] 33 nb) Try.f38 fun h x=>X h
def f38(k:Nat):Fc Try.prog:=⟨38,_,Rp k⟩
def Rw:SS:=⟨[(3,z20),(7,Dm),(8,z3),(9,z3)],[(100,CR)]⟩
def Rv:SS:=⟨[(3,z20),(7,Dm),(8,z3),(9,z3)],[(100,CR)]⟩
def Rt(k:Nat):dm:=⟨⟨[(0,Dm)],[]⟩,⟨[(0,z20)],[(100,CR)]⟩,1,1,fun x=>FM k x⟩
theorem Ru(k:Nat):gH Try.prog 40 (Rt k):=ok (cx [] 23 nb) Try.f40 fun h x=>Q (Q (Q (X h) (Q (B (L Rv (fun n x=>FM.l3 k n x.1.2.1 x.1.2.2.1 x.1.2.2.2 x.2) k fun n3=>Q (Q (Q (T (X h) Rw fun x=>FM.c7 k (FM.l3 k n3) x.1.2.1 x.1.2.2.1 x.1.2.2.2 x.2) (X h)) (X h)) (X h))) (X h))) (X h)) (X h)
def f40(k:Nat):Fc Try.prog:=⟨40,_,Ru k⟩
def TT:SS:=⟨[(0,z23),(5,z23),(6,z3),(7,z3)],[]⟩
def TR(k:Nat):dm:=⟨⟨[(0,z23)],[]⟩,⟨[(0,z1)],[]⟩,1,1,fun x=>Ib k x⟩
theorem TS(k:Nat):gH Try.prog 69 (TR k):=ok (cx [f39 k] 32 nb) Try.f69 fun h x=>Q (Q (X h) (Q (B (L TT (fun n x=>Ib.l2 k n x.1 x.2.1 x.2.2.1 x.2.2.2) k fun n2=>X h)) (X h))) (X h)
def f69(k:Nat):Fc Try.prog:=⟨69,_,TS k⟩
def Rx(k:Nat):dm:=⟨⟨[(0,(.ro y22)),(1,z3)],[]⟩,⟨[(0,z1)],[]⟩,2,1,fun x=>Kn k x.1 x.2⟩
theorem Ry(k:Nat):gH Try.prog 41 (Rx k):=ok (cx [f39 k,f69 k] 36 nb) Try.f41 fun h x=>X h
def f41(k:Nat):Fc Try.prog:=⟨41,_,Ry k⟩
def VI:SS:=⟨[(1,z4),(3,z3),(5,z33),(19,z28),(20,z3),(21,z3),(40,z30),(41,z3),(42,z3)],[(100,GI),(101,IP)]⟩
def VG:SS:=⟨[(1,z4),(3,z3),(5,z33),(19,z28),(20,z3),(21,z3)],[(100,GI),(101,IP)]⟩
def VJ:SS:=⟨[(1,z4),(3,z3),(19,z28),(20,z3),(21,z3)],[(100,GI)]⟩
def VF(k:Nat):dm:=⟨⟨[(0,(.ro y27))],[]⟩,⟨[(0,z1)],[]⟩,1,1,fun x=>Eg k x⟩
theorem VH(k:Nat):gH Try.prog 9 (VF k):=ok (cx [f38 k,f39 k,f40 k,f41 k] 65 nb) Try.f9 fun h x=>Q (Q (Q (Q (X h) (Q (B (L VJ (fun n x=>Eg.l5 k n x.1.2.1 x.1.2.2.1 x.1.2.2.2.1 x.1.2.2.2.2 x.2) k fun n5=>Q (Q (Q (X h) (B (Q (Q (Q (X h) (Q (B (L VI (fun n x=>Eg.l10 k (Eg.l5 k n5) n x.1.2.1 x.1.2.2.2.1 x.1.2.2.2.2.1 x.1.2.2.2.2.2.1 x.1.2.2.2.2.2.2.1 x.1.2.2.2.2.2.2.2.1 x.1.2.2.2.2.2.2.2.2 x.2.1 x.2.2) k fun n10=>X h)) (X h))) (Q (X h) (K h VG (fun x=>Eg.d7 k (Eg.l5 k n5) x.1.2.1 x.1.2.2.2.1 x.1.2.2.2.2.1 x.1.2.2.2.2.2 x.2.1 x.2.2) [[0,1,2,3,4,5,8,9,6,7,10,11,12,13],[0,1,2,3,4,5,8,9,10,6,7,11,12,13]] (O (fun x=>by kernel_rfl) (O (fun x=>by kernel_rfl) (N)))))) (X h)))) (X h)) (X h))) (X h))) (X h)) (X h)) (X h)
def f9(k:Nat):Fc Try.prog:=⟨9,_,VH k⟩
def U7(k:Nat):dm:=⟨⟨[(0,z3)],[]⟩,⟨[(0,z1)],[]⟩,1,1,fun x=>Lv k x⟩
theorem U8(k:Nat):gH Try.prog 87 (U7 k):=ok (cx [f39 k] 5 nb) Try.f87 fun h x=>X h
def f87(k:Nat):Fc Try.prog:=⟨87,_,U8 k⟩
def Va:SS:=⟨[(11,z1)],[]⟩
def Vb:SS:=⟨[(1,z1),(5,z3),(6,z1)],[]⟩
def U9(k:Nat):dm:=⟨⟨[(0,z3),(1,z1)],[]⟩,⟨[(0,z1)],[]⟩,2,1,fun x=>FL k x.1 x.2⟩
theorem U_(k:Nat):gH Try.prog 88 (U9 k):=ok (cx [] 17 nb) Try.f88 fun h x=>Q (Q (X h) (Q (B (Q (T (D (X h) (Q (T (X h) Va fun x=>FL.c10 k x) (X h))) Vb fun x=>FL.c4 k x.1 x.2.1 x.2.2) (X h))) (X h))) (X h)
def f88(k:Nat):Fc Try.prog:=⟨88,_,U_ k⟩
def Uj(k:Nat):dm:=⟨⟨[(0,(.ro y6))],[]⟩,⟨[(0,z1)],[]⟩,1,1,fun x=>Kq k x⟩
theorem Uk(k:Nat):gH Try.prog 72 (Uj k):=ok (cx [f87 k,f88 k] 109 nb) Try.f72 fun h x=>X h
def f72(k:Nat):Fc Try.prog:=⟨72,_,Uk k⟩
def Sg:SS:=⟨[(0,z35),(1,z3),(2,z3),(7,z4),(8,z3),(9,z3),(43,z3),(44,z3)],[(0,GZ),(10,CR),(100,w9)]⟩
def Kc(F:Int→Int→(Bool×Dc)→(List Int)→Option (Int×Dc×(List Int))):dm:=⟨⟨[(0,z35),(1,z3),(2,z3)],[(0,Jf),(10,CR)]⟩,⟨[(0,z3)],[(0,GZ),(10,CR)]⟩,3,1,fun x=>F x.1.2.1 x.1.2.2 x.2.1 x.2.2⟩
theorem Sd(k:Nat)(Iz:Int→Int→(Bool×Dc)→(List Int)→Option (Int×Dc×(List Int)))(h50:gH Try.prog 50 (Kc Iz)):gH Try.prog 50 (Kc (EJ.b k Iz)):=ok (cx [f39 k,⟨50,_,h50⟩,f72 k] 104 nb) Try.f50 fun h x=>Q (Q (Q (Q (Q (Q (X h) (Q (B (L Sg (fun n x=>EJ.l7 k Iz n x.1.2.1 x.1.2.2.1 x.1.2.2.2.2.1 x.1.2.2.2.2.2.1 x.1.2.2.2.2.2.2.1 x.1.2.2.2.2.2.2.2 x.2.1 x.2.2.1 x.2.2.2) k fun n7=>X h)) (X h))) (X h)) (X h)) (X h)) (X h)) (X h)
theorem Nc(k:Nat):∀d,gH Try.prog 50 (Kc (EJ.d k d))
 |0=>Cc (fun _=>rfl)
 |d+1=>let ih:=Nc k d
  Sd k (EJ.d k d) ih
theorem Sc(k:Nat):gH Try.prog 50 (Kc (EJ k)):=(Nc k k)
def f50(k:Nat):Fc Try.prog:=⟨50,_,Sc k⟩
def Qf(k:Nat):dm:=⟨⟨[(0,Em)],[]⟩,⟨[(0,z4),(1,z1)],[(100,(.a_ Ji (.agg (.cons Em (.cons Eu .nil))))),(101,CR)]⟩,1,2,fun x=>Ju k x⟩
theorem Qg(k:Nat):gH Try.prog 19 (Qf k):=ok (cx [f39 k,f50 k] 35 (fun s=>Nat.beq s 27)) Try.f19 fun h x=>X h
def f19(k:Nat):Fc Try.prog:=⟨19,_,Qg k⟩
def Un:SS:=⟨[(0,z35),(2,z3),(7,z3),(37,z3),(38,z3)],[(0,GZ),(10,CR)]⟩
def Ul(k:Nat):dm:=⟨⟨[(0,z35),(1,z3),(2,z3)],[(0,Jf),(10,CR)]⟩,⟨[(0,z3)],[(0,GZ),(10,CR)]⟩,3,1,fun x=>FO k x.1.2.1 x.1.2.2 x.2.1 x.2.2⟩
theorem Um(k:Nat):gH Try.prog 73 (Ul k):=ok (cx [f39 k] 59 nb) Try.f73 fun h x=>Q (Q (Q (Q (X h) (Q (B (L Un (fun n x=>FO.l5 k n x.1.2.1 x.1.2.2.1 x.1.2.2.2.1 x.1.2.2.2.2 x.2.1 x.2.2) k fun n5=>X h)) (X h))) (X h)) (X h)) (X h)
def f73(k:Nat):Fc Try.prog:=⟨73,_,Um k⟩
def Sk:SS:=⟨[(0,z35),(11,z20),(12,z3),(63,z3),(64,z3)],[(0,GZ),(10,CR),(100,CR)]⟩
def Si(k:Nat):dm:=⟨⟨[(0,z35),(1,z3),(2,z3),(3,z3)],[(0,Jf),(10,CR)]⟩,⟨[(0,z20),(1,z1)],[(0,GZ),(10,CR),(100,CR)]⟩,4,2,fun x=>Gn k x.1.2.1 x.1.2.2.1 x.1.2.2.2 x.2.1 x.2.2⟩
theorem Sj(k:Nat):gH Try.prog 51 (Si k):=ok (cx [f73 k] 79 nb) Try.f51 fun h x=>Q (Q (Q (Q (Q (Q (X h) (Q (B (L Sk (fun n x=>Gn.l7 k n x.1.2.2.1 x.1.2.2.2.1 x.1.2.2.2.2 x.2.1 x.2.2.1 x.2.2.2) k fun n7=>X h)) (X h))) (X h)) (X h)) (X h)) (X h)) (X h)
def f51(k:Nat):Fc Try.prog:=⟨51,_,Sj k⟩
def Sr(k:Nat):dm:=⟨⟨[(0,z35),(1,z3),(2,z3)],[(0,Jf),(10,CR)]⟩,⟨[(0,z3),(1,z1)],[(0,GZ),(10,CR)]⟩,3,2,fun x=>IG k x.1.2.1 x.1.2.2 x.2.1 x.2.2⟩
theorem Su(k:Nat):gH Try.prog 53 (Sr k):=ok (cx [f73 k] 45 nb) Try.f53 fun h x=>X h
def f53(k:Nat):Fc Try.prog:=⟨53,_,Su k⟩
def Uo(k:Nat):dm:=⟨⟨[(0,z35),(1,z3),(2,z3),(3,z3)],[(0,Jf),(10,CR)]⟩,⟨[(0,z8),(1,z1)],[(0,GZ),(10,CR)]⟩,4,2,fun x=>Kr k x.1.2.1 x.1.2.2.1 x.1.2.2.2 x.2.1 x.2.2⟩
theorem Uq(k:Nat):gH Try.prog 74 (Uo k):=ok (cx [f73 k] 37 nb) Try.f74 fun h x=>X h
def f74(k:Nat):Fc Try.prog:=⟨74,_,Uq k⟩
def Sn:SS:=⟨[(6,z4),(9,z1),(11,z1),(13,z1),(16,z33)],[(0,GZ),(10,CR),(100,Gu),(101,Gu)]⟩
def Sq:SS:=⟨[(0,z35),(1,z3),(6,z4),(9,z1),(11,z1),(13,z1),(14,z3),(15,z1),(16,z33)],[(0,GZ),(10,CR),(100,Gu),(101,Gu)]⟩
def Sl(k:Nat):dm:=⟨⟨[(0,z35),(1,z3),(2,z1)],[(0,Jf),(10,CR)]⟩,⟨[(0,z17),(1,z1)],[(0,GZ),(10,CR)]⟩,3,2,fun x=>Ga k x.1.2.1 x.1.2.2 x.2.1 x.2.2⟩
theorem Sm(k:Nat):gH Try.prog 52 (Sl k):=ok (cx [f53 k,f73 k,f74 k] 70 (fun s=>Nat.beq s 56)) Try.f52 fun h x=>Q (Q (Q (Q (Q (Q (Q (T (Q (T (X h) Sn fun x=>Ga.c11 k x.1.2.1 x.1.2.2.1 x.1.2.2.2.1 x.2.1 x.2.2.1 x.2.2.2.1 x.2.2.2.2) (X h)) Sq fun x=>Ga.c8 k x.1.2.1 x.1.2.2.2.1 x.1.2.2.2.2.1 x.1.2.2.2.2.2.1 x.1.2.2.2.2.2.2.1 x.1.2.2.2.2.2.2.2.1 x.2.1 x.2.2.1 x.2.2.2.1 x.2.2.2.2) (X h)) (X h)) (X h)) (X h)) (X h)) (X h)) (X h)
def f52(k:Nat):Fc Try.prog:=⟨52,_,Sm k⟩
def Qj:SS:=⟨[(0,z35),(8,z20),(22,Eu),(23,z3),(24,z3)],[(0,GZ),(10,CR),(100,Dx),(101,CR)]⟩
def Qh(k:Nat):dm:=⟨⟨[(0,z35),(1,z3)],[(0,Jf),(10,CR)]⟩,⟨[(0,z20),(1,z1)],[(0,GZ),(10,CR),(100,Dx)]⟩,2,2,fun x=>G6 k x.1.2 x.2.1 x.2.2⟩
theorem Qi(k:Nat):gH Try.prog 20 (Qh k):=ok (cx [f38 k,f51 k,f52 k] 62 nb) Try.f20 fun h x=>Q (Q (Q (Q (Q (X h) (Q (B (L Qj (fun n x=>G6.l6 k n x.1.2.2.2.1 x.1.2.2.2.2 x.2.1 x.2.2.1 x.2.2.2.1 x.2.2.2.2) k fun n6=>X h)) (X h))) (X h)) (X h)) (X h)) (X h)
def f20(k:Nat):Fc Try.prog:=⟨20,_,Qi k⟩
def Qm:SS:=⟨[(7,z3)],[(0,Fz),(10,FB),(11,CR)]⟩
def Qk(k:Nat):dm:=⟨⟨[(0,z35),(1,z3),(2,z3)],[(0,Fz),(10,FB),(11,CR)]⟩,⟨[(0,z3)],[(0,Fz),(10,FB),(11,CR)]⟩,3,1,fun x=>FN k x.1.2.1 x.1.2.2 x.2.1 x.2.2.1 x.2.2.2⟩
theorem Ql(k:Nat):gH Try.prog 21 (Qk k):=ok (cx [f53 k] 25 nb) Try.f21 fun h x=>Q (Q (Q (T (X h) Qm fun x=>FN.c4 k x.1 x.2.1 x.2.2.1 x.2.2.2) (X h)) (X h)) (X h)
def Lf(k:Nat):Fc Try.prog:=⟨21,_,Ql k⟩
def Qp:SS:=⟨[(9,z20)],[(0,Fz),(10,FB),(11,CR),(100,CR)]⟩
def Qn(k:Nat):dm:=⟨⟨[(0,z35),(1,z3),(2,z3),(3,z3)],[(0,Fz),(10,FB),(11,CR)]⟩,⟨[(0,z20)],[(0,Fz),(10,FB),(11,CR),(100,CR)]⟩,4,1,fun x=>GV k x.1.2.1 x.1.2.2.1 x.1.2.2.2 x.2.1 x.2.2.1 x.2.2.2⟩
theorem Qo(k:Nat):gH Try.prog 22 (Qn k):=ok (cx [f51 k] 28 nb) Try.f22 fun h x=>Q (Q (Q (T (X h) Qp fun x=>GV.c4 k x.2.1 x.2.2.1 x.2.2.2.1 x.2.2.2.2) (X h)) (X h)) (X h)
def Lg(k:Nat):Fc Try.prog:=⟨22,_,Qo k⟩
def UO(k:Nat):dm:=⟨⟨[(0,Dm)],[]⟩,⟨[(0,z20)],[(100,CR)]⟩,1,1,fun x=>Js k x⟩
theorem UQ(k:Nat):gH Try.prog 81 (UO k):=ok (cx [f38 k,f40 k] 8 nb) Try.f81 fun h x=>X h
def f81(k:Nat):Fc Try.prog:=⟨81,_,UQ k⟩
def UN:SS:=⟨[(0,Dm),(1,z3),(5,z20),(6,Eu),(7,z3)],[(100,CR),(101,CR)]⟩
def UL(k:Nat):dm:=⟨⟨[(0,Dm),(1,z3)],[]⟩,⟨[(0,z20)],[(100,CR)]⟩,2,1,fun x=>Gb k x.1 x.2⟩
theorem UM(k:Nat):gH Try.prog 80 (UL k):=ok (cx [f39 k,f68 k,f81 k] 41 nb) Try.f80 fun h x=>Q (Q (Q (Q (Q (X h) (Q (B (L UN (fun n x=>Gb.l6 k n x.1.1 x.1.2.1 x.1.2.2.2.2 x.2.1 x.2.2) k fun n6=>X h)) (X h))) (X h)) (X h)) (X h)) (X h)
def f80(k:Nat):Fc Try.prog:=⟨80,_,UM k⟩
def TH:SS:=⟨[(0,Dm),(5,z20),(11,Eu),(12,z3),(13,z3)],[(100,Gf),(101,CR)]⟩
def TF(k:Nat):dm:=⟨⟨[(0,Dm),(1,z3)],[]⟩,⟨[(0,z20)],[(100,Gf)]⟩,2,1,fun x=>FK k x.1 x.2⟩
theorem TG(k:Nat):gH Try.prog 65 (TF k):=ok (cx [f80 k] 27 nb) Try.f65 fun h x=>Q (Q (Q (X h) (Q (B (L TH (fun n x=>FK.l3 k n x.1.1 x.1.2.2.2.1 x.1.2.2.2.2 x.2.1 x.2.2) k fun n3=>X h)) (X h))) (X h)) (X h)
def f65(k:Nat):Fc Try.prog:=⟨65,_,TG k⟩
def UW:SS:=⟨[(0,Dm),(7,z3),(8,z3),(17,z20),(18,z3),(19,z3)],[(100,CR)]⟩
def UU:SS:=⟨[(0,Dm),(7,z3),(8,z3),(10,z3),(17,z20),(18,z3),(19,z3)],[(100,CR)]⟩
def UX:SS:=⟨[(0,Dm),(7,z3),(8,z3),(17,z20),(18,z3),(19,z3)],[(100,CR)]⟩
def UR(k:Nat):dm:=⟨⟨[(0,Dm),(1,z3)],[]⟩,⟨[(0,z3),(1,z3)],[]⟩,2,2,fun x=>EI k x.1 x.2⟩
theorem UT(k:Nat):gH Try.prog 82 (UR k):=ok (cx [f80 k] 42 nb) Try.f82 fun h x=>Q (Q (Q (Q (Q (X h) (Q (B (L UX (fun n x=>EI.l6 k n x.1.1 x.1.2.1 x.1.2.2.1 x.1.2.2.2.2.1 x.1.2.2.2.2.2 x.2) k fun n6=>Q (Q (Q (T (X h) UW fun x=>EI.c12 k (EI.l6 k n6) x.1.1 x.1.2.1 x.1.2.2.1 x.1.2.2.2.2.1 x.1.2.2.2.2.2 x.2) (B (Q (Q (T (X h) UU fun x=>EI.c10 k (EI.l6 k n6) x.1.1 x.1.2.1 x.1.2.2.1 x.1.2.2.2.1 x.1.2.2.2.2.2.1 x.1.2.2.2.2.2.2 x.2) (X h)) (X h)))) (X h)) (X h))) (X h))) (X h)) (X h)) (X h)) (X h)
def f82(k:Nat):Fc Try.prog:=⟨82,_,UT k⟩
def TK(k:Nat):dm:=⟨⟨[(0,Dm),(1,z3)],[]⟩,⟨[(0,(.agg v16)),(1,z1)],[]⟩,2,2,fun x=>I_ k x.1 x.2⟩
theorem TL(k:Nat):gH Try.prog 67 (TK k):=ok (cx [f39 k,f81 k,f82 k] 35 nb) Try.f67 fun h x=>X h
def f67(k:Nat):Fc Try.prog:=⟨67,_,TL k⟩
def Ut:SS:=⟨[(0,z52),(1,z52),(12,z3),(13,z3)],[]⟩
def Ur(k:Nat):dm:=⟨⟨[(0,z52),(1,z52)],[]⟩,⟨[(0,z1)],[]⟩,2,1,fun x=>G_ k x.1 x.2⟩
theorem Us(k:Nat):gH Try.prog 75 (Ur k):=ok (cx [] 26 nb) Try.f75 fun h x=>Q (Q (Q (X h) (Q (B (L Ut (fun n x=>G_.l4 k n x.1 x.2.1 x.2.2.1 x.2.2.2) k fun n4=>X h)) (X h))) (X h)) (X h)
def f75(k:Nat):Fc Try.prog:=⟨75,_,Us k⟩
def SG:SS:=⟨[(8,z4),(9,z33)],[(0,Fz),(10,FB),(11,CR),(60,Dx),(100,JX),(101,JY),(102,CR),(103,CR)]⟩
def SF:SS:=⟨[(0,z35),(8,z4),(9,z33),(10,z3)],[(0,Fz),(10,FB),(11,CR),(60,Dx),(100,JX),(101,JY),(102,CR),(103,CR)]⟩
def SA:SS:=⟨[(0,z35),(8,z4),(9,z33),(10,z3)],[(0,Fz),(10,FB),(11,CR),(60,Dx),(100,JX),(101,JY),(102,CR),(103,CR)]⟩
def SE:SS:=⟨[(0,z35),(8,z4),(9,z33),(10,z3)],[(0,Fz),(10,FB),(11,CR),(60,Dx),(100,JX),(101,JY),(102,CR),(103,CR)]⟩
def Sz:SS:=⟨[(0,z35),(1,(.h 60)),(3,z3),(8,z4),(9,z33),(10,z3),(11,z25),(15,z45)],[(0,Fz),(10,FB),(11,CR),(60,Dx),(100,KQ),(101,JZ),(102,CO),(103,Gf),(104,CR),(105,CR)]⟩
def SC:SS:=⟨[(0,z35),(1,(.h 60)),(3,z3),(8,z4),(9,z33),(10,z3),(11,z25),(15,z45),(80,(.h 104)),(81,z3),(82,z3)],[(0,Fz),(10,FB),(11,CR),(60,Dx),(100,JZ),(101,KT),(102,CO),(103,Gf),(104,CR),(105,CR),(106,CR)]⟩
def Sy:SS:=⟨[(0,z35),(1,(.h 60)),(3,z3),(8,z4),(9,z33),(10,z3),(11,z25),(14,z3),(54,z45),(55,z3),(56,z3)],[(0,Fz),(10,FB),(11,CR),(60,Dx),(100,KQ),(101,JZ),(102,CO),(103,CR),(104,CR),(105,CR)]⟩
def SH:SS:=⟨[(0,z35),(1,(.h 60)),(3,z3),(8,z4),(9,z33),(10,z3),(11,z25),(54,z45),(55,z3),(56,z3)],[(0,Fz),(10,FB),(11,CR),(60,Dx),(100,KQ),(101,JZ),(102,CO),(103,CR),(104,CR),(105,CR)]⟩
def Sw(k:Nat):dm:=⟨⟨[(0,z35),(1,(.h 60)),(2,z3),(3,z3)],[(0,Fz),(10,FB),(11,CR),(60,Dx)]⟩,⟨[(0,z66)],[(0,Fz),(10,FB),(11,CR),(60,Dx),(100,CR)]⟩,4,1,fun x=>Dl k x.1.2.2.1 x.1.2.2.2 x.2.1 x.2.2.1 x.2.2.2.1 x.2.2.2.2⟩
theorem SB(k:Nat):gH Try.prog 54 (Sw k):=ok (cx [Lf k,Lg k,f65 k,f67 k,f73 k,f75 k] 169 nb) Try.f54 fun h x=>Q (Q (Q (Q (Q (Q (Q (Q (Q (T (Q (Q (Q (T (Q (Q (T (X h) SG fun x=>Dl.c28 k x.2.1 x.2.2.1 x.2.2.2.1 x.2.2.2.2.1 x.2.2.2.2.2.1 x.2.2.2.2.2.2.1 x.2.2.2.2.2.2.2.1 x.2.2.2.2.2.2.2.2) (X h)) (X h)) SF fun x=>Dl.c24 k x.1.2.2.2 x.2.1 x.2.2.1 x.2.2.2.1 x.2.2.2.2.1 x.2.2.2.2.2.1 x.2.2.2.2.2.2.1 x.2.2.2.2.2.2.2.1 x.2.2.2.2.2.2.2.2) (Q (X h) (K h SA (fun x=>Dl.d22 k x.1.2.2.2 x.2.1 x.2.2.1 x.2.2.2.1 x.2.2.2.2.1 x.2.2.2.2.2.1 x.2.2.2.2.2.2.1 x.2.2.2.2.2.2.2.1 x.2.2.2.2.2.2.2.2) [[0,1,3,2,4,5],[0,1,3,4,2,5]] (O (fun x=>by kernel_rfl) (O (fun x=>by kernel_rfl) (N)))))) (X h)) (X h)) SE fun x=>Dl.c20 k x.1.2.2.2 x.2.1 x.2.2.1 x.2.2.2.1 x.2.2.2.2.1 x.2.2.2.2.2.1 x.2.2.2.2.2.2.1 x.2.2.2.2.2.2.2.1 x.2.2.2.2.2.2.2.2) (Q (X h) (K h Sz (fun x=>Dl.d18 k x.1.2.2.1 x.1.2.2.2.2.2.1 x.2.1 x.2.2.1 x.2.2.2.1 x.2.2.2.2.1 x.2.2.2.2.2.1 x.2.2.2.2.2.2.1 x.2.2.2.2.2.2.2.1 x.2.2.2.2.2.2.2.2.1 x.2.2.2.2.2.2.2.2.2.1 x.2.2.2.2.2.2.2.2.2.2) [[0,1,3,2,4,5,6,7,8,9,10,11,12,13,14,15,16,17,18,19],[0,1,3,4,2,5,6,7,8,9,10,11,12,13,14,15,16,17,18,19]] (O (fun x=>by kernel_rfl) (O (fun x=>by kernel_rfl) (N)))))) (Q (B (L SC (fun n x=>Dl.Jc k n x.1.2.2.1 x.1.2.2.2.2.2.1 x.1.2.2.2.2.2.2.2.2.2.1 x.1.2.2.2.2.2.2.2.2.2.2 x.2.1 x.2.2.1 x.2.2.2.1 x.2.2.2.2.1 x.2.2.2.2.2.1 x.2.2.2.2.2.2.1 x.2.2.2.2.2.2.2.1 x.2.2.2.2.2.2.2.2.1 x.2.2.2.2.2.2.2.2.2.1 x.2.2.2.2.2.2.2.2.2.2.1 x.2.2.2.2.2.2.2.2.2.2.2) k fun n14=>X h)) (X h))) (X h)) (Q (B (L SH (fun n x=>Dl.l8 k n x.1.2.2.1 x.1.2.2.2.2.2.1 x.1.2.2.2.2.2.2.2.2.1 x.1.2.2.2.2.2.2.2.2.2 x.2.1 x.2.2.1 x.2.2.2.1 x.2.2.2.2.1 x.2.2.2.2.2.1 x.2.2.2.2.2.2.1 x.2.2.2.2.2.2.2.1 x.2.2.2.2.2.2.2.2.1 x.2.2.2.2.2.2.2.2.2.1 x.2.2.2.2.2.2.2.2.2.2) k fun n8=>Q (Q (Q (X h) (B (Q (K h Sy (fun x=>Dl.d10 k (Dl.l8 k n8) x.1.2.2.1 x.1.2.2.2.2.2.1 x.1.2.2.2.2.2.2.2.1 x.1.2.2.2.2.2.2.2.2.2.1 x.1.2.2.2.2.2.2.2.2.2.2 x.2.1 x.2.2.1 x.2.2.2.1 x.2.2.2.2.1 x.2.2.2.2.2.1 x.2.2.2.2.2.2.1 x.2.2.2.2.2.2.2.1 x.2.2.2.2.2.2.2.2.1 x.2.2.2.2.2.2.2.2.2.1 x.2.2.2.2.2.2.2.2.2.2) [[0,1,2,3,4,9,5,6,7,8,10,11,12,13,14,15,16]] (O (fun x=>by kernel_rfl) (N))) (X h)))) (X h)) (X h))) (X h))) (X h)) (X h)) (X h)) (X h)) (X h)
def Sv(k:Nat):Fc Try.prog:=⟨54,_,SB k⟩
def Qt:SS:=⟨[(6,z4),(7,z33)],[(0,Fz),(10,FB),(11,CR),(60,Dx),(100,(.box FZ (.agg (.cons z3 (.cons z34 .nil))))),(101,(.box FZ (.agg v50))),(102,IQ),(103,IQ)]⟩
def Qu:SS:=⟨[(0,z35),(1,(.h 60)),(6,z4),(7,z33),(18,z34),(19,z3),(20,z3)],[(0,Fz),(10,FB),(11,CR),(60,Dx),(100,(.box FZ (.agg v50))),(101,(.box FZ (.agg v46))),(102,CR),(103,IQ),(104,IQ)]⟩
def Qr(k:Nat):dm:=⟨⟨[(0,z35),(1,(.h 60)),(2,z3)],[(0,Fz),(10,FB),(11,CR),(60,Dx)]⟩,⟨[(0,(.agg (.cons z3 (.cons z20 .nil))))],[(0,Fz),(10,FB),(11,CR),(60,Dx),(100,IQ)]⟩,3,1,fun x=>F3 k x.1.2.2 x.2.1 x.2.2.1 x.2.2.2.1 x.2.2.2.2⟩
theorem Qs(k:Nat):gH Try.prog 23 (Qr k):=ok (cx [Lf k,Lg k,Sv k] 49 nb) Try.f23 fun h x=>Q (Q (Q (Q (T (X h) Qt fun x=>F3.c11 k x.2.1 x.2.2.1 x.2.2.2.1 x.2.2.2.2.1 x.2.2.2.2.2.1 x.2.2.2.2.2.2.1 x.2.2.2.2.2.2.2.1 x.2.2.2.2.2.2.2.2) (Q (B (L Qu (fun n x=>F3.l4 k n x.1.2.2.2.2.2.1 x.1.2.2.2.2.2.2 x.2.1 x.2.2.1 x.2.2.2.1 x.2.2.2.2.1 x.2.2.2.2.2.1 x.2.2.2.2.2.2.1 x.2.2.2.2.2.2.2.1 x.2.2.2.2.2.2.2.2.1 x.2.2.2.2.2.2.2.2.2) k fun n4=>X h)) (X h))) (X h)) (X h)) (X h)
def Qq(k:Nat):Fc Try.prog:=⟨23,_,Qs k⟩
def TW:SS:=⟨[(2,z4),(6,z33),(7,z25),(36,z45),(37,z3),(38,z3)],[(100,Mh),(101,Oh),(102,(.box K3 (.agg (.cons (.p 108) (.cons z1 .nil))))),(103,CR),(104,Dx),(105,FI),(106,Dx),(107,FI),(108,(.box Ji (.agg (.cons Em (.cons (.h 109) .nil))))),(109,CR)]⟩
def TU(k:Nat):dm:=⟨⟨[(0,Em)],[]⟩,⟨[(0,z51),(1,z1)],[(100,Dx),(101,FI)]⟩,1,2,fun x=>Gm k x⟩
theorem TV(k:Nat):gH Try.prog 6 (TU k):=ok (cx [f9 k,f19 k,f20 k,Lf k,Lg k,Qq k] 65 nb) Try.f6 fun h x=>Q (Q (Q (Q (Q (Q (Q (Q (Q (X h) (Q (B (L TW (fun n x=>Gm.EA k n x.1.2.2.2.2.1 x.1.2.2.2.2.2 x.2.1 x.2.2.1 x.2.2.2.1 x.2.2.2.2.1 x.2.2.2.2.2.1 x.2.2.2.2.2.2.1 x.2.2.2.2.2.2.2.1 x.2.2.2.2.2.2.2.2.1 x.2.2.2.2.2.2.2.2.2.1 x.2.2.2.2.2.2.2.2.2.2) k fun n11=>X h)) (X h))) (X h)) (X h)) (X h)) (X h)) (X h)) (X h)) (X h)) (X h)
def f6(k:Nat):Fc Try.prog:=⟨6,_,TV k⟩
def Tf:SS:=⟨[(0,Em),(1,z3),(5,z3),(6,z3)],[]⟩
def Kg(F:(List Cu)→Int→Option Int):dm:=⟨⟨[(0,Em),(1,z3)],[]⟩,⟨[(0,z3)],[]⟩,2,1,fun x=>F x.1 x.2⟩
theorem Te(k:Nat)(IC:(List Cu)→Int→Option Int)(VX:gH Try.prog 59 (Kg IC)):gH Try.prog 59 (Kg (EC.b k IC)):=ok (cx [⟨59,_,VX⟩] 22 nb) Try.f59 fun h x=>Q (Q (Q (X h) (Q (B (L Tf (fun n x=>EC.l3 k IC n x.1 x.2.1 x.2.2.1 x.2.2.2) k fun n3=>X h)) (X h))) (X h)) (X h)
theorem Ng(k:Nat):∀d,gH Try.prog 59 (Kg (EC.d k d))
 |0=>Cc (fun _=>rfl)
 |d+1=>let ih:=Ng k d
  Te k (EC.d k d) ih
theorem Td(k:Nat):gH Try.prog 59 (Kg (EC k)):=(Ng k k)
def f59(k:Nat):Fc Try.prog:=⟨59,_,Td k⟩
def SY:SS:=⟨[(0,Em),(1,z3),(2,z3),(7,z3),(8,z3)],[]⟩
def SV(k:Nat):dm:=⟨⟨[(0,Em),(1,z3),(2,z3)],[]⟩,⟨[(0,z3)],[]⟩,3,1,fun x=>DT k x.1 x.2.1 x.2.2⟩
theorem SX(k:Nat):gH Try.prog 57 (SV k):=ok (cx [f59 k] 37 nb) Try.f57 fun h x=>Q (Q (Q (Q (X h) (Q (B (L SY (fun n x=>DT.l5 k n x.1 x.2.1 x.2.2.1 x.2.2.2.1 x.2.2.2.2) k fun n5=>X h)) (X h))) (X h)) (X h)) (X h)
def f57(k:Nat):Fc Try.prog:=⟨57,_,SX k⟩
def QA(k:Nat):dm:=⟨⟨[(0,Em),(1,z3),(2,z3)],[]⟩,⟨[(0,z3),(1,z1)],[]⟩,3,2,fun x=>FW k x.1 x.2.1 x.2.2⟩
theorem QB(k:Nat):gH Try.prog 26 (QA k):=ok (cx [f57 k] 36 nb) Try.f26 fun h x=>X h
def f26(k:Nat):Fc Try.prog:=⟨26,_,QB k⟩
def Ux(k:Nat):dm:=⟨⟨[(0,Em),(1,z3),(2,z3)],[]⟩,⟨[(0,z7),(1,z1)],[]⟩,3,2,fun x=>JD k x.1 x.2.1 x.2.2⟩
theorem Uy(k:Nat):gH Try.prog 77 (Ux k):=ok (cx [f57 k] 28 nb) Try.f77 fun h x=>X h
def f77(k:Nat):Fc Try.prog:=⟨77,_,Uy k⟩
def Ta:SS:=⟨[(0,Em),(1,z3),(6,z4),(9,z1),(11,z1),(13,z1),(15,z1),(16,z33)],[(100,Gu),(101,Gu)]⟩
def Tc:SS:=⟨[(0,Em),(1,z3),(6,z4),(9,z1),(11,z1),(12,z3),(13,z1),(15,z1),(16,z33)],[(100,Gu),(101,Gu)]⟩
def S9(k:Nat):dm:=⟨⟨[(0,Em),(1,z3),(2,z1)],[]⟩,⟨[(0,z17),(1,z1)],[]⟩,3,2,fun x=>ET k x.1 x.2.1 x.2.2⟩
theorem S_(k:Nat):gH Try.prog 58 (S9 k):=ok (cx [f26 k,f57 k,f77 k] 82 nb) Try.f58 fun h x=>Q (Q (Q (Q (Q (Q (Q (T (Q (T (X h) Ta fun x=>ET.c12 k x.1.1 x.1.2.1 x.1.2.2.2.1 x.1.2.2.2.2.1 x.1.2.2.2.2.2.1 x.1.2.2.2.2.2.2.1 x.2.1 x.2.2) (X h)) Tc fun x=>ET.c9 k x.1.1 x.1.2.1 x.1.2.2.2.1 x.1.2.2.2.2.1 x.1.2.2.2.2.2.1 x.1.2.2.2.2.2.2.1 x.1.2.2.2.2.2.2.2.1 x.2.1 x.2.2) (X h)) (X h)) (X h)) (X h)) (X h)) (X h)) (X h)
def f58(k:Nat):Fc Try.prog:=⟨58,_,S_ k⟩
def Qz:SS:=⟨[(0,Em),(8,z20),(9,z3),(10,Eu),(11,z3),(12,z3)],[(100,Dx),(101,Dx)]⟩
def Qx(k:Nat):dm:=⟨⟨[(0,Em),(1,z3),(2,z3)],[]⟩,⟨[(0,z20),(1,z1)],[(100,Dx)]⟩,3,2,fun x=>FH k x.1 x.2.1 x.2.2⟩
theorem Qy(k:Nat):gH Try.prog 25 (Qx k):=ok (cx [f57 k,f58 k,f59 k,f60 k] 74 nb) Try.f25 fun h x=>Q (Q (Q (Q (Q (Q (Q (X h) (Q (B (L Qz (fun n x=>FH.l8 k n x.1.1 x.1.2.2.1 x.1.2.2.2.2.1 x.1.2.2.2.2.2 x.2.1 x.2.2) k fun n8=>X h)) (X h))) (X h)) (X h)) (X h)) (X h)) (X h)) (X h)
def f25(k:Nat):Fc Try.prog:=⟨25,_,Qy k⟩
def QE:SS:=⟨[(0,Em),(10,z20),(11,z3),(12,z3),(13,z3)],[(100,CR)]⟩
def QC(k:Nat):dm:=⟨⟨[(0,Em),(1,z3),(2,z3),(3,z3)],[]⟩,⟨[(0,z20),(1,z1)],[(100,CR)]⟩,4,2,fun x=>Fg k x.1 x.2.1 x.2.2.1 x.2.2.2⟩
theorem QD(k:Nat):gH Try.prog 27 (QC k):=ok (cx [f57 k,f59 k] 66 nb) Try.f27 fun h x=>Q (Q (Q (Q (Q (Q (X h) (Q (B (L QE (fun n x=>Fg.l7 k n x.1.1 x.1.2.2.1 x.1.2.2.2.1 x.1.2.2.2.2 x.2) k fun n7=>X h)) (X h))) (X h)) (X h)) (X h)) (X h)) (X h)
def f27(k:Nat):Fc Try.prog:=⟨27,_,QD k⟩
def Tu:SS:=⟨[(0,Em),(1,z3),(2,z23),(8,z20),(9,z3)],[(100,CR)]⟩
def Tq(k:Nat):dm:=⟨⟨[(0,Em),(1,z3),(2,z23)],[]⟩,⟨[(0,z20),(1,z1)],[(100,CR)]⟩,3,2,fun x=>Ir k x.1 x.2.1 x.2.2⟩
theorem Tt(k:Nat):gH Try.prog 61 (Tq k):=ok (cx [f26 k] 37 nb) Try.f61 fun h x=>Q (Q (Q (X h) (Q (B (L Tu (fun n x=>Ir.l3 k n x.1.1 x.1.2.1 x.1.2.2.1 x.1.2.2.2.2 x.2) k fun n3=>X h)) (X h))) (X h)) (X h)
def f61(k:Nat):Fc Try.prog:=⟨61,_,Tt k⟩
def QO:SS:=⟨[(8,z4),(20,z33)],[(100,JX),(101,JY),(102,CR),(103,CR)]⟩
def QN:SS:=⟨[(0,Em),(8,z4),(10,z33),(11,z3),(14,z34),(20,(.p 103)),(21,z3)],[(100,KQ),(101,JZ),(102,CR),(103,KT),(104,CR),(105,CR),(106,CR)]⟩
def QM:SS:=⟨[(0,Em),(3,z3),(8,z4),(10,z33),(11,z3),(12,z34),(14,z45),(16,(.h 104)),(18,(.h 105)),(19,z3)],[(100,KT),(101,Ol),(102,CR),(103,CR),(104,CR),(105,Gf),(106,CR),(107,CR)]⟩
def QK:SS:=⟨[(0,Em),(2,Dm),(3,z3),(8,z4),(10,z33),(11,z3),(12,z34),(13,z1),(14,z45),(15,z1),(16,(.h 104)),(17,z1),(18,(.h 105))],[(100,KT),(101,Ol),(102,CR),(103,CR),(104,CR),(105,Gf),(106,CR),(107,CR)]⟩
def QJ(k:Nat):dm:=⟨⟨[(0,Em),(1,z3),(2,Dm),(3,z3)],[]⟩,⟨[(0,z66),(1,z1)],[(100,CR)]⟩,4,2,fun x=>CZ k x.1 x.2.1 x.2.2.1 x.2.2.2⟩
theorem QL(k:Nat):gH Try.prog 29 (QJ k):=ok (cx [f26 k,f27 k,f28 k,f57 k,f61 k,f62 k] 179 nb) Try.f29 fun h x=>Q (Q (Q (Q (Q (Q (Q (Q (Q (Q (Q (Q (Q (T (X h) QO fun x=>CZ.J_ k x.2.1 x.2.2.1 x.2.2.2.1 x.2.2.2.2) (X h)) (Q (B (L QN (fun n x=>CZ.Gp k n x.1.1 x.1.2.2.2.1 x.1.2.2.2.2.2.2 x.2.1 x.2.2.1 x.2.2.2.1 x.2.2.2.2.1 x.2.2.2.2.2.1 x.2.2.2.2.2.2.1 x.2.2.2.2.2.2.2) k fun n18=>X h)) (X h))) (X h)) (Q (B (L QM (fun n x=>CZ.C_ k n x.1.1 x.1.2.1 x.1.2.2.2.2.1 x.1.2.2.2.2.2.2.2.2.2 x.2.1 x.2.2.1 x.2.2.2.1 x.2.2.2.2.1 x.2.2.2.2.2.1 x.2.2.2.2.2.2.1 x.2.2.2.2.2.2.2.1 x.2.2.2.2.2.2.2.2) k fun n12=>X h)) (X h))) (Q (X h) (K h QK (fun x=>CZ.d9 k x.1.1 x.1.2.1 x.1.2.2.1 x.1.2.2.2.2.2.1 x.1.2.2.2.2.2.2.2.1 x.1.2.2.2.2.2.2.2.2.2.1 x.1.2.2.2.2.2.2.2.2.2.2.2.1 x.2.1 x.2.2.1 x.2.2.2.1 x.2.2.2.2.1 x.2.2.2.2.2.1 x.2.2.2.2.2.2.1 x.2.2.2.2.2.2.2.1 x.2.2.2.2.2.2.2.2) [[0,1,2,3,4,5,6,7,8,9,10,11,12,13,14,15,16,17,18,19,21,22,24,20,23,25,26,27,28,29,30,31,32,33,34,35,36,37,38,39,40,41,42,43,44,45,46],[0,1,2,3,4,5,6,7,8,9,10,11,12,13,14,15,16,17,18,19,21,22,24,23,20,25,26,27,28,29,30,31,32,33,34,35,36,37,38,39,40,41,42,43,44,45,46]] (O (fun x=>by kernel_rfl) (O (fun x=>by kernel_rfl) (N)))))) (X h)) (X h)) (X h)) (X h)) (X h)) (X h)) (X h)) (X h)
def f29(k:Nat):Fc Try.prog:=⟨29,_,QL k⟩
def UK:SS:=⟨[(0,Em),(2,z4),(4,z33),(5,z34),(9,z45),(11,(.p 104)),(12,z3),(15,(.h 105)),(17,(.p 106)),(18,z3)],[(100,Om),(101,(.box y27 (.agg (.cons (.h 109) (.cons z3 (.cons (.h 110) .nil)))))),(102,Dx),(103,CR),(104,(.box y27 (.agg (.cons z34 (.cons z3 (.cons (.h 111) .nil)))))),(105,CR),(106,(.box FZ (.agg (.cons z3 (.cons (.h 112) .nil))))),(107,Dx),(108,FI),(109,Dx),(110,FI),(111,FI),(112,IQ)]⟩
def UJ:SS:=⟨[(0,Em),(2,z4),(4,z33),(5,z34),(9,z45),(11,(.p 104)),(12,z3)],[(100,Oj),(101,Om),(102,Dx),(103,CR),(104,(.box y27 (.agg (.cons z34 v42)))),(105,Dx),(106,FI),(107,Dx),(108,FI),(109,FI)]⟩
def UH(k:Nat):dm:=⟨⟨[(0,Em)],[]⟩,⟨[(0,z51),(1,z1)],[(100,Dx),(101,FI)]⟩,1,2,fun x=>E_ k x⟩
theorem UI(k:Nat):gH Try.prog 7 (UH k):=ok (cx [f24 k,f25 k,f26 k,f27 k,f28 k,f29 k,f30 k] 133 nb) Try.f7 fun h x=>Q (Q (Q (Q (Q (Q (Q (Q (Q (X h) (Q (B (L UJ (fun n x=>E_.EA k n x.1.1 x.1.2.2.2.2.2.2 x.2.1 x.2.2.1 x.2.2.2.1 x.2.2.2.2.1 x.2.2.2.2.2.1 x.2.2.2.2.2.2.1 x.2.2.2.2.2.2.2.1 x.2.2.2.2.2.2.2.2.1 x.2.2.2.2.2.2.2.2.2.1 x.2.2.2.2.2.2.2.2.2.2) k fun n11=>Q (Q (X h) (B (Q (Q (Q (Q (Q (X h) (Q (B (L UK (fun n x=>E_.GX k (E_.EA k n11) n x.1.1 x.1.2.2.2.2.2.2.1 x.1.2.2.2.2.2.2.2.2.2 x.2.1 x.2.2.1 x.2.2.2.1 x.2.2.2.2.1 x.2.2.2.2.2.1 x.2.2.2.2.2.2.1 x.2.2.2.2.2.2.2.1 x.2.2.2.2.2.2.2.2.1 x.2.2.2.2.2.2.2.2.2.1 x.2.2.2.2.2.2.2.2.2.2.1 x.2.2.2.2.2.2.2.2.2.2.2.1 x.2.2.2.2.2.2.2.2.2.2.2.2.1 x.2.2.2.2.2.2.2.2.2.2.2.2.2) k fun n19=>X h)) (X h))) (X h)) (X h)) (X h)) (X h)))) (X h))) (X h))) (X h)) (X h)) (X h)) (X h)) (X h)) (X h)) (X h)) (X h)
def f7(k:Nat):Fc Try.prog:=⟨7,_,UI k⟩
def Q6:SS:=⟨[(5,z20),(13,z69),(14,z3),(15,z3)],[(100,w32)]⟩
def Q4(k:Nat):dm:=⟨⟨[(0,z3),(1,z69)],[]⟩,⟨[(0,z20)],[(100,w32)]⟩,2,1,fun x=>F_ k x.1 x.2⟩
theorem Q5(k:Nat):gH Try.prog 32 (Q4 k):=ok (cx [] 24 nb) Try.f32 fun h x=>Q (Q (Q (X h) (Q (B (L Q6 (fun n x=>F_.l3 k n x.1.2.1 x.1.2.2.1 x.1.2.2.2 x.2) k fun n3=>X h)) (X h))) (X h)) (X h)
def f32(k:Nat):Fc Try.prog:=⟨32,_,Q5 k⟩
def Q_:SS:=⟨[(7,z20),(22,z69),(23,z3),(24,z3)],[(100,w32)]⟩
def Q9:SS:=⟨[(2,z69),(7,z20)],[(100,w32)]⟩
def Q7(k:Nat):dm:=⟨⟨[(0,z3),(1,z3),(2,z69)],[]⟩,⟨[(0,z20)],[(100,w32)]⟩,3,1,fun x=>Fe k x.1 x.2.1 x.2.2⟩
theorem Q8(k:Nat):gH Try.prog 33 (Q7 k):=ok (cx [] 33 nb) Try.f33 fun h x=>Q (Q (Q (T (Q (X h) (Q (B (L Q_ (fun n x=>Fe.l5 k n x.1.2.1 x.1.2.2.1 x.1.2.2.2 x.2) k fun n5=>X h)) (X h))) Q9 fun x=>Fe.c4 k x.1.1 x.2) (X h)) (X h)) (X h)
def f33(k:Nat):Fc Try.prog:=⟨33,_,Q8 k⟩
def Ra(k:Nat):dm:=⟨⟨[(0,z3),(1,z3)],[]⟩,⟨[(0,z8)],[]⟩,2,1,fun x=>GU k x.1 x.2⟩
theorem Rb(k:Nat):gH Try.prog 34 (Ra k):=ok (cx [] 8 nb) Try.f34 fun h x=>X h
def f34(k:Nat):Fc Try.prog:=⟨34,_,Rb k⟩
def Rc(k:Nat):dm:=⟨⟨[(0,z3),(1,z3)],[]⟩,⟨[(0,z8)],[]⟩,2,1,fun x=>Hr k x.1 x.2⟩
theorem Re(k:Nat):gH Try.prog 35 (Rc k):=ok (cx [] 8 nb) Try.f35 fun h x=>X h
def f35(k:Nat):Fc Try.prog:=⟨35,_,Re k⟩
def TI(k:Nat):dm:=⟨⟨[(0,z3),(1,z7)],[]⟩,⟨[(0,z8)],[]⟩,2,1,fun x=>Jt k x.1 x.2⟩
theorem TJ(k:Nat):gH Try.prog 66 (TI k):=ok (cx [] 8 nb) Try.f66 fun h x=>X h
def f66(k:Nat):Fc Try.prog:=⟨66,_,TJ k⟩
def QZ:SS:=⟨[(3,z4),(13,Eu)],[(100,Ii),(101,(.sh 24 Hl))]⟩
def QX:SS:=⟨[(3,z4),(5,Eu),(8,z34),(11,(.p 103))],[(100,Ii),(101,FY),(102,FY),(103,CO)]⟩
def Q3:SS:=⟨[(0,Dm),(3,z4),(5,Eu),(8,z34),(33,z45),(34,z3),(35,z3)],[(100,Ii),(101,FY),(102,FY),(103,Gf)]⟩
def Q0:SS:=⟨[(0,Dm),(3,z4),(5,Eu),(16,z23),(17,z3),(18,z3)],[(100,Ii),(101,FY)]⟩
def QW(k:Nat):dm:=⟨⟨[(0,Dm),(1,(.ro y22))],[]⟩,⟨[(0,z20)],[(100,w32)]⟩,2,1,fun x=>Er k x.1 x.2⟩
theorem QY(k:Nat):gH Try.prog 31 (QW k):=ok (cx [f32 k,f33 k,f34 k,f35 k,f65 k,f66 k,f67 k] 98 nb) Try.f31 fun h x=>Q (Q (Q (Q (Q (Q (Q (Q (T (X h) QZ fun x=>Er.c17 k x.2.1 x.2.2) (X h)) (A h QX (fun x=>Er.d14 k x.2.1 x.2.2.1 x.2.2.2.1 x.2.2.2.2) [3,9,13,17,21,25] [(0,[]),(1,[]),(4,[]),(6,[]),(10,[]),(11,[]),(14,[]),(15,[]),(18,[]),(19,[]),(22,[]),(23,[]),(2,[]),(5,[3]),(7,[3]),(8,[3]),(12,[3,9]),(16,[3,9,13]),(20,[3,9,13,17]),(24,[3,9,13,17,21]),(3,[3,9,13,17,21,25]),(9,[9,13,17,21,25]),(13,[13,17,21,25]),(17,[17,21,25]),(21,[21,25]),(25,[25]),(26,[]),(27,[])])) (X h)) (Q (B (L Q3 (fun n x=>Er.l9 k n x.1.1 x.1.2.2.2.2.2.1 x.1.2.2.2.2.2.2 x.2.1 x.2.2.1 x.2.2.2.1 x.2.2.2.2) k fun n9=>X h)) (X h))) (X h)) (Q (B (L Q0 (fun n x=>Er.l3 k n x.1.1 x.1.2.2.2.1 x.1.2.2.2.2.1 x.1.2.2.2.2.2 x.2.1 x.2.2) k fun n3=>X h)) (X h))) (X h)) (X h)
def f31(k:Nat):Fc Try.prog:=⟨31,_,QY k⟩
def Rj:SS:=⟨[(3,z20),(6,Eu),(8,Dm),(9,z3),(10,z3)],[(100,FY),(101,FY)]⟩
def Ri:SS:=⟨[(3,z20),(5,z33),(6,z34),(8,Dm),(9,z3),(10,z3)],[(100,FY),(101,Gu),(102,FY)]⟩
def Rl:SS:=⟨[(3,z20),(4,z3),(5,z33),(6,z34),(8,Dm),(9,z3),(10,z3)],[(100,FY),(101,Gu),(102,FY)]⟩
def Rk:SS:=⟨[(3,z20),(8,Dm),(9,z3),(10,z3)],[(100,FY)]⟩
def Rf(k:Nat):dm:=⟨⟨[(0,Dm)],[]⟩,⟨[(0,z20)],[(100,w32)]⟩,1,1,fun x=>D_ k x⟩
theorem Rh(k:Nat):gH Try.prog 36 (Rf k):=ok (cx [f32 k,f33 k,f35 k,f66 k] 60 nb) Try.f36 fun h x=>Q (Q (Q (X h) (Q (B (L Rk (fun n x=>D_.l3 k n x.1.2.1 x.1.2.2.1 x.1.2.2.2 x.2) k fun n3=>Q (Q (Q (X h) (B (Q (Q (Q (T (Q (T (Q (Q (T (X h) Rj fun x=>D_.c13 k (D_.l3 k n3) x.1.2.2.1 x.1.2.2.2.1 x.1.2.2.2.2 x.2.1 x.2.2) (X h)) (X h)) Ri fun x=>D_.c10 k (D_.l3 k n3) x.1.2.2.2.1 x.1.2.2.2.2.1 x.1.2.2.2.2.2 x.2.1 x.2.2.1 x.2.2.2) (X h)) Rl fun x=>D_.c8 k (D_.l3 k n3) x.1.2.1 x.1.2.2.2.2.1 x.1.2.2.2.2.2.1 x.1.2.2.2.2.2.2 x.2.1 x.2.2.1 x.2.2.2) (X h)) (X h)) (X h)))) (X h)) (X h))) (X h))) (X h)) (X h)
def f36(k:Nat):Fc Try.prog:=⟨36,_,Rh k⟩
def Rm(k:Nat):dm:=⟨⟨[(0,Em)],[]⟩,⟨[(0,z1)],[]⟩,1,1,fun x=>Ja k x⟩
theorem Rn(k:Nat):gH Try.prog 37 (Rm k):=ok (cx [f19 k] 11 nb) Try.f37 fun h x=>X h
def f37(k:Nat):Fc Try.prog:=⟨37,_,Rn k⟩
def Vh:SS:=⟨[(1,z4),(4,Eu)],[(100,GI),(101,FY)]⟩
def Vg:SS:=⟨[(1,z4),(4,Eu),(6,z25),(7,z45),(8,z3),(17,z28),(18,z3),(19,z3)],[(100,GI),(101,FY),(102,IP),(103,FY)]⟩
def Vj:SS:=⟨[(1,z4),(4,Eu),(6,z25),(7,z45),(8,z3),(17,z28),(18,z3),(19,z3),(25,z30),(26,z3),(27,z3)],[(100,GI),(101,FY),(102,IP),(103,FY)]⟩
def Vk:SS:=⟨[(1,z4),(4,Eu),(17,z28),(18,z3),(19,z3)],[(100,GI),(101,FY)]⟩
def Vf(k:Nat):dm:=⟨⟨[(0,(.ro y27))],[]⟩,⟨[(0,z20),(1,z1)],[(100,w32)]⟩,1,2,fun x=>Eo k x⟩
theorem Vi(k:Nat):gH Try.prog 8 (Vf k):=ok (cx [f9 k,f31 k,f32 k,f33 k,f34 k,f35 k,f36 k,f37 k] 75 nb) Try.f8 fun h x=>Q (Q (Q (Q (Q (X h) (K h Vh (fun x=>Eo.d17 k x.2.1 x.2.2) [[2,5,9,0,1,3,4,6,7,8,10,11,12,13],[2,5,9,0,1,3,4,6,7,10,8,11,12,13],[2,5,9,0,1,3,6,4,7,8,10,11,12,13],[2,5,9,0,1,3,6,4,7,10,8,11,12,13],[2,5,9,0,1,6,3,4,7,8,10,11,12,13],[2,5,9,0,1,6,3,4,7,10,8,11,12,13],[2,5,9,0,3,1,4,6,7,8,10,11,12,13],[2,5,9,0,3,1,4,6,7,10,8,11,12,13],[2,5,9,0,3,1,6,4,7,8,10,11,12,13],[2,5,9,0,3,1,6,4,7,10,8,11,12,13],[2,5,9,0,3,4,1,6,7,8,10,11,12,13],[2,5,9,0,3,4,1,6,7,10,8,11,12,13],[2,5,9,0,3,4,6,1,7,8,10,11,12,13],[2,5,9,0,3,4,6,1,7,10,8,11,12,13],[2,5,9,0,3,4,6,7,1,8,10,11,12,13],[2,5,9,0,3,4,6,7,1,10,8,11,12,13],[2,5,9,0,3,4,6,7,8,1,10,11,12,13],[2,5,9,0,3,4,6,7,8,10,1,11,12,13],[2,5,9,0,3,4,6,7,10,1,8,11,12,13],[2,5,9,0,3,4,6,7,10,8,1,11,12,13],[2,5,9,0,3,6,1,4,7,8,10,11,12,13],[2,5,9,0,3,6,1,4,7,10,8,11,12,13],[2,5,9,0,3,6,4,1,7,8,10,11,12,13],[2,5,9,0,3,6,4,1,7,10,8,11,12,13],[2,5,9,0,3,6,4,7,1,8,10,11,12,13],[2,5,9,0,3,6,4,7,1,10,8,11,12,13],[2,5,9,0,3,6,4,7,8,1,10,11,12,13],[2,5,9,0,3,6,4,7,8,10,1,11,12,13],[2,5,9,0,3,6,4,7,10,1,8,11,12,13],[2,5,9,0,3,6,4,7,10,8,1,11,12,13],[2,5,9,0,6,1,3,4,7,8,10,11,12,13],[2,5,9,0,6,1,3,4,7,10,8,11,12,13],[2,5,9,0,6,3,1,4,7,8,10,11,12,13],[2,5,9,0,6,3,1,4,7,10,8,11,12,13],[2,5,9,0,6,3,4,1,7,8,10,11,12,13],[2,5,9,0,6,3,4,1,7,10,8,11,12,13],[2,5,9,0,6,3,4,7,1,8,10,11,12,13],[2,5,9,0,6,3,4,7,1,10,8,11,12,13],[2,5,9,0,6,3,4,7,8,1,10,11,12,13],[2,5,9,0,6,3,4,7,8,10,1,11,12,13],[2,5,9,0,6,3,4,7,10,1,8,11,12,13],[2,5,9,0,6,3,4,7,10,8,1,11,12,13],[2,5,9,3,0,1,4,6,7,8,10,11,12,13],[2,5,9,3,0,1,4,6,7,10,8,11,12,13],[2,5,9,3,0,1,6,4,7,8,10,11,12,13],[2,5,9,3,0,1,6,4,7,10,8,11,12,13],[2,5,9,3,0,4,1,6,7,8,10,11,12,13],[2,5,9,3,0,4,1,6,7,10,8,11,12,13],[2,5,9,3,0,4,6,1,7,8,10,11,12,13],[2,5,9,3,0,4,6,1,7,10,8,11,12,13],[2,5,9,3,0,4,6,7,1,8,10,11,12,13],[2,5,9,3,0,4,6,7,1,10,8,11,12,13],[2,5,9,3,0,4,6,7,8,1,10,11,12,13],[2,5,9,3,0,4,6,7,8,10,1,11,12,13],[2,5,9,3,0,4,6,7,10,1,8,11,12,13],[2,5,9,3,0,4,6,7,10,8,1,11,12,13],[2,5,9,3,0,6,1,4,7,8,10,11,12,13],[2,5,9,3,0,6,1,4,7,10,8,11,12,13],[2,5,9,3,0,6,4,1,7,8,10,11,12,13],[2,5,9,3,0,6,4,1,7,10,8,11,12,13],[2,5,9,3,0,6,4,7,1,8,10,11,12,13],[2,5,9,3,0,6,4,7,1,10,8,11,12,13],[2,5,9,3,0,6,4,7,8,1,10,11,12,13],[2,5,9,3,0,6,4,7,8,10,1,11,12,13],[2,5,9,3,0,6,4,7,10,1,8,11,12,13],[2,5,9,3,0,6,4,7,10,8,1,11,12,13],[2,5,9,3,6,0,1,4,7,8,10,11,12,13],[2,5,9,3,6,0,1,4,7,10,8,11,12,13],[2,5,9,3,6,0,4,1,7,8,10,11,12,13],[2,5,9,3,6,0,4,1,7,10,8,11,12,13],[2,5,9,3,6,0,4,7,1,8,10,11,12,13],[2,5,9,3,6,0,4,7,1,10,8,11,12,13],[2,5,9,3,6,0,4,7,8,1,10,11,12,13],[2,5,9,3,6,0,4,7,8,10,1,11,12,13],[2,5,9,3,6,0,4,7,10,1,8,11,12,13],[2,5,9,3,6,0,4,7,10,8,1,11,12,13],[2,5,9,6,0,1,3,4,7,8,10,11,12,13],[2,5,9,6,0,1,3,4,7,10,8,11,12,13],[2,5,9,6,0,3,1,4,7,8,10,11,12,13],[2,5,9,6,0,3,1,4,7,10,8,11,12,13],[2,5,9,6,0,3,4,1,7,8,10,11,12,13],[2,5,9,6,0,3,4,1,7,10,8,11,12,13],[2,5,9,6,0,3,4,7,1,8,10,11,12,13],[2,5,9,6,0,3,4,7,1,10,8,11,12,13],[2,5,9,6,0,3,4,7,8,1,10,11,12,13],[2,5,9,6,0,3,4,7,8,10,1,11,12,13],[2,5,9,6,0,3,4,7,10,1,8,11,12,13],[2,5,9,6,0,3,4,7,10,8,1,11,12,13],[2,5,9,6,3,0,1,4,7,8,10,11,12,13],[2,5,9,6,3,0,1,4,7,10,8,11,12,13],[2,5,9,6,3,0,4,1,7,8,10,11,12,13],[2,5,9,6,3,0,4,1,7,10,8,11,12,13],[2,5,9,6,3,0,4,7,1,8,10,11,12,13],[2,5,9,6,3,0,4,7,1,10,8,11,12,13],[2,5,9,6,3,0,4,7,8,1,10,11,12,13],[2,5,9,6,3,0,4,7,8,10,1,11,12,13],[2,5,9,6,3,0,4,7,10,1,8,11,12,13],[2,5,9,6,3,0,4,7,10,8,1,11,12,13]] (O (fun x=>by kernel_rfl) (O (fun x=>by kernel_rfl) (O (fun x=>by kernel_rfl) (O (fun x=>by kernel_rfl) (O (fun x=>by kernel_rfl) (O (fun x=>by kernel_rfl) (O (fun x=>by kernel_rfl) (O (fun x=>by kernel_rfl) (O (fun x=>by kernel_rfl) (O (fun x=>by kernel_rfl) (O (fun x=>by kernel_rfl) (O (fun x=>by kernel_rfl) (O (fun x=>by kernel_rfl) (O (fun x=>by kernel_rfl) (O (fun x=>by kernel_rfl) (O (fun x=>by kernel_rfl) (O (fun x=>by kernel_rfl) (O (fun x=>by kernel_rfl) (O (fun x=>by kernel_rfl) (O (fun x=>by kernel_rfl) (O (fun x=>by kernel_rfl) (O (fun x=>by kernel_rfl) (O (fun x=>by kernel_rfl) (O (fun x=>by kernel_rfl) (O (fun x=>by kernel_rfl) (O (fun x=>by kernel_rfl) (O (fun x=>by kernel_rfl) (O (fun x=>by kernel_rfl) (O (fun x=>by kernel_rfl) (O (fun x=>by kernel_rfl) (O (fun x=>by kernel_rfl) (O (fun x=>by kernel_rfl) (O (fun x=>by kernel_rfl) (O (fun x=>by kernel_rfl) (O (fun x=>by kernel_rfl) (O (fun x=>by kernel_rfl) (O (fun x=>by kernel_rfl) (O (fun x=>by kernel_rfl) (O (fun x=>by kernel_rfl) (O (fun x=>by kernel_rfl) (O (fun x=>by kernel_rfl) (O (fun x=>by kernel_rfl) (O (fun x=>by kernel_rfl) (O (fun x=>by kernel_rfl) (O (fun x=>by kernel_rfl) (O (fun x=>by kernel_rfl) (O (fun x=>by kernel_rfl) (O (fun x=>by kernel_rfl) (O (fun x=>by kernel_rfl) (O (fun x=>by kernel_rfl) (O (fun x=>by kernel_rfl) (O (fun x=>by kernel_rfl) (O (fun x=>by kernel_rfl) (O (fun x=>by kernel_rfl) (O (fun x=>by kernel_rfl) (O (fun x=>by kernel_rfl) (O (fun x=>by kernel_rfl) (O (fun x=>by kernel_rfl) (O (fun x=>by kernel_rfl) (O (fun x=>by kernel_rfl) (O (fun x=>by kernel_rfl) (O (fun x=>by kernel_rfl) (O (fun x=>by kernel_rfl) (O (fun x=>by kernel_rfl) (O (fun x=>by kernel_rfl) (O (fun x=>by kernel_rfl) (O (fun x=>by kernel_rfl) (O (fun x=>by kernel_rfl) (O (fun x=>by kernel_rfl) (O (fun x=>by kernel_rfl) (O (fun x=>by kernel_rfl) (O (fun x=>by kernel_rfl) (O (fun x=>by kernel_rfl) (O (fun x=>by kernel_rfl) (O (fun x=>by kernel_rfl) (O (fun x=>by kernel_rfl) (O (fun x=>by kernel_rfl) (O (fun x=>by kernel_rfl) (O (fun x=>by kernel_rfl) (O (fun x=>by kernel_rfl) (O (fun x=>by kernel_rfl) (O (fun x=>by kernel_rfl) (O (fun x=>by kernel_rfl) (O (fun x=>by kernel_rfl) (O (fun x=>by kernel_rfl) (O (fun x=>by kernel_rfl) (O (fun x=>by kernel_rfl) (O (fun x=>by kernel_rfl) (O (fun x=>by kernel_rfl) (O (fun x=>by kernel_rfl) (O (fun x=>by kernel_rfl) (O (fun x=>by kernel_rfl) (O (fun x=>by kernel_rfl) (O (fun x=>by kernel_rfl) (O (fun x=>by kernel_rfl) (O (fun x=>by kernel_rfl) (O (fun x=>by kernel_rfl) (O (fun x=>by kernel_rfl) (N))))))))))))))))))))))))))))))))))))))))))))))))))))))))))))))))))))))))))))))))))))))))))))))))))))) (Q (B (L Vk (fun n x=>Eo.l5 k n x.1.2.2.1 x.1.2.2.2.1 x.1.2.2.2.2 x.2.1 x.2.2) k fun n5=>Q (Q (Q (X h) (B (Q (Q (Q (Q (K h Vg (fun x=>Eo.d15 k (Eo.l5 k n5) x.1.2.2.2.2.1 x.1.2.2.2.2.2.1 x.1.2.2.2.2.2.2.1 x.1.2.2.2.2.2.2.2 x.2.1 x.2.2.1 x.2.2.2.1 x.2.2.2.2) [[0,1,3,6,2,4,5,7,8,9,10,11,12,13,14],[0,1,3,6,2,4,7,5,8,9,10,11,12,13,14],[0,1,3,6,2,4,7,8,5,9,10,11,12,13,14],[0,1,3,6,2,4,7,8,9,5,10,11,12,13,14],[0,1,3,6,2,7,4,5,8,9,10,11,12,13,14],[0,1,3,6,2,7,4,8,5,9,10,11,12,13,14],[0,1,3,6,2,7,4,8,9,5,10,11,12,13,14],[0,1,3,6,7,2,4,5,8,9,10,11,12,13,14],[0,1,3,6,7,2,4,8,5,9,10,11,12,13,14],[0,1,3,6,7,2,4,8,9,5,10,11,12,13,14]] (O (fun x=>by kernel_rfl) (O (fun x=>by kernel_rfl) (O (fun x=>by kernel_rfl) (O (fun x=>by kernel_rfl) (O (fun x=>by kernel_rfl) (O (fun x=>by kernel_rfl) (O (fun x=>by kernel_rfl) (O (fun x=>by kernel_rfl) (O (fun x=>by kernel_rfl) (O (fun x=>by kernel_rfl) (N)))))))))))) (Q (B (L Vj (fun n x=>Eo.l10 k (Eo.l5 k n5) n x.1.2.2.2.2.1 x.1.2.2.2.2.2.1 x.1.2.2.2.2.2.2.1 x.1.2.2.2.2.2.2.2.1 x.1.2.2.2.2.2.2.2.2.1 x.1.2.2.2.2.2.2.2.2.2.1 x.1.2.2.2.2.2.2.2.2.2.2 x.2.1 x.2.2.1 x.2.2.2.1 x.2.2.2.2) k fun n10=>X h)) (X h))) (X h)) (X h)) (X h)))) (X h)) (X h))) (X h))) (X h)) (X h)) (X h)
def f8(k:Nat):Fc Try.prog:=⟨8,_,Vi k⟩
def PC:SS:=⟨[(0,Dm),(1,Dm),(5,z3)],[]⟩
def Py(k:Nat):dm:=⟨⟨[(0,Dm),(1,Dm)],[]⟩,⟨[(0,z1)],[]⟩,2,1,fun x=>Hu k x.1 x.2⟩
theorem Pz(k:Nat):gH Try.prog 10 (Py k):=ok (cx [] 26 nb) Try.f10 fun h x=>Q (Q (Q (X h) (Q (B (L PC (fun n x=>Hu.l4 k n x.1 x.2.1 x.2.2) k fun n4=>X h)) (X h))) (X h)) (X h)
def f10(k:Nat):Fc Try.prog:=⟨10,_,Pz k⟩
def Na(k:Nat):dm:=⟨⟨[(0,z0)],[]⟩,⟨[(0,z1)],[]⟩,1,1,fun x=>LA k x⟩
theorem Nb(k:Nat):gH Try.prog 3 (Na k):=ok (cx [f4 k,f5 k,f6 k,f7 k,f8 k,f9 k,f10 k] 82 nb) Try.f3 fun h x=>X h
def f3(k:Nat):Fc Try.prog:=⟨3,_,Nb k⟩
end Go.Proofs.Ytceehofnlhfndaa
