/- walks through the claim's functions -/
import Derived.Test.YtbhpckfakcoojaaBase
import Derived.Test.YtbhpckfakcoojaaFASF0
set_option linter.unusedVariables false
set_option maxRecDepth 100000
namespace Go.Proofs.Ytbhpckfakcoojaa
open Go.Am Go.Am.W Go.Fn
abbrev z0:CS:= .ro (.list 5 (.int .u8))
abbrev z1:CS:= .ro .bool
abbrev y2:Ty:= .int .i64
abbrev z3:CS:= .ro y2
abbrev z4:CS:= .p 100
abbrev w5:OS:= .box (.st (.cons (.list 5 (.int .u8)) (.cons y2 (.cons y2 .nil)))) (.agg (.cons z0 (.cons z3 (.cons z3 .nil))))
abbrev z6:CS:= .p 0
abbrev z7:CS:= .ro .str
abbrev u8:Ty:= .cons y2 (.cons y2 (.cons y2 .nil))
abbrev y9:Ty:= .st (.cons .str u8)
abbrev zT:CS:= .ro (.list 42 y9)
abbrev Ei:CS:= .h 101
abbrev v12:CS:= .cons z3 (.cons z3 (.cons z3 .nil))
abbrev JH:OS:= .box y9 (.agg (.cons z7 v12))
abbrev ET:Ty:= .list 3 y2
abbrev Ag:CS:= .h 100
abbrev w16:OS:= .sl 42 y9
abbrev z17:CS:= .h 10
abbrev zW:OS:= .sl 3 y2
abbrev EU:Ty:= .st (.cons y2 (.cons .str .nil))
abbrev z20:CS:= .agg (.cons z3 (.cons z7 .nil))
abbrev I4:OS:= .box EU z20
abbrev y22:Ty:= .list 44 EU
abbrev z23:CS:= .ro y22
abbrev y24:Ty:= .st (.cons y22 .nil)
abbrev y25:Ty:= .st (.cons y2 (.cons y2 (.cons EU .nil)))
abbrev I6:Ty:= .list 46 y25
abbrev ES:OS:= .sl 34 I6
abbrev z28:CS:= .agg (.cons z3 (.cons z3 (.cons z20 .nil)))
abbrev y29:Ty:= .st (.cons I6 .nil)
abbrev Gb:OS:= .sh 36 y29
abbrev z31:CS:= .ro (.list 60 y24)
abbrev w32:OS:= .sl 36 y29
abbrev AV:OS:= .sl 44 EU
abbrev Fj:OS:= .sl 60 y24
abbrev z35:CS:= .ro I6
abbrev Gg:Ty:= .list 36 y29
abbrev z37:CS:= .ro Gg
abbrev y38:Ty:= .st (.cons (.list 42 y9) (.cons Gg (.cons ET (.cons ET (.cons y22 (.cons .bool (.cons .bool .nil)))))))
abbrev v39:CS:= .cons z1 (.cons z1 .nil)
abbrev Eh:OS:= .box y38 (.agg (.cons zT (.cons z37 (.cons (.ro ET) (.cons z17 (.cons (.h 11) v39))))))
abbrev Gc:OS:= .box y38 (.agg (.cons zT (.cons z37 (.cons (.ro ET) (.cons z17 (.cons Ag v39))))))
abbrev JI:OS:= .box y38 (.agg (.cons zT (.cons z37 (.cons (.ro ET) (.cons z17 (.cons .any v39))))))
abbrev z43:CS:= .fn 27 (.cons (.p 10) (.cons (.p 12) .nil))
abbrev z44:CS:= .fn 28 (.cons (.p 14) .nil)
abbrev Da:OS:= .box (.st (.cons (.list 42 y9) (.cons y22 (.cons .bool (.cons .ptr (.cons .ptr .nil)))))) (.agg (.cons zT (.cons z23 (.cons z1 (.cons z43 (.cons z44 .nil))))))
abbrev CB:OS:= .box Gg (.h 11)
abbrev CE:OS:= .box ET (.h 13)
abbrev CF:OS:= .box .ptr z43
def OY(k:Nat):cz:=⟨⟨[(0,z0)],[]⟩,⟨[(0,z1)],[]⟩,1,1,fun x=>Jr k x⟩
theorem OZ(k:Nat):fV Try.prog 4 (OY k):=ok (cx [] 6 nb) Try.f4 fun h x=>X h
def f4(k:Nat):Fc Try.prog:=⟨4,_,OZ k⟩
def Mr:SS:=⟨[(0,z0),(3,z3),(4,z3)],[]⟩
def Mo(k:Nat):cz:=⟨⟨[(0,z0)],[]⟩,⟨[(0,z4)],[(100,w5)]⟩,1,1,fun x=>Ez k x⟩
theorem Mq(k:Nat):fV Try.prog 10 (Mo k):=ok (cx [] 32 nb) Try.f10 fun h x=>Q (Q (Q (X h) (Q (B (L Mr (fun n x=>Ez.l3 k n x.1 x.2.1 x.2.2) k fun n3=>X h)) (X h))) (X h)) (X h)
def f10(k:Nat):Fc Try.prog:=⟨10,_,Mq k⟩
def NQ:SS:=⟨[(3,z3)],[(0,w5)]⟩
def NN(k:Nat):cz:=⟨⟨[(0,z6)],[(0,w5)]⟩,⟨[(0,z3)],[(0,w5)]⟩,1,1,fun x=>DZ k x.2⟩
theorem NP(k:Nat):fV Try.prog 33 (NN k):=ok (cx [] 58 nb) Try.f33 fun h x=>Q (Q (Q (Q (T (X h) NQ fun x=>DZ.c6 k x.1 x.2) (X h)) (X h)) (X h)) (X h)
def f33(k:Nat):Fc Try.prog:=⟨33,_,NP k⟩
def ME(k:Nat):cz:=⟨⟨[(0,z6),(1,z3)],[(0,w5)]⟩,⟨[(0,z3)],[(0,w5)]⟩,2,1,fun x=>Bl k x.1.2 x.2⟩
theorem MF(k:Nat):fV Try.prog 13 (ME k):=ok (cx [f33 k] 37 nb) Try.f13 fun h x=>X h
def f13(k:Nat):Fc Try.prog:=⟨13,_,MF k⟩
def MB(k:Nat):cz:=⟨⟨[(0,z6),(1,z3)],[(0,w5)]⟩,⟨[(0,z1)],[(0,w5)]⟩,2,1,fun x=>EO k x.1.2 x.2⟩
theorem MC(k:Nat):fV Try.prog 12 (MB k):=ok (cx [f13 k] 9 nb) Try.f12 fun h x=>X h
def f12(k:Nat):Fc Try.prog:=⟨12,_,MC k⟩
def Oo(k:Nat):cz:=⟨⟨[(0,z3),(1,z3),(2,z3)],[]⟩,⟨[(0,z1)],[]⟩,3,1,fun x=>Ey k x.1 x.2.1 x.2.2⟩
theorem Oq(k:Nat):fV Try.prog 41 (Oo k):=ok (cx [] 15 nb) Try.f41 fun h x=>X h
def f41(k:Nat):Fc Try.prog:=⟨41,_,Oq k⟩
def P5:SS:=⟨[(0,z7),(3,z3)],[]⟩
def PY(k:Nat):cz:=⟨⟨[(0,z7)],[]⟩,⟨[(0,z1)],[]⟩,1,1,fun x=>ER k x⟩
theorem PZ(k:Nat):fV Try.prog 62 (PY k):=ok (cx [f41 k] 24 nb) Try.f62 fun h x=>Q (Q (Q (X h) (Q (B (L P5 (fun n x=>ER.l4 k n x.1 x.2) k fun n4=>X h)) (X h))) (X h)) (X h)
def f62(k:Nat):Fc Try.prog:=⟨62,_,PZ k⟩
def P8:SS:=⟨[(4,z1)],[]⟩
def P6(k:Nat):cz:=⟨⟨[(0,z3)],[]⟩,⟨[(0,z1)],[]⟩,1,1,fun x=>EA k x⟩
theorem P7(k:Nat):fV Try.prog 63 (P6 k):=ok (cx [] 10 nb) Try.f63 fun h x=>Q (Q (X h) (Q (B (Q (T (X h) P8 fun x=>EA.c7 k x) (X h))) (X h))) (X h)
def f63(k:Nat):Fc Try.prog:=⟨63,_,P7 k⟩
def Ox:SS:=⟨[(0,zT),(2,z3),(7,z4),(8,z3),(9,Ei),(10,z3),(11,z3)],[(100,JH),(101,(.sl 9 .str))]⟩
def Ov:SS:=⟨[(0,zT),(2,z3),(7,z4),(8,z3),(9,Ei),(10,z3)],[(100,JH),(101,(.sl 9 .str))]⟩
def Il(F:(List zC)→Int→Int→Option Int):cz:=⟨⟨[(0,zT),(1,z3),(2,z3)],[]⟩,⟨[(0,z3)],[]⟩,3,1,fun x=>F x.1 x.2.1 x.2.2⟩
theorem Ou(k:Nat)(D9:(List zC)→Int→Int→Option Int)(R7:fV Try.prog 42 (Il D9)):fV Try.prog 42 (Il (A9.b k D9)):=ok (cx [f41 k,⟨42,_,R7⟩,f62 k,f63 k] 119 nb) Try.f42 fun h x=>Q (Q (Q (Q (Q (Q (Q (Q (Q (X h) (Q (B (L Ov (fun n x=>A9.Dh k D9 n x.1.1 x.1.2.1 x.1.2.2.2.1 x.1.2.2.2.2.2 x.2.1 x.2.2) k fun n15=>Q (Q (X h) (B (Q (Q (X h) (Q (B (L Ox (fun n x=>A9.Gw k D9 (A9.Dh k D9 n15) n x.1.1 x.1.2.1 x.1.2.2.2.1 x.1.2.2.2.2.2.1 x.1.2.2.2.2.2.2 x.2.1 x.2.2) k fun n20=>X h)) (X h))) (X h)))) (X h))) (X h))) (X h)) (X h)) (X h)) (X h)) (X h)) (X h)) (X h)) (X h)
theorem Kj(k:Nat):∀d,fV Try.prog 42 (Il (A9.d k d))
 |0=>zh (fun _=>rfl)
 |d+1=>let ih:=Kj k d
  Ou k (A9.d k d) ih
theorem Ot(k:Nat):fV Try.prog 42 (Il (A9 k)):=(Kj k k)
def f42(k:Nat):Fc Try.prog:=⟨42,_,Ot k⟩
def M5(k:Nat):cz:=⟨⟨[(0,zT)],[]⟩,⟨[(0,z1)],[]⟩,1,1,fun x=>Cg k x⟩
theorem M6(k:Nat):fV Try.prog 21 (M5 k):=ok (cx [f41 k,f42 k] 13 nb) Try.f21 fun h x=>X h
def f21(k:Nat):Fc Try.prog:=⟨21,_,M6 k⟩
def QB(k:Nat):cz:=⟨⟨[(0,z6),(1,(.ro ET))],[(0,w5)]⟩,⟨[(0,z3)],[(0,w5)]⟩,2,1,fun x=>Ga k x.1.2 x.2⟩
theorem QC(k:Nat):fV Try.prog 71 (QB k):=ok (cx [f13 k] 12 nb) Try.f71 fun h x=>X h
def f71(k:Nat):Fc Try.prog:=⟨71,_,QC k⟩
def Pd:SS:=⟨[(0,z6),(2,z3),(3,Ag),(11,z3),(12,z3)],[(0,w5),(100,w16)]⟩
def Pb:SS:=⟨[(0,z6),(2,z3),(3,Ag),(11,z3)],[(0,w5),(100,w16)]⟩
def Pe:SS:=⟨[(0,z6),(1,z7),(2,z3),(3,z17),(9,z4)],[(0,w5),(10,w16),(100,JH)]⟩
def Io(F:ByteArray→Int→zL→(List zC)→Option (Unit×zL×(List zC))):cz:=⟨⟨[(0,z6),(1,z7),(2,z3),(3,z17)],[(0,w5),(10,w16)]⟩,⟨[(0,Ag)],[(0,w5),(100,w16)]⟩,4,1,fun x=>F x.1.2.1 x.1.2.2.1 x.2.1 x.2.2⟩
theorem O_(k:Nat)(CQ:ByteArray→Int→zL→(List zC)→Option (Unit×zL×(List zC)))(R8:fV Try.prog 51 (Io CQ)):fV Try.prog 51 (Io (AU.b k CQ)):=ok (cx [f12 k,f13 k,⟨51,_,R8⟩,f71 k] 75 (fun s=>Nat.beq s 22||Nat.beq s 25)) Try.f51 fun h x=>Q (Q (Q (T (Q (Q (Q (Q (Q (Q (T (Q (X h) (Q (B (L Pd (fun n x=>AU.Dp k CQ n x.1.2.1 x.1.2.2.2.1 x.1.2.2.2.2 x.2.1 x.2.2) k fun n13=>X h)) (X h))) Pb fun x=>AU.c12 k CQ x.1.2.1 x.1.2.2.2 x.2.1 x.2.2) (X h)) (X h)) (X h)) (X h)) (X h)) (X h)) Pe fun x=>AU.c4 k CQ x.1.2.1 x.1.2.2.1 x.2.1 x.2.2.1 x.2.2.2) (X h)) (X h)) (X h)
theorem Kl(k:Nat):∀d,fV Try.prog 51 (Io (AU.d k d))
 |0=>zh (fun _=>rfl)
 |d+1=>let ih:=Kl k d
  O_ k (AU.d k d) ih
theorem O9(k:Nat):fV Try.prog 51 (Io (AU k)):=(Kl k k)
def f51(k:Nat):Fc Try.prog:=⟨51,_,O9 k⟩
def ND:SS:=⟨[(0,z6),(3,z3)],[(0,w5)]⟩
def NB(k:Nat):cz:=⟨⟨[(0,z6)],[(0,w5)]⟩,⟨[(0,Ag)],[(0,w5),(100,w16)]⟩,1,1,fun x=>EP k x.2⟩
theorem NC(k:Nat):fV Try.prog 30 (NB k):=ok (cx [f13 k,f21 k,f51 k] 21 nb) Try.f30 fun h x=>Q (Q (X h) (Q (B (L ND (fun n x=>EP.l2 k n x.1.2 x.2) k fun n2=>X h)) (X h))) (X h)
def f30(k:Nat):Fc Try.prog:=⟨30,_,NC k⟩
def M_:SS:=⟨[(0,zT),(3,Ag),(4,z3)],[(100,zW)]⟩
def M9:SS:=⟨[(0,zT),(3,Ag),(4,z3)],[(100,zW)]⟩
def M7(k:Nat):cz:=⟨⟨[(0,zT)],[]⟩,⟨[(0,Ag)],[(100,zW)]⟩,1,1,fun x=>C9 k x⟩
theorem M8(k:Nat):fV Try.prog 22 (M7 k):=ok (cx [] 23 nb) Try.f22 fun h x=>Q (Q (Q (X h) (Q (B (L M9 (fun n x=>C9.l3 k n x.1.1 x.1.2.2 x.2) k fun n3=>Q (Q (T (X h) M_ fun x=>C9.c4 k (C9.l3 k n3) x.1.1 x.1.2.2 x.2) (X h)) (X h))) (X h))) (X h)) (X h)
def f22(k:Nat):Fc Try.prog:=⟨22,_,M8 k⟩
def OU:SS:=⟨[(0,zT),(1,z3),(5,z3),(6,z3)],[]⟩
def Im(F:(List zC)→Int→Option Int):cz:=⟨⟨[(0,zT),(1,z3)],[]⟩,⟨[(0,z3)],[]⟩,2,1,fun x=>F x.1 x.2⟩
theorem OT(k:Nat)(FF:(List zC)→Int→Option Int)(h48:fV Try.prog 48 (Im FF)):fV Try.prog 48 (Im (Bu.b k FF)):=ok (cx [⟨48,_,h48⟩] 22 nb) Try.f48 fun h x=>Q (Q (Q (X h) (Q (B (L OU (fun n x=>Bu.l3 k FF n x.1 x.2.1 x.2.2.1 x.2.2.2) k fun n3=>X h)) (X h))) (X h)) (X h)
theorem Kk(k:Nat):∀d,fV Try.prog 48 (Im (Bu.d k d))
 |0=>zh (fun _=>rfl)
 |d+1=>let ih:=Kk k d
  OT k (Bu.d k d) ih
theorem OQ(k:Nat):fV Try.prog 48 (Im (Bu k)):=(Kk k k)
def f48(k:Nat):Fc Try.prog:=⟨48,_,OQ k⟩
def Q4(k:Nat):cz:=⟨⟨[(0,z3)],[]⟩,⟨[(0,z1)],[]⟩,1,1,fun x=>JE k x⟩
theorem Q5(k:Nat):fV Try.prog 78 (Q4 k):=ok (cx [f41 k] 5 nb) Try.f78 fun h x=>X h
def f78(k:Nat):Fc Try.prog:=⟨78,_,Q5 k⟩
def Qh:SS:=⟨[(3,z4),(5,z3),(26,z1)],[(100,I4)]⟩
def Qf(k:Nat):cz:=⟨⟨[(0,z3),(1,(.ro EU))],[]⟩,⟨[(0,z1)],[]⟩,2,1,fun x=>Fh k x.1 x.2⟩
theorem Qg(k:Nat):fV Try.prog 66 (Qf k):=ok (cx [f41 k,f78 k] 43 nb) Try.f66 fun h x=>Q (Q (X h) (Q (B (Q (D (X h) (Q (D (X h) (Q (T (X h) Qh fun x=>Fh.c8 k x.1.2.1 x.1.2.2 x.2) (X h))) (X h))) (X h))) (X h))) (X h)
def f66(k:Nat):Fc Try.prog:=⟨66,_,Qg k⟩
def Q6(k:Nat):cz:=⟨⟨[(0,(.ro EU)),(1,z3)],[]⟩,⟨[(0,z3)],[]⟩,2,1,fun x=>Ht k x.1 x.2⟩
theorem Q7(k:Nat):fV Try.prog 79 (Q6 k):=ok (cx [f41 k] 17 nb) Try.f79 fun h x=>X h
def f79(k:Nat):Fc Try.prog:=⟨79,_,Q7 k⟩
def OX:SS:=⟨[(0,zT),(1,z3),(2,z23),(3,z3),(9,z3),(10,z3)],[]⟩
def GK(F:(List zC)→Int→(List zB)→Int→Option Int):cz:=⟨⟨[(0,zT),(1,z3),(2,z23),(3,z3)],[]⟩,⟨[(0,z3)],[]⟩,4,1,fun x=>F x.1 x.2.1 x.2.2.1 x.2.2.2⟩
def Ql:SS:=⟨[(0,zT),(1,z3),(2,z23),(3,z3),(9,z3),(11,z3)],[]⟩
def Qk:SS:=⟨[(0,zT),(1,z3),(2,z23),(3,z3),(9,z3)],[]⟩
def Qm:SS:=⟨[(0,zT),(1,z3),(2,z23),(3,z3),(10,z3)],[]⟩
def GN(F:(List zC)→Int→(List zB)→Int→Option Int):cz:=⟨⟨[(0,zT),(1,z3),(2,z23),(3,z3)],[]⟩,⟨[(0,z3)],[]⟩,4,1,fun x=>F x.1 x.2.1 x.2.2.1 x.2.2.2⟩
theorem OW(k:Nat)(CP:(List zC)→Int→(List zB)→Int→Option Int)(El:(List zC)→Int→(List zB)→Int→Option Int)(Kt:fV Try.prog 49 (GK CP))(Kw:fV Try.prog 67 (GN El)):fV Try.prog 49 (GK (AO.b k CP El)):=ok (cx [f48 k,f66 k,⟨67,_,Kw⟩] 58 nb) Try.f49 fun h x=>Q (Q (Q (Q (X h) (Q (B (L OX (fun n x=>AO.l7 k El n x.1 x.2.1 x.2.2.1 x.2.2.2.1 x.2.2.2.2.1 x.2.2.2.2.2) k fun n7=>X h)) (X h))) (X h)) (X h)) (X h)
theorem Qj(k:Nat)(CP:(List zC)→Int→(List zB)→Int→Option Int)(El:(List zC)→Int→(List zB)→Int→Option Int)(Kt:fV Try.prog 49 (GK CP))(Kw:fV Try.prog 67 (GN El)):fV Try.prog 67 (GN (BH.b k CP El)):=ok (cx [⟨49,_,Kt⟩,f79 k] 51 nb) Try.f67 fun h x=>Q (Q (Q (T (Q (X h) (Q (B (L Ql (fun n x=>BH.Dp k CP n x.1 x.2.1 x.2.2.1 x.2.2.2.1 x.2.2.2.2.1 x.2.2.2.2.2) k fun n13=>X h)) (X h))) Qk fun x=>BH.c12 k CP x.1 x.2.1 x.2.2.1 x.2.2.2.1 x.2.2.2.2) (Q (D (Q (Q (T (X h) Qm fun x=>BH.c6 k CP x.1 x.2.1 x.2.2.1 x.2.2.2.1 x.2.2.2.2) (X h)) (X h)) (X h)) (X h))) (X h)) (X h)
theorem Jf(k:Nat):∀d,fV Try.prog 49 (GK (AO.d k d))∧fV Try.prog 67 (GN (BH.d k d))
 |0=>⟨zh (fun _=>rfl),zh (fun _=>rfl)⟩
 |d+1=>let ih:=Jf k d
  ⟨OW k (AO.d k d) (BH.d k d) ih.1 ih.2,Qj k (AO.d k d) (BH.d k d) ih.1 ih.2⟩
theorem OV(k:Nat):fV Try.prog 49 (GK (AO k)):=(Jf k k).1
def f49(k:Nat):Fc Try.prog:=⟨49,_,OV k⟩
theorem Qi(k:Nat):fV Try.prog 67 (GN (BH k)):=(Jf k k).2
def f67(k:Nat):Fc Try.prog:=⟨67,_,Qi k⟩
def Nq:SS:=⟨[(0,zT),(3,z4)],[(100,(.box y24 (.agg (.cons z23 .nil))))]⟩
def Np(k:Nat):cz:=⟨⟨[(0,zT),(1,(.ro y24))],[]⟩,⟨[(0,z1)],[]⟩,2,1,fun x=>DR k x.1 x.2⟩
theorem Nr(k:Nat):fV Try.prog 26 (Np k):=ok (cx [f21 k,f49 k] 23 nb) Try.f26 fun h x=>Q (Q (X h) (K h Nq (fun x=>DR.d1 k x.1.1 x.2) [[0,1,2,3,4,5,6,7,8,9,10,11,13,12,14,15,16,17,18],[0,1,2,3,4,5,6,7,8,9,10,11,13,14,15,12,16,17,18]] (O (fun x=>by kernel_rfl) (O (fun x=>by kernel_rfl) (N))))) (X h)
def f26(k:Nat):Fc Try.prog:=⟨26,_,Nr k⟩
def OG:SS:=⟨[(0,zT),(1,z3),(5,z3),(6,z3)],[]⟩
def OE:SS:=⟨[(0,zT),(1,z3),(5,z3),(6,z3)],[]⟩
def OC(k:Nat):cz:=⟨⟨[(0,zT),(1,z3)],[]⟩,⟨[(0,z3)],[]⟩,2,1,fun x=>CL k x.1 x.2⟩
theorem OD(k:Nat):fV Try.prog 45 (OC k):=ok (cx [] 21 nb) Try.f45 fun h x=>Q (Q (Q (X h) (Q (B (L OE (fun n x=>CL.l3 k n x.1 x.2.1 x.2.2.1 x.2.2.2) k fun n3=>Q (Q (T (X h) OG fun x=>CL.c4 k (CL.l3 k n3) x.1 x.2.1 x.2.2.1 x.2.2.2) (X h)) (X h))) (X h))) (X h)) (X h)
def f45(k:Nat):Fc Try.prog:=⟨45,_,OD k⟩
def Rt:SS:=⟨[(0,zT),(1,z3),(3,z17),(6,z4),(9,z3)],[(10,ES),(100,(.box y25 z28))]⟩
def Rq(k:Nat):cz:=⟨⟨[(0,zT),(1,z3),(2,(.ro y25)),(3,z17)],[(10,ES)]⟩,⟨[(0,z17)],[(10,ES)]⟩,4,1,fun x=>Ew k x.1.1 x.1.2.1 x.1.2.2.1 x.2⟩
theorem Rs(k:Nat):fV Try.prog 83 (Rq k):=ok (cx [f45 k,f48 k] 33 nb) Try.f83 fun h x=>Q (Q (X h) (Q (B (L Rt (fun n x=>Ew.l2 k n x.1.1 x.1.2.1 x.1.2.2.2.2 x.2.1 x.2.2) k fun n2=>X h)) (X h))) (X h)
def f83(k:Nat):Fc Try.prog:=⟨83,_,Rs k⟩
def Ph:SS:=⟨[(0,zT),(1,z3),(2,z23),(3,z3),(4,z3),(5,z3),(6,z3),(7,z17),(19,z3),(20,z3)],[(10,ES)]⟩
def GM(F:(List zC)→Int→(List zB)→Int→Int→Int→Int→(List (List zO))→Option ((Unit×Int)×(List (List zO)))):cz:=⟨⟨[(0,zT),(1,z3),(2,z23),(3,z3),(4,z3),(5,z3),(6,z3),(7,z17)],[(10,ES)]⟩,⟨[(0,z17),(1,z3)],[(10,ES)]⟩,8,2,fun x=>F x.1.1 x.1.2.1 x.1.2.2.1 x.1.2.2.2.1 x.1.2.2.2.2.1 x.1.2.2.2.2.2.1 x.1.2.2.2.2.2.2.1 x.2⟩
def QF:SS:=⟨[(0,zT),(1,z3),(2,z23),(3,z3),(4,z3),(5,z3),(6,z3),(7,z17),(18,z3),(19,z3)],[(10,ES)]⟩
def QG:SS:=⟨[(0,zT),(1,z3),(2,z23),(3,z3),(4,z3),(5,z3),(6,z3),(7,z17),(18,z3)],[(10,ES)]⟩
def GR(F:(List zC)→Int→(List zB)→Int→Int→Int→Int→(List (List zO))→Option ((Unit×Int)×(List (List zO)))):cz:=⟨⟨[(0,zT),(1,z3),(2,z23),(3,z3),(4,z3),(5,z3),(6,z3),(7,z17)],[(10,ES)]⟩,⟨[(0,z17),(1,z3)],[(10,ES)]⟩,8,2,fun x=>F x.1.1 x.1.2.1 x.1.2.2.1 x.1.2.2.2.1 x.1.2.2.2.2.1 x.1.2.2.2.2.2.1 x.1.2.2.2.2.2.2.1 x.2⟩
theorem Pg(k:Nat)(Dl:(List zC)→Int→(List zB)→Int→Int→Int→Int→(List (List zO))→Option ((Unit×Int)×(List (List zO))))(En:(List zC)→Int→(List zB)→Int→Int→Int→Int→(List (List zO))→Option ((Unit×Int)×(List (List zO))))(Kv:fV Try.prog 52 (GM Dl))(h72:fV Try.prog 72 (GR En)):fV Try.prog 52 (GM (Be.b k Dl En)):=ok (cx [f45 k,f48 k,⟨72,_,h72⟩] 77 nb) Try.f52 fun h x=>Q (Q (Q (Q (X h) (Q (B (L Ph (fun n x=>Be.l7 k En n x.1.1 x.1.2.1 x.1.2.2.1 x.1.2.2.2.1 x.1.2.2.2.2.1 x.1.2.2.2.2.2.1 x.1.2.2.2.2.2.2.1 x.1.2.2.2.2.2.2.2.2.1 x.1.2.2.2.2.2.2.2.2.2 x.2) k fun n7=>X h)) (X h))) (X h)) (X h)) (X h)
theorem QE(k:Nat)(Dl:(List zC)→Int→(List zB)→Int→Int→Int→Int→(List (List zO))→Option ((Unit×Int)×(List (List zO))))(En:(List zC)→Int→(List zB)→Int→Int→Int→Int→(List (List zO))→Option ((Unit×Int)×(List (List zO))))(Kv:fV Try.prog 52 (GM Dl))(h72:fV Try.prog 72 (GR En)):fV Try.prog 72 (GR (Cv.b k Dl En)):=ok (cx [⟨52,_,Kv⟩,f83 k] 83 nb) Try.f72 fun h x=>Q (Q (Q (Q (Q (Q (T (Q (X h) (Q (B (L QF (fun n x=>Cv.l10 k Dl n x.1.1 x.1.2.1 x.1.2.2.1 x.1.2.2.2.1 x.1.2.2.2.2.1 x.1.2.2.2.2.2.1 x.1.2.2.2.2.2.2.1 x.1.2.2.2.2.2.2.2.2.1 x.1.2.2.2.2.2.2.2.2.2 x.2) k fun n10=>X h)) (X h))) QG fun x=>Cv.c9 k Dl x.1.1 x.1.2.1 x.1.2.2.1 x.1.2.2.2.1 x.1.2.2.2.2.1 x.1.2.2.2.2.2.1 x.1.2.2.2.2.2.2.1 x.1.2.2.2.2.2.2.2.2 x.2) (X h)) (X h)) (X h)) (X h)) (X h)) (X h)
theorem Jh(k:Nat):∀d,fV Try.prog 52 (GM (Be.d k d))∧fV Try.prog 72 (GR (Cv.d k d))
 |0=>⟨zh (fun _=>rfl),zh (fun _=>rfl)⟩
 |d+1=>let ih:=Jh k d
  ⟨Pg k (Be.d k d) (Cv.d k d) ih.1 ih.2,QE k (Be.d k d) (Cv.d k d) ih.1 ih.2⟩
theorem Pf(k:Nat):fV Try.prog 52 (GM (Be k)):=(Jh k k).1
def f52(k:Nat):Fc Try.prog:=⟨52,_,Pf k⟩
theorem QD(k:Nat):fV Try.prog 72 (GR (Cv k)):=(Jh k k).2
def f72(k:Nat):Fc Try.prog:=⟨72,_,QD k⟩
def NH:SS:=⟨[(6,Ag),(7,(.ro (.list 34 I6))),(9,z3)],[(100,Gb)]⟩
def NI:SS:=⟨[(0,zT),(1,z31),(6,Ag),(7,Ei),(8,z3)],[(100,w32),(101,ES)]⟩
def NF(k:Nat):cz:=⟨⟨[(0,zT),(1,z31)],[]⟩,⟨[(0,Ag),(1,z1)],[(100,Gb)]⟩,2,2,fun x=>CW k x.1 x.2⟩
theorem NG(k:Nat):fV Try.prog 31 (NF k):=ok (cx [f21 k,f22 k,f26 k,f52 k] 71 nb) Try.f31 fun h x=>Q (Q (Q (Q (Q (Q (X h) (Q (B (L NH (fun n x=>CW.Gu k n x.1.2.1 x.1.2.2 x.2) k fun n12=>X h)) (X h))) (Q (B (L NI (fun n x=>CW.l6 k n x.1.1 x.1.2.1 x.1.2.2.2.2 x.2.1 x.2.2) k fun n6=>X h)) (X h))) (X h)) (X h)) (X h)) (X h)
def f31(k:Nat):Fc Try.prog:=⟨31,_,NG k⟩
def Rz(k:Nat):cz:=⟨⟨[(0,z6),(1,(.ro (.list 9 .str)))],[(0,w5)]⟩,⟨[(0,z7)],[(0,w5)]⟩,2,1,fun x=>IZ k x.1.2 x.2⟩
theorem RA(k:Nat):fV Try.prog 86 (Rz k):=ok (cx [f13 k] 12 nb) Try.f86 fun h x=>X h
def f86(k:Nat):Fc Try.prog:=⟨86,_,RA k⟩
def RL:SS:=⟨[(0,z6),(5,Ag),(6,z3),(7,z3)],[(0,w5),(100,(.sl 5 (.int .u8)))]⟩
def RI(k:Nat):cz:=⟨⟨[(0,z6),(1,z3)],[(0,w5)]⟩,⟨[(0,Ag)],[(0,w5),(100,(.sl 5 (.int .u8)))]⟩,2,1,fun x=>Ex k x.1.2 x.2⟩
theorem RJ(k:Nat):fV Try.prog 89 (RI k):=ok (cx [f13 k,f33 k] 25 nb) Try.f89 fun h x=>Q (Q (Q (Q (X h) (Q (B (L RL (fun n x=>Ex.l4 k n x.1.2.2.1 x.1.2.2.2 x.2.1 x.2.2) k fun n4=>X h)) (X h))) (X h)) (X h)) (X h)
def f89(k:Nat):Fc Try.prog:=⟨89,_,RJ k⟩
def RB(k:Nat):cz:=⟨⟨[(0,z6),(1,z3)],[(0,w5)]⟩,⟨[(0,z7)],[(0,w5)]⟩,2,1,fun x=>Hy k x.1.2 x.2⟩
theorem RD(k:Nat):fV Try.prog 87 (RB k):=ok (cx [f89 k] 9 nb) Try.f87 fun h x=>X h
def f87(k:Nat):Fc Try.prog:=⟨87,_,RD k⟩
def RF(k:Nat):cz:=⟨⟨[(0,z6)],[(0,w5)]⟩,⟨[(0,z3)],[(0,w5)]⟩,1,1,fun x=>Hw k x.2⟩
theorem RH(k:Nat):fV Try.prog 88 (RF k):=ok (cx [f13 k,f71 k] 13 nb) Try.f88 fun h x=>X h
def f88(k:Nat):Fc Try.prog:=⟨88,_,RH k⟩
def Ru(k:Nat):cz:=⟨⟨[(0,z6),(1,z3)],[(0,w5)]⟩,⟨[(0,z20)],[(0,w5)]⟩,2,1,fun x=>I1 k x.1.2 x.2⟩
theorem Rv(k:Nat):fV Try.prog 84 (Ru k):=ok (cx [f12 k,f13 k,f71 k,f86 k,f87 k,f88 k] 53 nb) Try.f84 fun h x=>X h
def f84(k:Nat):Fc Try.prog:=⟨84,_,Rv k⟩
def QK:SS:=⟨[(0,z6),(1,zT),(2,z3),(3,Ag),(9,z3),(10,z3)],[(0,w5),(100,AV)]⟩
def QL:SS:=⟨[(0,z6),(1,zT),(2,z3),(3,Ag),(9,z3),(10,z3),(11,z3),(12,z3)],[(0,w5),(100,AV)]⟩
def QJ:SS:=⟨[(0,z6),(1,zT),(2,z3),(3,Ag),(9,z3),(10,z3)],[(0,w5),(100,AV)]⟩
def QN:SS:=⟨[(0,z6),(1,zT),(2,z3),(3,Ag),(9,z3)],[(0,w5),(100,AV)]⟩
def QM:SS:=⟨[(0,z6),(1,zT),(2,z3),(3,z17),(9,z3)],[(0,w5),(10,AV)]⟩
def Ip(F:(List zC)→Int→zL→(List zB)→Option (Unit×zL×(List zB))):cz:=⟨⟨[(0,z6),(1,zT),(2,z3),(3,z17)],[(0,w5),(10,AV)]⟩,⟨[(0,Ag)],[(0,w5),(100,AV)]⟩,4,1,fun x=>F x.1.2.1 x.1.2.2.1 x.2.1 x.2.2⟩
theorem QI(k:Nat)(Cr:(List zC)→Int→zL→(List zB)→Option (Unit×zL×(List zB)))(R9:fV Try.prog 73 (Ip Cr)):fV Try.prog 73 (Ip (zZ.b k Cr)):=ok (cx [f12 k,f13 k,f48 k,⟨73,_,R9⟩,f84 k] 81 nb) Try.f73 fun h x=>Q (Q (Q (T (Q (X h) (Q (B (L QJ (fun n x=>zZ.l10 k Cr n x.1.2.1 x.1.2.2.1 x.1.2.2.2.2.1 x.1.2.2.2.2.2 x.2.1 x.2.2) k fun n10=>Q (Q (T (X h) QK fun x=>zZ.c11 k (zZ.l10 k Cr n10) x.1.2.1 x.1.2.2.1 x.1.2.2.2.2.1 x.1.2.2.2.2.2 x.2.1 x.2.2) (B (Q (Q (Q (B (L QL (fun n x=>zZ.Gv k Cr (zZ.l10 k Cr n10) n x.1.2.1 x.1.2.2.1 x.1.2.2.2.2.1 x.1.2.2.2.2.2.1 x.1.2.2.2.2.2.2.1 x.1.2.2.2.2.2.2.2 x.2.1 x.2.2) k fun n16=>X h)) (X h)) (X h)) (X h)))) (X h))) (X h))) QN fun x=>zZ.c9 k Cr x.1.2.1 x.1.2.2.1 x.1.2.2.2.2 x.2.1 x.2.2) (Q (D (Q (Q (T (X h) QM fun x=>zZ.c8 k Cr x.1.2.1 x.1.2.2.1 x.1.2.2.2.2 x.2.1 x.2.2) (X h)) (X h)) (X h)) (X h))) (X h)) (X h)
theorem Kn(k:Nat):∀d,fV Try.prog 73 (Ip (zZ.d k d))
 |0=>zh (fun _=>rfl)
 |d+1=>let ih:=Kn k d
  QI k (zZ.d k d) ih
theorem QH(k:Nat):fV Try.prog 73 (Ip (zZ k)):=(Kn k k)
def f73(k:Nat):Fc Try.prog:=⟨73,_,QH k⟩
def Ry:SS:=⟨[(0,zT),(1,z3),(5,Ag),(6,z3),(7,z3)],[(100,AV)]⟩
def Iq(F:(List zC)→Int→Option (Unit×(List zB))):cz:=⟨⟨[(0,zT),(1,z3)],[]⟩,⟨[(0,Ag)],[(100,AV)]⟩,2,1,fun x=>F x.1 x.2⟩
theorem Rx(k:Nat)(FH:(List zC)→Int→Option (Unit×(List zB)))(R_:fV Try.prog 85 (Iq FH)):fV Try.prog 85 (Iq (Ch.b k FH)):=ok (cx [f48 k,⟨85,_,R_⟩] 49 nb) Try.f85 fun h x=>Q (Q (Q (Q (Q (X h) (Q (B (L Ry (fun n x=>Ch.l6 k FH n x.1.1 x.1.2.1 x.1.2.2.2.1 x.1.2.2.2.2 x.2) k fun n6=>X h)) (X h))) (X h)) (X h)) (X h)) (X h)
theorem Ko(k:Nat):∀d,fV Try.prog 85 (Iq (Ch.d k d))
 |0=>zh (fun _=>rfl)
 |d+1=>let ih:=Ko k d
  Rx k (Ch.d k d) ih
theorem Rw(k:Nat):fV Try.prog 85 (Iq (Ch k)):=(Ko k k)
def f85(k:Nat):Fc Try.prog:=⟨85,_,Rw k⟩
def QO(k:Nat):cz:=⟨⟨[(0,zT)],[]⟩,⟨[(0,(.agg (.cons Ag .nil))),(1,z1)],[(100,AV)]⟩,1,2,fun x=>IW k x⟩
theorem QS(k:Nat):fV Try.prog 74 (QO k):=ok (cx [f21 k,f85 k] 11 nb) Try.f74 fun h x=>X h
def f74(k:Nat):Fc Try.prog:=⟨74,_,QS k⟩
def Pm:SS:=⟨[(4,z4),(5,(.p 101))],[(0,w5),(100,(.box y24 (.agg (.cons (.h 103) .nil)))),(101,(.box y24 (.agg (.cons (.h 102) .nil)))),(102,AV),(103,AV)]⟩
def Pj(k:Nat):cz:=⟨⟨[(0,z6),(1,zT)],[(0,w5)]⟩,⟨[(0,(.agg (.cons Ag .nil)))],[(0,w5),(100,AV)]⟩,2,1,fun x=>FC k x.1.2 x.2⟩
theorem Pk(k:Nat):fV Try.prog 53 (Pj k):=ok (cx [f26 k,f73 k,f74 k] 21 nb) Try.f53 fun h x=>Q (Q (Q (T (X h) Pm fun x=>FC.c4 k x.2.1 x.2.2.1 x.2.2.2.1 x.2.2.2.2.1 x.2.2.2.2.2) (X h)) (X h)) (X h)
def f53(k:Nat):Fc Try.prog:=⟨53,_,Pk k⟩
def NM:SS:=⟨[(0,z6),(1,zT),(7,Ag),(8,z3),(9,z3)],[(0,w5),(100,Fj)]⟩
def NJ(k:Nat):cz:=⟨⟨[(0,z6),(1,zT),(2,z3)],[(0,w5)]⟩,⟨[(0,Ag)],[(0,w5),(100,Fj)]⟩,3,1,fun x=>Ee k x.1.2.1 x.1.2.2 x.2⟩
theorem NK(k:Nat):fV Try.prog 32 (NJ k):=ok (cx [f13 k,f53 k] 27 nb) Try.f32 fun h x=>Q (Q (Q (Q (X h) (Q (B (L NM (fun n x=>Ee.l4 k n x.1.2.1 x.1.2.2.2.1 x.1.2.2.2.2 x.2.1 x.2.2) k fun n4=>X h)) (X h))) (X h)) (X h)) (X h)
def f32(k:Nat):Fc Try.prog:=⟨32,_,NK k⟩
def Mx:SS:=⟨[(4,zT),(5,Ag)],[(0,w5),(100,Gb)]⟩
def Mw:SS:=⟨[(0,z6),(4,zT),(5,Ag),(7,z3),(8,Ei)],[(0,w5),(100,Gb),(101,(.sl 46 y25))]⟩
def Ms(k:Nat):cz:=⟨⟨[(0,z6)],[(0,w5)]⟩,⟨[(0,zT),(1,Ag)],[(0,w5),(100,Gb)]⟩,1,2,fun x=>BV k x.2⟩
theorem Mv(k:Nat):fV Try.prog 11 (Ms k):=ok (cx [f12 k,f13 k,f30 k,f31 k,f32 k] 107 (fun s=>Nat.beq s 23)) Try.f11 fun h x=>Q (Q (Q (Q (Q (Q (Q (T (Q (Q (T (X h) Mx fun x=>BV.c23 k x.1.1 x.2.1 x.2.2) (X h)) (X h)) Mw fun x=>BV.c20 k x.1.2.1 x.1.2.2.2.1 x.2.1 x.2.2.1 x.2.2.2) (X h)) (X h)) (X h)) (X h)) (X h)) (X h)) (X h)
def f11(k:Nat):Fc Try.prog:=⟨11,_,Mv k⟩
def PO:SS:=⟨[(4,z4),(5,Ei),(7,(.h 102)),(8,z3)],[(100,w5),(101,w16),(102,(.sl 46 y25))]⟩
def PM(k:Nat):cz:=⟨⟨[(0,z0)],[]⟩,⟨[(0,zT),(1,Ag)],[(100,Gb)]⟩,1,2,fun x=>EN k x⟩
theorem PN(k:Nat):fV Try.prog 5 (PM k):=ok (cx [f10 k,f11 k,f12 k,f13 k] 40 nb) Try.f5 fun h x=>Q (Q (Q (Q (X h) (Q (D (Q (Q (Q (X h) (Q (B (L PO (fun n x=>EN.l7 k n x.1.2.2.2 x.2.1 x.2.2.1 x.2.2.2) k fun n7=>X h)) (X h))) (X h)) (X h)) (X h)) (X h))) (X h)) (X h)) (X h)
def f5(k:Nat):Fc Try.prog:=⟨5,_,PN k⟩
def NR(k:Nat):cz:=⟨⟨[(0,z3),(1,z3),(2,z3)],[]⟩,⟨[(0,z1)],[]⟩,3,1,fun x=>Dz k x.1 x.2.1 x.2.2⟩
theorem NS(k:Nat):fV Try.prog 34 (NR k):=ok (cx [] 15 nb) Try.f34 fun h x=>X h
def f34(k:Nat):Fc Try.prog:=⟨34,_,NS k⟩
def QT(k:Nat):cz:=⟨⟨[(0,z3)],[]⟩,⟨[(0,z1)],[]⟩,1,1,fun x=>IA k x⟩
theorem QU(k:Nat):fV Try.prog 75 (QT k):=ok (cx [f34 k] 13 nb) Try.f75 fun h x=>X h
def f75(k:Nat):Fc Try.prog:=⟨75,_,QU k⟩
def Pn(k:Nat):cz:=⟨⟨[(0,(.ro y9))],[]⟩,⟨[(0,z1)],[]⟩,1,1,fun x=>IC k x⟩
theorem Po(k:Nat):fV Try.prog 54 (Pn k):=ok (cx [f34 k,f75 k] 30 nb) Try.f54 fun h x=>X h
def f54(k:Nat):Fc Try.prog:=⟨54,_,Po k⟩
def Pt:SS:=⟨[(0,z7),(5,z3),(6,z3)],[]⟩
def Pp(k:Nat):cz:=⟨⟨[(0,z7)],[]⟩,⟨[(0,z1)],[]⟩,1,1,fun x=>EF k x⟩
theorem Pq(k:Nat):fV Try.prog 55 (Pp k):=ok (cx [f34 k] 19 nb) Try.f55 fun h x=>Q (Q (X h) (Q (B (L Pt (fun n x=>EF.l2 k n x.1 x.2.1 x.2.2) k fun n2=>X h)) (X h))) (X h)
def f55(k:Nat):Fc Try.prog:=⟨55,_,Pq k⟩
def NV:SS:=⟨[(0,zT),(2,z3),(7,z3),(8,Ag),(47,z3),(48,z3),(54,Ag),(55,z3),(56,z3)],[(100,(.sl 9 .str))]⟩
def NW:SS:=⟨[(0,zT),(2,z3),(7,z3),(8,Ag),(47,z3),(48,z3)],[(100,(.sl 9 .str))]⟩
def Ik(F:(List zC)→Int→Int→Option Int):cz:=⟨⟨[(0,zT),(1,z3),(2,z3)],[]⟩,⟨[(0,z3)],[]⟩,3,1,fun x=>F x.1 x.2.1 x.2.2⟩
theorem NU(k:Nat)(D8:(List zC)→Int→Int→Option Int)(R6:fV Try.prog 35 (Ik D8)):fV Try.prog 35 (Ik (Ao.b k D8)):=ok (cx [⟨35,_,R6⟩,f54 k,f55 k] 85 nb) Try.f35 fun h x=>Q (Q (Q (Q (Q (X h) (Q (B (L NW (fun n x=>Ao.l6 k D8 n x.1.1 x.1.2.1 x.1.2.2.1 x.1.2.2.2.2.1 x.1.2.2.2.2.2 x.2) k fun n6=>Q (Q (Q (X h) (B (Q (Q (X h) (Q (B (L NV (fun n x=>Ao.l10 k D8 (Ao.l6 k D8 n6) n x.1.1 x.1.2.1 x.1.2.2.1 x.1.2.2.2.2.1 x.1.2.2.2.2.2.1 x.1.2.2.2.2.2.2.2.1 x.1.2.2.2.2.2.2.2.2 x.2) k fun n10=>X h)) (X h))) (X h)))) (X h)) (X h))) (X h))) (X h)) (X h)) (X h)) (X h)
theorem Kg(k:Nat):∀d,fV Try.prog 35 (Ik (Ao.d k d))
 |0=>zh (fun _=>rfl)
 |d+1=>let ih:=Kg k d
  NU k (Ao.d k d) ih
theorem NT(k:Nat):fV Try.prog 35 (Ik (Ao k)):=(Kg k k)
def f35(k:Nat):Fc Try.prog:=⟨35,_,NT k⟩
def MG(k:Nat):cz:=⟨⟨[(0,zT)],[]⟩,⟨[(0,z1)],[]⟩,1,1,fun x=>DU k x⟩
theorem MH(k:Nat):fV Try.prog 14 (MG k):=ok (cx [f34 k,f35 k] 33 nb) Try.f14 fun h x=>X h
def f14(k:Nat):Fc Try.prog:=⟨14,_,MH k⟩
def ML:SS:=⟨[(3,Ag),(7,zT),(8,z3),(9,z3)],[(100,zW)]⟩
def MK:SS:=⟨[(3,Ag),(7,zT),(8,z3),(9,z3)],[(100,zW)]⟩
def MI(k:Nat):cz:=⟨⟨[(0,zT)],[]⟩,⟨[(0,Ag)],[(100,zW)]⟩,1,1,fun x=>CV k x⟩
theorem MJ(k:Nat):fV Try.prog 15 (MI k):=ok (cx [] 23 nb) Try.f15 fun h x=>Q (Q (Q (X h) (Q (B (L MK (fun n x=>CV.l3 k n x.1.2.1 x.1.2.2.1 x.1.2.2.2 x.2) k fun n3=>Q (Q (Q (T (X h) ML fun x=>CV.c7 k (CV.l3 k n3) x.1.2.1 x.1.2.2.1 x.1.2.2.2 x.2) (X h)) (X h)) (X h))) (X h))) (X h)) (X h)
def f15(k:Nat):Fc Try.prog:=⟨15,_,MJ k⟩
def Pv(k:Nat):cz:=⟨⟨[(0,zT)],[]⟩,⟨[(0,Ag)],[(100,zW)]⟩,1,1,fun x=>GZ k x⟩
theorem Pw(k:Nat):fV Try.prog 56 (Pv k):=ok (cx [f14 k,f15 k] 8 nb) Try.f56 fun h x=>X h
def f56(k:Nat):Fc Try.prog:=⟨56,_,Pw k⟩
def QX:SS:=⟨[(0,zT),(1,z3),(5,Ag),(6,Ei),(7,z3)],[(100,zW),(101,zW)]⟩
def QV(k:Nat):cz:=⟨⟨[(0,zT),(1,z3)],[]⟩,⟨[(0,Ag)],[(100,zW)]⟩,2,1,fun x=>Eb k x.1 x.2⟩
theorem QW(k:Nat):fV Try.prog 76 (QV k):=ok (cx [f34 k,f35 k,f56 k] 41 nb) Try.f76 fun h x=>Q (Q (Q (Q (Q (X h) (Q (B (L QX (fun n x=>Eb.l6 k n x.1.1 x.1.2.1 x.1.2.2.2.2 x.2.1 x.2.2) k fun n6=>X h)) (X h))) (X h)) (X h)) (X h)) (X h)
def f76(k:Nat):Fc Try.prog:=⟨76,_,QW k⟩
def PC:SS:=⟨[(0,zT),(7,z3),(8,z3),(17,Ag),(18,z3),(19,z3)],[(100,zW)]⟩
def Pz:SS:=⟨[(0,zT),(7,z3),(8,z3),(10,z3),(17,Ag),(18,z3),(19,z3)],[(100,zW)]⟩
def PD:SS:=⟨[(0,zT),(7,z3),(8,z3),(17,Ag),(18,z3),(19,z3)],[(100,zW)]⟩
def Px(k:Nat):cz:=⟨⟨[(0,zT),(1,z3)],[]⟩,⟨[(0,z3),(1,z3)],[]⟩,2,2,fun x=>Cc k x.1 x.2⟩
theorem Py(k:Nat):fV Try.prog 57 (Px k):=ok (cx [f76 k] 42 nb) Try.f57 fun h x=>Q (Q (Q (Q (Q (X h) (Q (B (L PD (fun n x=>Cc.l6 k n x.1.1 x.1.2.1 x.1.2.2.1 x.1.2.2.2.2.1 x.1.2.2.2.2.2 x.2) k fun n6=>Q (Q (Q (T (X h) PC fun x=>Cc.c12 k (Cc.l6 k n6) x.1.1 x.1.2.1 x.1.2.2.1 x.1.2.2.2.2.1 x.1.2.2.2.2.2 x.2) (B (Q (Q (T (X h) Pz fun x=>Cc.c10 k (Cc.l6 k n6) x.1.1 x.1.2.1 x.1.2.2.1 x.1.2.2.2.1 x.1.2.2.2.2.2.1 x.1.2.2.2.2.2.2 x.2) (X h)) (X h)))) (X h)) (X h))) (X h))) (X h)) (X h)) (X h)) (X h)
def f57(k:Nat):Fc Try.prog:=⟨57,_,Py k⟩
def NY(k:Nat):cz:=⟨⟨[(0,zT),(1,z3)],[]⟩,⟨[(0,(.agg v12)),(1,z1)],[]⟩,2,2,fun x=>Iw k x.1 x.2⟩
theorem NZ(k:Nat):fV Try.prog 36 (NY k):=ok (cx [f34 k,f56 k,f57 k] 35 nb) Try.f36 fun h x=>X h
def f36(k:Nat):Fc Try.prog:=⟨36,_,NZ k⟩
def Rf(k:Nat):cz:=⟨⟨[(0,z3)],[]⟩,⟨[(0,z1)],[]⟩,1,1,fun x=>Jo k x⟩
theorem Rh(k:Nat):fV Try.prog 80 (Rf k):=ok (cx [f34 k] 5 nb) Try.f80 fun h x=>X h
def f80(k:Nat):Fc Try.prog:=⟨80,_,Rh k⟩
def Qr:SS:=⟨[(0,z3),(3,z4),(26,z1)],[(100,I4)]⟩
def Qp(k:Nat):cz:=⟨⟨[(0,z3),(1,(.ro EU))],[]⟩,⟨[(0,z1)],[]⟩,2,1,fun x=>EE k x.1 x.2⟩
theorem Qq(k:Nat):fV Try.prog 69 (Qp k):=ok (cx [f34 k,f80 k] 45 nb) Try.f69 fun h x=>Q (Q (X h) (Q (B (Q (D (X h) (Q (D (X h) (Q (T (X h) Qr fun x=>EE.c8 k x.1.1 x.1.2.2 x.2) (X h))) (X h))) (X h))) (X h))) (X h)
def f69(k:Nat):Fc Try.prog:=⟨69,_,Qq k⟩
def PE(k:Nat):cz:=⟨⟨[(0,(.ro (.st u8))),(1,(.ro y25))],[]⟩,⟨[(0,z1)],[]⟩,2,1,fun x=>IE k x.1 x.2⟩
theorem PG(k:Nat):fV Try.prog 58 (PE k):=ok (cx [f34 k,f69 k] 33 nb) Try.f58 fun h x=>X h
def f58(k:Nat):Fc Try.prog:=⟨58,_,PG k⟩
def N9:SS:=⟨[(1,z35),(2,z4),(7,z35),(8,z3),(9,z3)],[(100,(.box (.st u8) (.agg v12)))]⟩
def N7(k:Nat):cz:=⟨⟨[(0,(.ro (.st u8))),(1,z35)],[]⟩,⟨[(0,z1)],[]⟩,2,1,fun x=>EI k x.1 x.2⟩
theorem N8(k:Nat):fV Try.prog 37 (N7 k):=ok (cx [f58 k] 21 nb) Try.f37 fun h x=>Q (Q (X h) (Q (B (L N9 (fun n x=>EI.l2 k n x.1.1 x.1.2.2.1 x.1.2.2.2.1 x.1.2.2.2.2 x.2) k fun n2=>X h)) (X h))) (X h)
def f37(k:Nat):Fc Try.prog:=⟨37,_,N8 k⟩
def MM(k:Nat):cz:=⟨⟨[(0,zT),(1,z3),(2,z35)],[]⟩,⟨[(0,z1)],[]⟩,3,1,fun x=>Iz k x.1 x.2.1 x.2.2⟩
theorem MN(k:Nat):fV Try.prog 16 (MM k):=ok (cx [f36 k,f37 k] 33 nb) Try.f16 fun h x=>X h
def f16(k:Nat):Fc Try.prog:=⟨16,_,MN k⟩
def Od:SS:=⟨[(3,z3),(6,z35),(7,z3),(8,z3)],[]⟩
def Oc:SS:=⟨[(3,z3),(6,z35),(7,z3),(8,z3)],[]⟩
def N_(k:Nat):cz:=⟨⟨[(0,z35)],[]⟩,⟨[(0,z3)],[]⟩,1,1,fun x=>Dg k x⟩
theorem Oa(k:Nat):fV Try.prog 38 (N_ k):=ok (cx [] 19 nb) Try.f38 fun h x=>Q (Q (Q (X h) (Q (B (L Oc (fun n x=>Dg.l3 k n x.1 x.2.1 x.2.2.1 x.2.2.2) k fun n3=>Q (Q (Q (T (X h) Od fun x=>Dg.c7 k (Dg.l3 k n3) x.1 x.2.1 x.2.2.1 x.2.2.2) (X h)) (X h)) (X h))) (X h))) (X h)) (X h)
def f38(k:Nat):Fc Try.prog:=⟨38,_,Oa k⟩
def MQ:SS:=⟨[(4,z3),(12,z37),(13,z3),(14,z3)],[]⟩
def MO(k:Nat):cz:=⟨⟨[(0,z37)],[]⟩,⟨[(0,z3),(1,z1)],[]⟩,1,2,fun x=>EH k x⟩
theorem MP(k:Nat):fV Try.prog 17 (MO k):=ok (cx [f38 k] 27 nb) Try.f17 fun h x=>Q (Q (Q (X h) (Q (B (L MQ (fun n x=>EH.l3 k n x.1 x.2.1 x.2.2.1 x.2.2.2) k fun n3=>X h)) (X h))) (X h)) (X h)
def f17(k:Nat):Fc Try.prog:=⟨17,_,MP k⟩
def MU:SS:=⟨[(3,Ag),(10,Ei),(11,z3),(12,z3)],[(100,zW),(101,zW)]⟩
def MR(k:Nat):cz:=⟨⟨[(0,zT)],[]⟩,⟨[(0,Ag)],[(100,zW)]⟩,1,1,fun x=>DW k x⟩
theorem MS(k:Nat):fV Try.prog 18 (MR k):=ok (cx [f15 k] 23 nb) Try.f18 fun h x=>Q (Q (Q (X h) (Q (B (L MU (fun n x=>DW.l3 k n x.1.2.2.1 x.1.2.2.2 x.2.1 x.2.2) k fun n3=>X h)) (X h))) (X h)) (X h)
def f18(k:Nat):Fc Try.prog:=⟨18,_,MS k⟩
def PL:SS:=⟨[(0,z6),(1,z3),(4,z4)],[(0,Eh),(10,zW),(11,AV),(100,(.box y25 z28))]⟩
def PI(k:Nat):cz:=⟨⟨[(0,z6),(1,z3)],[(0,Eh),(10,zW),(11,AV)]⟩,⟨[(0,z28),(1,z1)],[(0,Eh),(10,zW),(11,AV)]⟩,2,2,fun x=>EG k x.1.2 x.2.1 x.2.2.1 x.2.2.2⟩
theorem PK(k:Nat):fV Try.prog 59 (PI k):=ok (cx [] 60 nb) Try.f59 fun h x=>Q (Q (X h) (B (L PL (fun n x=>EG.l1 k n x.1.2.1 x.2.1 x.2.2.1 x.2.2.2.1 x.2.2.2.2) k fun n1=>X h))) (X h)
def f59(k:Nat):Fc Try.prog:=⟨59,_,PK k⟩
def Oe(k:Nat):cz:=⟨⟨[(0,z6),(1,z3),(2,z3),(3,z3)],[(0,Eh),(10,zW),(11,AV)]⟩,⟨[(0,z20)],[(0,Eh),(10,zW),(11,AV)]⟩,4,1,fun x=>G5 k x.1.2.1 x.1.2.2.1 x.1.2.2.2 x.2.1 x.2.2.1 x.2.2.2⟩
theorem Og(k:Nat):fV Try.prog 39 (Oe k):=ok (cx [f59 k] 58 nb) Try.f39 fun h x=>X h
def f39(k:Nat):Fc Try.prog:=⟨39,_,Og k⟩
def PU:SS:=⟨[(0,z6),(2,z3),(3,z3),(9,z3),(10,z3)],[(0,Eh),(10,zW),(11,AV)]⟩
def PT:SS:=⟨[(0,z6),(2,z3),(3,z3),(9,z3),(10,z3)],[(0,Eh),(10,zW),(11,AV)]⟩
def PR(k:Nat):cz:=⟨⟨[(0,z6),(1,z3),(2,z3),(3,z3)],[(0,Eh),(10,zW),(11,AV)]⟩,⟨[(0,z3)],[(0,Eh),(10,zW),(11,AV)]⟩,4,1,fun x=>Cy k x.1.2.1 x.1.2.2.1 x.1.2.2.2 x.2.1 x.2.2.1 x.2.2.2⟩
theorem PS(k:Nat):fV Try.prog 60 (PR k):=ok (cx [f35 k,f39 k] 38 nb) Try.f60 fun h x=>Q (Q (Q (X h) (Q (B (L PT (fun n x=>Cy.l3 k n x.1.2.1 x.1.2.2.1 x.1.2.2.2.1 x.1.2.2.2.2 x.2.1 x.2.2.1 x.2.2.2) k fun n3=>Q (Q (T (X h) PU fun x=>Cy.c4 k (Cy.l3 k n3) x.1.2.1 x.1.2.2.1 x.1.2.2.2.1 x.1.2.2.2.2 x.2.1 x.2.2.1 x.2.2.2) (X h)) (X h))) (X h))) (X h)) (X h)
def f60(k:Nat):Fc Try.prog:=⟨60,_,PS k⟩
def MX:SS:=⟨[(12,z3)],[(0,Gc),(10,zW),(100,AV)]⟩
def MZ:SS:=⟨[(0,z6),(2,z3),(3,z3),(4,z3),(12,z3),(48,z3),(49,z3)],[(0,Gc),(10,zW),(100,AV)]⟩
def Gl(F:Int→Int→Int→Int→zQ→(List Int)→(List zB)→Option (Int×zQ×(List Int)×(List zB))):cz:=⟨⟨[(0,z6),(1,z3),(2,z3),(3,z3),(4,z3)],[(0,Eh),(10,zW),(11,AV)]⟩,⟨[(0,z3)],[(0,Gc),(10,zW),(100,AV)]⟩,5,1,fun x=>F x.1.2.1 x.1.2.2.1 x.1.2.2.2.1 x.1.2.2.2.2 x.2.1 x.2.2.1 x.2.2.2⟩
def Ol:SS:=⟨[(0,z6),(1,z3),(13,z3),(14,z3)],[(0,Gc),(10,zW),(100,AV)]⟩
def Om:SS:=⟨[(0,z6),(1,z3),(2,z3),(3,z3),(4,z3),(11,z4)],[(0,Eh),(10,zW),(11,AV),(100,(.box y25 z28))]⟩
def Gm(F:Int→Int→Int→Int→zQ→(List Int)→(List zB)→Option (Int×zQ×(List Int)×(List zB))):cz:=⟨⟨[(0,z6),(1,z3),(2,z3),(3,z3),(4,z3)],[(0,Eh),(10,zW),(11,AV)]⟩,⟨[(0,z3)],[(0,Gc),(10,zW),(100,AV)]⟩,5,1,fun x=>F x.1.2.1 x.1.2.2.1 x.1.2.2.2.1 x.1.2.2.2.2 x.2.1 x.2.2.1 x.2.2.2⟩
def PX:SS:=⟨[(0,z6),(1,z3),(3,z3),(4,z3),(11,z3)],[(0,Gc),(10,zW),(100,AV)]⟩
def Gn(F:Int→Int→Int→Int→zQ→(List Int)→(List zB)→Option (Int×zQ×(List Int)×(List zB))):cz:=⟨⟨[(0,z6),(1,z3),(2,z3),(3,z3),(4,z3)],[(0,Eh),(10,zW),(11,AV)]⟩,⟨[(0,z3)],[(0,Gc),(10,zW),(100,AV)]⟩,5,1,fun x=>F x.1.2.1 x.1.2.2.1 x.1.2.2.2.1 x.1.2.2.2.2 x.2.1 x.2.2.1 x.2.2.2⟩
theorem MW(k:Nat)(Cw:Int→Int→Int→Int→zQ→(List Int)→(List zB)→Option (Int×zQ×(List Int)×(List zB)))(Du:Int→Int→Int→Int→zQ→(List Int)→(List zB)→Option (Int×zQ×(List Int)×(List zB)))(Dv:Int→Int→Int→Int→zQ→(List Int)→(List zB)→Option (Int×zQ×(List Int)×(List zB)))(h19:fV Try.prog 19 (Gl Cw))(Ji:fV Try.prog 40 (Gm Du))(Jj:fV Try.prog 61 (Gn Dv)):fV Try.prog 19 (Gl (zV.b k Cw Du Dv)):=ok (cx [f39 k,⟨40,_,Ji⟩] 63 nb) Try.f19 fun h x=>Q (Q (Q (Q (T (X h) MX fun x=>zV.c11 k x.1 x.2.1 x.2.2.1 x.2.2.2) (Q (B (L MZ (fun n x=>zV.l7 k Du n x.1.2.1 x.1.2.2.1 x.1.2.2.2.1 x.1.2.2.2.2.1 x.1.2.2.2.2.2.1 x.1.2.2.2.2.2.2 x.2.1 x.2.2.1 x.2.2.2) k fun n7=>X h)) (X h))) (X h)) (X h)) (X h)
theorem Oj(k:Nat)(Cw:Int→Int→Int→Int→zQ→(List Int)→(List zB)→Option (Int×zQ×(List Int)×(List zB)))(Du:Int→Int→Int→Int→zQ→(List Int)→(List zB)→Option (Int×zQ×(List Int)×(List zB)))(Dv:Int→Int→Int→Int→zQ→(List Int)→(List zB)→Option (Int×zQ×(List Int)×(List zB)))(h19:fV Try.prog 19 (Gl Cw))(Ji:fV Try.prog 40 (Gm Du))(Jj:fV Try.prog 61 (Gn Dv)):fV Try.prog 40 (Gm (BG.b k Cw Du Dv)):=ok (cx [⟨19,_,h19⟩,f35 k,f59 k,f60 k,⟨61,_,Jj⟩] 117 nb) Try.f40 fun h x=>Q (Q (Q (Q (T (Q (Q (Q (Q (Q (T (X h) Ol fun x=>BG.c15 k x.1.2.1 x.1.2.2.1 x.1.2.2.2 x.2.1 x.2.2.1 x.2.2.2) (X h)) (X h)) (X h)) (X h)) (X h)) Om fun x=>BG.c6 k Cw Dv x.1.2.1 x.1.2.2.1 x.1.2.2.2.1 x.1.2.2.2.2.1 x.2.1 x.2.2.1 x.2.2.2.1 x.2.2.2.2) (X h)) (X h)) (X h)) (X h)
theorem PW(k:Nat)(Cw:Int→Int→Int→Int→zQ→(List Int)→(List zB)→Option (Int×zQ×(List Int)×(List zB)))(Du:Int→Int→Int→Int→zQ→(List Int)→(List zB)→Option (Int×zQ×(List Int)×(List zB)))(Dv:Int→Int→Int→Int→zQ→(List Int)→(List zB)→Option (Int×zQ×(List Int)×(List zB)))(h19:fV Try.prog 19 (Gl Cw))(Ji:fV Try.prog 40 (Gm Du))(Jj:fV Try.prog 61 (Gn Dv)):fV Try.prog 61 (Gn (BR.b k Cw Du Dv)):=ok (cx [⟨19,_,h19⟩,f59 k] 49 nb) Try.f61 fun h x=>Q (Q (Q (B (L PX (fun n x=>BR.l4 k Cw n x.1.2.1 x.1.2.2.1 x.1.2.2.2.1 x.1.2.2.2.2 x.2.1 x.2.2.1 x.2.2.2) k fun n4=>X h)) (X h)) (X h)) (X h)
theorem Ij(k:Nat):∀d,fV Try.prog 19 (Gl (zV.d k d))∧fV Try.prog 40 (Gm (BG.d k d))∧fV Try.prog 61 (Gn (BR.d k d))
 |0=>⟨zh (fun _=>rfl),zh (fun _=>rfl),zh (fun _=>rfl)⟩
 |d+1=>let ih:=Ij k d
  ⟨MW k (zV.d k d) (BG.d k d) (BR.d k d) ih.1 ih.2.1 ih.2.2,Oj k (zV.d k d) (BG.d k d) (BR.d k d) ih.1 ih.2.1 ih.2.2,PW k (zV.d k d) (BG.d k d) (BR.d k d) ih.1 ih.2.1 ih.2.2⟩
theorem MV(k:Nat):fV Try.prog 19 (Gl (zV k)):=(Ij k k).1
def f19(k:Nat):Fc Try.prog:=⟨19,_,MV k⟩
theorem Oi(k:Nat):fV Try.prog 40 (Gm (BG k)):=(Ij k k).2.1
def f40(k:Nat):Fc Try.prog:=⟨40,_,Oi k⟩
theorem PV(k:Nat):fV Try.prog 61 (Gn (BR k)):=(Ij k k).2.2
def f61(k:Nat):Fc Try.prog:=⟨61,_,PV k⟩
def M4:SS:=⟨[(0,z6),(8,z37),(9,z3),(10,z3)],[(0,JI),(10,zW)]⟩
def M0(k:Nat):cz:=⟨⟨[(0,z6)],[(0,JI),(10,zW)]⟩,⟨[(0,z1)],[(0,JI),(10,zW)]⟩,1,1,fun x=>Eo k x.2.1 x.2.2⟩
theorem M3(k:Nat):fV Try.prog 20 (M0 k):=ok (cx [] 27 nb) Try.f20 fun h x=>Q (Q (X h) (Q (B (L M4 (fun n x=>Eo.l2 k n x.1.2.1 x.1.2.2.1 x.1.2.2.2 x.2.1 x.2.2) k fun n2=>X h)) (X h))) (X h)
def f20(k:Nat):Fc Try.prog:=⟨20,_,M3 k⟩
def Qv:SS:=⟨[(8,z3),(10,z4),(11,Ei),(12,z3)],[(100,(.box y38 (.agg (.cons zT (.cons z37 (.cons (.ro ET) (.cons (.h 102) (.cons .any v39)))))))),(101,Fj),(102,zW)]⟩
def Qt:SS:=⟨[(0,zT),(1,z37),(8,z3)],[]⟩
def Qw:SS:=⟨[(0,zT),(1,z37),(24,z37),(25,z3),(26,z3)],[]⟩
def Qs(k:Nat):cz:=⟨⟨[(0,zT),(1,z37)],[]⟩,⟨[(0,Ag),(1,z3)],[(100,Fj)]⟩,2,2,fun x=>Bq k x.1 x.2⟩
theorem Qu(k:Nat):fV Try.prog 6 (Qs k):=ok (cx [f14 k,f15 k,f16 k,f17 k,f18 k,f19 k,f20 k] 111 (fun s=>Nat.beq s 100)) Try.f6 fun h x=>Q (Q (Q (Q (Q (Q (Q (Q (X h) (Q (B (L Qv (fun n x=>Bq.Dh k n x.1.1 x.1.2.2.2 x.2.1 x.2.2.1 x.2.2.2) k fun n15=>X h)) (X h))) (X h)) (K h Qt (fun x=>Bq.d12 k x.1 x.2.1 x.2.2) [[0,1,2,4,5,3,6,7,8,9],[0,1,2,4,5,6,3,7,8,9]] (O (fun x=>by kernel_rfl) (O (fun x=>Eq.trans (b:=cond (pQ (List.length x.2.1:Int)) ((DW k x.1).bind fun r7=>Bq.Dh k k x.2.2 0 (x.1,x.2.1,r7.2,(),(),false,false,()) [] (List.replicate (Int.toNat (List.length x.2.1:Int)) 0)) none) (by kernel_rfl) (by show _=Bq.d12 k x.1 x.2.1 x.2.2;unfold Bq.d12;cases(DW k x.1)<;>cases((pQ (List.length x.2.1:Int)))<;>rfl)) (N))))) (X h)) (X h)) (Q (B (L Qw (fun n x=>Bq.l4 k n x.1 x.2.1 x.2.2.1 x.2.2.2.1 x.2.2.2.2) k fun n4=>X h)) (X h))) (X h)) (X h)
def f6(k:Nat):Fc Try.prog:=⟨6,_,Qu k⟩
def P9(k:Nat):cz:=⟨⟨[(0,zT)],[]⟩,⟨[(0,Ag)],[(100,zW)]⟩,1,1,fun x=>IX k x⟩
theorem P_(k:Nat):fV Try.prog 64 (P9 k):=ok (cx [f21 k,f22 k] 9 nb) Try.f64 fun h x=>X h
def f64(k:Nat):Fc Try.prog:=⟨64,_,P_ k⟩
def Q3:SS:=⟨[(0,zT),(1,z3),(5,Ag),(6,z3)],[(100,zW)]⟩
def Q0:SS:=⟨[(0,zT),(1,z3),(5,Ag),(6,z3)],[(100,zW)]⟩
def QY(k:Nat):cz:=⟨⟨[(0,zT),(1,z3)],[]⟩,⟨[(0,Ag)],[(100,zW)]⟩,2,1,fun x=>Dr k x.1 x.2⟩
theorem QZ(k:Nat):fV Try.prog 77 (QY k):=ok (cx [f48 k] 23 nb) Try.f77 fun h x=>Q (Q (Q (X h) (Q (B (L Q0 (fun n x=>Dr.l3 k n x.1.1 x.1.2.1 x.1.2.2.2 x.2) k fun n3=>Q (Q (T (X h) Q3 fun x=>Dr.c4 k (Dr.l3 k n3) x.1.1 x.1.2.1 x.1.2.2.2 x.2) (X h)) (X h))) (X h))) (X h)) (X h)
def f77(k:Nat):Fc Try.prog:=⟨77,_,QZ k⟩
def Qd:SS:=⟨[(0,zT),(6,z3),(7,z3),(8,Ag),(9,z3)],[(100,zW)]⟩
def Qe:SS:=⟨[(0,zT),(6,z3),(7,z3),(8,Ag),(9,z3)],[(100,zW)]⟩
def Qc:SS:=⟨[(0,zT),(6,z3),(7,z3),(8,Ag),(9,z3)],[(100,zW)]⟩
def Qa(k:Nat):cz:=⟨⟨[(0,zT),(1,z3)],[]⟩,⟨[(0,z3),(1,z3)],[]⟩,2,2,fun x=>Ci k x.1 x.2⟩
theorem Qb(k:Nat):fV Try.prog 65 (Qa k):=ok (cx [f77 k] 43 nb) Try.f65 fun h x=>Q (Q (Q (Q (X h) (Q (B (L Qc (fun n x=>Ci.l4 k n x.1.1 x.1.2.1 x.1.2.2.1 x.1.2.2.2.2 x.2) k fun n4=>Q (Q (T (X h) Qd fun x=>Ci.c5 k (Ci.l4 k n4) x.1.1 x.1.2.1 x.1.2.2.1 x.1.2.2.2.2 x.2) (B (Q (T (X h) Qe fun x=>Ci.c8 k (Ci.l4 k n4) x.1.1 x.1.2.1 x.1.2.2.1 x.1.2.2.2.2 x.2) (X h)))) (X h))) (X h))) (X h)) (X h)) (X h)
def f65(k:Nat):Fc Try.prog:=⟨65,_,Qb k⟩
def Oy(k:Nat):cz:=⟨⟨[(0,zT),(1,z3)],[]⟩,⟨[(0,(.agg v12)),(1,z1)],[]⟩,2,2,fun x=>Hr k x.1 x.2⟩
theorem Oz(k:Nat):fV Try.prog 43 (Oy k):=ok (cx [f41 k,f64 k,f65 k] 38 nb) Try.f43 fun h x=>X h
def f43(k:Nat):Fc Try.prog:=⟨43,_,Oz k⟩
def OA(k:Nat):cz:=⟨⟨[(0,(.ro (.st u8))),(1,(.ro y25))],[]⟩,⟨[(0,z1)],[]⟩,2,1,fun x=>IY k x.1 x.2⟩
theorem OB(k:Nat):fV Try.prog 44 (OA k):=ok (cx [f41 k,f66 k] 35 nb) Try.f44 fun h x=>X h
def f44(k:Nat):Fc Try.prog:=⟨44,_,OB k⟩
def Nc:SS:=⟨[(2,z35),(7,z4),(9,z3)],[(100,(.box (.st u8) (.agg v12)))]⟩
def Na(k:Nat):cz:=⟨⟨[(0,zT),(1,z3),(2,z35)],[]⟩,⟨[(0,z1)],[]⟩,3,1,fun x=>Eu k x.1 x.2.1 x.2.2⟩
theorem Nb(k:Nat):fV Try.prog 23 (Na k):=ok (cx [f43 k,f44 k] 48 nb) Try.f23 fun h x=>Q (Q (Q (Q (X h) (Q (B (L Nc (fun n x=>Eu.l5 k n x.1.1 x.1.2.2 x.2) k fun n5=>X h)) (X h))) (X h)) (X h)) (X h)
def f23(k:Nat):Fc Try.prog:=⟨23,_,Nb k⟩
def Ni:SS:=⟨[(0,z35),(3,z3),(4,z3)],[]⟩
def Nh:SS:=⟨[(0,z35),(3,z3),(4,z3)],[]⟩
def Nf(k:Nat):cz:=⟨⟨[(0,z35)],[]⟩,⟨[(0,z3)],[]⟩,1,1,fun x=>Di k x⟩
theorem Ng(k:Nat):fV Try.prog 24 (Nf k):=ok (cx [] 20 nb) Try.f24 fun h x=>Q (Q (Q (X h) (Q (B (L Nh (fun n x=>Di.l3 k n x.1 x.2.1 x.2.2) k fun n3=>Q (Q (T (X h) Ni fun x=>Di.c4 k (Di.l3 k n3) x.1 x.2.1 x.2.2) (X h)) (X h))) (X h))) (X h)) (X h)
def f24(k:Nat):Fc Try.prog:=⟨24,_,Ng k⟩
def OH(k:Nat):cz:=⟨⟨[(0,z37),(1,z3),(2,z17),(3,z3),(4,z3)],[(10,zW)]⟩,⟨[(0,z1)],[(10,zW)]⟩,5,1,fun x=>Hu k x.1.1 x.1.2.1 x.1.2.2.2.1 x.1.2.2.2.2 x.2⟩
theorem OI(k:Nat):fV Try.prog 46 (OH k):=ok (cx [] 62 nb) Try.f46 fun h x=>X h
def f46(k:Nat):Fc Try.prog:=⟨46,_,OI k⟩
def Nn:SS:=⟨[(0,zT),(1,z3),(2,z37),(3,z17),(4,z3),(5,z3),(6,z3),(7,Ag),(19,z3),(20,z3)],[(10,zW),(100,AV)]⟩
def Nj:SS:=⟨[(2,z37),(3,z17),(7,(.h 11)),(18,z3)],[(10,zW),(11,AV)]⟩
def GI(F:(List zC)→Int→(List zJ)→Int→Int→Int→(List Int)→(List zB)→Option ((Unit×Bool)×(List Int)×(List zB))):cz:=⟨⟨[(0,zT),(1,z3),(2,z37),(3,z17),(4,z3),(5,z3),(6,z3),(7,(.h 11))],[(10,zW),(11,AV)]⟩,⟨[(0,Ag),(1,z1)],[(10,zW),(100,AV)]⟩,8,2,fun x=>F x.1.1 x.1.2.1 x.1.2.2.1 x.1.2.2.2.2.1 x.1.2.2.2.2.2.1 x.1.2.2.2.2.2.2.1 x.2.1 x.2.2⟩
def OP:SS:=⟨[(0,zT),(1,z3),(2,z37),(3,z17),(4,z3),(5,z3),(6,z3),(7,Ag),(18,z3),(19,z3),(21,z1)],[(10,zW),(100,AV)]⟩
def OO:SS:=⟨[(0,zT),(1,z3),(2,z37),(3,z17),(4,z3),(5,z3),(6,z3),(7,Ag),(18,z3),(19,z3)],[(10,zW),(100,AV)]⟩
def OM:SS:=⟨[(0,zT),(1,z3),(2,z37),(3,z17),(4,z3),(5,z3),(7,Ag),(20,z3)],[(10,zW),(100,AV)]⟩
def GJ(F:(List zC)→Int→(List zJ)→Int→Int→Int→(List Int)→(List zB)→Option ((Unit×Bool)×(List Int)×(List zB))):cz:=⟨⟨[(0,zT),(1,z3),(2,z37),(3,z17),(4,z3),(5,z3),(6,z3),(7,(.h 11))],[(10,zW),(11,AV)]⟩,⟨[(0,Ag),(1,z1)],[(10,zW),(100,AV)]⟩,8,2,fun x=>F x.1.1 x.1.2.1 x.1.2.2.1 x.1.2.2.2.2.1 x.1.2.2.2.2.2.1 x.1.2.2.2.2.2.2.1 x.2.1 x.2.2⟩
theorem Nl(k:Nat)(Dk:(List zC)→Int→(List zJ)→Int→Int→Int→(List Int)→(List zB)→Option ((Unit×Bool)×(List Int)×(List zB)))(Ej:(List zC)→Int→(List zJ)→Int→Int→Int→(List Int)→(List zB)→Option ((Unit×Bool)×(List Int)×(List zB)))(Ir:fV Try.prog 25 (GI Dk))(h47:fV Try.prog 47 (GJ Ej)):fV Try.prog 25 (GI (AP.b k Dk Ej)):=ok (cx [f45 k,f46 k,⟨47,_,h47⟩,f48 k] 87 nb) Try.f25 fun h x=>Q (Q (Q (Q (X h) (Q (B (L Nn (fun n x=>AP.l8 k Ej n x.1.1 x.1.2.1 x.1.2.2.1 x.1.2.2.2.2.1 x.1.2.2.2.2.2.1 x.1.2.2.2.2.2.2.1 x.1.2.2.2.2.2.2.2.2.1 x.1.2.2.2.2.2.2.2.2.2 x.2.1 x.2.2) k fun n8=>X h)) (X h))) (X h)) (Q (D (Q (Q (Q (X h) (K h Nj (fun x=>AP.d5 k x.1.1 x.1.2.2.2 x.2.1 x.2.2) [[0,1,2,3,4,6,7,8,5,9,10,11,12,13,14,15,16,17],[0,1,2,3,4,6,7,8,9,10,5,11,12,13,14,15,16,17]] (O (fun x=>by kernel_rfl) (O (fun x=>by kernel_rfl) (N))))) (X h)) (X h)) (X h)) (X h))) (X h)
theorem OL(k:Nat)(Dk:(List zC)→Int→(List zJ)→Int→Int→Int→(List Int)→(List zB)→Option ((Unit×Bool)×(List Int)×(List zB)))(Ej:(List zC)→Int→(List zJ)→Int→Int→Int→(List Int)→(List zB)→Option ((Unit×Bool)×(List Int)×(List zB)))(Ir:fV Try.prog 25 (GI Dk))(h47:fV Try.prog 47 (GJ Ej)):fV Try.prog 47 (GJ (Bh.b k Dk Ej)):=ok (cx [⟨25,_,Ir⟩,f45 k,f46 k,f48 k] 168 nb) Try.f47 fun h x=>Q (Q (Q (Q (Q (Q (Q (Q (T (Q (Q (X h) (B (L OP (fun n x=>Bh.EJ k Dk n x.1.1 x.1.2.1 x.1.2.2.1 x.1.2.2.2.2.1 x.1.2.2.2.2.2.1 x.1.2.2.2.2.2.2.1 x.1.2.2.2.2.2.2.2.2.1 x.1.2.2.2.2.2.2.2.2.2.1 x.1.2.2.2.2.2.2.2.2.2.2 x.2.1 x.2.2) k fun n18=>X h))) (X h)) OO fun x=>Bh.c17 k Dk x.1.1 x.1.2.1 x.1.2.2.1 x.1.2.2.2.2.1 x.1.2.2.2.2.2.1 x.1.2.2.2.2.2.2.1 x.1.2.2.2.2.2.2.2.2.1 x.1.2.2.2.2.2.2.2.2.2 x.2.1 x.2.2) (X h)) (Q (D (Q (X h) (Q (B (L OM (fun n x=>Bh.l10 k n x.1.1 x.1.2.1 x.1.2.2.1 x.1.2.2.2.2.1 x.1.2.2.2.2.2.1 x.1.2.2.2.2.2.2.2 x.2.1 x.2.2) k fun n10=>X h)) (X h))) (X h)) (X h))) (X h)) (X h)) (X h)) (X h)) (X h)) (X h)
theorem Je(k:Nat):∀d,fV Try.prog 25 (GI (AP.d k d))∧fV Try.prog 47 (GJ (Bh.d k d))
 |0=>⟨zh (fun _=>rfl),zh (fun _=>rfl)⟩
 |d+1=>let ih:=Je k d
  ⟨Nl k (AP.d k d) (Bh.d k d) ih.1 ih.2,OL k (AP.d k d) (Bh.d k d) ih.1 ih.2⟩
theorem Nk(k:Nat):fV Try.prog 25 (GI (AP k)):=(Je k k).1
def f25(k:Nat):Fc Try.prog:=⟨25,_,Nk k⟩
theorem OJ(k:Nat):fV Try.prog 47 (GJ (Bh k)):=(Je k k).2
def f47(k:Nat):Fc Try.prog:=⟨47,_,OJ k⟩
def Rc:SS:=⟨[(0,zT),(6,Ag),(15,z3)],[(100,Fj)]⟩
def Rb:SS:=⟨[(0,zT),(1,z37),(6,Ag),(10,Ei),(14,z3)],[(100,Fj),(101,zW)]⟩
def Ra:SS:=⟨[(0,zT),(1,z37),(6,Ag),(8,z3),(10,Ei),(11,z3)],[(100,Fj),(101,zW)]⟩
def Q_:SS:=⟨[(0,zT),(1,z37),(6,Ag),(8,z3),(9,z3)],[(100,Fj)]⟩
def Re:SS:=⟨[(0,zT),(1,z37),(6,Ag),(7,z3)],[(100,Fj)]⟩
def Q8(k:Nat):cz:=⟨⟨[(0,zT),(1,z37)],[]⟩,⟨[(0,Ag),(1,z3)],[(100,Fj)]⟩,2,2,fun x=>Aw k x.1 x.2⟩
theorem Q9(k:Nat):fV Try.prog 7 (Q8 k):=ok (cx [f21 k,f22 k,f23 k,f24 k,f25 k,f26 k] 126 nb) Try.f7 fun h x=>Q (Q (Q (Q (Q (Q (Q (Q (Q (Q (X h) (Q (B (L Rc (fun n x=>Aw.FN k n x.1.1 x.1.2.2 x.2) k fun n29=>X h)) (X h))) (Q (B (L Rb (fun n x=>Aw.FM k n x.1.1 x.1.2.1 x.1.2.2.2.2 x.2.1 x.2.2) k fun n24=>X h)) (X h))) (Q (B (L Ra (fun n x=>Aw.E5 k n x.1.1 x.1.2.1 x.1.2.2.2.1 x.1.2.2.2.2.2 x.2.1 x.2.2) k fun n17=>X h)) (X h))) (X h)) (Q (B (L Q_ (fun n x=>Aw.F8 k n x.1.1 x.1.2.1 x.1.2.2.2.1 x.1.2.2.2.2 x.2) k fun n11=>X h)) (X h))) (X h)) (Q (B (L Re (fun n x=>Aw.l5 k n x.1.1 x.1.2.1 x.1.2.2.2 x.2) k fun n5=>X h)) (X h))) (X h)) (X h)) (X h)
def f7(k:Nat):Fc Try.prog:=⟨7,_,Q9 k⟩
def Qn(k:Nat):cz:=⟨⟨[(0,z6)],[(0,Da),(10,CB),(11,w32),(12,CE),(13,zW),(14,CF)]⟩,⟨[(0,z20)],[(0,Da),(10,CB),(11,w32),(12,CE),(13,zW),(14,CF)]⟩,1,1,fun x=>F7 k x.2.1 x.2.2.1 x.2.2.2.1 x.2.2.2.2.1 x.2.2.2.2.2.1 x.2.2.2.2.2.2⟩
theorem Qo(k:Nat):fV Try.prog 68 (Qn k):=ok (cx [] 35 nb) Try.f68 fun h x=>X h
def Km(k:Nat):Fc Try.prog:=⟨68,_,Qo k⟩
def Rj(k:Nat):cz:=⟨⟨[(0,z6),(1,z3)],[(0,Da),(10,CB),(11,w32),(12,CE),(13,zW),(14,CF)]⟩,⟨[(0,z3)],[(0,Da),(10,CB),(11,w32),(12,CE),(13,zW),(14,CF)]⟩,2,1,fun x=>F6 k x.1.2 x.2.1 x.2.2.1 x.2.2.2.1 x.2.2.2.2.1 x.2.2.2.2.2.1 x.2.2.2.2.2.2⟩
theorem Rk(k:Nat):fV Try.prog 81 (Rj k):=ok (cx [f34 k,Km k] 23 nb) Try.f81 fun h x=>X h
def Ri(k:Nat):Fc Try.prog:=⟨81,_,Rk k⟩
def Ns(k:Nat):cz:=⟨⟨[(0,z3),(1,z3),(2,z3),(3,(.ro EU)),(4,(.p 4)),(5,(.p 5))],[(4,(.box Gg z17)),(5,(.box ET (.h 11))),(10,w32),(11,zW)]⟩,⟨[],[(4,(.box Gg z17)),(5,(.box ET (.h 11))),(10,w32),(11,zW)]⟩,6,0,fun x=>Gp k x.1.1 x.1.2.1 x.1.2.2.1 x.1.2.2.2.1 x.2.1 x.2.2.1 x.2.2.2.1 x.2.2.2.2⟩
theorem Nt(k:Nat):fV Try.prog 27 (Ns k):=ok (cx [] 30 nb) Try.f27 fun h x=>X h
def Ke(k:Nat):Fc Try.prog:=⟨27,_,Nt k⟩
def Nv(k:Nat):cz:=⟨⟨[(0,z3),(1,z3),(2,z3),(3,(.p 3))],[(3,CF),(10,CB),(11,w32),(12,CE),(13,zW)]⟩,⟨[],[(3,CF),(10,CB),(11,w32),(12,CE),(13,zW)]⟩,4,0,fun x=>Iy k x.1.1 x.1.2.1 x.1.2.2.1 x.2.1 x.2.2.1 x.2.2.2.1 x.2.2.2.2.1 x.2.2.2.2.2⟩
theorem Nw(k:Nat):fV Try.prog 28 (Nv k):=ok (cx [Ke k] 13 nb) Try.f28 fun h x=>X h
def Nu(k:Nat):Fc Try.prog:=⟨28,_,Nw k⟩
def Rp:SS:=⟨[(0,z6),(2,z3),(3,z3),(9,z3),(10,z3)],[(0,Da),(10,CB),(11,w32),(12,CE),(13,zW),(14,CF)]⟩
def Ro:SS:=⟨[(0,z6),(2,z3),(3,z3),(9,z3),(10,z3)],[(0,Da),(10,CB),(11,w32),(12,CE),(13,zW),(14,CF)]⟩
def Rm(k:Nat):cz:=⟨⟨[(0,z6),(1,z3),(2,z3),(3,z3)],[(0,Da),(10,CB),(11,w32),(12,CE),(13,zW),(14,CF)]⟩,⟨[(0,z3)],[(0,Da),(10,CB),(11,w32),(12,CE),(13,zW),(14,CF)]⟩,4,1,fun x=>C8 k x.1.2.1 x.1.2.2.1 x.1.2.2.2 x.2.1 x.2.2.1 x.2.2.2.1 x.2.2.2.2.1 x.2.2.2.2.2.1 x.2.2.2.2.2.2⟩
theorem Rn(k:Nat):fV Try.prog 82 (Rm k):=ok (cx [Nu k,f35 k] 41 nb) Try.f82 fun h x=>Q (Q (Q (X h) (Q (B (L Ro (fun n x=>C8.l3 k n x.1.2.1 x.1.2.2.1 x.1.2.2.2.1 x.1.2.2.2.2 x.2.1 x.2.2.1 x.2.2.2.1 x.2.2.2.2.1 x.2.2.2.2.2.1 x.2.2.2.2.2.2) k fun n3=>Q (Q (T (X h) Rp fun x=>C8.c4 k (C8.l3 k n3) x.1.2.1 x.1.2.2.1 x.1.2.2.2.1 x.1.2.2.2.2 x.2.1 x.2.2.1 x.2.2.2.1 x.2.2.2.2.1 x.2.2.2.2.2.1 x.2.2.2.2.2.2) (X h)) (X h))) (X h))) (X h)) (X h)
def Rl(k:Nat):Fc Try.prog:=⟨82,_,Rn k⟩
def O6:SS:=⟨[(12,z3)],[(0,Da),(10,CB),(11,w32),(12,CE),(13,zW),(14,CF)]⟩
def O5:SS:=⟨[(0,z6),(2,z3),(3,z3),(4,z3),(12,z3),(70,z3),(71,z3)],[(0,Da),(10,CB),(11,w32),(12,CE),(13,zW),(14,CF)]⟩
def O8:SS:=⟨[(1,z3)],[(0,Da),(10,CB),(11,w32),(12,CE),(13,zW),(14,CF)]⟩
def O7:SS:=⟨[(0,z6),(1,z3),(2,z3),(3,z3),(11,z4)],[(0,Da),(10,CB),(11,w32),(12,CE),(13,zW),(14,CF),(100,I4)]⟩
def O1:SS:=⟨[(0,z6),(1,z3),(2,z3),(3,z3),(11,z4)],[(0,Da),(10,CB),(11,w32),(12,CE),(13,zW),(14,CF),(100,I4)]⟩
def GL(F:Int→Int→Int→Int→Ac→Unit→(List zJ)→Unit→(List Int)→(Unit×Unit×Unit)→Option (Int×Ac×Unit×(List zJ)×Unit×(List Int)×(Unit×Unit×Unit))):cz:=⟨⟨[(0,z6),(1,z3),(2,z3),(3,z3),(4,z3)],[(0,Da),(10,CB),(11,w32),(12,CE),(13,zW),(14,CF)]⟩,⟨[(0,z3)],[(0,Da),(10,CB),(11,w32),(12,CE),(13,zW),(14,CF)]⟩,5,1,fun x=>F x.1.2.1 x.1.2.2.1 x.1.2.2.2.1 x.1.2.2.2.2 x.2.1 x.2.2.1 x.2.2.2.1 x.2.2.2.2.1 x.2.2.2.2.2.1 x.2.2.2.2.2.2⟩
def QA:SS:=⟨[(0,z6),(1,z3),(2,z3),(3,z3),(4,z3)],[(0,Da),(10,CB),(11,w32),(12,CE),(13,zW),(14,CF)]⟩
def Qz:SS:=⟨[(0,z6),(1,z3),(3,z3),(4,z3),(12,z3),(13,z3)],[(0,Da),(10,CB),(11,w32),(12,CE),(13,zW),(14,CF)]⟩
def GQ(F:Int→Int→Int→Int→Ac→Unit→(List zJ)→Unit→(List Int)→(Unit×Unit×Unit)→Option (Int×Ac×Unit×(List zJ)×Unit×(List Int)×(Unit×Unit×Unit))):cz:=⟨⟨[(0,z6),(1,z3),(2,z3),(3,z3),(4,z3)],[(0,Da),(10,CB),(11,w32),(12,CE),(13,zW),(14,CF)]⟩,⟨[(0,z3)],[(0,Da),(10,CB),(11,w32),(12,CE),(13,zW),(14,CF)]⟩,5,1,fun x=>F x.1.2.1 x.1.2.2.1 x.1.2.2.2.1 x.1.2.2.2.2 x.2.1 x.2.2.1 x.2.2.2.1 x.2.2.2.2.1 x.2.2.2.2.2.1 x.2.2.2.2.2.2⟩
theorem O4(k:Nat)(Db:Int→Int→Int→Int→Ac→Unit→(List zJ)→Unit→(List Int)→(Unit×Unit×Unit)→Option (Int×Ac×Unit×(List zJ)×Unit×(List Int)×(Unit×Unit×Unit)))(Em:Int→Int→Int→Int→Ac→Unit→(List zJ)→Unit→(List Int)→(Unit×Unit×Unit)→Option (Int×Ac×Unit×(List zJ)×Unit×(List Int)×(Unit×Unit×Unit)))(Ku:fV Try.prog 50 (GL Db))(Kz:fV Try.prog 70 (GQ Em)):fV Try.prog 50 (GL (z8.b k Db Em)):=ok (cx [Ke k,Km k,f69 k,⟨70,_,Kz⟩] 85 nb) Try.f50 fun h x=>Q (Q (Q (Q (T (X h) O6 fun x=>z8.c14 k x.1 x.2.1 x.2.2.1 x.2.2.2.1 x.2.2.2.2.1 x.2.2.2.2.2.1 x.2.2.2.2.2.2) (Q (B (L O5 (fun n x=>z8.l10 k Em n x.1.2.1 x.1.2.2.1 x.1.2.2.2.1 x.1.2.2.2.2.1 x.1.2.2.2.2.2.1 x.1.2.2.2.2.2.2 x.2.1 x.2.2.1 x.2.2.2.1 x.2.2.2.2.1 x.2.2.2.2.2.1 x.2.2.2.2.2.2) k fun n10=>X h)) (X h))) (X h)) (Q (D (Q (Q (T (Q (T (X h) O8 fun x=>z8.c7 k x.1 x.2.1 x.2.2.1 x.2.2.2.1 x.2.2.2.2.1 x.2.2.2.2.2.1 x.2.2.2.2.2.2) (X h)) O7 fun x=>z8.c5 k x.1.2.1 x.1.2.2.1 x.1.2.2.2.1 x.2.1 x.2.2.1 x.2.2.2.1 x.2.2.2.2.1 x.2.2.2.2.2.1 x.2.2.2.2.2.2.1 x.2.2.2.2.2.2.2) (Q (X h) (K h O1 (fun x=>z8.d3 k x.1.2.1 x.1.2.2.1 x.1.2.2.2.1 x.2.1 x.2.2.1 x.2.2.2.1 x.2.2.2.2.1 x.2.2.2.2.2.1 x.2.2.2.2.2.2.1 x.2.2.2.2.2.2.2) [[0,1,2,3,4,5,6,7,8,10,14,9,11,12,13,15,16,17]] (O (fun x=>by kernel_rfl) (N))))) (X h)) (X h)) (X h))) (X h)
theorem Qy(k:Nat)(Db:Int→Int→Int→Int→Ac→Unit→(List zJ)→Unit→(List Int)→(Unit×Unit×Unit)→Option (Int×Ac×Unit×(List zJ)×Unit×(List Int)×(Unit×Unit×Unit)))(Em:Int→Int→Int→Int→Ac→Unit→(List zJ)→Unit→(List Int)→(Unit×Unit×Unit)→Option (Int×Ac×Unit×(List zJ)×Unit×(List Int)×(Unit×Unit×Unit)))(Ku:fV Try.prog 50 (GL Db))(Kz:fV Try.prog 70 (GQ Em)):fV Try.prog 70 (GQ (Ce.b k Db Em)):=ok (cx [f35 k,⟨50,_,Ku⟩,Ri k,Rl k] 86 nb) Try.f70 fun h x=>Q (Q (T (X h) QA fun x=>Ce.c18 k Db x.1.2.1 x.1.2.2.1 x.1.2.2.2.1 x.1.2.2.2.2 x.2.1 x.2.2.1 x.2.2.2.1 x.2.2.2.2.1 x.2.2.2.2.2.1 x.2.2.2.2.2.2) (Q (B (Q (D (X h) (Q (D (Q (Q (Q (Q (Q (X h) (Q (B (L Qz (fun n x=>Ce.Bt k Db n x.1.2.1 x.1.2.2.1 x.1.2.2.2.1 x.1.2.2.2.2.1 x.1.2.2.2.2.2 x.2.1 x.2.2.1 x.2.2.2.1 x.2.2.2.2.1 x.2.2.2.2.2.1 x.2.2.2.2.2.2) k fun n14=>X h)) (X h))) (X h)) (X h)) (X h)) (X h)) (X h)) (X h))) (X h))) (X h))) (X h)
theorem Jg(k:Nat):∀d,fV Try.prog 50 (GL (z8.d k d))∧fV Try.prog 70 (GQ (Ce.d k d))
 |0=>⟨zh (fun _=>rfl),zh (fun _=>rfl)⟩
 |d+1=>let ih:=Jg k d
  ⟨O4 k (z8.d k d) (Ce.d k d) ih.1 ih.2,Qy k (z8.d k d) (Ce.d k d) ih.1 ih.2⟩
theorem O3(k:Nat):fV Try.prog 50 (GL (z8 k)):=(Jg k k).1
def O0(k:Nat):Fc Try.prog:=⟨50,_,O3 k⟩
theorem Qx(k:Nat):fV Try.prog 70 (GQ (Ce k)):=(Jg k k).2
def Uz(k:Nat):Fc Try.prog:=⟨70,_,Qx k⟩
def Nz(k:Nat):cz:=⟨⟨[(0,zT),(1,(.ro y24)),(2,z43),(3,z44)],[(10,CB),(11,w32),(12,CE),(13,zW),(14,CF)]⟩,⟨[(0,z1)],[(10,CB),(11,w32),(12,CE),(13,zW),(14,CF)]⟩,4,1,fun x=>Fw k x.1.1 x.1.2.1 x.1.2.2.1 x.1.2.2.2 x.2.1 x.2.2.1 x.2.2.2.1 x.2.2.2.2.1 x.2.2.2.2.2⟩
theorem NA(k:Nat):fV Try.prog 29 (Nz k):=ok (cx [O0 k] 36 nb) Try.f29 fun h x=>X h
def Ny(k:Nat):Fc Try.prog:=⟨29,_,NA k⟩
def RP:SS:=⟨[(7,z4),(43,Ei),(44,z3),(45,z3)],[(100,(.box Gg Ei)),(101,w32)]⟩
def RQ:SS:=⟨[(0,zT),(7,z4),(8,(.p 101)),(9,(.fn 28 (.cons (.p 101) .nil))),(30,z31),(31,z3),(32,z3)],[(100,(.box Gg (.h 102))),(101,(.box .ptr (.fn 27 (.cons z4 (.cons (.p 103) .nil))))),(102,w32),(103,(.box ET (.h 104))),(104,zW)]⟩
def RN(k:Nat):cz:=⟨⟨[(0,zT),(1,z31)],[]⟩,⟨[(0,Ag),(1,z1)],[(100,w32)]⟩,2,2,fun x=>C7 k x.1 x.2⟩
theorem RO(k:Nat):fV Try.prog 8 (RN k):=ok (cx [f14 k,f15 k,f18 k,Ny k] 55 nb) Try.f8 fun h x=>Q (Q (Q (Q (Q (Q (Q (Q (X h) (Q (B (L RP (fun n x=>C7.Bt k n x.1.2.2.1 x.1.2.2.2 x.2.1 x.2.2) k fun n14=>X h)) (X h))) (Q (B (L RQ (fun n x=>C7.l8 k n x.1.1 x.1.2.2.2.1 x.1.2.2.2.2.1 x.1.2.2.2.2.2.1 x.1.2.2.2.2.2.2 x.2.1 x.2.2.1 x.2.2.2.1 x.2.2.2.2.1 x.2.2.2.2.2) k fun n8=>X h)) (X h))) (X h)) (X h)) (X h)) (X h)) (X h)) (X h)
def f8(k:Nat):Fc Try.prog:=⟨8,_,RO k⟩
def RX:SS:=⟨[(0,z35),(1,z35),(5,z3)],[]⟩
def RS(k:Nat):cz:=⟨⟨[(0,z35),(1,z35)],[]⟩,⟨[(0,z1)],[]⟩,2,1,fun x=>EK k x.1 x.2⟩
theorem RU(k:Nat):fV Try.prog 9 (RS k):=ok (cx [] 26 nb) Try.f9 fun h x=>Q (Q (Q (X h) (Q (B (L RX (fun n x=>EK.l4 k n x.1 x.2.1 x.2.2) k fun n4=>X h)) (X h))) (X h)) (X h)
def f9(k:Nat):Fc Try.prog:=⟨9,_,RU k⟩
def Oh:SS:=⟨[(4,Ag),(9,Ei),(11,z3)],[(100,Gb),(101,w32)]⟩
def Kh(k:Nat):cz:=⟨⟨[(0,z0)],[]⟩,⟨[(0,z1)],[]⟩,1,1,fun x=>E9 k x⟩
theorem Ki(k:Nat):fV Try.prog 3 (Kh k):=ok (cx [f4 k,f5 k,f6 k,f7 k,f8 k,f9 k] 72 nb) Try.f3 fun h x=>Q (Q (Q (Q (Q (Q (Q (Q (Q (Q (X h) (Q (B (L Oh (fun n x=>E9.Bt k n x.1.2.2 x.2.1 x.2.2) k fun n14=>X h)) (X h))) (X h)) (X h)) (X h)) (X h)) (X h)) (X h)) (X h)) (X h)) (X h)
def f3(k:Nat):Fc Try.prog:=⟨3,_,Ki k⟩
end Go.Proofs.Ytbhpckfakcoojaa
