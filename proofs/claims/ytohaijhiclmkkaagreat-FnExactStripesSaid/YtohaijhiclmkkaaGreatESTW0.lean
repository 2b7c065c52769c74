/- walks through the claim's functions -/
import Derived.Test.YtohaijhiclmkkaaGreatBase
import Derived.Test.YtohaijhiclmkkaaGreatESTF0
set_option linter.unusedVariables false
set_option maxRecDepth 100000
namespace Go.Proofs.YtohaijhiclmkkaaGreat
open Go.Am Go.Am.W Go.Fn
abbrev z0:CS:= .ro (.list 5 (.int .u8))
abbrev z1:CS:= .h 100
abbrev y2:Ty:= .int .i64
abbrev z3:CS:= .ro y2
abbrev w4:OS:= .sl 5 (.int .u8)
abbrev z5:CS:= .ro .bool
abbrev z6:CS:= .h 10
abbrev u7:Ty:= .cons y2 .nil
abbrev y8:Ty:= .st (.cons .str (.cons y2 (.cons y2 u7)))
abbrev z9:CS:= .ro (.list 194 y8)
abbrev Bt:CS:= .ro (.list 3 y2)
abbrev L_:Ty:= .cons (.list 3 y2) .nil
abbrev Cj:Ty:= .st (.cons y2 (.cons y2 (.cons y2 (.cons y2 (.cons y2 L_)))))
abbrev GM:CS:= .ro Cj
abbrev K4:CS:= .ro (.list 47 Cj)
abbrev DU:Ty:= .st (.cons y2 (.cons (.list 47 Cj) .nil))
abbrev JN:CS:= .ro (.list 198 DU)
abbrev Ag:Ty:= .st (.cons (.list 194 y8) (.cons y2 (.cons (.list 198 DU) .nil)))
abbrev C8:CS:= .ro .str
abbrev Ea:Ty:= .st (.cons y2 (.cons y2 (.cons y2 (.cons .str u7))))
abbrev Ak:OS:= .sl 174 Ea
abbrev y21:Ty:= .st (.cons y2 (.cons y2 u7))
abbrev z22:CS:= .ro y21
abbrev z23:CS:= .ro (.list 174 Ea)
abbrev zw:OS:= .sl 3 y2
abbrev z25:CS:= .p 100
abbrev I5:Ty:= .st (.cons y2 (.cons .str .nil))
abbrev z27:CS:= .agg (.cons z3 (.cons C8 .nil))
abbrev Dk:OS:= .box I5 z27
abbrev CY:OS:= .sl 93 I5
abbrev z30:CS:= .h 101
abbrev z31:CS:= .ro I5
abbrev z32:CS:= .ro (.list 93 I5)
abbrev z33:CS:= .p 101
abbrev y34:Ty:= .st (.cons y2 (.cons .bool (.cons I5 (.cons I5 .nil))))
abbrev z35:CS:= .p 102
abbrev z36:CS:= .p 103
abbrev v37:CS:= .cons z3 .nil
abbrev z38:CS:= .agg (.cons z3 (.cons z3 v37))
abbrev Ci:OS:= .box y21 z38
abbrev z40:CS:= .agg (.cons z3 (.cons z5 (.cons z27 (.cons z27 .nil))))
abbrev H8:OS:= .box y34 z40
abbrev KZ:Ty:= .st (.cons y2 (.cons y2 (.cons y2 (.cons y2 (.cons y2 (.cons y2 (.cons y2 (.cons y2 (.cons .bool (.cons y2 (.cons .bool (.cons y34 u7))))))))))))
abbrev z43:CS:= .agg (.cons z3 (.cons z3 (.cons z3 (.cons z3 (.cons z3 (.cons z3 (.cons z3 (.cons z3 (.cons z5 (.cons z3 (.cons z5 (.cons z40 v37))))))))))))
abbrev Bj:OS:= .box KZ z43
abbrev z45:CS:= .p 104
abbrev z46:CS:= .ro (.list 151 y8)
abbrev z47:CS:= .agg (.cons C8 (.cons z3 (.cons z3 v37)))
abbrev z48:CS:= .h 102
abbrev IY:OS:= .box Cj (.agg (.cons z3 (.cons z3 (.cons z3 (.cons z3 (.cons z3 (.cons Bt .nil)))))))
abbrev I6:Ty:= .st (.cons y2 (.cons (.list 51 Cj) .nil))
abbrev Mi:Ty:= .st (.cons (.list 151 y8) (.cons y2 (.cons (.list 121 I6) .nil)))
abbrev z52:CS:= .ro (.list 121 I6)
abbrev Eo:OS:= .box Mi (.agg (.cons z46 (.cons z3 (.cons z52 .nil))))
abbrev z54:CS:= .ro (.list 51 Cj)
abbrev FX:OS:= .box I6 (.agg (.cons z3 (.cons z54 .nil)))
abbrev z56:CS:= .ro Mi
abbrev GL:Ty:= .st (.cons .bool (.cons y34 .nil))
abbrev K3:Ty:= .st (.cons y2 (.cons (.list 138 GL) L_))
abbrev Ba:OS:= .sl 136 K3
abbrev Ol:OS:= .box GL (.agg (.cons z5 (.cons z40 .nil)))
abbrev Gn:OS:= .sl 151 y8
abbrev IZ:OS:= .sl 51 Cj
abbrev Gp:OS:= .sl 121 I6
abbrev z64:CS:= .p 0
abbrev OL:Ty:= .st (.cons (.list 5 (.int .u8)) (.cons y2 (.cons (.list 174 Ea) u7)))
abbrev CZ:OS:= .box OL (.agg (.cons z0 (.cons z3 (.cons z6 v37))))
abbrev z67:CS:= .agg (.cons z3 (.cons z3 (.cons z3 (.cons C8 v37))))
abbrev KX:OS:= .box Ea z67
abbrev Ep:OS:= .box OL (.agg (.cons z0 (.cons z3 (.cons z1 v37))))
abbrev Ia:Ty:= .st (.cons (.list 174 Ea) L_)
abbrev z71:CS:= .agg (.cons z23 (.cons z6 .nil))
abbrev Gq:OS:= .box Ia z71
abbrev JK:OS:= .aU Ia z71
abbrev Mj:Ty:= .st (.cons .ptr (.cons y2 (.cons .bool .nil)))
abbrev v75:CS:= .cons z3 (.cons z5 .nil)
abbrev DT:OS:= .box Mj (.agg (.cons (.p 10) v75))
abbrev z77:CS:= .agg (.cons z23 (.cons (.h 11) .nil))
abbrev D_:OS:= .box Ia z77
abbrev Oq:OS:= .box Mj (.agg (.cons (.p 105) v75))
abbrev Ou:OS:= .box Ia (.agg (.cons z23 (.cons (.h 106) .nil)))
abbrev Ov:OS:= .box Ia (.agg (.cons z23 (.cons (.h 105) .nil)))
abbrev Ox:OS:= .box Mj (.agg (.cons z35 v75))
abbrev z83:CS:= .ro (.list 138 GL)
abbrev z84:CS:= .ro (.list 136 K3)
abbrev Me:OS:= .box Ag (.agg (.cons z9 (.cons z3 (.cons JN .nil))))
def Qw:SS:=⟨[(0,z0),(3,z1),(4,z3)],[(100,w4)]⟩
def Qu(k:Nat):bZ:=⟨⟨[(0,z0)],[]⟩,⟨[(0,z1)],[(100,w4)]⟩,1,1,fun x=>D5 k x⟩
theorem Qv(k:Nat):fM Tryz.prog 12 (Qu k):=ok (cx [] 22 nb) Tryz.f12 fun h x=>Q (Q (Q (X h) (Q (B (L Qw (fun n x=>D5.l3 k n x.1.1 x.1.2.2 x.2) k fun n3=>X h)) (X h))) (X h)) (X h)
def f12(k:Nat):Fc Tryz.prog:=⟨12,_,Qv k⟩
def RV:SS:=⟨[(0,z0),(1,z0),(5,z3)],[]⟩
def RS(k:Nat):bZ:=⟨⟨[(0,z0),(1,z0)],[]⟩,⟨[(0,z5)],[]⟩,2,1,fun x=>E_ k x.1 x.2⟩
theorem RU(k:Nat):fM Tryz.prog 16 (RS k):=ok (cx [] 26 nb) Tryz.f16 fun h x=>Q (Q (Q (X h) (Q (B (L RV (fun n x=>E_.l4 k n x.1 x.2.1 x.2.2) k fun n4=>X h)) (X h))) (X h)) (X h)
def f16(k:Nat):Fc Tryz.prog:=⟨16,_,RU k⟩
def SH:SS:=⟨[(0,z6),(1,z3),(5,z3)],[(10,w4)]⟩
def SF(k:Nat):bZ:=⟨⟨[(0,z6),(1,z3)],[(10,w4)]⟩,⟨[(0,z3)],[(10,w4)]⟩,2,1,fun x=>Fh k x.1.2 x.2⟩
theorem SG(k:Nat):fM Tryz.prog 18 (SF k):=ok (cx [] 20 nb) Tryz.f18 fun h x=>Q (Q (X h) (Q (B (L SH (fun n x=>Fh.l2 k n x.1.2.1 x.1.2.2 x.2) k fun n2=>X h)) (X h))) (X h)
def f18(k:Nat):Fc Tryz.prog:=⟨18,_,SG k⟩
def QJ(k:Nat):bZ:=⟨⟨[(0,(.ro y8)),(1,z3)],[]⟩,⟨[(0,z3)],[]⟩,2,1,fun x=>Ku k x.1 x.2⟩
theorem QK(k:Nat):fM Tryz.prog 135 (QJ k):=ok (cx [] 13 nb) Tryz.f135 fun h x=>X h
def f135(k:Nat):Fc Tryz.prog:=⟨135,_,QK k⟩
def YO:SS:=⟨[(0,z9),(1,z3),(5,z3)],[]⟩
def YM(k:Nat):bZ:=⟨⟨[(0,z9),(1,z3)],[]⟩,⟨[(0,z3)],[]⟩,2,1,fun x=>ED k x.1 x.2⟩
theorem YN(k:Nat):fM Tryz.prog 77 (YM k):=ok (cx [f135 k] 27 nb) Tryz.f77 fun h x=>Q (Q (Q (Q (X h) (Q (B (L YO (fun n x=>ED.l5 k n x.1 x.2.1 x.2.2) k fun n5=>X h)) (X h))) (X h)) (X h)) (X h)
def f77(k:Nat):Fc Tryz.prog:=⟨77,_,YN k⟩
def YB(k:Nat):bZ:=⟨⟨[(0,Bt),(1,z3)],[]⟩,⟨[(0,z3)],[]⟩,2,1,fun x=>Kw k x.1 x.2⟩
theorem YC(k:Nat):fM Tryz.prog 73 (YB k):=ok (cx [] 12 nb) Tryz.f73 fun h x=>X h
def f73(k:Nat):Fc Tryz.prog:=⟨73,_,YC k⟩
def UO(k:Nat):bZ:=⟨⟨[(0,GM),(1,z3)],[]⟩,⟨[(0,z3)],[]⟩,2,1,fun x=>Kt k x.1 x.2⟩
theorem UQ(k:Nat):fM Tryz.prog 24 (UO k):=ok (cx [f73 k] 12 nb) Tryz.f24 fun h x=>X h
def f24(k:Nat):Fc Tryz.prog:=⟨24,_,UQ k⟩
def Tz:SS:=⟨[(0,K4),(1,z3),(5,z3)],[]⟩
def Tw(k:Nat):bZ:=⟨⟨[(0,K4),(1,z3)],[]⟩,⟨[(0,z3)],[]⟩,2,1,fun x=>EC k x.1 x.2⟩
theorem Tx(k:Nat):fM Tryz.prog 209 (Tw k):=ok (cx [f24 k] 27 nb) Tryz.f209 fun h x=>Q (Q (Q (Q (X h) (Q (B (L Tz (fun n x=>EC.l5 k n x.1 x.2.1 x.2.2) k fun n5=>X h)) (X h))) (X h)) (X h)) (X h)
def f209(k:Nat):Fc Tryz.prog:=⟨209,_,Tx k⟩
def QL(k:Nat):bZ:=⟨⟨[(0,(.ro DU)),(1,z3)],[]⟩,⟨[(0,z3)],[]⟩,2,1,fun x=>Kv k x.1 x.2⟩
theorem QM(k:Nat):fM Tryz.prog 136 (QL k):=ok (cx [f209 k] 12 nb) Tryz.f136 fun h x=>X h
def f136(k:Nat):Fc Tryz.prog:=⟨136,_,QM k⟩
def YR:SS:=⟨[(0,JN),(1,z3),(5,z3)],[]⟩
def YP(k:Nat):bZ:=⟨⟨[(0,JN),(1,z3)],[]⟩,⟨[(0,z3)],[]⟩,2,1,fun x=>EE k x.1 x.2⟩
theorem YQ(k:Nat):fM Tryz.prog 78 (YP k):=ok (cx [f136 k] 27 nb) Tryz.f78 fun h x=>Q (Q (Q (Q (X h) (Q (B (L YR (fun n x=>EE.l5 k n x.1 x.2.1 x.2.2) k fun n5=>X h)) (X h))) (X h)) (X h)) (X h)
def f78(k:Nat):Fc Tryz.prog:=⟨78,_,YQ k⟩
def WE(k:Nat):bZ:=⟨⟨[(0,(.ro Ag)),(1,z3)],[]⟩,⟨[(0,z3)],[]⟩,2,1,fun x=>Ky k x.1 x.2⟩
theorem WG(k:Nat):fM Tryz.prog 30 (WE k):=ok (cx [f77 k,f78 k] 18 nb) Tryz.f30 fun h x=>X h
def f30(k:Nat):Fc Tryz.prog:=⟨30,_,WG k⟩
def Uv:SS:=⟨[(0,z0),(1,z3),(7,z3),(8,z3)],[]⟩
def Ut(k:Nat):bZ:=⟨⟨[(0,z0),(1,z3)],[]⟩,⟨[(0,z3),(1,z3),(2,z5)],[]⟩,2,3,fun x=>DJ k x.1 x.2⟩
theorem Uu(k:Nat):fM Tryz.prog 242 (Ut k):=ok (cx [] 57 nb) Tryz.f242 fun h x=>Q (Q (Q (Q (X h) (Q (B (L Uv (fun n x=>DJ.l5 k n x.1 x.2.1 x.2.2.1 x.2.2.2) k fun n5=>X h)) (X h))) (X h)) (X h)) (X h)
def f242(k:Nat):Fc Tryz.prog:=⟨242,_,Uu k⟩
def Uw(k:Nat):bZ:=⟨⟨[(0,z3),(1,z3)],[]⟩,⟨[(0,z3)],[]⟩,2,1,fun x=>JF k x.1 x.2⟩
theorem Ux(k:Nat):fM Tryz.prog 243 (Uw k):=ok (cx [] 16 nb) Tryz.f243 fun h x=>X h
def f243(k:Nat):Fc Tryz.prog:=⟨243,_,Ux k⟩
def VJ(k:Nat):bZ:=⟨⟨[(0,z3)],[]⟩,⟨[(0,z3)],[]⟩,1,1,fun x=>KN k x⟩
theorem VK(k:Nat):fM Tryz.prog 293 (VJ k):=ok (cx [f243 k] 11 nb) Tryz.f293 fun h x=>X h
def f293(k:Nat):Fc Tryz.prog:=⟨293,_,VK k⟩
def T9(k:Nat):bZ:=⟨⟨[(0,z0),(1,z3)],[]⟩,⟨[(0,z3),(1,z3),(2,z5)],[]⟩,2,3,fun x=>JD k x.1 x.2⟩
theorem T_(k:Nat):fM Tryz.prog 233 (T9 k):=ok (cx [f242 k,f293 k] 22 nb) Tryz.f233 fun h x=>X h
def f233(k:Nat):Fc Tryz.prog:=⟨233,_,T_ k⟩
def YW(k:Nat):bZ:=⟨⟨[(0,z3),(1,z3),(2,z3)],[]⟩,⟨[(0,z5)],[]⟩,3,1,fun x=>AP k x.1 x.2.1 x.2.2⟩
theorem YX(k:Nat):fM Tryz.prog 80 (YW k):=ok (cx [] 15 nb) Tryz.f80 fun h x=>X h
def f80(k:Nat):Fc Tryz.prog:=⟨80,_,YX k⟩
def Ua(k:Nat):bZ:=⟨⟨[(0,z3)],[]⟩,⟨[(0,z5)],[]⟩,1,1,fun x=>HV k x⟩
theorem Ub(k:Nat):fM Tryz.prog 234 (Ua k):=ok (cx [f80 k] 5 nb) Tryz.f234 fun h x=>X h
def f234(k:Nat):Fc Tryz.prog:=⟨234,_,Ub k⟩
def Uc(k:Nat):bZ:=⟨⟨[(0,z0),(1,z3)],[]⟩,⟨[(0,C8),(1,z3),(2,z3)],[]⟩,2,3,fun x=>KR k x.1 x.2⟩
theorem Ud(k:Nat):fM Tryz.prog 235 (Uc k):=ok (cx [f242 k] 44 nb) Tryz.f235 fun h x=>X h
def f235(k:Nat):Fc Tryz.prog:=⟨235,_,Ud k⟩
def VP:SS:=⟨[(4,z5)],[]⟩
def VN(k:Nat):bZ:=⟨⟨[(0,z3)],[]⟩,⟨[(0,z5)],[]⟩,1,1,fun x=>DL k x⟩
theorem VO(k:Nat):fM Tryz.prog 295 (VN k):=ok (cx [] 12 nb) Tryz.f295 fun h x=>Q (Q (X h) (Q (B (Q (T (X h) VP fun x=>DL.c9 k x) (X h))) (X h))) (X h)
def f295(k:Nat):Fc Tryz.prog:=⟨295,_,VO k⟩
def VL(k:Nat):bZ:=⟨⟨[(0,z3)],[]⟩,⟨[(0,z5)],[]⟩,1,1,fun x=>JG k x⟩
theorem VM(k:Nat):fM Tryz.prog 294 (VL k):=ok (cx [f295 k] 13 nb) Tryz.f294 fun h x=>X h
def f294(k:Nat):Fc Tryz.prog:=⟨294,_,VM k⟩
def Ug:SS:=⟨[(1,z3),(8,z3),(9,z3)],[]⟩
def Ue(k:Nat):bZ:=⟨⟨[(0,z0),(1,z3)],[]⟩,⟨[(0,z3),(1,z3),(2,z3),(3,z3)],[]⟩,2,4,fun x=>FV k x.1 x.2⟩
theorem Uf(k:Nat):fM Tryz.prog 236 (Ue k):=ok (cx [f242 k,f294 k] 62 nb) Tryz.f236 fun h x=>Q (Q (Q (Q (Q (T (X h) Ug fun x=>FV.c11 k x.1 x.2.1 x.2.2) (X h)) (X h)) (X h)) (X h)) (X h)
def f236(k:Nat):Fc Tryz.prog:=⟨236,_,Uf k⟩
def Uj:SS:=⟨[(1,z3),(2,z3),(10,z3),(12,z3)],[]⟩
def Uh(k:Nat):bZ:=⟨⟨[(0,z0),(1,z3),(2,z3)],[]⟩,⟨[(0,z3),(1,z3),(2,z3),(3,z3)],[]⟩,3,4,fun x=>FU k x.1 x.2.1 x.2.2⟩
theorem Ui(k:Nat):fM Tryz.prog 237 (Uh k):=ok (cx [f80 k,f233 k,f295 k] 71 nb) Tryz.f237 fun h x=>Q (Q (Q (Q (Q (Q (Q (Q (T (X h) Uj fun x=>FU.c16 k x.1 x.2.1 x.2.2.1 x.2.2.2) (X h)) (X h)) (X h)) (X h)) (X h)) (X h)) (X h)) (X h)
def f237(k:Nat):Fc Tryz.prog:=⟨237,_,Ui k⟩
def Rs:SS:=⟨[(0,z0),(4,z3),(5,z1),(22,z3),(23,z3),(24,z3),(25,z3),(26,z3)],[(100,Ak)]⟩
def Rt:SS:=⟨[(0,z0),(1,z3),(4,z3),(5,z1),(15,z3),(27,z3),(28,z3)],[(100,Ak)]⟩
def Ru:SS:=⟨[(0,z0),(1,z3),(2,z3),(4,z3),(5,z1),(15,z3),(49,z3),(50,z5)],[(100,Ak)]⟩
def JZ(F:(List Int)→Int→Int→Int→Int→(List yY)→Option ((Unit×Int×Int)×(List yY))):bZ:=⟨⟨[(0,z0),(1,z3),(2,z3),(3,z3),(4,z3),(5,z6)],[(10,Ak)]⟩,⟨[(0,z1),(1,z3),(2,z3)],[(100,Ak)]⟩,6,3,fun x=>F x.1.1 x.1.2.1 x.1.2.2.1 x.1.2.2.2.1 x.1.2.2.2.2.1 x.2⟩
theorem Rq(k:Nat)(C9:(List Int)→Int→Int→Int→Int→(List yY)→Option ((Unit×Int×Int)×(List yY)))(ZV:fM Tryz.prog 162 (JZ C9)):fM Tryz.prog 162 (JZ (zT.b k C9)):=ok (cx [⟨162,_,ZV⟩,f233 k,f234 k,f235 k,f236 k,f237 k] 183 nb) Tryz.f162 fun h x=>Q (Q (Q (Q (Q (X h) (Q (B (Q (T (D (X h) (Q (D (X h) (Q (D (Q (Q (Q (Q (X h) (Q (B (L Rs (fun n x=>zT.Ey k C9 n x.1.1 x.1.2.1 x.1.2.2.2.1 x.1.2.2.2.2.1 x.1.2.2.2.2.2.1 x.1.2.2.2.2.2.2.1 x.1.2.2.2.2.2.2.2 x.2) k fun n24=>X h)) (X h))) (X h)) (X h)) (X h)) (Q (D (Q (B (L Rt (fun n x=>zT.IG k C9 n x.1.1 x.1.2.1 x.1.2.2.1 x.1.2.2.2.2.1 x.1.2.2.2.2.2.1 x.1.2.2.2.2.2.2 x.2) k fun n30=>X h)) (X h)) (X h)) (X h))) (X h))) (X h))) Ru fun x=>zT.c8 k C9 x.1.1 x.1.2.1 x.1.2.2.1 x.1.2.2.2.1 x.1.2.2.2.2.2.1 x.1.2.2.2.2.2.2.1 x.1.2.2.2.2.2.2.2 x.2) (X h))) (X h))) (X h)) (X h)) (X h)) (X h)
theorem M5(k:Nat):∀d,fM Tryz.prog 162 (JZ (zT.d k d))
 |0=>yL (fun _=>rfl)
 |d+1=>let ih:=M5 k d
  Rq k (zT.d k d) ih
theorem Rp(k:Nat):fM Tryz.prog 162 (JZ (zT k)):=(M5 k k)
def f162(k:Nat):Fc Tryz.prog:=⟨162,_,Rp k⟩
def PC(k:Nat):bZ:=⟨⟨[(0,z0),(1,z3)],[]⟩,⟨[(0,z1),(1,z3),(2,z3)],[(100,Ak)]⟩,2,3,fun x=>JC k x.1 x.2⟩
theorem PD(k:Nat):fM Tryz.prog 107 (PC k):=ok (cx [f162 k] 34 nb) Tryz.f107 fun h x=>X h
def f107(k:Nat):Fc Tryz.prog:=⟨107,_,PD k⟩
def Rx:SS:=⟨[(4,z5)],[]⟩
def Rv(k:Nat):bZ:=⟨⟨[(0,z3)],[]⟩,⟨[(0,z5)],[]⟩,1,1,fun x=>DN k x⟩
theorem Rw(k:Nat):fM Tryz.prog 163 (Rv k):=ok (cx [] 10 nb) Tryz.f163 fun h x=>Q (Q (X h) (Q (B (Q (T (X h) Rx fun x=>DN.c7 k x) (X h))) (X h))) (X h)
def f163(k:Nat):Fc Tryz.prog:=⟨163,_,Rw k⟩
def PE(k:Nat):bZ:=⟨⟨[(0,z22)],[]⟩,⟨[(0,z5)],[]⟩,1,1,fun x=>JA k x⟩
theorem PG(k:Nat):fM Tryz.prog 108 (PE k):=ok (cx [f80 k,f163 k] 18 nb) Tryz.f108 fun h x=>X h
def f108(k:Nat):Fc Tryz.prog:=⟨108,_,PG k⟩
def RD:SS:=⟨[(0,z23),(1,z3),(5,z3),(6,z3)],[]⟩
def J2(F:(List yY)→Int→Option Int):bZ:=⟨⟨[(0,z23),(1,z3)],[]⟩,⟨[(0,z3)],[]⟩,2,1,fun x=>F x.1 x.2⟩
theorem RB(k:Nat)(Gr:(List yY)→Int→Option Int)(ZW:fM Tryz.prog 165 (J2 Gr)):fM Tryz.prog 165 (J2 (Ch.b k Gr)):=ok (cx [⟨165,_,ZW⟩] 22 nb) Tryz.f165 fun h x=>Q (Q (Q (X h) (Q (B (L RD (fun n x=>Ch.l3 k Gr n x.1 x.2.1 x.2.2.1 x.2.2.2) k fun n3=>X h)) (X h))) (X h)) (X h)
theorem M6(k:Nat):∀d,fM Tryz.prog 165 (J2 (Ch.d k d))
 |0=>yL (fun _=>rfl)
 |d+1=>let ih:=M6 k d
  RB k (Ch.d k d) ih
theorem RA(k:Nat):fM Tryz.prog 165 (J2 (Ch k)):=(M6 k k)
def f165(k:Nat):Fc Tryz.prog:=⟨165,_,RA k⟩
def PO:SS:=⟨[(0,z23),(1,z3),(2,z3),(7,z3),(8,z3)],[]⟩
def PM(k:Nat):bZ:=⟨⟨[(0,z23),(1,z3),(2,z3)],[]⟩,⟨[(0,z3)],[]⟩,3,1,fun x=>BZ k x.1 x.2.1 x.2.2⟩
theorem PN(k:Nat):fM Tryz.prog 110 (PM k):=ok (cx [f165 k] 37 nb) Tryz.f110 fun h x=>Q (Q (Q (Q (X h) (Q (B (L PO (fun n x=>BZ.l5 k n x.1 x.2.1 x.2.2.1 x.2.2.2.1 x.2.2.2.2) k fun n5=>X h)) (X h))) (X h)) (X h)) (X h)
def f110(k:Nat):Fc Tryz.prog:=⟨110,_,PN k⟩
def Ry(k:Nat):bZ:=⟨⟨[(0,z23),(1,z3),(2,z3)],[]⟩,⟨[(0,z3),(1,z5)],[]⟩,3,2,fun x=>HY k x.1 x.2.1 x.2.2⟩
theorem Rz(k:Nat):fM Tryz.prog 164 (Ry k):=ok (cx [f110 k] 36 nb) Tryz.f164 fun h x=>X h
def f164(k:Nat):Fc Tryz.prog:=⟨164,_,Rz k⟩
def PL:SS:=⟨[(0,z23),(1,z3),(2,Bt),(8,z1),(9,z3)],[(100,zw)]⟩
def PI(k:Nat):bZ:=⟨⟨[(0,z23),(1,z3),(2,Bt)],[]⟩,⟨[(0,z1),(1,z5)],[(100,zw)]⟩,3,2,fun x=>EM k x.1 x.2.1 x.2.2⟩
theorem PK(k:Nat):fM Tryz.prog 109 (PI k):=ok (cx [f164 k] 37 nb) Tryz.f109 fun h x=>Q (Q (Q (X h) (Q (B (L PL (fun n x=>EM.l3 k n x.1.1 x.1.2.1 x.1.2.2.1 x.1.2.2.2.2 x.2) k fun n3=>X h)) (X h))) (X h)) (X h)
def f109(k:Nat):Fc Tryz.prog:=⟨109,_,PK k⟩
def RF(k:Nat):bZ:=⟨⟨[(0,z23),(1,z3)],[]⟩,⟨[(0,z3)],[]⟩,2,1,fun x=>KP k x.1 x.2⟩
theorem RH(k:Nat):fM Tryz.prog 166 (RF k):=ok (cx [f110 k] 20 nb) Tryz.f166 fun h x=>X h
def f166(k:Nat):Fc Tryz.prog:=⟨166,_,RH k⟩
def Uk(k:Nat):bZ:=⟨⟨[(0,z23),(1,z3),(2,z3)],[]⟩,⟨[(0,C8),(1,z5)],[]⟩,3,2,fun x=>H6 k x.1 x.2.1 x.2.2⟩
theorem Ul(k:Nat):fM Tryz.prog 238 (Uk k):=ok (cx [f110 k] 28 nb) Tryz.f238 fun h x=>X h
def f238(k:Nat):Fc Tryz.prog:=⟨238,_,Ul k⟩
def Uy(k:Nat):bZ:=⟨⟨[(0,z3),(1,z3)],[]⟩,⟨[(0,z3)],[]⟩,2,1,fun x=>IQ k x.1 x.2⟩
theorem Uz(k:Nat):fM Tryz.prog 244 (Uy k):=ok (cx [f80 k] 18 nb) Tryz.f244 fun h x=>X h
def f244(k:Nat):Fc Tryz.prog:=⟨244,_,Uz k⟩
def UA(k:Nat):bZ:=⟨⟨[(0,z0),(1,z3)],[]⟩,⟨[(0,z3)],[]⟩,2,1,fun x=>KQ k x.1 x.2⟩
theorem UB(k:Nat):fM Tryz.prog 245 (UA k):=ok (cx [] 15 nb) Tryz.f245 fun h x=>X h
def f245(k:Nat):Fc Tryz.prog:=⟨245,_,UB k⟩
def UE:SS:=⟨[(0,z0),(1,z3),(2,z3),(3,z3),(11,z1),(12,z3),(13,z3),(14,z3),(15,z3)],[(100,zw)]⟩
def UF:SS:=⟨[(0,z0),(1,z3),(2,z3),(3,z3),(11,z1),(12,z3),(13,z3)],[(100,zw)]⟩
def UC(k:Nat):bZ:=⟨⟨[(0,z0),(1,z3),(2,z3),(3,z3)],[]⟩,⟨[(0,z1),(1,z3),(2,z5)],[(100,zw)]⟩,4,3,fun x=>CF k x.1 x.2.1 x.2.2.1 x.2.2.2⟩
theorem UD(k:Nat):fM Tryz.prog 246 (UC k):=ok (cx [f80 k,f244 k,f245 k] 70 nb) Tryz.f246 fun h x=>Q (Q (Q (Q (Q (X h) (Q (B (L UF (fun n x=>CF.l6 k n x.1.1 x.1.2.1 x.1.2.2.1 x.1.2.2.2.1 x.1.2.2.2.2.2.1 x.1.2.2.2.2.2.2 x.2) k fun n6=>Q (Q (X h) (B (Q (Q (X h) (Q (B (L UE (fun n x=>CF.l10 k (CF.l6 k n6) n x.1.1 x.1.2.1 x.1.2.2.1 x.1.2.2.2.1 x.1.2.2.2.2.2.1 x.1.2.2.2.2.2.2.1 x.1.2.2.2.2.2.2.2.1 x.1.2.2.2.2.2.2.2.2 x.2) k fun n10=>X h)) (X h))) (X h)))) (X h))) (X h))) (X h)) (X h)) (X h)) (X h)
def f246(k:Nat):Fc Tryz.prog:=⟨246,_,UD k⟩
def Qj:SS:=⟨[(0,z0),(1,z3),(2,z3),(9,z3),(10,z3)],[]⟩
def Qh(k:Nat):bZ:=⟨⟨[(0,z0),(1,z3),(2,z3)],[]⟩,⟨[(0,z3),(1,z3),(2,z5)],[]⟩,3,3,fun x=>Em k x.1 x.2.1 x.2.2⟩
theorem Qi(k:Nat):fM Tryz.prog 125 (Qh k):=ok (cx [f80 k] 53 nb) Tryz.f125 fun h x=>Q (Q (Q (Q (X h) (Q (B (L Qj (fun n x=>Em.l5 k n x.1 x.2.1 x.2.2.1 x.2.2.2.1 x.2.2.2.2) k fun n5=>X h)) (X h))) (X h)) (X h)) (X h)
def f125(k:Nat):Fc Tryz.prog:=⟨125,_,Qi k⟩
def UI:SS:=⟨[(6,z25),(9,z3),(10,z3),(11,z5)],[(100,Dk)]⟩
def UG(k:Nat):bZ:=⟨⟨[(0,z3),(1,z0),(2,z3)],[]⟩,⟨[(0,z27),(1,z3),(2,z5)],[]⟩,3,3,fun x=>Gm k x.1 x.2.1 x.2.2⟩
theorem UH(k:Nat):fM Tryz.prog 247 (UG k):=ok (cx [f125 k] 82 nb) Tryz.f247 fun h x=>Q (Q (X h) (Q (B (Q (D (Q (Q (T (X h) UI fun x=>Gm.c6 k x.1.2.1 x.1.2.2.1 x.1.2.2.2 x.2) (X h)) (X h)) (X h)) (X h))) (X h))) (X h)
def f247(k:Nat):Fc Tryz.prog:=⟨247,_,UH k⟩
def RZ:SS:=⟨[(0,z3),(1,z0),(2,z3),(3,z3),(11,z1),(16,z3)],[(100,CY)]⟩
def R3:SS:=⟨[(11,z1),(12,z30),(13,z3),(14,z5),(15,z3)],[(100,CY),(101,zw)]⟩
def RX(k:Nat):bZ:=⟨⟨[(0,z3),(1,z0),(2,z3),(3,z3)],[]⟩,⟨[(0,z1),(1,z3),(2,z5)],[(100,CY)]⟩,4,3,fun x=>Ct k x.1 x.2.1 x.2.2.1 x.2.2.2⟩
theorem RY(k:Nat):fM Tryz.prog 172 (RX k):=ok (cx [f80 k,f163 k,f246 k,f247 k] 87 nb) Tryz.f172 fun h x=>Q (Q (Q (Q (Q (X h) (Q (B (L RZ (fun n x=>Ct.Iy k n x.1.1 x.1.2.1 x.1.2.2.1 x.1.2.2.2.1 x.1.2.2.2.2.2 x.2) k fun n12=>X h)) (X h))) (Q (D (Q (Q (X h) (Q (B (L R3 (fun n x=>Ct.l7 k n x.1.2.2.1 x.1.2.2.2.1 x.1.2.2.2.2 x.2.1 x.2.2) k fun n7=>X h)) (X h))) (X h)) (X h)) (X h))) (X h)) (X h)) (X h)
def f172(k:Nat):Fc Tryz.prog:=⟨172,_,RY k⟩
def R6:SS:=⟨[(3,z25),(5,z3),(26,z5)],[(100,Dk)]⟩
def R4(k:Nat):bZ:=⟨⟨[(0,z3),(1,z31)],[]⟩,⟨[(0,z5)],[]⟩,2,1,fun x=>D7 k x.1 x.2⟩
theorem R5(k:Nat):fM Tryz.prog 180 (R4 k):=ok (cx [f80 k,f234 k] 43 nb) Tryz.f180 fun h x=>Q (Q (X h) (Q (B (Q (D (X h) (Q (D (X h) (Q (T (X h) R6 fun x=>D7.c8 k x.1.2.1 x.1.2.2 x.2) (X h))) (X h))) (X h))) (X h))) (X h)
def f180(k:Nat):Fc Tryz.prog:=⟨180,_,R5 k⟩
def P6:SS:=⟨[(0,z3),(1,z32),(5,z3)],[]⟩
def PZ(k:Nat):bZ:=⟨⟨[(0,z3),(1,z32)],[]⟩,⟨[(0,z5)],[]⟩,2,1,fun x=>FH k x.1 x.2⟩
theorem P5(k:Nat):fM Tryz.prog 117 (PZ k):=ok (cx [f163 k,f180 k] 27 nb) Tryz.f117 fun h x=>Q (Q (Q (X h) (Q (B (L P6 (fun n x=>FH.l4 k n x.1 x.2.1 x.2.2) k fun n4=>X h)) (X h))) (X h)) (X h)
def f117(k:Nat):Fc Tryz.prog:=⟨117,_,P5 k⟩
def Xi:SS:=⟨[(0,z3),(1,z3),(5,z1),(6,z3)],[(100,w4)]⟩
def Xg(k:Nat):bZ:=⟨⟨[(0,z3),(1,z3)],[]⟩,⟨[(0,z1)],[(100,w4)]⟩,2,1,fun x=>DK k x.1 x.2⟩
theorem Xh(k:Nat):fM Tryz.prog 333 (Xg k):=ok (cx [f80 k] 26 nb) Tryz.f333 fun h x=>Q (Q (Q (X h) (Q (B (L Xi (fun n x=>DK.l3 k n x.1.1 x.1.2.1 x.1.2.2.2 x.2) k fun n3=>X h)) (X h))) (X h)) (X h)
def f333(k:Nat):Fc Tryz.prog:=⟨333,_,Xh k⟩
def Xm:SS:=⟨[(0,Bt),(1,z3),(7,z1),(8,z3),(9,z3)],[(100,w4)]⟩
def Xl:SS:=⟨[(0,Bt),(1,z3),(7,z1),(8,z3),(9,z3)],[(100,w4)]⟩
def Xn:SS:=⟨[(0,Bt),(1,z3),(7,z1),(8,z3)],[(100,w4)]⟩
def Xj(k:Nat):bZ:=⟨⟨[(0,Bt),(1,z3)],[]⟩,⟨[(0,z1),(1,z5)],[(100,w4)]⟩,2,2,fun x=>Bf k x.1 x.2⟩
theorem Xk(k:Nat):fM Tryz.prog 334 (Xj k):=ok (cx [f244 k] 73 nb) Tryz.f334 fun h x=>Q (Q (Q (Q (Q (X h) (Q (B (L Xn (fun n x=>Bf.l6 k n x.1.1 x.1.2.1 x.1.2.2.2 x.2) k fun n6=>Q (Q (X h) (B (Q (Q (B (L Xl (fun n x=>Bf.Bd k (Bf.l6 k n6) n x.1.1 x.1.2.1 x.1.2.2.2.1 x.1.2.2.2.2 x.2) k fun n11=>Q (Q (T (X h) Xm fun x=>Bf.c12 k (Bf.Bd k (Bf.l6 k n6) n11) x.1.1 x.1.2.1 x.1.2.2.2.1 x.1.2.2.2.2 x.2) (X h)) (X h))) (X h)) (X h)))) (X h))) (X h))) (X h)) (X h)) (X h)) (X h)
def f334(k:Nat):Fc Tryz.prog:=⟨334,_,Xk k⟩
def WV:SS:=⟨[(0,z3),(1,z32),(6,z1),(7,z30),(8,z3)],[(100,w4),(101,zw)]⟩
def WU:SS:=⟨[(0,z3),(1,z32),(6,z1),(7,z30),(8,z3)],[(100,w4),(101,zw)]⟩
def WS(k:Nat):bZ:=⟨⟨[(0,z3),(1,z32)],[]⟩,⟨[(0,z1),(1,z5)],[(100,w4)]⟩,2,2,fun x=>Bq k x.1 x.2⟩
theorem WT(k:Nat):fM Tryz.prog 322 (WS k):=ok (cx [f117 k,f333 k,f334 k] 67 nb) Tryz.f322 fun h x=>Q (Q (Q (Q (Q (X h) (Q (B (L WU (fun n x=>Bq.l6 k n x.1.1 x.1.2.1 x.1.2.2.2.2 x.2.1 x.2.2) k fun n6=>Q (Q (T (X h) WV fun x=>Bq.c7 k (Bq.l6 k n6) x.1.1 x.1.2.1 x.1.2.2.2.2 x.2.1 x.2.2) (X h)) (X h))) (X h))) (X h)) (X h)) (X h)) (X h)
def f322(k:Nat):Fc Tryz.prog:=⟨322,_,WT k⟩
def VQ(k:Nat):bZ:=⟨⟨[(0,z3),(1,z31)],[]⟩,⟨[(0,C8)],[]⟩,2,1,fun x=>KO k x.1 x.2⟩
theorem VR(k:Nat):fM Tryz.prog 296 (VQ k):=ok (cx [f322 k] 20 nb) Tryz.f296 fun h x=>X h
def f296(k:Nat):Fc Tryz.prog:=⟨296,_,VR k⟩
def Un:SS:=⟨[(0,z3),(1,C8),(4,z25),(6,z33)],[(100,Dk),(101,Dk)]⟩
def Uq:SS:=⟨[(0,z3),(1,C8),(4,z25),(6,z33)],[(100,Dk),(101,Dk)]⟩
def Um(k:Nat):bZ:=⟨⟨[(0,z3),(1,C8)],[]⟩,⟨[(0,z27),(1,z5)],[]⟩,2,2,fun x=>Dt k x.1 x.2⟩
theorem Uo(k:Nat):fM Tryz.prog 239 (Um k):=ok (cx [f172 k,f180 k,f296 k] 39 nb) Tryz.f239 fun h x=>Q (Q (Q (T (Q (X h) (K h Un (fun x=>Dt.d7 k x.1.1 x.1.2.1 x.2.1 x.2.2) [[1,0,2,3,4,5,8,6,7,9,10,11,12],[1,2,0,3,4,5,8,6,7,9,10,11,12],[1,2,3,4,5,8,0,6,7,9,10,11,12],[1,2,3,4,5,8,6,0,7,9,10,11,12],[1,2,3,4,5,8,6,7,0,9,10,11,12]] (O (fun x=>by kernel_rfl) (O (fun x=>by kernel_rfl) (O (fun x=>by kernel_rfl) (O (fun x=>by kernel_rfl) (O (fun x=>by kernel_rfl) (N)))))))) Uq fun x=>Dt.c7 k x.1.1 x.1.2.1 x.2.1 x.2.2) (X h)) (X h)) (X h)
def f239(k:Nat):Fc Tryz.prog:=⟨239,_,Uo k⟩
def TU(k:Nat):bZ:=⟨⟨[(0,z3)],[]⟩,⟨[(0,z3)],[]⟩,1,1,fun x=>KL k x⟩
theorem TV(k:Nat):fM Tryz.prog 226 (TU k):=ok (cx [] 8 nb) Tryz.f226 fun h x=>X h
def f226(k:Nat):Fc Tryz.prog:=⟨226,_,TV k⟩
def Rm:SS:=⟨[(4,z25),(5,z33)],[(100,Dk),(101,Dk)]⟩
def Ro:SS:=⟨[(4,z25),(5,z33),(7,z3)],[(100,Dk),(101,Dk)]⟩
def Rl(k:Nat):bZ:=⟨⟨[(0,z3),(1,z31),(2,z31)],[]⟩,⟨[(0,z5)],[]⟩,3,1,fun x=>Dg k x.1 x.2.1 x.2.2⟩
theorem Rn(k:Nat):fM Tryz.prog 155 (Rl k):=ok (cx [f180 k,f226 k] 74 nb) Tryz.f155 fun h x=>Q (Q (Q (X h) (Q (B (Q (D (Q (X h) (K h Rm (fun x=>Dg.d5 k x.2.1 x.2.2) [[0,3,1,2,4,5,6,7],[0,3,1,4,2,5,6,7],[0,3,4,1,2,5,6,7]] (O (fun x=>by kernel_rfl) (O (fun x=>by kernel_rfl) (O (fun x=>by kernel_rfl) (N)))))) (Q (D (Q (X h) (Q (B (L Ro (fun n x=>Dg.l8 k n x.1.2.2 x.2.1 x.2.2) k fun n8=>X h)) (X h))) (X h)) (X h))) (X h))) (X h))) (X h)) (X h)
def f155(k:Nat):Fc Tryz.prog:=⟨155,_,Rn k⟩
def Ur(k:Nat):bZ:=⟨⟨[(0,z22),(1,(.ro y34))],[]⟩,⟨[(0,z5)],[]⟩,2,1,fun x=>JE k x.1 x.2⟩
theorem Us(k:Nat):fM Tryz.prog 240 (Ur k):=ok (cx [f80 k,f108 k,f155 k,f180 k] 51 nb) Tryz.f240 fun h x=>X h
def f240(k:Nat):Fc Tryz.prog:=⟨240,_,Us k⟩
def RL:SS:=⟨[(3,z25),(6,z33),(8,z35),(15,z36)],[(100,Ci),(101,H8),(102,H8),(103,H8)]⟩
def RI(k:Nat):bZ:=⟨⟨[(0,z22),(1,z23),(2,z3)],[]⟩,⟨[(0,z40),(1,z5)],[]⟩,3,2,fun x=>FE k x.1 x.2.1 x.2.2⟩
theorem RJ(k:Nat):fM Tryz.prog 167 (RI k):=ok (cx [f110 k,f164 k,f238 k,f239 k,f240 k] 98 nb) Tryz.f167 fun h x=>Q (Q (Q (Q (Q (Q (Q (Q (T (X h) RL fun x=>FE.c15 k x.2.1 x.2.2.1 x.2.2.2.1 x.2.2.2.2) (X h)) (X h)) (X h)) (X h)) (X h)) (X h)) (X h)) (X h)
def f167(k:Nat):Fc Tryz.prog:=⟨167,_,RJ k⟩
def PU:SS:=⟨[(5,z25),(6,z33)],[(100,Bj),(101,Bj)]⟩
def PT:SS:=⟨[(1,z23),(3,z25),(5,z33),(6,z35),(10,z3),(11,z3)],[(100,Ci),(101,Bj),(102,Bj)]⟩
def PV:SS:=⟨[(1,z23),(3,z25),(5,z33),(6,z35),(8,z3),(9,(.h 103)),(10,z3)],[(100,Ci),(101,Bj),(102,Bj),(103,zw)]⟩
def PR(k:Nat):bZ:=⟨⟨[(0,z22),(1,z23),(2,(.ro KZ))],[]⟩,⟨[(0,z43),(1,z5)],[]⟩,3,2,fun x=>Ar k x.1 x.2.1 x.2.2⟩
theorem PS(k:Nat):fM Tryz.prog 111 (PR k):=ok (cx [f80 k,f109 k,f110 k,f166 k,f167 k] 153 nb) Tryz.f111 fun h x=>Q (Q (Q (T (Q (Q (Q (Q (Q (Q (Q (T (Q (T (X h) PU fun x=>Ar.GY k x.2.1 x.2.2) (X h)) PT fun x=>Ar.F3 k x.1.1 x.1.2.2.2.2.1 x.1.2.2.2.2.2 x.2.1 x.2.2.1 x.2.2.2) (X h)) (X h)) (X h)) (X h)) (X h)) (X h)) (X h)) PV fun x=>Ar.c7 k x.1.1 x.1.2.2.2.2.1 x.1.2.2.2.2.2.2 x.2.1 x.2.2.1 x.2.2.2.1 x.2.2.2.2) (X h)) (X h)) (X h)
def f111(k:Nat):Fc Tryz.prog:=⟨111,_,PS k⟩
def X_:SS:=⟨[(1,z0),(3,z25),(6,z33),(8,z35),(9,(.h 103)),(10,z3),(14,z45)],[(100,Ci),(101,Bj),(102,Bj),(103,Ak),(104,Bj)]⟩
def X8(k:Nat):bZ:=⟨⟨[(0,z22),(1,z0),(2,z3)],[]⟩,⟨[(0,z43),(1,z3)],[]⟩,3,2,fun x=>AY k x.1 x.2.1 x.2.2⟩
theorem X9(k:Nat):fM Tryz.prog 54 (X8 k):=ok (cx [f107 k,f108 k,f109 k,f110 k,f111 k] 130 nb) Tryz.f54 fun h x=>Q (Q (Q (Q (Q (Q (Q (Q (Q (T (X h) X_ fun x=>AY.c17 k x.1.1 x.1.2.2.2.2.2.1 x.2.1 x.2.2.1 x.2.2.2.1 x.2.2.2.2.1 x.2.2.2.2.2) (X h)) (X h)) (X h)) (X h)) (X h)) (X h)) (X h)) (X h)) (X h)
def f54(k:Nat):Fc Tryz.prog:=⟨54,_,X9 k⟩
def Vx:SS:=⟨[(0,C8),(3,z3)],[]⟩
def Vu(k:Nat):bZ:=⟨⟨[(0,C8)],[]⟩,⟨[(0,z5)],[]⟩,1,1,fun x=>FF k x⟩
theorem Vv(k:Nat):fM Tryz.prog 277 (Vu k):=ok (cx [f80 k] 24 nb) Tryz.f277 fun h x=>Q (Q (Q (X h) (Q (B (L Vx (fun n x=>FF.l4 k n x.1 x.2) k fun n4=>X h)) (X h))) (X h)) (X h)
def f277(k:Nat):Fc Tryz.prog:=⟨277,_,Vv k⟩
def TD:SS:=⟨[(0,z46),(2,z3),(7,z25),(8,z3),(9,z30),(10,z3),(11,z3)],[(100,(.box y8 z47)),(101,(.sl 9 .str))]⟩
def TC:SS:=⟨[(0,z46),(2,z3),(7,z25),(8,z3),(9,z30),(10,z3)],[(100,(.box y8 z47)),(101,(.sl 9 .str))]⟩
def J3(F:(List zg)→Int→Int→Option Int):bZ:=⟨⟨[(0,z46),(1,z3),(2,z3)],[]⟩,⟨[(0,z3)],[]⟩,3,1,fun x=>F x.1 x.2.1 x.2.2⟩
theorem TB(k:Nat)(Eb:(List zg)→Int→Int→Option Int)(ZY:fM Tryz.prog 210 (J3 Eb)):fM Tryz.prog 210 (J3 (Au.b k Eb)):=ok (cx [f80 k,f163 k,⟨210,_,ZY⟩,f277 k] 119 nb) Tryz.f210 fun h x=>Q (Q (Q (Q (Q (Q (Q (Q (Q (X h) (Q (B (L TC (fun n x=>Au.Iz k Eb n x.1.1 x.1.2.1 x.1.2.2.2.1 x.1.2.2.2.2.2 x.2.1 x.2.2) k fun n15=>Q (Q (X h) (B (Q (Q (X h) (Q (B (L TD (fun n x=>Au.IC k Eb (Au.Iz k Eb n15) n x.1.1 x.1.2.1 x.1.2.2.2.1 x.1.2.2.2.2.2.1 x.1.2.2.2.2.2.2 x.2.1 x.2.2) k fun n20=>X h)) (X h))) (X h)))) (X h))) (X h))) (X h)) (X h)) (X h)) (X h)) (X h)) (X h)) (X h)) (X h)
theorem M9(k:Nat):∀d,fM Tryz.prog 210 (J3 (Au.d k d))
 |0=>yL (fun _=>rfl)
 |d+1=>let ih:=M9 k d
  TB k (Au.d k d) ih
theorem TA(k:Nat):fM Tryz.prog 210 (J3 (Au k)):=(M9 k k)
def f210(k:Nat):Fc Tryz.prog:=⟨210,_,TA k⟩
def QN(k:Nat):bZ:=⟨⟨[(0,z46)],[]⟩,⟨[(0,z5)],[]⟩,1,1,fun x=>Gl k x⟩
theorem QO(k:Nat):fM Tryz.prog 137 (QN k):=ok (cx [f80 k,f210 k] 13 nb) Tryz.f137 fun h x=>X h
def f137(k:Nat):Fc Tryz.prog:=⟨137,_,QO k⟩
def Tj:SS:=⟨[(0,z46),(3,z1),(4,z3)],[(100,zw)]⟩
def Ti:SS:=⟨[(0,z46),(3,z1),(4,z3)],[(100,zw)]⟩
def Tf(k:Nat):bZ:=⟨⟨[(0,z46)],[]⟩,⟨[(0,z1)],[(100,zw)]⟩,1,1,fun x=>Di k x⟩
theorem Tg(k:Nat):fM Tryz.prog 205 (Tf k):=ok (cx [] 23 nb) Tryz.f205 fun h x=>Q (Q (Q (X h) (Q (B (L Ti (fun n x=>Di.l3 k n x.1.1 x.1.2.2 x.2) k fun n3=>Q (Q (T (X h) Tj fun x=>Di.c4 k (Di.l3 k n3) x.1.1 x.1.2.2 x.2) (X h)) (X h))) (X h))) (X h)) (X h)
def f205(k:Nat):Fc Tryz.prog:=⟨205,_,Tg k⟩
def Qk(k:Nat):bZ:=⟨⟨[(0,z46)],[]⟩,⟨[(0,z1)],[(100,zw)]⟩,1,1,fun x=>IV k x⟩
theorem Ql(k:Nat):fM Tryz.prog 127 (Qk k):=ok (cx [f137 k,f205 k] 9 nb) Tryz.f127 fun h x=>X h
def f127(k:Nat):Fc Tryz.prog:=⟨127,_,Ql k⟩
def Vt:SS:=⟨[(0,z46),(1,z3),(5,z3),(6,z3)],[]⟩
def J7(F:(List zg)→Int→Option Int):bZ:=⟨⟨[(0,z46),(1,z3)],[]⟩,⟨[(0,z3)],[]⟩,2,1,fun x=>F x.1 x.2⟩
theorem Vs(k:Nat)(Gt:(List zg)→Int→Option Int)(Z5:fM Tryz.prog 272 (J7 Gt)):fM Tryz.prog 272 (J7 (B_.b k Gt)):=ok (cx [⟨272,_,Z5⟩] 22 nb) Tryz.f272 fun h x=>Q (Q (Q (X h) (Q (B (L Vt (fun n x=>B_.l3 k Gt n x.1 x.2.1 x.2.2.1 x.2.2.2) k fun n3=>X h)) (X h))) (X h)) (X h)
theorem Nb(k:Nat):∀d,fM Tryz.prog 272 (J7 (B_.d k d))
 |0=>yL (fun _=>rfl)
 |d+1=>let ih:=Nb k d
  Vs k (B_.d k d) ih
theorem Vr(k:Nat):fM Tryz.prog 272 (J7 (B_ k)):=(Nb k k)
def f272(k:Nat):Fc Tryz.prog:=⟨272,_,Vr k⟩
def Tq:SS:=⟨[(0,z46),(1,z3),(5,z1),(6,z3)],[(100,zw)]⟩
def Tp:SS:=⟨[(0,z46),(1,z3),(5,z1),(6,z3)],[(100,zw)]⟩
def Tm(k:Nat):bZ:=⟨⟨[(0,z46),(1,z3)],[]⟩,⟨[(0,z1)],[(100,zw)]⟩,2,1,fun x=>Dj k x.1 x.2⟩
theorem Tn(k:Nat):fM Tryz.prog 206 (Tm k):=ok (cx [f272 k] 23 nb) Tryz.f206 fun h x=>Q (Q (Q (X h) (Q (B (L Tp (fun n x=>Dj.l3 k n x.1.1 x.1.2.1 x.1.2.2.2 x.2) k fun n3=>Q (Q (T (X h) Tq fun x=>Dj.c4 k (Dj.l3 k n3) x.1.1 x.1.2.1 x.1.2.2.2 x.2) (X h)) (X h))) (X h))) (X h)) (X h)
def f206(k:Nat):Fc Tryz.prog:=⟨206,_,Tn k⟩
def Qp:SS:=⟨[(0,z46),(6,z3),(7,z3),(8,z1),(9,z3)],[(100,zw)]⟩
def Qq:SS:=⟨[(0,z46),(6,z3),(7,z3),(8,z1),(9,z3)],[(100,zw)]⟩
def Qo:SS:=⟨[(0,z46),(6,z3),(7,z3),(8,z1),(9,z3)],[(100,zw)]⟩
def Qm(k:Nat):bZ:=⟨⟨[(0,z46),(1,z3)],[]⟩,⟨[(0,z3),(1,z3)],[]⟩,2,2,fun x=>Ca k x.1 x.2⟩
theorem Qn(k:Nat):fM Tryz.prog 128 (Qm k):=ok (cx [f206 k] 43 nb) Tryz.f128 fun h x=>Q (Q (Q (Q (X h) (Q (B (L Qo (fun n x=>Ca.l4 k n x.1.1 x.1.2.1 x.1.2.2.1 x.1.2.2.2.2 x.2) k fun n4=>Q (Q (T (X h) Qp fun x=>Ca.c5 k (Ca.l4 k n4) x.1.1 x.1.2.1 x.1.2.2.1 x.1.2.2.2.2 x.2) (B (Q (T (X h) Qq fun x=>Ca.c8 k (Ca.l4 k n4) x.1.1 x.1.2.1 x.1.2.2.1 x.1.2.2.2.2 x.2) (X h)))) (X h))) (X h))) (X h)) (X h)) (X h)
def f128(k:Nat):Fc Tryz.prog:=⟨128,_,Qn k⟩
def Yl(k:Nat):bZ:=⟨⟨[(0,z46),(1,z3)],[]⟩,⟨[(0,z38),(1,z5)],[]⟩,2,2,fun x=>KM k x.1 x.2⟩
theorem Ym(k:Nat):fM Tryz.prog 68 (Yl k):=ok (cx [f80 k,f127 k,f128 k] 38 nb) Tryz.f68 fun h x=>X h
def f68(k:Nat):Fc Tryz.prog:=⟨68,_,Ym k⟩
def RQ:SS:=⟨[(0,z3),(3,z3)],[]⟩
def RP:SS:=⟨[(0,z3),(3,z3)],[]⟩
def RN(k:Nat):bZ:=⟨⟨[(0,z3)],[]⟩,⟨[(0,z3)],[]⟩,1,1,fun x=>Dh k x⟩
theorem RO(k:Nat):fM Tryz.prog 168 (RN k):=ok (cx [] 18 nb) Tryz.f168 fun h x=>Q (Q (X h) (Q (B (L RP (fun n x=>Dh.l2 k n x.1 x.2) k fun n2=>Q (Q (T (X h) RQ fun x=>Dh.c3 k (Dh.l2 k n2) x.1 x.2) (X h)) (X h))) (X h))) (X h)
def f168(k:Nat):Fc Tryz.prog:=⟨168,_,RO k⟩
def PY:SS:=⟨[(1,z0),(5,z3),(6,z3)],[]⟩
def PW(k:Nat):bZ:=⟨⟨[(0,z3),(1,z0)],[]⟩,⟨[(0,z3)],[]⟩,2,1,fun x=>FT k x.1 x.2⟩
theorem PX(k:Nat):fM Tryz.prog 112 (PW k):=ok (cx [f80 k,f168 k] 32 nb) Tryz.f112 fun h x=>Q (Q (Q (Q (X h) (Q (B (L PY (fun n x=>FT.l5 k n x.1 x.2.1 x.2.2) k fun n5=>X h)) (X h))) (X h)) (X h)) (X h)
def f112(k:Nat):Fc Tryz.prog:=⟨112,_,PX k⟩
def Ya(k:Nat):bZ:=⟨⟨[(0,z0)],[]⟩,⟨[(0,z3)],[]⟩,1,1,fun x=>IU k x⟩
theorem Yb(k:Nat):fM Tryz.prog 55 (Ya k):=ok (cx [f112 k] 5 nb) Tryz.f55 fun h x=>X h
def f55(k:Nat):Fc Tryz.prog:=⟨55,_,Yb k⟩
def Qs:SS:=⟨[(0,z3),(9,z1),(10,z33),(12,z0)],[(100,CY),(101,Bj)]⟩
def Qr(k:Nat):bZ:=⟨⟨[(0,z3),(1,z0),(2,z3)],[]⟩,⟨[(0,z1),(1,z3),(2,z3)],[(100,CY)]⟩,3,3,fun x=>GJ k x.1 x.2.1 x.2.2⟩
theorem Qt(k:Nat):fM Tryz.prog 129 (Qr k):=ok (cx [f54 k,f55 k,f172 k] 88 nb) Tryz.f129 fun h x=>Q (Q (Q (Q (Q (Q (X h) (Q (X h) (K h Qs (fun x=>GJ.d8 k x.1.1 x.1.2.2.2 x.2.1 x.2.2) [[0,1,2,3,5,4,6,7,8],[0,1,2,3,5,6,4,7,8]] (O (fun x=>by kernel_rfl) (O (fun x=>by kernel_rfl) (N)))))) (X h)) (X h)) (X h)) (X h)) (X h)
def f129(k:Nat):Fc Tryz.prog:=⟨129,_,Qt k⟩
def Yq:SS:=⟨[(1,z0),(3,z25),(5,z33),(9,z48),(10,(.h 103)),(11,(.h 104)),(15,(.h 105)),(16,z3),(17,z3)],[(100,Ci),(101,IY),(102,zw),(103,CY),(104,CY),(105,zw)]⟩
def Yp:SS:=⟨[(1,z0),(3,z25),(5,z33),(9,z48),(10,(.h 103)),(11,(.h 104))],[(100,Ci),(101,IY),(102,zw),(103,CY),(104,CY)]⟩
def Yn(k:Nat):bZ:=⟨⟨[(0,z22),(1,z0),(2,GM)],[]⟩,⟨[(0,z1),(1,z30),(2,z3)],[(100,zw),(101,CY)]⟩,3,3,fun x=>Cq k x.1 x.2.1 x.2.2⟩
theorem Yo(k:Nat):fM Tryz.prog 69 (Yn k):=ok (cx [f54 k,f129 k] 102 nb) Tryz.f69 fun h x=>Q (Q (Q (Q (Q (T (Q (Q (Q (Q (X h) (B (L Yq (fun n x=>Cq.Aj k n x.1.1 x.1.2.2.2.2.2.2.2.1 x.1.2.2.2.2.2.2.2.2 x.2.1 x.2.2.1 x.2.2.2.1 x.2.2.2.2.1 x.2.2.2.2.2.1 x.2.2.2.2.2.2) k fun n13=>X h))) (X h)) (X h)) (X h)) Yp fun x=>Cq.c10 k x.1.1 x.2.1 x.2.2.1 x.2.2.2.1 x.2.2.2.2.1 x.2.2.2.2.2) (X h)) (X h)) (X h)) (X h)) (X h)
def f69(k:Nat):Fc Tryz.prog:=⟨69,_,Yo k⟩
def QT:SS:=⟨[(2,z25),(5,z3)],[(100,IY)]⟩
def QV:SS:=⟨[(2,z25),(5,z3)],[(100,IY)]⟩
def QS(k:Nat):bZ:=⟨⟨[(0,GM),(1,z3)],[]⟩,⟨[(0,z5)],[]⟩,2,1,fun x=>Du k x.1 x.2⟩
theorem QU(k:Nat):fM Tryz.prog 138 (QS k):=ok (cx [f80 k] 73 nb) Tryz.f138 fun h x=>Q (Q (Q (X h) (Q (B (L QV (fun n x=>Du.l4 k n x.1.2 x.2) k fun n4=>Q (Q (X h) (B (Q (X h) (K h QT (fun x=>Du.d6 k (Du.l4 k n4) x.1.2 x.2) [[0,2,1,3,4,5,6,7,8,9,10,11,12,13,14,15,16,17,18,19,20,21,22,23,24]] (O (fun x=>by kernel_rfl) (N)))))) (X h))) (X h))) (X h)) (X h)
def f138(k:Nat):Fc Tryz.prog:=⟨138,_,QU k⟩
def YU:SS:=⟨[(1,z25),(3,z30),(4,z3),(5,z3),(6,z35),(7,z3)],[(100,Eo),(101,zw),(102,FX)]⟩
def YV:SS:=⟨[(1,z25),(3,z30),(4,z3),(5,z3)],[(100,Eo),(101,zw)]⟩
def YS(k:Nat):bZ:=⟨⟨[(0,z56)],[]⟩,⟨[(0,z5)],[]⟩,1,1,fun x=>Co k x⟩
theorem YT(k:Nat):fM Tryz.prog 79 (YS k):=ok (cx [f80 k,f127 k,f137 k,f138 k] 74 nb) Tryz.f79 fun h x=>Q (Q (Q (Q (Q (X h) (Q (B (L YV (fun n x=>Co.l6 k n x.1.2.2.1 x.1.2.2.2 x.2.1 x.2.2) k fun n6=>Q (Q (X h) (B (Q (Q (Q (Q (B (L YU (fun n x=>Co.Aj k (Co.l6 k n6) n x.1.2.2.1 x.1.2.2.2.1 x.1.2.2.2.2.2 x.2.1 x.2.2.1 x.2.2.2) k fun n13=>X h)) (X h)) (X h)) (X h)) (X h)))) (X h))) (X h))) (X h)) (X h)) (X h)) (X h)
def f79(k:Nat):Fc Tryz.prog:=⟨79,_,YT k⟩
def YY(k:Nat):bZ:=⟨⟨[(0,z22),(1,(.ro KZ))],[]⟩,⟨[(0,z3)],[]⟩,2,1,fun x=>LY k x.1 x.2⟩
theorem YZ(k:Nat):fM Tryz.prog 81 (YY k):=ok (cx [] 17 nb) Tryz.f81 fun h x=>X h
def f81(k:Nat):Fc Tryz.prog:=⟨81,_,YZ k⟩
def WQ:SS:=⟨[(8,z1),(9,z30),(10,z35),(22,z3),(23,z3)],[(100,Ba),(101,Ba),(102,FX)]⟩
def WN:SS:=⟨[(0,z0),(4,z25),(8,z30),(9,z48),(10,z36),(11,z3),(12,z45),(14,(.h 105)),(17,z3),(21,(.p 106))],[(100,Eo),(101,Ba),(102,Ba),(103,FX),(104,Ci),(105,zw),(106,Ol)]⟩
def WM:SS:=⟨[(0,z0),(4,z25),(8,z30),(9,z48),(10,z36),(11,z3),(12,z45),(14,(.h 105)),(17,z3),(18,(.p 106)),(20,z3)],[(100,Eo),(101,Ba),(102,Ba),(103,FX),(104,Ci),(105,zw),(106,Bj)]⟩
def WI:SS:=⟨[(0,z0),(4,z25),(8,z30),(9,z48),(10,z36),(11,z3),(12,z45),(14,(.h 105)),(17,z3)],[(100,Eo),(101,Ba),(102,Ba),(103,FX),(104,Ci),(105,zw)]⟩
def WL:SS:=⟨[(0,z0),(4,z25),(8,z30),(9,z48),(10,z36),(11,z3),(12,z45),(14,(.h 105)),(17,z3)],[(100,Eo),(101,Ba),(102,Ba),(103,FX),(104,Ci),(105,zw)]⟩
def WJ:SS:=⟨[(0,z0),(4,z25),(8,z30),(9,z48),(10,z36),(11,z3),(12,z45)],[(100,Eo),(101,Ba),(102,Ba),(103,FX),(104,Ci)]⟩
def WR:SS:=⟨[(0,z0),(4,z25),(8,z30),(9,z48),(10,z36),(11,z3)],[(100,Eo),(101,Ba),(102,Ba),(103,FX)]⟩
def WH(k:Nat):bZ:=⟨⟨[(0,z0),(1,z56),(2,z3)],[]⟩,⟨[(0,z1),(1,z5)],[(100,Ba)]⟩,3,2,fun x=>zy k x.1 x.2.1 x.2.2⟩
theorem WK(k:Nat):fM Tryz.prog 31 (WH k):=ok (cx [f54 k,f68 k,f69 k,f79 k,f80 k,f81 k] 179 nb) Tryz.f31 fun h x=>Q (Q (Q (Q (Q (Q (Q (X h) (Q (B (L WQ (fun n x=>zy.IE k n x.1.2.2.2.1 x.1.2.2.2.2 x.2.1 x.2.2.1 x.2.2.2) k fun n28=>X h)) (X h))) (X h)) (Q (B (L WR (fun n x=>zy.l6 k n x.1.1 x.1.2.2.2.2.2 x.2.1 x.2.2.1 x.2.2.2.1 x.2.2.2.2) k fun n6=>Q (Q (X h) (B (Q (Q (Q (Q (B (L WL (fun n x=>zy.Aj k (zy.l6 k n6) n x.1.1 x.1.2.2.2.2.2.1 x.1.2.2.2.2.2.2.2.2 x.2.1 x.2.2.1 x.2.2.2.1 x.2.2.2.2.1 x.2.2.2.2.2.1 x.2.2.2.2.2.2) k fun n13=>Q (Q (X h) (B (Q (Q (Q (T (Q (Q (Q (T (X h) WN fun x=>zy.c24 k (zy.Aj k (zy.l6 k n6) n13) x.1.1 x.1.2.2.2.2.2.1 x.1.2.2.2.2.2.2.2.2.1 x.2.1 x.2.2.1 x.2.2.2.1 x.2.2.2.2.1 x.2.2.2.2.2.1 x.2.2.2.2.2.2.1 x.2.2.2.2.2.2.2) (X h)) (X h)) (X h)) WM fun x=>zy.c19 k (zy.Aj k (zy.l6 k n6) n13) x.1.1 x.1.2.2.2.2.2.1 x.1.2.2.2.2.2.2.2.2.1 x.1.2.2.2.2.2.2.2.2.2.2 x.2.1 x.2.2.1 x.2.2.2.1 x.2.2.2.2.1 x.2.2.2.2.2.1 x.2.2.2.2.2.2.1 x.2.2.2.2.2.2.2) (X h)) (X h)) (K h WI (fun x=>zy.d15 k (zy.Aj k (zy.l6 k n6) n13) x.1.1 x.1.2.2.2.2.2.1 x.1.2.2.2.2.2.2.2.2 x.2.1 x.2.2.1 x.2.2.2.1 x.2.2.2.2.1 x.2.2.2.2.2.1 x.2.2.2.2.2.2) [[0,1,2,3,4,5,6,7,8,9,10,11,12],[0,1,2,3,4,5,10,6,7,8,9,11,12]] (O (fun x=>by kernel_rfl) (O (fun x=>by kernel_rfl) (N))))))) (X h))) (X h)) (X h)) (K h WJ (fun x=>zy.d9 k (zy.l6 k n6) x.1.1 x.1.2.2.2.2.2.1 x.2.1 x.2.2.1 x.2.2.2.1 x.2.2.2.2.1 x.2.2.2.2.2) [[0,1,2,4,3,5,6,7,8,9,10,11,12,13,14]] (O (fun x=>by kernel_rfl) (N)))) (X h)))) (X h))) (X h))) (X h)) (X h)) (X h)) (X h)
def f31(k:Nat):Fc Tryz.prog:=⟨31,_,WK k⟩
def QW(k:Nat):bZ:=⟨⟨[(0,(.ro y8))],[]⟩,⟨[(0,z47)],[]⟩,1,1,fun x=>Ht k x⟩
theorem QX(k:Nat):fM Tryz.prog 139 (QW k):=ok (cx [] 17 nb) Tryz.f139 fun h x=>X h
def f139(k:Nat):Fc Tryz.prog:=⟨139,_,QX k⟩
def Y3:SS:=⟨[(0,z9),(3,z1),(4,z3)],[(100,Gn)]⟩
def Y0(k:Nat):bZ:=⟨⟨[(0,z9)],[]⟩,⟨[(0,z1)],[(100,Gn)]⟩,1,1,fun x=>Fx k x⟩
theorem Y2(k:Nat):fM Tryz.prog 82 (Y0 k):=ok (cx [f139 k] 23 nb) Tryz.f82 fun h x=>Q (Q (Q (X h) (Q (B (L Y3 (fun n x=>Fx.l3 k n x.1.1 x.1.2.2 x.2) k fun n3=>X h)) (X h))) (X h)) (X h)
def f82(k:Nat):Fc Tryz.prog:=⟨82,_,Y2 k⟩
def YF:SS:=⟨[(0,Bt),(3,z1),(4,z3)],[(100,zw)]⟩
def YD(k:Nat):bZ:=⟨⟨[(0,Bt)],[]⟩,⟨[(0,z1)],[(100,zw)]⟩,1,1,fun x=>Fz k x⟩
theorem YE(k:Nat):fM Tryz.prog 74 (YD k):=ok (cx [] 22 nb) Tryz.f74 fun h x=>Q (Q (Q (X h) (Q (B (L YF (fun n x=>Fz.l3 k n x.1.1 x.1.2.2 x.2) k fun n3=>X h)) (X h))) (X h)) (X h)
def f74(k:Nat):Fc Tryz.prog:=⟨74,_,YE k⟩
def Vp(k:Nat):bZ:=⟨⟨[(0,GM)],[]⟩,⟨[(0,(.agg (.cons z3 (.cons z3 (.cons z3 (.cons z3 (.cons z3 (.cons z1 .nil))))))))],[(100,zw)]⟩,1,1,fun x=>Hr k x⟩
theorem Vq(k:Nat):fM Tryz.prog 26 (Vp k):=ok (cx [f74 k] 24 nb) Tryz.f26 fun h x=>X h
def f26(k:Nat):Fc Tryz.prog:=⟨26,_,Vq k⟩
def TG:SS:=⟨[(0,K4),(3,z1),(4,z3)],[(100,IZ)]⟩
def TE(k:Nat):bZ:=⟨⟨[(0,K4)],[]⟩,⟨[(0,z1)],[(100,IZ)]⟩,1,1,fun x=>Fw k x⟩
theorem TF(k:Nat):fM Tryz.prog 211 (TE k):=ok (cx [f26 k] 23 nb) Tryz.f211 fun h x=>Q (Q (Q (X h) (Q (B (L TG (fun n x=>Fw.l3 k n x.1.1 x.1.2.2 x.2) k fun n3=>X h)) (X h))) (X h)) (X h)
def f211(k:Nat):Fc Tryz.prog:=⟨211,_,TF k⟩
def QY(k:Nat):bZ:=⟨⟨[(0,(.ro DU))],[]⟩,⟨[(0,(.agg (.cons z3 (.cons z1 .nil))))],[(100,IZ)]⟩,1,1,fun x=>Hu k x⟩
theorem QZ(k:Nat):fM Tryz.prog 140 (QY k):=ok (cx [f211 k] 12 nb) Tryz.f140 fun h x=>X h
def f140(k:Nat):Fc Tryz.prog:=⟨140,_,QZ k⟩
def Y6:SS:=⟨[(0,JN),(3,z1),(4,z3)],[(100,Gp)]⟩
def Y4(k:Nat):bZ:=⟨⟨[(0,JN)],[]⟩,⟨[(0,z1)],[(100,Gp)]⟩,1,1,fun x=>Fy k x⟩
theorem Y5(k:Nat):fM Tryz.prog 83 (Y4 k):=ok (cx [f140 k] 23 nb) Tryz.f83 fun h x=>Q (Q (Q (X h) (Q (B (L Y6 (fun n x=>Fy.l3 k n x.1.1 x.1.2.2 x.2) k fun n3=>X h)) (X h))) (X h)) (X h)
def f83(k:Nat):Fc Tryz.prog:=⟨83,_,Y5 k⟩
def Xe(k:Nat):bZ:=⟨⟨[(0,(.ro Ag))],[]⟩,⟨[(0,(.agg (.cons z1 (.cons z3 (.cons z30 .nil)))))],[(100,Gn),(101,Gp)]⟩,1,1,fun x=>FB k x⟩
theorem Xf(k:Nat):fM Tryz.prog 32 (Xe k):=ok (cx [f82 k,f83 k] 16 nb) Tryz.f32 fun h x=>X h
def f32(k:Nat):Fc Tryz.prog:=⟨32,_,Xf k⟩
def Zb(k:Nat):bZ:=⟨⟨[(0,z3),(1,z3),(2,z3)],[]⟩,⟨[(0,z5)],[]⟩,3,1,fun x=>Ao k x.1 x.2.1 x.2.2⟩
theorem Zc(k:Nat):fM Tryz.prog 85 (Zb k):=ok (cx [] 15 nb) Tryz.f85 fun h x=>X h
def f85(k:Nat):Fc Tryz.prog:=⟨85,_,Zc k⟩
def SI(k:Nat):bZ:=⟨⟨[(0,z3)],[]⟩,⟨[(0,z5)],[]⟩,1,1,fun x=>G_ k x⟩
theorem SK(k:Nat):fM Tryz.prog 193 (SI k):=ok (cx [f85 k] 13 nb) Tryz.f193 fun h x=>X h
def f193(k:Nat):Fc Tryz.prog:=⟨193,_,SK k⟩
def Vy(k:Nat):bZ:=⟨⟨[(0,(.ro y8))],[]⟩,⟨[(0,z5)],[]⟩,1,1,fun x=>Kl k x⟩
theorem Vz(k:Nat):fM Tryz.prog 278 (Vy k):=ok (cx [f85 k,f193 k] 30 nb) Tryz.f278 fun h x=>X h
def f278(k:Nat):Fc Tryz.prog:=⟨278,_,Vz k⟩
def VC:SS:=⟨[(0,C8),(5,z3),(6,z3)],[]⟩
def VA(k:Nat):bZ:=⟨⟨[(0,C8)],[]⟩,⟨[(0,z5)],[]⟩,1,1,fun x=>E5 k x⟩
theorem VB(k:Nat):fM Tryz.prog 279 (VA k):=ok (cx [f85 k] 19 nb) Tryz.f279 fun h x=>Q (Q (X h) (Q (B (L VC (fun n x=>E5.l2 k n x.1 x.2.1 x.2.2) k fun n2=>X h)) (X h))) (X h)
def f279(k:Nat):Fc Tryz.prog:=⟨279,_,VB k⟩
def TJ:SS:=⟨[(0,z46),(2,z3),(7,z3),(8,z1),(47,z3),(48,z3),(54,z1),(55,z3),(56,z3)],[(100,(.sl 9 .str))]⟩
def TK:SS:=⟨[(0,z46),(2,z3),(7,z3),(8,z1),(47,z3),(48,z3)],[(100,(.sl 9 .str))]⟩
def J4(F:(List zg)→Int→Int→Option Int):bZ:=⟨⟨[(0,z46),(1,z3),(2,z3)],[]⟩,⟨[(0,z3)],[]⟩,3,1,fun x=>F x.1 x.2.1 x.2.2⟩
theorem TI(k:Nat)(Ec:(List zg)→Int→Int→Option Int)(ZZ:fM Tryz.prog 212 (J4 Ec)):fM Tryz.prog 212 (J4 (zZ.b k Ec)):=ok (cx [⟨212,_,ZZ⟩,f278 k,f279 k] 85 nb) Tryz.f212 fun h x=>Q (Q (Q (Q (Q (X h) (Q (B (L TK (fun n x=>zZ.l6 k Ec n x.1.1 x.1.2.1 x.1.2.2.1 x.1.2.2.2.2.1 x.1.2.2.2.2.2 x.2) k fun n6=>Q (Q (Q (X h) (B (Q (Q (X h) (Q (B (L TJ (fun n x=>zZ.l10 k Ec (zZ.l6 k Ec n6) n x.1.1 x.1.2.1 x.1.2.2.1 x.1.2.2.2.2.1 x.1.2.2.2.2.2.1 x.1.2.2.2.2.2.2.2.1 x.1.2.2.2.2.2.2.2.2 x.2) k fun n10=>X h)) (X h))) (X h)))) (X h)) (X h))) (X h))) (X h)) (X h)) (X h)) (X h)
theorem M_(k:Nat):∀d,fM Tryz.prog 212 (J4 (zZ.d k d))
 |0=>yL (fun _=>rfl)
 |d+1=>let ih:=M_ k d
  TI k (zZ.d k d) ih
theorem TH(k:Nat):fM Tryz.prog 212 (J4 (zZ k)):=(M_ k k)
def f212(k:Nat):Fc Tryz.prog:=⟨212,_,TH k⟩
def Q0(k:Nat):bZ:=⟨⟨[(0,z46)],[]⟩,⟨[(0,z5)],[]⟩,1,1,fun x=>F6 k x⟩
theorem Q3(k:Nat):fM Tryz.prog 141 (Q0 k):=ok (cx [f85 k,f212 k] 33 nb) Tryz.f141 fun h x=>X h
def f141(k:Nat):Fc Tryz.prog:=⟨141,_,Q3 k⟩
def Q7:SS:=⟨[(3,z1),(7,z46),(8,z3),(9,z3)],[(100,zw)]⟩
def Q6:SS:=⟨[(3,z1),(7,z46),(8,z3),(9,z3)],[(100,zw)]⟩
def Q4(k:Nat):bZ:=⟨⟨[(0,z46)],[]⟩,⟨[(0,z1)],[(100,zw)]⟩,1,1,fun x=>CR k x⟩
theorem Q5(k:Nat):fM Tryz.prog 142 (Q4 k):=ok (cx [] 23 nb) Tryz.f142 fun h x=>Q (Q (Q (X h) (Q (B (L Q6 (fun n x=>CR.l3 k n x.1.2.1 x.1.2.2.1 x.1.2.2.2 x.2) k fun n3=>Q (Q (Q (T (X h) Q7 fun x=>CR.c7 k (CR.l3 k n3) x.1.2.1 x.1.2.2.1 x.1.2.2.2 x.2) (X h)) (X h)) (X h))) (X h))) (X h)) (X h)
def f142(k:Nat):Fc Tryz.prog:=⟨142,_,Q5 k⟩
def QA(k:Nat):bZ:=⟨⟨[(0,z46)],[]⟩,⟨[(0,z1)],[(100,zw)]⟩,1,1,fun x=>Jk k x⟩
theorem QB(k:Nat):fM Tryz.prog 132 (QA k):=ok (cx [f141 k,f142 k] 8 nb) Tryz.f132 fun h x=>X h
def f132(k:Nat):Fc Tryz.prog:=⟨132,_,QB k⟩
def Tv:SS:=⟨[(0,z46),(1,z3),(5,z1),(6,z30),(7,z3)],[(100,zw),(101,zw)]⟩
def Tt(k:Nat):bZ:=⟨⟨[(0,z46),(1,z3)],[]⟩,⟨[(0,z1)],[(100,zw)]⟩,2,1,fun x=>Ei k x.1 x.2⟩
theorem Tu(k:Nat):fM Tryz.prog 208 (Tt k):=ok (cx [f85 k,f132 k,f212 k] 41 nb) Tryz.f208 fun h x=>Q (Q (Q (Q (Q (X h) (Q (B (L Tv (fun n x=>Ei.l6 k n x.1.1 x.1.2.1 x.1.2.2.2.2 x.2.1 x.2.2) k fun n6=>X h)) (X h))) (X h)) (X h)) (X h)) (X h)
def f208(k:Nat):Fc Tryz.prog:=⟨208,_,Tu k⟩
def QF:SS:=⟨[(0,z46),(7,z3),(8,z3),(17,z1),(18,z3),(19,z3)],[(100,zw)]⟩
def QE:SS:=⟨[(0,z46),(7,z3),(8,z3),(10,z3),(17,z1),(18,z3),(19,z3)],[(100,zw)]⟩
def QG:SS:=⟨[(0,z46),(7,z3),(8,z3),(17,z1),(18,z3),(19,z3)],[(100,zw)]⟩
def QC(k:Nat):bZ:=⟨⟨[(0,z46),(1,z3)],[]⟩,⟨[(0,z3),(1,z3)],[]⟩,2,2,fun x=>BJ k x.1 x.2⟩
theorem QD(k:Nat):fM Tryz.prog 133 (QC k):=ok (cx [f208 k] 42 nb) Tryz.f133 fun h x=>Q (Q (Q (Q (Q (X h) (Q (B (L QG (fun n x=>BJ.l6 k n x.1.1 x.1.2.1 x.1.2.2.1 x.1.2.2.2.2.1 x.1.2.2.2.2.2 x.2) k fun n6=>Q (Q (Q (T (X h) QF fun x=>BJ.c12 k (BJ.l6 k n6) x.1.1 x.1.2.1 x.1.2.2.1 x.1.2.2.2.2.1 x.1.2.2.2.2.2 x.2) (B (Q (Q (T (X h) QE fun x=>BJ.c10 k (BJ.l6 k n6) x.1.1 x.1.2.1 x.1.2.2.1 x.1.2.2.2.1 x.1.2.2.2.2.2.1 x.1.2.2.2.2.2.2 x.2) (X h)) (X h)))) (X h)) (X h))) (X h))) (X h)) (X h)) (X h)) (X h)
def f133(k:Nat):Fc Tryz.prog:=⟨133,_,QD k⟩
def Yv(k:Nat):bZ:=⟨⟨[(0,z46),(1,z3)],[]⟩,⟨[(0,z38),(1,z5)],[]⟩,2,2,fun x=>Kj k x.1 x.2⟩
theorem Yw(k:Nat):fM Tryz.prog 71 (Yv k):=ok (cx [f85 k,f132 k,f133 k] 35 nb) Tryz.f71 fun h x=>X h
def f71(k:Nat):Fc Tryz.prog:=⟨71,_,Yw k⟩
def Vj(k:Nat):bZ:=⟨⟨[(0,z3)],[]⟩,⟨[(0,z3)],[]⟩,1,1,fun x=>F7 k x⟩
theorem Vk(k:Nat):fM Tryz.prog 262 (Vj k):=ok (cx [] 11 nb) Tryz.f262 fun h x=>X h
def f262(k:Nat):Fc Tryz.prog:=⟨262,_,Vk k⟩
def Vn(k:Nat):bZ:=⟨⟨[(0,z3)],[]⟩,⟨[(0,z5)],[]⟩,1,1,fun x=>He k x⟩
theorem Vo(k:Nat):fM Tryz.prog 267 (Vn k):=ok (cx [f85 k] 5 nb) Tryz.f267 fun h x=>X h
def f267(k:Nat):Fc Tryz.prog:=⟨267,_,Vo k⟩
def VX(k:Nat):bZ:=⟨⟨[(0,z64),(1,z3)],[(0,CZ),(10,Ak)]⟩,⟨[],[(0,CZ),(10,Ak)]⟩,2,0,fun x=>Dr k x.1.2 x.2.1 x.2.2⟩
theorem VY(k:Nat):fM Tryz.prog 299 (VX k):=ok (cx [] 13 nb) Tryz.f299 fun h x=>X h
def f299(k:Nat):Fc Tryz.prog:=⟨299,_,VY k⟩
def VU:SS:=⟨[(0,z64),(4,z25)],[(0,CZ),(10,Ak),(100,KX)]⟩
def VS(k:Nat):bZ:=⟨⟨[(0,z64),(1,(.ro Ea)),(2,z3)],[(0,CZ),(10,Ak)]⟩,⟨[(0,z3)],[(0,Ep),(100,Ak)]⟩,3,1,fun x=>Ew k x.1.2.1 x.1.2.2 x.2.1 x.2.2⟩
theorem VT(k:Nat):fM Tryz.prog 297 (VS k):=ok (cx [f299 k] 40 nb) Tryz.f297 fun h x=>Q (Q (T (X h) VU fun x=>Ew.c3 k x.2.1 x.2.2.1 x.2.2.2) (X h)) (X h)
def f297(k:Nat):Fc Tryz.prog:=⟨297,_,VT k⟩
def U9:SS:=⟨[],[]⟩
def U_:SS:=⟨[(0,z0),(1,z3),(7,(.ro (.int .u64))),(8,z3)],[]⟩
def U7(k:Nat):bZ:=⟨⟨[(0,z0),(1,z3)],[]⟩,⟨[(0,z3),(1,z3),(2,z5)],[]⟩,2,3,fun x=>CJ k x.1 x.2⟩
theorem U8(k:Nat):fM Tryz.prog 255 (U7 k):=ok (cx [] 52 nb) Tryz.f255 fun h x=>Q (Q (Q (Q (T (X h) U9 fun x=>CJ.c12 k) (Q (B (L U_ (fun n x=>CJ.l5 k n x.1 x.2.1 x.2.2.1 x.2.2.2) k fun n5=>X h)) (X h))) (X h)) (X h)) (X h)
def f255(k:Nat):Fc Tryz.prog:=⟨255,_,U8 k⟩
def VV(k:Nat):bZ:=⟨⟨[(0,z64)],[(0,CZ),(10,Ak)]⟩,⟨[(0,z3)],[(0,CZ),(10,Ak)]⟩,1,1,fun x=>F8 k x.2.1 x.2.2⟩
theorem VW(k:Nat):fM Tryz.prog 298 (VV k):=ok (cx [f255 k,f299 k] 35 nb) Tryz.f298 fun h x=>X h
def f298(k:Nat):Fc Tryz.prog:=⟨298,_,VW k⟩
def V5:SS:=⟨[(0,z64),(3,z3)],[(0,CZ),(10,Ak)]⟩
def V4:SS:=⟨[(0,z64),(3,z3)],[(0,CZ),(10,Ak)]⟩
def VZ(k:Nat):bZ:=⟨⟨[(0,z64)],[(0,CZ),(10,Ak)]⟩,⟨[(0,C8)],[(0,CZ),(10,Ak)]⟩,1,1,fun x=>Cz k x.2.1 x.2.2⟩
theorem V3(k:Nat):fM Tryz.prog 300 (VZ k):=ok (cx [f85 k,f298 k,f299 k] 68 nb) Tryz.f300 fun h x=>Q (Q (Q (T (Q (T (X h) V5 fun x=>Cz.c6 k x.1.2 x.2.1 x.2.2) (X h)) V4 fun x=>Cz.c4 k x.1.2 x.2.1 x.2.2) (X h)) (X h)) (X h)
def f300(k:Nat):Fc Tryz.prog:=⟨300,_,V3 k⟩
def WW(k:Nat):bZ:=⟨⟨[(0,z64)],[(0,CZ),(10,Ak)]⟩,⟨[(0,z3)],[(0,CZ),(10,Ak)]⟩,1,1,fun x=>Hf k x.2.1 x.2.2⟩
theorem WX(k:Nat):fM Tryz.prog 323 (WW k):=ok (cx [f299 k] 41 nb) Tryz.f323 fun h x=>X h
def f323(k:Nat):Fc Tryz.prog:=⟨323,_,WX k⟩
def W9:SS:=⟨[(11,z5)],[]⟩
def W_:SS:=⟨[(1,z5),(5,z3),(6,z5)],[]⟩
def WY(k:Nat):bZ:=⟨⟨[(0,z3),(1,z5)],[]⟩,⟨[(0,z5)],[]⟩,2,1,fun x=>Cx k x.1 x.2⟩
theorem WZ(k:Nat):fM Tryz.prog 324 (WY k):=ok (cx [] 17 nb) Tryz.f324 fun h x=>Q (Q (X h) (Q (B (Q (T (D (X h) (Q (T (X h) W9 fun x=>Cx.c10 k x) (X h))) W_ fun x=>Cx.c4 k x.1 x.2.1 x.2.2) (X h))) (X h))) (X h)
def f324(k:Nat):Fc Tryz.prog:=⟨324,_,WZ k⟩
def UN:SS:=⟨[(0,z64),(8,z3),(9,z3)],[(0,Ep),(100,Ak)]⟩
def UJ:SS:=⟨[(0,z64),(8,z3)],[(0,Ep),(100,Ak)]⟩
def UM:SS:=⟨[(0,z64),(1,z3),(3,z3),(8,z3),(21,z3),(22,z5)],[(0,Ep),(100,Ak)]⟩
def Ii(F:Int→Int→Int→zm→(List yY)→Option (Unit×zm×(List yY))):bZ:=⟨⟨[(0,z64),(1,z3),(2,z3),(3,z3)],[(0,CZ),(10,Ak)]⟩,⟨[],[(0,Ep),(100,Ak)]⟩,4,0,fun x=>F x.1.2.1 x.1.2.2.1 x.1.2.2.2 x.2.1 x.2.2⟩
def V8:SS:=⟨[(0,z64),(2,z3),(7,z3),(8,z3),(9,z3)],[(0,Ep),(100,Ak)]⟩
def Wd:SS:=⟨[(0,z64),(1,z3),(2,z3),(7,z3),(8,z3)],[(0,CZ),(10,Ak)]⟩
def V_:SS:=⟨[(0,z64),(1,z3),(2,z3),(7,z3),(8,z3)],[(0,CZ),(10,Ak)]⟩
def V9:SS:=⟨[(0,z64),(1,z3),(2,z3),(7,z3),(8,z3)],[(0,CZ),(10,Ak)]⟩
def Ij(F:Int→Int→zm→(List yY)→Option (Unit×zm×(List yY))):bZ:=⟨⟨[(0,z64),(1,z3),(2,z3)],[(0,CZ),(10,Ak)]⟩,⟨[],[(0,Ep),(100,Ak)]⟩,3,0,fun x=>F x.1.2.1 x.1.2.2 x.2.1 x.2.2⟩
def Wl:SS:=⟨[(0,z64),(1,z3),(2,z3),(8,z3),(9,z3)],[(0,Ep),(100,Ak)]⟩
def Wj:SS:=⟨[(0,z64),(1,z3),(2,z3),(6,z3),(8,z3),(9,z3)],[(0,Ep),(100,Ak)]⟩
def Wn:SS:=⟨[(0,z64),(1,z3),(2,z3),(6,z3),(8,z3),(9,z3)],[(0,Ep),(100,Ak)]⟩
def Wm:SS:=⟨[(0,z64),(1,z3),(2,z3),(6,z3),(7,z3),(8,z3),(9,z3)],[(0,Ep),(100,Ak)]⟩
def Wi:SS:=⟨[(0,z64),(1,z3),(2,z3),(6,z3)],[(0,Ep),(100,Ak)]⟩
def Ik(F:Int→Int→zm→(List yY)→Option (Unit×zm×(List yY))):bZ:=⟨⟨[(0,z64),(1,z3),(2,z3)],[(0,CZ),(10,Ak)]⟩,⟨[],[(0,Ep),(100,Ak)]⟩,3,0,fun x=>F x.1.2.1 x.1.2.2 x.2.1 x.2.2⟩
theorem UL(k:Nat)(zX:Int→Int→Int→zm→(List yY)→Option (Unit×zm×(List yY)))(Dl:Int→Int→zm→(List yY)→Option (Unit×zm×(List yY)))(Dm:Int→Int→zm→(List yY)→Option (Unit×zm×(List yY)))(J9:fM Tryz.prog 249 (Ii zX))(Lh:fM Tryz.prog 301 (Ij Dl))(Li:fM Tryz.prog 302 (Ik Dm)):fM Tryz.prog 249 (Ii (zI.b k zX Dl Dm)):=ok (cx [f262 k,f267 k,f297 k,f298 k,f299 k,f300 k,⟨301,_,Lh⟩,⟨302,_,Li⟩] 75 nb) Tryz.f249 fun h x=>Q (Q (Q (B (Q (T (D (Q (Q (T (X h) UN fun x=>zI.c8 k x.1.2.1 x.1.2.2 x.2.1 x.2.2) (X h)) (X h)) (Q (D (K h UJ (fun x=>zI.d10 k x.1.2 x.2.1 x.2.2) [[0,1,2,4,5,3,6,7,8,9],[0,1,2,4,5,6,3,7,8,9]] (O (fun x=>by kernel_rfl) (O (fun x=>by kernel_rfl) (N)))) (X h)) (X h))) UM fun x=>zI.c5 k Dl Dm x.1.2.1 x.1.2.2.1 x.1.2.2.2.1 x.1.2.2.2.2.1 x.1.2.2.2.2.2 x.2.1 x.2.2) (X h))) (X h)) (X h)) (X h)
theorem V7(k:Nat)(zX:Int→Int→Int→zm→(List yY)→Option (Unit×zm×(List yY)))(Dl:Int→Int→zm→(List yY)→Option (Unit×zm×(List yY)))(Dm:Int→Int→zm→(List yY)→Option (Unit×zm×(List yY)))(J9:fM Tryz.prog 249 (Ii zX))(Lh:fM Tryz.prog 301 (Ij Dl))(Li:fM Tryz.prog 302 (Ik Dm)):fM Tryz.prog 301 (Ij (z8.b k zX Dl Dm)):=ok (cx [f85 k,⟨249,_,J9⟩,f298 k,f299 k,f323 k,f324 k] 72 nb) Tryz.f301 fun h x=>Q (Q (Q (T (Q (Q (T (Q (T (Q (Q (B (L V8 (fun n x=>z8.Bd k zX n x.1.2.1 x.1.2.2.1 x.1.2.2.2.1 x.1.2.2.2.2 x.2.1 x.2.2) k fun n11=>X h)) (X h)) (X h)) Wd fun x=>z8.c9 k zX x.1.2.1 x.1.2.2.1 x.1.2.2.2.1 x.1.2.2.2.2 x.2.1 x.2.2) (X h)) V_ fun x=>z8.c7 k zX x.1.2.1 x.1.2.2.1 x.1.2.2.2.1 x.1.2.2.2.2 x.2.1 x.2.2) (X h)) (X h)) V9 fun x=>z8.c4 k zX x.1.2.1 x.1.2.2.1 x.1.2.2.2.1 x.1.2.2.2.2 x.2.1 x.2.2) (X h)) (X h)) (X h)
theorem Wh(k:Nat)(zX:Int→Int→Int→zm→(List yY)→Option (Unit×zm×(List yY)))(Dl:Int→Int→zm→(List yY)→Option (Unit×zm×(List yY)))(Dm:Int→Int→zm→(List yY)→Option (Unit×zm×(List yY)))(J9:fM Tryz.prog 249 (Ii zX))(Lh:fM Tryz.prog 301 (Ij Dl))(Li:fM Tryz.prog 302 (Ik Dm)):fM Tryz.prog 302 (Ik (zU.b k zX Dl Dm)):=ok (cx [f85 k,⟨249,_,J9⟩,f262 k,f298 k,f299 k,f323 k,f324 k] 84 nb) Tryz.f302 fun h x=>Q (B (L Wi (fun n x=>zU.l1 k zX n x.1.2.1 x.1.2.2.1 x.1.2.2.2 x.2.1 x.2.2) k fun n1=>B (Q (Q (Q (Q (T (Q (T (Q (T (Q (T (X h) Wl fun x=>zU.c12 k zX (zU.l1 k zX n1) x.1.2.1 x.1.2.2.1 x.1.2.2.2.1 x.1.2.2.2.2 x.2.1 x.2.2) (X h)) Wj fun x=>zU.c10 k zX (zU.l1 k zX n1) x.1.2.1 x.1.2.2.1 x.1.2.2.2.1 x.1.2.2.2.2.1 x.1.2.2.2.2.2 x.2.1 x.2.2) (X h)) Wn fun x=>zU.c8 k zX (zU.l1 k zX n1) x.1.2.1 x.1.2.2.1 x.1.2.2.2.1 x.1.2.2.2.2.1 x.1.2.2.2.2.2 x.2.1 x.2.2) (X h)) Wm fun x=>zU.c6 k zX (zU.l1 k zX n1) x.1.2.1 x.1.2.2.1 x.1.2.2.2.1 x.1.2.2.2.2.1 x.1.2.2.2.2.2.1 x.1.2.2.2.2.2.2 x.2.1 x.2.2) (X h)) (X h)) (X h)) (X h)))) (X h)
theorem J5(k:Nat):∀d,fM Tryz.prog 249 (Ii (zI.d k d))∧fM Tryz.prog 301 (Ij (z8.d k d))∧fM Tryz.prog 302 (Ik (zU.d k d))
 |0=>⟨yL (fun _=>rfl),yL (fun _=>rfl),yL (fun _=>rfl)⟩
 |d+1=>let ih:=J5 k d
  ⟨UL k (zI.d k d) (z8.d k d) (zU.d k d) ih.1 ih.2.1 ih.2.2,V7 k (zI.d k d) (z8.d k d) (zU.d k d) ih.1 ih.2.1 ih.2.2,Wh k (zI.d k d) (z8.d k d) (zU.d k d) ih.1 ih.2.1 ih.2.2⟩
theorem UK(k:Nat):fM Tryz.prog 249 (Ii (zI k)):=(J5 k k).1
def f249(k:Nat):Fc Tryz.prog:=⟨249,_,UK k⟩
theorem V6(k:Nat):fM Tryz.prog 301 (Ij (z8 k)):=(J5 k k).2.1
def f301(k:Nat):Fc Tryz.prog:=⟨301,_,V6 k⟩
theorem We(k:Nat):fM Tryz.prog 302 (Ik (zU k)):=(J5 k k).2.2
def f302(k:Nat):Fc Tryz.prog:=⟨302,_,We k⟩
def R7(k:Nat):bZ:=⟨⟨[(0,z0),(1,z3)],[]⟩,⟨[(0,z1),(1,z3),(2,z3)],[(100,Ak)]⟩,2,3,fun x=>Jl k x.1 x.2⟩
theorem R8(k:Nat):fM Tryz.prog 181 (R7 k):=ok (cx [f85 k,f249 k] 37 nb) Tryz.f181 fun h x=>X h
def f181(k:Nat):Fc Tryz.prog:=⟨181,_,R8 k⟩
def Wo(k:Nat):bZ:=⟨⟨[(0,(.ro Ea))],[]⟩,⟨[(0,z5)],[]⟩,1,1,fun x=>Km k x⟩
theorem Wp(k:Nat):fM Tryz.prog 303 (Wo k):=ok (cx [f267 k,f324 k] 109 nb) Tryz.f303 fun h x=>X h
def f303(k:Nat):Fc Tryz.prog:=⟨303,_,Wp k⟩
def UU:SS:=⟨[(0,z64),(1,z3),(2,z3),(7,z25),(8,z3),(9,z3),(43,z3),(44,z3)],[(0,Gq),(10,zw),(100,KX)]⟩
def J6(F:Int→Int→(Bool×zL)→(List Int)→Option (Int×zL×(List Int))):bZ:=⟨⟨[(0,z64),(1,z3),(2,z3)],[(0,JK),(10,zw)]⟩,⟨[(0,z3)],[(0,Gq),(10,zw)]⟩,3,1,fun x=>F x.1.2.1 x.1.2.2 x.2.1 x.2.2⟩
theorem UT(k:Nat)(Gs:Int→Int→(Bool×zL)→(List Int)→Option (Int×zL×(List Int)))(Z4:fM Tryz.prog 250 (J6 Gs)):fM Tryz.prog 250 (J6 (BK.b k Gs)):=ok (cx [f85 k,⟨250,_,Z4⟩,f303 k] 104 nb) Tryz.f250 fun h x=>Q (Q (Q (Q (Q (Q (X h) (Q (B (L UU (fun n x=>BK.l7 k Gs n x.1.2.1 x.1.2.2.1 x.1.2.2.2.2.1 x.1.2.2.2.2.2.1 x.1.2.2.2.2.2.2.1 x.1.2.2.2.2.2.2.2 x.2.1 x.2.2.1 x.2.2.2) k fun n7=>X h)) (X h))) (X h)) (X h)) (X h)) (X h)) (X h)
theorem Na(k:Nat):∀d,fM Tryz.prog 250 (J6 (BK.d k d))
 |0=>yL (fun _=>rfl)
 |d+1=>let ih:=Na k d
  UT k (BK.d k d) ih
theorem UR(k:Nat):fM Tryz.prog 250 (J6 (BK k)):=(Na k k)
def f250(k:Nat):Fc Tryz.prog:=⟨250,_,UR k⟩
def R9(k:Nat):bZ:=⟨⟨[(0,z23)],[]⟩,⟨[(0,z25),(1,z5)],[(100,(.aU Ia (.agg (.cons z23 (.cons z30 .nil))))),(101,zw)]⟩,1,2,fun x=>Iw k x⟩
theorem R_(k:Nat):fM Tryz.prog 182 (R9 k):=ok (cx [f85 k,f250 k] 35 (fun s=>Nat.beq s 27)) Tryz.f182 fun h x=>X h
def f182(k:Nat):Fc Tryz.prog:=⟨182,_,R_ k⟩
def Sa(k:Nat):bZ:=⟨⟨[(0,z22)],[]⟩,⟨[(0,z5)],[]⟩,1,1,fun x=>Ir k x⟩
theorem Sb(k:Nat):fM Tryz.prog 183 (Sa k):=ok (cx [f85 k,f193 k] 18 nb) Tryz.f183 fun h x=>X h
def f183(k:Nat):Fc Tryz.prog:=⟨183,_,Sb k⟩
def Sr:SS:=⟨[(0,z64),(2,z3),(7,z3),(37,z3),(38,z3)],[(0,Gq),(10,zw)]⟩
def Sn(k:Nat):bZ:=⟨⟨[(0,z64),(1,z3),(2,z3)],[(0,JK),(10,zw)]⟩,⟨[(0,z3)],[(0,Gq),(10,zw)]⟩,3,1,fun x=>CK k x.1.2.1 x.1.2.2 x.2.1 x.2.2⟩
theorem Sq(k:Nat):fM Tryz.prog 187 (Sn k):=ok (cx [f85 k] 59 nb) Tryz.f187 fun h x=>Q (Q (Q (Q (X h) (Q (B (L Sr (fun n x=>CK.l5 k n x.1.2.1 x.1.2.2.1 x.1.2.2.2.1 x.1.2.2.2.2 x.2.1 x.2.2) k fun n5=>X h)) (X h))) (X h)) (X h)) (X h)
def f187(k:Nat):Fc Tryz.prog:=⟨187,_,Sq k⟩
def Sl(k:Nat):bZ:=⟨⟨[(0,z64),(1,z3),(2,z3),(3,z3)],[(0,JK),(10,zw)]⟩,⟨[(0,z67),(1,z5)],[(0,Gq),(10,zw)]⟩,4,2,fun x=>E8 k x.1.2.1 x.1.2.2.1 x.1.2.2.2 x.2.1 x.2.2⟩
theorem Sm(k:Nat):fM Tryz.prog 186 (Sl k):=ok (cx [f187 k] 37 nb) Tryz.f186 fun h x=>X h
def f186(k:Nat):Fc Tryz.prog:=⟨186,_,Sm k⟩
def UW(k:Nat):bZ:=⟨⟨[(0,z64),(1,z3),(2,z3)],[(0,JK),(10,zw)]⟩,⟨[(0,z3),(1,z5)],[(0,Gq),(10,zw)]⟩,3,2,fun x=>Hg k x.1.2.1 x.1.2.2 x.2.1 x.2.2⟩
theorem UX(k:Nat):fM Tryz.prog 251 (UW k):=ok (cx [f187 k] 45 nb) Tryz.f251 fun h x=>X h
def f251(k:Nat):Fc Tryz.prog:=⟨251,_,UX k⟩
def Sg:SS:=⟨[(5,z3)],[(0,DT),(10,D_),(11,zw)]⟩
def Sc(k:Nat):bZ:=⟨⟨[(0,z64),(1,z3)],[(0,DT),(10,(.aU Ia z77)),(11,zw)]⟩,⟨[(0,z3)],[(0,DT),(10,D_),(11,zw)]⟩,2,1,fun x=>Dq k x.1.2 x.2.1 x.2.2.1 x.2.2.2⟩
theorem Sd(k:Nat):fM Tryz.prog 184 (Sc k):=ok (cx [f251 k] 26 nb) Tryz.f184 fun h x=>Q (Q (Q (T (X h) Sg fun x=>Dq.c4 k x.1 x.2.1 x.2.2.1 x.2.2.2) (X h)) (X h)) (X h)
def M7(k:Nat):Fc Tryz.prog:=⟨184,_,Sd k⟩
def Sk:SS:=⟨[(7,z3)],[(0,DT),(10,D_),(11,zw)]⟩
def Si(k:Nat):bZ:=⟨⟨[(0,z64),(1,z3),(2,z3)],[(0,DT),(10,D_),(11,zw)]⟩,⟨[(0,z3)],[(0,DT),(10,D_),(11,zw)]⟩,3,1,fun x=>Dx k x.1.2.1 x.1.2.2 x.2.1 x.2.2.1 x.2.2.2⟩
theorem Sj(k:Nat):fM Tryz.prog 185 (Si k):=ok (cx [f251 k] 33 nb) Tryz.f185 fun h x=>Q (Q (Q (T (X h) Sk fun x=>Dx.c4 k x.1 x.2.1 x.2.2.1 x.2.2.2) (X h)) (X h)) (X h)
def M8(k:Nat):Fc Tryz.prog:=⟨185,_,Sj k⟩
def UZ(k:Nat):bZ:=⟨⟨[(0,z64),(1,z3)],[(0,DT),(10,D_),(11,zw)]⟩,⟨[],[(0,DT),(10,D_),(11,zw)]⟩,2,0,fun x=>Iu k x.1.2 x.2.1 x.2.2.1 x.2.2.2⟩
theorem U0(k:Nat):fM Tryz.prog 252 (UZ k):=ok (cx [f187 k] 38 nb) Tryz.f252 fun h x=>X h
def UY(k:Nat):Fc Tryz.prog:=⟨252,_,U0 k⟩
def Ta:SS:=⟨[(3,z1),(7,Bt),(8,z3),(9,z3)],[(100,CY)]⟩
def S9(k:Nat):bZ:=⟨⟨[(0,Bt)],[]⟩,⟨[(0,z1)],[(100,CY)]⟩,1,1,fun x=>FO k x⟩
theorem S_(k:Nat):fM Tryz.prog 197 (S9 k):=ok (cx [] 20 nb) Tryz.f197 fun h x=>Q (Q (Q (X h) (Q (B (L Ta (fun n x=>FO.l3 k n x.1.2.1 x.1.2.2.1 x.1.2.2.2 x.2) k fun n3=>X h)) (X h))) (X h)) (X h)
def f197(k:Nat):Fc Tryz.prog:=⟨197,_,S_ k⟩
def WB(k:Nat):bZ:=⟨⟨[(0,z0),(1,z3)],[]⟩,⟨[(0,z3)],[]⟩,2,1,fun x=>Kc k x.1 x.2⟩
theorem WC(k:Nat):fM Tryz.prog 307 (WB k):=ok (cx [] 24 nb) Tryz.f307 fun h x=>X h
def f307(k:Nat):Fc Tryz.prog:=⟨307,_,WC k⟩
def Ve:SS:=⟨[(0,z0),(1,z3),(3,z3),(9,z1),(10,z3),(11,z3),(14,z3),(15,z3),(18,z3),(19,z3)],[(100,zw)]⟩
def Vd:SS:=⟨[(0,z0),(1,z3),(3,z3),(9,z1),(14,z3),(15,z3)],[(100,zw)]⟩
def Va(k:Nat):bZ:=⟨⟨[(0,z0),(1,z3),(2,z3),(3,z3)],[]⟩,⟨[(0,z1)],[(100,zw)]⟩,4,1,fun x=>CB k x.1 x.2.1 x.2.2.1 x.2.2.2⟩
theorem Vb(k:Nat):fM Tryz.prog 257 (Va k):=ok (cx [f307 k] 43 nb) Tryz.f257 fun h x=>Q (Q (Q (X h) (Q (B (L Vd (fun n x=>CB.l3 k n x.1.1 x.1.2.1 x.1.2.2.1 x.1.2.2.2.2.1 x.1.2.2.2.2.2 x.2) k fun n3=>Q (Q (Q (X h) (B (Q (Q (Q (X h) (Q (B (L Ve (fun n x=>CB.l7 k (CB.l3 k n3) n x.1.1 x.1.2.1 x.1.2.2.1 x.1.2.2.2.2.1 x.1.2.2.2.2.2.1 x.1.2.2.2.2.2.2.1 x.1.2.2.2.2.2.2.2.1 x.1.2.2.2.2.2.2.2.2.1 x.1.2.2.2.2.2.2.2.2.2 x.2) k fun n7=>X h)) (X h))) (X h)) (X h)))) (X h)) (X h))) (X h))) (X h)) (X h)
def f257(k:Nat):Fc Tryz.prog:=⟨257,_,Vb k⟩
def Wz(k:Nat):bZ:=⟨⟨[(0,z3),(1,z3)],[]⟩,⟨[(0,z3)],[]⟩,2,1,fun x=>Kg k x.1 x.2⟩
theorem WA(k:Nat):fM Tryz.prog 306 (Wz k):=ok (cx [f85 k] 18 nb) Tryz.f306 fun h x=>X h
def f306(k:Nat):Fc Tryz.prog:=⟨306,_,WA k⟩
def Vf(k:Nat):bZ:=⟨⟨[(0,z0),(1,z3),(2,z3),(3,z3)],[]⟩,⟨[(0,z1),(1,z3),(2,z5)],[(100,zw)]⟩,4,3,fun x=>Ke k x.1 x.2.1 x.2.2.1 x.2.2.2⟩
theorem Vg(k:Nat):fM Tryz.prog 259 (Vf k):=ok (cx [f85 k,f257 k,f306 k] 40 nb) Tryz.f259 fun h x=>X h
def f259(k:Nat):Fc Tryz.prog:=⟨259,_,Vg k⟩
def Qz:SS:=⟨[(0,z0),(1,z3),(2,z3),(9,z3),(26,z3),(27,z3)],[]⟩
def Qx(k:Nat):bZ:=⟨⟨[(0,z0),(1,z3),(2,z3)],[]⟩,⟨[(0,z3),(1,z3),(2,z5)],[]⟩,3,3,fun x=>Eu k x.1 x.2.1 x.2.2⟩
theorem Qy(k:Nat):fM Tryz.prog 130 (Qx k):=ok (cx [f85 k] 47 nb) Tryz.f130 fun h x=>Q (Q (Q (Q (X h) (Q (B (L Qz (fun n x=>Eu.l5 k n x.1 x.2.1 x.2.2.1 x.2.2.2.1 x.2.2.2.2.1 x.2.2.2.2.2) k fun n5=>X h)) (X h))) (X h)) (X h)) (X h)
def f130(k:Nat):Fc Tryz.prog:=⟨130,_,Qy k⟩
def SQ:SS:=⟨[(6,z5)],[]⟩
def SL(k:Nat):bZ:=⟨⟨[(0,z3)],[]⟩,⟨[(0,z3)],[]⟩,1,1,fun x=>Ex k x⟩
theorem SN(k:Nat):fM Tryz.prog 194 (SL k):=ok (cx [] 9 nb) Tryz.f194 fun h x=>Q (Q (X h) (Q (B (Q (D (X h) (Q (T (X h) SQ fun x=>Ex.c6 k x) (X h))) (X h))) (X h))) (X h)
def f194(k:Nat):Fc Tryz.prog:=⟨194,_,SN k⟩
def Vl(k:Nat):bZ:=⟨⟨[(0,z3),(1,z3)],[]⟩,⟨[(0,z3)],[]⟩,2,1,fun x=>Ko k x.1 x.2⟩
theorem Vm(k:Nat):fM Tryz.prog 266 (Vl k):=ok (cx [] 11 nb) Tryz.f266 fun h x=>X h
def f266(k:Nat):Fc Tryz.prog:=⟨266,_,Vm k⟩
def Vh(k:Nat):bZ:=⟨⟨[(0,z3),(1,z0),(2,z3)],[]⟩,⟨[(0,z27),(1,z3),(2,z5)],[]⟩,3,3,fun x=>Kn k x.1 x.2.1 x.2.2⟩
theorem Vi(k:Nat):fM Tryz.prog 260 (Vh k):=ok (cx [f130 k,f194 k,f266 k] 66 nb) Tryz.f260 fun h x=>X h
def f260(k:Nat):Fc Tryz.prog:=⟨260,_,Vi k⟩
def SY:SS:=⟨[(0,z3),(1,z0),(2,z3),(14,z1),(48,z3),(49,z3)],[(100,CY)]⟩
def SV(k:Nat):bZ:=⟨⟨[(0,z3),(1,z0),(2,z3),(3,z3)],[]⟩,⟨[(0,z1),(1,z3),(2,z5)],[(100,CY)]⟩,4,3,fun x=>Eh k x.1 x.2.1 x.2.2.1 x.2.2.2⟩
theorem SX(k:Nat):fM Tryz.prog 195 (SV k):=ok (cx [f85 k,f193 k,f197 k,f259 k,f260 k] 69 nb) Tryz.f195 fun h x=>Q (Q (Q (Q (Q (X h) (Q (B (L SY (fun n x=>Eh.l8 k n x.1.1 x.1.2.1 x.1.2.2.1 x.1.2.2.2.2.1 x.1.2.2.2.2.2 x.2) k fun n8=>X h)) (X h))) (X h)) (X h)) (X h)) (X h)
def f195(k:Nat):Fc Tryz.prog:=⟨195,_,SX k⟩
def Te:SS:=⟨[(0,z3),(3,z25),(26,z5)],[(100,Dk)]⟩
def Tc(k:Nat):bZ:=⟨⟨[(0,z3),(1,z31)],[]⟩,⟨[(0,z5)],[]⟩,2,1,fun x=>DY k x.1 x.2⟩
theorem Td(k:Nat):fM Tryz.prog 203 (Tc k):=ok (cx [f85 k,f267 k] 45 nb) Tryz.f203 fun h x=>Q (Q (X h) (Q (B (Q (D (X h) (Q (D (X h) (Q (T (X h) Te fun x=>DY.c8 k x.1.1 x.1.2.2 x.2) (X h))) (X h))) (X h))) (X h))) (X h)
def f203(k:Nat):Fc Tryz.prog:=⟨203,_,Td k⟩
def Qg:SS:=⟨[(0,z3),(1,z32),(7,z32),(8,z3),(9,z3)],[]⟩
def Qe(k:Nat):bZ:=⟨⟨[(0,z3),(1,z32)],[]⟩,⟨[(0,z5)],[]⟩,2,1,fun x=>E9 k x.1 x.2⟩
theorem Qf(k:Nat):fM Tryz.prog 124 (Qe k):=ok (cx [f193 k,f203 k] 25 nb) Tryz.f124 fun h x=>Q (Q (X h) (Q (B (L Qg (fun n x=>E9.l2 k n x.1 x.2.1 x.2.2.1 x.2.2.2.1 x.2.2.2.2) k fun n2=>X h)) (X h))) (X h)
def f124(k:Nat):Fc Tryz.prog:=⟨124,_,Qf k⟩
def XA:SS:=⟨[(1,z3),(5,z1),(6,z3),(7,z3),(17,Bt),(18,z3),(19,z3),(24,z3),(25,z3)],[(100,w4)]⟩
def Xz:SS:=⟨[(1,z3),(5,z1),(17,Bt),(18,z3),(19,z3)],[(100,w4)]⟩
def Xx(k:Nat):bZ:=⟨⟨[(0,Bt),(1,z3)],[]⟩,⟨[(0,z1)],[(100,w4)]⟩,2,1,fun x=>Cy k x.1 x.2⟩
theorem Xy(k:Nat):fM Tryz.prog 337 (Xx k):=ok (cx [] 51 nb) Tryz.f337 fun h x=>Q (Q (Q (X h) (Q (B (L Xz (fun n x=>Cy.l3 k n x.1.1 x.1.2.2.1 x.1.2.2.2.1 x.1.2.2.2.2 x.2) k fun n3=>Q (Q (Q (X h) (B (Q (Q (B (L XA (fun n x=>Cy.l6 k (Cy.l3 k n3) n x.1.1 x.1.2.2.1 x.1.2.2.2.1 x.1.2.2.2.2.1 x.1.2.2.2.2.2.1 x.1.2.2.2.2.2.2.1 x.1.2.2.2.2.2.2.2.1 x.1.2.2.2.2.2.2.2.2 x.2) k fun n6=>X h)) (X h)) (X h)))) (X h)) (X h))) (X h))) (X h)) (X h)
def f337(k:Nat):Fc Tryz.prog:=⟨337,_,Xy k⟩
def XD:SS:=⟨[(3,z1),(7,z32),(8,z3),(9,z3)],[(100,zw)]⟩
def XB(k:Nat):bZ:=⟨⟨[(0,z32)],[]⟩,⟨[(0,z1)],[(100,zw)]⟩,1,1,fun x=>FN k x⟩
theorem XC(k:Nat):fM Tryz.prog 338 (XB k):=ok (cx [] 20 nb) Tryz.f338 fun h x=>Q (Q (Q (X h) (Q (B (L XD (fun n x=>FN.l3 k n x.1.2.1 x.1.2.2.1 x.1.2.2.2 x.2) k fun n3=>X h)) (X h))) (X h)) (X h)
def f338(k:Nat):Fc Tryz.prog:=⟨338,_,XC k⟩
def XG:SS:=⟨[(0,z3),(5,z1),(11,z3),(12,z3)],[(100,w4)]⟩
def XE(k:Nat):bZ:=⟨⟨[(0,z3),(1,z3)],[]⟩,⟨[(0,z1)],[(100,w4)]⟩,2,1,fun x=>DZ k x.1 x.2⟩
theorem XF(k:Nat):fM Tryz.prog 339 (XE k):=ok (cx [f85 k] 25 nb) Tryz.f339 fun h x=>Q (Q (Q (Q (X h) (Q (B (L XG (fun n x=>DZ.l5 k n x.1.1 x.1.2.2.1 x.1.2.2.2 x.2) k fun n5=>X h)) (X h))) (X h)) (X h)) (X h)
def f339(k:Nat):Fc Tryz.prog:=⟨339,_,XF k⟩
def Xv:SS:=⟨[(0,z3),(6,z1),(19,z32),(20,z3),(21,z3)],[(100,w4)]⟩
def Xr:SS:=⟨[(0,z3),(6,z1),(8,z33),(19,z32),(20,z3),(21,z3)],[(100,w4),(101,Dk)]⟩
def Xt:SS:=⟨[(0,z3),(6,z1),(8,z33),(19,z32),(20,z3),(21,z3)],[(100,w4),(101,Dk)]⟩
def Xw:SS:=⟨[(0,z3),(6,z1),(19,z32),(20,z3),(21,z3)],[(100,w4)]⟩
def Xq(k:Nat):bZ:=⟨⟨[(0,z3),(1,z32)],[]⟩,⟨[(0,z1),(1,z5)],[(100,w4)]⟩,2,2,fun x=>AU k x.1 x.2⟩
theorem Xu(k:Nat):fM Tryz.prog 336 (Xq k):=ok (cx [f124 k,f194 k,f337 k,f338 k,f339 k] 45 nb) Tryz.f336 fun h x=>Q (Q (Q (Q (Q (X h) (Q (B (L Xw (fun n x=>AU.l7 k n x.1.1 x.1.2.2.1 x.1.2.2.2.1 x.1.2.2.2.2 x.2) k fun n7=>Q (Q (Q (T (X h) Xv fun x=>AU.c12 k (AU.l7 k n7) x.1.1 x.1.2.2.1 x.1.2.2.2.1 x.1.2.2.2.2 x.2) (B (Q (Q (D (K h Xr (fun x=>AU.d10 k (AU.l7 k n7) x.1.1 x.1.2.2.2.1 x.1.2.2.2.2.1 x.1.2.2.2.2.2 x.2.1 x.2.2) [[0,1,6,2,3,4,5,7,8,9],[0,1,6,2,3,4,7,5,8,9],[0,1,6,2,3,7,4,5,8,9],[0,1,6,7,2,3,4,5,8,9]] (O (fun x=>by kernel_rfl) (O (fun x=>by kernel_rfl) (O (fun x=>by kernel_rfl) (O (fun x=>by kernel_rfl) (N)))))) (K h Xt (fun x=>AU.d11 k (AU.l7 k n7) x.1.1 x.1.2.2.2.1 x.1.2.2.2.2.1 x.1.2.2.2.2.2 x.2.1 x.2.2) [[0,1,3,2,4,5,6,7],[0,1,3,4,2,5,6,7]] (O (fun x=>by kernel_rfl) (O (fun x=>by kernel_rfl) (N))))) (X h)) (X h)))) (X h)) (X h))) (X h))) (X h)) (X h)) (X h)) (X h)
def f336(k:Nat):Fc Tryz.prog:=⟨336,_,Xu k⟩
def Xo(k:Nat):bZ:=⟨⟨[(0,z3),(1,z31)],[]⟩,⟨[(0,C8)],[]⟩,2,1,fun x=>Lx k x.1 x.2⟩
theorem Xp(k:Nat):fM Tryz.prog 335 (Xo k):=ok (cx [f336 k] 20 nb) Tryz.f335 fun h x=>X h
def f335(k:Nat):Fc Tryz.prog:=⟨335,_,Xp k⟩
def Xa(k:Nat):bZ:=⟨⟨[(0,z3),(1,C8)],[]⟩,⟨[(0,z27),(1,z5)],[]⟩,2,2,fun x=>Hl k x.1 x.2⟩
theorem Xb(k:Nat):fM Tryz.prog 325 (Xa k):=ok (cx [f195 k,f203 k,f335 k] 46 nb) Tryz.f325 fun h x=>X h
def f325(k:Nat):Fc Tryz.prog:=⟨325,_,Xb k⟩
def VH(k:Nat):bZ:=⟨⟨[(0,z3)],[]⟩,⟨[(0,z3)],[]⟩,1,1,fun x=>Ki k x⟩
theorem VI(k:Nat):fM Tryz.prog 292 (VH k):=ok (cx [] 8 nb) Tryz.f292 fun h x=>X h
def f292(k:Nat):Fc Tryz.prog:=⟨292,_,VI k⟩
def TY:SS:=⟨[(4,z25),(5,z33)],[(100,Dk),(101,Dk)]⟩
def TW(k:Nat):bZ:=⟨⟨[(0,z3),(1,z31),(2,z31)],[]⟩,⟨[(0,z5)],[]⟩,3,1,fun x=>Gx k x.1 x.2.1 x.2.2⟩
theorem TZ(k:Nat):fM Tryz.prog 232 (TW k):=ok (cx [f203 k,f292 k] 39 nb) Tryz.f232 fun h x=>Q (Q (Q (X h) (Q (B (Q (D (Q (X h) (K h TY (fun x=>Gx.d5 k x.2.1 x.2.2) [[0,3,1,2,4,5,6,7],[0,3,1,4,2,5,6,7],[0,3,4,1,2,5,6,7]] (O (fun x=>by kernel_rfl) (O (fun x=>by kernel_rfl) (O (fun x=>by kernel_rfl) (N)))))) (X h)) (X h))) (X h))) (X h)) (X h)
def f232(k:Nat):Fc Tryz.prog:=⟨232,_,TZ k⟩
def Xc(k:Nat):bZ:=⟨⟨[(0,z22),(1,(.ro y34))],[]⟩,⟨[(0,z5)],[]⟩,2,1,fun x=>Jn k x.1 x.2⟩
theorem Xd(k:Nat):fM Tryz.prog 326 (Xc k):=ok (cx [f85 k,f183 k,f203 k,f232 k] 49 nb) Tryz.f326 fun h x=>X h
def f326(k:Nat):Fc Tryz.prog:=⟨326,_,Xd k⟩
def Wu:SS:=⟨[(4,z25),(6,z33),(10,z35)],[(0,Gq),(10,zw),(100,Ci),(101,H8),(102,H8)]⟩
def Ws:SS:=⟨[(4,z25),(6,z33),(10,z35),(15,z36),(17,z45)],[(0,Gq),(10,zw),(100,Ci),(101,H8),(102,H8),(103,Dk),(104,Dk)]⟩
def Wq(k:Nat):bZ:=⟨⟨[(0,z64),(1,z22),(2,z3)],[(0,JK),(10,zw)]⟩,⟨[(0,z40),(1,z5)],[(0,Gq),(10,zw)]⟩,3,2,fun x=>Dy k x.1.2.1 x.1.2.2 x.2.1 x.2.2⟩
theorem Wt(k:Nat):fM Tryz.prog 304 (Wq k):=ok (cx [f183 k,f186 k,f187 k,f251 k,f325 k,f326 k] 99 (fun s=>Nat.beq s 39)) Tryz.f304 fun h x=>Q (Q (Q (Q (Q (T (X h) Wu fun x=>Dy.c13 k x.2.1 x.2.2.1 x.2.2.2.1 x.2.2.2.2.1 x.2.2.2.2.2) (Q (D (Q (Q (Q (Q (Q (K h Ws (fun x=>Dy.d12 k x.2.1 x.2.2.1 x.2.2.2.1 x.2.2.2.2.1 x.2.2.2.2.2.1 x.2.2.2.2.2.2.1 x.2.2.2.2.2.2.2) [[2,0,1,3,4,5,6,7],[2,0,3,4,1,5,6,7],[2,0,3,4,5,1,6,7],[2,1,0,3,4,5,6,7],[2,1,3,0,4,5,6,7],[2,3,0,4,1,5,6,7],[2,3,0,4,5,1,6,7]] (O (fun x=>by kernel_rfl) (O (fun x=>by kernel_rfl) (O (fun x=>by kernel_rfl) (O (fun x=>by kernel_rfl) (O (fun x=>by kernel_rfl) (O (fun x=>by kernel_rfl) (O (fun x=>by kernel_rfl) (N))))))))) (X h)) (X h)) (X h)) (X h)) (X h)) (X h)) (X h))) (X h)) (X h)) (X h)) (X h)
def f304(k:Nat):Fc Tryz.prog:=⟨304,_,Wt k⟩
def U2(k:Nat):bZ:=⟨⟨[(0,z64),(1,z22),(2,z3),(3,(.p 3))],[(0,DT),(3,Bj),(10,D_),(11,zw)]⟩,⟨[],[(0,DT),(3,Bj),(10,D_),(11,zw)]⟩,4,0,fun x=>Jm k x.1.2.1 x.1.2.2.1 x.2.1 x.2.2.1 x.2.2.2.1 x.2.2.2.2⟩
theorem U3(k:Nat):fM Tryz.prog 253 (U2 k):=ok (cx [f187 k,f304 k] 37 nb) Tryz.f253 fun h x=>X h
def U1(k:Nat):Fc Tryz.prog:=⟨253,_,U3 k⟩
def Sz:SS:=⟨[(0,z64),(2,(.p 2))],[(0,DT),(2,Bj),(10,D_),(11,zw)]⟩
def SA:SS:=⟨[(0,z64),(2,(.p 2)),(4,z25)],[(0,DT),(2,Bj),(10,D_),(11,zw),(100,Ci)]⟩
def Sy:SS:=⟨[(0,z64),(2,(.p 2)),(4,z25)],[(0,DT),(2,Bj),(10,D_),(11,zw),(100,Ci)]⟩
def Sv(k:Nat):bZ:=⟨⟨[(0,z64),(1,z22),(2,(.p 2))],[(0,DT),(2,Bj),(10,D_),(11,zw)]⟩,⟨[],[(0,DT),(2,Bj),(10,D_),(11,zw)]⟩,3,0,fun x=>Aw k x.1.2.1 x.2.1 x.2.2.1 x.2.2.2.1 x.2.2.2.2⟩
theorem Sw(k:Nat):fM Tryz.prog 188 (Sv k):=ok (cx [M7 k,M8 k,f187 k,UY k,U1 k] 127 (fun s=>Nat.beq s 26)) Tryz.f188 fun h x=>Q (Q (T (X h) Sz fun x=>Aw.c23 k x.2.1 x.2.2.1 x.2.2.2.1 x.2.2.2.2) (Q (B (Q (D (Q (Q (Q (T (X h) SA fun x=>Aw.c8 k x.2.1 x.2.2.1 x.2.2.2.1 x.2.2.2.2.1 x.2.2.2.2.2) (X h)) (X h)) (X h)) (Q (D (Q (Q (Q (Q (Q (Q (Q (Q (T (X h) Sy fun x=>Aw.c19 k x.2.1 x.2.2.1 x.2.2.2.1 x.2.2.2.2.1 x.2.2.2.2.2) (X h)) (X h)) (X h)) (X h)) (X h)) (X h)) (X h)) (X h)) (X h)) (X h))) (X h))) (X h))) (X h)
def Su(k:Nat):Fc Tryz.prog:=⟨188,_,Sw k⟩
def P8:SS:=⟨[(1,z0),(3,z25),(6,z33),(9,z3),(13,z35),(14,z36),(15,z45),(16,z5)],[(100,Ci),(101,Bj),(102,Oq),(103,Bj),(104,KX),(105,Ou),(106,zw)]⟩
def Qb:SS:=⟨[(1,z0),(3,z25),(6,z33),(9,z3),(13,z35),(14,z36),(15,z45),(16,z5)],[(100,Ci),(101,Bj),(102,Oq),(103,Bj),(104,KX),(105,Ou),(106,zw)]⟩
def Qa:SS:=⟨[(1,z0),(3,z25),(6,z33),(9,z3),(11,z35),(13,z36),(14,z45)],[(100,Ci),(101,Bj),(102,Ov),(103,Ox),(104,Bj),(105,zw)]⟩
def P9:SS:=⟨[(1,z0),(3,z25),(6,z33),(9,z3),(11,z35),(13,z36),(14,z45)],[(100,Ci),(101,Bj),(102,Ov),(103,Ox),(104,Bj),(105,zw)]⟩
def P7(k:Nat):bZ:=⟨⟨[(0,z22),(1,z0),(2,z3)],[]⟩,⟨[(0,z43),(1,z3)],[]⟩,3,2,fun x=>Bv k x.1 x.2.1 x.2.2⟩
theorem P_(k:Nat):fM Tryz.prog 118 (P7 k):=ok (cx [f181 k,f182 k,f183 k,M7 k,M8 k,f186 k,f187 k,Su k] 100 nb) Tryz.f118 fun h x=>Q (Q (Q (Q (Q (Q (Q (Q (Q (T (Q (Q (T (Q (X h) (K h P8 (fun x=>Bv.d14 k x.1.1 x.1.2.2.2.1 x.1.2.2.2.2.2.2.2 x.2.1 x.2.2.1 x.2.2.2.1 x.2.2.2.2.1 x.2.2.2.2.2.1 x.2.2.2.2.2.2.1 x.2.2.2.2.2.2.2) [[0,1,4,2,3,5,6,7],[0,1,4,5,2,3,6,7]] (O (fun x=>by kernel_rfl) (O (fun x=>by kernel_rfl) (N))))) Qb fun x=>Bv.c14 k x.1.1 x.1.2.2.2.1 x.1.2.2.2.2.2.2.2 x.2.1 x.2.2.1 x.2.2.2.1 x.2.2.2.2.1 x.2.2.2.2.2.1 x.2.2.2.2.2.2.1 x.2.2.2.2.2.2.2) (X h)) (X h)) Qa fun x=>Bv.c11 k x.1.1 x.1.2.2.2.1 x.2.1 x.2.2.1 x.2.2.2.1 x.2.2.2.2.1 x.2.2.2.2.2.1 x.2.2.2.2.2.2) (Q (X h) (K h P9 (fun x=>Bv.d9 k x.1.1 x.1.2.2.2.1 x.2.1 x.2.2.1 x.2.2.2.1 x.2.2.2.2.1 x.2.2.2.2.2.1 x.2.2.2.2.2.2) [[0,2,1,3,4],[0,2,3,1,4]] (O (fun x=>by kernel_rfl) (O (fun x=>by kernel_rfl) (N)))))) (X h)) (X h)) (X h)) (X h)) (X h)) (X h)) (X h)) (X h)
def f118(k:Nat):Fc Tryz.prog:=⟨118,_,P_ k⟩
def Wy:SS:=⟨[(0,z3),(4,z3)],[]⟩
def Wx:SS:=⟨[(0,z3),(4,z3)],[]⟩
def Wv(k:Nat):bZ:=⟨⟨[(0,z3)],[]⟩,⟨[(0,z3)],[]⟩,1,1,fun x=>Da k x⟩
theorem Ww(k:Nat):fM Tryz.prog 305 (Wv k):=ok (cx [] 16 nb) Tryz.f305 fun h x=>Q (Q (X h) (Q (B (L Wx (fun n x=>Da.l2 k n x.1 x.2) k fun n2=>Q (Q (Q (T (X h) Wy fun x=>Da.c7 k (Da.l2 k n2) x.1 x.2) (X h)) (X h)) (X h))) (X h))) (X h)
def f305(k:Nat):Fc Tryz.prog:=⟨305,_,Ww k⟩
def U6:SS:=⟨[(1,z1),(4,z3)],[(100,zw)]⟩
def U4(k:Nat):bZ:=⟨⟨[],[]⟩,⟨[(0,z1)],[(100,zw)]⟩,0,1,fun x=>FK k⟩
theorem U5(k:Nat):fM Tryz.prog 254 (U4 k):=ok (cx [f305 k] 14 nb) Tryz.f254 fun h x=>Q (Q (Q (X h) (Q (B (L U6 (fun n x=>FK.l3 k n x.1.2 x.2) k fun n3=>X h)) (X h))) (X h)) (X h)
def f254(k:Nat):Fc Tryz.prog:=⟨254,_,U5 k⟩
def SE:SS:=⟨[(0,z3),(5,z1),(14,z0),(15,z3),(16,z3)],[(100,zw)]⟩
def SB(k:Nat):bZ:=⟨⟨[(0,z3),(1,z0)],[]⟩,⟨[(0,z3)],[]⟩,2,1,fun x=>FJ k x.1 x.2⟩
theorem SC(k:Nat):fM Tryz.prog 189 (SB k):=ok (cx [f85 k,f254 k] 34 nb) Tryz.f189 fun h x=>Q (Q (Q (Q (Q (X h) (Q (B (L SE (fun n x=>FJ.l6 k n x.1.1 x.1.2.2.1 x.1.2.2.2.1 x.1.2.2.2.2 x.2) k fun n6=>X h)) (X h))) (X h)) (X h)) (X h)) (X h)
def f189(k:Nat):Fc Tryz.prog:=⟨189,_,SC k⟩
def Qc(k:Nat):bZ:=⟨⟨[(0,z0)],[]⟩,⟨[(0,z3)],[]⟩,1,1,fun x=>Jj k x⟩
theorem Qd(k:Nat):fM Tryz.prog 119 (Qc k):=ok (cx [f189 k] 5 nb) Tryz.f119 fun h x=>X h
def f119(k:Nat):Fc Tryz.prog:=⟨119,_,Qd k⟩
def Yd:SS:=⟨[(6,z25),(9,z33),(11,z0)],[(100,Bj),(101,Bj)]⟩
def Yc(k:Nat):bZ:=⟨⟨[(0,z22),(1,z0),(2,z3)],[]⟩,⟨[(0,z43),(1,z0),(2,z3)],[]⟩,3,3,fun x=>FL k x.1 x.2.1 x.2.2⟩
theorem Ye(k:Nat):fM Tryz.prog 59 (Yc k):=ok (cx [f118 k,f119 k] 44 nb) Tryz.f59 fun h x=>Q (Q (Q (Q (Q (X h) (Q (X h) (K h Yd (fun x=>FL.d5 k x.1.2.2 x.2.1 x.2.2) [[0,1,2,3,5,4,6,7,8],[0,1,2,3,5,6,4,7,8]] (O (fun x=>by kernel_rfl) (O (fun x=>by kernel_rfl) (N)))))) (X h)) (X h)) (X h)) (X h)
def f59(k:Nat):Fc Tryz.prog:=⟨59,_,Ye k⟩
def QH(k:Nat):bZ:=⟨⟨[(0,z3),(1,z0),(2,z3)],[]⟩,⟨[(0,z1),(1,z3),(2,z3)],[(100,CY)]⟩,3,3,fun x=>Kh k x.1 x.2.1 x.2.2⟩
theorem QI(k:Nat):fM Tryz.prog 134 (QH k):=ok (cx [f59 k,f195 k] 75 nb) Tryz.f134 fun h x=>X h
def f134(k:Nat):Fc Tryz.prog:=⟨134,_,QI k⟩
def Yz:SS:=⟨[(1,z0),(3,z25),(5,z33),(9,z48),(13,(.h 103)),(14,z3),(15,z3)],[(100,Ci),(101,IY),(102,CY),(103,zw)]⟩
def YA:SS:=⟨[(1,z0),(3,z25),(5,z33),(9,z48)],[(100,Ci),(101,IY),(102,CY)]⟩
def Yx(k:Nat):bZ:=⟨⟨[(0,z22),(1,z0),(2,GM)],[]⟩,⟨[(0,z1),(1,z30),(2,z3)],[(100,zw),(101,CY)]⟩,3,3,fun x=>Dp k x.1 x.2.1 x.2.2⟩
theorem Yy(k:Nat):fM Tryz.prog 72 (Yx k):=ok (cx [f118 k,f134 k] 90 nb) Tryz.f72 fun h x=>Q (Q (Q (Q (T (Q (Q (Q (X h) (B (L Yz (fun n x=>Dp.Bd k n x.1.1 x.1.2.2.2.2.2.1 x.1.2.2.2.2.2.2 x.2.1 x.2.2.1 x.2.2.2.1 x.2.2.2.2) k fun n11=>X h))) (X h)) (X h)) YA fun x=>Dp.c9 k x.1.1 x.2.1 x.2.2.1 x.2.2.2) (X h)) (X h)) (X h)) (X h)
def f72(k:Nat):Fc Tryz.prog:=⟨72,_,Yy k⟩
def TN:SS:=⟨[(0,Bt),(5,Bt),(6,z3),(7,z3)],[]⟩
def TL(k:Nat):bZ:=⟨⟨[(0,Bt)],[]⟩,⟨[(0,z5)],[]⟩,1,1,fun x=>FM k x⟩
theorem TM(k:Nat):fM Tryz.prog 213 (TL k):=ok (cx [f85 k] 32 nb) Tryz.f213 fun h x=>Q (Q (X h) (Q (B (L TN (fun n x=>FM.l2 k n x.1 x.2.1 x.2.2.1 x.2.2.2) k fun n2=>X h)) (X h))) (X h)
def f213(k:Nat):Fc Tryz.prog:=⟨213,_,TM k⟩
def Q8(k:Nat):bZ:=⟨⟨[(0,GM),(1,z3)],[]⟩,⟨[(0,z5)],[]⟩,2,1,fun x=>Kk k x.1 x.2⟩
theorem Q9(k:Nat):fM Tryz.prog 143 (Q8 k):=ok (cx [f85 k,f213 k] 36 nb) Tryz.f143 fun h x=>X h
def f143(k:Nat):Fc Tryz.prog:=⟨143,_,Q9 k⟩
def Y_:SS:=⟨[(1,z25),(3,z3),(5,z33),(19,z52),(20,z3),(21,z3),(40,z54),(41,z3),(42,z3)],[(100,Eo),(101,FX)]⟩
def Y8:SS:=⟨[(1,z25),(3,z3),(5,z33),(19,z52),(20,z3),(21,z3)],[(100,Eo),(101,FX)]⟩
def Za:SS:=⟨[(1,z25),(3,z3),(19,z52),(20,z3),(21,z3)],[(100,Eo)]⟩
def Y7(k:Nat):bZ:=⟨⟨[(0,z56)],[]⟩,⟨[(0,z5)],[]⟩,1,1,fun x=>Bc k x⟩
theorem Y9(k:Nat):fM Tryz.prog 84 (Y7 k):=ok (cx [f85 k,f141 k,f142 k,f143 k] 65 nb) Tryz.f84 fun h x=>Q (Q (Q (Q (X h) (Q (B (L Za (fun n x=>Bc.l5 k n x.1.2.1 x.1.2.2.1 x.1.2.2.2.1 x.1.2.2.2.2 x.2) k fun n5=>Q (Q (Q (X h) (B (Q (Q (Q (X h) (Q (B (L Y_ (fun n x=>Bc.l10 k (Bc.l5 k n5) n x.1.2.1 x.1.2.2.2.1 x.1.2.2.2.2.1 x.1.2.2.2.2.2.1 x.1.2.2.2.2.2.2.1 x.1.2.2.2.2.2.2.2.1 x.1.2.2.2.2.2.2.2.2 x.2.1 x.2.2) k fun n10=>X h)) (X h))) (Q (X h) (K h Y8 (fun x=>Bc.d7 k (Bc.l5 k n5) x.1.2.1 x.1.2.2.2.1 x.1.2.2.2.2.1 x.1.2.2.2.2.2 x.2.1 x.2.2) [[0,1,2,3,4,5,8,9,6,7,10,11,12,13],[0,1,2,3,4,5,8,9,10,6,7,11,12,13]] (O (fun x=>by kernel_rfl) (O (fun x=>by kernel_rfl) (N)))))) (X h)))) (X h)) (X h))) (X h))) (X h)) (X h)) (X h)
def f84(k:Nat):Fc Tryz.prog:=⟨84,_,Y9 k⟩
def Q_(k:Nat):bZ:=⟨⟨[(0,z22),(1,(.ro KZ))],[]⟩,⟨[(0,z3),(1,z5)],[]⟩,2,2,fun x=>Lv k x.1 x.2⟩
theorem Ra(k:Nat):fM Tryz.prog 144 (Q_ k):=ok (cx [] 16 nb) Tryz.f144 fun h x=>X h
def f144(k:Nat):Fc Tryz.prog:=⟨144,_,Ra k⟩
def Zg:SS:=⟨[(0,z0),(3,z1),(4,z5),(6,z33),(12,z3),(13,z3),(18,z35),(28,Bt),(29,z3),(30,z3)],[(100,Ba),(101,Ci),(102,Ol)]⟩
def Zf:SS:=⟨[(0,z0),(3,z1),(4,z5),(6,z33),(12,z3),(13,z3),(14,z35),(16,z3),(28,Bt),(29,z3),(30,z3)],[(100,Ba),(101,Ci),(102,Bj)]⟩
def Zh:SS:=⟨[(0,z0),(3,z1),(4,z5),(6,z33),(28,Bt),(29,z3),(30,z3)],[(100,Ba),(101,Ci)]⟩
def Zd(k:Nat):bZ:=⟨⟨[(0,z0),(1,z22),(2,Bt),(3,z6),(4,z5)],[(10,Ba)]⟩,⟨[(0,z1),(1,z5)],[(100,Ba)]⟩,5,2,fun x=>Ad k x.1.1 x.1.2.1 x.1.2.2.1 x.1.2.2.2.2 x.2⟩
theorem Ze(k:Nat):fM Tryz.prog 86 (Zd k):=ok (cx [f118 k,f144 k] 104 nb) Tryz.f86 fun h x=>Q (Q (Q (X h) (Q (B (L Zh (fun n x=>Ad.l4 k n x.1.1 x.1.2.2.1 x.1.2.2.2.2.1 x.1.2.2.2.2.2.1 x.1.2.2.2.2.2.2 x.2.1 x.2.2) k fun n4=>Q (Q (Q (X h) (B (Q (Q (Q (Q (Q (T (Q (Q (Q (T (X h) Zg fun x=>Ad.c17 k (Ad.l4 k n4) x.1.1 x.1.2.2.1 x.1.2.2.2.2.1 x.1.2.2.2.2.2.1 x.1.2.2.2.2.2.2.2.1 x.1.2.2.2.2.2.2.2.2.1 x.1.2.2.2.2.2.2.2.2.2 x.2.1 x.2.2.1 x.2.2.2) (X h)) (X h)) (X h)) Zf fun x=>Ad.c12 k (Ad.l4 k n4) x.1.1 x.1.2.2.1 x.1.2.2.2.2.1 x.1.2.2.2.2.2.1 x.1.2.2.2.2.2.2.2.1 x.1.2.2.2.2.2.2.2.2.1 x.1.2.2.2.2.2.2.2.2.2.1 x.1.2.2.2.2.2.2.2.2.2.2 x.2.1 x.2.2.1 x.2.2.2) (X h)) (X h)) (X h)) (X h)) (X h)))) (X h)) (X h))) (X h))) (X h)) (X h)
def f86(k:Nat):Fc Tryz.prog:=⟨86,_,Ze k⟩
def XJ:SS:=⟨[(2,z3),(4,z25),(8,z30),(18,z3),(77,z30),(78,z3),(79,z3)],[(100,Eo),(101,Ba)]⟩
def XK:SS:=⟨[(0,z0),(2,z3),(4,z25),(8,z30),(39,z54),(40,z3),(41,z3)],[(100,Eo),(101,Ba)]⟩
def XH(k:Nat):bZ:=⟨⟨[(0,z0),(1,z56),(2,z3)],[]⟩,⟨[(0,z1),(1,z5)],[(100,Ba)]⟩,3,2,fun x=>Cw k x.1 x.2.1 x.2.2⟩
theorem XI(k:Nat):fM Tryz.prog 33 (XH k):=ok (cx [f71 k,f72 k,f84 k,f85 k,f86 k] 97 nb) Tryz.f33 fun h x=>Q (Q (Q (Q (Q (Q (X h) (Q (B (L XJ (fun n x=>Cw.IA k n x.1.1 x.1.2.2.2.1 x.1.2.2.2.2.2.1 x.1.2.2.2.2.2.2 x.2.1 x.2.2) k fun n18=>X h)) (X h))) (X h)) (Q (B (L XK (fun n x=>Cw.l5 k n x.1.1 x.1.2.1 x.1.2.2.2.2.1 x.1.2.2.2.2.2.1 x.1.2.2.2.2.2.2 x.2.1 x.2.2) k fun n5=>X h)) (X h))) (X h)) (X h)) (X h)
def f33(k:Nat):Fc Tryz.prog:=⟨33,_,XI k⟩
def YI:SS:=⟨[(0,Bt),(1,Bt),(5,z3)],[]⟩
def YG(k:Nat):bZ:=⟨⟨[(0,Bt),(1,Bt)],[]⟩,⟨[(0,z5)],[]⟩,2,1,fun x=>Ez k x.1 x.2⟩
theorem YH(k:Nat):fM Tryz.prog 75 (YG k):=ok (cx [] 26 nb) Tryz.f75 fun h x=>Q (Q (Q (X h) (Q (B (L YI (fun n x=>Ez.l4 k n x.1 x.2.1 x.2.2) k fun n4=>X h)) (X h))) (X h)) (X h)
def f75(k:Nat):Fc Tryz.prog:=⟨75,_,YH k⟩
def Yg(k:Nat):bZ:=⟨⟨[(0,z31),(1,z31)],[]⟩,⟨[(0,z5)],[]⟩,2,1,fun x=>Gf k x.1 x.2⟩
theorem Yh(k:Nat):fM Tryz.prog 65 (Yg k):=ok (cx [] 15 nb) Tryz.f65 fun h x=>X h
def f65(k:Nat):Fc Tryz.prog:=⟨65,_,Yh k⟩
def VD(k:Nat):bZ:=⟨⟨[(0,(.ro y34)),(1,(.ro y34))],[]⟩,⟨[(0,z5)],[]⟩,2,1,fun x=>Gz k x.1 x.2⟩
theorem VE(k:Nat):fM Tryz.prog 280 (VD k):=ok (cx [f65 k] 27 nb) Tryz.f280 fun h x=>X h
def f280(k:Nat):Fc Tryz.prog:=⟨280,_,VE k⟩
def TP(k:Nat):bZ:=⟨⟨[(0,(.ro GL)),(1,(.ro GL))],[]⟩,⟨[(0,z5)],[]⟩,2,1,fun x=>Gb k x.1 x.2⟩
theorem TQ(k:Nat):fM Tryz.prog 214 (TP k):=ok (cx [f280 k] 16 nb) Tryz.f214 fun h x=>X h
def f214(k:Nat):Fc Tryz.prog:=⟨214,_,TQ k⟩
def Re:SS:=⟨[(0,z83),(1,z83),(5,z3)],[]⟩
def Rb(k:Nat):bZ:=⟨⟨[(0,z83),(1,z83)],[]⟩,⟨[(0,z5)],[]⟩,2,1,fun x=>Ff k x.1 x.2⟩
theorem Rc(k:Nat):fM Tryz.prog 145 (Rb k):=ok (cx [f214 k] 27 nb) Tryz.f145 fun h x=>Q (Q (Q (X h) (Q (B (L Re (fun n x=>Ff.l4 k n x.1 x.2.1 x.2.2) k fun n4=>X h)) (X h))) (X h)) (X h)
def f145(k:Nat):Fc Tryz.prog:=⟨145,_,Rc k⟩
def Zi(k:Nat):bZ:=⟨⟨[(0,(.ro K3)),(1,(.ro K3))],[]⟩,⟨[(0,z5)],[]⟩,2,1,fun x=>Gd k x.1 x.2⟩
theorem Zj(k:Nat):fM Tryz.prog 87 (Zi k):=ok (cx [f75 k,f145 k] 22 nb) Tryz.f87 fun h x=>X h
def f87(k:Nat):Fc Tryz.prog:=⟨87,_,Zj k⟩
def XN:SS:=⟨[(0,z84),(1,z84),(5,z3)],[]⟩
def XL(k:Nat):bZ:=⟨⟨[(0,z84),(1,z84)],[]⟩,⟨[(0,z5)],[]⟩,2,1,fun x=>Ej k x.1 x.2⟩
theorem XM(k:Nat):fM Tryz.prog 34 (XL k):=ok (cx [f87 k] 27 nb) Tryz.f34 fun h x=>Q (Q (Q (X h) (Q (B (L XN (fun n x=>Ej.l4 k n x.1 x.2.1 x.2.2) k fun n4=>X h)) (X h))) (X h)) (X h)
def f34(k:Nat):Fc Tryz.prog:=⟨34,_,XM k⟩
def ZC(k:Nat):bZ:=⟨⟨[(0,(.ro y8)),(1,(.ro y8))],[]⟩,⟨[(0,z5)],[]⟩,2,1,fun x=>F_ k x.1 x.2⟩
theorem ZE(k:Nat):fM Tryz.prog 95 (ZC k):=ok (cx [] 25 nb) Tryz.f95 fun h x=>X h
def f95(k:Nat):Fc Tryz.prog:=⟨95,_,ZE k⟩
def X3:SS:=⟨[(0,z46),(1,z46),(5,z3)],[]⟩
def XZ(k:Nat):bZ:=⟨⟨[(0,z46),(1,z46)],[]⟩,⟨[(0,z5)],[]⟩,2,1,fun x=>Fb k x.1 x.2⟩
theorem X0(k:Nat):fM Tryz.prog 41 (XZ k):=ok (cx [f95 k] 27 nb) Tryz.f41 fun h x=>Q (Q (Q (X h) (Q (B (L X3 (fun n x=>Fb.l4 k n x.1 x.2.1 x.2.2) k fun n4=>X h)) (X h))) (X h)) (X h)
def f41(k:Nat):Fc Tryz.prog:=⟨41,_,X0 k⟩
def VF(k:Nat):bZ:=⟨⟨[(0,GM),(1,GM)],[]⟩,⟨[(0,z5)],[]⟩,2,1,fun x=>F9 k x.1 x.2⟩
theorem VG(k:Nat):fM Tryz.prog 28 (VF k):=ok (cx [f75 k] 36 nb) Tryz.f28 fun h x=>X h
def f28(k:Nat):Fc Tryz.prog:=⟨28,_,VG k⟩
def TT:SS:=⟨[(0,z54),(1,z54),(5,z3)],[]⟩
def TR(k:Nat):bZ:=⟨⟨[(0,z54),(1,z54)],[]⟩,⟨[(0,z5)],[]⟩,2,1,fun x=>Fa k x.1 x.2⟩
theorem TS(k:Nat):fM Tryz.prog 215 (TR k):=ok (cx [f28 k] 27 nb) Tryz.f215 fun h x=>Q (Q (Q (X h) (Q (B (L TT (fun n x=>Fa.l4 k n x.1 x.2.1 x.2.2) k fun n4=>X h)) (X h))) (X h)) (X h)
def f215(k:Nat):Fc Tryz.prog:=⟨215,_,TS k⟩
def Rf(k:Nat):bZ:=⟨⟨[(0,(.ro I6)),(1,(.ro I6))],[]⟩,⟨[(0,z5)],[]⟩,2,1,fun x=>Ga k x.1 x.2⟩
theorem Rh(k:Nat):fM Tryz.prog 146 (Rf k):=ok (cx [f215 k] 16 nb) Tryz.f146 fun h x=>X h
def f146(k:Nat):Fc Tryz.prog:=⟨146,_,Rh k⟩
def Zm:SS:=⟨[(0,z52),(1,z52),(5,z3)],[]⟩
def Zk(k:Nat):bZ:=⟨⟨[(0,z52),(1,z52)],[]⟩,⟨[(0,z5)],[]⟩,2,1,fun x=>Fe k x.1 x.2⟩
theorem Zl(k:Nat):fM Tryz.prog 88 (Zk k):=ok (cx [f146 k] 27 nb) Tryz.f88 fun h x=>Q (Q (Q (X h) (Q (B (L Zm (fun n x=>Fe.l4 k n x.1 x.2.1 x.2.2) k fun n4=>X h)) (X h))) (X h)) (X h)
def f88(k:Nat):Fc Tryz.prog:=⟨88,_,Zl k⟩
def XO(k:Nat):bZ:=⟨⟨[(0,z56),(1,z56)],[]⟩,⟨[(0,z5)],[]⟩,2,1,fun x=>Gc k x.1 x.2⟩
theorem XP(k:Nat):fM Tryz.prog 35 (XO k):=ok (cx [f41 k,f88 k] 22 nb) Tryz.f35 fun h x=>X h
def f35(k:Nat):Fc Tryz.prog:=⟨35,_,XP k⟩
def Yk:SS:=⟨[(0,z3),(3,C8)],[]⟩
def Yi(k:Nat):bZ:=⟨⟨[(0,z3)],[]⟩,⟨[(0,C8)],[]⟩,1,1,fun x=>CV k x⟩
theorem Yj(k:Nat):fM Tryz.prog 66 (Yi k):=ok (cx [] 20 nb) Tryz.f66 fun h x=>Q (Q (Q (Q (X h) (B (L Yk (fun n x=>CV.l4 k n x.1 x.2) k fun n4=>X h))) (X h)) (X h)) (X h)
def f66(k:Nat):Fc Tryz.prog:=⟨66,_,Yj k⟩
def X6:SS:=⟨[(0,z6),(1,z3),(5,z3)],[(10,Gn)]⟩
def X4(k:Nat):bZ:=⟨⟨[(0,z6),(1,z3)],[(10,Gn)]⟩,⟨[(0,z3)],[(10,Gn)]⟩,2,1,fun x=>Fp k x.1.2 x.2⟩
theorem X5(k:Nat):fM Tryz.prog 43 (X4 k):=ok (cx [f66 k] 42 nb) Tryz.f43 fun h x=>Q (Q (X h) (Q (B (L X6 (fun n x=>Fp.l2 k n x.1.2.1 x.1.2.2 x.2) k fun n2=>X h)) (X h))) (X h)
def f43(k:Nat):Fc Tryz.prog:=⟨43,_,X5 k⟩
def YL:SS:=⟨[(0,z6),(1,z3),(5,z3)],[(10,zw)]⟩
def YJ(k:Nat):bZ:=⟨⟨[(0,z6),(1,z3)],[(10,zw)]⟩,⟨[(0,z3)],[(10,zw)]⟩,2,1,fun x=>EB k x.1.2 x.2⟩
theorem YK(k:Nat):fM Tryz.prog 76 (YJ k):=ok (cx [] 19 nb) Tryz.f76 fun h x=>Q (Q (X h) (Q (B (L YL (fun n x=>EB.l2 k n x.1.2.1 x.1.2.2 x.2) k fun n2=>X h)) (X h))) (X h)
def f76(k:Nat):Fc Tryz.prog:=⟨76,_,YK k⟩
def Rk:SS:=⟨[(0,z6),(1,z3),(5,z3)],[(10,IZ)]⟩
def Ri(k:Nat):bZ:=⟨⟨[(0,z6),(1,z3)],[(10,IZ)]⟩,⟨[(0,z3)],[(10,IZ)]⟩,2,1,fun x=>Fj k x.1.2 x.2⟩
theorem Rj(k:Nat):fM Tryz.prog 147 (Ri k):=ok (cx [f76 k] 55 nb) Tryz.f147 fun h x=>Q (Q (X h) (Q (B (L Rk (fun n x=>Fj.l2 k n x.1.2.1 x.1.2.2 x.2) k fun n2=>X h)) (X h))) (X h)
def f147(k:Nat):Fc Tryz.prog:=⟨147,_,Rj k⟩
def Zp:SS:=⟨[(0,z6),(1,z3),(5,z3)],[(10,Gp)]⟩
def Zn(k:Nat):bZ:=⟨⟨[(0,z6),(1,z3)],[(10,Gp)]⟩,⟨[(0,z3)],[(10,Gp)]⟩,2,1,fun x=>Fq k x.1.2 x.2⟩
theorem Zo(k:Nat):fM Tryz.prog 89 (Zn k):=ok (cx [f147 k] 27 nb) Tryz.f89 fun h x=>Q (Q (X h) (Q (B (L Zp (fun n x=>Fq.l2 k n x.1.2.1 x.1.2.2 x.2) k fun n2=>X h)) (X h))) (X h)
def f89(k:Nat):Fc Tryz.prog:=⟨89,_,Zo k⟩
def XQ(k:Nat):bZ:=⟨⟨[(0,(.agg (.cons z6 (.cons z3 (.cons (.h 11) .nil))))),(1,z3)],[(10,Gn),(11,Gp)]⟩,⟨[(0,z3)],[(10,Gn),(11,Gp)]⟩,2,1,fun x=>FP k x.1.1 x.1.2 x.2.1 x.2.2⟩
theorem XR(k:Nat):fM Tryz.prog 36 (XQ k):=ok (cx [f43 k,f89 k] 14 nb) Tryz.f36 fun h x=>X h
def f36(k:Nat):Fc Tryz.prog:=⟨36,_,XR k⟩
def Zt:SS:=⟨[(0,z6),(1,z3),(5,z3)],[(10,(.sl 138 GL))]⟩
def Zq(k:Nat):bZ:=⟨⟨[(0,z6),(1,z3)],[(10,(.sl 138 GL))]⟩,⟨[(0,z3)],[(10,(.sl 138 GL))]⟩,2,1,fun x=>Fu k x.1.2 x.2⟩
theorem Zr(k:Nat):fM Tryz.prog 90 (Zq k):=ok (cx [f66 k] 78 nb) Tryz.f90 fun h x=>Q (Q (X h) (Q (B (L Zt (fun n x=>Fu.l2 k n x.1.2.1 x.1.2.2 x.2) k fun n2=>X h)) (X h))) (X h)
def f90(k:Nat):Fc Tryz.prog:=⟨90,_,Zr k⟩
def XV:SS:=⟨[(0,z6),(1,z3),(5,z3)],[(10,Ba)]⟩
def XT(k:Nat):bZ:=⟨⟨[(0,z6),(1,z3)],[(10,Ba)]⟩,⟨[(0,z3)],[(10,Ba)]⟩,2,1,fun x=>Fv k x.1.2 x.2⟩
theorem XU(k:Nat):fM Tryz.prog 37 (XT k):=ok (cx [f76 k,f90 k] 34 nb) Tryz.f37 fun h x=>Q (Q (X h) (Q (B (L XV (fun n x=>Fv.l2 k n x.1.2.1 x.1.2.2 x.2) k fun n2=>X h)) (X h))) (X h)
def f37(k:Nat):Fc Tryz.prog:=⟨37,_,XU k⟩
def Zw:SS:=⟨[(0,z83),(1,z3),(5,z3)],[]⟩
def Zv:SS:=⟨[(0,z83),(1,z3),(5,z3)],[]⟩
def Zy:SS:=⟨[(0,z83),(1,z3),(5,z3)],[]⟩
def Zu(k:Nat):bZ:=⟨⟨[(0,z83),(1,z3)],[]⟩,⟨[(0,z3)],[]⟩,2,1,fun x=>Cr k x.1 x.2⟩
theorem Zx(k:Nat):fM Tryz.prog 91 (Zu k):=ok (cx [f66 k] 92 nb) Tryz.f91 fun h x=>Q (Q (X h) (Q (B (L Zy (fun n x=>Cr.l2 k n x.1 x.2.1 x.2.2) k fun n2=>Q (Q (X h) (B (Q (Q (Q (Q (Q (Q (Q (Q (Q (Q (Q (Q (Q (X h) (Q (X h) (K h Zw (fun x=>Cr.d22 k (Cr.l2 k n2) x.1 x.2.1 x.2.2) [[0,1,2,3,4,5,7,6,8,9],[0,1,2,3,4,5,7,8,6,9]] (O (fun x=>by kernel_rfl) (O (fun x=>by kernel_rfl) (N)))))) (X h)) (X h)) (X h)) (Q (X h) (K h Zv (fun x=>Cr.d16 k (Cr.l2 k n2) x.1 x.2.1 x.2.2) [[0,1,2,3,4,5,7,6,8,9],[0,1,2,3,4,5,7,8,6,9]] (O (fun x=>by kernel_rfl) (O (fun x=>by kernel_rfl) (N)))))) (X h)) (X h)) (X h)) (X h)) (X h)) (X h)) (X h)) (X h)))) (X h))) (X h))) (X h)
def f91(k:Nat):Fc Tryz.prog:=⟨91,_,Zx k⟩
def ZB:SS:=⟨[(0,Bt),(1,z3),(5,z3)],[]⟩
def Zz(k:Nat):bZ:=⟨⟨[(0,Bt),(1,z3)],[]⟩,⟨[(0,z3)],[]⟩,2,1,fun x=>Fg k x.1 x.2⟩
theorem ZA(k:Nat):fM Tryz.prog 92 (Zz k):=ok (cx [] 21 nb) Tryz.f92 fun h x=>Q (Q (X h) (Q (B (L ZB (fun n x=>Fg.l2 k n x.1 x.2.1 x.2.2) k fun n2=>X h)) (X h))) (X h)
def f92(k:Nat):Fc Tryz.prog:=⟨92,_,ZA k⟩
def XY:SS:=⟨[(0,z84),(1,z3),(5,z3)],[]⟩
def XW(k:Nat):bZ:=⟨⟨[(0,z84),(1,z3)],[]⟩,⟨[(0,z3)],[]⟩,2,1,fun x=>EA k x.1 x.2⟩
theorem XX(k:Nat):fM Tryz.prog 38 (XW k):=ok (cx [f91 k,f92 k] 40 nb) Tryz.f38 fun h x=>Q (Q (X h) (Q (B (L XY (fun n x=>EA.l2 k n x.1 x.2.1 x.2.2) k fun n2=>X h)) (X h))) (X h)
def f38(k:Nat):Fc Tryz.prog:=⟨38,_,XX k⟩
def Yt:SS:=⟨[(0,z0),(2,z3),(4,z25),(8,z30),(9,z5),(12,z48),(15,z3)],[(100,Me),(101,Ba),(102,Ba)]⟩
def Yr:SS:=⟨[(0,z0),(2,z3),(4,z25),(8,z30),(9,z5),(10,z48),(11,z36),(12,(.h 104)),(13,z5)],[(100,Me),(101,Ba),(102,w4),(103,(.box Mi (.agg (.cons (.h 105) (.cons z3 (.cons (.h 106) .nil)))))),(104,Ba),(105,Gn),(106,Gp)]⟩
def Yu:SS:=⟨[(0,z0),(2,z3),(4,z25)],[(100,Me)]⟩
def Nc(k:Nat):bZ:=⟨⟨[(0,z0),(1,(.ro Ag)),(2,z3)],[]⟩,⟨[(0,z5)],[]⟩,3,1,fun x=>Dz k x.1 x.2.1 x.2.2⟩
theorem Nf(k:Nat):fM Tryz.prog 6 (Nc k):=ok (cx [f12 k,f16 k,f18 k,f30 k,f31 k,f32 k,f33 k,f34 k,f35 k,f36 k,f37 k,f38 k] 122 nb) Tryz.f6 fun h x=>Q (Q (Q (Q (Q (Q (Q (Q (Q (Q (Q (Q (Q (Q (Q (Q (Q (Q (Q (Q (Q (Q (Q (X h) (K h Yt (fun x=>Dz.d30 k x.1.1 x.1.2.1 x.1.2.2.2.2.1 x.1.2.2.2.2.2.2 x.2.1 x.2.2.1 x.2.2.2) [[0,4,1,2,3,5,6,7,8,9,10],[0,4,2,1,3,5,6,7,8,9,10]] (O (fun x=>by kernel_rfl) (O (fun x=>by kernel_rfl) (N))))) (X h)) (X h)) (X h)) (X h)) (X h)) (X h)) (X h)) (X h)) (X h)) (X h)) (Q (X h) (K h Yr (fun x=>Dz.d15 k x.1.1 x.1.2.1 x.1.2.2.2.2.1 x.1.2.2.2.2.2.2.2.2 x.2.1 x.2.2.1 x.2.2.2.1 x.2.2.2.2.1 x.2.2.2.2.2.1 x.2.2.2.2.2.2.1 x.2.2.2.2.2.2.2) [[0,1,2,3,4],[1,0,2,3,4],[1,2,0,3,4]] (O (fun x=>by kernel_rfl) (O (fun x=>by kernel_rfl) (O (fun x=>by kernel_rfl) (N))))))) (X h)) (X h)) (X h)) (X h)) (X h)) (K h Yu (fun x=>Dz.d7 k x.1.1 x.1.2.1 x.2) [[0,4,1,2,3,5,6,7,8,9,10],[0,4,2,1,3,5,6,7,8,9,10]] (O (fun x=>by kernel_rfl) (O (fun x=>by kernel_rfl) (N))))) (X h)) (X h)) (X h)) (X h)) (X h)
def f6(k:Nat):Fc Tryz.prog:=⟨6,_,Nf k⟩
end Go.Proofs.YtohaijhiclmkkaaGreat
