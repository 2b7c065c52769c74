/- walks through the claim's functions -/
import Derived.Test.YtceehofnlhfndaaGreatBase
import Derived.Test.YtceehofnlhfndaaGreatENCF0
set_option linter.unusedVariables false
set_option maxRecDepth 100000
namespace Go.Proofs.YtceehofnlhfndaaGreat
open Go.Am Go.Am.W Go.Fn
abbrev y0:Ty:= .list 5 (.int .u8)
abbrev z1:CS:= .ro y0
abbrev z2:CS:= .ro .bool
abbrev y3:Ty:= .int .i64
abbrev z4:CS:= .ro y3
abbrev z5:CS:= .p 100
abbrev w6:OS:= .box (.st (.cons y0 (.cons y3 (.cons y3 .nil)))) (.agg (.cons z1 (.cons z4 (.cons z4 .nil))))
abbrev z7:CS:= .p 0
abbrev z8:CS:= .ro (.list 3 y3)
abbrev z9:CS:= .ro (.list 9 .str)
abbrev Ey:CS:= .ro .str
abbrev A7:CS:= .h 100
abbrev Ba:OS:= .sl 5 (.int .u8)
abbrev JC:CS:= .agg (.cons z4 (.cons Ey .nil))
abbrev Gs:Ty:= .st (.cons y3 (.cons .str .nil))
abbrev Ht:OS:= .box Gs JC
abbrev w16:OS:= .sl 87 Gs
abbrev z17:CS:= .ro (.list 87 Gs)
abbrev CR:CS:= .h 101
abbrev Bj:OS:= .sl 3 y3
abbrev z20:CS:= .ro (.int .u64)
abbrev y21:Ty:= .st (.cons y0 (.cons y3 (.cons .bool (.cons (.list 3 y3) .nil))))
abbrev Hu:OS:= .box y21 (.agg (.cons z1 (.cons z4 (.cons z2 (.cons (.h 10) .nil)))))
abbrev Iz:OS:= .box y21 (.agg (.cons z1 (.cons z4 (.cons z2 (.cons CR .nil)))))
def U0(k:Nat):dh:=⟨⟨[(0,z1)],[]⟩,⟨[(0,z2)],[]⟩,1,1,fun x=>J8 k x⟩
theorem U1(k:Nat):gu Tryz.prog 6 (U0 k):=ok (cx [] 6 nb) Tryz.f6 fun h x=>X h
def f6(k:Nat):Fc Tryz.prog:=⟨6,_,U1 k⟩
def SI:SS:=⟨[(0,z1),(3,z4),(4,z4)],[]⟩
def SG(k:Nat):dh:=⟨⟨[(0,z1)],[]⟩,⟨[(0,z5)],[(100,w6)]⟩,1,1,fun x=>EZ k x⟩
theorem SH(k:Nat):gu Tryz.prog 26 (SG k):=ok (cx [] 32 nb) Tryz.f26 fun h x=>Q (Q (Q (X h) (Q (B (L SI (fun n x=>EZ.l3 k n x.1 x.2.1 x.2.2) k fun n3=>X h)) (X h))) (X h)) (X h)
def f26(k:Nat):Fc Tryz.prog:=⟨26,_,SH k⟩
def Q4:SS:=⟨[(3,z4)],[(0,w6)]⟩
def Q0(k:Nat):dh:=⟨⟨[(0,z7)],[(0,w6)]⟩,⟨[(0,z4)],[(0,w6)]⟩,1,1,fun x=>Eu k x.2⟩
theorem Q3(k:Nat):gu Tryz.prog 154 (Q0 k):=ok (cx [] 58 nb) Tryz.f154 fun h x=>Q (Q (Q (Q (T (X h) Q4 fun x=>Eu.c6 k x.1 x.2) (X h)) (X h)) (X h)) (X h)
def f154(k:Nat):Fc Tryz.prog:=⟨154,_,Q3 k⟩
def U5(k:Nat):dh:=⟨⟨[(0,z7),(1,z4)],[(0,w6)]⟩,⟨[(0,z4)],[(0,w6)]⟩,2,1,fun x=>Dt k x.1.2 x.2⟩
theorem U6(k:Nat):gu Tryz.prog 76 (U5 k):=ok (cx [f154 k] 37 nb) Tryz.f76 fun h x=>X h
def f76(k:Nat):Fc Tryz.prog:=⟨76,_,U6 k⟩
def UY(k:Nat):dh:=⟨⟨[(0,z7),(1,z4)],[(0,w6)]⟩,⟨[(0,z2)],[(0,w6)]⟩,2,1,fun x=>Fw k x.1.2 x.2⟩
theorem UZ(k:Nat):gu Tryz.prog 64 (UY k):=ok (cx [f76 k] 9 nb) Tryz.f64 fun h x=>X h
def f64(k:Nat):Fc Tryz.prog:=⟨64,_,UZ k⟩
def U7(k:Nat):dh:=⟨⟨[(0,z7),(1,z8)],[(0,w6)]⟩,⟨[(0,z4)],[(0,w6)]⟩,2,1,fun x=>FO k x.1.2 x.2⟩
theorem U8(k:Nat):gu Tryz.prog 78 (U7 k):=ok (cx [f76 k] 12 nb) Tryz.f78 fun h x=>X h
def f78(k:Nat):Fc Tryz.prog:=⟨78,_,U8 k⟩
def UO(k:Nat):dh:=⟨⟨[(0,z7)],[(0,w6)]⟩,⟨[(0,z4)],[(0,w6)]⟩,1,1,fun x=>Jv k x.2⟩
theorem UQ(k:Nat):gu Tryz.prog 62 (UO k):=ok (cx [f64 k,f78 k] 11 nb) Tryz.f62 fun h x=>X h
def f62(k:Nat):Fc Tryz.prog:=⟨62,_,UQ k⟩
def Q5(k:Nat):dh:=⟨⟨[(0,z7),(1,z9)],[(0,w6)]⟩,⟨[(0,Ey)],[(0,w6)]⟩,2,1,fun x=>Ju k x.1.2 x.2⟩
theorem Q6(k:Nat):gu Tryz.prog 155 (Q5 k):=ok (cx [f76 k] 12 nb) Tryz.f155 fun h x=>X h
def f155(k:Nat):Fc Tryz.prog:=⟨155,_,Q6 k⟩
def SF:SS:=⟨[(0,z7),(5,A7),(6,z4),(7,z4)],[(0,w6),(100,Ba)]⟩
def SC(k:Nat):dh:=⟨⟨[(0,z7),(1,z4)],[(0,w6)]⟩,⟨[(0,A7)],[(0,w6),(100,Ba)]⟩,2,1,fun x=>EY k x.1.2 x.2⟩
theorem SE(k:Nat):gu Tryz.prog 219 (SC k):=ok (cx [f76 k,f154 k] 25 nb) Tryz.f219 fun h x=>Q (Q (Q (Q (X h) (Q (B (L SF (fun n x=>EY.l4 k n x.1.2.2.1 x.1.2.2.2 x.2.1 x.2.2) k fun n4=>X h)) (X h))) (X h)) (X h)) (X h)
def f219(k:Nat):Fc Tryz.prog:=⟨219,_,SE k⟩
def Si(k:Nat):dh:=⟨⟨[(0,z7),(1,z4)],[(0,w6)]⟩,⟨[(0,Ey)],[(0,w6)]⟩,2,1,fun x=>Iu k x.1.2 x.2⟩
theorem Sj(k:Nat):gu Tryz.prog 195 (Si k):=ok (cx [f219 k] 9 nb) Tryz.f195 fun h x=>X h
def f195(k:Nat):Fc Tryz.prog:=⟨195,_,Sj k⟩
def Sk(k:Nat):dh:=⟨⟨[(0,z7)],[(0,w6)]⟩,⟨[(0,z4)],[(0,w6)]⟩,1,1,fun x=>Ir k x.2⟩
theorem Sl(k:Nat):gu Tryz.prog 196 (Sk k):=ok (cx [f76 k,f78 k] 13 nb) Tryz.f196 fun h x=>X h
def f196(k:Nat):Fc Tryz.prog:=⟨196,_,Sl k⟩
def QK(k:Nat):dh:=⟨⟨[(0,z7),(1,z4)],[(0,w6)]⟩,⟨[(0,JC)],[(0,w6)]⟩,2,1,fun x=>Hq k x.1.2 x.2⟩
theorem QL(k:Nat):gu Tryz.prog 142 (QK k):=ok (cx [f64 k,f76 k,f78 k,f155 k,f195 k,f196 k] 53 nb) Tryz.f142 fun h x=>X h
def f142(k:Nat):Fc Tryz.prog:=⟨142,_,QL k⟩
def QO:SS:=⟨[(4,z5),(5,(.p 101))],[(0,w6),(100,Ht),(101,Ht)]⟩
def QM(k:Nat):dh:=⟨⟨[(0,z7),(1,z4)],[(0,w6)]⟩,⟨[(0,JC)],[(0,w6)]⟩,2,1,fun x=>FQ k x.1.2 x.2⟩
theorem QN(k:Nat):gu Tryz.prog 143 (QM k):=ok (cx [f76 k,f78 k,f142 k] 26 nb) Tryz.f143 fun h x=>Q (Q (Q (T (X h) QO fun x=>FQ.c7 k x.2.1 x.2.2.1 x.2.2.2) (X h)) (X h)) (X h)
def f143(k:Nat):Fc Tryz.prog:=⟨143,_,QN k⟩
def UU:SS:=⟨[(7,A7)],[(0,w6),(100,w16)]⟩
def UX:SS:=⟨[(0,z7),(1,z4),(7,A7),(8,z4),(9,z4)],[(0,w6),(100,w16)]⟩
def UW:SS:=⟨[(0,z7),(1,z4),(7,A7),(8,z4),(9,z4)],[(0,w6),(100,w16)]⟩
def UR(k:Nat):dh:=⟨⟨[(0,z7),(1,z4),(2,z4)],[(0,w6)]⟩,⟨[(0,A7)],[(0,w6),(100,w16)]⟩,3,1,fun x=>Ck k x.1.2.1 x.1.2.2 x.2⟩
theorem UT(k:Nat):gu Tryz.prog 63 (UR k):=ok (cx [f64 k,f76 k,f142 k,f143 k] 50 (fun s=>Nat.beq s 22)) Tryz.f63 fun h x=>Q (Q (Q (Q (Q (T (X h) UU fun x=>Ck.c11 k x.2.1 x.2.2) (X h)) (Q (B (L UW (fun n x=>Ck.l4 k n x.1.2.1 x.1.2.2.2.1 x.1.2.2.2.2 x.2.1 x.2.2) k fun n4=>Q (Q (T (X h) UX fun x=>Ck.c5 k (Ck.l4 k n4) x.1.2.1 x.1.2.2.2.1 x.1.2.2.2.2 x.2.1 x.2.2) (X h)) (X h))) (X h))) (X h)) (X h)) (X h)
def f63(k:Nat):Fc Tryz.prog:=⟨63,_,UT k⟩
def O0:SS:=⟨[(4,z2)],[]⟩
def OY(k:Nat):dh:=⟨⟨[(0,z4)],[]⟩,⟨[(0,z2)],[]⟩,1,1,fun x=>Ew k x⟩
theorem OZ(k:Nat):gu Tryz.prog 114 (OY k):=ok (cx [] 10 nb) Tryz.f114 fun h x=>Q (Q (X h) (Q (B (Q (T (X h) O0 fun x=>Ew.c7 k x) (X h))) (X h))) (X h)
def f114(k:Nat):Fc Tryz.prog:=⟨114,_,OZ k⟩
def Py(k:Nat):dh:=⟨⟨[(0,z4),(1,z4),(2,z4)],[]⟩,⟨[(0,z2)],[]⟩,3,1,fun x=>DT k x.1 x.2.1 x.2.2⟩
theorem Pz(k:Nat):gu Tryz.prog 123 (Py k):=ok (cx [] 15 nb) Tryz.f123 fun h x=>X h
def f123(k:Nat):Fc Tryz.prog:=⟨123,_,Pz k⟩
def Rt(k:Nat):dh:=⟨⟨[(0,z4)],[]⟩,⟨[(0,z2)],[]⟩,1,1,fun x=>Ko k x⟩
theorem Ru(k:Nat):gu Tryz.prog 183 (Rt k):=ok (cx [f123 k] 5 nb) Tryz.f183 fun h x=>X h
def f183(k:Nat):Fc Tryz.prog:=⟨183,_,Ru k⟩
def O7:SS:=⟨[(3,z5),(5,z4),(26,z2)],[(100,Ht)]⟩
def O5(k:Nat):dh:=⟨⟨[(0,z4),(1,(.ro Gs))],[]⟩,⟨[(0,z2)],[]⟩,2,1,fun x=>FX k x.1 x.2⟩
theorem O6(k:Nat):gu Tryz.prog 116 (O5 k):=ok (cx [f123 k,f183 k] 43 nb) Tryz.f116 fun h x=>Q (Q (X h) (Q (B (Q (D (X h) (Q (D (X h) (Q (T (X h) O7 fun x=>FX.c8 k x.1.2.1 x.1.2.2 x.2) (X h))) (X h))) (X h))) (X h))) (X h)
def f116(k:Nat):Fc Tryz.prog:=⟨116,_,O6 k⟩
def TY:SS:=⟨[(0,z4),(1,z17),(5,z4)],[]⟩
def TV(k:Nat):dh:=⟨⟨[(0,z4),(1,z17)],[]⟩,⟨[(0,z2)],[]⟩,2,1,fun x=>Ea k x.1 x.2⟩
theorem TW(k:Nat):gu Tryz.prog 49 (TV k):=ok (cx [f114 k,f116 k] 27 nb) Tryz.f49 fun h x=>Q (Q (Q (X h) (Q (B (L TY (fun n x=>Ea.l4 k n x.1 x.2.1 x.2.2) k fun n4=>X h)) (X h))) (X h)) (X h)
def f49(k:Nat):Fc Tryz.prog:=⟨49,_,TW k⟩
def Vb:SS:=⟨[(1,z17),(7,A7),(8,CR),(9,z4),(10,z4)],[(100,w16),(101,Bj)]⟩
def Va:SS:=⟨[(1,z17),(7,A7),(8,CR),(9,z4),(10,z4),(11,z4)],[(100,w16),(101,Bj)]⟩
def Ve:SS:=⟨[(1,z17),(7,A7),(8,CR),(9,z4),(10,z4),(11,z4)],[(100,w16),(101,Bj)]⟩
def Vd:SS:=⟨[(1,z17),(7,A7),(8,CR),(9,z4)],[(100,w16),(101,Bj)]⟩
def U9(k:Nat):dh:=⟨⟨[(0,z4),(1,z17)],[]⟩,⟨[(0,A7),(1,CR),(2,z2)],[(100,w16),(101,Bj)]⟩,2,3,fun x=>BH k x.1 x.2⟩
theorem U_(k:Nat):gu Tryz.prog 99 (U9 k):=ok (cx [f49 k] 59 nb) Tryz.f99 fun h x=>Q (Q (Q (Q (X h) (Q (B (L Vd (fun n x=>BH.l5 k n x.1.1 x.1.2.2.2 x.2.1 x.2.2) k fun n5=>Q (Q (X h) (B (Q (Q (Q (T (X h) Vb fun x=>BH.c16 k (BH.l5 k n5) x.1.1 x.1.2.2.2.1 x.1.2.2.2.2 x.2.1 x.2.2) (X h)) (Q (B (L Ve (fun n x=>BH.l9 k (BH.l5 k n5) n x.1.1 x.1.2.2.2.1 x.1.2.2.2.2.1 x.1.2.2.2.2.2 x.2.1 x.2.2) k fun n9=>Q (Q (T (X h) Va fun x=>BH.c10 k (BH.l9 k (BH.l5 k n5) n9) x.1.1 x.1.2.2.2.1 x.1.2.2.2.2.1 x.1.2.2.2.2.2 x.2.1 x.2.2) (X h)) (X h))) (X h))) (X h)))) (X h))) (X h))) (X h)) (X h)) (X h)
def f99(k:Nat):Fc Tryz.prog:=⟨99,_,U_ k⟩
def O4:SS:=⟨[(6,z2)],[]⟩
def O1(k:Nat):dh:=⟨⟨[(0,z4)],[]⟩,⟨[(0,z4)],[]⟩,1,1,fun x=>EF k x⟩
theorem O3(k:Nat):gu Tryz.prog 115 (O1 k):=ok (cx [] 9 nb) Tryz.f115 fun h x=>Q (Q (X h) (Q (B (Q (D (X h) (Q (T (X h) O4 fun x=>EF.c6 k x) (X h))) (X h))) (X h))) (X h)
def f115(k:Nat):Fc Tryz.prog:=⟨115,_,O3 k⟩
def TT:SS:=⟨[(1,z4),(8,z4),(24,z2)],[]⟩
def TU:SS:=⟨[(1,z4),(8,z4),(9,z2)],[]⟩
def TR(k:Nat):dh:=⟨⟨[(0,z4),(1,z4)],[]⟩,⟨[(0,z2)],[]⟩,2,1,fun x=>Dq k x.1 x.2⟩
theorem TS(k:Nat):gu Tryz.prog 48 (TR k):=ok (cx [f114 k,f115 k] 34 nb) Tryz.f48 fun h x=>Q (Q (Q (X h) (Q (B (Q (T (D (X h) (Q (D (X h) (Q (D (X h) (Q (T (X h) TT fun x=>Dq.c13 k x.1 x.2.1 x.2.2) (X h))) (X h))) (X h))) TU fun x=>Dq.c6 k x.1 x.2.1 x.2.2) (X h))) (X h))) (X h)) (X h)
def f48(k:Nat):Fc Tryz.prog:=⟨48,_,TS k⟩
def N7:SS:=⟨[(0,z7),(1,z4),(5,A7),(6,z4)],[(0,w6),(100,Bj)]⟩
def NZ:SS:=⟨[(0,z7),(1,z4),(5,A7),(6,z4)],[(0,w6),(100,Bj)]⟩
def NW(k:Nat):dh:=⟨⟨[(0,z7),(1,z4)],[(0,w6)]⟩,⟨[(0,z4)],[(0,w6)]⟩,2,1,fun x=>Dz k x.1.2 x.2⟩
theorem NY(k:Nat):gu Tryz.prog 100 (NW k):=ok (cx [f48 k,f64 k,f76 k,f78 k] 31 nb) Tryz.f100 fun h x=>Q (Q (Q (X h) (Q (B (L NZ (fun n x=>Dz.l3 k n x.1.2.1 x.1.2.2.2 x.2.1 x.2.2) k fun n3=>Q (Q (T (X h) N7 fun x=>Dz.c4 k (Dz.l3 k n3) x.1.2.1 x.1.2.2.2 x.2.1 x.2.2) (X h)) (X h))) (X h))) (X h)) (X h)
def f100(k:Nat):Fc Tryz.prog:=⟨100,_,NY k⟩
def SV:SS:=⟨[(0,z7),(6,z4),(7,A7),(8,z17)],[(0,w6),(100,w16)]⟩
def SN(k:Nat):dh:=⟨⟨[(0,z7)],[(0,w6)]⟩,⟨[(0,z4),(1,z4),(2,A7),(3,z17)],[(0,w6),(100,w16)]⟩,1,4,fun x=>Gq k x.2⟩
theorem SQ(k:Nat):gu Tryz.prog 37 (SN k):=ok (cx [f62 k,f63 k,f64 k,f99 k,f100 k] 38 nb) Tryz.f37 fun h x=>Q (Q (Q (Q (Q (T (X h) SV fun x=>Gq.c6 k x.1.2.1 x.1.2.2.2 x.2.1 x.2.2) (X h)) (X h)) (X h)) (X h)) (X h)
def f37(k:Nat):Fc Tryz.prog:=⟨37,_,SQ k⟩
def QY(k:Nat):dh:=⟨⟨[(0,z1)],[]⟩,⟨[(0,z4),(1,z4),(2,A7),(3,z17)],[(100,w16)]⟩,1,4,fun x=>Jq k x⟩
theorem QZ(k:Nat):gu Tryz.prog 14 (QY k):=ok (cx [f26 k,f37 k] 22 nb) Tryz.f14 fun h x=>X h
def f14(k:Nat):Fc Tryz.prog:=⟨14,_,QZ k⟩
def SK(k:Nat):dh:=⟨⟨[(0,z4),(1,z4),(2,z4)],[]⟩,⟨[(0,z2)],[]⟩,3,1,fun x=>Ce k x.1 x.2.1 x.2.2⟩
theorem SL(k:Nat):gu Tryz.prog 34 (SK k):=ok (cx [] 15 nb) Tryz.f34 fun h x=>X h
def f34(k:Nat):Fc Tryz.prog:=⟨34,_,SL k⟩
def UJ(k:Nat):dh:=⟨⟨[(0,z4)],[]⟩,⟨[(0,z2)],[]⟩,1,1,fun x=>G8 k x⟩
theorem UK(k:Nat):gu Tryz.prog 60 (UJ k):=ok (cx [f34 k] 13 nb) Tryz.f60 fun h x=>X h
def f60(k:Nat):Fc Tryz.prog:=⟨60,_,UK k⟩
def UN:SS:=⟨[(6,z2)],[]⟩
def UL(k:Nat):dh:=⟨⟨[(0,z4)],[]⟩,⟨[(0,z4)],[]⟩,1,1,fun x=>CV k x⟩
theorem UM(k:Nat):gu Tryz.prog 61 (UL k):=ok (cx [] 9 nb) Tryz.f61 fun h x=>Q (Q (X h) (Q (B (Q (D (X h) (Q (T (X h) UN fun x=>CV.c6 k x) (X h))) (X h))) (X h))) (X h)
def f61(k:Nat):Fc Tryz.prog:=⟨61,_,UM k⟩
def Sq:SS:=⟨[(0,z4),(1,z4),(23,z2)],[]⟩
def Sr:SS:=⟨[(0,z4),(1,z4),(5,z4),(6,z2)],[]⟩
def Sm(k:Nat):dh:=⟨⟨[(0,z4),(1,z4)],[]⟩,⟨[(0,z2)],[]⟩,2,1,fun x=>DD k x.1 x.2⟩
theorem Sn(k:Nat):gu Tryz.prog 19 (Sm k):=ok (cx [f60 k,f61 k] 35 nb) Tryz.f19 fun h x=>Q (Q (X h) (Q (B (Q (T (D (X h) (Q (D (X h) (Q (D (X h) (Q (T (X h) Sq fun x=>DD.c11 k x.1 x.2.1 x.2.2) (X h))) (X h))) (X h))) Sr fun x=>DD.c4 k x.1 x.2.1 x.2.2.1 x.2.2.2) (X h))) (X h))) (X h)
def f19(k:Nat):Fc Tryz.prog:=⟨19,_,Sn k⟩
def QS(k:Nat):dh:=⟨⟨[(0,z4)],[]⟩,⟨[(0,z2)],[]⟩,1,1,fun x=>J5 k x⟩
theorem QT(k:Nat):gu Tryz.prog 145 (QS k):=ok (cx [f34 k] 5 nb) Tryz.f145 fun h x=>X h
def f145(k:Nat):Fc Tryz.prog:=⟨145,_,QT k⟩
def N_:SS:=⟨[(0,z4),(3,z5),(26,z2)],[(100,Ht)]⟩
def N8(k:Nat):dh:=⟨⟨[(0,z4),(1,(.ro Gs))],[]⟩,⟨[(0,z2)],[]⟩,2,1,fun x=>FV k x.1 x.2⟩
theorem N9(k:Nat):gu Tryz.prog 101 (N8 k):=ok (cx [f34 k,f145 k] 45 nb) Tryz.f101 fun h x=>Q (Q (X h) (Q (B (Q (D (X h) (Q (D (X h) (Q (T (X h) N_ fun x=>FV.c8 k x.1.1 x.1.2.2 x.2) (X h))) (X h))) (X h))) (X h))) (X h)
def f101(k:Nat):Fc Tryz.prog:=⟨101,_,N9 k⟩
def S9:SS:=⟨[(0,z4),(1,z17),(7,z17),(8,z4),(9,z4)],[]⟩
def SX(k:Nat):dh:=⟨⟨[(0,z4),(1,z17)],[]⟩,⟨[(0,z2)],[]⟩,2,1,fun x=>DZ k x.1 x.2⟩
theorem SY(k:Nat):gu Tryz.prog 38 (SX k):=ok (cx [f60 k,f101 k] 25 nb) Tryz.f38 fun h x=>Q (Q (X h) (Q (B (L S9 (fun n x=>DZ.l2 k n x.1 x.2.1 x.2.2.1 x.2.2.2.1 x.2.2.2.2) k fun n2=>X h)) (X h))) (X h)
def f38(k:Nat):Fc Tryz.prog:=⟨38,_,SY k⟩
def Tq:SS:=⟨[(3,A7),(7,z17),(8,z4),(9,z4)],[(100,Bj)]⟩
def Tn(k:Nat):dh:=⟨⟨[(0,z17)],[]⟩,⟨[(0,A7)],[(100,Bj)]⟩,1,1,fun x=>Eo k x⟩
theorem Tp(k:Nat):gu Tryz.prog 41 (Tn k):=ok (cx [] 20 nb) Tryz.f41 fun h x=>Q (Q (Q (X h) (Q (B (L Tq (fun n x=>Eo.l3 k n x.1.2.1 x.1.2.2.1 x.1.2.2.2 x.2) k fun n3=>X h)) (X h))) (X h)) (X h)
def f41(k:Nat):Fc Tryz.prog:=⟨41,_,Tp k⟩
def TQ:SS:=⟨[(0,z4),(5,A7),(11,z4),(12,z4)],[(100,Ba)]⟩
def TN(k:Nat):dh:=⟨⟨[(0,z4),(1,z4)],[]⟩,⟨[(0,A7)],[(100,Ba)]⟩,2,1,fun x=>DJ k x.1 x.2⟩
theorem TP(k:Nat):gu Tryz.prog 47 (TN k):=ok (cx [f34 k] 25 nb) Tryz.f47 fun h x=>Q (Q (Q (Q (X h) (Q (B (L TQ (fun n x=>DJ.l5 k n x.1.1 x.1.2.2.1 x.1.2.2.2 x.2) k fun n5=>X h)) (X h))) (X h)) (X h)) (X h)
def f47(k:Nat):Fc Tryz.prog:=⟨47,_,TP k⟩
def Oe:SS:=⟨[(1,z4),(5,A7),(6,z4),(7,z4),(17,z8),(18,z4),(19,z4),(24,z4),(25,z4)],[(100,Ba)]⟩
def Od:SS:=⟨[(1,z4),(5,A7),(17,z8),(18,z4),(19,z4)],[(100,Ba)]⟩
def Oa(k:Nat):dh:=⟨⟨[(0,z8),(1,z4)],[]⟩,⟨[(0,A7)],[(100,Ba)]⟩,2,1,fun x=>CU k x.1 x.2⟩
theorem Oc(k:Nat):gu Tryz.prog 102 (Oa k):=ok (cx [] 51 nb) Tryz.f102 fun h x=>Q (Q (Q (X h) (Q (B (L Od (fun n x=>CU.l3 k n x.1.1 x.1.2.2.1 x.1.2.2.2.1 x.1.2.2.2.2 x.2) k fun n3=>Q (Q (Q (X h) (B (Q (Q (B (L Oe (fun n x=>CU.l6 k (CU.l3 k n3) n x.1.1 x.1.2.2.1 x.1.2.2.2.1 x.1.2.2.2.2.1 x.1.2.2.2.2.2.1 x.1.2.2.2.2.2.2.1 x.1.2.2.2.2.2.2.2.1 x.1.2.2.2.2.2.2.2.2 x.2) k fun n6=>X h)) (X h)) (X h)))) (X h)) (X h))) (X h))) (X h)) (X h)
def f102(k:Nat):Fc Tryz.prog:=⟨102,_,Oc k⟩
def Te:SS:=⟨[(0,z4),(6,A7),(19,z17),(20,z4),(21,z4)],[(100,Ba)]⟩
def Ta:SS:=⟨[(0,z4),(6,A7),(8,(.p 101)),(19,z17),(20,z4),(21,z4)],[(100,Ba),(101,Ht)]⟩
def Tc:SS:=⟨[(0,z4),(6,A7),(8,(.p 101)),(19,z17),(20,z4),(21,z4)],[(100,Ba),(101,Ht)]⟩
def Tf:SS:=⟨[(0,z4),(6,A7),(19,z17),(20,z4),(21,z4)],[(100,Ba)]⟩
def S_(k:Nat):dh:=⟨⟨[(0,z4),(1,z17)],[]⟩,⟨[(0,A7),(1,z2)],[(100,Ba)]⟩,2,2,fun x=>Ca k x.1 x.2⟩
theorem Td(k:Nat):gu Tryz.prog 39 (S_ k):=ok (cx [f38 k,f41 k,f47 k,f61 k,f102 k] 45 nb) Tryz.f39 fun h x=>Q (Q (Q (Q (Q (X h) (Q (B (L Tf (fun n x=>Ca.l7 k n x.1.1 x.1.2.2.1 x.1.2.2.2.1 x.1.2.2.2.2 x.2) k fun n7=>Q (Q (Q (T (X h) Te fun x=>Ca.c12 k (Ca.l7 k n7) x.1.1 x.1.2.2.1 x.1.2.2.2.1 x.1.2.2.2.2 x.2) (B (Q (Q (D (K h Ta (fun x=>Ca.d10 k (Ca.l7 k n7) x.1.1 x.1.2.2.2.1 x.1.2.2.2.2.1 x.1.2.2.2.2.2 x.2.1 x.2.2) [[0,1,6,2,3,4,5,7,8,9],[0,1,6,2,3,4,7,5,8,9],[0,1,6,2,3,7,4,5,8,9],[0,1,6,7,2,3,4,5,8,9]] (O (fun x=>by kernel_rfl) (O (fun x=>by kernel_rfl) (O (fun x=>by kernel_rfl) (O (fun x=>by kernel_rfl) (N)))))) (K h Tc (fun x=>Ca.d11 k (Ca.l7 k n7) x.1.1 x.1.2.2.2.1 x.1.2.2.2.2.1 x.1.2.2.2.2.2 x.2.1 x.2.2) [[0,1,3,2,4,5,6,7],[0,1,3,4,2,5,6,7]] (O (fun x=>by kernel_rfl) (O (fun x=>by kernel_rfl) (N))))) (X h)) (X h)))) (X h)) (X h))) (X h))) (X h)) (X h)) (X h)) (X h)
def f39(k:Nat):Fc Tryz.prog:=⟨39,_,Td k⟩
def Oi:SS:=⟨[(3,z20),(4,A7)],[(100,Ba)]⟩
def Og(k:Nat):dh:=⟨⟨[(0,z4)],[]⟩,⟨[(0,A7)],[(100,Ba)]⟩,1,1,fun x=>DI k x⟩
theorem Oh(k:Nat):gu Tryz.prog 103 (Og k):=ok (cx [] 24 nb) Tryz.f103 fun h x=>Q (Q (Q (Q (X h) (B (L Oi (fun n x=>DI.l3 k n x.1.1 x.2) k fun n3=>X h))) (X h)) (X h)) (X h)
def f103(k:Nat):Fc Tryz.prog:=⟨103,_,Oh k⟩
def Rf(k:Nat):dh:=⟨⟨[(0,z4)],[]⟩,⟨[(0,z4)],[]⟩,1,1,fun x=>I8 k x⟩
theorem Rh(k:Nat):gu Tryz.prog 179 (Rf k):=ok (cx [] 8 nb) Tryz.f179 fun h x=>X h
def f179(k:Nat):Fc Tryz.prog:=⟨179,_,Rh k⟩
def Oj(k:Nat):dh:=⟨⟨[(0,z4)],[]⟩,⟨[(0,A7)],[(100,Ba)]⟩,1,1,fun x=>Ig k x⟩
theorem Ol(k:Nat):gu Tryz.prog 104 (Oj k):=ok (cx [f103 k,f179 k] 6 nb) Tryz.f104 fun h x=>X h
def f104(k:Nat):Fc Tryz.prog:=⟨104,_,Ol k⟩
def Oo:SS:=⟨[(0,z8),(3,A7),(4,z4)],[(100,Bj)]⟩
def Ot:SS:=⟨[(0,z8),(3,A7),(4,z4)],[(100,Bj)]⟩
def Om(k:Nat):dh:=⟨⟨[(0,z8)],[]⟩,⟨[(0,A7)],[(100,Bj)]⟩,1,1,fun x=>DX k x⟩
theorem Oq(k:Nat):gu Tryz.prog 105 (Om k):=ok (cx [] 26 nb) Tryz.f105 fun h x=>Q (Q (Q (X h) (Q (B (L Ot (fun n x=>DX.l3 k n x.1.1 x.1.2.2 x.2) k fun n3=>Q (Q (X h) (B (K h Oo (fun x=>DX.d5 k (DX.l3 k n3) x.1.1 x.1.2.2 x.2) [[0,1,2,3,5,6,7,8,4,9,10,11,12,13],[0,1,2,3,5,6,7,8,9,4,10,11,12,13]] (O (fun x=>by kernel_rfl) (O (fun x=>by kernel_rfl) (N)))))) (X h))) (X h))) (X h)) (X h)
def f105(k:Nat):Fc Tryz.prog:=⟨105,_,Oq k⟩
def Rn:SS:=⟨[(0,z8),(3,z4),(4,z4)],[]⟩
def Rm:SS:=⟨[(0,z8)],[]⟩
def Rk(k:Nat):dh:=⟨⟨[(0,z8)],[]⟩,⟨[(0,z4)],[]⟩,1,1,fun x=>Ej k x⟩
theorem Rl(k:Nat):gu Tryz.prog 180 (Rk k):=ok (cx [] 25 nb) Tryz.f180 fun h x=>Q (Q (T (Q (Q (X h) (Q (B (L Rn (fun n x=>Ej.l5 k n x.1 x.2.1 x.2.2) k fun n5=>X h)) (X h))) (X h)) Rm fun x=>Ej.c3 k x) (X h)) (X h)
def f180(k:Nat):Fc Tryz.prog:=⟨180,_,Rl k⟩
def Sw:SS:=⟨[(0,z20),(2,z4)],[]⟩
def Sz:SS:=⟨[(0,z20),(2,z4)],[]⟩
def Sy:SS:=⟨[(0,z20),(2,z4)],[]⟩
def Su(k:Nat):dh:=⟨⟨[(0,z20)],[]⟩,⟨[(0,z4)],[]⟩,1,1,fun x=>bits_Len64 k x⟩
theorem Sv(k:Nat):gu Tryz.prog 217 (Su k):=ok (cx [] 25 nb) Tryz.f217 fun h x=>Q (Q (T (Q (T (Q (T (X h) Sw fun x=>bits_Len64.c10 k x.1 x.2) (X h)) Sz fun x=>bits_Len64.c7 k x.1 x.2) (X h)) Sy fun x=>bits_Len64.c4 k x.1 x.2) (X h)) (X h)
def f217(k:Nat):Fc Tryz.prog:=⟨217,_,Sv k⟩
def Ro(k:Nat):dh:=⟨⟨[(0,z4)],[]⟩,⟨[(0,z4)],[]⟩,1,1,fun x=>D5 k x⟩
theorem Rp(k:Nat):gu Tryz.prog 181 (Ro k):=ok (cx [f217 k] 6 nb) Tryz.f181 fun h x=>X h
def f181(k:Nat):Fc Tryz.prog:=⟨181,_,Rp k⟩
def Oy:SS:=⟨[(0,z8),(3,z4),(4,A7),(5,CR),(16,z4)],[(100,Ba),(101,Ba)]⟩
def Ox:SS:=⟨[(0,z8),(3,z4),(4,A7),(5,CR),(6,z4),(7,(.h 102)),(8,z4),(9,z4),(10,z4),(16,z4)],[(100,Ba),(101,Ba),(102,Bj)]⟩
def Oz:SS:=⟨[(0,z8),(3,z4),(4,A7),(5,CR),(16,z4)],[(100,Ba),(101,Ba)]⟩
def Ou(k:Nat):dh:=⟨⟨[(0,z8)],[]⟩,⟨[(0,A7)],[(100,Ba)]⟩,1,1,fun x=>Cq k x⟩
theorem Ov(k:Nat):gu Tryz.prog 106 (Ou k):=ok (cx [f102 k,f104 k,f180 k,f181 k] 69 nb) Tryz.f106 fun h x=>Q (Q (Q (Q (Q (X h) (Q (B (L Oz (fun n x=>Cq.l5 k n x.1.1 x.1.2.1 x.1.2.2.2.2 x.2.1 x.2.2) k fun n5=>Q (Q (Q (T (X h) Oy fun x=>Cq.c19 k (Cq.l5 k n5) x.1.1 x.1.2.1 x.1.2.2.2.2 x.2.1 x.2.2) (B (Q (Q (Q (Q (Q (X h) (Q (B (L Ox (fun n x=>Cq.Cc k (Cq.l5 k n5) n x.1.1 x.1.2.1 x.1.2.2.2.2.1 x.1.2.2.2.2.2.2.1 x.1.2.2.2.2.2.2.2.1 x.1.2.2.2.2.2.2.2.2.1 x.1.2.2.2.2.2.2.2.2.2 x.2.1 x.2.2.1 x.2.2.2) k fun n11=>X h)) (X h))) (X h)) (X h)) (X h)) (X h)))) (X h)) (X h))) (X h))) (X h)) (X h)) (X h)) (X h)
def f106(k:Nat):Fc Tryz.prog:=⟨106,_,Ov k⟩
def Tj:SS:=⟨[(5,A7),(6,z8)],[(100,Ba)]⟩
def Tm:SS:=⟨[(0,z8),(4,z4)],[]⟩
def Tg(k:Nat):dh:=⟨⟨[(0,z8)],[]⟩,⟨[(0,A7),(1,z2)],[(100,Ba)]⟩,1,2,fun x=>Di k x⟩
theorem Ti(k:Nat):gu Tryz.prog 40 (Tg k):=ok (cx [f103 k,f104 k,f105 k,f106 k] 47 nb) Tryz.f40 fun h x=>Q (Q (Q (Q (T (Q (Q (Q (Q (Q (X h) (B (L Tj (fun n x=>Di.l10 k n x.1.2 x.2) k fun n10=>X h))) (X h)) (X h)) (X h)) (X h)) Tm fun x=>Di.c6 k x.1 x.2) (X h)) (X h)) (X h)) (X h)
def f40(k:Nat):Fc Tryz.prog:=⟨40,_,Ti k⟩
def Tv:SS:=⟨[(4,A7),(5,CR),(15,z17),(16,z4),(17,z4)],[(100,Bj),(101,Ba)]⟩
def Tt(k:Nat):dh:=⟨⟨[(0,z17)],[]⟩,⟨[(0,A7),(1,z2)],[(100,Ba)]⟩,1,2,fun x=>EB k x⟩
theorem Tu(k:Nat):gu Tryz.prog 42 (Tt k):=ok (cx [f38 k,f40 k] 42 nb) Tryz.f42 fun h x=>Q (Q (Q (Q (Q (X h) (Q (B (L Tv (fun n x=>EB.l6 k n x.1.2.2.1 x.1.2.2.2.1 x.1.2.2.2.2 x.2.1 x.2.2) k fun n6=>X h)) (X h))) (X h)) (X h)) (X h)) (X h)
def f42(k:Nat):Fc Tryz.prog:=⟨42,_,Tu k⟩
def OC:SS:=⟨[(0,Ey),(1,Ey),(5,z4)],[]⟩
def OA(k:Nat):dh:=⟨⟨[(0,Ey),(1,Ey)],[]⟩,⟨[(0,z4)],[]⟩,2,1,fun x=>EN k x.1 x.2⟩
theorem OB(k:Nat):gu Tryz.prog 107 (OA k):=ok (cx [] 28 nb) Tryz.f107 fun h x=>Q (Q (Q (X h) (B (L OC (fun n x=>EN.l2 k n x.1 x.2.1 x.2.2) k fun n2=>X h))) (X h)) (X h)
def f107(k:Nat):Fc Tryz.prog:=⟨107,_,OB k⟩
def Tz:SS:=⟨[(4,A7),(5,CR),(6,Ey),(19,z17),(20,z4),(21,z4)],[(100,Bj),(101,w16)]⟩
def Tw(k:Nat):dh:=⟨⟨[(0,z17)],[]⟩,⟨[(0,A7),(1,z2)],[(100,Ba)]⟩,1,2,fun x=>Ff k x⟩
theorem Tx(k:Nat):gu Tryz.prog 43 (Tw k):=ok (cx [f38 k,f40 k,f42 k,f107 k] 63 nb) Tryz.f43 fun h x=>Q (Q (Q (Q (Q (Q (X h) (Q (B (L Tz (fun n x=>Ff.l7 k n x.1.2.2.1 x.1.2.2.2.1 x.1.2.2.2.2.1 x.1.2.2.2.2.2 x.2.1 x.2.2) k fun n7=>X h)) (X h))) (X h)) (X h)) (X h)) (X h)) (X h)
def f43(k:Nat):Fc Tryz.prog:=⟨43,_,Tx k⟩
def OD(k:Nat):dh:=⟨⟨[(0,z4)],[]⟩,⟨[(0,z4)],[]⟩,1,1,fun x=>G7 k x⟩
theorem OE(k:Nat):gu Tryz.prog 108 (OD k):=ok (cx [f61 k] 5 nb) Tryz.f108 fun h x=>X h
def f108(k:Nat):Fc Tryz.prog:=⟨108,_,OE k⟩
def TD:SS:=⟨[(1,z17),(7,A7),(8,z4),(22,z4),(23,z4),(26,z17),(27,z4),(28,z4)],[(100,Ba)]⟩
def TC:SS:=⟨[(1,z17),(7,A7),(22,z4),(23,z4)],[(100,Ba)]⟩
def TA(k:Nat):dh:=⟨⟨[(0,z4),(1,z17)],[]⟩,⟨[(0,A7),(1,z2)],[(100,Ba)]⟩,2,2,fun x=>Dk k x.1 x.2⟩
theorem TB(k:Nat):gu Tryz.prog 44 (TA k):=ok (cx [f38 k,f108 k] 44 nb) Tryz.f44 fun h x=>Q (Q (Q (Q (Q (X h) (Q (B (L TC (fun n x=>Dk.l6 k n x.1.1 x.1.2.2.1 x.1.2.2.2 x.2) k fun n6=>Q (Q (Q (X h) (B (Q (Q (B (L TD (fun n x=>Dk.l9 k (Dk.l6 k n6) n x.1.1 x.1.2.2.1 x.1.2.2.2.1 x.1.2.2.2.2.1 x.1.2.2.2.2.2.1 x.1.2.2.2.2.2.2.1 x.1.2.2.2.2.2.2.2 x.2) k fun n9=>X h)) (X h)) (X h)))) (X h)) (X h))) (X h))) (X h)) (X h)) (X h)) (X h)
def f44(k:Nat):Fc Tryz.prog:=⟨44,_,TB k⟩
def OM:SS:=⟨[(0,z8),(1,z4),(16,z8),(17,z4),(18,z4)],[]⟩
def OJ(k:Nat):dh:=⟨⟨[(0,z8),(1,z4)],[]⟩,⟨[(0,A7),(1,z2)],[(100,Ba)]⟩,2,2,fun x=>FD k x.1 x.2⟩
theorem OL(k:Nat):gu Tryz.prog 110 (OJ k):=ok (cx [f34 k,f102 k,f181 k] 34 nb) Tryz.f110 fun h x=>Q (Q (Q (X h) (Q (B (L OM (fun n x=>FD.l4 k n x.1 x.2.1 x.2.2.1 x.2.2.2.1 x.2.2.2.2) k fun n4=>X h)) (X h))) (X h)) (X h)
def f110(k:Nat):Fc Tryz.prog:=⟨110,_,OL k⟩
def OQ:SS:=⟨[(0,z8),(1,z4),(5,z4)],[]⟩
def OO(k:Nat):dh:=⟨⟨[(0,z8),(1,z4)],[]⟩,⟨[(0,z4)],[]⟩,2,1,fun x=>En k x.1 x.2⟩
theorem OP(k:Nat):gu Tryz.prog 111 (OO k):=ok (cx [] 28 nb) Tryz.f111 fun h x=>Q (Q (Q (X h) (B (L OQ (fun n x=>En.l2 k n x.1 x.2.1 x.2.2) k fun n2=>X h))) (X h)) (X h)
def f111(k:Nat):Fc Tryz.prog:=⟨111,_,OP k⟩
def OT(k:Nat):dh:=⟨⟨[(0,z4),(1,z4)],[]⟩,⟨[(0,z4)],[]⟩,2,1,fun x=>Gx k x.1 x.2⟩
theorem OU(k:Nat):gu Tryz.prog 112 (OT k):=ok (cx [f34 k] 18 nb) Tryz.f112 fun h x=>X h
def f112(k:Nat):Fc Tryz.prog:=⟨112,_,OU k⟩
def OX:SS:=⟨[(0,z8),(1,z4),(5,z4)],[]⟩
def OV(k:Nat):dh:=⟨⟨[(0,z8),(1,z4)],[]⟩,⟨[(0,z4)],[]⟩,2,1,fun x=>ER k x.1 x.2⟩
theorem OW(k:Nat):gu Tryz.prog 113 (OV k):=ok (cx [f111 k] 25 nb) Tryz.f113 fun h x=>Q (Q (Q (X h) (B (L OX (fun n x=>ER.l2 k n x.1 x.2.1 x.2.2) k fun n2=>X h))) (X h)) (X h)
def f113(k:Nat):Fc Tryz.prog:=⟨113,_,OW k⟩
def TK:SS:=⟨[(0,z8),(1,z4),(8,A7),(9,z4),(10,z4)],[(100,Ba)]⟩
def TM:SS:=⟨[(0,z8),(1,z4),(8,A7),(9,z4)],[(100,Ba)]⟩
def TJ(k:Nat):dh:=⟨⟨[(0,z8),(1,z4)],[]⟩,⟨[(0,A7),(1,z2)],[(100,Ba)]⟩,2,2,fun x=>Dj k x.1 x.2⟩
theorem TL(k:Nat):gu Tryz.prog 46 (TJ k):=ok (cx [f47 k,f102 k,f103 k,f110 k,f111 k,f112 k,f113 k] 82 nb) Tryz.f46 fun h x=>Q (Q (Q (Q (Q (X h) (Q (B (L TM (fun n x=>Dj.l6 k n x.1.1 x.1.2.1 x.1.2.2.2 x.2) k fun n6=>Q (B (Q (Q (X h) (Q (D (Q (Q (X h) (K h TK (fun x=>Dj.d10 k (Dj.l6 k n6) x.1.1 x.1.2.1 x.1.2.2.2.1 x.1.2.2.2.2 x.2) [[0,1,2,3,5,4,6,7,8,9],[0,1,2,3,5,6,4,7,8,9]] (O (fun x=>by kernel_rfl) (O (fun x=>by kernel_rfl) (N))))) (X h)) (X h)) (X h))) (X h))) (X h))) (X h))) (X h)) (X h)) (X h)) (X h)
def f46(k:Nat):Fc Tryz.prog:=⟨46,_,TL k⟩
def Rq(k:Nat):dh:=⟨⟨[(0,z4)],[]⟩,⟨[(0,z4)],[]⟩,1,1,fun x=>Ic k x⟩
theorem Rs(k:Nat):gu Tryz.prog 182 (Rq k):=ok (cx [f181 k] 12 nb) Tryz.f182 fun h x=>X h
def f182(k:Nat):Fc Tryz.prog:=⟨182,_,Rs k⟩
def OI:SS:=⟨[(0,z8),(1,z4),(14,z8),(15,z4),(16,z4)],[]⟩
def OG(k:Nat):dh:=⟨⟨[(0,z8),(1,z4)],[]⟩,⟨[(0,A7),(1,z2)],[(100,Ba)]⟩,2,2,fun x=>Fg k x.1 x.2⟩
theorem OH(k:Nat):gu Tryz.prog 109 (OG k):=ok (cx [f34 k,f46 k,f182 k] 43 nb) Tryz.f109 fun h x=>Q (Q (Q (X h) (Q (B (L OI (fun n x=>Fg.l4 k n x.1 x.2.1 x.2.2.1 x.2.2.2.1 x.2.2.2.2) k fun n4=>X h)) (X h))) (X h)) (X h)
def f109(k:Nat):Fc Tryz.prog:=⟨109,_,OH k⟩
def TG:SS:=⟨[(1,z17),(6,z5),(11,CR),(37,z17),(38,z4),(39,z4)],[(100,(.mp Gs .i64)),(101,Bj)]⟩
def TI:SS:=⟨[(0,z17),(1,z17),(6,z5),(17,z17),(18,z4),(19,z4)],[(100,(.mp Gs .i64))]⟩
def TH:SS:=⟨[(0,z17),(1,z17),(6,z5),(17,z17),(18,z4),(19,z4)],[(100,(.mp Gs .i64))]⟩
def TE(k:Nat):dh:=⟨⟨[(0,z17),(1,z17)],[]⟩,⟨[(0,A7),(1,z2)],[(100,Ba)]⟩,2,2,fun x=>CL k x.1 x.2⟩
theorem TF(k:Nat):gu Tryz.prog 45 (TE k):=ok (cx [f109 k] 62 nb) Tryz.f45 fun h x=>Q (Q (Q (Q (Q (X h) (Q (B (L TG (fun n x=>CL.Cc k n x.1.1 x.1.2.2.2.1 x.1.2.2.2.2.1 x.1.2.2.2.2.2 x.2.1 x.2.2) k fun n11=>X h)) (X h))) (X h)) (Q (B (L TH (fun n x=>CL.l3 k n x.1.1 x.1.2.1 x.1.2.2.2.1 x.1.2.2.2.2.1 x.1.2.2.2.2.2 x.2) k fun n3=>Q (Q (Q (T (X h) TI fun x=>CL.c8 k (CL.l3 k n3) x.1.1 x.1.2.1 x.1.2.2.2.1 x.1.2.2.2.2.1 x.1.2.2.2.2.2 x.2) (X h)) (X h)) (X h))) (X h))) (X h)) (X h)
def f45(k:Nat):Fc Tryz.prog:=⟨45,_,TF k⟩
def Q7(k:Nat):dh:=⟨⟨[(0,z4),(1,z4),(2,z17),(3,z17)],[]⟩,⟨[(0,A7),(1,z2)],[(100,Ba)]⟩,4,2,fun x=>I7 k x.1 x.2.1 x.2.2.1 x.2.2.2⟩
theorem Q8(k:Nat):gu Tryz.prog 15 (Q7 k):=ok (cx [f19 k,f38 k,f39 k,f40 k,f41 k,f42 k,f43 k,f44 k,f45 k,f46 k,f47 k] 75 nb) Tryz.f15 fun h x=>X h
def f15(k:Nat):Fc Tryz.prog:=⟨15,_,Q8 k⟩
def Uq:SS:=⟨[(0,z4),(1,z4),(5,A7),(6,z4)],[(100,Ba)]⟩
def Un(k:Nat):dh:=⟨⟨[(0,z4),(1,z4)],[]⟩,⟨[(0,A7)],[(100,Ba)]⟩,2,1,fun x=>Dy k x.1 x.2⟩
theorem Uo(k:Nat):gu Tryz.prog 53 (Un k):=ok (cx [f123 k] 26 nb) Tryz.f53 fun h x=>Q (Q (Q (X h) (Q (B (L Uq (fun n x=>Dy.l3 k n x.1.1 x.1.2.1 x.1.2.2.2 x.2) k fun n3=>X h)) (X h))) (X h)) (X h)
def f53(k:Nat):Fc Tryz.prog:=⟨53,_,Uo k⟩
def Po(k:Nat):dh:=⟨⟨[(0,z4),(1,z4)],[]⟩,⟨[(0,z4)],[]⟩,2,1,fun x=>FM k x.1 x.2⟩
theorem Pp(k:Nat):gu Tryz.prog 121 (Po k):=ok (cx [f123 k] 18 nb) Tryz.f121 fun h x=>X h
def f121(k:Nat):Fc Tryz.prog:=⟨121,_,Pp k⟩
def Pb:SS:=⟨[(0,z8),(1,z4),(7,A7),(8,z4),(9,z4)],[(100,Ba)]⟩
def O_:SS:=⟨[(0,z8),(1,z4),(7,A7),(8,z4),(9,z4)],[(100,Ba)]⟩
def Pd:SS:=⟨[(0,z8),(1,z4),(7,A7),(8,z4)],[(100,Ba)]⟩
def O8(k:Nat):dh:=⟨⟨[(0,z8),(1,z4)],[]⟩,⟨[(0,A7),(1,z2)],[(100,Ba)]⟩,2,2,fun x=>Cj k x.1 x.2⟩
theorem O9(k:Nat):gu Tryz.prog 117 (O8 k):=ok (cx [f121 k] 73 nb) Tryz.f117 fun h x=>Q (Q (Q (Q (Q (X h) (Q (B (L Pd (fun n x=>Cj.l6 k n x.1.1 x.1.2.1 x.1.2.2.2 x.2) k fun n6=>Q (Q (X h) (B (Q (Q (B (L O_ (fun n x=>Cj.Cc k (Cj.l6 k n6) n x.1.1 x.1.2.1 x.1.2.2.2.1 x.1.2.2.2.2 x.2) k fun n11=>Q (Q (T (X h) Pb fun x=>Cj.c12 k (Cj.Cc k (Cj.l6 k n6) n11) x.1.1 x.1.2.1 x.1.2.2.2.1 x.1.2.2.2.2 x.2) (X h)) (X h))) (X h)) (X h)))) (X h))) (X h))) (X h)) (X h)) (X h)) (X h)
def f117(k:Nat):Fc Tryz.prog:=⟨117,_,O9 k⟩
def Ua:SS:=⟨[(0,z4),(1,z17),(6,A7),(7,CR),(8,z4)],[(100,Ba),(101,Bj)]⟩
def T_:SS:=⟨[(0,z4),(1,z17),(6,A7),(7,CR),(8,z4)],[(100,Ba),(101,Bj)]⟩
def TZ(k:Nat):dh:=⟨⟨[(0,z4),(1,z17)],[]⟩,⟨[(0,A7),(1,z2)],[(100,Ba)]⟩,2,2,fun x=>Cs k x.1 x.2⟩
theorem T9(k:Nat):gu Tryz.prog 50 (TZ k):=ok (cx [f49 k,f53 k,f117 k] 67 nb) Tryz.f50 fun h x=>Q (Q (Q (Q (Q (X h) (Q (B (L T_ (fun n x=>Cs.l6 k n x.1.1 x.1.2.1 x.1.2.2.2.2 x.2.1 x.2.2) k fun n6=>Q (Q (T (X h) Ua fun x=>Cs.c7 k (Cs.l6 k n6) x.1.1 x.1.2.1 x.1.2.2.2.2 x.2.1 x.2.2) (X h)) (X h))) (X h))) (X h)) (X h)) (X h)) (X h)
def f50(k:Nat):Fc Tryz.prog:=⟨50,_,T9 k⟩
def Pe(k:Nat):dh:=⟨⟨[(0,z4)],[]⟩,⟨[(0,z2)],[]⟩,1,1,fun x=>Iw k x⟩
theorem Pf(k:Nat):gu Tryz.prog 118 (Pe k):=ok (cx [f123 k] 5 nb) Tryz.f118 fun h x=>X h
def f118(k:Nat):Fc Tryz.prog:=⟨118,_,Pf k⟩
def Pj:SS:=⟨[(0,z8),(1,z4),(5,z4)],[]⟩
def Pg(k:Nat):dh:=⟨⟨[(0,z8),(1,z4)],[]⟩,⟨[(0,z4)],[]⟩,2,1,fun x=>Ex k x.1 x.2⟩
theorem Ph(k:Nat):gu Tryz.prog 119 (Pg k):=ok (cx [] 28 nb) Tryz.f119 fun h x=>Q (Q (Q (X h) (B (L Pj (fun n x=>Ex.l2 k n x.1 x.2.1 x.2.2) k fun n2=>X h))) (X h)) (X h)
def f119(k:Nat):Fc Tryz.prog:=⟨119,_,Ph k⟩
def Rv(k:Nat):dh:=⟨⟨[(0,z4),(1,z4)],[]⟩,⟨[(0,z4)],[]⟩,2,1,fun x=>FP k x.1 x.2⟩
theorem Rw(k:Nat):gu Tryz.prog 184 (Rv k):=ok (cx [] 16 nb) Tryz.f184 fun h x=>X h
def f184(k:Nat):Fc Tryz.prog:=⟨184,_,Rw k⟩
def Pn:SS:=⟨[(0,z4),(3,A7)],[(100,Ba)]⟩
def Pk(k:Nat):dh:=⟨⟨[(0,z4)],[]⟩,⟨[(0,A7)],[(100,Ba)]⟩,1,1,fun x=>DR k x⟩
theorem Pm(k:Nat):gu Tryz.prog 120 (Pk k):=ok (cx [f184 k] 22 nb) Tryz.f120 fun h x=>Q (Q (Q (X h) (B (L Pn (fun n x=>DR.l2 k n x.1.1 x.2) k fun n2=>X h))) (X h)) (X h)
def f120(k:Nat):Fc Tryz.prog:=⟨120,_,Pm k⟩
def Px:SS:=⟨[(0,z8),(1,z4),(5,A7),(6,z4),(7,z4)],[(100,Ba)]⟩
def Pw:SS:=⟨[(0,z8),(1,z4),(5,A7),(6,z4),(7,z4)],[(100,Ba)]⟩
def Pv:SS:=⟨[(0,z8),(1,z4),(5,A7),(6,z4)],[(100,Ba)]⟩
def Pq(k:Nat):dh:=⟨⟨[(0,z8),(1,z4)],[]⟩,⟨[(0,A7)],[(100,Ba)]⟩,2,1,fun x=>Cm k x.1 x.2⟩
theorem Pt(k:Nat):gu Tryz.prog 122 (Pq k):=ok (cx [] 54 nb) Tryz.f122 fun h x=>Q (Q (Q (X h) (Q (B (L Pv (fun n x=>Cm.l3 k n x.1.1 x.1.2.1 x.1.2.2.2 x.2) k fun n3=>Q (Q (X h) (B (Q (B (L Pw (fun n x=>Cm.l6 k (Cm.l3 k n3) n x.1.1 x.1.2.1 x.1.2.2.2.1 x.1.2.2.2.2 x.2) k fun n6=>Q (Q (T (X h) Px fun x=>Cm.c7 k (Cm.l6 k (Cm.l3 k n3) n6) x.1.1 x.1.2.1 x.1.2.2.2.1 x.1.2.2.2.2 x.2) (X h)) (X h))) (X h)))) (X h))) (X h))) (X h)) (X h)
def f122(k:Nat):Fc Tryz.prog:=⟨122,_,Pt k⟩
def Ui:SS:=⟨[(0,z8),(1,z4),(6,A7),(8,z4),(10,CR),(11,z4),(12,z4)],[(100,Ba),(101,Bj)]⟩
def Uh:SS:=⟨[(0,z8),(1,z4),(6,A7),(8,z4),(10,CR),(11,z4)],[(100,Ba),(101,Bj)]⟩
def Ug:SS:=⟨[(0,z8),(1,z4),(6,A7),(8,z4),(10,CR)],[(100,Ba),(101,Bj)]⟩
def Uf:SS:=⟨[(0,z8),(1,z4),(6,A7),(8,z4),(9,z4)],[(100,Ba)]⟩
def Uc:SS:=⟨[(0,z8),(1,z4),(6,A7),(8,z4),(9,z4)],[(100,Ba)]⟩
def Ue:SS:=⟨[(0,z8),(1,z4),(6,A7),(8,z4)],[(100,Ba)]⟩
def Uj:SS:=⟨[(0,z8),(1,z4),(6,A7),(7,z4)],[(100,Ba)]⟩
def Ub(k:Nat):dh:=⟨⟨[(0,z8),(1,z4)],[]⟩,⟨[(0,A7),(1,z2)],[(100,Ba)]⟩,2,2,fun x=>Bb k x.1 x.2⟩
theorem Ud(k:Nat):gu Tryz.prog 51 (Ub k):=ok (cx [f53 k,f118 k,f119 k,f120 k,f121 k,f122 k] 124 nb) Tryz.f51 fun h x=>Q (Q (Q (Q (Q (Q (X h) (B (L Ue (fun n x=>Bb.l10 k n x.1.1 x.1.2.1 x.1.2.2.2 x.2) k fun n10=>Q (B (Q (Q (Q (Q (X h) (B (L Ug (fun n x=>Bb.CZ k (Bb.l10 k n10) n x.1.1 x.1.2.1 x.1.2.2.2.1 x.2.1 x.2.2) k fun n18=>Q (B (Q (X h) (Q (B (L Uh (fun n x=>Bb.Cr k (Bb.CZ k (Bb.l10 k n10) n18) n x.1.1 x.1.2.1 x.1.2.2.2.1 x.1.2.2.2.2.2 x.2.1 x.2.2) k fun n20=>Q (Q (X h) (B (Q (Q (T (X h) Ui fun x=>Bb.H7 k (Bb.Cr k (Bb.CZ k (Bb.l10 k n10) n18) n20) x.1.1 x.1.2.1 x.1.2.2.2.1 x.1.2.2.2.2.2.1 x.1.2.2.2.2.2.2 x.2.1 x.2.2) (X h)) (X h)))) (X h))) (X h)))) (X h)))) (X h)) (Q (D (Q (Q (T (X h) Uf fun x=>Bb.c16 k (Bb.l10 k n10) x.1.1 x.1.2.1 x.1.2.2.2.1 x.1.2.2.2.2 x.2) (Q (D (K h Uc (fun x=>Bb.d15 k (Bb.l10 k n10) x.1.1 x.1.2.1 x.1.2.2.2.1 x.1.2.2.2.2 x.2) [[0,1,2,3,5,4,6,7,8,9],[0,1,2,3,5,6,4,7,8,9]] (O (fun x=>by kernel_rfl) (O (fun x=>by kernel_rfl) (N)))) (X h)) (X h))) (X h)) (X h)) (X h))) (X h))) (X h)))) (X h)) (Q (B (L Uj (fun n x=>Bb.l5 k n x.1.1 x.1.2.1 x.1.2.2.2 x.2) k fun n5=>X h)) (X h))) (X h)) (X h)) (X h)
def f51(k:Nat):Fc Tryz.prog:=⟨51,_,Ud k⟩
def Um:SS:=⟨[(0,z17),(3,A7),(4,z4)],[(100,Bj)]⟩
def Uk(k:Nat):dh:=⟨⟨[(0,z17)],[]⟩,⟨[(0,A7)],[(100,Bj)]⟩,1,1,fun x=>EX k x⟩
theorem Ul(k:Nat):gu Tryz.prog 52 (Uk k):=ok (cx [] 21 nb) Tryz.f52 fun h x=>Q (Q (Q (X h) (Q (B (L Um (fun n x=>EX.l3 k n x.1.1 x.1.2.2 x.2) k fun n3=>X h)) (X h))) (X h)) (X h)
def f52(k:Nat):Fc Tryz.prog:=⟨52,_,Ul k⟩
def Rx(k:Nat):dh:=⟨⟨[(0,z4)],[]⟩,⟨[(0,z4)],[]⟩,1,1,fun x=>Js k x⟩
theorem Ry(k:Nat):gu Tryz.prog 185 (Rx k):=ok (cx [] 10 nb) Tryz.f185 fun h x=>X h
def f185(k:Nat):Fc Tryz.prog:=⟨185,_,Ry k⟩
def PC(k:Nat):dh:=⟨⟨[(0,z4)],[]⟩,⟨[(0,A7)],[(100,Ba)]⟩,1,1,fun x=>Ip k x⟩
theorem PD(k:Nat):gu Tryz.prog 124 (PC k):=ok (cx [f120 k,f185 k] 6 nb) Tryz.f124 fun h x=>X h
def f124(k:Nat):Fc Tryz.prog:=⟨124,_,PD k⟩
def PG:SS:=⟨[(0,z8),(3,A7),(4,z4)],[(100,Bj)]⟩
def PK:SS:=⟨[(0,z8),(3,A7),(4,z4)],[(100,Bj)]⟩
def PE(k:Nat):dh:=⟨⟨[(0,z8)],[]⟩,⟨[(0,A7)],[(100,Bj)]⟩,1,1,fun x=>D_ k x⟩
theorem PI(k:Nat):gu Tryz.prog 125 (PE k):=ok (cx [] 26 nb) Tryz.f125 fun h x=>Q (Q (Q (X h) (Q (B (L PK (fun n x=>D_.l3 k n x.1.1 x.1.2.2 x.2) k fun n3=>Q (Q (X h) (B (K h PG (fun x=>D_.d5 k (D_.l3 k n3) x.1.1 x.1.2.2 x.2) [[0,1,2,3,5,6,7,8,4,9,10,11,12,13],[0,1,2,3,5,6,7,8,9,4,10,11,12,13]] (O (fun x=>by kernel_rfl) (O (fun x=>by kernel_rfl) (N)))))) (X h))) (X h))) (X h)) (X h)
def f125(k:Nat):Fc Tryz.prog:=⟨125,_,PI k⟩
def PU(k:Nat):dh:=⟨⟨[(0,z4),(1,z4)],[]⟩,⟨[(0,z4)],[]⟩,2,1,fun x=>Iq k x.1 x.2⟩
theorem PV(k:Nat):gu Tryz.prog 127 (PU k):=ok (cx [] 10 nb) Tryz.f127 fun h x=>X h
def f127(k:Nat):Fc Tryz.prog:=⟨127,_,PV k⟩
def Qd(k:Nat):dh:=⟨⟨[(0,z4),(1,z4)],[]⟩,⟨[(0,z4)],[]⟩,2,1,fun x=>GI k x.1 x.2⟩
theorem Qe(k:Nat):gu Tryz.prog 132 (Qd k):=ok (cx [] 10 nb) Tryz.f132 fun h x=>X h
def f132(k:Nat):Fc Tryz.prog:=⟨132,_,Qe k⟩
def RB:SS:=⟨[(0,z4),(3,z4)],[]⟩
def Rz(k:Nat):dh:=⟨⟨[(0,z4)],[]⟩,⟨[(0,z4)],[]⟩,1,1,fun x=>E5 k x⟩
theorem RA(k:Nat):gu Tryz.prog 186 (Rz k):=ok (cx [f184 k] 11 nb) Tryz.f186 fun h x=>Q (Q (Q (X h) (B (L RB (fun n x=>E5.l2 k n x.1 x.2) k fun n2=>X h))) (X h)) (X h)
def f186(k:Nat):Fc Tryz.prog:=⟨186,_,RA k⟩
def RJ:SS:=⟨[(0,z8),(1,z4),(5,A7),(6,z4),(7,z4)],[(100,Ba)]⟩
def RI:SS:=⟨[(0,z8),(1,z4),(5,A7),(6,z4),(7,z4)],[(100,Ba)]⟩
def RH:SS:=⟨[(0,z8),(1,z4),(5,A7),(6,z4)],[(100,Ba)]⟩
def RD(k:Nat):dh:=⟨⟨[(0,z8),(1,z4)],[]⟩,⟨[(0,A7)],[(100,Ba)]⟩,2,1,fun x=>Ct k x.1 x.2⟩
theorem RF(k:Nat):gu Tryz.prog 187 (RD k):=ok (cx [] 54 nb) Tryz.f187 fun h x=>Q (Q (Q (X h) (Q (B (L RH (fun n x=>Ct.l3 k n x.1.1 x.1.2.1 x.1.2.2.2 x.2) k fun n3=>Q (Q (X h) (B (Q (B (L RI (fun n x=>Ct.l6 k (Ct.l3 k n3) n x.1.1 x.1.2.1 x.1.2.2.2.1 x.1.2.2.2.2 x.2) k fun n6=>Q (Q (T (X h) RJ fun x=>Ct.c7 k (Ct.l6 k (Ct.l3 k n3) n6) x.1.1 x.1.2.1 x.1.2.2.2.1 x.1.2.2.2.2 x.2) (X h)) (X h))) (X h)))) (X h))) (X h))) (X h)) (X h)
def f187(k:Nat):Fc Tryz.prog:=⟨187,_,RF k⟩
def PN:SS:=⟨[(0,z8),(3,z4),(5,z4),(6,A7),(7,CR),(8,z4)],[(100,Ba),(101,Ba)]⟩
def PR:SS:=⟨[(0,z8),(3,z4),(5,z4),(6,A7),(7,CR),(8,z4),(9,(.h 102)),(10,z4)],[(100,Ba),(101,Ba),(102,Bj)]⟩
def PO:SS:=⟨[(0,z8),(3,z4),(5,z4),(6,A7),(7,CR),(8,z4),(9,(.h 102)),(10,z4),(11,z4)],[(100,Ba),(101,Ba),(102,Bj)]⟩
def PT:SS:=⟨[(0,z8),(3,z4),(5,z4),(6,A7),(7,CR),(8,z4)],[(100,Ba),(101,Ba)]⟩
def PS:SS:=⟨[(0,z8),(3,z4),(4,z4)],[]⟩
def PL(k:Nat):dh:=⟨⟨[(0,z8)],[]⟩,⟨[(0,A7)],[(100,Ba)]⟩,1,1,fun x=>Bv k x⟩
theorem PM(k:Nat):gu Tryz.prog 126 (PL k):=ok (cx [f124 k,f127 k,f132 k,f186 k,f187 k] 95 nb) Tryz.f126 fun h x=>Q (Q (Q (Q (Q (Q (X h) (Q (B (L PT (fun n x=>Bv.l9 k n x.1.1 x.1.2.1 x.1.2.2.1 x.1.2.2.2.2.2 x.2.1 x.2.2) k fun n9=>Q (Q (T (X h) PN fun x=>Bv.c10 k (Bv.l9 k n9) x.1.1 x.1.2.1 x.1.2.2.1 x.1.2.2.2.2.2 x.2.1 x.2.2) (B (Q (Q (Q (Q (Q (Q (X h) (B (L PR (fun n x=>Bv.Cr k (Bv.l9 k n9) n x.1.1 x.1.2.1 x.1.2.2.1 x.1.2.2.2.2.2.1 x.1.2.2.2.2.2.2.2 x.2.1 x.2.2.1 x.2.2.2) k fun n20=>X h))) (X h)) (X h)) (Q (B (L PO (fun n x=>Bv.Gz k (Bv.l9 k n9) n x.1.1 x.1.2.1 x.1.2.2.1 x.1.2.2.2.2.2.1 x.1.2.2.2.2.2.2.2.1 x.1.2.2.2.2.2.2.2.2 x.2.1 x.2.2.1 x.2.2.2) k fun n14=>X h)) (X h))) (X h)) (X h)))) (X h))) (X h))) (X h)) (X h)) (Q (B (L PS (fun n x=>Bv.l3 k n x.1 x.2.1 x.2.2) k fun n3=>X h)) (X h))) (X h)) (X h)
def f126(k:Nat):Fc Tryz.prog:=⟨126,_,PM k⟩
def Ut:SS:=⟨[(5,A7),(6,CR),(7,z4)],[(100,Ba),(101,Bj)]⟩
def Uu:SS:=⟨[(0,z8),(4,z4)],[]⟩
def Ur(k:Nat):dh:=⟨⟨[(0,z8)],[]⟩,⟨[(0,A7),(1,z2)],[(100,Ba)]⟩,1,2,fun x=>Dp k x⟩
theorem Us(k:Nat):gu Tryz.prog 54 (Ur k):=ok (cx [f120 k,f124 k,f125 k,f126 k,f127 k] 50 nb) Tryz.f54 fun h x=>Q (Q (Q (Q (T (Q (Q (Q (Q (Q (X h) (Q (B (L Ut (fun n x=>Dp.Cc k n x.1.2.2 x.2.1 x.2.2) k fun n11=>X h)) (X h))) (X h)) (X h)) (X h)) (X h)) Uu fun x=>Dp.c6 k x.1 x.2) (X h)) (X h)) (X h)) (X h)
def f54(k:Nat):Fc Tryz.prog:=⟨54,_,Us k⟩
def PY:SS:=⟨[(0,z9),(6,A7),(8,z4)],[(100,Ba)]⟩
def PZ:SS:=⟨[(0,z9),(4,A7),(5,z4)],[(100,Bj)]⟩
def PW(k:Nat):dh:=⟨⟨[(0,z9)],[]⟩,⟨[(0,A7),(1,z2)],[(100,Ba)]⟩,1,2,fun x=>Dw k x⟩
theorem PX(k:Nat):gu Tryz.prog 128 (PW k):=ok (cx [f54 k] 46 nb) Tryz.f128 fun h x=>Q (Q (Q (Q (Q (Q (X h) (Q (B (L PY (fun n x=>Dw.l10 k n x.1.1 x.1.2.2 x.2) k fun n10=>X h)) (X h))) (X h)) (X h)) (Q (B (L PZ (fun n x=>Dw.l3 k n x.1.1 x.1.2.2 x.2) k fun n3=>X h)) (X h))) (X h)) (X h)
def f128(k:Nat):Fc Tryz.prog:=⟨128,_,PX k⟩
def P7:SS:=⟨[(0,z17),(3,A7),(4,z4)],[(100,(.sl 9 .str))]⟩
def P5(k:Nat):dh:=⟨⟨[(0,z17)],[]⟩,⟨[(0,A7)],[(100,(.sl 9 .str))]⟩,1,1,fun x=>FN k x⟩
theorem P6(k:Nat):gu Tryz.prog 129 (P5 k):=ok (cx [] 21 nb) Tryz.f129 fun h x=>Q (Q (Q (X h) (Q (B (L P7 (fun n x=>FN.l3 k n x.1.1 x.1.2.2 x.2) k fun n3=>X h)) (X h))) (X h)) (X h)
def f129(k:Nat):Fc Tryz.prog:=⟨129,_,P6 k⟩
def Uv(k:Nat):dh:=⟨⟨[(0,z17)],[]⟩,⟨[(0,A7),(1,z2)],[(100,Ba)]⟩,1,2,fun x=>Jr k x⟩
theorem Uw(k:Nat):gu Tryz.prog 55 (Uv k):=ok (cx [f49 k,f128 k,f129 k] 13 nb) Tryz.f55 fun h x=>X h
def f55(k:Nat):Fc Tryz.prog:=⟨55,_,Uw k⟩
def P_:SS:=⟨[(0,Ey),(1,Ey),(5,z4)],[]⟩
def P8(k:Nat):dh:=⟨⟨[(0,Ey),(1,Ey)],[]⟩,⟨[(0,z4)],[]⟩,2,1,fun x=>EW k x.1 x.2⟩
theorem P9(k:Nat):gu Tryz.prog 130 (P8 k):=ok (cx [] 28 nb) Tryz.f130 fun h x=>Q (Q (Q (X h) (B (L P_ (fun n x=>EW.l2 k n x.1 x.2.1 x.2.2) k fun n2=>X h))) (X h)) (X h)
def f130(k:Nat):Fc Tryz.prog:=⟨130,_,P9 k⟩
def Uz:SS:=⟨[(0,z17),(4,A7),(5,CR),(6,Ey),(7,z4)],[(100,Bj),(101,(.sl 9 .str))]⟩
def Ux(k:Nat):dh:=⟨⟨[(0,z17)],[]⟩,⟨[(0,A7),(1,z2)],[(100,Ba)]⟩,1,2,fun x=>Fq k x⟩
theorem Uy(k:Nat):gu Tryz.prog 56 (Ux k):=ok (cx [f49 k,f54 k,f128 k,f130 k] 71 nb) Tryz.f56 fun h x=>Q (Q (Q (Q (Q (X h) (Q (B (L Uz (fun n x=>Fq.l6 k n x.1.1 x.1.2.2.2.1 x.1.2.2.2.2 x.2.1 x.2.2) k fun n6=>X h)) (X h))) (X h)) (X h)) (X h)) (X h)
def f56(k:Nat):Fc Tryz.prog:=⟨56,_,Uy k⟩
def UC:SS:=⟨[(1,z17),(6,z4),(7,z4),(8,A7),(9,z4),(10,z4)],[(100,Ba)]⟩
def UD:SS:=⟨[(1,z17),(6,z4),(7,z4),(8,A7),(9,z4)],[(100,Ba)]⟩
def UA(k:Nat):dh:=⟨⟨[(0,z4),(1,z17)],[]⟩,⟨[(0,A7),(1,z2)],[(100,Ba)]⟩,2,2,fun x=>Dr k x.1 x.2⟩
theorem UB(k:Nat):gu Tryz.prog 57 (UA k):=ok (cx [f49 k,f115 k] 55 nb) Tryz.f57 fun h x=>Q (Q (Q (Q (Q (Q (X h) (Q (B (L UD (fun n x=>Dr.l7 k n x.1.1 x.1.2.1 x.1.2.2.1 x.1.2.2.2.2 x.2) k fun n7=>Q (Q (X h) (B (Q (B (L UC (fun n x=>Dr.l10 k (Dr.l7 k n7) n x.1.1 x.1.2.1 x.1.2.2.1 x.1.2.2.2.2.1 x.1.2.2.2.2.2 x.2) k fun n10=>X h)) (X h)))) (X h))) (X h))) (X h)) (X h)) (X h)) (X h)) (X h)
def f57(k:Nat):Fc Tryz.prog:=⟨57,_,UB k⟩
def Qc:SS:=⟨[(0,z4),(3,z4)],[]⟩
def Qa(k:Nat):dh:=⟨⟨[(0,z4)],[]⟩,⟨[(0,z4)],[]⟩,1,1,fun x=>EE k x⟩
theorem Qb(k:Nat):gu Tryz.prog 131 (Qa k):=ok (cx [] 15 nb) Tryz.f131 fun h x=>Q (Q (Q (Q (X h) (B (L Qc (fun n x=>EE.l4 k n x.1 x.2) k fun n4=>X h))) (X h)) (X h)) (X h)
def f131(k:Nat):Fc Tryz.prog:=⟨131,_,Qb k⟩
def UG:SS:=⟨[(0,z8),(1,z4),(6,z4)],[]⟩
def UE(k:Nat):dh:=⟨⟨[(0,z8),(1,z4)],[]⟩,⟨[(0,A7),(1,z2)],[(100,Ba)]⟩,2,2,fun x=>Fu k x.1 x.2⟩
theorem UF(k:Nat):gu Tryz.prog 58 (UE k):=ok (cx [f51 k,f123 k,f131 k,f132 k] 47 nb) Tryz.f58 fun h x=>Q (Q (Q (X h) (Q (B (L UG (fun n x=>Fu.l4 k n x.1 x.2.1 x.2.2) k fun n4=>X h)) (X h))) (X h)) (X h)
def f58(k:Nat):Fc Tryz.prog:=⟨58,_,UF k⟩
def Re:SS:=⟨[(2,z17),(3,z17),(12,A7),(13,z4),(14,z4)],[(100,Bj)]⟩
def Rc:SS:=⟨[(2,z17),(3,z17),(12,A7),(13,z4)],[(100,Bj)]⟩
def Ra(k:Nat):dh:=⟨⟨[(0,z4),(1,z4),(2,z17),(3,z17)],[]⟩,⟨[(0,A7),(1,z2)],[(100,Ba)]⟩,4,2,fun x=>Df k x.1 x.2.1 x.2.2.1 x.2.2.2⟩
theorem Rb(k:Nat):gu Tryz.prog 16 (Ra k):=ok (cx [f48 k,f49 k,f50 k,f51 k,f52 k,f53 k,f54 k,f55 k,f56 k,f57 k,f58 k] 115 nb) Tryz.f16 fun h x=>Q (Q (Q (Q (Q (X h) (Q (B (L Rc (fun n x=>Df.FW k n x.1.1 x.1.2.1 x.1.2.2.2 x.2) k fun n21=>Q (Q (X h) (B (Q (Q (X h) (B (L Re (fun n x=>Df.Hf k (Df.FW k n21) n x.1.1 x.1.2.1 x.1.2.2.2.1 x.1.2.2.2.2 x.2) k fun n24=>X h))) (X h)))) (X h))) (X h))) (X h)) (X h)) (X h)) (X h)
def f16(k:Nat):Fc Tryz.prog:=⟨16,_,Rb k⟩
def Qm:SS:=⟨[(3,A7),(7,z8),(8,z4),(9,z4)],[(100,w16)]⟩
def Qk(k:Nat):dh:=⟨⟨[(0,z8)],[]⟩,⟨[(0,A7)],[(100,w16)]⟩,1,1,fun x=>Ep k x⟩
theorem Ql(k:Nat):gu Tryz.prog 134 (Qk k):=ok (cx [] 20 nb) Tryz.f134 fun h x=>Q (Q (Q (X h) (Q (B (L Qm (fun n x=>Ep.l3 k n x.1.2.1 x.1.2.2.1 x.1.2.2.2 x.2) k fun n3=>X h)) (X h))) (X h)) (X h)
def f134(k:Nat):Fc Tryz.prog:=⟨134,_,Ql k⟩
def SA(k:Nat):dh:=⟨⟨[(0,z1),(1,z4)],[]⟩,⟨[(0,z4)],[]⟩,2,1,fun x=>I6 k x.1 x.2⟩
theorem SB(k:Nat):gu Tryz.prog 218 (SA k):=ok (cx [] 24 nb) Tryz.f218 fun h x=>X h
def f218(k:Nat):Fc Tryz.prog:=⟨218,_,SB k⟩
def Sg:SS:=⟨[(0,z1),(1,z4),(3,z4),(9,A7),(10,z4),(11,z4),(14,z4),(15,z4),(18,z4),(19,z4)],[(100,Bj)]⟩
def Sd:SS:=⟨[(0,z1),(1,z4),(3,z4),(9,A7),(14,z4),(15,z4)],[(100,Bj)]⟩
def Sb(k:Nat):dh:=⟨⟨[(0,z1),(1,z4),(2,z4),(3,z4)],[]⟩,⟨[(0,A7)],[(100,Bj)]⟩,4,1,fun x=>CY k x.1 x.2.1 x.2.2.1 x.2.2.2⟩
theorem Sc(k:Nat):gu Tryz.prog 194 (Sb k):=ok (cx [f218 k] 43 nb) Tryz.f194 fun h x=>Q (Q (Q (X h) (Q (B (L Sd (fun n x=>CY.l3 k n x.1.1 x.1.2.1 x.1.2.2.1 x.1.2.2.2.2.1 x.1.2.2.2.2.2 x.2) k fun n3=>Q (Q (Q (X h) (B (Q (Q (Q (X h) (Q (B (L Sg (fun n x=>CY.l7 k (CY.l3 k n3) n x.1.1 x.1.2.1 x.1.2.2.1 x.1.2.2.2.2.1 x.1.2.2.2.2.2.1 x.1.2.2.2.2.2.2.1 x.1.2.2.2.2.2.2.2.1 x.1.2.2.2.2.2.2.2.2.1 x.1.2.2.2.2.2.2.2.2.2 x.2) k fun n7=>X h)) (X h))) (X h)) (X h)))) (X h)) (X h))) (X h))) (X h)) (X h)
def f194(k:Nat):Fc Tryz.prog:=⟨194,_,Sc k⟩
def QU(k:Nat):dh:=⟨⟨[(0,z1),(1,z4),(2,z4),(3,z4)],[]⟩,⟨[(0,A7),(1,z4),(2,z2)],[(100,Bj)]⟩,4,3,fun x=>G6 k x.1 x.2.1 x.2.2.1 x.2.2.2⟩
theorem QV(k:Nat):gu Tryz.prog 148 (QU k):=ok (cx [f34 k,f112 k,f194 k] 40 nb) Tryz.f148 fun h x=>X h
def f148(k:Nat):Fc Tryz.prog:=⟨148,_,QV k⟩
def QF:SS:=⟨[(0,z1),(1,z4),(2,z4),(9,z4),(26,z4),(27,z4)],[]⟩
def QD(k:Nat):dh:=⟨⟨[(0,z1),(1,z4),(2,z4)],[]⟩,⟨[(0,z4),(1,z4),(2,z2)],[]⟩,3,3,fun x=>DY k x.1 x.2.1 x.2.2⟩
theorem QE(k:Nat):gu Tryz.prog 140 (QD k):=ok (cx [f34 k] 47 nb) Tryz.f140 fun h x=>Q (Q (Q (Q (X h) (Q (B (L QF (fun n x=>DY.l5 k n x.1 x.2.1 x.2.2.1 x.2.2.2.1 x.2.2.2.2.1 x.2.2.2.2.2) k fun n5=>X h)) (X h))) (X h)) (X h)) (X h)
def f140(k:Nat):Fc Tryz.prog:=⟨140,_,QE k⟩
def R4(k:Nat):dh:=⟨⟨[(0,z4),(1,z4)],[]⟩,⟨[(0,z4)],[]⟩,2,1,fun x=>FE k x.1 x.2⟩
theorem R5(k:Nat):gu Tryz.prog 191 (R4 k):=ok (cx [] 11 nb) Tryz.f191 fun h x=>X h
def f191(k:Nat):Fc Tryz.prog:=⟨191,_,R5 k⟩
def QW(k:Nat):dh:=⟨⟨[(0,z4),(1,z1),(2,z4)],[]⟩,⟨[(0,JC),(1,z4),(2,z2)],[]⟩,3,3,fun x=>G9 k x.1 x.2.1 x.2.2⟩
theorem QX(k:Nat):gu Tryz.prog 149 (QW k):=ok (cx [f61 k,f140 k,f191 k] 66 nb) Tryz.f149 fun h x=>X h
def f149(k:Nat):Fc Tryz.prog:=⟨149,_,QX k⟩
def U4:SS:=⟨[(0,z4),(1,z1),(2,z4),(14,A7),(48,z4),(49,z4)],[(100,w16)]⟩
def U2(k:Nat):dh:=⟨⟨[(0,z4),(1,z1),(2,z4),(3,z4)],[]⟩,⟨[(0,A7),(1,z4),(2,z2)],[(100,w16)]⟩,4,3,fun x=>DF k x.1 x.2.1 x.2.2.1 x.2.2.2⟩
theorem U3(k:Nat):gu Tryz.prog 71 (U2 k):=ok (cx [f34 k,f60 k,f134 k,f148 k,f149 k] 69 nb) Tryz.f71 fun h x=>Q (Q (Q (Q (Q (X h) (Q (B (L U4 (fun n x=>DF.l8 k n x.1.1 x.1.2.1 x.1.2.2.1 x.1.2.2.2.2.1 x.1.2.2.2.2.2 x.2) k fun n8=>X h)) (X h))) (X h)) (X h)) (X h)) (X h)
def f71(k:Nat):Fc Tryz.prog:=⟨71,_,U3 k⟩
def Q9(k:Nat):dh:=⟨⟨[(0,z4)],[]⟩,⟨[(0,z4)],[]⟩,1,1,fun x=>Ie k x⟩
theorem Q_(k:Nat):gu Tryz.prog 167 (Q9 k):=ok (cx [] 11 nb) Tryz.f167 fun h x=>X h
def f167(k:Nat):Fc Tryz.prog:=⟨167,_,Q_ k⟩
def R8:SS:=⟨[],[]⟩
def R9:SS:=⟨[(0,z1),(1,z4),(7,z20),(8,z4)],[]⟩
def R6(k:Nat):dh:=⟨⟨[(0,z1),(1,z4)],[]⟩,⟨[(0,z4),(1,z4),(2,z2)],[]⟩,2,3,fun x=>Cx k x.1 x.2⟩
theorem R7(k:Nat):gu Tryz.prog 192 (R6 k):=ok (cx [] 52 nb) Tryz.f192 fun h x=>Q (Q (Q (Q (T (X h) R8 fun x=>Cx.c12 k) (Q (B (L R9 (fun n x=>Cx.l5 k n x.1 x.2.1 x.2.2.1 x.2.2.2) k fun n5=>X h)) (X h))) (X h)) (X h)) (X h)
def f192(k:Nat):Fc Tryz.prog:=⟨192,_,R7 k⟩
def RL(k:Nat):dh:=⟨⟨[(0,z7)],[(0,Hu),(10,Bj)]⟩,⟨[(0,z4)],[(0,Hu),(10,Bj)]⟩,1,1,fun x=>Gf k x.2.1 x.2.2⟩
theorem RN(k:Nat):gu Tryz.prog 188 (RL k):=ok (cx [f192 k] 35 nb) Tryz.f188 fun h x=>X h
def f188(k:Nat):Fc Tryz.prog:=⟨188,_,RN k⟩
def RO(k:Nat):dh:=⟨⟨[(0,z7),(1,z4)],[(0,Hu),(10,Bj)]⟩,⟨[(0,z4)],[(0,Hu),(10,Bj)]⟩,2,1,fun x=>Ih k x.1.2 x.2.1 x.2.2⟩
theorem RP(k:Nat):gu Tryz.prog 189 (RO k):=ok (cx [] 40 nb) Tryz.f189 fun h x=>X h
def f189(k:Nat):Fc Tryz.prog:=⟨189,_,RP k⟩
def RX:SS:=⟨[(0,z7),(3,z4),(12,z4),(37,A7),(38,z4),(39,z4)],[(0,Iz),(100,Bj),(101,Bj)]⟩
def R3:SS:=⟨[(0,z7),(3,z4),(37,A7),(38,z4),(39,z4)],[(0,Iz),(100,Bj),(101,Bj)]⟩
def RZ:SS:=⟨[(0,z7),(1,z4),(2,z4),(3,z4),(4,z4)],[(0,Hu),(10,Bj)]⟩
def RV(k:Nat):dh:=⟨⟨[(0,z7),(1,z4),(2,z4),(3,z4),(4,z4)],[(0,Hu),(10,Bj)]⟩,⟨[],[(0,(.box y21 (.agg (.cons z1 (.cons z4 (.cons z2 (.cons A7 .nil))))))),(100,Bj)]⟩,5,0,fun x=>De k x.1.2.1 x.1.2.2.1 x.1.2.2.2.1 x.1.2.2.2.2 x.2.1 x.2.2⟩
theorem RY(k:Nat):gu Tryz.prog 190 (RV k):=ok (cx [f189 k,f194 k] 69 nb) Tryz.f190 fun h x=>Q (T (Q (Q (Q (B (L R3 (fun n x=>De.l5 k n x.1.2.1 x.1.2.2.2.1 x.1.2.2.2.2 x.2.1 x.2.2.1 x.2.2.2) k fun n5=>Q (Q (Q (X h) (B (Q (K h RX (fun x=>De.d7 k (De.l5 k n5) x.1.2.1 x.1.2.2.1 x.1.2.2.2.2.1 x.1.2.2.2.2.2 x.2.1 x.2.2.1 x.2.2.2) [[0,1,2,3,4,5,6,7,9,10,11,17,19,8,12,13,14,15,16,18,20,21,22,23,24,25],[0,1,2,3,4,5,6,7,9,10,11,17,19,12,13,14,8,15,16,18,20,21,22,23,24,25]] (O (fun x=>by kernel_rfl) (O (fun x=>by kernel_rfl) (N)))) (X h)))) (X h)) (X h))) (X h)) (X h)) (X h)) RZ fun x=>De.c2 k x.1.2.1 x.1.2.2.1 x.1.2.2.2.1 x.1.2.2.2.2 x.2.1 x.2.2) (X h)
def f190(k:Nat):Fc Tryz.prog:=⟨190,_,RY k⟩
def Qg:SS:=⟨[(0,z1),(7,z5),(9,z4),(10,z4),(12,z4),(13,z4),(14,z4),(15,z4)],[(100,Iz),(101,Bj)]⟩
def Qj:SS:=⟨[(0,z1),(7,z5),(9,z4),(10,z4),(12,z4),(13,z4),(14,z4),(15,z4)],[(100,Iz),(101,Bj)]⟩
def Qi:SS:=⟨[(0,z1),(7,z5),(9,z4),(10,z4),(12,z4)],[(100,Iz),(101,Bj)]⟩
def Qf(k:Nat):dh:=⟨⟨[(0,z1),(1,z4)],[]⟩,⟨[(0,A7),(1,z4),(2,z2)],[(100,Bj)]⟩,2,3,fun x=>B_ k x.1 x.2⟩
theorem Qh(k:Nat):gu Tryz.prog 133 (Qf k):=ok (cx [f34 k,f167 k,f188 k,f189 k,f190 k] 155 nb) Tryz.f133 fun h x=>Q (Q (Q (Q (Q (Q (Q (Q (Q (Q (Q (Q (Q (X h) (B (L Qi (fun n x=>B_.Fj k n x.1.1 x.1.2.2.1 x.1.2.2.2.1 x.1.2.2.2.2 x.2.1 x.2.2) k fun n16=>Q (B (Q (Q (Q (B (L Qj (fun n x=>B_.Cr k (B_.Fj k n16) n x.1.1 x.1.2.2.1 x.1.2.2.2.1 x.1.2.2.2.2.1 x.1.2.2.2.2.2.1 x.1.2.2.2.2.2.2.1 x.1.2.2.2.2.2.2.2 x.2.1 x.2.2) k fun n20=>Q (Q (X h) (B (K h Qg (fun x=>B_.d22 k (B_.Cr k (B_.Fj k n16) n20) x.1.1 x.1.2.2.1 x.1.2.2.2.1 x.1.2.2.2.2.1 x.1.2.2.2.2.2.1 x.1.2.2.2.2.2.2.1 x.1.2.2.2.2.2.2.2 x.2.1 x.2.2) [[0,1,2,3,4,5,6,9,10,11,12,13,7,8,14,15,16,17],[0,1,2,3,4,5,6,9,10,11,12,13,14,15,16,7,8,17]] (O (fun x=>by kernel_rfl) (O (fun x=>by kernel_rfl) (N)))))) (X h))) (X h)) (X h)) (X h))) (X h)))) (X h)) (X h)) (X h)) (X h)) (X h)) (X h)) (X h)) (X h)) (X h)) (X h)) (X h)) (X h)
def f133(k:Nat):Fc Tryz.prog:=⟨133,_,Qh k⟩
def Qp:SS:=⟨[(0,z1),(8,z4),(10,A7),(23,CR),(24,z4),(25,z4)],[(100,w16),(101,Bj)]⟩
def Qn(k:Nat):dh:=⟨⟨[(0,z1),(1,z4)],[]⟩,⟨[(0,A7),(1,z4),(2,z2)],[(100,w16)]⟩,2,3,fun x=>EP k x.1 x.2⟩
theorem Qo(k:Nat):gu Tryz.prog 135 (Qn k):=ok (cx [f34 k,f133 k] 57 nb) Tryz.f135 fun h x=>Q (Q (Q (Q (Q (X h) (Q (B (L Qp (fun n x=>EP.l6 k n x.1.1 x.1.2.1 x.1.2.2.2.2.1 x.1.2.2.2.2.2 x.2.1 x.2.2) k fun n6=>X h)) (X h))) (X h)) (X h)) (X h)) (X h)
def f135(k:Nat):Fc Tryz.prog:=⟨135,_,Qo k⟩
def Qs:SS:=⟨[(10,A7),(11,z4),(12,CR),(13,Ey),(42,(.h 102)),(43,z4),(44,z4)],[(100,w16),(101,w16),(102,Bj)]⟩
def Qq(k:Nat):dh:=⟨⟨[(0,z1),(1,z4)],[]⟩,⟨[(0,A7),(1,z4),(2,z2)],[(100,w16)]⟩,2,3,fun x=>EO k x.1 x.2⟩
theorem Qr(k:Nat):gu Tryz.prog 136 (Qq k):=ok (cx [f34 k,f133 k,f135 k] 82 nb) Tryz.f136 fun h x=>Q (Q (Q (Q (Q (Q (Q (Q (X h) (Q (B (L Qs (fun n x=>EO.l10 k n x.1.2.1 x.1.2.2.2.1 x.1.2.2.2.2.2.1 x.1.2.2.2.2.2.2 x.2.1 x.2.2.1 x.2.2.2) k fun n10=>X h)) (X h))) (X h)) (X h)) (X h)) (X h)) (X h)) (X h)) (X h)
def f136(k:Nat):Fc Tryz.prog:=⟨136,_,Qr k⟩
def Qv:SS:=⟨[(1,z1),(2,z4),(3,z4),(11,z4),(12,A7),(13,z4),(14,z4),(43,z4),(44,z4),(47,z4),(48,z4)],[(100,w16)]⟩
def Qw:SS:=⟨[(1,z1),(2,z4),(3,z4),(11,z4),(12,A7),(43,z4),(44,z4)],[(100,w16)]⟩
def Qt(k:Nat):dh:=⟨⟨[(0,z4),(1,z1),(2,z4),(3,z4)],[]⟩,⟨[(0,A7),(1,z4),(2,z2)],[(100,w16)]⟩,4,3,fun x=>Dl k x.1 x.2.1 x.2.2.1 x.2.2.2⟩
theorem Qu(k:Nat):gu Tryz.prog 137 (Qt k):=ok (cx [f34 k,f108 k,f191 k] 82 nb) Tryz.f137 fun h x=>Q (Q (Q (Q (Q (X h) (Q (B (L Qw (fun n x=>Dl.l6 k n x.1.1 x.1.2.1 x.1.2.2.1 x.1.2.2.2.1 x.1.2.2.2.2.2.1 x.1.2.2.2.2.2.2 x.2) k fun n6=>Q (Q (Q (X h) (B (Q (Q (Q (X h) (Q (B (L Qv (fun n x=>Dl.l10 k (Dl.l6 k n6) n x.1.1 x.1.2.1 x.1.2.2.1 x.1.2.2.2.1 x.1.2.2.2.2.2.1 x.1.2.2.2.2.2.2.1 x.1.2.2.2.2.2.2.2.1 x.1.2.2.2.2.2.2.2.2.1 x.1.2.2.2.2.2.2.2.2.2.1 x.1.2.2.2.2.2.2.2.2.2.2 x.2) k fun n10=>X h)) (X h))) (X h)) (X h)))) (X h)) (X h))) (X h))) (X h)) (X h)) (X h)) (X h)
def f137(k:Nat):Fc Tryz.prog:=⟨137,_,Qu k⟩
def R_(k:Nat):dh:=⟨⟨[(0,z1),(1,z4),(2,z4)],[]⟩,⟨[(0,z4),(1,z4),(2,z2)],[]⟩,3,3,fun x=>G_ k x.1 x.2.1 x.2.2⟩
theorem Sa(k:Nat):gu Tryz.prog 193 (R_ k):=ok (cx [f112 k,f140 k,f181 k] 34 nb) Tryz.f193 fun h x=>X h
def f193(k:Nat):Fc Tryz.prog:=⟨193,_,Sa k⟩
def QI:SS:=⟨[(0,z1),(2,z4),(3,z4),(11,A7),(17,z4),(18,z4),(72,z4),(73,z4)],[(100,Bj)]⟩
def QJ:SS:=⟨[(0,z1),(1,z4),(2,z4),(3,z4),(11,A7)],[(100,Bj)]⟩
def QG(k:Nat):dh:=⟨⟨[(0,z1),(1,z4),(2,z4),(3,z4)],[]⟩,⟨[(0,A7),(1,z4),(2,z2)],[(100,Bj)]⟩,4,3,fun x=>Cb k x.1 x.2.1 x.2.2.1 x.2.2.2⟩
theorem QH(k:Nat):gu Tryz.prog 141 (QG k):=ok (cx [f34 k,f192 k,f193 k,f194 k] 110 nb) Tryz.f141 fun h x=>Q (Q (Q (Q (X h) (B (L QJ (fun n x=>Cb.l4 k n x.1.1 x.1.2.1 x.1.2.2.1 x.1.2.2.2.1 x.2) k fun n4=>Q (B (Q (Q (Q (Q (Q (X h) (Q (D (Q (Q (Q (X h) (Q (B (L QI (fun n x=>Cb.He k (Cb.l4 k n4) n x.1.1 x.1.2.1 x.1.2.2.1 x.1.2.2.2.2.1 x.1.2.2.2.2.2.1 x.1.2.2.2.2.2.2.1 x.1.2.2.2.2.2.2.2 x.2) k fun n15=>X h)) (X h))) (X h)) (X h)) (X h)) (X h))) (X h)) (X h)) (X h)) (X h))) (X h)))) (X h)) (X h)) (X h)
def f141(k:Nat):Fc Tryz.prog:=⟨141,_,QH k⟩
def Qz:SS:=⟨[(3,z4),(11,A7),(12,z4),(38,A7),(39,z4),(40,z4)],[(100,Bj)]⟩
def Qx(k:Nat):dh:=⟨⟨[(0,z1),(1,z4),(2,z4),(3,z4)],[]⟩,⟨[(0,A7),(1,z4),(2,z2)],[(100,Bj)]⟩,4,3,fun x=>Fh k x.1 x.2.1 x.2.2.1 x.2.2.2⟩
theorem Qy(k:Nat):gu Tryz.prog 138 (Qx k):=ok (cx [f34 k,f141 k] 50 nb) Tryz.f138 fun h x=>Q (Q (Q (Q (Q (X h) (Q (B (L Qz (fun n x=>Fh.l7 k n x.1.1 x.1.2.2.1 x.1.2.2.2.2.1 x.1.2.2.2.2.2 x.2) k fun n7=>X h)) (X h))) (X h)) (X h)) (X h)) (X h)
def f138(k:Nat):Fc Tryz.prog:=⟨138,_,Qy k⟩
def QC:SS:=⟨[(0,z17),(6,A7),(13,z8),(14,z4),(15,z4)],[(100,w16)]⟩
def QA(k:Nat):dh:=⟨⟨[(0,z17),(1,z8)],[]⟩,⟨[(0,A7),(1,z2)],[(100,w16)]⟩,2,2,fun x=>Fe k x.1 x.2⟩
theorem QB(k:Nat):gu Tryz.prog 139 (QA k):=ok (cx [f34 k] 34 nb) Tryz.f139 fun h x=>Q (Q (Q (Q (X h) (Q (B (L QC (fun n x=>Fe.l5 k n x.1.1 x.1.2.2.1 x.1.2.2.2.1 x.1.2.2.2.2 x.2) k fun n5=>X h)) (X h))) (X h)) (X h)) (X h)
def f139(k:Nat):Fc Tryz.prog:=⟨139,_,QB k⟩
def UH(k:Nat):dh:=⟨⟨[(0,z4),(1,z4),(2,z1),(3,z4),(4,z17)],[]⟩,⟨[(0,A7),(1,z4),(2,z2)],[(100,w16)]⟩,5,3,fun x=>Ii k x.1 x.2.1 x.2.2.1 x.2.2.2.1 x.2.2.2.2⟩
theorem UI(k:Nat):gu Tryz.prog 59 (UH k):=ok (cx [f71 k,f133 k,f134 k,f135 k,f136 k,f137 k,f138 k,f139 k,f140 k,f141 k] 122 nb) Tryz.f59 fun h x=>X h
def f59(k:Nat):Fc Tryz.prog:=⟨59,_,UI k⟩
def Ri(k:Nat):dh:=⟨⟨[(0,z4),(1,z4),(2,z1),(3,z4),(4,z17)],[]⟩,⟨[(0,A7),(1,z2)],[(100,w16)]⟩,5,2,fun x=>Gy k x.1 x.2.1 x.2.2.1 x.2.2.2.1 x.2.2.2.2⟩
theorem Rj(k:Nat):gu Tryz.prog 17 (Ri k):=ok (cx [f19 k,f34 k,f38 k,f59 k] 66 nb) Tryz.f17 fun h x=>X h
def f17(k:Nat):Fc Tryz.prog:=⟨17,_,Rj k⟩
def RU:SS:=⟨[(0,z17),(1,z17),(5,z4)],[]⟩
def RQ(k:Nat):dh:=⟨⟨[(0,z17),(1,z17)],[]⟩,⟨[(0,z2)],[]⟩,2,1,fun x=>Fp k x.1 x.2⟩
theorem RS(k:Nat):gu Tryz.prog 18 (RQ k):=ok (cx [] 26 nb) Tryz.f18 fun h x=>Q (Q (Q (X h) (Q (B (L RU (fun n x=>Fp.l4 k n x.1 x.2.1 x.2.2) k fun n4=>X h)) (X h))) (X h)) (X h)
def f18(k:Nat):Fc Tryz.prog:=⟨18,_,RS k⟩
def Le(k:Nat):dh:=⟨⟨[(0,z1)],[]⟩,⟨[(0,z2)],[]⟩,1,1,fun x=>J7 k x⟩
theorem Lf(k:Nat):gu Tryz.prog 4 (Le k):=ok (cx [f6 k,f14 k,f15 k,f16 k,f17 k,f18 k,f19 k] 87 nb) Tryz.f4 fun h x=>X h
def f4(k:Nat):Fc Tryz.prog:=⟨4,_,Lf k⟩
end Go.Proofs.YtceehofnlhfndaaGreat
