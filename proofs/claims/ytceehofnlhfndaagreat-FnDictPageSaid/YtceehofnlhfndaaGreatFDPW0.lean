/- walks through the claim's functions -/
import Derived.Test.YtceehofnlhfndaaGreatBase
import Derived.Test.YtceehofnlhfndaaGreatFDPF0
set_option linter.unusedVariables false
set_option maxRecDepth 100000
namespace Go.Proofs.YtceehofnlhfndaaGreat
open Go.Am Go.Am.W Go.Fn
abbrev y0:Ty:= .list 5 (.int .u8)
abbrev z1:CS:= .ro y0
abbrev z2:CS:= .ro .bool
abbrev y3:Ty:= .int .i64
abbrev y4:Ty:= .st (.cons y3 (.cons .str .nil))
abbrev z5:CS:= .ro (.list 87 y4)
abbrev z6:CS:= .ro y3
abbrev z7:CS:= .p 100
abbrev u8:Ty:= .cons y3 .nil
abbrev v9:CS:= .cons z6 .nil
abbrev Da:OS:= .box (.st (.cons y0 (.cons y3 u8))) (.agg (.cons z1 (.cons z6 v9)))
abbrev BK:CS:= .p 0
abbrev z12:CS:= .ro (.list 3 y3)
abbrev I_:CS:= .ro .str
abbrev Bj:CS:= .h 100
abbrev Ck:OS:= .sl 5 (.int .u8)
abbrev JD:CS:= .agg (.cons z6 (.cons I_ .nil))
abbrev z17:CS:= .p 101
abbrev HZ:OS:= .box y4 JD
abbrev Ea:OS:= .sl 87 y4
abbrev Bp:OS:= .sl 3 y3
abbrev y21:Ty:= .st (.cons y3 (.cons y3 (.cons y3 (.cons .str u8))))
abbrev y22:Ty:= .list 97 y21
abbrev CO:OS:= .sl 97 y21
abbrev z24:CS:= .agg (.cons z6 (.cons z6 (.cons z6 (.cons I_ v9))))
abbrev y25:Ty:= .st (.cons y22 (.cons (.list 3 y3) .nil))
abbrev z26:CS:= .ro y22
abbrev z27:CS:= .agg (.cons z26 (.cons (.h 10) .nil))
abbrev EW:OS:= .box y25 z27
abbrev Eg:OS:= .box y21 z24
abbrev Kn:OS:= .aZ y25 z27
abbrev z31:CS:= .h 101
abbrev z32:CS:= .ro (.int .u64)
abbrev z33:CS:= .p 102
abbrev y34:Ty:= .st (.cons y0 (.cons y3 (.cons y22 u8)))
abbrev EK:OS:= .box y34 (.agg (.cons z1 (.cons z6 (.cons (.h 10) v9))))
abbrev Gg:OS:= .box y34 (.agg (.cons z1 (.cons z6 (.cons Bj v9))))
abbrev QV:Ty:= .st (.cons y3 (.cons y3 u8))
abbrev z38:CS:= .ro QV
abbrev y39:Ty:= .st (.cons .ptr (.cons y3 (.cons .bool .nil)))
abbrev v40:CS:= .cons z6 (.cons z2 .nil)
abbrev FD:OS:= .box y39 (.agg (.cons (.p 10) v40))
abbrev z42:CS:= .agg (.cons z26 (.cons (.h 11) .nil))
abbrev FZ:OS:= .box y25 z42
abbrev Ot:Ty:= .st (.cons y3 (.cons .bool (.cons y4 (.cons y4 .nil))))
abbrev FE:OS:= .box QV (.agg (.cons z6 (.cons z6 v9)))
abbrev z46:CS:= .agg (.cons z6 (.cons z2 (.cons JD (.cons JD .nil))))
abbrev M3:OS:= .box Ot z46
abbrev QW:Ty:= .st (.cons y3 (.cons y3 (.cons y3 (.cons y3 (.cons y3 (.cons y3 (.cons y3 (.cons y3 (.cons .bool (.cons y3 (.cons .bool (.cons Ot u8))))))))))))
abbrev z49:CS:= .agg (.cons z6 (.cons z6 (.cons z6 (.cons z6 (.cons z6 (.cons z6 (.cons z6 (.cons z6 (.cons z2 (.cons z6 (.cons z2 (.cons z46 v9))))))))))))
abbrev Eb:OS:= .box QW z49
abbrev QF:OS:= .box y39 (.agg (.cons (.p 105) v40))
abbrev QG:OS:= .box y25 (.agg (.cons z26 (.cons (.h 106) .nil)))
abbrev QH:OS:= .box y25 (.agg (.cons z26 (.cons (.h 105) .nil)))
abbrev QI:OS:= .box y39 (.agg (.cons z33 v40))
abbrev Ou:Ty:= .st (.cons y0 (.cons y3 (.cons .bool (.cons (.list 3 y3) .nil))))
abbrev Ko:OS:= .box Ou (.agg (.cons z1 (.cons z6 (.cons z2 (.cons (.h 10) .nil)))))
abbrev Lu:OS:= .box Ou (.agg (.cons z1 (.cons z6 (.cons z2 (.cons z31 .nil)))))
abbrev QX:Ty:= .st (.cons y3 (.cons y3 (.cons y4 .nil)))
abbrev JC:OS:= .sl 114 QX
abbrev z60:CS:= .ro (.list 114 QX)
def YY(k:Nat):dh:=⟨⟨[(0,z1)],[]⟩,⟨[(0,z2)],[]⟩,1,1,fun x=>NH k x⟩
theorem YZ(k:Nat):gu Tryz.prog 6 (YY k):=ok (cx [] 6 nb) Tryz.f6 fun h x=>X h
def f6(k:Nat):Fc Tryz.prog:=⟨6,_,YZ k⟩
def Vo:SS:=⟨[(0,z5),(1,z5),(5,z6)],[]⟩
def Vm(k:Nat):dh:=⟨⟨[(0,z5),(1,z5)],[]⟩,⟨[(0,z2)],[]⟩,2,1,fun x=>GX k x.1 x.2⟩
theorem Vn(k:Nat):gu Tryz.prog 18 (Vm k):=ok (cx [] 26 nb) Tryz.f18 fun h x=>Q (Q (Q (X h) (Q (B (L Vo (fun n x=>GX.l4 k n x.1 x.2.1 x.2.2) k fun n4=>X h)) (X h))) (X h)) (X h)
def f18(k:Nat):Fc Tryz.prog:=⟨18,_,Vn k⟩
def XQ:SS:=⟨[(0,z1),(3,z6),(4,z6)],[]⟩
def XO(k:Nat):dh:=⟨⟨[(0,z1)],[]⟩,⟨[(0,z7)],[(100,Da)]⟩,1,1,fun x=>Gy k x⟩
theorem XP(k:Nat):gu Tryz.prog 26 (XO k):=ok (cx [] 32 nb) Tryz.f26 fun h x=>Q (Q (Q (X h) (Q (B (L XQ (fun n x=>Gy.l3 k n x.1 x.2.1 x.2.2) k fun n3=>X h)) (X h))) (X h)) (X h)
def f26(k:Nat):Fc Tryz.prog:=⟨26,_,XP k⟩
def Um:SS:=⟨[(3,z6)],[(0,Da)]⟩
def Uk(k:Nat):dh:=⟨⟨[(0,BK)],[(0,Da)]⟩,⟨[(0,z6)],[(0,Da)]⟩,1,1,fun x=>FW k x.2⟩
theorem Ul(k:Nat):gu Tryz.prog 154 (Uk k):=ok (cx [] 58 nb) Tryz.f154 fun h x=>Q (Q (Q (Q (T (X h) Um fun x=>FW.c6 k x.1 x.2) (X h)) (X h)) (X h)) (X h)
def f154(k:Nat):Fc Tryz.prog:=⟨154,_,Ul k⟩
def Zi(k:Nat):dh:=⟨⟨[(0,BK),(1,z6)],[(0,Da)]⟩,⟨[(0,z6)],[(0,Da)]⟩,2,1,fun x=>Ez k x.1.2 x.2⟩
theorem Zj(k:Nat):gu Tryz.prog 76 (Zi k):=ok (cx [f154 k] 37 nb) Tryz.f76 fun h x=>X h
def f76(k:Nat):Fc Tryz.prog:=⟨76,_,Zj k⟩
def YH(k:Nat):dh:=⟨⟨[(0,BK),(1,z6)],[(0,Da)]⟩,⟨[(0,z2)],[(0,Da)]⟩,2,1,fun x=>HV k x.1.2 x.2⟩
theorem YI(k:Nat):gu Tryz.prog 64 (YH k):=ok (cx [f76 k] 9 nb) Tryz.f64 fun h x=>X h
def f64(k:Nat):Fc Tryz.prog:=⟨64,_,YI k⟩
def Zk(k:Nat):dh:=⟨⟨[(0,BK),(1,z12)],[(0,Da)]⟩,⟨[(0,z6)],[(0,Da)]⟩,2,1,fun x=>Ik k x.1.2 x.2⟩
theorem Zl(k:Nat):gu Tryz.prog 78 (Zk k):=ok (cx [f76 k] 12 nb) Tryz.f78 fun h x=>X h
def f78(k:Nat):Fc Tryz.prog:=⟨78,_,Zl k⟩
def YA(k:Nat):dh:=⟨⟨[(0,BK)],[(0,Da)]⟩,⟨[(0,z6)],[(0,Da)]⟩,1,1,fun x=>MO k x.2⟩
theorem YB(k:Nat):gu Tryz.prog 62 (YA k):=ok (cx [f64 k,f78 k] 11 nb) Tryz.f62 fun h x=>X h
def f62(k:Nat):Fc Tryz.prog:=⟨62,_,YB k⟩
def Un(k:Nat):dh:=⟨⟨[(0,BK),(1,(.ro (.list 9 .str)))],[(0,Da)]⟩,⟨[(0,I_)],[(0,Da)]⟩,2,1,fun x=>MM k x.1.2 x.2⟩
theorem Uo(k:Nat):gu Tryz.prog 155 (Un k):=ok (cx [f76 k] 12 nb) Tryz.f155 fun h x=>X h
def f155(k:Nat):Fc Tryz.prog:=⟨155,_,Uo k⟩
def WS:SS:=⟨[(0,BK),(5,Bj),(6,z6),(7,z6)],[(0,Da),(100,Ck)]⟩
def WQ(k:Nat):dh:=⟨⟨[(0,BK),(1,z6)],[(0,Da)]⟩,⟨[(0,Bj)],[(0,Da),(100,Ck)]⟩,2,1,fun x=>Gx k x.1.2 x.2⟩
theorem WR(k:Nat):gu Tryz.prog 219 (WQ k):=ok (cx [f76 k,f154 k] 25 nb) Tryz.f219 fun h x=>Q (Q (Q (Q (X h) (Q (B (L WS (fun n x=>Gx.l4 k n x.1.2.2.1 x.1.2.2.2 x.2.1 x.2.2) k fun n4=>X h)) (X h))) (X h)) (X h)) (X h)
def f219(k:Nat):Fc Tryz.prog:=⟨219,_,WR k⟩
def VH(k:Nat):dh:=⟨⟨[(0,BK),(1,z6)],[(0,Da)]⟩,⟨[(0,I_)],[(0,Da)]⟩,2,1,fun x=>Ll k x.1.2 x.2⟩
theorem VI(k:Nat):gu Tryz.prog 195 (VH k):=ok (cx [f219 k] 9 nb) Tryz.f195 fun h x=>X h
def f195(k:Nat):Fc Tryz.prog:=⟨195,_,VI k⟩
def VJ(k:Nat):dh:=⟨⟨[(0,BK)],[(0,Da)]⟩,⟨[(0,z6)],[(0,Da)]⟩,1,1,fun x=>Lj k x.2⟩
theorem VK(k:Nat):gu Tryz.prog 196 (VJ k):=ok (cx [f76 k,f78 k] 13 nb) Tryz.f196 fun h x=>X h
def f196(k:Nat):Fc Tryz.prog:=⟨196,_,VK k⟩
def TJ(k:Nat):dh:=⟨⟨[(0,BK),(1,z6)],[(0,Da)]⟩,⟨[(0,JD)],[(0,Da)]⟩,2,1,fun x=>Kl k x.1.2 x.2⟩
theorem TK(k:Nat):gu Tryz.prog 142 (TJ k):=ok (cx [f64 k,f76 k,f78 k,f155 k,f195 k,f196 k] 53 nb) Tryz.f142 fun h x=>X h
def f142(k:Nat):Fc Tryz.prog:=⟨142,_,TK k⟩
def TN:SS:=⟨[(4,z7),(5,z17)],[(0,Da),(100,HZ),(101,HZ)]⟩
def TL(k:Nat):dh:=⟨⟨[(0,BK),(1,z6)],[(0,Da)]⟩,⟨[(0,JD)],[(0,Da)]⟩,2,1,fun x=>HY k x.1.2 x.2⟩
theorem TM(k:Nat):gu Tryz.prog 143 (TL k):=ok (cx [f76 k,f78 k,f142 k] 26 nb) Tryz.f143 fun h x=>Q (Q (Q (T (X h) TN fun x=>HY.c7 k x.2.1 x.2.2.1 x.2.2.2) (X h)) (X h)) (X h)
def f143(k:Nat):Fc Tryz.prog:=⟨143,_,TM k⟩
def YE:SS:=⟨[(7,Bj)],[(0,Da),(100,Ea)]⟩
def YG:SS:=⟨[(0,BK),(1,z6),(7,Bj),(8,z6),(9,z6)],[(0,Da),(100,Ea)]⟩
def YF:SS:=⟨[(0,BK),(1,z6),(7,Bj),(8,z6),(9,z6)],[(0,Da),(100,Ea)]⟩
def YC(k:Nat):dh:=⟨⟨[(0,BK),(1,z6),(2,z6)],[(0,Da)]⟩,⟨[(0,Bj)],[(0,Da),(100,Ea)]⟩,3,1,fun x=>Dn k x.1.2.1 x.1.2.2 x.2⟩
theorem YD(k:Nat):gu Tryz.prog 63 (YC k):=ok (cx [f64 k,f76 k,f142 k,f143 k] 50 (fun s=>Nat.beq s 22)) Tryz.f63 fun h x=>Q (Q (Q (Q (Q (T (X h) YE fun x=>Dn.c11 k x.2.1 x.2.2) (X h)) (Q (B (L YF (fun n x=>Dn.l4 k n x.1.2.1 x.1.2.2.2.1 x.1.2.2.2.2 x.2.1 x.2.2) k fun n4=>Q (Q (T (X h) YG fun x=>Dn.c5 k (Dn.l4 k n4) x.1.2.1 x.1.2.2.2.1 x.1.2.2.2.2 x.2.1 x.2.2) (X h)) (X h))) (X h))) (X h)) (X h)) (X h)
def f63(k:Nat):Fc Tryz.prog:=⟨63,_,YD k⟩
def Ws(k:Nat):dh:=⟨⟨[(0,z1)],[]⟩,⟨[(0,z6),(1,Bj),(2,z2)],[(100,Ea)]⟩,1,3,fun x=>MG k x⟩
theorem Wt(k:Nat):gu Tryz.prog 20 (Ws k):=ok (cx [f26 k,f62 k,f63 k,f64 k] 17 nb) Tryz.f20 fun h x=>X h
def f20(k:Nat):Fc Tryz.prog:=⟨20,_,Wt k⟩
def XY(k:Nat):dh:=⟨⟨[(0,z6),(1,z6),(2,z6)],[]⟩,⟨[(0,z2)],[]⟩,3,1,fun x=>Cq k x.1 x.2.1 x.2.2⟩
theorem XZ(k:Nat):gu Tryz.prog 34 (XY k):=ok (cx [] 15 nb) Tryz.f34 fun h x=>X h
def f34(k:Nat):Fc Tryz.prog:=⟨34,_,XZ k⟩
def Yv(k:Nat):dh:=⟨⟨[(0,z6)],[]⟩,⟨[(0,z2)],[]⟩,1,1,fun x=>Iy k x⟩
theorem Yw(k:Nat):gu Tryz.prog 60 (Yv k):=ok (cx [f34 k] 13 nb) Tryz.f60 fun h x=>X h
def f60(k:Nat):Fc Tryz.prog:=⟨60,_,Yw k⟩
def TR(k:Nat):dh:=⟨⟨[(0,z6)],[]⟩,⟨[(0,z2)],[]⟩,1,1,fun x=>GR k x⟩
theorem TS(k:Nat):gu Tryz.prog 145 (TR k):=ok (cx [f34 k] 5 nb) Tryz.f145 fun h x=>X h
def f145(k:Nat):Fc Tryz.prog:=⟨145,_,TS k⟩
def R8:SS:=⟨[(0,z6),(3,z7),(26,z2)],[(100,HZ)]⟩
def R6(k:Nat):dh:=⟨⟨[(0,z6),(1,(.ro y4))],[]⟩,⟨[(0,z2)],[]⟩,2,1,fun x=>FK k x.1 x.2⟩
theorem R7(k:Nat):gu Tryz.prog 101 (R6 k):=ok (cx [f34 k,f145 k] 45 nb) Tryz.f101 fun h x=>Q (Q (X h) (Q (B (Q (D (X h) (Q (D (X h) (Q (T (X h) R8 fun x=>FK.c8 k x.1.1 x.1.2.2 x.2) (X h))) (X h))) (X h))) (X h))) (X h)
def f101(k:Nat):Fc Tryz.prog:=⟨101,_,R7 k⟩
def X4:SS:=⟨[(0,z6),(1,z5),(7,z5),(8,z6),(9,z6)],[]⟩
def X0(k:Nat):dh:=⟨⟨[(0,z6),(1,z5)],[]⟩,⟨[(0,z2)],[]⟩,2,1,fun x=>Gr k x.1 x.2⟩
theorem X3(k:Nat):gu Tryz.prog 38 (X0 k):=ok (cx [f60 k,f101 k] 25 nb) Tryz.f38 fun h x=>Q (Q (X h) (Q (B (L X4 (fun n x=>Gr.l2 k n x.1 x.2.1 x.2.2.1 x.2.2.2.1 x.2.2.2.2) k fun n2=>X h)) (X h))) (X h)
def f38(k:Nat):Fc Tryz.prog:=⟨38,_,X3 k⟩
def Yc:SS:=⟨[(3,Bj),(7,z5),(8,z6),(9,z6)],[(100,Bp)]⟩
def Ya(k:Nat):dh:=⟨⟨[(0,z5)],[]⟩,⟨[(0,Bj)],[(100,Bp)]⟩,1,1,fun x=>Hl k x⟩
theorem Yb(k:Nat):gu Tryz.prog 41 (Ya k):=ok (cx [] 20 nb) Tryz.f41 fun h x=>Q (Q (Q (X h) (Q (B (L Yc (fun n x=>Hl.l3 k n x.1.2.1 x.1.2.2.1 x.1.2.2.2 x.2) k fun n3=>X h)) (X h))) (X h)) (X h)
def f41(k:Nat):Fc Tryz.prog:=⟨41,_,Yb k⟩
def Yf:SS:=⟨[(0,z6),(5,Bj),(11,z6),(12,z6)],[(100,Ck)]⟩
def Yd(k:Nat):dh:=⟨⟨[(0,z6),(1,z6)],[]⟩,⟨[(0,Bj)],[(100,Ck)]⟩,2,1,fun x=>FL k x.1 x.2⟩
theorem Ye(k:Nat):gu Tryz.prog 47 (Yd k):=ok (cx [f34 k] 25 nb) Tryz.f47 fun h x=>Q (Q (Q (Q (X h) (Q (B (L Yf (fun n x=>FL.l5 k n x.1.1 x.1.2.2.1 x.1.2.2.2 x.2) k fun n5=>X h)) (X h))) (X h)) (X h)) (X h)
def f47(k:Nat):Fc Tryz.prog:=⟨47,_,Ye k⟩
def Yz:SS:=⟨[(6,z2)],[]⟩
def Yx(k:Nat):dh:=⟨⟨[(0,z6)],[]⟩,⟨[(0,z6)],[]⟩,1,1,fun x=>Ed k x⟩
theorem Yy(k:Nat):gu Tryz.prog 61 (Yx k):=ok (cx [] 9 nb) Tryz.f61 fun h x=>Q (Q (X h) (Q (B (Q (D (X h) (Q (T (X h) Yz fun x=>Ed.c6 k x) (X h))) (X h))) (X h))) (X h)
def f61(k:Nat):Fc Tryz.prog:=⟨61,_,Yy k⟩
def Sb:SS:=⟨[(1,z6),(5,Bj),(6,z6),(7,z6),(17,z12),(18,z6),(19,z6),(24,z6),(25,z6)],[(100,Ck)]⟩
def Sa:SS:=⟨[(1,z6),(5,Bj),(17,z12),(18,z6),(19,z6)],[(100,Ck)]⟩
def R9(k:Nat):dh:=⟨⟨[(0,z12),(1,z6)],[]⟩,⟨[(0,Bj)],[(100,Ck)]⟩,2,1,fun x=>Ep k x.1 x.2⟩
theorem R_(k:Nat):gu Tryz.prog 102 (R9 k):=ok (cx [] 51 nb) Tryz.f102 fun h x=>Q (Q (Q (X h) (Q (B (L Sa (fun n x=>Ep.l3 k n x.1.1 x.1.2.2.1 x.1.2.2.2.1 x.1.2.2.2.2 x.2) k fun n3=>Q (Q (Q (X h) (B (Q (Q (B (L Sb (fun n x=>Ep.l6 k (Ep.l3 k n3) n x.1.1 x.1.2.2.1 x.1.2.2.2.1 x.1.2.2.2.2.1 x.1.2.2.2.2.2.1 x.1.2.2.2.2.2.2.1 x.1.2.2.2.2.2.2.2.1 x.1.2.2.2.2.2.2.2.2 x.2) k fun n6=>X h)) (X h)) (X h)))) (X h)) (X h))) (X h))) (X h)) (X h)
def f102(k:Nat):Fc Tryz.prog:=⟨102,_,R_ k⟩
def X9:SS:=⟨[(0,z6),(6,Bj),(19,z5),(20,z6),(21,z6)],[(100,Ck)]⟩
def X6:SS:=⟨[(0,z6),(6,Bj),(8,z17),(19,z5),(20,z6),(21,z6)],[(100,Ck),(101,HZ)]⟩
def X7:SS:=⟨[(0,z6),(6,Bj),(8,z17),(19,z5),(20,z6),(21,z6)],[(100,Ck),(101,HZ)]⟩
def X_:SS:=⟨[(0,z6),(6,Bj),(19,z5),(20,z6),(21,z6)],[(100,Ck)]⟩
def X5(k:Nat):dh:=⟨⟨[(0,z6),(1,z5)],[]⟩,⟨[(0,Bj),(1,z2)],[(100,Ck)]⟩,2,2,fun x=>C9 k x.1 x.2⟩
theorem X8(k:Nat):gu Tryz.prog 39 (X5 k):=ok (cx [f38 k,f41 k,f47 k,f61 k,f102 k] 45 nb) Tryz.f39 fun h x=>Q (Q (Q (Q (Q (X h) (Q (B (L X_ (fun n x=>C9.l7 k n x.1.1 x.1.2.2.1 x.1.2.2.2.1 x.1.2.2.2.2 x.2) k fun n7=>Q (Q (Q (T (X h) X9 fun x=>C9.c12 k (C9.l7 k n7) x.1.1 x.1.2.2.1 x.1.2.2.2.1 x.1.2.2.2.2 x.2) (B (Q (Q (D (K h X6 (fun x=>C9.d10 k (C9.l7 k n7) x.1.1 x.1.2.2.2.1 x.1.2.2.2.2.1 x.1.2.2.2.2.2 x.2.1 x.2.2) [[0,1,6,2,3,4,5,7,8,9],[0,1,6,2,3,4,7,5,8,9],[0,1,6,2,3,7,4,5,8,9],[0,1,6,7,2,3,4,5,8,9]] (O (fun x=>by kernel_rfl) (O (fun x=>by kernel_rfl) (O (fun x=>by kernel_rfl) (O (fun x=>by kernel_rfl) (N)))))) (K h X7 (fun x=>C9.d11 k (C9.l7 k n7) x.1.1 x.1.2.2.2.1 x.1.2.2.2.2.1 x.1.2.2.2.2.2 x.2.1 x.2.2) [[0,1,3,2,4,5,6,7],[0,1,3,4,2,5,6,7]] (O (fun x=>by kernel_rfl) (O (fun x=>by kernel_rfl) (N))))) (X h)) (X h)))) (X h)) (X h))) (X h))) (X h)) (X h)) (X h)) (X h)
def f39(k:Nat):Fc Tryz.prog:=⟨39,_,X8 k⟩
def YL:SS:=⟨[(5,Bj),(13,(.ro (.list 63 y22))),(14,z6),(15,z6)],[(100,CO)]⟩
def YJ(k:Nat):dh:=⟨⟨[(0,z6),(1,(.ro (.list 63 y22)))],[]⟩,⟨[(0,Bj)],[(100,CO)]⟩,2,1,fun x=>Gp k x.1 x.2⟩
theorem YK(k:Nat):gu Tryz.prog 65 (YJ k):=ok (cx [] 24 nb) Tryz.f65 fun h x=>Q (Q (Q (X h) (Q (B (L YL (fun n x=>Gp.l3 k n x.1.2.1 x.1.2.2.1 x.1.2.2.2 x.2) k fun n3=>X h)) (X h))) (X h)) (X h)
def f65(k:Nat):Fc Tryz.prog:=⟨65,_,YK k⟩
def YM(k:Nat):dh:=⟨⟨[(0,z6),(1,z6)],[]⟩,⟨[(0,z24)],[]⟩,2,1,fun x=>IC k x.1 x.2⟩
theorem YN(k:Nat):gu Tryz.prog 66 (YM k):=ok (cx [] 8 nb) Tryz.f66 fun h x=>X h
def f66(k:Nat):Fc Tryz.prog:=⟨66,_,YN k⟩
def WE:SS:=⟨[(11,z2)],[]⟩
def WG:SS:=⟨[(1,z2),(5,z6),(6,z2)],[]⟩
def WB(k:Nat):dh:=⟨⟨[(0,z6),(1,z2)],[]⟩,⟨[(0,z2)],[]⟩,2,1,fun x=>Eo k x.1 x.2⟩
theorem WC(k:Nat):gu Tryz.prog 215 (WB k):=ok (cx [] 17 nb) Tryz.f215 fun h x=>Q (Q (X h) (Q (B (Q (T (D (X h) (Q (T (X h) WE fun x=>Eo.c10 k x) (X h))) WG fun x=>Eo.c4 k x.1 x.2.1 x.2.2) (X h))) (X h))) (X h)
def f215(k:Nat):Fc Tryz.prog:=⟨215,_,WC k⟩
def Wu(k:Nat):dh:=⟨⟨[(0,(.ro y21))],[]⟩,⟨[(0,z2)],[]⟩,1,1,fun x=>Mq k x⟩
theorem Wv(k:Nat):gu Tryz.prog 210 (Wu k):=ok (cx [f145 k,f215 k] 109 nb) Tryz.f210 fun h x=>X h
def f210(k:Nat):Fc Tryz.prog:=⟨210,_,Wv k⟩
def Us:SS:=⟨[(0,BK),(1,z6),(2,z6),(7,z7),(8,z6),(9,z6),(43,z6),(44,z6)],[(0,EW),(10,Bp),(100,Eg)]⟩
def LU(F:Int→Int→(Bool×Bc)→(List Int)→Option (Int×Bc×(List Int))):dh:=⟨⟨[(0,BK),(1,z6),(2,z6)],[(0,Kn),(10,Bp)]⟩,⟨[(0,z6)],[(0,EW),(10,Bp)]⟩,3,1,fun x=>F x.1.2.1 x.1.2.2 x.2.1 x.2.2⟩
theorem Ur(k:Nat)(Ip:Int→Int→(Bool×Bc)→(List Int)→Option (Int×Bc×(List Int)))(ZZ:gu Tryz.prog 159 (LU Ip)):gu Tryz.prog 159 (LU (Dx.b k Ip)):=ok (cx [f34 k,⟨159,_,ZZ⟩,f210 k] 104 nb) Tryz.f159 fun h x=>Q (Q (Q (Q (Q (Q (X h) (Q (B (L Us (fun n x=>Dx.l7 k Ip n x.1.2.1 x.1.2.2.1 x.1.2.2.2.2.1 x.1.2.2.2.2.2.1 x.1.2.2.2.2.2.2.1 x.1.2.2.2.2.2.2.2 x.2.1 x.2.2.1 x.2.2.2) k fun n7=>X h)) (X h))) (X h)) (X h)) (X h)) (X h)) (X h)
theorem O_(k:Nat):∀d,gu Tryz.prog 159 (LU (Dx.d k d))
 |0=>Ao (fun _=>rfl)
 |d+1=>let ih:=O_ k d
  Ur k (Dx.d k d) ih
theorem Uq(k:Nat):gu Tryz.prog 159 (LU (Dx k)):=(O_ k k)
def f159(k:Nat):Fc Tryz.prog:=⟨159,_,Uq k⟩
def Zm(k:Nat):dh:=⟨⟨[(0,z26)],[]⟩,⟨[(0,z7),(1,z2)],[(100,(.aZ y25 (.agg (.cons z26 (.cons z31 .nil))))),(101,Bp)]⟩,1,2,fun x=>Jq k x⟩
theorem Zn(k:Nat):gu Tryz.prog 84 (Zm k):=ok (cx [f34 k,f159 k] 35 (fun s=>Nat.beq s 27)) Tryz.f84 fun h x=>X h
def f84(k:Nat):Fc Tryz.prog:=⟨84,_,Zn k⟩
def Sg:SS:=⟨[(3,z32),(4,Bj)],[(100,Ck)]⟩
def Sc(k:Nat):dh:=⟨⟨[(0,z6)],[]⟩,⟨[(0,Bj)],[(100,Ck)]⟩,1,1,fun x=>FJ k x⟩
theorem Sd(k:Nat):gu Tryz.prog 103 (Sc k):=ok (cx [] 24 nb) Tryz.f103 fun h x=>Q (Q (Q (Q (X h) (B (L Sg (fun n x=>FJ.l3 k n x.1.1 x.2) k fun n3=>X h))) (X h)) (X h)) (X h)
def f103(k:Nat):Fc Tryz.prog:=⟨103,_,Sd k⟩
def U4(k:Nat):dh:=⟨⟨[(0,z6)],[]⟩,⟨[(0,z6)],[]⟩,1,1,fun x=>Ml k x⟩
theorem U5(k:Nat):gu Tryz.prog 179 (U4 k):=ok (cx [] 8 nb) Tryz.f179 fun h x=>X h
def f179(k:Nat):Fc Tryz.prog:=⟨179,_,U5 k⟩
def Si(k:Nat):dh:=⟨⟨[(0,z6)],[]⟩,⟨[(0,Bj)],[(100,Ck)]⟩,1,1,fun x=>KU k x⟩
theorem Sj(k:Nat):gu Tryz.prog 104 (Si k):=ok (cx [f103 k,f179 k] 6 nb) Tryz.f104 fun h x=>X h
def f104(k:Nat):Fc Tryz.prog:=⟨104,_,Sj k⟩
def Uu:SS:=⟨[(2,z7)],[(100,Eg)]⟩
def Ut(k:Nat):dh:=⟨⟨[(0,(.ro y21)),(1,z6)],[]⟩,⟨[(0,Bj)],[(100,Ck)]⟩,2,1,fun x=>IA k x.1 x.2⟩
theorem Uv(k:Nat):gu Tryz.prog 160 (Ut k):=ok (cx [f104 k] 27 nb) Tryz.f160 fun h x=>Q (Q (Q (Q (X h) (K h Uu (fun x=>IA.d4 k x.2) [[0,4,1,2,3,5,6,7,8],[0,4,1,2,5,3,6,7,8],[0,4,1,2,5,6,3,7,8],[0,4,1,5,2,3,6,7,8],[0,4,1,5,2,6,3,7,8],[0,4,1,5,6,2,3,7,8],[0,4,5,1,2,3,6,7,8],[0,4,5,1,2,6,3,7,8],[0,4,5,1,6,2,3,7,8],[0,4,5,6,1,2,3,7,8]] (O (fun x=>by kernel_rfl) (O (fun x=>by kernel_rfl) (O (fun x=>by kernel_rfl) (O (fun x=>by kernel_rfl) (O (fun x=>by kernel_rfl) (O (fun x=>by kernel_rfl) (O (fun x=>by kernel_rfl) (O (fun x=>by kernel_rfl) (O (fun x=>by kernel_rfl) (O (fun x=>by kernel_rfl) (N))))))))))))) (X h)) (X h)) (X h)
def f160(k:Nat):Fc Tryz.prog:=⟨160,_,Uv k⟩
def Zw:SS:=⟨[(6,Bj)],[(0,EW),(10,Bp),(100,Ck)]⟩
def Zv:SS:=⟨[(0,BK),(5,z7),(6,z31),(7,z6),(9,z33),(62,z6),(63,z6)],[(0,EW),(10,Bp),(100,Eg),(101,Ck),(102,Eg)]⟩
def Zu:SS:=⟨[(0,BK),(5,z7),(6,z31),(7,z6),(8,z6),(62,z6),(63,z6)],[(0,EW),(10,Bp),(100,Eg),(101,Ck)]⟩
def Zt:SS:=⟨[(0,BK),(1,z6),(5,z7),(6,z31)],[(0,EW),(10,Bp),(100,Eg),(101,Ck)]⟩
def Zp:SS:=⟨[(5,z7)],[(0,EW),(10,Bp),(100,Eg)]⟩
def Zo:SS:=⟨[(0,BK),(1,z6),(5,z7)],[(0,EW),(10,Bp),(100,Eg)]⟩
def Zx:SS:=⟨[(0,BK),(1,z6),(5,z7),(6,z31),(19,z6),(20,z2)],[(0,EW),(10,Bp),(100,Eg),(101,Ck)]⟩
def LX(F:Int→(Bool×Bc)→(List Int)→Option (Unit×Bc×(List Int)×(List Int))):dh:=⟨⟨[(0,BK),(1,z6)],[(0,Kn),(10,Bp)]⟩,⟨[(0,Bj)],[(0,EW),(10,Bp),(100,Ck)]⟩,2,1,fun x=>F x.1.2 x.2.1 x.2.2⟩
theorem Zr(k:Nat)(Du:Int→(Bool×Bc)→(List Int)→Option (Unit×Bc×(List Int)×(List Int)))(Z6:gu Tryz.prog 85 (LX Du)):gu Tryz.prog 85 (LX (Br.b k Du)):=ok (cx [⟨85,_,Z6⟩,f103 k,f104 k,f160 k] 102 nb) Tryz.f85 fun h x=>Q (Q (Q (Q (T (Q (Q (Q (Q (T (X h) Zw fun x=>Br.Ji k x.2.1 x.2.2.1 x.2.2.2) (X h)) (Q (B (L Zu (fun n x=>Br.Ch k Du n x.1.2.2.2.1 x.1.2.2.2.2.1 x.1.2.2.2.2.2.1 x.1.2.2.2.2.2.2 x.2.1 x.2.2.1 x.2.2.2.1 x.2.2.2.2) k fun n16=>Q (Q (Q (X h) (B (Q (Q (T (X h) Zv fun x=>Br.c20 k Du (Br.Ch k Du n16) x.1.2.2.2.1 x.1.2.2.2.2.2.1 x.1.2.2.2.2.2.2 x.2.1 x.2.2.1 x.2.2.2.1 x.2.2.2.2.1 x.2.2.2.2.2) (X h)) (X h)))) (X h)) (X h))) (X h))) (X h)) (X h)) Zt fun x=>Br.c13 k Du x.1.2.1 x.2.1 x.2.2.1 x.2.2.2.1 x.2.2.2.2) (Q (B (Q (T (D (X h) (Q (D (Q (X h) (K h Zp (fun x=>Br.d8 k x.2.1 x.2.2.1 x.2.2.2) [[0,4,1,2,3,5,6,7],[0,4,1,2,5,3,6,7],[0,4,5,1,2,3,6,7]] (O (fun x=>by kernel_rfl) (O (fun x=>by kernel_rfl) (O (fun x=>by kernel_rfl) (N)))))) (Q (D (Q (D (X h) (K h Zo (fun x=>Br.d12 k Du x.1.2.1 x.2.1 x.2.2.1 x.2.2.2) [[0,5,1,2,3,4,6,7,8,9],[0,5,1,2,3,6,4,7,8,9],[0,5,1,2,3,6,7,4,8,9],[0,5,1,2,6,3,4,7,8,9],[0,5,1,2,6,3,7,4,8,9],[0,5,1,2,6,7,3,4,8,9],[0,5,6,1,2,3,4,7,8,9],[0,5,6,1,2,3,7,4,8,9],[0,5,6,1,2,7,3,4,8,9],[0,5,6,7,1,2,3,4,8,9]] (O (fun x=>by kernel_rfl) (O (fun x=>by kernel_rfl) (O (fun x=>by kernel_rfl) (O (fun x=>by kernel_rfl) (O (fun x=>by kernel_rfl) (O (fun x=>by kernel_rfl) (O (fun x=>by kernel_rfl) (O (fun x=>by kernel_rfl) (O (fun x=>by kernel_rfl) (O (fun x=>by kernel_rfl) (N))))))))))))) (X h)) (X h)) (X h))) (X h))) Zx fun x=>Br.c6 k Du x.1.2.1 x.1.2.2.2.2.1 x.1.2.2.2.2.2 x.2.1 x.2.2.1 x.2.2.2.1 x.2.2.2.2) (X h))) (X h))) (X h)) (X h)) (X h)
theorem Ph(k:Nat):∀d,gu Tryz.prog 85 (LX (Br.d k d))
 |0=>Ao (fun _=>rfl)
 |d+1=>let ih:=Ph k d
  Zr k (Br.d k d) ih
theorem Zq(k:Nat):gu Tryz.prog 85 (LX (Br k)):=(Ph k k)
def f85(k:Nat):Fc Tryz.prog:=⟨85,_,Zq k⟩
def XR(k:Nat):dh:=⟨⟨[(0,z26)],[]⟩,⟨[(0,Bj),(1,z2)],[(100,Ck)]⟩,1,2,fun x=>Jp k x⟩
theorem XT(k:Nat):gu Tryz.prog 28 (XR k):=ok (cx [f84 k,f85 k] 15 nb) Tryz.f28 fun h x=>X h
def f28(k:Nat):Fc Tryz.prog:=⟨28,_,XT k⟩
def Xl:SS:=⟨[(0,z6),(4,z6)],[]⟩
def Xk:SS:=⟨[(0,z6),(4,z6)],[]⟩
def Xi(k:Nat):dh:=⟨⟨[(0,z6)],[]⟩,⟨[(0,z6)],[]⟩,1,1,fun x=>EP k x⟩
theorem Xj(k:Nat):gu Tryz.prog 227 (Xi k):=ok (cx [] 16 nb) Tryz.f227 fun h x=>Q (Q (X h) (Q (B (L Xk (fun n x=>EP.l2 k n x.1 x.2) k fun n2=>Q (Q (Q (T (X h) Xl fun x=>EP.c7 k (EP.l2 k n2) x.1 x.2) (X h)) (X h)) (X h))) (X h))) (X h)
def f227(k:Nat):Fc Tryz.prog:=⟨227,_,Xj k⟩
def WX:SS:=⟨[(1,Bj),(4,z6)],[(100,Bp)]⟩
def WV(k:Nat):dh:=⟨⟨[],[]⟩,⟨[(0,Bj)],[(100,Bp)]⟩,0,1,fun x=>Hg k⟩
theorem WW(k:Nat):gu Tryz.prog 220 (WV k):=ok (cx [f227 k] 14 nb) Tryz.f220 fun h x=>Q (Q (Q (X h) (Q (B (L WX (fun n x=>Hg.l3 k n x.1.2 x.2) k fun n3=>X h)) (X h))) (X h)) (X h)
def f220(k:Nat):Fc Tryz.prog:=⟨220,_,WW k⟩
def VN:SS:=⟨[(0,z6),(5,Bj),(14,z1),(15,z6),(16,z6)],[(100,Bp)]⟩
def VL(k:Nat):dh:=⟨⟨[(0,z6),(1,z1)],[]⟩,⟨[(0,z6)],[]⟩,2,1,fun x=>Hf k x.1 x.2⟩
theorem VM(k:Nat):gu Tryz.prog 197 (VL k):=ok (cx [f34 k,f220 k] 34 nb) Tryz.f197 fun h x=>Q (Q (Q (Q (Q (X h) (Q (B (L VN (fun n x=>Hf.l6 k n x.1.1 x.1.2.2.1 x.1.2.2.2.1 x.1.2.2.2.2 x.2) k fun n6=>X h)) (X h))) (X h)) (X h)) (X h)) (X h)
def f197(k:Nat):Fc Tryz.prog:=⟨197,_,VM k⟩
def TP(k:Nat):dh:=⟨⟨[(0,z1)],[]⟩,⟨[(0,z6)],[]⟩,1,1,fun x=>Jo k x⟩
theorem TQ(k:Nat):gu Tryz.prog 144 (TP k):=ok (cx [f197 k] 5 nb) Tryz.f144 fun h x=>X h
def f144(k:Nat):Fc Tryz.prog:=⟨144,_,TQ k⟩
def YR:SS:=⟨[(1,z1),(3,z26),(9,Bj)],[(100,(.sl 63 y22))]⟩
def YQ:SS:=⟨[(1,z1),(3,z26),(9,Bj),(10,z6)],[(100,(.sl 63 y22))]⟩
def YO(k:Nat):dh:=⟨⟨[(0,z6),(1,z1),(2,z2),(3,z26)],[]⟩,⟨[(0,Bj)],[(100,Ck)]⟩,4,1,fun x=>E_ k x.1 x.2.1 x.2.2.1 x.2.2.2⟩
theorem YP(k:Nat):gu Tryz.prog 67 (YO k):=ok (cx [f28 k,f65 k,f66 k,f144 k,f145 k] 51 nb) Tryz.f67 fun h x=>Q (Q (Q (T (X h) YR fun x=>E_.c7 k x.1.1 x.1.2.1 x.2) (Q (D (Q (Q (T (X h) YQ fun x=>E_.c6 k x.1.1 x.1.2.1 x.1.2.2.2 x.2) (X h)) (X h)) (X h)) (X h))) (X h)) (X h)
def f67(k:Nat):Fc Tryz.prog:=⟨67,_,YP k⟩
def WT(k:Nat):dh:=⟨⟨[(0,z6),(1,z5),(2,z2)],[]⟩,⟨[(0,Bj),(1,z2)],[(100,Ck)]⟩,3,2,fun x=>KT k x.1 x.2.1 x.2.2⟩
theorem WU(k:Nat):gu Tryz.prog 21 (WT k):=ok (cx [f39 k,f65 k,f66 k,f67 k] 31 nb) Tryz.f21 fun h x=>X h
def f21(k:Nat):Fc Tryz.prog:=⟨21,_,WU k⟩
def Su:SS:=⟨[(4,z2)],[]⟩
def Sq(k:Nat):dh:=⟨⟨[(0,z6)],[]⟩,⟨[(0,z2)],[]⟩,1,1,fun x=>Fg k x⟩
theorem Sr(k:Nat):gu Tryz.prog 114 (Sq k):=ok (cx [] 10 nb) Tryz.f114 fun h x=>Q (Q (X h) (Q (B (Q (T (X h) Su fun x=>Fg.c7 k x) (X h))) (X h))) (X h)
def f114(k:Nat):Fc Tryz.prog:=⟨114,_,Sr k⟩
def SL(k:Nat):dh:=⟨⟨[(0,z6),(1,z6),(2,z6)],[]⟩,⟨[(0,z2)],[]⟩,3,1,fun x=>CJ k x.1 x.2.1 x.2.2⟩
theorem SN(k:Nat):gu Tryz.prog 123 (SL k):=ok (cx [] 15 nb) Tryz.f123 fun h x=>X h
def f123(k:Nat):Fc Tryz.prog:=⟨123,_,SN k⟩
def Vb(k:Nat):dh:=⟨⟨[(0,z6)],[]⟩,⟨[(0,z2)],[]⟩,1,1,fun x=>Jy k x⟩
theorem Vd(k:Nat):gu Tryz.prog 183 (Vb k):=ok (cx [f123 k] 5 nb) Tryz.f183 fun h x=>X h
def f183(k:Nat):Fc Tryz.prog:=⟨183,_,Vd k⟩
def Sy:SS:=⟨[(3,z7),(5,z6),(26,z2)],[(100,HZ)]⟩
def Sv(k:Nat):dh:=⟨⟨[(0,z6),(1,(.ro y4))],[]⟩,⟨[(0,z2)],[]⟩,2,1,fun x=>FV k x.1 x.2⟩
theorem Sw(k:Nat):gu Tryz.prog 116 (Sv k):=ok (cx [f123 k,f183 k] 43 nb) Tryz.f116 fun h x=>Q (Q (X h) (Q (B (Q (D (X h) (Q (D (X h) (Q (T (X h) Sy fun x=>FV.c8 k x.1.2.1 x.1.2.2 x.2) (X h))) (X h))) (X h))) (X h))) (X h)
def f116(k:Nat):Fc Tryz.prog:=⟨116,_,Sw k⟩
def Yi:SS:=⟨[(0,z6),(1,z5),(5,z6)],[]⟩
def Yg(k:Nat):dh:=⟨⟨[(0,z6),(1,z5)],[]⟩,⟨[(0,z2)],[]⟩,2,1,fun x=>Gz k x.1 x.2⟩
theorem Yh(k:Nat):gu Tryz.prog 49 (Yg k):=ok (cx [f114 k,f116 k] 27 nb) Tryz.f49 fun h x=>Q (Q (Q (X h) (Q (B (L Yi (fun n x=>Gz.l4 k n x.1 x.2.1 x.2.2) k fun n4=>X h)) (X h))) (X h)) (X h)
def f49(k:Nat):Fc Tryz.prog:=⟨49,_,Yh k⟩
def Yq:SS:=⟨[(0,z6),(1,z6),(5,Bj),(6,z6)],[(100,Ck)]⟩
def Yo(k:Nat):dh:=⟨⟨[(0,z6),(1,z6)],[]⟩,⟨[(0,Bj)],[(100,Ck)]⟩,2,1,fun x=>Fz k x.1 x.2⟩
theorem Yp(k:Nat):gu Tryz.prog 53 (Yo k):=ok (cx [f123 k] 26 nb) Tryz.f53 fun h x=>Q (Q (Q (X h) (Q (B (L Yq (fun n x=>Fz.l3 k n x.1.1 x.1.2.1 x.1.2.2.2 x.2) k fun n3=>X h)) (X h))) (X h)) (X h)
def f53(k:Nat):Fc Tryz.prog:=⟨53,_,Yp k⟩
def SI(k:Nat):dh:=⟨⟨[(0,z6),(1,z6)],[]⟩,⟨[(0,z6)],[]⟩,2,1,fun x=>IU k x.1 x.2⟩
theorem SK(k:Nat):gu Tryz.prog 121 (SI k):=ok (cx [f123 k] 18 nb) Tryz.f121 fun h x=>X h
def f121(k:Nat):Fc Tryz.prog:=⟨121,_,SK k⟩
def SC:SS:=⟨[(0,z12),(1,z6),(7,Bj),(8,z6),(9,z6)],[(100,Ck)]⟩
def SB:SS:=⟨[(0,z12),(1,z6),(7,Bj),(8,z6),(9,z6)],[(100,Ck)]⟩
def SE:SS:=⟨[(0,z12),(1,z6),(7,Bj),(8,z6)],[(100,Ck)]⟩
def Sz(k:Nat):dh:=⟨⟨[(0,z12),(1,z6)],[]⟩,⟨[(0,Bj),(1,z2)],[(100,Ck)]⟩,2,2,fun x=>Dl k x.1 x.2⟩
theorem SA(k:Nat):gu Tryz.prog 117 (Sz k):=ok (cx [f121 k] 73 nb) Tryz.f117 fun h x=>Q (Q (Q (Q (Q (X h) (Q (B (L SE (fun n x=>Dl.l6 k n x.1.1 x.1.2.1 x.1.2.2.2 x.2) k fun n6=>Q (Q (X h) (B (Q (Q (B (L SB (fun n x=>Dl.DI k (Dl.l6 k n6) n x.1.1 x.1.2.1 x.1.2.2.2.1 x.1.2.2.2.2 x.2) k fun n11=>Q (Q (T (X h) SC fun x=>Dl.c12 k (Dl.DI k (Dl.l6 k n6) n11) x.1.1 x.1.2.1 x.1.2.2.2.1 x.1.2.2.2.2 x.2) (X h)) (X h))) (X h)) (X h)))) (X h))) (X h))) (X h)) (X h)) (X h)) (X h)
def f117(k:Nat):Fc Tryz.prog:=⟨117,_,SA k⟩
def Yn:SS:=⟨[(0,z6),(1,z5),(6,Bj),(7,z31),(8,z6)],[(100,Ck),(101,Bp)]⟩
def Ym:SS:=⟨[(0,z6),(1,z5),(6,Bj),(7,z31),(8,z6)],[(100,Ck),(101,Bp)]⟩
def Yk(k:Nat):dh:=⟨⟨[(0,z6),(1,z5)],[]⟩,⟨[(0,Bj),(1,z2)],[(100,Ck)]⟩,2,2,fun x=>Dm k x.1 x.2⟩
theorem Yl(k:Nat):gu Tryz.prog 50 (Yk k):=ok (cx [f49 k,f53 k,f117 k] 67 nb) Tryz.f50 fun h x=>Q (Q (Q (Q (Q (X h) (Q (B (L Ym (fun n x=>Dm.l6 k n x.1.1 x.1.2.1 x.1.2.2.2.2 x.2.1 x.2.2) k fun n6=>Q (Q (T (X h) Yn fun x=>Dm.c7 k (Dm.l6 k n6) x.1.1 x.1.2.1 x.1.2.2.2.2 x.2.1 x.2.2) (X h)) (X h))) (X h))) (X h)) (X h)) (X h)) (X h)
def f50(k:Nat):Fc Tryz.prog:=⟨50,_,Yl k⟩
def Xt:SS:=⟨[(4,z2)],[]⟩
def Xq(k:Nat):dh:=⟨⟨[(0,z6)],[]⟩,⟨[(0,z2)],[]⟩,1,1,fun x=>FB k x⟩
theorem Xr(k:Nat):gu Tryz.prog 229 (Xq k):=ok (cx [] 12 nb) Tryz.f229 fun h x=>Q (Q (X h) (Q (B (Q (T (X h) Xt fun x=>FB.c9 k x) (X h))) (X h))) (X h)
def f229(k:Nat):Fc Tryz.prog:=⟨229,_,Xr k⟩
def Xg(k:Nat):dh:=⟨⟨[(0,z6)],[]⟩,⟨[(0,z2)],[]⟩,1,1,fun x=>Lm k x⟩
theorem Xh(k:Nat):gu Tryz.prog 226 (Xg k):=ok (cx [f229 k] 13 nb) Tryz.f226 fun h x=>X h
def f226(k:Nat):Fc Tryz.prog:=⟨226,_,Xh k⟩
def Wy:SS:=⟨[(1,z7),(4,z6),(5,z2)],[(100,Eg)]⟩
def Ww(k:Nat):dh:=⟨⟨[(0,(.ro y21))],[]⟩,⟨[(0,z2)],[]⟩,1,1,fun x=>Il k x⟩
theorem Wx(k:Nat):gu Tryz.prog 213 (Ww k):=ok (cx [f183 k,f226 k] 107 nb) Tryz.f213 fun h x=>Q (Q (X h) (Q (B (Q (T (X h) Wy fun x=>Il.c4 k x.1.2.1 x.1.2.2 x.2) (X h))) (X h))) (X h)
def f213(k:Nat):Fc Tryz.prog:=⟨213,_,Wx k⟩
def Uy:SS:=⟨[(0,z26),(2,z6),(7,z7),(8,z6),(9,z6),(10,z6)],[(100,Eg)]⟩
def LW(F:(List AR)→Int→Int→Option Int):dh:=⟨⟨[(0,z26),(1,z6),(2,z6)],[]⟩,⟨[(0,z6)],[]⟩,3,1,fun x=>F x.1 x.2.1 x.2.2⟩
theorem Ux(k:Nat)(F3:(List AR)→Int→Int→Option Int)(Z0:gu Tryz.prog 165 (LW F3)):gu Tryz.prog 165 (LW (CV.b k F3)):=ok (cx [⟨165,_,Z0⟩,f213 k] 89 nb) Tryz.f165 fun h x=>Q (Q (Q (Q (Q (Q (X h) (Q (B (L Uy (fun n x=>CV.l7 k F3 n x.1.1 x.1.2.1 x.1.2.2.2.1 x.1.2.2.2.2.1 x.1.2.2.2.2.2 x.2) k fun n7=>X h)) (X h))) (X h)) (X h)) (X h)) (X h)) (X h)
theorem Pb(k:Nat):∀d,gu Tryz.prog 165 (LW (CV.d k d))
 |0=>Ao (fun _=>rfl)
 |d+1=>let ih:=Pb k d
  Ux k (CV.d k d) ih
theorem Uw(k:Nat):gu Tryz.prog 165 (LW (CV k)):=(Pb k k)
def f165(k:Nat):Fc Tryz.prog:=⟨165,_,Uw k⟩
def Zy(k:Nat):dh:=⟨⟨[(0,z26)],[]⟩,⟨[(0,z2)],[]⟩,1,1,fun x=>IX k x⟩
theorem Zz(k:Nat):gu Tryz.prog 90 (Zy k):=ok (cx [f123 k,f165 k] 26 nb) Tryz.f90 fun h x=>X h
def f90(k:Nat):Fc Tryz.prog:=⟨90,_,Zz k⟩
def Ve(k:Nat):dh:=⟨⟨[(0,z6),(1,z6)],[]⟩,⟨[(0,z6)],[]⟩,2,1,fun x=>Gf k x.1 x.2⟩
theorem Vf(k:Nat):gu Tryz.prog 184 (Ve k):=ok (cx [] 16 nb) Tryz.f184 fun h x=>X h
def f184(k:Nat):Fc Tryz.prog:=⟨184,_,Vf k⟩
def SH:SS:=⟨[(0,z6),(3,Bj)],[(100,Ck)]⟩
def SF(k:Nat):dh:=⟨⟨[(0,z6)],[]⟩,⟨[(0,Bj)],[(100,Ck)]⟩,1,1,fun x=>Gb k x⟩
theorem SG(k:Nat):gu Tryz.prog 120 (SF k):=ok (cx [f184 k] 22 nb) Tryz.f120 fun h x=>Q (Q (Q (X h) (B (L SH (fun n x=>Gb.l2 k n x.1.1 x.2) k fun n2=>X h))) (X h)) (X h)
def f120(k:Nat):Fc Tryz.prog:=⟨120,_,SG k⟩
def Vg(k:Nat):dh:=⟨⟨[(0,z6)],[]⟩,⟨[(0,z6)],[]⟩,1,1,fun x=>MJ k x⟩
theorem Vh(k:Nat):gu Tryz.prog 185 (Vg k):=ok (cx [] 10 nb) Tryz.f185 fun h x=>X h
def f185(k:Nat):Fc Tryz.prog:=⟨185,_,Vh k⟩
def SQ(k:Nat):dh:=⟨⟨[(0,z6)],[]⟩,⟨[(0,Bj)],[(100,Ck)]⟩,1,1,fun x=>Lf k x⟩
theorem SV(k:Nat):gu Tryz.prog 124 (SQ k):=ok (cx [f120 k,f185 k] 6 nb) Tryz.f124 fun h x=>X h
def f124(k:Nat):Fc Tryz.prog:=⟨124,_,SV k⟩
def ZI:SS:=⟨[(7,z6),(8,Bj)],[(100,Ck)]⟩
def ZA:SS:=⟨[(6,z7),(7,z6)],[(100,Eg)]⟩
def ZF:SS:=⟨[(0,z26),(6,z7),(7,z6),(8,z31),(9,z6)],[(100,Eg),(101,Ck)]⟩
def ZE:SS:=⟨[(0,z26),(6,z7),(7,z6),(8,z31)],[(100,Eg),(101,Ck)]⟩
def ZH:SS:=⟨[(0,z26),(6,z7),(7,z6),(8,z31),(13,z6),(14,z33)],[(100,Eg),(101,Ck),(102,Eg)]⟩
def ZG:SS:=⟨[(0,z26),(6,z7),(7,z6),(8,z31),(12,z6),(13,z6)],[(100,Eg),(101,Ck)]⟩
def ZJ:SS:=⟨[(0,z26),(6,z7),(7,z6),(8,z31),(25,z6),(26,z2)],[(100,Eg),(101,Ck)]⟩
def LY(F:(List AR)→Int→Option ((Unit×Int)×(List Int))):dh:=⟨⟨[(0,z26),(1,z6)],[]⟩,⟨[(0,Bj),(1,z6)],[(100,Ck)]⟩,2,2,fun x=>F x.1 x.2⟩
theorem ZC(k:Nat)(Dp:(List AR)→Int→Option ((Unit×Int)×(List Int)))(Z7:gu Tryz.prog 91 (LY Dp)):gu Tryz.prog 91 (LY (BA.b k Dp)):=ok (cx [⟨91,_,Z7⟩,f120 k,f124 k] 144 nb) Tryz.f91 fun h x=>Q (Q (Q (Q (Q (T (X h) ZI fun x=>BA.JL k x.1.1 x.2) (Q (B (Q (T (D (X h) (Q (D (Q (X h) (K h ZA (fun x=>BA.d9 k x.1.2 x.2) [[0,4,8,1,2,3,5,6,7,9,10],[0,4,8,1,2,5,3,6,7,9,10],[0,4,8,1,2,5,6,3,7,9,10],[0,4,8,5,1,2,3,6,7,9,10],[0,4,8,5,1,2,6,3,7,9,10],[0,4,8,5,6,1,2,3,7,9,10]] (O (fun x=>by kernel_rfl) (O (fun x=>by kernel_rfl) (O (fun x=>by kernel_rfl) (O (fun x=>by kernel_rfl) (O (fun x=>by kernel_rfl) (O (fun x=>by kernel_rfl) (N))))))))) (Q (D (Q (T (Q (B (L ZF (fun n x=>BA.Ch k Dp n x.1.1 x.1.2.2.1 x.1.2.2.2.2 x.2.1 x.2.2) k fun n16=>X h)) (X h)) ZE fun x=>BA.c15 k Dp x.1.1 x.1.2.2.1 x.2.1 x.2.2) (X h)) (Q (D (Q (Q (X h) (Q (B (L ZG (fun n x=>BA.Ee k Dp n x.1.1 x.1.2.2.1 x.1.2.2.2.2.1 x.1.2.2.2.2.2 x.2.1 x.2.2) k fun n24=>Q (Q (X h) (B (Q (Q (T (X h) ZH fun x=>BA.c31 k Dp (BA.Ee k Dp n24) x.1.1 x.1.2.2.1 x.1.2.2.2.2.1 x.2.1 x.2.2.1 x.2.2.2) (X h)) (X h)))) (X h))) (X h))) (X h)) (X h)) (X h))) (X h))) (X h))) ZJ fun x=>BA.c7 k Dp x.1.1 x.1.2.2.1 x.1.2.2.2.2.1 x.1.2.2.2.2.2 x.2.1 x.2.2) (X h))) (X h))) (X h)) (X h)) (X h)) (X h)
theorem Pj(k:Nat):∀d,gu Tryz.prog 91 (LY (BA.d k d))
 |0=>Ao (fun _=>rfl)
 |d+1=>let ih:=Pj k d
  ZC k (BA.d k d) ih
theorem ZB(k:Nat):gu Tryz.prog 91 (LY (BA k)):=(Pj k k)
def f91(k:Nat):Fc Tryz.prog:=⟨91,_,ZB k⟩
def XU(k:Nat):dh:=⟨⟨[(0,z26)],[]⟩,⟨[(0,Bj),(1,z2)],[(100,Ck)]⟩,1,2,fun x=>Le k x⟩
theorem XV(k:Nat):gu Tryz.prog 30 (XU k):=ok (cx [f90 k,f91 k] 16 nb) Tryz.f30 fun h x=>X h
def f30(k:Nat):Fc Tryz.prog:=⟨30,_,XV k⟩
def YW(k:Nat):dh:=⟨⟨[(0,z6),(1,z6)],[]⟩,⟨[(0,z24)],[]⟩,2,1,fun x=>IY k x.1 x.2⟩
theorem YX(k:Nat):gu Tryz.prog 69 (YW k):=ok (cx [] 8 nb) Tryz.f69 fun h x=>X h
def f69(k:Nat):Fc Tryz.prog:=⟨69,_,YX k⟩
def W_:SS:=⟨[(0,z6),(3,z6)],[]⟩
def W9:SS:=⟨[(0,z6),(3,z6)],[]⟩
def WY(k:Nat):dh:=⟨⟨[(0,z6)],[]⟩,⟨[(0,z6)],[]⟩,1,1,fun x=>ET k x⟩
theorem WZ(k:Nat):gu Tryz.prog 221 (WY k):=ok (cx [] 18 nb) Tryz.f221 fun h x=>Q (Q (X h) (Q (B (L W9 (fun n x=>ET.l2 k n x.1 x.2) k fun n2=>Q (Q (T (X h) W_ fun x=>ET.c3 k (ET.l2 k n2) x.1 x.2) (X h)) (X h))) (X h))) (X h)
def f221(k:Nat):Fc Tryz.prog:=⟨221,_,WZ k⟩
def VQ:SS:=⟨[(1,z1),(5,z6),(6,z6)],[]⟩
def VO(k:Nat):dh:=⟨⟨[(0,z6),(1,z1)],[]⟩,⟨[(0,z6)],[]⟩,2,1,fun x=>Hu k x.1 x.2⟩
theorem VP(k:Nat):gu Tryz.prog 198 (VO k):=ok (cx [f123 k,f221 k] 32 nb) Tryz.f198 fun h x=>Q (Q (Q (Q (X h) (Q (B (L VQ (fun n x=>Hu.l5 k n x.1 x.2.1 x.2.2) k fun n5=>X h)) (X h))) (X h)) (X h)) (X h)
def f198(k:Nat):Fc Tryz.prog:=⟨198,_,VP k⟩
def TU(k:Nat):dh:=⟨⟨[(0,z1)],[]⟩,⟨[(0,z6)],[]⟩,1,1,fun x=>Hw k x⟩
theorem TV(k:Nat):gu Tryz.prog 146 (TU k):=ok (cx [f198 k] 5 nb) Tryz.f146 fun h x=>X h
def f146(k:Nat):Fc Tryz.prog:=⟨146,_,TV k⟩
def YV:SS:=⟨[(1,z1),(3,z26),(10,Bj)],[(100,CO)]⟩
def YU:SS:=⟨[(1,z1),(3,z26),(10,Bj),(11,z6)],[(100,CO)]⟩
def YS(k:Nat):dh:=⟨⟨[(0,z6),(1,z1),(2,z2),(3,z26)],[]⟩,⟨[(0,Bj),(1,z2)],[(100,Ck)]⟩,4,2,fun x=>Ff k x.1 x.2.1 x.2.2.1 x.2.2.2⟩
theorem YT(k:Nat):gu Tryz.prog 68 (YS k):=ok (cx [f30 k,f69 k,f146 k] 52 nb) Tryz.f68 fun h x=>Q (Q (Q (T (X h) YV fun x=>Ff.c8 k x.1.1 x.1.2.1 x.2) (Q (D (Q (Q (T (X h) YU fun x=>Ff.c6 k x.1.1 x.1.2.1 x.1.2.2.2 x.2) (X h)) (X h)) (X h)) (X h))) (X h)) (X h)
def f68(k:Nat):Fc Tryz.prog:=⟨68,_,YT k⟩
def Xu(k:Nat):dh:=⟨⟨[(0,z6),(1,z5),(2,z2)],[]⟩,⟨[(0,Bj),(1,z2)],[(100,Ck)]⟩,3,2,fun x=>Ld k x.1 x.2.1 x.2.2⟩
theorem Xv(k:Nat):gu Tryz.prog 22 (Xu k):=ok (cx [f50 k,f68 k,f69 k] 30 nb) Tryz.f22 fun h x=>X h
def f22(k:Nat):Fc Tryz.prog:=⟨22,_,Xv k⟩
def UG(k:Nat):dh:=⟨⟨[(0,BK),(1,z6)],[(0,EK),(10,CO)]⟩,⟨[],[(0,EK),(10,CO)]⟩,2,0,fun x=>ER k x.1.2 x.2.1 x.2.2⟩
theorem UH(k:Nat):gu Tryz.prog 169 (UG k):=ok (cx [] 13 nb) Tryz.f169 fun h x=>X h
def f169(k:Nat):Fc Tryz.prog:=⟨169,_,UH k⟩
def UB:SS:=⟨[(0,BK),(4,z7)],[(0,EK),(10,CO),(100,Eg)]⟩
def Uz(k:Nat):dh:=⟨⟨[(0,BK),(1,(.ro y21)),(2,z6)],[(0,EK),(10,CO)]⟩,⟨[(0,z6)],[(0,Gg),(100,CO)]⟩,3,1,fun x=>Gq k x.1.2.1 x.1.2.2 x.2.1 x.2.2⟩
theorem UA(k:Nat):gu Tryz.prog 166 (Uz k):=ok (cx [f169 k] 40 nb) Tryz.f166 fun h x=>Q (Q (T (X h) UB fun x=>Gq.c3 k x.2.1 x.2.2.1 x.2.2.2) (X h)) (X h)
def f166(k:Nat):Fc Tryz.prog:=⟨166,_,UA k⟩
def UC(k:Nat):dh:=⟨⟨[(0,z6)],[]⟩,⟨[(0,z6)],[]⟩,1,1,fun x=>F8 k x⟩
theorem UD(k:Nat):gu Tryz.prog 167 (UC k):=ok (cx [] 11 nb) Tryz.f167 fun h x=>X h
def f167(k:Nat):Fc Tryz.prog:=⟨167,_,UD k⟩
def Vz:SS:=⟨[],[]⟩
def VA:SS:=⟨[(0,z1),(1,z6),(7,z32),(8,z6)],[]⟩
def Vx(k:Nat):dh:=⟨⟨[(0,z1),(1,z6)],[]⟩,⟨[(0,z6),(1,z6),(2,z2)],[]⟩,2,3,fun x=>Dq k x.1 x.2⟩
theorem Vy(k:Nat):gu Tryz.prog 192 (Vx k):=ok (cx [] 52 nb) Tryz.f192 fun h x=>Q (Q (Q (Q (T (X h) Vz fun x=>Dq.c12 k) (Q (B (L VA (fun n x=>Dq.l5 k n x.1 x.2.1 x.2.2.1 x.2.2.2) k fun n5=>X h)) (X h))) (X h)) (X h)) (X h)
def f192(k:Nat):Fc Tryz.prog:=⟨192,_,Vy k⟩
def UE(k:Nat):dh:=⟨⟨[(0,BK)],[(0,EK),(10,CO)]⟩,⟨[(0,z6)],[(0,EK),(10,CO)]⟩,1,1,fun x=>GU k x.2.1 x.2.2⟩
theorem UF(k:Nat):gu Tryz.prog 168 (UE k):=ok (cx [f169 k,f192 k] 35 nb) Tryz.f168 fun h x=>X h
def f168(k:Nat):Fc Tryz.prog:=⟨168,_,UF k⟩
def UL:SS:=⟨[(0,BK),(3,z6)],[(0,EK),(10,CO)]⟩
def UK:SS:=⟨[(0,BK),(3,z6)],[(0,EK),(10,CO)]⟩
def UI(k:Nat):dh:=⟨⟨[(0,BK)],[(0,EK),(10,CO)]⟩,⟨[(0,I_)],[(0,EK),(10,CO)]⟩,1,1,fun x=>DT k x.2.1 x.2.2⟩
theorem UJ(k:Nat):gu Tryz.prog 170 (UI k):=ok (cx [f34 k,f168 k,f169 k] 68 nb) Tryz.f170 fun h x=>Q (Q (Q (T (Q (T (X h) UL fun x=>DT.c6 k x.1.2 x.2.1 x.2.2) (X h)) UK fun x=>DT.c4 k x.1.2 x.2.1 x.2.2) (X h)) (X h)) (X h)
def f170(k:Nat):Fc Tryz.prog:=⟨170,_,UJ k⟩
def Wz(k:Nat):dh:=⟨⟨[(0,BK)],[(0,EK),(10,CO)]⟩,⟨[(0,z6)],[(0,EK),(10,CO)]⟩,1,1,fun x=>Ho k x.2.1 x.2.2⟩
theorem WA(k:Nat):gu Tryz.prog 214 (Wz k):=ok (cx [f169 k] 41 nb) Tryz.f214 fun h x=>X h
def f214(k:Nat):Fc Tryz.prog:=⟨214,_,WA k⟩
def ZO:SS:=⟨[(0,BK),(8,z6),(9,z6)],[(0,Gg),(100,CO)]⟩
def ZK:SS:=⟨[(0,BK),(8,z6)],[(0,Gg),(100,CO)]⟩
def ZN:SS:=⟨[(0,BK),(1,z6),(3,z6),(8,z6),(21,z6),(22,z2)],[(0,Gg),(100,CO)]⟩
def JS(F:Int→Int→Int→A_→(List AR)→Option (Unit×A_×(List AR))):dh:=⟨⟨[(0,BK),(1,z6),(2,z6),(3,z6)],[(0,EK),(10,CO)]⟩,⟨[],[(0,Gg),(100,CO)]⟩,4,0,fun x=>F x.1.2.1 x.1.2.2.1 x.1.2.2.2 x.2.1 x.2.2⟩
def UO:SS:=⟨[(0,BK),(2,z6),(7,z6),(8,z6),(9,z6)],[(0,Gg),(100,CO)]⟩
def UT:SS:=⟨[(0,BK),(1,z6),(2,z6),(7,z6),(8,z6)],[(0,EK),(10,CO)]⟩
def UR:SS:=⟨[(0,BK),(1,z6),(2,z6),(7,z6),(8,z6)],[(0,EK),(10,CO)]⟩
def UQ:SS:=⟨[(0,BK),(1,z6),(2,z6),(7,z6),(8,z6)],[(0,EK),(10,CO)]⟩
def JQ(F:Int→Int→A_→(List AR)→Option (Unit×A_×(List AR))):dh:=⟨⟨[(0,BK),(1,z6),(2,z6)],[(0,EK),(10,CO)]⟩,⟨[],[(0,Gg),(100,CO)]⟩,3,0,fun x=>F x.1.2.1 x.1.2.2 x.2.1 x.2.2⟩
def UZ:SS:=⟨[(0,BK),(1,z6),(2,z6),(8,z6),(9,z6)],[(0,Gg),(100,CO)]⟩
def UY:SS:=⟨[(0,BK),(1,z6),(2,z6),(6,z6),(8,z6),(9,z6)],[(0,Gg),(100,CO)]⟩
def U1:SS:=⟨[(0,BK),(1,z6),(2,z6),(6,z6),(8,z6),(9,z6)],[(0,Gg),(100,CO)]⟩
def U0:SS:=⟨[(0,BK),(1,z6),(2,z6),(6,z6),(7,z6),(8,z6),(9,z6)],[(0,Gg),(100,CO)]⟩
def UX:SS:=⟨[(0,BK),(1,z6),(2,z6),(6,z6)],[(0,Gg),(100,CO)]⟩
def JR(F:Int→Int→A_→(List AR)→Option (Unit×A_×(List AR))):dh:=⟨⟨[(0,BK),(1,z6),(2,z6)],[(0,EK),(10,CO)]⟩,⟨[],[(0,Gg),(100,CO)]⟩,3,0,fun x=>F x.1.2.1 x.1.2.2 x.2.1 x.2.2⟩
theorem ZM(k:Nat)(Cc:Int→Int→Int→A_→(List AR)→Option (Unit×A_×(List AR)))(EY:Int→Int→A_→(List AR)→Option (Unit×A_×(List AR)))(EZ:Int→Int→A_→(List AR)→Option (Unit×A_×(List AR)))(L_:gu Tryz.prog 92 (JS Cc))(Nt:gu Tryz.prog 171 (JQ EY))(Nu:gu Tryz.prog 172 (JR EZ)):gu Tryz.prog 92 (JS (Bh.b k Cc EY EZ)):=ok (cx [f145 k,f166 k,f167 k,f168 k,f169 k,f170 k,⟨171,_,Nt⟩,⟨172,_,Nu⟩] 75 nb) Tryz.f92 fun h x=>Q (Q (Q (B (Q (T (D (Q (Q (T (X h) ZO fun x=>Bh.c8 k x.1.2.1 x.1.2.2 x.2.1 x.2.2) (X h)) (X h)) (Q (D (K h ZK (fun x=>Bh.d10 k x.1.2 x.2.1 x.2.2) [[0,1,2,4,5,3,6,7,8,9],[0,1,2,4,5,6,3,7,8,9]] (O (fun x=>by kernel_rfl) (O (fun x=>by kernel_rfl) (N)))) (X h)) (X h))) ZN fun x=>Bh.c5 k EY EZ x.1.2.1 x.1.2.2.1 x.1.2.2.2.1 x.1.2.2.2.2.1 x.1.2.2.2.2.2 x.2.1 x.2.2) (X h))) (X h)) (X h)) (X h)
theorem UN(k:Nat)(Cc:Int→Int→Int→A_→(List AR)→Option (Unit×A_×(List AR)))(EY:Int→Int→A_→(List AR)→Option (Unit×A_×(List AR)))(EZ:Int→Int→A_→(List AR)→Option (Unit×A_×(List AR)))(L_:gu Tryz.prog 92 (JS Cc))(Nt:gu Tryz.prog 171 (JQ EY))(Nu:gu Tryz.prog 172 (JR EZ)):gu Tryz.prog 171 (JQ (Ca.b k Cc EY EZ)):=ok (cx [f34 k,⟨92,_,L_⟩,f168 k,f169 k,f214 k,f215 k] 72 nb) Tryz.f171 fun h x=>Q (Q (Q (T (Q (Q (T (Q (T (Q (Q (B (L UO (fun n x=>Ca.DI k Cc n x.1.2.1 x.1.2.2.1 x.1.2.2.2.1 x.1.2.2.2.2 x.2.1 x.2.2) k fun n11=>X h)) (X h)) (X h)) UT fun x=>Ca.c9 k Cc x.1.2.1 x.1.2.2.1 x.1.2.2.2.1 x.1.2.2.2.2 x.2.1 x.2.2) (X h)) UR fun x=>Ca.c7 k Cc x.1.2.1 x.1.2.2.1 x.1.2.2.2.1 x.1.2.2.2.2 x.2.1 x.2.2) (X h)) (X h)) UQ fun x=>Ca.c4 k Cc x.1.2.1 x.1.2.2.1 x.1.2.2.2.1 x.1.2.2.2.2 x.2.1 x.2.2) (X h)) (X h)) (X h)
theorem UW(k:Nat)(Cc:Int→Int→Int→A_→(List AR)→Option (Unit×A_×(List AR)))(EY:Int→Int→A_→(List AR)→Option (Unit×A_×(List AR)))(EZ:Int→Int→A_→(List AR)→Option (Unit×A_×(List AR)))(L_:gu Tryz.prog 92 (JS Cc))(Nt:gu Tryz.prog 171 (JQ EY))(Nu:gu Tryz.prog 172 (JR EZ)):gu Tryz.prog 172 (JR (BG.b k Cc EY EZ)):=ok (cx [f34 k,⟨92,_,L_⟩,f167 k,f168 k,f169 k,f214 k,f215 k] 84 nb) Tryz.f172 fun h x=>Q (B (L UX (fun n x=>BG.l1 k Cc n x.1.2.1 x.1.2.2.1 x.1.2.2.2 x.2.1 x.2.2) k fun n1=>B (Q (Q (Q (Q (T (Q (T (Q (T (Q (T (X h) UZ fun x=>BG.c12 k Cc (BG.l1 k Cc n1) x.1.2.1 x.1.2.2.1 x.1.2.2.2.1 x.1.2.2.2.2 x.2.1 x.2.2) (X h)) UY fun x=>BG.c10 k Cc (BG.l1 k Cc n1) x.1.2.1 x.1.2.2.1 x.1.2.2.2.1 x.1.2.2.2.2.1 x.1.2.2.2.2.2 x.2.1 x.2.2) (X h)) U1 fun x=>BG.c8 k Cc (BG.l1 k Cc n1) x.1.2.1 x.1.2.2.1 x.1.2.2.2.1 x.1.2.2.2.2.1 x.1.2.2.2.2.2 x.2.1 x.2.2) (X h)) U0 fun x=>BG.c6 k Cc (BG.l1 k Cc n1) x.1.2.1 x.1.2.2.1 x.1.2.2.2.1 x.1.2.2.2.2.1 x.1.2.2.2.2.2.1 x.1.2.2.2.2.2.2 x.2.1 x.2.2) (X h)) (X h)) (X h)) (X h)))) (X h)
theorem LZ(k:Nat):∀d,gu Tryz.prog 92 (JS (Bh.d k d))∧gu Tryz.prog 171 (JQ (Ca.d k d))∧gu Tryz.prog 172 (JR (BG.d k d))
 |0=>⟨Ao (fun _=>rfl),Ao (fun _=>rfl),Ao (fun _=>rfl)⟩
 |d+1=>let ih:=LZ k d
  ⟨ZM k (Bh.d k d) (Ca.d k d) (BG.d k d) ih.1 ih.2.1 ih.2.2,UN k (Bh.d k d) (Ca.d k d) (BG.d k d) ih.1 ih.2.1 ih.2.2,UW k (Bh.d k d) (Ca.d k d) (BG.d k d) ih.1 ih.2.1 ih.2.2⟩
theorem ZL(k:Nat):gu Tryz.prog 92 (JS (Bh k)):=(LZ k k).1
def f92(k:Nat):Fc Tryz.prog:=⟨92,_,ZL k⟩
theorem UM(k:Nat):gu Tryz.prog 171 (JQ (Ca k)):=(LZ k k).2.1
def f171(k:Nat):Fc Tryz.prog:=⟨171,_,UM k⟩
theorem UU(k:Nat):gu Tryz.prog 172 (JR (BG k)):=(LZ k k).2.2
def f172(k:Nat):Fc Tryz.prog:=⟨172,_,UU k⟩
def XW(k:Nat):dh:=⟨⟨[(0,z1),(1,z6)],[]⟩,⟨[(0,Bj),(1,z6),(2,z6)],[(100,CO)]⟩,2,3,fun x=>Gm k x.1 x.2⟩
theorem XX(k:Nat):gu Tryz.prog 31 (XW k):=ok (cx [f34 k,f92 k] 37 nb) Tryz.f31 fun h x=>X h
def f31(k:Nat):Fc Tryz.prog:=⟨31,_,XX k⟩
def VS(k:Nat):dh:=⟨⟨[(0,z38)],[]⟩,⟨[(0,z2)],[]⟩,1,1,fun x=>J3 k x⟩
theorem VT(k:Nat):gu Tryz.prog 199 (VS k):=ok (cx [f34 k,f60 k] 18 nb) Tryz.f199 fun h x=>X h
def f199(k:Nat):Fc Tryz.prog:=⟨199,_,VT k⟩
def Wd:SS:=⟨[(0,BK),(2,z6),(7,z6),(37,z6),(38,z6)],[(0,EW),(10,Bp)]⟩
def V9(k:Nat):dh:=⟨⟨[(0,BK),(1,z6),(2,z6)],[(0,Kn),(10,Bp)]⟩,⟨[(0,z6)],[(0,EW),(10,Bp)]⟩,3,1,fun x=>Ew k x.1.2.1 x.1.2.2 x.2.1 x.2.2⟩
theorem V_(k:Nat):gu Tryz.prog 203 (V9 k):=ok (cx [f34 k] 59 nb) Tryz.f203 fun h x=>Q (Q (Q (Q (X h) (Q (B (L Wd (fun n x=>Ew.l5 k n x.1.2.1 x.1.2.2.1 x.1.2.2.2.1 x.1.2.2.2.2 x.2.1 x.2.2) k fun n5=>X h)) (X h))) (X h)) (X h)) (X h)
def f203(k:Nat):Fc Tryz.prog:=⟨203,_,V_ k⟩
def V7(k:Nat):dh:=⟨⟨[(0,BK),(1,z6),(2,z6),(3,z6)],[(0,Kn),(10,Bp)]⟩,⟨[(0,z24),(1,z2)],[(0,EW),(10,Bp)]⟩,4,2,fun x=>GV k x.1.2.1 x.1.2.2.1 x.1.2.2.2 x.2.1 x.2.2⟩
theorem V8(k:Nat):gu Tryz.prog 202 (V7 k):=ok (cx [f203 k] 37 nb) Tryz.f202 fun h x=>X h
def f202(k:Nat):Fc Tryz.prog:=⟨202,_,V8 k⟩
def U2(k:Nat):dh:=⟨⟨[(0,BK),(1,z6),(2,z6)],[(0,Kn),(10,Bp)]⟩,⟨[(0,z6),(1,z2)],[(0,EW),(10,Bp)]⟩,3,2,fun x=>Jr k x.1.2.1 x.1.2.2 x.2.1 x.2.2⟩
theorem U3(k:Nat):gu Tryz.prog 175 (U2 k):=ok (cx [f203 k] 45 nb) Tryz.f175 fun h x=>X h
def f175(k:Nat):Fc Tryz.prog:=⟨175,_,U3 k⟩
def V3:SS:=⟨[(5,z6)],[(0,FD),(10,FZ),(11,Bp)]⟩
def VY(k:Nat):dh:=⟨⟨[(0,BK),(1,z6)],[(0,FD),(10,(.aZ y25 z42)),(11,Bp)]⟩,⟨[(0,z6)],[(0,FD),(10,FZ),(11,Bp)]⟩,2,1,fun x=>E9 k x.1.2 x.2.1 x.2.2.1 x.2.2.2⟩
theorem VZ(k:Nat):gu Tryz.prog 200 (VY k):=ok (cx [f175 k] 26 nb) Tryz.f200 fun h x=>Q (Q (Q (T (X h) V3 fun x=>E9.c4 k x.1 x.2.1 x.2.2.1 x.2.2.2) (X h)) (X h)) (X h)
def Pd(k:Nat):Fc Tryz.prog:=⟨200,_,VZ k⟩
def V6:SS:=⟨[(7,z6)],[(0,FD),(10,FZ),(11,Bp)]⟩
def V4(k:Nat):dh:=⟨⟨[(0,BK),(1,z6),(2,z6)],[(0,FD),(10,FZ),(11,Bp)]⟩,⟨[(0,z6)],[(0,FD),(10,FZ),(11,Bp)]⟩,3,1,fun x=>Fp k x.1.2.1 x.1.2.2 x.2.1 x.2.2.1 x.2.2.2⟩
theorem V5(k:Nat):gu Tryz.prog 201 (V4 k):=ok (cx [f175 k] 33 nb) Tryz.f201 fun h x=>Q (Q (Q (T (X h) V6 fun x=>Fp.c4 k x.1 x.2.1 x.2.2.1 x.2.2.2) (X h)) (X h)) (X h)
def Pe(k:Nat):Fc Tryz.prog:=⟨201,_,V5 k⟩
def Xb(k:Nat):dh:=⟨⟨[(0,BK),(1,z6)],[(0,FD),(10,FZ),(11,Bp)]⟩,⟨[],[(0,FD),(10,FZ),(11,Bp)]⟩,2,0,fun x=>J5 k x.1.2 x.2.1 x.2.2.1 x.2.2.2⟩
theorem Xc(k:Nat):gu Tryz.prog 222 (Xb k):=ok (cx [f203 k] 38 nb) Tryz.f222 fun h x=>X h
def Xa(k:Nat):Fc Tryz.prog:=⟨222,_,Xc k⟩
def Te:SS:=⟨[(3,Bj),(7,z12),(8,z6),(9,z6)],[(100,Ea)]⟩
def Tc(k:Nat):dh:=⟨⟨[(0,z12)],[]⟩,⟨[(0,Bj)],[(100,Ea)]⟩,1,1,fun x=>FO k x⟩
theorem Td(k:Nat):gu Tryz.prog 134 (Tc k):=ok (cx [] 20 nb) Tryz.f134 fun h x=>Q (Q (Q (X h) (Q (B (L Te (fun n x=>FO.l3 k n x.1.2.1 x.1.2.2.1 x.1.2.2.2 x.2) k fun n3=>X h)) (X h))) (X h)) (X h)
def f134(k:Nat):Fc Tryz.prog:=⟨134,_,Td k⟩
def Sm(k:Nat):dh:=⟨⟨[(0,z6),(1,z6)],[]⟩,⟨[(0,z6)],[]⟩,2,1,fun x=>KR k x.1 x.2⟩
theorem Sn(k:Nat):gu Tryz.prog 112 (Sm k):=ok (cx [f34 k] 18 nb) Tryz.f112 fun h x=>X h
def f112(k:Nat):Fc Tryz.prog:=⟨112,_,Sn k⟩
def WM(k:Nat):dh:=⟨⟨[(0,z1),(1,z6)],[]⟩,⟨[(0,z6)],[]⟩,2,1,fun x=>Mh k x.1 x.2⟩
theorem WN(k:Nat):gu Tryz.prog 218 (WM k):=ok (cx [] 24 nb) Tryz.f218 fun h x=>X h
def f218(k:Nat):Fc Tryz.prog:=⟨218,_,WN k⟩
def VG:SS:=⟨[(0,z1),(1,z6),(3,z6),(9,Bj),(10,z6),(11,z6),(14,z6),(15,z6),(18,z6),(19,z6)],[(100,Bp)]⟩
def VF:SS:=⟨[(0,z1),(1,z6),(3,z6),(9,Bj),(14,z6),(15,z6)],[(100,Bp)]⟩
def VD(k:Nat):dh:=⟨⟨[(0,z1),(1,z6),(2,z6),(3,z6)],[]⟩,⟨[(0,Bj)],[(100,Bp)]⟩,4,1,fun x=>DY k x.1 x.2.1 x.2.2.1 x.2.2.2⟩
theorem VE(k:Nat):gu Tryz.prog 194 (VD k):=ok (cx [f218 k] 43 nb) Tryz.f194 fun h x=>Q (Q (Q (X h) (Q (B (L VF (fun n x=>DY.l3 k n x.1.1 x.1.2.1 x.1.2.2.1 x.1.2.2.2.2.1 x.1.2.2.2.2.2 x.2) k fun n3=>Q (Q (Q (X h) (B (Q (Q (Q (X h) (Q (B (L VG (fun n x=>DY.l7 k (DY.l3 k n3) n x.1.1 x.1.2.1 x.1.2.2.1 x.1.2.2.2.2.1 x.1.2.2.2.2.2.1 x.1.2.2.2.2.2.2.1 x.1.2.2.2.2.2.2.2.1 x.1.2.2.2.2.2.2.2.2.1 x.1.2.2.2.2.2.2.2.2.2 x.2) k fun n7=>X h)) (X h))) (X h)) (X h)))) (X h)) (X h))) (X h))) (X h)) (X h)
def f194(k:Nat):Fc Tryz.prog:=⟨194,_,VE k⟩
def Ub(k:Nat):dh:=⟨⟨[(0,z1),(1,z6),(2,z6),(3,z6)],[]⟩,⟨[(0,Bj),(1,z6),(2,z2)],[(100,Bp)]⟩,4,3,fun x=>JZ k x.1 x.2.1 x.2.2.1 x.2.2.2⟩
theorem Uc(k:Nat):gu Tryz.prog 148 (Ub k):=ok (cx [f34 k,f112 k,f194 k] 40 nb) Tryz.f148 fun h x=>X h
def f148(k:Nat):Fc Tryz.prog:=⟨148,_,Uc k⟩
def TE:SS:=⟨[(0,z1),(1,z6),(2,z6),(9,z6),(26,z6),(27,z6)],[]⟩
def TC(k:Nat):dh:=⟨⟨[(0,z1),(1,z6),(2,z6)],[]⟩,⟨[(0,z6),(1,z6),(2,z2)],[]⟩,3,3,fun x=>ED k x.1 x.2.1 x.2.2⟩
theorem TD(k:Nat):gu Tryz.prog 140 (TC k):=ok (cx [f34 k] 47 nb) Tryz.f140 fun h x=>Q (Q (Q (Q (X h) (Q (B (L TE (fun n x=>ED.l5 k n x.1 x.2.1 x.2.2.1 x.2.2.2.1 x.2.2.2.2.1 x.2.2.2.2.2) k fun n5=>X h)) (X h))) (X h)) (X h)) (X h)
def f140(k:Nat):Fc Tryz.prog:=⟨140,_,TD k⟩
def Vu(k:Nat):dh:=⟨⟨[(0,z6),(1,z6)],[]⟩,⟨[(0,z6)],[]⟩,2,1,fun x=>IE k x.1 x.2⟩
theorem Vv(k:Nat):gu Tryz.prog 191 (Vu k):=ok (cx [] 11 nb) Tryz.f191 fun h x=>X h
def f191(k:Nat):Fc Tryz.prog:=⟨191,_,Vv k⟩
def Ud(k:Nat):dh:=⟨⟨[(0,z6),(1,z1),(2,z6)],[]⟩,⟨[(0,JD),(1,z6),(2,z2)],[]⟩,3,3,fun x=>J6 k x.1 x.2.1 x.2.2⟩
theorem Ue(k:Nat):gu Tryz.prog 149 (Ud k):=ok (cx [f61 k,f140 k,f191 k] 66 nb) Tryz.f149 fun h x=>X h
def f149(k:Nat):Fc Tryz.prog:=⟨149,_,Ue k⟩
def Y6:SS:=⟨[(0,z6),(1,z1),(2,z6),(14,Bj),(48,z6),(49,z6)],[(100,Ea)]⟩
def Y4(k:Nat):dh:=⟨⟨[(0,z6),(1,z1),(2,z6),(3,z6)],[]⟩,⟨[(0,Bj),(1,z6),(2,z2)],[(100,Ea)]⟩,4,3,fun x=>Em k x.1 x.2.1 x.2.2.1 x.2.2.2⟩
theorem Y5(k:Nat):gu Tryz.prog 71 (Y4 k):=ok (cx [f34 k,f60 k,f134 k,f148 k,f149 k] 69 nb) Tryz.f71 fun h x=>Q (Q (Q (Q (Q (X h) (Q (B (L Y6 (fun n x=>Em.l8 k n x.1.1 x.1.2.1 x.1.2.2.1 x.1.2.2.2.2.1 x.1.2.2.2.2.2 x.2) k fun n8=>X h)) (X h))) (X h)) (X h)) (X h)) (X h)
def f71(k:Nat):Fc Tryz.prog:=⟨71,_,Y5 k⟩
def XA(k:Nat):dh:=⟨⟨[(0,z6),(1,(.ro y4))],[]⟩,⟨[(0,I_)],[]⟩,2,1,fun x=>NB k x.1 x.2⟩
theorem XB(k:Nat):gu Tryz.prog 232 (XA k):=ok (cx [f39 k] 20 nb) Tryz.f232 fun h x=>X h
def f232(k:Nat):Fc Tryz.prog:=⟨232,_,XB k⟩
def Xw(k:Nat):dh:=⟨⟨[(0,z6),(1,I_)],[]⟩,⟨[(0,JD),(1,z2)],[]⟩,2,2,fun x=>Js k x.1 x.2⟩
theorem Xx(k:Nat):gu Tryz.prog 230 (Xw k):=ok (cx [f71 k,f101 k,f232 k] 46 nb) Tryz.f230 fun h x=>X h
def f230(k:Nat):Fc Tryz.prog:=⟨230,_,Xx k⟩
def XF(k:Nat):dh:=⟨⟨[(0,z6)],[]⟩,⟨[(0,z6)],[]⟩,1,1,fun x=>Mj k x⟩
theorem XG(k:Nat):gu Tryz.prog 234 (XF k):=ok (cx [] 8 nb) Tryz.f234 fun h x=>X h
def f234(k:Nat):Fc Tryz.prog:=⟨234,_,XG k⟩
def XD:SS:=⟨[(4,z7),(5,z17)],[(100,HZ),(101,HZ)]⟩
def XC(k:Nat):dh:=⟨⟨[(0,z6),(1,(.ro y4)),(2,(.ro y4))],[]⟩,⟨[(0,z2)],[]⟩,3,1,fun x=>Iz k x.1 x.2.1 x.2.2⟩
theorem XE(k:Nat):gu Tryz.prog 233 (XC k):=ok (cx [f101 k,f234 k] 39 nb) Tryz.f233 fun h x=>Q (Q (Q (X h) (Q (B (Q (D (Q (X h) (K h XD (fun x=>Iz.d5 k x.2.1 x.2.2) [[0,3,1,2,4,5,6,7],[0,3,1,4,2,5,6,7],[0,3,4,1,2,5,6,7]] (O (fun x=>by kernel_rfl) (O (fun x=>by kernel_rfl) (O (fun x=>by kernel_rfl) (N)))))) (X h)) (X h))) (X h))) (X h)) (X h)
def f233(k:Nat):Fc Tryz.prog:=⟨233,_,XE k⟩
def Xy(k:Nat):dh:=⟨⟨[(0,z38),(1,(.ro Ot))],[]⟩,⟨[(0,z2)],[]⟩,2,1,fun x=>KX k x.1 x.2⟩
theorem Xz(k:Nat):gu Tryz.prog 231 (Xy k):=ok (cx [f34 k,f101 k,f199 k,f233 k] 49 nb) Tryz.f231 fun h x=>X h
def f231(k:Nat):Fc Tryz.prog:=⟨231,_,Xz k⟩
def Xp:SS:=⟨[(4,z7),(6,z17),(10,z33)],[(0,EW),(10,Bp),(100,FE),(101,M3),(102,M3)]⟩
def Xn:SS:=⟨[(4,z7),(6,z17),(10,z33),(15,(.p 103)),(17,(.p 104))],[(0,EW),(10,Bp),(100,FE),(101,M3),(102,M3),(103,HZ),(104,HZ)]⟩
def Xm(k:Nat):dh:=⟨⟨[(0,BK),(1,z38),(2,z6)],[(0,Kn),(10,Bp)]⟩,⟨[(0,z46),(1,z2)],[(0,EW),(10,Bp)]⟩,3,2,fun x=>Fq k x.1.2.1 x.1.2.2 x.2.1 x.2.2⟩
theorem Xo(k:Nat):gu Tryz.prog 228 (Xm k):=ok (cx [f175 k,f199 k,f202 k,f203 k,f230 k,f231 k] 99 (fun s=>Nat.beq s 39)) Tryz.f228 fun h x=>Q (Q (Q (Q (Q (T (X h) Xp fun x=>Fq.c13 k x.2.1 x.2.2.1 x.2.2.2.1 x.2.2.2.2.1 x.2.2.2.2.2) (Q (D (Q (Q (Q (Q (Q (K h Xn (fun x=>Fq.d12 k x.2.1 x.2.2.1 x.2.2.2.1 x.2.2.2.2.1 x.2.2.2.2.2.1 x.2.2.2.2.2.2.1 x.2.2.2.2.2.2.2) [[2,0,1,3,4,5,6,7],[2,0,3,4,1,5,6,7],[2,0,3,4,5,1,6,7],[2,1,0,3,4,5,6,7],[2,1,3,0,4,5,6,7],[2,3,0,4,1,5,6,7],[2,3,0,4,5,1,6,7]] (O (fun x=>by kernel_rfl) (O (fun x=>by kernel_rfl) (O (fun x=>by kernel_rfl) (O (fun x=>by kernel_rfl) (O (fun x=>by kernel_rfl) (O (fun x=>by kernel_rfl) (O (fun x=>by kernel_rfl) (N))))))))) (X h)) (X h)) (X h)) (X h)) (X h)) (X h)) (X h))) (X h)) (X h)) (X h)) (X h)
def f228(k:Nat):Fc Tryz.prog:=⟨228,_,Xo k⟩
def Xe(k:Nat):dh:=⟨⟨[(0,BK),(1,z38),(2,z6),(3,(.p 3))],[(0,FD),(3,Eb),(10,FZ),(11,Bp)]⟩,⟨[],[(0,FD),(3,Eb),(10,FZ),(11,Bp)]⟩,4,0,fun x=>KV k x.1.2.1 x.1.2.2.1 x.2.1 x.2.2.1 x.2.2.2.1 x.2.2.2.2⟩
theorem Xf(k:Nat):gu Tryz.prog 223 (Xe k):=ok (cx [f203 k,f228 k] 37 nb) Tryz.f223 fun h x=>X h
def Xd(k:Nat):Fc Tryz.prog:=⟨223,_,Xf k⟩
def Wl:SS:=⟨[(0,BK),(2,(.p 2))],[(0,FD),(2,Eb),(10,FZ),(11,Bp)]⟩
def Wm:SS:=⟨[(0,BK),(2,(.p 2)),(4,z7)],[(0,FD),(2,Eb),(10,FZ),(11,Bp),(100,FE)]⟩
def Wj:SS:=⟨[(0,BK),(2,(.p 2)),(4,z7)],[(0,FD),(2,Eb),(10,FZ),(11,Bp),(100,FE)]⟩
def Wh(k:Nat):dh:=⟨⟨[(0,BK),(1,z38),(2,(.p 2))],[(0,FD),(2,Eb),(10,FZ),(11,Bp)]⟩,⟨[],[(0,FD),(2,Eb),(10,FZ),(11,Bp)]⟩,3,0,fun x=>CX k x.1.2.1 x.2.1 x.2.2.1 x.2.2.2.1 x.2.2.2.2⟩
theorem Wi(k:Nat):gu Tryz.prog 204 (Wh k):=ok (cx [Pd k,Pe k,f203 k,Xa k,Xd k] 127 (fun s=>Nat.beq s 26)) Tryz.f204 fun h x=>Q (Q (T (X h) Wl fun x=>CX.c23 k x.2.1 x.2.2.1 x.2.2.2.1 x.2.2.2.2) (Q (B (Q (D (Q (Q (Q (T (X h) Wm fun x=>CX.c8 k x.2.1 x.2.2.1 x.2.2.2.1 x.2.2.2.2.1 x.2.2.2.2.2) (X h)) (X h)) (X h)) (Q (D (Q (Q (Q (Q (Q (Q (Q (Q (T (X h) Wj fun x=>CX.c19 k x.2.1 x.2.2.1 x.2.2.2.1 x.2.2.2.2.1 x.2.2.2.2.2) (X h)) (X h)) (X h)) (X h)) (X h)) (X h)) (X h)) (X h)) (X h)) (X h))) (X h))) (X h))) (X h)
def We(k:Nat):Fc Tryz.prog:=⟨204,_,Wi k⟩
def TY:SS:=⟨[(1,z1),(3,z7),(6,z17),(9,z6),(13,z33),(14,(.p 103)),(15,(.p 104)),(16,z2)],[(100,FE),(101,Eb),(102,QF),(103,Eb),(104,Eg),(105,QG),(106,Bp)]⟩
def Ua:SS:=⟨[(1,z1),(3,z7),(6,z17),(9,z6),(13,z33),(14,(.p 103)),(15,(.p 104)),(16,z2)],[(100,FE),(101,Eb),(102,QF),(103,Eb),(104,Eg),(105,QG),(106,Bp)]⟩
def T_:SS:=⟨[(1,z1),(3,z7),(6,z17),(9,z6),(11,z33),(13,(.p 103)),(14,(.p 104))],[(100,FE),(101,Eb),(102,QH),(103,QI),(104,Eb),(105,Bp)]⟩
def TZ:SS:=⟨[(1,z1),(3,z7),(6,z17),(9,z6),(11,z33),(13,(.p 103)),(14,(.p 104))],[(100,FE),(101,Eb),(102,QH),(103,QI),(104,Eb),(105,Bp)]⟩
def TW(k:Nat):dh:=⟨⟨[(0,z38),(1,z1),(2,z6)],[]⟩,⟨[(0,z49),(1,z6)],[]⟩,3,2,fun x=>DF k x.1 x.2.1 x.2.2⟩
theorem T9(k:Nat):gu Tryz.prog 147 (TW k):=ok (cx [f31 k,f84 k,f199 k,Pd k,Pe k,f202 k,f203 k,We k] 100 nb) Tryz.f147 fun h x=>Q (Q (Q (Q (Q (Q (Q (Q (Q (T (Q (Q (T (Q (X h) (K h TY (fun x=>DF.d14 k x.1.1 x.1.2.2.2.1 x.1.2.2.2.2.2.2.2 x.2.1 x.2.2.1 x.2.2.2.1 x.2.2.2.2.1 x.2.2.2.2.2.1 x.2.2.2.2.2.2.1 x.2.2.2.2.2.2.2) [[0,1,4,2,3,5,6,7],[0,1,4,5,2,3,6,7]] (O (fun x=>by kernel_rfl) (O (fun x=>by kernel_rfl) (N))))) Ua fun x=>DF.c14 k x.1.1 x.1.2.2.2.1 x.1.2.2.2.2.2.2.2 x.2.1 x.2.2.1 x.2.2.2.1 x.2.2.2.2.1 x.2.2.2.2.2.1 x.2.2.2.2.2.2.1 x.2.2.2.2.2.2.2) (X h)) (X h)) T_ fun x=>DF.c11 k x.1.1 x.1.2.2.2.1 x.2.1 x.2.2.1 x.2.2.2.1 x.2.2.2.2.1 x.2.2.2.2.2.1 x.2.2.2.2.2.2) (Q (X h) (K h TZ (fun x=>DF.d9 k x.1.1 x.1.2.2.2.1 x.2.1 x.2.2.1 x.2.2.2.1 x.2.2.2.2.1 x.2.2.2.2.2.1 x.2.2.2.2.2.2) [[0,2,1,3,4],[0,2,3,1,4]] (O (fun x=>by kernel_rfl) (O (fun x=>by kernel_rfl) (N)))))) (X h)) (X h)) (X h)) (X h)) (X h)) (X h)) (X h)) (X h)
def f147(k:Nat):Fc Tryz.prog:=⟨147,_,T9 k⟩
def Y2:SS:=⟨[(6,z7),(9,z17),(11,z1)],[(100,Eb),(101,Eb)]⟩
def Y0(k:Nat):dh:=⟨⟨[(0,z38),(1,z1),(2,z6)],[]⟩,⟨[(0,z49),(1,z1),(2,z6)],[]⟩,3,3,fun x=>GQ k x.1 x.2.1 x.2.2⟩
theorem Y3(k:Nat):gu Tryz.prog 70 (Y0 k):=ok (cx [f144 k,f147 k] 44 nb) Tryz.f70 fun h x=>Q (Q (Q (Q (Q (X h) (Q (X h) (K h Y2 (fun x=>GQ.d5 k x.1.2.2 x.2.1 x.2.2) [[0,1,2,3,5,4,6,7,8],[0,1,2,3,5,6,4,7,8]] (O (fun x=>by kernel_rfl) (O (fun x=>by kernel_rfl) (N)))))) (X h)) (X h)) (X h)) (X h)
def f70(k:Nat):Fc Tryz.prog:=⟨70,_,Y3 k⟩
def XH(k:Nat):dh:=⟨⟨[(0,z6),(1,z1),(2,z6)],[]⟩,⟨[(0,Bj),(1,z6),(2,z6)],[(100,Ea)]⟩,3,3,fun x=>Mi k x.1 x.2.1 x.2.2⟩
theorem XI(k:Nat):gu Tryz.prog 23 (XH k):=ok (cx [f70 k,f71 k] 75 nb) Tryz.f23 fun h x=>X h
def f23(k:Nat):Fc Tryz.prog:=⟨23,_,XI k⟩
def VW:SS:=⟨[(0,z6),(1,z6),(23,z2)],[]⟩
def VX:SS:=⟨[(0,z6),(1,z6),(5,z6),(6,z2)],[]⟩
def VU(k:Nat):dh:=⟨⟨[(0,z6),(1,z6)],[]⟩,⟨[(0,z2)],[]⟩,2,1,fun x=>FI k x.1 x.2⟩
theorem VV(k:Nat):gu Tryz.prog 19 (VU k):=ok (cx [f60 k,f61 k] 35 nb) Tryz.f19 fun h x=>Q (Q (X h) (Q (B (Q (T (D (X h) (Q (D (X h) (Q (D (X h) (Q (T (X h) VW fun x=>FI.c11 k x.1 x.2.1 x.2.2) (X h))) (X h))) (X h))) VX fun x=>FI.c4 k x.1 x.2.1 x.2.2.1 x.2.2.2) (X h))) (X h))) (X h)
def f19(k:Nat):Fc Tryz.prog:=⟨19,_,VV k⟩
def Vi(k:Nat):dh:=⟨⟨[(0,BK)],[(0,Ko),(10,Bp)]⟩,⟨[(0,z6)],[(0,Ko),(10,Bp)]⟩,1,1,fun x=>FN k x.2.1 x.2.2⟩
theorem Vj(k:Nat):gu Tryz.prog 188 (Vi k):=ok (cx [f192 k] 35 nb) Tryz.f188 fun h x=>X h
def f188(k:Nat):Fc Tryz.prog:=⟨188,_,Vj k⟩
def Vk(k:Nat):dh:=⟨⟨[(0,BK),(1,z6)],[(0,Ko),(10,Bp)]⟩,⟨[(0,z6)],[(0,Ko),(10,Bp)]⟩,2,1,fun x=>J4 k x.1.2 x.2.1 x.2.2⟩
theorem Vl(k:Nat):gu Tryz.prog 189 (Vk k):=ok (cx [] 40 nb) Tryz.f189 fun h x=>X h
def f189(k:Nat):Fc Tryz.prog:=⟨189,_,Vl k⟩
def Vq:SS:=⟨[(0,BK),(3,z6),(12,z6),(37,Bj),(38,z6),(39,z6)],[(0,Lu),(100,Bp),(101,Bp)]⟩
def Vt:SS:=⟨[(0,BK),(3,z6),(37,Bj),(38,z6),(39,z6)],[(0,Lu),(100,Bp),(101,Bp)]⟩
def Vs:SS:=⟨[(0,BK),(1,z6),(2,z6),(3,z6),(4,z6)],[(0,Ko),(10,Bp)]⟩
def Vp(k:Nat):dh:=⟨⟨[(0,BK),(1,z6),(2,z6),(3,z6),(4,z6)],[(0,Ko),(10,Bp)]⟩,⟨[],[(0,(.box Ou (.agg (.cons z1 (.cons z6 (.cons z2 (.cons Bj .nil))))))),(100,Bp)]⟩,5,0,fun x=>D6 k x.1.2.1 x.1.2.2.1 x.1.2.2.2.1 x.1.2.2.2.2 x.2.1 x.2.2⟩
theorem Vr(k:Nat):gu Tryz.prog 190 (Vp k):=ok (cx [f189 k,f194 k] 69 nb) Tryz.f190 fun h x=>Q (T (Q (Q (Q (B (L Vt (fun n x=>D6.l5 k n x.1.2.1 x.1.2.2.2.1 x.1.2.2.2.2 x.2.1 x.2.2.1 x.2.2.2) k fun n5=>Q (Q (Q (X h) (B (Q (K h Vq (fun x=>D6.d7 k (D6.l5 k n5) x.1.2.1 x.1.2.2.1 x.1.2.2.2.2.1 x.1.2.2.2.2.2 x.2.1 x.2.2.1 x.2.2.2) [[0,1,2,3,4,5,6,7,9,10,11,17,19,8,12,13,14,15,16,18,20,21,22,23,24,25],[0,1,2,3,4,5,6,7,9,10,11,17,19,12,13,14,8,15,16,18,20,21,22,23,24,25]] (O (fun x=>by kernel_rfl) (O (fun x=>by kernel_rfl) (N)))) (X h)))) (X h)) (X h))) (X h)) (X h)) (X h)) Vs fun x=>D6.c2 k x.1.2.1 x.1.2.2.1 x.1.2.2.2.1 x.1.2.2.2.2 x.2.1 x.2.2) (X h)
def f190(k:Nat):Fc Tryz.prog:=⟨190,_,Vr k⟩
def SY:SS:=⟨[(0,z1),(7,z7),(9,z6),(10,z6),(12,z6),(13,z6),(14,z6),(15,z6)],[(100,Lu),(101,Bp)]⟩
def Ta:SS:=⟨[(0,z1),(7,z7),(9,z6),(10,z6),(12,z6),(13,z6),(14,z6),(15,z6)],[(100,Lu),(101,Bp)]⟩
def S_:SS:=⟨[(0,z1),(7,z7),(9,z6),(10,z6),(12,z6)],[(100,Lu),(101,Bp)]⟩
def SX(k:Nat):dh:=⟨⟨[(0,z1),(1,z6)],[]⟩,⟨[(0,Bj),(1,z6),(2,z2)],[(100,Bp)]⟩,2,3,fun x=>Cz k x.1 x.2⟩
theorem S9(k:Nat):gu Tryz.prog 133 (SX k):=ok (cx [f34 k,f167 k,f188 k,f189 k,f190 k] 155 nb) Tryz.f133 fun h x=>Q (Q (Q (Q (Q (Q (Q (Q (Q (Q (Q (Q (Q (X h) (B (L S_ (fun n x=>Cz.Ch k n x.1.1 x.1.2.2.1 x.1.2.2.2.1 x.1.2.2.2.2 x.2.1 x.2.2) k fun n16=>Q (B (Q (Q (Q (B (L Ta (fun n x=>Cz.ES k (Cz.Ch k n16) n x.1.1 x.1.2.2.1 x.1.2.2.2.1 x.1.2.2.2.2.1 x.1.2.2.2.2.2.1 x.1.2.2.2.2.2.2.1 x.1.2.2.2.2.2.2.2 x.2.1 x.2.2) k fun n20=>Q (Q (X h) (B (K h SY (fun x=>Cz.d22 k (Cz.ES k (Cz.Ch k n16) n20) x.1.1 x.1.2.2.1 x.1.2.2.2.1 x.1.2.2.2.2.1 x.1.2.2.2.2.2.1 x.1.2.2.2.2.2.2.1 x.1.2.2.2.2.2.2.2 x.2.1 x.2.2) [[0,1,2,3,4,5,6,9,10,11,12,13,7,8,14,15,16,17],[0,1,2,3,4,5,6,9,10,11,12,13,14,15,16,7,8,17]] (O (fun x=>by kernel_rfl) (O (fun x=>by kernel_rfl) (N)))))) (X h))) (X h)) (X h)) (X h))) (X h)))) (X h)) (X h)) (X h)) (X h)) (X h)) (X h)) (X h)) (X h)) (X h)) (X h)) (X h)) (X h)
def f133(k:Nat):Fc Tryz.prog:=⟨133,_,S9 k⟩
def Ti:SS:=⟨[(0,z1),(8,z6),(10,Bj),(23,z31),(24,z6),(25,z6)],[(100,Ea),(101,Bp)]⟩
def Tf(k:Nat):dh:=⟨⟨[(0,z1),(1,z6)],[]⟩,⟨[(0,Bj),(1,z6),(2,z2)],[(100,Ea)]⟩,2,3,fun x=>Gl k x.1 x.2⟩
theorem Tg(k:Nat):gu Tryz.prog 135 (Tf k):=ok (cx [f34 k,f133 k] 57 nb) Tryz.f135 fun h x=>Q (Q (Q (Q (Q (X h) (Q (B (L Ti (fun n x=>Gl.l6 k n x.1.1 x.1.2.1 x.1.2.2.2.2.1 x.1.2.2.2.2.2 x.2.1 x.2.2) k fun n6=>X h)) (X h))) (X h)) (X h)) (X h)) (X h)
def f135(k:Nat):Fc Tryz.prog:=⟨135,_,Tg k⟩
def Tn:SS:=⟨[(10,Bj),(11,z6),(12,z31),(13,I_),(42,(.h 102)),(43,z6),(44,z6)],[(100,Ea),(101,Ea),(102,Bp)]⟩
def Tj(k:Nat):dh:=⟨⟨[(0,z1),(1,z6)],[]⟩,⟨[(0,Bj),(1,z6),(2,z2)],[(100,Ea)]⟩,2,3,fun x=>GM k x.1 x.2⟩
theorem Tm(k:Nat):gu Tryz.prog 136 (Tj k):=ok (cx [f34 k,f133 k,f135 k] 82 nb) Tryz.f136 fun h x=>Q (Q (Q (Q (Q (Q (Q (Q (X h) (Q (B (L Tn (fun n x=>GM.l10 k n x.1.2.1 x.1.2.2.2.1 x.1.2.2.2.2.2.1 x.1.2.2.2.2.2.2 x.2.1 x.2.2.1 x.2.2.2) k fun n10=>X h)) (X h))) (X h)) (X h)) (X h)) (X h)) (X h)) (X h)) (X h)
def f136(k:Nat):Fc Tryz.prog:=⟨136,_,Tm k⟩
def Sk(k:Nat):dh:=⟨⟨[(0,z6)],[]⟩,⟨[(0,z6)],[]⟩,1,1,fun x=>Mk k x⟩
theorem Sl(k:Nat):gu Tryz.prog 108 (Sk k):=ok (cx [f61 k] 5 nb) Tryz.f108 fun h x=>X h
def f108(k:Nat):Fc Tryz.prog:=⟨108,_,Sl k⟩
def Tt:SS:=⟨[(1,z1),(2,z6),(3,z6),(11,z6),(12,Bj),(13,z6),(14,z6),(43,z6),(44,z6),(47,z6),(48,z6)],[(100,Ea)]⟩
def Tu:SS:=⟨[(1,z1),(2,z6),(3,z6),(11,z6),(12,Bj),(43,z6),(44,z6)],[(100,Ea)]⟩
def Tp(k:Nat):dh:=⟨⟨[(0,z6),(1,z1),(2,z6),(3,z6)],[]⟩,⟨[(0,Bj),(1,z6),(2,z2)],[(100,Ea)]⟩,4,3,fun x=>En k x.1 x.2.1 x.2.2.1 x.2.2.2⟩
theorem Tq(k:Nat):gu Tryz.prog 137 (Tp k):=ok (cx [f34 k,f108 k,f191 k] 82 nb) Tryz.f137 fun h x=>Q (Q (Q (Q (Q (X h) (Q (B (L Tu (fun n x=>En.l6 k n x.1.1 x.1.2.1 x.1.2.2.1 x.1.2.2.2.1 x.1.2.2.2.2.2.1 x.1.2.2.2.2.2.2 x.2) k fun n6=>Q (Q (Q (X h) (B (Q (Q (Q (X h) (Q (B (L Tt (fun n x=>En.l10 k (En.l6 k n6) n x.1.1 x.1.2.1 x.1.2.2.1 x.1.2.2.2.1 x.1.2.2.2.2.2.1 x.1.2.2.2.2.2.2.1 x.1.2.2.2.2.2.2.2.1 x.1.2.2.2.2.2.2.2.2.1 x.1.2.2.2.2.2.2.2.2.2.1 x.1.2.2.2.2.2.2.2.2.2.2 x.2) k fun n10=>X h)) (X h))) (X h)) (X h)))) (X h)) (X h))) (X h))) (X h)) (X h)) (X h)) (X h)
def f137(k:Nat):Fc Tryz.prog:=⟨137,_,Tq k⟩
def WJ:SS:=⟨[(0,z32),(2,z6)],[]⟩
def WL:SS:=⟨[(0,z32),(2,z6)],[]⟩
def WK:SS:=⟨[(0,z32),(2,z6)],[]⟩
def WH(k:Nat):dh:=⟨⟨[(0,z32)],[]⟩,⟨[(0,z6)],[]⟩,1,1,fun x=>bits_Len64 k x⟩
theorem WI(k:Nat):gu Tryz.prog 217 (WH k):=ok (cx [] 25 nb) Tryz.f217 fun h x=>Q (Q (T (Q (T (Q (T (X h) WJ fun x=>bits_Len64.c10 k x.1 x.2) (X h)) WL fun x=>bits_Len64.c7 k x.1 x.2) (X h)) WK fun x=>bits_Len64.c4 k x.1 x.2) (X h)) (X h)
def f217(k:Nat):Fc Tryz.prog:=⟨217,_,WI k⟩
def U8(k:Nat):dh:=⟨⟨[(0,z6)],[]⟩,⟨[(0,z6)],[]⟩,1,1,fun x=>IG k x⟩
theorem U9(k:Nat):gu Tryz.prog 181 (U8 k):=ok (cx [f217 k] 6 nb) Tryz.f181 fun h x=>X h
def f181(k:Nat):Fc Tryz.prog:=⟨181,_,U9 k⟩
def VB(k:Nat):dh:=⟨⟨[(0,z1),(1,z6),(2,z6)],[]⟩,⟨[(0,z6),(1,z6),(2,z2)],[]⟩,3,3,fun x=>Mr k x.1 x.2.1 x.2.2⟩
theorem VC(k:Nat):gu Tryz.prog 193 (VB k):=ok (cx [f112 k,f140 k,f181 k] 34 nb) Tryz.f193 fun h x=>X h
def f193(k:Nat):Fc Tryz.prog:=⟨193,_,VC k⟩
def TH:SS:=⟨[(0,z1),(2,z6),(3,z6),(11,Bj),(17,z6),(18,z6),(72,z6),(73,z6)],[(100,Bp)]⟩
def TI:SS:=⟨[(0,z1),(1,z6),(2,z6),(3,z6),(11,Bj)],[(100,Bp)]⟩
def TF(k:Nat):dh:=⟨⟨[(0,z1),(1,z6),(2,z6),(3,z6)],[]⟩,⟨[(0,Bj),(1,z6),(2,z2)],[(100,Bp)]⟩,4,3,fun x=>DR k x.1 x.2.1 x.2.2.1 x.2.2.2⟩
theorem TG(k:Nat):gu Tryz.prog 141 (TF k):=ok (cx [f34 k,f192 k,f193 k,f194 k] 110 nb) Tryz.f141 fun h x=>Q (Q (Q (Q (X h) (B (L TI (fun n x=>DR.l4 k n x.1.1 x.1.2.1 x.1.2.2.1 x.1.2.2.2.1 x.2) k fun n4=>Q (B (Q (Q (Q (Q (Q (X h) (Q (D (Q (Q (Q (X h) (Q (B (L TH (fun n x=>DR.Ex k (DR.l4 k n4) n x.1.1 x.1.2.1 x.1.2.2.1 x.1.2.2.2.2.1 x.1.2.2.2.2.2.1 x.1.2.2.2.2.2.2.1 x.1.2.2.2.2.2.2.2 x.2) k fun n15=>X h)) (X h))) (X h)) (X h)) (X h)) (X h))) (X h)) (X h)) (X h)) (X h))) (X h)))) (X h)) (X h)) (X h)
def f141(k:Nat):Fc Tryz.prog:=⟨141,_,TG k⟩
def Tx:SS:=⟨[(3,z6),(11,Bj),(12,z6),(38,Bj),(39,z6),(40,z6)],[(100,Bp)]⟩
def Tv(k:Nat):dh:=⟨⟨[(0,z1),(1,z6),(2,z6),(3,z6)],[]⟩,⟨[(0,Bj),(1,z6),(2,z2)],[(100,Bp)]⟩,4,3,fun x=>GN k x.1 x.2.1 x.2.2.1 x.2.2.2⟩
theorem Tw(k:Nat):gu Tryz.prog 138 (Tv k):=ok (cx [f34 k,f141 k] 50 nb) Tryz.f138 fun h x=>Q (Q (Q (Q (Q (X h) (Q (B (L Tx (fun n x=>GN.l7 k n x.1.1 x.1.2.2.1 x.1.2.2.2.2.1 x.1.2.2.2.2.2 x.2) k fun n7=>X h)) (X h))) (X h)) (X h)) (X h)) (X h)
def f138(k:Nat):Fc Tryz.prog:=⟨138,_,Tw k⟩
def TB:SS:=⟨[(0,z5),(6,Bj),(13,z12),(14,z6),(15,z6)],[(100,Ea)]⟩
def Tz(k:Nat):dh:=⟨⟨[(0,z5),(1,z12)],[]⟩,⟨[(0,Bj),(1,z2)],[(100,Ea)]⟩,2,2,fun x=>GL k x.1 x.2⟩
theorem TA(k:Nat):gu Tryz.prog 139 (Tz k):=ok (cx [f34 k] 34 nb) Tryz.f139 fun h x=>Q (Q (Q (Q (X h) (Q (B (L TB (fun n x=>GL.l5 k n x.1.1 x.1.2.2.1 x.1.2.2.2.1 x.1.2.2.2.2 x.2) k fun n5=>X h)) (X h))) (X h)) (X h)) (X h)
def f139(k:Nat):Fc Tryz.prog:=⟨139,_,TA k⟩
def Yr(k:Nat):dh:=⟨⟨[(0,z6),(1,z6),(2,z1),(3,z6),(4,z5)],[]⟩,⟨[(0,Bj),(1,z6),(2,z2)],[(100,Ea)]⟩,5,3,fun x=>Mm k x.1 x.2.1 x.2.2.1 x.2.2.2.1 x.2.2.2.2⟩
theorem Yt(k:Nat):gu Tryz.prog 59 (Yr k):=ok (cx [f71 k,f133 k,f134 k,f135 k,f136 k,f137 k,f138 k,f139 k,f140 k,f141 k] 122 nb) Tryz.f59 fun h x=>X h
def f59(k:Nat):Fc Tryz.prog:=⟨59,_,Yt k⟩
def U6(k:Nat):dh:=⟨⟨[(0,z6),(1,z6),(2,z1),(3,z6),(4,z5)],[]⟩,⟨[(0,Bj),(1,z2)],[(100,Ea)]⟩,5,2,fun x=>J2 k x.1 x.2.1 x.2.2.1 x.2.2.2.1 x.2.2.2.2⟩
theorem U7(k:Nat):gu Tryz.prog 17 (U6 k):=ok (cx [f19 k,f34 k,f38 k,f59 k] 66 nb) Tryz.f17 fun h x=>X h
def f17(k:Nat):Fc Tryz.prog:=⟨17,_,U7 k⟩
def U_(k:Nat):dh:=⟨⟨[(0,z6)],[]⟩,⟨[(0,z6)],[]⟩,1,1,fun x=>KS k x⟩
theorem Va(k:Nat):gu Tryz.prog 182 (U_ k):=ok (cx [f181 k] 12 nb) Tryz.f182 fun h x=>X h
def f182(k:Nat):Fc Tryz.prog:=⟨182,_,Va k⟩
def Uh:SS:=⟨[(3,z6),(11,z6),(12,z6),(14,Bj),(71,Bj),(72,z6),(73,z6)],[(100,Bp)]⟩
def Uf(k:Nat):dh:=⟨⟨[(0,z1),(1,z6),(2,z6),(3,z6)],[]⟩,⟨[(0,Bj),(1,z6),(2,z2)],[(100,Bp)]⟩,4,3,fun x=>F7 k x.1 x.2.1 x.2.2.1 x.2.2.2⟩
theorem Ug(k:Nat):gu Tryz.prog 150 (Uf k):=ok (cx [f34 k,f140 k,f141 k,f182 k] 85 nb) Tryz.f150 fun h x=>Q (Q (Q (Q (Q (Q (Q (Q (X h) (Q (B (L Uh (fun n x=>F7.F9 k n x.1.1 x.1.2.1 x.1.2.2.1 x.1.2.2.2.2.2.1 x.1.2.2.2.2.2.2 x.2) k fun n12=>X h)) (X h))) (X h)) (X h)) (X h)) (X h)) (X h)) (X h)) (X h)
def f150(k:Nat):Fc Tryz.prog:=⟨150,_,Ug k⟩
def Wq:SS:=⟨[(0,z12),(3,z6),(4,z6)],[]⟩
def Wp:SS:=⟨[(0,z12)],[]⟩
def Wn(k:Nat):dh:=⟨⟨[(0,z12)],[]⟩,⟨[(0,z6)],[]⟩,1,1,fun x=>Fy k x⟩
theorem Wo(k:Nat):gu Tryz.prog 205 (Wn k):=ok (cx [] 25 nb) Tryz.f205 fun h x=>Q (Q (T (Q (Q (X h) (Q (B (L Wq (fun n x=>Fy.l5 k n x.1 x.2.1 x.2.2) k fun n5=>X h)) (X h))) (X h)) Wp fun x=>Fy.c3 k x) (X h)) (X h)
def f205(k:Nat):Fc Tryz.prog:=⟨205,_,Wo k⟩
def Ui(k:Nat):dh:=⟨⟨[(0,z1),(1,z6),(2,z6)],[]⟩,⟨[(0,Bj),(1,z2)],[(100,Bp)]⟩,3,2,fun x=>KW k x.1 x.2.1 x.2.2⟩
theorem Uj(k:Nat):gu Tryz.prog 151 (Ui k):=ok (cx [f141 k,f182 k,f205 k] 47 nb) Tryz.f151 fun h x=>X h
def f151(k:Nat):Fc Tryz.prog:=⟨151,_,Uj k⟩
def Y9:SS:=⟨[(2,z1),(3,z7),(4,z17),(15,z6),(16,(.h 102)),(17,z2)],[(100,FE),(101,Eb),(102,Bp)]⟩
def Y8:SS:=⟨[(2,z1),(3,z7),(4,z17),(15,z6)],[(100,FE),(101,Eb)]⟩
def Y7(k:Nat):dh:=⟨⟨[(0,z38),(1,(.ro QW)),(2,z1)],[]⟩,⟨[(0,Bj),(1,z31),(2,z1),(3,z2)],[(100,Bp),(101,Bp)]⟩,3,4,fun x=>Gn k x.1 x.2.1 x.2.2⟩
theorem Y_(k:Nat):gu Tryz.prog 72 (Y7 k):=ok (cx [f150 k,f151 k] 107 nb) Tryz.f72 fun h x=>Q (Q (Q (Q (Q (Q (X h) (K h Y9 (fun x=>Gn.d13 k x.1.1 x.1.2.2.2.1 x.1.2.2.2.2.2 x.2.1 x.2.2.1 x.2.2.2) [[0,1,3,5,6,7,8,2,4,9,10,11,12,13,14]] (O (fun x=>by kernel_rfl) (N)))) (K h Y8 (fun x=>Gn.d12 k x.1.1 x.1.2.2.2 x.2.1 x.2.2) [[0,1,4,5,6,7,2,3,8,9,10,11,12,13]] (O (fun x=>by kernel_rfl) (N)))) (X h)) (X h)) (X h)) (X h)
def f72(k:Nat):Fc Tryz.prog:=⟨72,_,Y_ k⟩
def Zd:SS:=⟨[(2,z12),(3,z7),(8,z31),(9,z6),(13,z12),(14,z6),(15,z6)],[(100,FE),(101,JC)]⟩
def Zc:SS:=⟨[(2,z12),(3,z7),(8,z31),(9,z6),(13,z12),(14,z6),(15,z6)],[(100,FE),(101,JC)]⟩
def Za(k:Nat):dh:=⟨⟨[(0,z38),(1,z12),(2,z12)],[]⟩,⟨[(0,Bj),(1,z6)],[(100,JC)]⟩,3,2,fun x=>EE k x.1 x.2.1 x.2.2⟩
theorem Zb(k:Nat):gu Tryz.prog 73 (Za k):=ok (cx [] 41 nb) Tryz.f73 fun h x=>Q (Q (Q (Q (X h) (Q (B (L Zc (fun n x=>EE.l4 k n x.1.1 x.1.2.2.2.1 x.1.2.2.2.2.1 x.1.2.2.2.2.2.1 x.1.2.2.2.2.2.2 x.2.1 x.2.2) k fun n4=>Q (Q (Q (T (X h) Zd fun x=>EE.c9 k (EE.l4 k n4) x.1.1 x.1.2.2.2.1 x.1.2.2.2.2.1 x.1.2.2.2.2.2.1 x.1.2.2.2.2.2.2 x.2.1 x.2.2) (X h)) (X h)) (X h))) (X h))) (X h)) (X h)) (X h)
def f73(k:Nat):Fc Tryz.prog:=⟨73,_,Zb k⟩
def Zh:SS:=⟨[(3,z6),(6,z60),(7,z6),(8,z6)],[]⟩
def Zg:SS:=⟨[(3,z6),(6,z60),(7,z6),(8,z6)],[]⟩
def Ze(k:Nat):dh:=⟨⟨[(0,z60)],[]⟩,⟨[(0,z6)],[]⟩,1,1,fun x=>EC k x⟩
theorem Zf(k:Nat):gu Tryz.prog 74 (Ze k):=ok (cx [] 19 nb) Tryz.f74 fun h x=>Q (Q (Q (X h) (Q (B (L Zg (fun n x=>EC.l3 k n x.1 x.2.1 x.2.2.1 x.2.2.2) k fun n3=>Q (Q (Q (T (X h) Zh fun x=>EC.c7 k (EC.l3 k n3) x.1 x.2.1 x.2.2.1 x.2.2.2) (X h)) (X h)) (X h))) (X h))) (X h)) (X h)
def f74(k:Nat):Fc Tryz.prog:=⟨74,_,Zf k⟩
def XN:SS:=⟨[(4,z7),(11,z17),(18,(.h 102)),(20,z5),(108,z6),(109,z6)],[(100,FE),(101,Eb),(102,JC)]⟩
def XM:SS:=⟨[(4,z7),(11,z17),(18,(.h 102)),(20,z5),(108,z6),(109,z6)],[(100,FE),(101,Eb),(102,JC)]⟩
def XK:SS:=⟨[(3,z5),(4,z7),(11,z17),(16,z1),(18,(.h 102)),(19,z6)],[(100,FE),(101,Eb),(102,JC)]⟩
def XJ(k:Nat):dh:=⟨⟨[(0,z38),(1,z1),(2,z6),(3,z5)],[]⟩,⟨[(0,Bj),(1,z6),(2,z6)],[(100,JC)]⟩,4,3,fun x=>Dw k x.1 x.2.1 x.2.2.1 x.2.2.2⟩
theorem XL(k:Nat):gu Tryz.prog 24 (XJ k):=ok (cx [f17 k,f70 k,f72 k,f73 k,f74 k] 136 nb) Tryz.f24 fun h x=>Q (Q (Q (Q (Q (Q (Q (Q (Q (Q (X h) (Q (B (L XM (fun n x=>Dw.Ch k n x.1.2.2.2.1 x.1.2.2.2.2.1 x.1.2.2.2.2.2 x.2.1 x.2.2.1 x.2.2.2) k fun n16=>Q (Q (Q (T (X h) XN fun x=>Dw.c21 k (Dw.Ch k n16) x.1.2.2.2.1 x.1.2.2.2.2.1 x.1.2.2.2.2.2 x.2.1 x.2.2.1 x.2.2.2) (X h)) (X h)) (X h))) (X h))) (X h)) (X h)) (Q (X h) (K h XK (fun x=>Dw.d10 k x.1.1 x.1.2.2.2.1 x.1.2.2.2.2.2 x.2.1 x.2.2.1 x.2.2.2) [[0,1,2,3,4,6,5,7,8,9,10,11,12,13,14,15],[0,1,2,3,4,6,7,5,8,9,10,11,12,13,14,15]] (O (fun x=>by kernel_rfl) (O (fun x=>by kernel_rfl) (N)))))) (X h)) (X h)) (X h)) (X h)) (X h)) (X h)
def f24(k:Nat):Fc Tryz.prog:=⟨24,_,XL k⟩
def Pf(k:Nat):dh:=⟨⟨[(0,z1)],[]⟩,⟨[(0,z2)],[]⟩,1,1,fun x=>NG k x⟩
theorem Pg(k:Nat):gu Tryz.prog 5 (Pf k):=ok (cx [f6 k,f18 k,f20 k,f21 k,f22 k,f23 k,f24 k] 82 nb) Tryz.f5 fun h x=>X h
def f5(k:Nat):Fc Tryz.prog:=⟨5,_,Pg k⟩
end Go.Proofs.YtceehofnlhfndaaGreat
