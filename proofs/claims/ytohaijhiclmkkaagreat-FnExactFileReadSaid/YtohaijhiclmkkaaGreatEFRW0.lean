/- walks through the claim's functions -/
import Derived.Test.YtohaijhiclmkkaaGreatBase
import Derived.Test.YtohaijhiclmkkaaGreatEFRF1
set_option linter.unusedVariables false
set_option maxRecDepth 100000
namespace Go.Proofs.YtohaijhiclmkkaaGreat
open Go.Am Go.Am.W Go.Fn
abbrev y0:Ty:= .list 5 (.int .u8)
abbrev z1:CS:= .ro y0
abbrev z2:CS:= .h 100
abbrev y3:Ty:= .int .i64
abbrev z4:CS:= .ro y3
abbrev w5:OS:= .sl 5 (.int .u8)
abbrev z6:CS:= .ro .bool
abbrev z7:CS:= .h 10
abbrev z8:CS:= .ro .str
abbrev u9:Ty:= .cons y3 .nil
abbrev CU:Ty:= .st (.cons y3 (.cons y3 (.cons y3 (.cons .str u9))))
abbrev BV:OS:= .sl 174 CU
abbrev Dy:Ty:= .st (.cons .str (.cons y3 (.cons y3 u9)))
abbrev z_:CS:= .ro (.list 151 Dy)
abbrev zT:CS:= .p 100
abbrev Bq:CS:= .h 101
abbrev v16:CS:= .cons z4 .nil
abbrev z17:CS:= .agg (.cons z8 (.cons z4 (.cons z4 v16)))
abbrev Js:OS:= .box Dy z17
abbrev Ic:OS:= .sl 9 .str
abbrev zm:OS:= .sl 3 y3
abbrev u21:Ty:= .cons (.list 3 y3) .nil
abbrev y22:Ty:= .st (.cons y3 (.cons y3 (.cons y3 (.cons y3 (.cons y3 u21)))))
abbrev z23:CS:= .ro (.list 3 y3)
abbrev Mv:OS:= .box y22 (.agg (.cons z4 (.cons z4 (.cons z4 (.cons z4 (.cons z4 (.cons z23 .nil)))))))
abbrev z25:CS:= .ro y22
abbrev z26:CS:= .p 102
abbrev y27:Ty:= .st (.cons y3 (.cons (.list 51 y22) .nil))
abbrev y28:Ty:= .st (.cons (.list 151 Dy) (.cons y3 (.cons (.list 121 y27) .nil)))
abbrev z29:CS:= .ro (.list 121 y27)
abbrev Ku:OS:= .box y28 (.agg (.cons z_ (.cons z4 (.cons z29 .nil))))
abbrev z31:CS:= .ro (.list 51 y22)
abbrev w32:OS:= .box y27 (.agg (.cons z4 (.cons z31 .nil)))
abbrev z33:CS:= .ro (.list 174 CU)
abbrev z34:CS:= .agg (.cons z4 (.cons z4 (.cons z4 (.cons z8 v16))))
abbrev Mw:OS:= .box CU z34
abbrev z36:CS:= .p 101
abbrev BK:OS:= .sl 151 Dy
abbrev z38:CS:= .h 102
abbrev NQ:OS:= .box y22 (.agg (.cons z4 (.cons z4 (.cons z4 (.cons z4 (.cons z4 (.cons z38 .nil)))))))
abbrev z40:CS:= .h 103
abbrev v41:CS:= .cons z4 (.cons z40 .nil)
abbrev NR:OS:= .box y22 (.agg (.cons z4 (.cons z4 (.cons z4 (.cons z4 v41)))))
abbrev z43:CS:= .p 103
abbrev z44:CS:= .h 104
abbrev v45:CS:= .cons z4 (.cons z44 .nil)
abbrev PK:OS:= .box y22 (.agg (.cons z4 (.cons z4 (.cons z4 (.cons z4 v45)))))
abbrev z47:CS:= .h 105
abbrev NS:OS:= .box y22 (.agg (.cons z4 (.cons z4 (.cons z4 (.cons z4 (.cons z4 (.cons z47 .nil)))))))
abbrev v49:CS:= .cons z4 (.cons (.h 106) .nil)
abbrev PL:OS:= .box y22 (.agg (.cons z4 (.cons z4 (.cons z4 (.cons z4 v49)))))
abbrev v51:CS:= .cons z4 (.cons (.h 107) .nil)
abbrev UB:OS:= .box y22 (.agg (.cons z4 (.cons z4 (.cons z4 (.cons z4 v51)))))
abbrev z53:CS:= .agg (.cons z4 (.cons z4 (.cons z4 (.cons z4 (.cons z4 (.cons z2 .nil))))))
abbrev z54:CS:= .p 104
abbrev UC:OS:= .box y28 (.agg (.cons (.h 107) (.cons z4 (.cons (.h 108) .nil))))
abbrev FU:OS:= .sl 121 y27
abbrev Mx:OS:= .sl 51 y22
abbrev z58:CS:= .agg (.cons z2 (.cons z4 (.cons Bq .nil)))
abbrev PR:Ty:= .st (.cons y3 (.cons y3 u9))
abbrev z60:CS:= .ro PR
abbrev I8:Ty:= .st (.cons y3 (.cons .str .nil))
abbrev z62:CS:= .agg (.cons z4 (.cons z8 .nil))
abbrev Fp:OS:= .box I8 z62
abbrev zg:OS:= .sl 93 I8
abbrev z65:CS:= .ro I8
abbrev z66:CS:= .ro (.list 93 I8)
abbrev MF:Ty:= .st (.cons y3 (.cons .bool (.cons I8 (.cons I8 .nil))))
abbrev z68:CS:= .agg (.cons z4 (.cons z4 v16))
abbrev BL:OS:= .box PR z68
abbrev z70:CS:= .agg (.cons z4 (.cons z6 (.cons z62 (.cons z62 .nil))))
abbrev K9:OS:= .box MF z70
abbrev MG:Ty:= .st (.cons y3 (.cons y3 (.cons y3 (.cons y3 (.cons y3 (.cons y3 (.cons y3 (.cons y3 (.cons .bool (.cons y3 (.cons .bool (.cons MF u9))))))))))))
abbrev z73:CS:= .agg (.cons z4 (.cons z4 (.cons z4 (.cons z4 (.cons z4 (.cons z4 (.cons z4 (.cons z4 (.cons z6 (.cons z4 (.cons z6 (.cons z70 v16))))))))))))
abbrev BP:OS:= .box MG z73
abbrev Jt:Ty:= .st (.cons y3 (.cons y3 (.cons I8 .nil)))
abbrev EO:OS:= .sl 106 Jt
abbrev z77:CS:= .agg (.cons z4 (.cons z4 (.cons z62 .nil)))
abbrev z78:CS:= .ro (.list 106 Jt)
abbrev La:Ty:= .st (.cons (.list 106 Jt) .nil)
abbrev z80:CS:= .ro (.list 210 La)
abbrev Ky:Ty:= .st (.cons (.list 93 I8) .nil)
abbrev ER:OS:= .sl 154 Ky
abbrev z83:CS:= .p 0
abbrev PS:Ty:= .st (.cons y0 (.cons y3 (.cons (.list 174 CU) u9)))
abbrev ES:OS:= .box PS (.agg (.cons z1 (.cons z4 (.cons z7 v16))))
abbrev G6:OS:= .box PS (.agg (.cons z1 (.cons z4 (.cons z2 v16))))
abbrev z87:CS:= .ro (.int .u64)
abbrev Kz:Ty:= .st (.cons (.list 174 CU) u21)
abbrev z89:CS:= .agg (.cons z33 (.cons z7 .nil))
abbrev FV:OS:= .box Kz z89
abbrev Kv:OS:= .aU Kz z89
abbrev PG:Ty:= .cons .bool .nil
abbrev v93:CS:= .cons z6 .nil
abbrev Et:OS:= .box (.st (.cons .ptr PG)) (.agg (.cons (.p 10) v93))
abbrev UO:CS:= .agg (.cons z33 (.cons (.h 11) .nil))
abbrev Cq:OS:= .box Kz UO
abbrev PT:CS:= .ro (.list 9 .str)
abbrev y98:Ty:= .st (.cons .ptr (.cons y3 PG))
abbrev Gg:OS:= .box y98 (.agg (.cons (.p 10) (.cons z4 v93)))
abbrev Ux:OS:= .box y98 (.agg (.cons (.p 105) (.cons z4 v93)))
abbrev Uy:OS:= .box Kz (.agg (.cons z33 (.cons (.h 106) .nil)))
abbrev Uz:OS:= .box Kz (.agg (.cons z33 (.cons z47 .nil)))
abbrev UA:OS:= .box y98 (.agg (.cons z26 (.cons z4 v93)))
abbrev y104:Ty:= .st (.cons y0 (.cons y3 (.cons .bool u21)))
abbrev Ms:OS:= .box y104 (.agg (.cons z1 (.cons z4 (.cons z6 (.cons z7 .nil)))))
abbrev NP:OS:= .box y104 (.agg (.cons z1 (.cons z4 (.cons z6 (.cons Bq .nil)))))
abbrev ME:Ty:= .st (.cons (.list 151 Dy) (.cons (.list 210 La) (.cons (.list 3 y3) (.cons (.list 3 y3) (.cons (.list 93 I8) (.cons .bool PG))))))
abbrev G5:OS:= .box ME (.agg (.cons z_ (.cons z80 (.cons z23 (.cons z7 (.cons (.h 11) (.cons z6 v93)))))))
abbrev K8:OS:= .box ME (.agg (.cons z_ (.cons z80 (.cons z23 (.cons z7 (.cons z2 (.cons z6 v93)))))))
abbrev Q9:OS:= .box ME (.agg (.cons z_ (.cons z80 (.cons z23 (.cons z7 (.cons .any (.cons z6 v93)))))))
abbrev MH:CS:= .ro (.list 154 Ky)
def Xz:SS:=⟨[(0,z1),(3,z2),(4,z4)],[(100,w5)]⟩
def Xx(k:Nat):bZ:=⟨⟨[(0,z1)],[]⟩,⟨[(0,z2)],[(100,w5)]⟩,1,1,fun x=>Gs k x⟩
theorem Xy(k:Nat):fM Tryz.prog 12 (Xx k):=ok (cx [] 22 nb) Tryz.f12 fun h x=>Q (Q (Q (X h) (Q (B (L Xz (fun n x=>Gs.l3 k n x.1.1 x.1.2.2 x.2) k fun n3=>X h)) (X h))) (X h)) (X h)
def f12(k:Nat):Fc Tryz.prog:=⟨12,_,Xy k⟩
def YV:SS:=⟨[(0,z1),(1,z1),(5,z4)],[]⟩
def YT(k:Nat):bZ:=⟨⟨[(0,z1),(1,z1)],[]⟩,⟨[(0,z6)],[]⟩,2,1,fun x=>IE k x.1 x.2⟩
theorem YU(k:Nat):fM Tryz.prog 16 (YT k):=ok (cx [] 26 nb) Tryz.f16 fun h x=>Q (Q (Q (X h) (Q (B (L YV (fun n x=>IE.l4 k n x.1 x.2.1 x.2.2) k fun n4=>X h)) (X h))) (X h)) (X h)
def f16(k:Nat):Fc Tryz.prog:=⟨16,_,YU k⟩
def aac:SS:=⟨[(0,z7),(1,z4),(5,z4)],[(10,w5)]⟩
def aaa(k:Nat):bZ:=⟨⟨[(0,z7),(1,z4)],[(10,w5)]⟩,⟨[(0,z4)],[(10,w5)]⟩,2,1,fun x=>II k x.1.2 x.2⟩
theorem aab(k:Nat):fM Tryz.prog 18 (aaa k):=ok (cx [] 20 nb) Tryz.f18 fun h x=>Q (Q (X h) (Q (B (L aac (fun n x=>II.l2 k n x.1.2.1 x.1.2.2 x.2) k fun n2=>X h)) (X h))) (X h)
def f18(k:Nat):Fc Tryz.prog:=⟨18,_,aab k⟩
def aiv(k:Nat):bZ:=⟨⟨[(0,z4),(1,z4),(2,z4)],[]⟩,⟨[(0,z6)],[]⟩,3,1,fun x=>A8 k x.1 x.2.1 x.2.2⟩
theorem aiw(k:Nat):fM Tryz.prog 80 (aiv k):=ok (cx [] 15 nb) Tryz.f80 fun h x=>X h
def f80(k:Nat):Fc Tryz.prog:=⟨80,_,aiw k⟩
def Xj:SS:=⟨[(0,z1),(1,z4),(2,z4),(9,z4),(10,z4)],[]⟩
def Xh(k:Nat):bZ:=⟨⟨[(0,z1),(1,z4),(2,z4)],[]⟩,⟨[(0,z4),(1,z4),(2,z6)],[]⟩,3,3,fun x=>Ec k x.1 x.2.1 x.2.2⟩
theorem Xi(k:Nat):fM Tryz.prog 125 (Xh k):=ok (cx [f80 k] 53 nb) Tryz.f125 fun h x=>Q (Q (Q (Q (X h) (Q (B (L Xj (fun n x=>Ec.l5 k n x.1 x.2.1 x.2.2.1 x.2.2.2.1 x.2.2.2.2) k fun n5=>X h)) (X h))) (X h)) (X h)) (X h)
def f125(k:Nat):Fc Tryz.prog:=⟨125,_,Xi k⟩
def acv:SS:=⟨[(0,z1),(1,z4),(7,z4),(8,z4)],[]⟩
def acs(k:Nat):bZ:=⟨⟨[(0,z1),(1,z4)],[]⟩,⟨[(0,z4),(1,z4),(2,z6)],[]⟩,2,3,fun x=>DZ k x.1 x.2⟩
theorem acu(k:Nat):fM Tryz.prog 242 (acs k):=ok (cx [] 57 nb) Tryz.f242 fun h x=>Q (Q (Q (Q (X h) (Q (B (L acv (fun n x=>DZ.l5 k n x.1 x.2.1 x.2.2.1 x.2.2.2) k fun n5=>X h)) (X h))) (X h)) (X h)) (X h)
def f242(k:Nat):Fc Tryz.prog:=⟨242,_,acu k⟩
def acw(k:Nat):bZ:=⟨⟨[(0,z4),(1,z4)],[]⟩,⟨[(0,z4)],[]⟩,2,1,fun x=>JP k x.1 x.2⟩
theorem acy(k:Nat):fM Tryz.prog 243 (acw k):=ok (cx [] 16 nb) Tryz.f243 fun h x=>X h
def f243(k:Nat):Fc Tryz.prog:=⟨243,_,acy k⟩
def aeQ(k:Nat):bZ:=⟨⟨[(0,z4)],[]⟩,⟨[(0,z4)],[]⟩,1,1,fun x=>Pw k x⟩
theorem aeR(k:Nat):fM Tryz.prog 293 (aeQ k):=ok (cx [f243 k] 11 nb) Tryz.f293 fun h x=>X h
def f293(k:Nat):Fc Tryz.prog:=⟨293,_,aeR k⟩
def ab2(k:Nat):bZ:=⟨⟨[(0,z1),(1,z4)],[]⟩,⟨[(0,z4),(1,z4),(2,z6)],[]⟩,2,3,fun x=>Jp k x.1 x.2⟩
theorem ab3(k:Nat):fM Tryz.prog 233 (ab2 k):=ok (cx [f242 k,f293 k] 22 nb) Tryz.f233 fun h x=>X h
def f233(k:Nat):Fc Tryz.prog:=⟨233,_,ab3 k⟩
def ab4(k:Nat):bZ:=⟨⟨[(0,z4)],[]⟩,⟨[(0,z6)],[]⟩,1,1,fun x=>K5 k x⟩
theorem ab5(k:Nat):fM Tryz.prog 234 (ab4 k):=ok (cx [f80 k] 5 nb) Tryz.f234 fun h x=>X h
def f234(k:Nat):Fc Tryz.prog:=⟨234,_,ab5 k⟩
def ab6(k:Nat):bZ:=⟨⟨[(0,z1),(1,z4)],[]⟩,⟨[(0,z8),(1,z4),(2,z4)],[]⟩,2,3,fun x=>PC k x.1 x.2⟩
theorem ab7(k:Nat):fM Tryz.prog 235 (ab6 k):=ok (cx [f242 k] 44 nb) Tryz.f235 fun h x=>X h
def f235(k:Nat):Fc Tryz.prog:=⟨235,_,ab7 k⟩
def aeW:SS:=⟨[(4,z6)],[]⟩
def aeU(k:Nat):bZ:=⟨⟨[(0,z4)],[]⟩,⟨[(0,z6)],[]⟩,1,1,fun x=>Gc k x⟩
theorem aeV(k:Nat):fM Tryz.prog 295 (aeU k):=ok (cx [] 12 nb) Tryz.f295 fun h x=>Q (Q (X h) (Q (B (Q (T (X h) aeW fun x=>Gc.c9 k x) (X h))) (X h))) (X h)
def f295(k:Nat):Fc Tryz.prog:=⟨295,_,aeV k⟩
def aeS(k:Nat):bZ:=⟨⟨[(0,z4)],[]⟩,⟨[(0,z6)],[]⟩,1,1,fun x=>NG k x⟩
theorem aeT(k:Nat):fM Tryz.prog 294 (aeS k):=ok (cx [f295 k] 13 nb) Tryz.f294 fun h x=>X h
def f294(k:Nat):Fc Tryz.prog:=⟨294,_,aeT k⟩
def ab_:SS:=⟨[(1,z4),(8,z4),(9,z4)],[]⟩
def ab8(k:Nat):bZ:=⟨⟨[(0,z1),(1,z4)],[]⟩,⟨[(0,z4),(1,z4),(2,z4),(3,z4)],[]⟩,2,4,fun x=>Jr k x.1 x.2⟩
theorem ab9(k:Nat):fM Tryz.prog 236 (ab8 k):=ok (cx [f242 k,f294 k] 62 nb) Tryz.f236 fun h x=>Q (Q (Q (Q (Q (T (X h) ab_ fun x=>Jr.c11 k x.1 x.2.1 x.2.2) (X h)) (X h)) (X h)) (X h)) (X h)
def f236(k:Nat):Fc Tryz.prog:=⟨236,_,ab9 k⟩
def acf:SS:=⟨[(1,z4),(2,z4),(10,z4),(12,z4)],[]⟩
def acd(k:Nat):bZ:=⟨⟨[(0,z1),(1,z4),(2,z4)],[]⟩,⟨[(0,z4),(1,z4),(2,z4),(3,z4)],[]⟩,3,4,fun x=>Jq k x.1 x.2.1 x.2.2⟩
theorem ace(k:Nat):fM Tryz.prog 237 (acd k):=ok (cx [f80 k,f233 k,f295 k] 71 nb) Tryz.f237 fun h x=>Q (Q (Q (Q (Q (Q (Q (Q (T (X h) acf fun x=>Jq.c16 k x.1 x.2.1 x.2.2.1 x.2.2.2) (X h)) (X h)) (X h)) (X h)) (X h)) (X h)) (X h)) (X h)
def f237(k:Nat):Fc Tryz.prog:=⟨237,_,ace k⟩
def Yr:SS:=⟨[(0,z1),(4,z4),(5,z2),(22,z4),(23,z4),(24,z4),(25,z4),(26,z4)],[(100,BV)]⟩
def Yt:SS:=⟨[(0,z1),(1,z4),(4,z4),(5,z2),(15,z4),(27,z4),(28,z4)],[(100,BV)]⟩
def Yu:SS:=⟨[(0,z1),(1,z4),(2,z4),(4,z4),(5,z2),(15,z4),(49,z4),(50,z6)],[(100,BV)]⟩
def Om(F:(List Int)→Int→Int→Int→Int→(List zf)→Option ((Unit×Int×Int)×(List zf))):bZ:=⟨⟨[(0,z1),(1,z4),(2,z4),(3,z4),(4,z4),(5,z7)],[(10,BV)]⟩,⟨[(0,z2),(1,z4),(2,z4)],[(100,BV)]⟩,6,3,fun x=>F x.1.1 x.1.2.1 x.1.2.2.1 x.1.2.2.2.1 x.1.2.2.2.2.1 x.2⟩
theorem Yq(k:Nat)(EW:(List Int)→Int→Int→Int→Int→(List zf)→Option ((Unit×Int×Int)×(List zf)))(ai8:fM Tryz.prog 162 (Om EW)):fM Tryz.prog 162 (Om (AJ.b k EW)):=ok (cx [⟨162,_,ai8⟩,f233 k,f234 k,f235 k,f236 k,f237 k] 183 nb) Tryz.f162 fun h x=>Q (Q (Q (Q (Q (X h) (Q (B (Q (T (D (X h) (Q (D (X h) (Q (D (Q (Q (Q (Q (X h) (Q (B (L Yr (fun n x=>AJ.Ea k EW n x.1.1 x.1.2.1 x.1.2.2.2.1 x.1.2.2.2.2.1 x.1.2.2.2.2.2.1 x.1.2.2.2.2.2.2.1 x.1.2.2.2.2.2.2.2 x.2) k fun n24=>X h)) (X h))) (X h)) (X h)) (X h)) (Q (D (Q (B (L Yt (fun n x=>AJ.LY k EW n x.1.1 x.1.2.1 x.1.2.2.1 x.1.2.2.2.2.1 x.1.2.2.2.2.2.1 x.1.2.2.2.2.2.2 x.2) k fun n30=>X h)) (X h)) (X h)) (X h))) (X h))) (X h))) Yu fun x=>AJ.c8 k EW x.1.1 x.1.2.1 x.1.2.2.1 x.1.2.2.2.1 x.1.2.2.2.2.2.1 x.1.2.2.2.2.2.2.1 x.1.2.2.2.2.2.2.2 x.2) (X h))) (X h))) (X h)) (X h)) (X h)) (X h)
theorem R7(k:Nat):∀d,fM Tryz.prog 162 (Om (AJ.d k d))
 |0=>yL (fun _=>rfl)
 |d+1=>let ih:=R7 k d
  Yq k (AJ.d k d) ih
theorem Yp(k:Nat):fM Tryz.prog 162 (Om (AJ k)):=(R7 k k)
def f162(k:Nat):Fc Tryz.prog:=⟨162,_,Yp k⟩
def VV(k:Nat):bZ:=⟨⟨[(0,z1),(1,z4)],[]⟩,⟨[(0,z2),(1,z4),(2,z4)],[(100,BV)]⟩,2,3,fun x=>Mk k x.1 x.2⟩
theorem VW(k:Nat):fM Tryz.prog 107 (VV k):=ok (cx [f162 k] 34 nb) Tryz.f107 fun h x=>X h
def f107(k:Nat):Fc Tryz.prog:=⟨107,_,VW k⟩
def Yx:SS:=⟨[(4,z6)],[]⟩
def Yv(k:Nat):bZ:=⟨⟨[(0,z4)],[]⟩,⟨[(0,z6)],[]⟩,1,1,fun x=>FQ k x⟩
theorem Yw(k:Nat):fM Tryz.prog 163 (Yv k):=ok (cx [] 10 nb) Tryz.f163 fun h x=>Q (Q (X h) (Q (B (Q (T (X h) Yx fun x=>FQ.c7 k x) (X h))) (X h))) (X h)
def f163(k:Nat):Fc Tryz.prog:=⟨163,_,Yw k⟩
def aef:SS:=⟨[(0,z8),(3,z4)],[]⟩
def aed(k:Nat):bZ:=⟨⟨[(0,z8)],[]⟩,⟨[(0,z6)],[]⟩,1,1,fun x=>I7 k x⟩
theorem aee(k:Nat):fM Tryz.prog 277 (aed k):=ok (cx [f80 k] 24 nb) Tryz.f277 fun h x=>Q (Q (Q (X h) (Q (B (L aef (fun n x=>I7.l4 k n x.1 x.2) k fun n4=>X h)) (X h))) (X h)) (X h)
def f277(k:Nat):Fc Tryz.prog:=⟨277,_,aee k⟩
def abl:SS:=⟨[(0,z_),(2,z4),(7,zT),(8,z4),(9,Bq),(10,z4),(11,z4)],[(100,Js),(101,Ic)]⟩
def abk:SS:=⟨[(0,z_),(2,z4),(7,zT),(8,z4),(9,Bq),(10,z4)],[(100,Js),(101,Ic)]⟩
def Oq(F:(List ze)→Int→Int→Option Int):bZ:=⟨⟨[(0,z_),(1,z4),(2,z4)],[]⟩,⟨[(0,z4)],[]⟩,3,1,fun x=>F x.1 x.2.1 x.2.2⟩
theorem abj(k:Nat)(Gy:(List ze)→Int→Int→Option Int)(ai_:fM Tryz.prog 210 (Oq Gy)):fM Tryz.prog 210 (Oq (B_.b k Gy)):=ok (cx [f80 k,f163 k,⟨210,_,ai_⟩,f277 k] 119 nb) Tryz.f210 fun h x=>Q (Q (Q (Q (Q (Q (Q (Q (Q (X h) (Q (B (L abk (fun n x=>B_.BX k Gy n x.1.1 x.1.2.1 x.1.2.2.2.1 x.1.2.2.2.2.2 x.2.1 x.2.2) k fun n15=>Q (Q (X h) (B (Q (Q (X h) (Q (B (L abl (fun n x=>B_.D_ k Gy (B_.BX k Gy n15) n x.1.1 x.1.2.1 x.1.2.2.2.1 x.1.2.2.2.2.2.1 x.1.2.2.2.2.2.2 x.2.1 x.2.2) k fun n20=>X h)) (X h))) (X h)))) (X h))) (X h))) (X h)) (X h)) (X h)) (X h)) (X h)) (X h)) (X h)) (X h)
theorem Sa(k:Nat):∀d,fM Tryz.prog 210 (Oq (B_.d k d))
 |0=>yL (fun _=>rfl)
 |d+1=>let ih:=Sa k d
  abj k (B_.d k d) ih
theorem abh(k:Nat):fM Tryz.prog 210 (Oq (B_ k)):=(Sa k k)
def f210(k:Nat):Fc Tryz.prog:=⟨210,_,abh k⟩
def XO(k:Nat):bZ:=⟨⟨[(0,z_)],[]⟩,⟨[(0,z6)],[]⟩,1,1,fun x=>Eb k x⟩
theorem XP(k:Nat):fM Tryz.prog 137 (XO k):=ok (cx [f80 k,f210 k] 13 nb) Tryz.f137 fun h x=>X h
def f137(k:Nat):Fc Tryz.prog:=⟨137,_,XP k⟩
def aa6:SS:=⟨[(0,z_),(3,z2),(4,z4)],[(100,zm)]⟩
def aa5:SS:=⟨[(0,z_),(3,z2),(4,z4)],[(100,zm)]⟩
def aa3(k:Nat):bZ:=⟨⟨[(0,z_)],[]⟩,⟨[(0,z2)],[(100,zm)]⟩,1,1,fun x=>Dh k x⟩
theorem aa4(k:Nat):fM Tryz.prog 205 (aa3 k):=ok (cx [] 23 nb) Tryz.f205 fun h x=>Q (Q (Q (X h) (Q (B (L aa5 (fun n x=>Dh.l3 k n x.1.1 x.1.2.2 x.2) k fun n3=>Q (Q (T (X h) aa6 fun x=>Dh.c4 k (Dh.l3 k n3) x.1.1 x.1.2.2 x.2) (X h)) (X h))) (X h))) (X h)) (X h)
def f205(k:Nat):Fc Tryz.prog:=⟨205,_,aa4 k⟩
def Xm(k:Nat):bZ:=⟨⟨[(0,z_)],[]⟩,⟨[(0,z2)],[(100,zm)]⟩,1,1,fun x=>JO k x⟩
theorem Xn(k:Nat):fM Tryz.prog 127 (Xm k):=ok (cx [f137 k,f205 k] 9 nb) Tryz.f127 fun h x=>X h
def f127(k:Nat):Fc Tryz.prog:=⟨127,_,Xn k⟩
def XR:SS:=⟨[(2,zT),(5,z4)],[(100,Mv)]⟩
def XU:SS:=⟨[(2,zT),(5,z4)],[(100,Mv)]⟩
def XQ(k:Nat):bZ:=⟨⟨[(0,z25),(1,z4)],[]⟩,⟨[(0,z6)],[]⟩,2,1,fun x=>EM k x.1 x.2⟩
theorem XT(k:Nat):fM Tryz.prog 138 (XQ k):=ok (cx [f80 k] 73 nb) Tryz.f138 fun h x=>Q (Q (Q (X h) (Q (B (L XU (fun n x=>EM.l4 k n x.1.2 x.2) k fun n4=>Q (Q (X h) (B (Q (X h) (K h XR (fun x=>EM.d6 k (EM.l4 k n4) x.1.2 x.2) [[0,2,1,3,4,5,6,7,8,9,10,11,12,13,14,15,16,17,18,19,20,21,22,23,24]] (O (fun x=>by kernel_rfl) (N)))))) (X h))) (X h))) (X h)) (X h)
def f138(k:Nat):Fc Tryz.prog:=⟨138,_,XT k⟩
def ait:SS:=⟨[(1,zT),(3,Bq),(4,z4),(5,z4),(6,z26),(7,z4)],[(100,Ku),(101,zm),(102,w32)]⟩
def aiu:SS:=⟨[(1,zT),(3,Bq),(4,z4),(5,z4)],[(100,Ku),(101,zm)]⟩
def air(k:Nat):bZ:=⟨⟨[(0,(.ro y28))],[]⟩,⟨[(0,z6)],[]⟩,1,1,fun x=>CR k x⟩
theorem ais(k:Nat):fM Tryz.prog 79 (air k):=ok (cx [f80 k,f127 k,f137 k,f138 k] 74 nb) Tryz.f79 fun h x=>Q (Q (Q (Q (Q (X h) (Q (B (L aiu (fun n x=>CR.l6 k n x.1.2.2.1 x.1.2.2.2 x.2.1 x.2.2) k fun n6=>Q (Q (X h) (B (Q (Q (Q (Q (B (L ait (fun n x=>CR.A_ k (CR.l6 k n6) n x.1.2.2.1 x.1.2.2.2.1 x.1.2.2.2.2.2 x.2.1 x.2.2.1 x.2.2.2) k fun n13=>X h)) (X h)) (X h)) (X h)) (X h)))) (X h))) (X h))) (X h)) (X h)) (X h)) (X h)
def f79(k:Nat):Fc Tryz.prog:=⟨79,_,ais k⟩
def YC:SS:=⟨[(0,z33),(1,z4),(5,z4),(6,z4)],[]⟩
def Oo(F:(List zf)→Int→Option Int):bZ:=⟨⟨[(0,z33),(1,z4)],[]⟩,⟨[(0,z4)],[]⟩,2,1,fun x=>F x.1 x.2⟩
theorem YB(k:Nat)(JW:(List zf)→Int→Option Int)(ai9:fM Tryz.prog 165 (Oo JW)):fM Tryz.prog 165 (Oo (Dr.b k JW)):=ok (cx [⟨165,_,ai9⟩] 22 nb) Tryz.f165 fun h x=>Q (Q (Q (X h) (Q (B (L YC (fun n x=>Dr.l3 k JW n x.1 x.2.1 x.2.2.1 x.2.2.2) k fun n3=>X h)) (X h))) (X h)) (X h)
theorem R8(k:Nat):∀d,fM Tryz.prog 165 (Oo (Dr.d k d))
 |0=>yL (fun _=>rfl)
 |d+1=>let ih:=R8 k d
  YB k (Dr.d k d) ih
theorem YA(k:Nat):fM Tryz.prog 165 (Oo (Dr k)):=(R8 k k)
def f165(k:Nat):Fc Tryz.prog:=⟨165,_,YA k⟩
def Wj:SS:=⟨[(0,z33),(1,z4),(2,z4),(7,z4),(8,z4)],[]⟩
def Wh(k:Nat):bZ:=⟨⟨[(0,z33),(1,z4),(2,z4)],[]⟩,⟨[(0,z4)],[]⟩,3,1,fun x=>CF k x.1 x.2.1 x.2.2⟩
theorem Wi(k:Nat):fM Tryz.prog 110 (Wh k):=ok (cx [f165 k] 37 nb) Tryz.f110 fun h x=>Q (Q (Q (Q (X h) (Q (B (L Wj (fun n x=>CF.l5 k n x.1 x.2.1 x.2.2.1 x.2.2.2.1 x.2.2.2.2) k fun n5=>X h)) (X h))) (X h)) (X h)) (X h)
def f110(k:Nat):Fc Tryz.prog:=⟨110,_,Wi k⟩
def Yy(k:Nat):bZ:=⟨⟨[(0,z33),(1,z4),(2,z4)],[]⟩,⟨[(0,z4),(1,z6)],[]⟩,3,2,fun x=>GZ k x.1 x.2.1 x.2.2⟩
theorem Yz(k:Nat):fM Tryz.prog 164 (Yy k):=ok (cx [f110 k] 36 nb) Tryz.f164 fun h x=>X h
def f164(k:Nat):Fc Tryz.prog:=⟨164,_,Yz k⟩
def agH:SS:=⟨[(1,zT),(4,z4),(5,z6)],[(100,Mw)]⟩
def agF(k:Nat):bZ:=⟨⟨[(0,(.ro CU))],[]⟩,⟨[(0,z6)],[]⟩,1,1,fun x=>JQ k x⟩
theorem agG(k:Nat):fM Tryz.prog 327 (agF k):=ok (cx [f234 k,f294 k] 107 nb) Tryz.f327 fun h x=>Q (Q (X h) (Q (B (Q (T (X h) agH fun x=>JQ.c4 k x.1.2.1 x.1.2.2 x.2) (X h))) (X h))) (X h)
def f327(k:Nat):Fc Tryz.prog:=⟨327,_,agG k⟩
def afI:SS:=⟨[(0,z33),(2,z4),(7,zT),(8,z4),(9,z4),(10,z4)],[(100,Mw)]⟩
def Oz(F:(List zf)→Int→Int→Option Int):bZ:=⟨⟨[(0,z33),(1,z4),(2,z4)],[]⟩,⟨[(0,z4)],[]⟩,3,1,fun x=>F x.1 x.2.1 x.2.2⟩
theorem afH(k:Nat)(JZ:(List zf)→Int→Int→Option Int)(ajd:fM Tryz.prog 309 (Oz JZ)):fM Tryz.prog 309 (Oz (Ck.b k JZ)):=ok (cx [⟨309,_,ajd⟩,f327 k] 89 nb) Tryz.f309 fun h x=>Q (Q (Q (Q (Q (Q (X h) (Q (B (L afI (fun n x=>Ck.l7 k JZ n x.1.1 x.1.2.1 x.1.2.2.2.1 x.1.2.2.2.2.1 x.1.2.2.2.2.2 x.2) k fun n7=>X h)) (X h))) (X h)) (X h)) (X h)) (X h)) (X h)
theorem Sg(k:Nat):∀d,fM Tryz.prog 309 (Oz (Ck.d k d))
 |0=>yL (fun _=>rfl)
 |d+1=>let ih:=Sg k d
  afH k (Ck.d k d) ih
theorem afG(k:Nat):fM Tryz.prog 309 (Oz (Ck k)):=(Sg k k)
def f309(k:Nat):Fc Tryz.prog:=⟨309,_,afG k⟩
def adI(k:Nat):bZ:=⟨⟨[(0,z33)],[]⟩,⟨[(0,z6)],[]⟩,1,1,fun x=>K4 k x⟩
theorem adJ(k:Nat):fM Tryz.prog 268 (adI k):=ok (cx [f80 k,f309 k] 26 nb) Tryz.f268 fun h x=>X h
def f268(k:Nat):Fc Tryz.prog:=⟨268,_,adJ k⟩
def acg(k:Nat):bZ:=⟨⟨[(0,z33),(1,z4),(2,z4)],[]⟩,⟨[(0,z8),(1,z6)],[]⟩,3,2,fun x=>Kr k x.1 x.2.1 x.2.2⟩
theorem ach(k:Nat):fM Tryz.prog 238 (acg k):=ok (cx [f110 k] 28 nb) Tryz.f238 fun h x=>X h
def f238(k:Nat):Fc Tryz.prog:=⟨238,_,ach k⟩
def afL:SS:=⟨[(0,z33),(1,z4),(6,zT),(9,z6),(11,z6),(13,z6),(15,z6),(16,z36)],[(100,Js),(101,Js)]⟩
def afM:SS:=⟨[(0,z33),(1,z4),(6,zT),(9,z6),(11,z6),(12,z4),(13,z6),(15,z6),(16,z36)],[(100,Js),(101,Js)]⟩
def afJ(k:Nat):bZ:=⟨⟨[(0,z33),(1,z4),(2,z6)],[]⟩,⟨[(0,z17),(1,z6)],[]⟩,3,2,fun x=>Gd k x.1 x.2.1 x.2.2⟩
theorem afK(k:Nat):fM Tryz.prog 310 (afJ k):=ok (cx [f110 k,f164 k,f238 k] 82 nb) Tryz.f310 fun h x=>Q (Q (Q (Q (Q (Q (Q (T (Q (T (X h) afL fun x=>Gd.c12 k x.1.1 x.1.2.1 x.1.2.2.2.1 x.1.2.2.2.2.1 x.1.2.2.2.2.2.1 x.1.2.2.2.2.2.2.1 x.2.1 x.2.2) (X h)) afM fun x=>Gd.c9 k x.1.1 x.1.2.1 x.1.2.2.2.1 x.1.2.2.2.2.1 x.1.2.2.2.2.2.1 x.1.2.2.2.2.2.2.1 x.1.2.2.2.2.2.2.2.1 x.2.1 x.2.2) (X h)) (X h)) (X h)) (X h)) (X h)) (X h)) (X h)
def f310(k:Nat):Fc Tryz.prog:=⟨310,_,afK k⟩
def adM:SS:=⟨[(0,z33),(8,z2),(9,z4),(10,Bq),(11,z4),(12,z4)],[(100,BK),(101,BK)]⟩
def adK(k:Nat):bZ:=⟨⟨[(0,z33),(1,z4),(2,z4)],[]⟩,⟨[(0,z2),(1,z6)],[(100,BK)]⟩,3,2,fun x=>Gv k x.1 x.2.1 x.2.2⟩
theorem adL(k:Nat):fM Tryz.prog 269 (adK k):=ok (cx [f110 k,f137 k,f165 k,f310 k] 74 nb) Tryz.f269 fun h x=>Q (Q (Q (Q (Q (Q (Q (X h) (Q (B (L adM (fun n x=>Gv.l8 k n x.1.1 x.1.2.2.1 x.1.2.2.2.2.1 x.1.2.2.2.2.2 x.2.1 x.2.2) k fun n8=>X h)) (X h))) (X h)) (X h)) (X h)) (X h)) (X h)) (X h)
def f269(k:Nat):Fc Tryz.prog:=⟨269,_,adL k⟩
def adP:SS:=⟨[(0,z33),(10,z2),(11,z4),(12,z4),(13,z4)],[(100,zm)]⟩
def adN(k:Nat):bZ:=⟨⟨[(0,z33),(1,z4),(2,z4),(3,z4)],[]⟩,⟨[(0,z2),(1,z6)],[(100,zm)]⟩,4,2,fun x=>FO k x.1 x.2.1 x.2.2.1 x.2.2.2⟩
theorem adO(k:Nat):fM Tryz.prog 270 (adN k):=ok (cx [f110 k,f165 k] 66 nb) Tryz.f270 fun h x=>Q (Q (Q (Q (Q (Q (X h) (Q (B (L adP (fun n x=>FO.l7 k n x.1.1 x.1.2.2.1 x.1.2.2.2.1 x.1.2.2.2.2 x.2) k fun n7=>X h)) (X h))) (X h)) (X h)) (X h)) (X h)) (X h)
def f270(k:Nat):Fc Tryz.prog:=⟨270,_,adO k⟩
def V4:SS:=⟨[(0,z33),(1,z4),(2,z23),(8,z2),(9,z4)],[(100,zm)]⟩
def VZ(k:Nat):bZ:=⟨⟨[(0,z33),(1,z4),(2,z23)],[]⟩,⟨[(0,z2),(1,z6)],[(100,zm)]⟩,3,2,fun x=>FN k x.1 x.2.1 x.2.2⟩
theorem V3(k:Nat):fM Tryz.prog 109 (VZ k):=ok (cx [f164 k] 37 nb) Tryz.f109 fun h x=>Q (Q (Q (X h) (Q (B (L V4 (fun n x=>FN.l3 k n x.1.1 x.1.2.1 x.1.2.2.1 x.1.2.2.2.2 x.2) k fun n3=>X h)) (X h))) (X h)) (X h)
def f109(k:Nat):Fc Tryz.prog:=⟨109,_,V3 k⟩
def adY:SS:=⟨[(0,z_),(1,z4),(5,z4),(6,z4)],[]⟩
def Oy(F:(List ze)→Int→Option Int):bZ:=⟨⟨[(0,z_),(1,z4)],[]⟩,⟨[(0,z4)],[]⟩,2,1,fun x=>F x.1 x.2⟩
theorem adX(k:Nat)(JY:(List ze)→Int→Option Int)(ajc:fM Tryz.prog 272 (Oy JY)):fM Tryz.prog 272 (Oy (Da.b k JY)):=ok (cx [⟨272,_,ajc⟩] 22 nb) Tryz.f272 fun h x=>Q (Q (Q (X h) (Q (B (L adY (fun n x=>Da.l3 k JY n x.1 x.2.1 x.2.2.1 x.2.2.2) k fun n3=>X h)) (X h))) (X h)) (X h)
theorem Sd(k:Nat):∀d,fM Tryz.prog 272 (Oy (Da.d k d))
 |0=>yL (fun _=>rfl)
 |d+1=>let ih:=Sd k d
  adX k (Da.d k d) ih
theorem adW(k:Nat):fM Tryz.prog 272 (Oy (Da k)):=(Sd k k)
def f272(k:Nat):Fc Tryz.prog:=⟨272,_,adW k⟩
def aa_:SS:=⟨[(0,z_),(1,z4),(5,z2),(6,z4)],[(100,zm)]⟩
def aa9:SS:=⟨[(0,z_),(1,z4),(5,z2),(6,z4)],[(100,zm)]⟩
def aa7(k:Nat):bZ:=⟨⟨[(0,z_),(1,z4)],[]⟩,⟨[(0,z2)],[(100,zm)]⟩,2,1,fun x=>EN k x.1 x.2⟩
theorem aa8(k:Nat):fM Tryz.prog 206 (aa7 k):=ok (cx [f272 k] 23 nb) Tryz.f206 fun h x=>Q (Q (Q (X h) (Q (B (L aa9 (fun n x=>EN.l3 k n x.1.1 x.1.2.1 x.1.2.2.2 x.2) k fun n3=>Q (Q (T (X h) aa_ fun x=>EN.c4 k (EN.l3 k n3) x.1.1 x.1.2.1 x.1.2.2.2 x.2) (X h)) (X h))) (X h))) (X h)) (X h)
def f206(k:Nat):Fc Tryz.prog:=⟨206,_,aa8 k⟩
def afP:SS:=⟨[(0,z_),(5,z2),(7,Bq),(8,z4)],[(100,Ic),(101,zm)]⟩
def afN(k:Nat):bZ:=⟨⟨[(0,z_),(1,z4)],[]⟩,⟨[(0,z2)],[(100,Ic)]⟩,2,1,fun x=>Gu k x.1 x.2⟩
theorem afO(k:Nat):fM Tryz.prog 311 (afN k):=ok (cx [f80 k,f127 k,f206 k] 43 nb) Tryz.f311 fun h x=>Q (Q (Q (Q (Q (Q (X h) (Q (B (L afP (fun n x=>Gu.l7 k n x.1.1 x.1.2.2.2 x.2.1 x.2.2) k fun n7=>X h)) (X h))) (X h)) (X h)) (X h)) (X h)) (X h)
def f311(k:Nat):Fc Tryz.prog:=⟨311,_,afO k⟩
def adV:SS:=⟨[(8,zT),(20,z36)],[(100,NQ),(101,NR),(102,zm),(103,zm)]⟩
def adU:SS:=⟨[(0,z33),(8,zT),(10,z36),(11,z4),(14,z38),(20,z43),(21,z4)],[(100,PK),(101,NS),(102,zm),(103,PL),(104,zm),(105,zm),(106,zm)]⟩
def adT:SS:=⟨[(0,z33),(3,z4),(8,zT),(10,z36),(11,z4),(12,z38),(14,z40),(16,z44),(18,z47),(19,z4)],[(100,PL),(101,UB),(102,zm),(103,zm),(104,zm),(105,Ic),(106,zm),(107,zm)]⟩
def adR:SS:=⟨[(0,z33),(2,z_),(3,z4),(8,zT),(10,z36),(11,z4),(12,z38),(13,z6),(14,z40),(15,z6),(16,z44),(17,z6),(18,z47)],[(100,PL),(101,UB),(102,zm),(103,zm),(104,zm),(105,Ic),(106,zm),(107,zm)]⟩
def adQ(k:Nat):bZ:=⟨⟨[(0,z33),(1,z4),(2,z_),(3,z4)],[]⟩,⟨[(0,z53),(1,z6)],[(100,zm)]⟩,4,2,fun x=>zR k x.1 x.2.1 x.2.2.1 x.2.2.2⟩
theorem adS(k:Nat):fM Tryz.prog 271 (adQ k):=ok (cx [f109 k,f110 k,f164 k,f205 k,f270 k,f311 k] 179 nb) Tryz.f271 fun h x=>Q (Q (Q (Q (Q (Q (Q (Q (Q (Q (Q (Q (Q (T (X h) adV fun x=>zR.Oh k x.2.1 x.2.2.1 x.2.2.2.1 x.2.2.2.2) (X h)) (Q (B (L adU (fun n x=>zR.Dp k n x.1.1 x.1.2.2.2.1 x.1.2.2.2.2.2.2 x.2.1 x.2.2.1 x.2.2.2.1 x.2.2.2.2.1 x.2.2.2.2.2.1 x.2.2.2.2.2.2.1 x.2.2.2.2.2.2.2) k fun n18=>X h)) (X h))) (X h)) (Q (B (L adT (fun n x=>zR.zY k n x.1.1 x.1.2.1 x.1.2.2.2.2.1 x.1.2.2.2.2.2.2.2.2.2 x.2.1 x.2.2.1 x.2.2.2.1 x.2.2.2.2.1 x.2.2.2.2.2.1 x.2.2.2.2.2.2.1 x.2.2.2.2.2.2.2.1 x.2.2.2.2.2.2.2.2) k fun n12=>X h)) (X h))) (Q (X h) (K h adR (fun x=>zR.d9 k x.1.1 x.1.2.1 x.1.2.2.1 x.1.2.2.2.2.2.1 x.1.2.2.2.2.2.2.2.1 x.1.2.2.2.2.2.2.2.2.2.1 x.1.2.2.2.2.2.2.2.2.2.2.2.1 x.2.1 x.2.2.1 x.2.2.2.1 x.2.2.2.2.1 x.2.2.2.2.2.1 x.2.2.2.2.2.2.1 x.2.2.2.2.2.2.2.1 x.2.2.2.2.2.2.2.2) [[0,1,2,3,4,5,6,7,8,9,10,11,12,13,14,15,16,17,18,19,21,22,24,20,23,25,26,27,28,29,30,31,32,33,34,35,36,37,38,39,40,41,42,43,44,45,46],[0,1,2,3,4,5,6,7,8,9,10,11,12,13,14,15,16,17,18,19,21,22,24,23,20,25,26,27,28,29,30,31,32,33,34,35,36,37,38,39,40,41,42,43,44,45,46]] (O (fun x=>by kernel_rfl) (O (fun x=>by kernel_rfl) (N)))))) (X h)) (X h)) (X h)) (X h)) (X h)) (X h)) (X h)) (X h)
def f271(k:Nat):Fc Tryz.prog:=⟨271,_,adS k⟩
def aa2:SS:=⟨[(0,z33),(2,zT),(4,z36),(5,z38),(9,z40),(11,z54),(12,z4),(15,z47),(17,(.p 106)),(18,z4)],[(100,UC),(101,(.box y28 (.agg (.cons (.h 109) (.cons z4 (.cons (.h 110) .nil)))))),(102,BK),(103,zm),(104,(.box y28 (.agg (.cons z38 (.cons z4 (.cons (.h 111) .nil)))))),(105,zm),(106,(.box y27 (.agg (.cons z4 (.cons (.h 112) .nil))))),(107,BK),(108,FU),(109,BK),(110,FU),(111,FU),(112,Mx)]⟩
def aa1:SS:=⟨[(0,z33),(2,zT),(4,z36),(5,z38),(9,z40),(11,z54),(12,z4)],[(100,(.box y28 (.agg (.cons z47 v49)))),(101,UC),(102,BK),(103,zm),(104,(.box y28 (.agg (.cons z38 (.cons z4 (.cons (.h 109) .nil)))))),(105,BK),(106,FU),(107,BK),(108,FU),(109,FU)]⟩
def aaZ(k:Nat):bZ:=⟨⟨[(0,z33)],[]⟩,⟨[(0,z58),(1,z6)],[(100,BK),(101,FU)]⟩,1,2,fun x=>Es k x⟩
theorem aa0(k:Nat):fM Tryz.prog 204 (aaZ k):=ok (cx [f79 k,f164 k,f205 k,f268 k,f269 k,f270 k,f271 k] 133 nb) Tryz.f204 fun h x=>Q (Q (Q (Q (Q (Q (Q (Q (Q (X h) (Q (B (L aa1 (fun n x=>Es.AL k n x.1.1 x.1.2.2.2.2.2.2 x.2.1 x.2.2.1 x.2.2.2.1 x.2.2.2.2.1 x.2.2.2.2.2.1 x.2.2.2.2.2.2.1 x.2.2.2.2.2.2.2.1 x.2.2.2.2.2.2.2.2.1 x.2.2.2.2.2.2.2.2.2.1 x.2.2.2.2.2.2.2.2.2.2) k fun n11=>Q (Q (X h) (B (Q (Q (Q (Q (Q (X h) (Q (B (L aa2 (fun n x=>Es.EK k (Es.AL k n11) n x.1.1 x.1.2.2.2.2.2.2.1 x.1.2.2.2.2.2.2.2.2.2 x.2.1 x.2.2.1 x.2.2.2.1 x.2.2.2.2.1 x.2.2.2.2.2.1 x.2.2.2.2.2.2.1 x.2.2.2.2.2.2.2.1 x.2.2.2.2.2.2.2.2.1 x.2.2.2.2.2.2.2.2.2.1 x.2.2.2.2.2.2.2.2.2.2.1 x.2.2.2.2.2.2.2.2.2.2.2.1 x.2.2.2.2.2.2.2.2.2.2.2.2.1 x.2.2.2.2.2.2.2.2.2.2.2.2.2) k fun n19=>X h)) (X h))) (X h)) (X h)) (X h)) (X h)))) (X h))) (X h))) (X h)) (X h)) (X h)) (X h)) (X h)) (X h)) (X h)) (X h)
def f204(k:Nat):Fc Tryz.prog:=⟨204,_,aa0 k⟩
def Xk(k:Nat):bZ:=⟨⟨[(0,z1),(1,z4)],[]⟩,⟨[(0,z58),(1,z4),(2,z6)],[(100,BK),(101,FU)]⟩,2,3,fun x=>Pv k x.1 x.2⟩
theorem Xl(k:Nat):fM Tryz.prog 126 (Xk k):=ok (cx [f107 k,f204 k] 32 nb) Tryz.f126 fun h x=>X h
def f126(k:Nat):Fc Tryz.prog:=⟨126,_,Xl k⟩
def aia(k:Nat):bZ:=⟨⟨[(0,z1)],[]⟩,⟨[(0,z58),(1,z4)],[(100,BK),(101,FU)]⟩,1,2,fun x=>Pq k x⟩
theorem aib(k:Nat):fM Tryz.prog 67 (aia k):=ok (cx [f80 k,f125 k,f126 k] 67 nb) Tryz.f67 fun h x=>X h
def f67(k:Nat):Fc Tryz.prog:=⟨67,_,aib k⟩
def VX(k:Nat):bZ:=⟨⟨[(0,z60)],[]⟩,⟨[(0,z6)],[]⟩,1,1,fun x=>NB k x⟩
theorem VY(k:Nat):fM Tryz.prog 108 (VX k):=ok (cx [f80 k,f163 k] 18 nb) Tryz.f108 fun h x=>X h
def f108(k:Nat):Fc Tryz.prog:=⟨108,_,VY k⟩
def YD(k:Nat):bZ:=⟨⟨[(0,z33),(1,z4)],[]⟩,⟨[(0,z4)],[]⟩,2,1,fun x=>Pz k x.1 x.2⟩
theorem YE(k:Nat):fM Tryz.prog 166 (YD k):=ok (cx [f110 k] 20 nb) Tryz.f166 fun h x=>X h
def f166(k:Nat):Fc Tryz.prog:=⟨166,_,YE k⟩
def acz(k:Nat):bZ:=⟨⟨[(0,z4),(1,z4)],[]⟩,⟨[(0,z4)],[]⟩,2,1,fun x=>Km k x.1 x.2⟩
theorem acA(k:Nat):fM Tryz.prog 244 (acz k):=ok (cx [f80 k] 18 nb) Tryz.f244 fun h x=>X h
def f244(k:Nat):Fc Tryz.prog:=⟨244,_,acA k⟩
def acB(k:Nat):bZ:=⟨⟨[(0,z1),(1,z4)],[]⟩,⟨[(0,z4)],[]⟩,2,1,fun x=>Mm k x.1 x.2⟩
theorem acC(k:Nat):fM Tryz.prog 245 (acB k):=ok (cx [] 15 nb) Tryz.f245 fun h x=>X h
def f245(k:Nat):Fc Tryz.prog:=⟨245,_,acC k⟩
def acF:SS:=⟨[(0,z1),(1,z4),(2,z4),(3,z4),(11,z2),(12,z4),(13,z4),(14,z4),(15,z4)],[(100,zm)]⟩
def acG:SS:=⟨[(0,z1),(1,z4),(2,z4),(3,z4),(11,z2),(12,z4),(13,z4)],[(100,zm)]⟩
def acD(k:Nat):bZ:=⟨⟨[(0,z1),(1,z4),(2,z4),(3,z4)],[]⟩,⟨[(0,z2),(1,z4),(2,z6)],[(100,zm)]⟩,4,3,fun x=>Er k x.1 x.2.1 x.2.2.1 x.2.2.2⟩
theorem acE(k:Nat):fM Tryz.prog 246 (acD k):=ok (cx [f80 k,f244 k,f245 k] 70 nb) Tryz.f246 fun h x=>Q (Q (Q (Q (Q (X h) (Q (B (L acG (fun n x=>Er.l6 k n x.1.1 x.1.2.1 x.1.2.2.1 x.1.2.2.2.1 x.1.2.2.2.2.2.1 x.1.2.2.2.2.2.2 x.2) k fun n6=>Q (Q (X h) (B (Q (Q (X h) (Q (B (L acF (fun n x=>Er.l10 k (Er.l6 k n6) n x.1.1 x.1.2.1 x.1.2.2.1 x.1.2.2.2.1 x.1.2.2.2.2.2.1 x.1.2.2.2.2.2.2.1 x.1.2.2.2.2.2.2.2.1 x.1.2.2.2.2.2.2.2.2 x.2) k fun n10=>X h)) (X h))) (X h)))) (X h))) (X h))) (X h)) (X h)) (X h)) (X h)
def f246(k:Nat):Fc Tryz.prog:=⟨246,_,acE k⟩
def acJ:SS:=⟨[(6,zT),(9,z4),(10,z4),(11,z6)],[(100,Fp)]⟩
def acH(k:Nat):bZ:=⟨⟨[(0,z4),(1,z1),(2,z4)],[]⟩,⟨[(0,z62),(1,z4),(2,z6)],[]⟩,3,3,fun x=>JR k x.1 x.2.1 x.2.2⟩
theorem acI(k:Nat):fM Tryz.prog 247 (acH k):=ok (cx [f125 k] 82 nb) Tryz.f247 fun h x=>Q (Q (X h) (Q (B (Q (D (Q (Q (T (X h) acJ fun x=>JR.c6 k x.1.2.1 x.1.2.2.1 x.1.2.2.2 x.2) (X h)) (X h)) (X h)) (X h))) (X h))) (X h)
def f247(k:Nat):Fc Tryz.prog:=⟨247,_,acI k⟩
def Y7:SS:=⟨[(0,z4),(1,z1),(2,z4),(3,z4),(11,z2),(16,z4)],[(100,zg)]⟩
def Y8:SS:=⟨[(11,z2),(12,Bq),(13,z4),(14,z6),(15,z4)],[(100,zg),(101,zm)]⟩
def Y5(k:Nat):bZ:=⟨⟨[(0,z4),(1,z1),(2,z4),(3,z4)],[]⟩,⟨[(0,z2),(1,z4),(2,z6)],[(100,zg)]⟩,4,3,fun x=>DY k x.1 x.2.1 x.2.2.1 x.2.2.2⟩
theorem Y6(k:Nat):fM Tryz.prog 172 (Y5 k):=ok (cx [f80 k,f163 k,f246 k,f247 k] 87 nb) Tryz.f172 fun h x=>Q (Q (Q (Q (Q (X h) (Q (B (L Y7 (fun n x=>DY.zY k n x.1.1 x.1.2.1 x.1.2.2.1 x.1.2.2.2.1 x.1.2.2.2.2.2 x.2) k fun n12=>X h)) (X h))) (Q (D (Q (Q (X h) (Q (B (L Y8 (fun n x=>DY.l7 k n x.1.2.2.1 x.1.2.2.2.1 x.1.2.2.2.2 x.2.1 x.2.2) k fun n7=>X h)) (X h))) (X h)) (X h)) (X h))) (X h)) (X h)) (X h)
def f172(k:Nat):Fc Tryz.prog:=⟨172,_,Y6 k⟩
def ZF:SS:=⟨[(3,zT),(5,z4),(26,z6)],[(100,Fp)]⟩
def ZC(k:Nat):bZ:=⟨⟨[(0,z4),(1,z65)],[]⟩,⟨[(0,z6)],[]⟩,2,1,fun x=>FL k x.1 x.2⟩
theorem ZE(k:Nat):fM Tryz.prog 180 (ZC k):=ok (cx [f80 k,f234 k] 43 nb) Tryz.f180 fun h x=>Q (Q (X h) (Q (B (Q (D (X h) (Q (D (X h) (Q (T (X h) ZF fun x=>FL.c8 k x.1.2.1 x.1.2.2 x.2) (X h))) (X h))) (X h))) (X h))) (X h)
def f180(k:Nat):Fc Tryz.prog:=⟨180,_,ZE k⟩
def WK:SS:=⟨[(0,z4),(1,z66),(5,z4)],[]⟩
def WI(k:Nat):bZ:=⟨⟨[(0,z4),(1,z66)],[]⟩,⟨[(0,z6)],[]⟩,2,1,fun x=>Ia k x.1 x.2⟩
theorem WJ(k:Nat):fM Tryz.prog 117 (WI k):=ok (cx [f163 k,f180 k] 27 nb) Tryz.f117 fun h x=>Q (Q (Q (X h) (Q (B (L WK (fun n x=>Ia.l4 k n x.1 x.2.1 x.2.2) k fun n4=>X h)) (X h))) (X h)) (X h)
def f117(k:Nat):Fc Tryz.prog:=⟨117,_,WJ k⟩
def agS:SS:=⟨[(0,z4),(1,z4),(5,z2),(6,z4)],[(100,w5)]⟩
def agQ(k:Nat):bZ:=⟨⟨[(0,z4),(1,z4)],[]⟩,⟨[(0,z2)],[(100,w5)]⟩,2,1,fun x=>Gb k x.1 x.2⟩
theorem agR(k:Nat):fM Tryz.prog 333 (agQ k):=ok (cx [f80 k] 26 nb) Tryz.f333 fun h x=>Q (Q (Q (X h) (Q (B (L agS (fun n x=>Gb.l3 k n x.1.1 x.1.2.1 x.1.2.2.2 x.2) k fun n3=>X h)) (X h))) (X h)) (X h)
def f333(k:Nat):Fc Tryz.prog:=⟨333,_,agR k⟩
def agW:SS:=⟨[(0,z23),(1,z4),(7,z2),(8,z4),(9,z4)],[(100,w5)]⟩
def agV:SS:=⟨[(0,z23),(1,z4),(7,z2),(8,z4),(9,z4)],[(100,w5)]⟩
def agX:SS:=⟨[(0,z23),(1,z4),(7,z2),(8,z4)],[(100,w5)]⟩
def agT(k:Nat):bZ:=⟨⟨[(0,z23),(1,z4)],[]⟩,⟨[(0,z2),(1,z6)],[(100,w5)]⟩,2,2,fun x=>CZ k x.1 x.2⟩
theorem agU(k:Nat):fM Tryz.prog 334 (agT k):=ok (cx [f244 k] 73 nb) Tryz.f334 fun h x=>Q (Q (Q (Q (Q (X h) (Q (B (L agX (fun n x=>CZ.l6 k n x.1.1 x.1.2.1 x.1.2.2.2 x.2) k fun n6=>Q (Q (X h) (B (Q (Q (B (L agV (fun n x=>CZ.AL k (CZ.l6 k n6) n x.1.1 x.1.2.1 x.1.2.2.2.1 x.1.2.2.2.2 x.2) k fun n11=>Q (Q (T (X h) agW fun x=>CZ.c12 k (CZ.AL k (CZ.l6 k n6) n11) x.1.1 x.1.2.1 x.1.2.2.2.1 x.1.2.2.2.2 x.2) (X h)) (X h))) (X h)) (X h)))) (X h))) (X h))) (X h)) (X h)) (X h)) (X h)
def f334(k:Nat):Fc Tryz.prog:=⟨334,_,agU k⟩
def agu:SS:=⟨[(0,z4),(1,z66),(6,z2),(7,Bq),(8,z4)],[(100,w5),(101,zm)]⟩
def agt:SS:=⟨[(0,z4),(1,z66),(6,z2),(7,Bq),(8,z4)],[(100,w5),(101,zm)]⟩
def agr(k:Nat):bZ:=⟨⟨[(0,z4),(1,z66)],[]⟩,⟨[(0,z2),(1,z6)],[(100,w5)]⟩,2,2,fun x=>C_ k x.1 x.2⟩
theorem ags(k:Nat):fM Tryz.prog 322 (agr k):=ok (cx [f117 k,f333 k,f334 k] 67 nb) Tryz.f322 fun h x=>Q (Q (Q (Q (Q (X h) (Q (B (L agt (fun n x=>C_.l6 k n x.1.1 x.1.2.1 x.1.2.2.2.2 x.2.1 x.2.2) k fun n6=>Q (Q (T (X h) agu fun x=>C_.c7 k (C_.l6 k n6) x.1.1 x.1.2.1 x.1.2.2.2.2 x.2.1 x.2.2) (X h)) (X h))) (X h))) (X h)) (X h)) (X h)) (X h)
def f322(k:Nat):Fc Tryz.prog:=⟨322,_,ags k⟩
def aeX(k:Nat):bZ:=⟨⟨[(0,z4),(1,z65)],[]⟩,⟨[(0,z8)],[]⟩,2,1,fun x=>Py k x.1 x.2⟩
theorem aeY(k:Nat):fM Tryz.prog 296 (aeX k):=ok (cx [f322 k] 20 nb) Tryz.f296 fun h x=>X h
def f296(k:Nat):Fc Tryz.prog:=⟨296,_,aeY k⟩
def acj:SS:=⟨[(0,z4),(1,z8),(4,zT),(6,z36)],[(100,Fp),(101,Fp)]⟩
def acm:SS:=⟨[(0,z4),(1,z8),(4,zT),(6,z36)],[(100,Fp),(101,Fp)]⟩
def aci(k:Nat):bZ:=⟨⟨[(0,z4),(1,z8)],[]⟩,⟨[(0,z62),(1,z6)],[]⟩,2,2,fun x=>FM k x.1 x.2⟩
theorem ack(k:Nat):fM Tryz.prog 239 (aci k):=ok (cx [f172 k,f180 k,f296 k] 39 nb) Tryz.f239 fun h x=>Q (Q (Q (T (Q (X h) (K h acj (fun x=>FM.d7 k x.1.1 x.1.2.1 x.2.1 x.2.2) [[1,0,2,3,4,5,8,6,7,9,10,11,12],[1,2,0,3,4,5,8,6,7,9,10,11,12],[1,2,3,4,5,8,0,6,7,9,10,11,12],[1,2,3,4,5,8,6,0,7,9,10,11,12],[1,2,3,4,5,8,6,7,0,9,10,11,12]] (O (fun x=>by kernel_rfl) (O (fun x=>by kernel_rfl) (O (fun x=>by kernel_rfl) (O (fun x=>by kernel_rfl) (O (fun x=>by kernel_rfl) (N)))))))) acm fun x=>FM.c7 k x.1.1 x.1.2.1 x.2.1 x.2.2) (X h)) (X h)) (X h)
def f239(k:Nat):Fc Tryz.prog:=⟨239,_,ack k⟩
def abX(k:Nat):bZ:=⟨⟨[(0,z4)],[]⟩,⟨[(0,z4)],[]⟩,1,1,fun x=>Pt k x⟩
theorem abY(k:Nat):fM Tryz.prog 226 (abX k):=ok (cx [] 8 nb) Tryz.f226 fun h x=>X h
def f226(k:Nat):Fc Tryz.prog:=⟨226,_,abY k⟩
def Ym:SS:=⟨[(4,zT),(5,z36)],[(100,Fp),(101,Fp)]⟩
def Yo:SS:=⟨[(4,zT),(5,z36),(7,z4)],[(100,Fp),(101,Fp)]⟩
def Yl(k:Nat):bZ:=⟨⟨[(0,z4),(1,z65),(2,z65)],[]⟩,⟨[(0,z6)],[]⟩,3,1,fun x=>Fg k x.1 x.2.1 x.2.2⟩
theorem Yn(k:Nat):fM Tryz.prog 155 (Yl k):=ok (cx [f180 k,f226 k] 74 nb) Tryz.f155 fun h x=>Q (Q (Q (X h) (Q (B (Q (D (Q (X h) (K h Ym (fun x=>Fg.d5 k x.2.1 x.2.2) [[0,3,1,2,4,5,6,7],[0,3,1,4,2,5,6,7],[0,3,4,1,2,5,6,7]] (O (fun x=>by kernel_rfl) (O (fun x=>by kernel_rfl) (O (fun x=>by kernel_rfl) (N)))))) (Q (D (Q (X h) (Q (B (L Yo (fun n x=>Fg.l8 k n x.1.2.2 x.2.1 x.2.2) k fun n8=>X h)) (X h))) (X h)) (X h))) (X h))) (X h))) (X h)) (X h)
def f155(k:Nat):Fc Tryz.prog:=⟨155,_,Yn k⟩
def acn(k:Nat):bZ:=⟨⟨[(0,z60),(1,(.ro MF))],[]⟩,⟨[(0,z6)],[]⟩,2,1,fun x=>NF k x.1 x.2⟩
theorem aco(k:Nat):fM Tryz.prog 240 (acn k):=ok (cx [f80 k,f108 k,f155 k,f180 k] 51 nb) Tryz.f240 fun h x=>X h
def f240(k:Nat):Fc Tryz.prog:=⟨240,_,aco k⟩
def YH:SS:=⟨[(3,zT),(6,z36),(8,z26),(15,z43)],[(100,BL),(101,K9),(102,K9),(103,K9)]⟩
def YF(k:Nat):bZ:=⟨⟨[(0,z60),(1,z33),(2,z4)],[]⟩,⟨[(0,z70),(1,z6)],[]⟩,3,2,fun x=>I5 k x.1 x.2.1 x.2.2⟩
theorem YG(k:Nat):fM Tryz.prog 167 (YF k):=ok (cx [f110 k,f164 k,f238 k,f239 k,f240 k] 98 nb) Tryz.f167 fun h x=>Q (Q (Q (Q (Q (Q (Q (Q (T (X h) YH fun x=>I5.c15 k x.2.1 x.2.2.1 x.2.2.2.1 x.2.2.2.2) (X h)) (X h)) (X h)) (X h)) (X h)) (X h)) (X h)) (X h)
def f167(k:Nat):Fc Tryz.prog:=⟨167,_,YG k⟩
def Wo:SS:=⟨[(5,zT),(6,z36)],[(100,BP),(101,BP)]⟩
def Wn:SS:=⟨[(1,z33),(3,zT),(5,z36),(6,z26),(10,z4),(11,z4)],[(100,BL),(101,BP),(102,BP)]⟩
def Wp:SS:=⟨[(1,z33),(3,zT),(5,z36),(6,z26),(8,z4),(9,z40),(10,z4)],[(100,BL),(101,BP),(102,BP),(103,zm)]⟩
def Wl(k:Nat):bZ:=⟨⟨[(0,z60),(1,z33),(2,(.ro MG))],[]⟩,⟨[(0,z73),(1,z6)],[]⟩,3,2,fun x=>BZ k x.1 x.2.1 x.2.2⟩
theorem Wm(k:Nat):fM Tryz.prog 111 (Wl k):=ok (cx [f80 k,f109 k,f110 k,f166 k,f167 k] 153 nb) Tryz.f111 fun h x=>Q (Q (Q (T (Q (Q (Q (Q (Q (Q (Q (T (Q (T (X h) Wo fun x=>BZ.KJ k x.2.1 x.2.2) (X h)) Wn fun x=>BZ.Jy k x.1.1 x.1.2.2.2.2.1 x.1.2.2.2.2.2 x.2.1 x.2.2.1 x.2.2.2) (X h)) (X h)) (X h)) (X h)) (X h)) (X h)) (X h)) Wp fun x=>BZ.c7 k x.1.1 x.1.2.2.2.2.1 x.1.2.2.2.2.2.2 x.2.1 x.2.2.1 x.2.2.2.1 x.2.2.2.2) (X h)) (X h)) (X h)
def f111(k:Nat):Fc Tryz.prog:=⟨111,_,Wm k⟩
def ahG:SS:=⟨[(1,z1),(3,zT),(6,z36),(8,z26),(9,z40),(10,z4),(14,z54)],[(100,BL),(101,BP),(102,BP),(103,BV),(104,BP)]⟩
def ahE(k:Nat):bZ:=⟨⟨[(0,z60),(1,z1),(2,z4)],[]⟩,⟨[(0,z73),(1,z4)],[]⟩,3,2,fun x=>CQ k x.1 x.2.1 x.2.2⟩
theorem ahF(k:Nat):fM Tryz.prog 54 (ahE k):=ok (cx [f107 k,f108 k,f109 k,f110 k,f111 k] 130 nb) Tryz.f54 fun h x=>Q (Q (Q (Q (Q (Q (Q (Q (Q (T (X h) ahG fun x=>CQ.c17 k x.1.1 x.1.2.2.2.2.2.1 x.2.1 x.2.2.1 x.2.2.2.1 x.2.2.2.2.1 x.2.2.2.2.2) (X h)) (X h)) (X h)) (X h)) (X h)) (X h)) (X h)) (X h)) (X h)
def f54(k:Nat):Fc Tryz.prog:=⟨54,_,ahF k⟩
def YL:SS:=⟨[(0,z4),(3,z4)],[]⟩
def YK:SS:=⟨[(0,z4),(3,z4)],[]⟩
def YI(k:Nat):bZ:=⟨⟨[(0,z4)],[]⟩,⟨[(0,z4)],[]⟩,1,1,fun x=>Fh k x⟩
theorem YJ(k:Nat):fM Tryz.prog 168 (YI k):=ok (cx [] 18 nb) Tryz.f168 fun h x=>Q (Q (X h) (Q (B (L YK (fun n x=>Fh.l2 k n x.1 x.2) k fun n2=>Q (Q (T (X h) YL fun x=>Fh.c3 k (Fh.l2 k n2) x.1 x.2) (X h)) (X h))) (X h))) (X h)
def f168(k:Nat):Fc Tryz.prog:=⟨168,_,YJ k⟩
def Wt:SS:=⟨[(1,z1),(5,z4),(6,z4)],[]⟩
def Wq(k:Nat):bZ:=⟨⟨[(0,z4),(1,z1)],[]⟩,⟨[(0,z4)],[]⟩,2,1,fun x=>Jn k x.1 x.2⟩
theorem Ws(k:Nat):fM Tryz.prog 112 (Wq k):=ok (cx [f80 k,f168 k] 32 nb) Tryz.f112 fun h x=>Q (Q (Q (Q (X h) (Q (B (L Wt (fun n x=>Jn.l5 k n x.1 x.2.1 x.2.2) k fun n5=>X h)) (X h))) (X h)) (X h)) (X h)
def f112(k:Nat):Fc Tryz.prog:=⟨112,_,Ws k⟩
def ahH(k:Nat):bZ:=⟨⟨[(0,z1)],[]⟩,⟨[(0,z4)],[]⟩,1,1,fun x=>Kn k x⟩
theorem ahI(k:Nat):fM Tryz.prog 55 (ahH k):=ok (cx [f112 k] 5 nb) Tryz.f55 fun h x=>X h
def f55(k:Nat):Fc Tryz.prog:=⟨55,_,ahI k⟩
def acp(k:Nat):bZ:=⟨⟨[(0,z4)],[]⟩,⟨[(0,z6)],[]⟩,1,1,fun x=>QT k x⟩
theorem acr(k:Nat):fM Tryz.prog 241 (acp k):=ok (cx [f80 k] 5 nb) Tryz.f241 fun h x=>X h
def f241(k:Nat):Fc Tryz.prog:=⟨241,_,acr k⟩
def YR:SS:=⟨[(0,z1),(2,z4),(3,z4),(11,z2),(13,z4),(15,z4),(21,z4),(22,z4),(23,z4)],[(100,zm)]⟩
def YQ:SS:=⟨[(0,z1),(2,z4),(3,z4),(11,z2),(13,z4),(15,z4),(21,z4)],[(100,zm)]⟩
def YP:SS:=⟨[(0,z1),(2,z4),(3,z4),(11,z2),(13,z4),(15,z4),(16,z4),(20,z4)],[(100,zm)]⟩
def YO:SS:=⟨[(0,z1),(2,z4),(3,z4),(11,z2),(13,z4),(15,z4),(16,z4)],[(100,zm)]⟩
def YS:SS:=⟨[(0,z1),(1,z4),(2,z4),(3,z4),(11,z2)],[(100,zm)]⟩
def YM(k:Nat):bZ:=⟨⟨[(0,z1),(1,z4),(2,z4),(3,z4)],[]⟩,⟨[(0,z2),(1,z4),(2,z6)],[(100,zm)]⟩,4,3,fun x=>A7 k x.1 x.2.1 x.2.2.1 x.2.2.2⟩
theorem YN(k:Nat):fM Tryz.prog 169 (YM k):=ok (cx [f80 k,f125 k,f241 k,f242 k,f243 k,f244 k,f245 k] 153 nb) Tryz.f169 fun h x=>Q (Q (Q (Q (X h) (B (L YS (fun n x=>A7.l4 k n x.1.1 x.1.2.1 x.1.2.2.1 x.1.2.2.2.1 x.2) k fun n4=>Q (B (Q (Q (Q (Q (Q (Q (X h) (Q (B (L YQ (fun n x=>A7.Ke k (A7.l4 k n4) n x.1.1 x.1.2.1 x.1.2.2.1 x.1.2.2.2.2.1 x.1.2.2.2.2.2.1 x.1.2.2.2.2.2.2 x.2) k fun n25=>Q (Q (X h) (B (Q (Q (X h) (Q (B (L YR (fun n x=>A7.Df k (A7.Ke k (A7.l4 k n4) n25) n x.1.1 x.1.2.1 x.1.2.2.1 x.1.2.2.2.2.1 x.1.2.2.2.2.2.1 x.1.2.2.2.2.2.2.1 x.1.2.2.2.2.2.2.2.1 x.1.2.2.2.2.2.2.2.2 x.2) k fun n29=>X h)) (X h))) (X h)))) (X h))) (X h))) (X h)) (Q (D (Q (Q (T (Q (X h) (Q (B (L YP (fun n x=>A7.Dp k (A7.l4 k n4) n x.1.1 x.1.2.1 x.1.2.2.1 x.1.2.2.2.2.1 x.1.2.2.2.2.2.1 x.1.2.2.2.2.2.2.1 x.1.2.2.2.2.2.2.2 x.2) k fun n18=>X h)) (X h))) YO fun x=>A7.c17 k (A7.l4 k n4) x.1.1 x.1.2.1 x.1.2.2.1 x.1.2.2.2.2.1 x.1.2.2.2.2.2.1 x.1.2.2.2.2.2.2 x.2) (X h)) (X h)) (X h)) (X h))) (X h)) (X h)) (X h))) (X h)))) (X h)) (X h)) (X h)
def f169(k:Nat):Fc Tryz.prog:=⟨169,_,YN k⟩
def YY:SS:=⟨[(0,z4),(3,z4)],[]⟩
def YW(k:Nat):bZ:=⟨⟨[(0,z4)],[]⟩,⟨[(0,z4)],[]⟩,1,1,fun x=>GU k x⟩
theorem YX(k:Nat):fM Tryz.prog 170 (YW k):=ok (cx [] 15 nb) Tryz.f170 fun h x=>Q (Q (Q (Q (X h) (B (L YY (fun n x=>GU.l4 k n x.1 x.2) k fun n4=>X h))) (X h)) (X h)) (X h)
def f170(k:Nat):Fc Tryz.prog:=⟨170,_,YX k⟩
def Ww:SS:=⟨[(3,z4),(11,z2),(12,z4),(13,z4),(15,Bq),(18,z4)],[(100,zm),(101,zm)]⟩
def Wu(k:Nat):bZ:=⟨⟨[(0,z1),(1,z4),(2,z4),(3,z4)],[]⟩,⟨[(0,z2),(1,z4),(2,z6)],[(100,zm)]⟩,4,3,fun x=>GV k x.1 x.2.1 x.2.2.1 x.2.2.2⟩
theorem Wv(k:Nat):fM Tryz.prog 113 (Wu k):=ok (cx [f80 k,f125 k,f169 k,f170 k] 93 nb) Tryz.f113 fun h x=>Q (Q (Q (Q (Q (Q (Q (Q (Q (X h) (Q (B (L Ww (fun n x=>GV.A_ k n x.1.1 x.1.2.2.1 x.1.2.2.2.1 x.1.2.2.2.2.2 x.2.1 x.2.2) k fun n13=>X h)) (X h))) (X h)) (X h)) (X h)) (X h)) (X h)) (X h)) (X h)) (X h)
def f113(k:Nat):Fc Tryz.prog:=⟨113,_,Wv k⟩
def Wz:SS:=⟨[(2,z4),(8,z2),(11,z4)],[(100,zm)]⟩
def Wx(k:Nat):bZ:=⟨⟨[(0,z1),(1,z4),(2,z4)],[]⟩,⟨[(0,z2),(1,z6)],[(100,zm)]⟩,3,2,fun x=>GY k x.1 x.2.1 x.2.2⟩
theorem Wy(k:Nat):fM Tryz.prog 114 (Wx k):=ok (cx [f169 k,f170 k] 51 nb) Tryz.f114 fun h x=>Q (Q (Q (Q (Q (X h) (Q (B (L Wz (fun n x=>GY.l7 k n x.1.1 x.1.2.2 x.2) k fun n7=>X h)) (X h))) (X h)) (X h)) (X h)) (X h)
def f114(k:Nat):Fc Tryz.prog:=⟨114,_,Wy k⟩
def ahL:SS:=⟨[(2,z1),(3,zT),(4,z36),(16,z4),(17,z38),(18,z6)],[(100,BL),(101,BP),(102,zm)]⟩
def ahK:SS:=⟨[(2,z1),(3,zT),(4,z36),(16,z4)],[(100,BL),(101,BP)]⟩
def ahJ(k:Nat):bZ:=⟨⟨[(0,z60),(1,(.ro MG)),(2,z1)],[]⟩,⟨[(0,z2),(1,Bq),(2,z4),(3,z6)],[(100,zm),(101,zm)]⟩,3,4,fun x=>GX k x.1 x.2.1 x.2.2⟩
theorem ahM(k:Nat):fM Tryz.prog 56 (ahJ k):=ok (cx [f113 k,f114 k] 106 nb) Tryz.f56 fun h x=>Q (Q (Q (Q (Q (Q (X h) (K h ahL (fun x=>GX.d9 k x.1.1 x.1.2.2.2.1 x.1.2.2.2.2.2 x.2.1 x.2.2.1 x.2.2.2) [[0,1,3,5,6,7,8,2,4,9,10,11,12,13,14]] (O (fun x=>by kernel_rfl) (N)))) (K h ahK (fun x=>GX.d8 k x.1.1 x.1.2.2.2 x.2.1 x.2.2) [[0,1,4,5,6,7,2,3,8,9,10,11,12,13]] (O (fun x=>by kernel_rfl) (N)))) (X h)) (X h)) (X h)) (X h)
def f56(k:Nat):Fc Tryz.prog:=⟨56,_,ahM k⟩
def Y4:SS:=⟨[(6,z6)],[]⟩
def YZ(k:Nat):bZ:=⟨⟨[(0,z4)],[]⟩,⟨[(0,z4)],[]⟩,1,1,fun x=>Jo k x⟩
theorem Y3(k:Nat):fM Tryz.prog 171 (YZ k):=ok (cx [] 9 nb) Tryz.f171 fun h x=>Q (Q (X h) (Q (B (Q (D (X h) (Q (T (X h) Y4 fun x=>Jo.c6 k x) (X h))) (X h))) (X h))) (X h)
def f171(k:Nat):Fc Tryz.prog:=⟨171,_,Y3 k⟩
def WC:SS:=⟨[(1,z4),(8,z4),(24,z6)],[]⟩
def WE:SS:=⟨[(1,z4),(8,z4),(9,z6)],[]⟩
def WA(k:Nat):bZ:=⟨⟨[(0,z4),(1,z4)],[]⟩,⟨[(0,z6)],[]⟩,2,1,fun x=>Ga k x.1 x.2⟩
theorem WB(k:Nat):fM Tryz.prog 115 (WA k):=ok (cx [f163 k,f171 k] 34 nb) Tryz.f115 fun h x=>Q (Q (Q (X h) (Q (B (Q (T (D (X h) (Q (D (X h) (Q (D (X h) (Q (T (X h) WC fun x=>Ga.c13 k x.1 x.2.1 x.2.2) (X h))) (X h))) (X h))) WE fun x=>Ga.c6 k x.1 x.2.1 x.2.2) (X h))) (X h))) (X h)) (X h)
def f115(k:Nat):Fc Tryz.prog:=⟨115,_,WB k⟩
def Za:SS:=⟨[(0,z23),(3,z2),(4,z4)],[(100,zg)]⟩
def Y9(k:Nat):bZ:=⟨⟨[(0,z23)],[]⟩,⟨[(0,z2)],[(100,zg)]⟩,1,1,fun x=>I6 k x⟩
theorem Y_(k:Nat):fM Tryz.prog 173 (Y9 k):=ok (cx [] 21 nb) Tryz.f173 fun h x=>Q (Q (Q (X h) (Q (B (L Za (fun n x=>I6.l3 k n x.1.1 x.1.2.2 x.2) k fun n3=>X h)) (X h))) (X h)) (X h)
def f173(k:Nat):Fc Tryz.prog:=⟨173,_,Y_ k⟩
def acN:SS:=⟨[(0,z1),(1,z4),(2,z4),(3,z4),(11,z2),(12,z4),(13,z4),(14,z4)],[(100,zm)]⟩
def acM:SS:=⟨[(0,z1),(1,z4),(2,z4),(3,z4),(11,z2),(12,z4)],[(100,zm)]⟩
def acK(k:Nat):bZ:=⟨⟨[(0,z1),(1,z4),(2,z4),(3,z4)],[]⟩,⟨[(0,z2),(1,z4),(2,z6)],[(100,zm)]⟩,4,3,fun x=>Ed k x.1 x.2.1 x.2.2.1 x.2.2.2⟩
theorem acL(k:Nat):fM Tryz.prog 248 (acK k):=ok (cx [f245 k] 65 nb) Tryz.f248 fun h x=>Q (Q (Q (Q (X h) (Q (B (L acM (fun n x=>Ed.l5 k n x.1.1 x.1.2.1 x.1.2.2.1 x.1.2.2.2.1 x.1.2.2.2.2.2 x.2) k fun n5=>Q (Q (X h) (B (Q (Q (X h) (Q (B (L acN (fun n x=>Ed.l9 k (Ed.l5 k n5) n x.1.1 x.1.2.1 x.1.2.2.1 x.1.2.2.2.1 x.1.2.2.2.2.2.1 x.1.2.2.2.2.2.2.1 x.1.2.2.2.2.2.2.2 x.2) k fun n9=>X h)) (X h))) (X h)))) (X h))) (X h))) (X h)) (X h)) (X h)
def f248(k:Nat):Fc Tryz.prog:=⟨248,_,acL k⟩
def Zc:SS:=⟨[(0,z1),(1,z4),(7,z2),(8,z4),(10,z4),(12,z4),(16,Bq),(17,z4),(18,z4),(20,z4),(21,z38),(24,z4)],[(100,zm),(101,zm),(102,zm)]⟩
def Zg:SS:=⟨[(0,z1),(1,z4),(7,z2),(8,z4),(10,z4),(12,z4),(16,Bq),(17,z4),(18,z4),(20,z4),(21,z38),(24,z4)],[(100,zm),(101,zm),(102,zm)]⟩
def Zf:SS:=⟨[(0,z1),(1,z4),(7,z2),(8,z4),(10,z4),(12,z4),(16,Bq),(17,z4),(18,z4),(20,z4)],[(100,zm),(101,zm)]⟩
def Ze:SS:=⟨[(0,z1),(1,z4),(7,z2),(8,z4),(10,z4),(12,z4),(16,Bq)],[(100,zm),(101,zm)]⟩
def Zb(k:Nat):bZ:=⟨⟨[(0,z1),(1,z4)],[]⟩,⟨[(0,z2),(1,z4),(2,z6)],[(100,zm)]⟩,2,3,fun x=>Bl k x.1 x.2⟩
theorem Zd(k:Nat):fM Tryz.prog 174 (Zb k):=ok (cx [f80 k,f233 k,f242 k,f248 k] 203 nb) Tryz.f174 fun h x=>Q (Q (Q (Q (Q (Q (Q (Q (Q (Q (Q (X h) (B (L Ze (fun n x=>Bl.A_ k n x.1.1 x.1.2.1 x.1.2.2.2.1 x.1.2.2.2.2.1 x.1.2.2.2.2.2.1 x.2.1 x.2.2) k fun n13=>Q (B (Q (Q (Q (Q (B (L Zf (fun n x=>Bl.EK k (Bl.A_ k n13) n x.1.1 x.1.2.1 x.1.2.2.2.1 x.1.2.2.2.2.1 x.1.2.2.2.2.2.1 x.1.2.2.2.2.2.2.2.1 x.1.2.2.2.2.2.2.2.2.1 x.1.2.2.2.2.2.2.2.2.2 x.2.1 x.2.2) k fun n19=>Q (Q (X h) (B (Q (Q (Q (Q (B (L Zg (fun n x=>Bl.Kg k (Bl.EK k (Bl.A_ k n13) n19) n x.1.1 x.1.2.1 x.1.2.2.2.1 x.1.2.2.2.2.1 x.1.2.2.2.2.2.1 x.1.2.2.2.2.2.2.2.1 x.1.2.2.2.2.2.2.2.2.1 x.1.2.2.2.2.2.2.2.2.2.1 x.1.2.2.2.2.2.2.2.2.2.2.2 x.2.1 x.2.2.1 x.2.2.2) k fun n26=>Q (Q (X h) (B (K h Zc (fun x=>Bl.d28 k (Bl.Kg k (Bl.EK k (Bl.A_ k n13) n19) n26) x.1.1 x.1.2.1 x.1.2.2.2.1 x.1.2.2.2.2.1 x.1.2.2.2.2.2.1 x.1.2.2.2.2.2.2.2.1 x.1.2.2.2.2.2.2.2.2.1 x.1.2.2.2.2.2.2.2.2.2.1 x.1.2.2.2.2.2.2.2.2.2.2.2 x.2.1 x.2.2.1 x.2.2.2) [[0,1,2,3,4,5,7,8,9,12,6,10,11,13,14,15,16],[0,1,2,3,4,5,7,8,9,12,10,6,11,13,14,15,16]] (O (fun x=>by kernel_rfl) (O (fun x=>by kernel_rfl) (N)))))) (X h))) (X h)) (X h)) (X h)) (X h)))) (X h))) (X h)) (X h)) (X h)) (X h))) (X h)))) (X h)) (X h)) (X h)) (X h)) (X h)) (X h)) (X h)) (X h)) (X h)) (X h)
def f174(k:Nat):Fc Tryz.prog:=⟨174,_,Zd k⟩
def Zj:SS:=⟨[(0,z1),(1,z4),(7,z2),(8,Bq),(10,z38),(11,z4)],[(100,zg),(101,zm),(102,zg)]⟩
def Zh(k:Nat):bZ:=⟨⟨[(0,z1),(1,z4)],[]⟩,⟨[(0,z2),(1,z4),(2,z6)],[(100,zg)]⟩,2,3,fun x=>H9 k x.1 x.2⟩
theorem Zi(k:Nat):fM Tryz.prog 175 (Zh k):=ok (cx [f80 k,f174 k] 70 nb) Tryz.f175 fun h x=>Q (Q (Q (Q (Q (Q (X h) (Q (B (L Zj (fun n x=>H9.l7 k n x.1.1 x.1.2.1 x.1.2.2.2.2.2 x.2.1 x.2.2.1 x.2.2.2) k fun n7=>X h)) (X h))) (X h)) (X h)) (X h)) (X h)) (X h)
def f175(k:Nat):Fc Tryz.prog:=⟨175,_,Zi k⟩
def Zm:SS:=⟨[(7,z2),(8,Bq),(10,z38),(11,z4),(13,z40),(14,z8),(15,z4)],[(100,zg),(101,zm),(102,zg),(103,zg)]⟩
def Zk(k:Nat):bZ:=⟨⟨[(0,z1),(1,z4)],[]⟩,⟨[(0,z2),(1,z4),(2,z6)],[(100,zg)]⟩,2,3,fun x=>I1 k x.1 x.2⟩
theorem Zl(k:Nat):fM Tryz.prog 176 (Zk k):=ok (cx [f80 k,f174 k,f175 k] 84 nb) Tryz.f176 fun h x=>Q (Q (Q (Q (Q (Q (Q (Q (X h) (Q (B (L Zm (fun n x=>I1.l9 k n x.1.2.2.2.1 x.1.2.2.2.2.2.1 x.1.2.2.2.2.2.2 x.2.1 x.2.2.1 x.2.2.2.1 x.2.2.2.2) k fun n9=>X h)) (X h))) (X h)) (X h)) (X h)) (X h)) (X h)) (X h)) (X h)
def f176(k:Nat):Fc Tryz.prog:=⟨176,_,Zl k⟩
def Zq:SS:=⟨[(1,z1),(2,z4),(3,z4),(11,z4),(12,z2),(13,z4),(14,z4)],[(100,zg)]⟩
def Zp:SS:=⟨[(1,z1),(2,z4),(3,z4),(11,z4),(12,z2),(13,z4),(14,z4),(15,z4)],[(100,zg)]⟩
def Zr:SS:=⟨[(1,z1),(2,z4),(3,z4),(11,z4),(12,z2),(13,z4)],[(100,zg)]⟩
def Zn(k:Nat):bZ:=⟨⟨[(0,z4),(1,z1),(2,z4),(3,z4)],[]⟩,⟨[(0,z2),(1,z4),(2,z6)],[(100,zg)]⟩,4,3,fun x=>Dq k x.1 x.2.1 x.2.2.1 x.2.2.2⟩
theorem Zo(k:Nat):fM Tryz.prog 177 (Zn k):=ok (cx [f80 k,f171 k] 89 nb) Tryz.f177 fun h x=>Q (Q (Q (Q (Q (X h) (Q (B (L Zr (fun n x=>Dq.l6 k n x.1.1 x.1.2.1 x.1.2.2.1 x.1.2.2.2.1 x.1.2.2.2.2.2 x.2) k fun n6=>Q (Q (X h) (B (Q (Q (Q (T (X h) Zq fun x=>Dq.c15 k (Dq.l6 k n6) x.1.1 x.1.2.1 x.1.2.2.1 x.1.2.2.2.1 x.1.2.2.2.2.2.1 x.1.2.2.2.2.2.2 x.2) (X h)) (Q (B (L Zp (fun n x=>Dq.l10 k (Dq.l6 k n6) n x.1.1 x.1.2.1 x.1.2.2.1 x.1.2.2.2.1 x.1.2.2.2.2.2.1 x.1.2.2.2.2.2.2.1 x.1.2.2.2.2.2.2.2 x.2) k fun n10=>X h)) (X h))) (X h)))) (X h))) (X h))) (X h)) (X h)) (X h)) (X h)
def f177(k:Nat):Fc Tryz.prog:=⟨177,_,Zo k⟩
def Zv:SS:=⟨[(3,z4),(11,z2),(12,Bq),(13,z4),(15,z4)],[(100,zm),(101,zm)]⟩
def Zt(k:Nat):bZ:=⟨⟨[(0,z1),(1,z4),(2,z4),(3,z4)],[]⟩,⟨[(0,z2),(1,z4),(2,z6)],[(100,zm)]⟩,4,3,fun x=>I4 k x.1 x.2.1 x.2.2.1 x.2.2.2⟩
theorem Zu(k:Nat):fM Tryz.prog 178 (Zt k):=ok (cx [f169 k] 65 nb) Tryz.f178 fun h x=>Q (Q (Q (Q (Q (Q (X h) (Q (B (L Zv (fun n x=>I4.l8 k n x.1.1 x.1.2.2.2.1 x.1.2.2.2.2 x.2.1 x.2.2) k fun n8=>X h)) (X h))) (X h)) (X h)) (X h)) (X h)) (X h)
def f178(k:Nat):Fc Tryz.prog:=⟨178,_,Zu k⟩
def Zy:SS:=⟨[(0,z66),(1,z23),(6,z2),(7,z4)],[(100,zg)]⟩
def Zw(k:Nat):bZ:=⟨⟨[(0,z66),(1,z23)],[]⟩,⟨[(0,z2),(1,z6)],[(100,zg)]⟩,2,2,fun x=>IY k x.1 x.2⟩
theorem Zx(k:Nat):fM Tryz.prog 179 (Zw k):=ok (cx [f80 k] 40 nb) Tryz.f179 fun h x=>Q (Q (Q (Q (X h) (Q (B (L Zy (fun n x=>IY.l5 k n x.1.1 x.1.2.1 x.1.2.2.2 x.2) k fun n5=>X h)) (X h))) (X h)) (X h)) (X h)
def f179(k:Nat):Fc Tryz.prog:=⟨179,_,Zx k⟩
def WG(k:Nat):bZ:=⟨⟨[(0,z4),(1,z4),(2,z1),(3,z4),(4,z66)],[]⟩,⟨[(0,z2),(1,z4),(2,z6)],[(100,zg)]⟩,5,3,fun x=>Ml k x.1 x.2.1 x.2.2.1 x.2.2.2.1 x.2.2.2.2⟩
theorem WH(k:Nat):fM Tryz.prog 116 (WG k):=ok (cx [f125 k,f169 k,f172 k,f173 k,f174 k,f175 k,f176 k,f177 k,f178 k,f179 k] 132 nb) Tryz.f116 fun h x=>X h
def f116(k:Nat):Fc Tryz.prog:=⟨116,_,WH k⟩
def ahN(k:Nat):bZ:=⟨⟨[(0,z4),(1,z4),(2,z1),(3,z4),(4,z66)],[]⟩,⟨[(0,z2),(1,z6)],[(100,zg)]⟩,5,2,fun x=>NA k x.1 x.2.1 x.2.2.1 x.2.2.2.1 x.2.2.2.2⟩
theorem ahO(k:Nat):fM Tryz.prog 57 (ahN k):=ok (cx [f80 k,f115 k,f116 k,f117 k] 59 nb) Tryz.f57 fun h x=>X h
def f57(k:Nat):Fc Tryz.prog:=⟨57,_,ahO k⟩
def We:SS:=⟨[(4,zT),(12,z36),(15,z38),(16,z40),(22,z44),(24,z47),(25,z4),(26,z4),(27,(.p 106))],[(100,BL),(101,BP),(102,zm),(103,zm),(104,zg),(105,EO),(106,(.box Jt z77))]⟩
def Wd:SS:=⟨[(4,zT),(12,z36),(15,z38),(16,z40),(22,z44),(24,z47),(25,z4),(26,z4)],[(100,BL),(101,BP),(102,zm),(103,zm),(104,zg),(105,EO)]⟩
def V9:SS:=⟨[(3,z66),(4,zT),(11,Bq),(12,z26),(14,z1),(15,z40),(16,z44),(17,z4),(19,z4),(20,z4),(21,z4)],[(100,BL),(101,EO),(102,BP),(103,zm),(104,zm)]⟩
def V_:SS:=⟨[(3,z66),(4,zT),(11,Bq),(12,z26),(14,z1),(15,z40),(16,z44),(17,z4),(19,z4),(20,z4),(21,z4)],[(100,BL),(101,EO),(102,BP),(103,zm),(104,zm)]⟩
def V8:SS:=⟨[(3,z66),(4,zT),(11,Bq),(12,z26),(14,z1),(15,z40),(16,z44),(17,z4),(19,z4),(20,z4),(21,z4)],[(100,BL),(101,EO),(102,BP),(103,zm),(104,zm)]⟩
def V6:SS:=⟨[(3,z66),(4,zT),(11,Bq),(12,z26),(14,z1)],[(100,BL),(101,EO),(102,BP)]⟩
def V5(k:Nat):bZ:=⟨⟨[(0,z60),(1,z1),(2,z4),(3,z66)],[]⟩,⟨[(0,z2),(1,z4),(2,z4)],[(100,EO)]⟩,4,3,fun x=>Bc k x.1 x.2.1 x.2.2.1 x.2.2.2⟩
theorem V7(k:Nat):fM Tryz.prog 10 (V5 k):=ok (cx [f54 k,f55 k,f56 k,f57 k] 183 nb) Tryz.f10 fun h x=>Q (Q (Q (Q (Q (Q (Q (Q (Q (Q (Q (Q (Q (Q (Q (Q (X h) (Q (B (L Wd (fun n x=>Bc.Df k n x.1.2.2.2.2.2.2.1 x.1.2.2.2.2.2.2.2 x.2.1 x.2.2.1 x.2.2.2.1 x.2.2.2.2.1 x.2.2.2.2.2.1 x.2.2.2.2.2.2) k fun n29=>Q (Q (X h) (B (Q (Q (T (X h) We fun x=>Bc.Oi k (Bc.Df k n29) x.1.2.2.2.2.2.2.1 x.1.2.2.2.2.2.2.2.1 x.2.1 x.2.2.1 x.2.2.2.1 x.2.2.2.2.1 x.2.2.2.2.2.1 x.2.2.2.2.2.2.1 x.2.2.2.2.2.2.2) (X h)) (X h)))) (X h))) (X h))) (X h)) (X h)) (X h)) (X h)) (X h)) (Q (B (L V8 (fun n x=>Bc.BX k n x.1.1 x.1.2.2.2.2.1 x.1.2.2.2.2.2.2.2.1 x.1.2.2.2.2.2.2.2.2.1 x.1.2.2.2.2.2.2.2.2.2.1 x.1.2.2.2.2.2.2.2.2.2.2 x.2.1 x.2.2.1 x.2.2.2.1 x.2.2.2.2.1 x.2.2.2.2.2) k fun n15=>Q (Q (T (X h) V9 fun x=>Bc.c16 k (Bc.BX k n15) x.1.1 x.1.2.2.2.2.1 x.1.2.2.2.2.2.2.2.1 x.1.2.2.2.2.2.2.2.2.1 x.1.2.2.2.2.2.2.2.2.2.1 x.1.2.2.2.2.2.2.2.2.2.2 x.2.1 x.2.2.1 x.2.2.2.1 x.2.2.2.2.1 x.2.2.2.2.2) (B (Q (T (X h) V_ fun x=>Bc.c19 k (Bc.BX k n15) x.1.1 x.1.2.2.2.2.1 x.1.2.2.2.2.2.2.2.1 x.1.2.2.2.2.2.2.2.2.1 x.1.2.2.2.2.2.2.2.2.2.1 x.1.2.2.2.2.2.2.2.2.2.2 x.2.1 x.2.2.1 x.2.2.2.1 x.2.2.2.2.1 x.2.2.2.2.2) (X h)))) (X h))) (X h))) (X h)) (X h)) (X h)) (Q (X h) (K h V6 (fun x=>Bc.d8 k x.1.1 x.1.2.2.2.2 x.2.1 x.2.2.1 x.2.2.2) [[0,1,2,3,5,4,6,7,8],[0,1,2,3,5,6,4,7,8]] (O (fun x=>by kernel_rfl) (O (fun x=>by kernel_rfl) (N)))))) (X h)) (X h)) (X h)) (X h)) (X h)
def f10(k:Nat):Fc Tryz.prog:=⟨10,_,V7 k⟩
def Xv:SS:=⟨[(0,z4),(9,z2),(10,z36),(12,z1)],[(100,zg),(101,BP)]⟩
def Xu(k:Nat):bZ:=⟨⟨[(0,z4),(1,z1),(2,z4)],[]⟩,⟨[(0,z2),(1,z4),(2,z4)],[(100,zg)]⟩,3,3,fun x=>Ko k x.1 x.2.1 x.2.2⟩
theorem Xw(k:Nat):fM Tryz.prog 129 (Xu k):=ok (cx [f54 k,f55 k,f172 k] 88 nb) Tryz.f129 fun h x=>Q (Q (Q (Q (Q (Q (X h) (Q (X h) (K h Xv (fun x=>Ko.d8 k x.1.1 x.1.2.2.2 x.2.1 x.2.2) [[0,1,2,3,5,4,6,7,8],[0,1,2,3,5,6,4,7,8]] (O (fun x=>by kernel_rfl) (O (fun x=>by kernel_rfl) (N)))))) (X h)) (X h)) (X h)) (X h)) (X h)
def f129(k:Nat):Fc Tryz.prog:=⟨129,_,Xw k⟩
def aii:SS:=⟨[(1,z1),(3,zT),(5,z36),(9,z38),(10,z40),(11,z44),(15,z47),(16,z4),(17,z4)],[(100,BL),(101,Mv),(102,zm),(103,zg),(104,zg),(105,zm)]⟩
def aih:SS:=⟨[(1,z1),(3,zT),(5,z36),(9,z38),(10,z40),(11,z44)],[(100,BL),(101,Mv),(102,zm),(103,zg),(104,zg)]⟩
def aie(k:Nat):bZ:=⟨⟨[(0,z60),(1,z1),(2,z25)],[]⟩,⟨[(0,z2),(1,Bq),(2,z4)],[(100,zm),(101,zg)]⟩,3,3,fun x=>DX k x.1 x.2.1 x.2.2⟩
theorem aif(k:Nat):fM Tryz.prog 69 (aie k):=ok (cx [f54 k,f129 k] 102 nb) Tryz.f69 fun h x=>Q (Q (Q (Q (Q (T (Q (Q (Q (Q (X h) (B (L aii (fun n x=>DX.A_ k n x.1.1 x.1.2.2.2.2.2.2.2.1 x.1.2.2.2.2.2.2.2.2 x.2.1 x.2.2.1 x.2.2.2.1 x.2.2.2.2.1 x.2.2.2.2.2.1 x.2.2.2.2.2.2) k fun n13=>X h))) (X h)) (X h)) (X h)) aih fun x=>DX.c10 k x.1.1 x.2.1 x.2.2.1 x.2.2.2.1 x.2.2.2.2.1 x.2.2.2.2.2) (X h)) (X h)) (X h)) (X h)) (X h)
def f69(k:Nat):Fc Tryz.prog:=⟨69,_,aif k⟩
def ado:SS:=⟨[(1,z1),(3,zT),(8,Bq),(9,z38),(11,z40),(12,z4)],[(100,BL),(101,zm),(102,zg),(103,EO)]⟩
def adm(k:Nat):bZ:=⟨⟨[(0,z60),(1,z1),(2,z25)],[]⟩,⟨[(0,z2),(1,z4)],[(100,EO)]⟩,3,2,fun x=>IX k x.1 x.2.1 x.2.2⟩
theorem adn(k:Nat):fM Tryz.prog 25 (adm k):=ok (cx [f10 k,f69 k] 55 nb) Tryz.f25 fun h x=>Q (Q (Q (Q (Q (X h) (Q (B (L ado (fun n x=>IX.l6 k n x.1.1 x.1.2.2.2.2.2 x.2.1 x.2.2.1 x.2.2.2.1 x.2.2.2.2) k fun n6=>X h)) (X h))) (X h)) (X h)) (X h)) (X h)
def f25(k:Nat):Fc Tryz.prog:=⟨25,_,adn k⟩
def Xr:SS:=⟨[(0,z_),(6,z4),(7,z4),(8,z2),(9,z4)],[(100,zm)]⟩
def Xt:SS:=⟨[(0,z_),(6,z4),(7,z4),(8,z2),(9,z4)],[(100,zm)]⟩
def Xq:SS:=⟨[(0,z_),(6,z4),(7,z4),(8,z2),(9,z4)],[(100,zm)]⟩
def Xo(k:Nat):bZ:=⟨⟨[(0,z_),(1,z4)],[]⟩,⟨[(0,z4),(1,z4)],[]⟩,2,2,fun x=>Di k x.1 x.2⟩
theorem Xp(k:Nat):fM Tryz.prog 128 (Xo k):=ok (cx [f206 k] 43 nb) Tryz.f128 fun h x=>Q (Q (Q (Q (X h) (Q (B (L Xq (fun n x=>Di.l4 k n x.1.1 x.1.2.1 x.1.2.2.1 x.1.2.2.2.2 x.2) k fun n4=>Q (Q (T (X h) Xr fun x=>Di.c5 k (Di.l4 k n4) x.1.1 x.1.2.1 x.1.2.2.1 x.1.2.2.2.2 x.2) (B (Q (T (X h) Xt fun x=>Di.c8 k (Di.l4 k n4) x.1.1 x.1.2.1 x.1.2.2.1 x.1.2.2.2.2 x.2) (X h)))) (X h))) (X h))) (X h)) (X h)) (X h)
def f128(k:Nat):Fc Tryz.prog:=⟨128,_,Xp k⟩
def aic(k:Nat):bZ:=⟨⟨[(0,z_),(1,z4)],[]⟩,⟨[(0,z68),(1,z6)],[]⟩,2,2,fun x=>Kq k x.1 x.2⟩
theorem aid(k:Nat):fM Tryz.prog 68 (aic k):=ok (cx [f80 k,f127 k,f128 k] 38 nb) Tryz.f68 fun h x=>X h
def f68(k:Nat):Fc Tryz.prog:=⟨68,_,aid k⟩
def aeo(k:Nat):bZ:=⟨⟨[(0,z60),(1,(.ro Jt))],[]⟩,⟨[(0,z6)],[]⟩,2,1,fun x=>Px k x.1 x.2⟩
theorem aep(k:Nat):fM Tryz.prog 281 (aeo k):=ok (cx [f80 k,f180 k] 35 nb) Tryz.f281 fun h x=>X h
def f281(k:Nat):Fc Tryz.prog:=⟨281,_,aep k⟩
def abw:SS:=⟨[(2,z78),(7,zT),(9,z4)],[(100,BL)]⟩
def abu(k:Nat):bZ:=⟨⟨[(0,z_),(1,z4),(2,z78)],[]⟩,⟨[(0,z6)],[]⟩,3,1,fun x=>H_ k x.1 x.2.1 x.2.2⟩
theorem abv(k:Nat):fM Tryz.prog 216 (abu k):=ok (cx [f68 k,f281 k] 48 nb) Tryz.f216 fun h x=>Q (Q (Q (Q (X h) (Q (B (L abw (fun n x=>H_.l5 k n x.1.1 x.1.2.2 x.2) k fun n5=>X h)) (X h))) (X h)) (X h)) (X h)
def f216(k:Nat):Fc Tryz.prog:=⟨216,_,abv k⟩
def abA:SS:=⟨[(0,z78),(3,z4),(4,z4)],[]⟩
def abz:SS:=⟨[(0,z78),(3,z4),(4,z4)],[]⟩
def abx(k:Nat):bZ:=⟨⟨[(0,z78)],[]⟩,⟨[(0,z4)],[]⟩,1,1,fun x=>EL k x⟩
theorem aby(k:Nat):fM Tryz.prog 217 (abx k):=ok (cx [] 20 nb) Tryz.f217 fun h x=>Q (Q (Q (X h) (Q (B (L abz (fun n x=>EL.l3 k n x.1 x.2.1 x.2.2) k fun n3=>Q (Q (T (X h) abA fun x=>EL.c4 k (EL.l3 k n3) x.1 x.2.1 x.2.2) (X h)) (X h))) (X h))) (X h)) (X h)
def f217(k:Nat):Fc Tryz.prog:=⟨217,_,aby k⟩
def aeu:SS:=⟨[(0,z_),(1,z4),(5,z4),(6,z4)],[]⟩
def aet:SS:=⟨[(0,z_),(1,z4),(5,z4),(6,z4)],[]⟩
def aer(k:Nat):bZ:=⟨⟨[(0,z_),(1,z4)],[]⟩,⟨[(0,z4)],[]⟩,2,1,fun x=>EE k x.1 x.2⟩
theorem aes(k:Nat):fM Tryz.prog 282 (aer k):=ok (cx [] 21 nb) Tryz.f282 fun h x=>Q (Q (Q (X h) (Q (B (L aet (fun n x=>EE.l3 k n x.1 x.2.1 x.2.2.1 x.2.2.2) k fun n3=>Q (Q (T (X h) aeu fun x=>EE.c4 k (EE.l3 k n3) x.1 x.2.1 x.2.2.1 x.2.2.2) (X h)) (X h))) (X h))) (X h)) (X h)
def f282(k:Nat):Fc Tryz.prog:=⟨282,_,aes k⟩
def aev(k:Nat):bZ:=⟨⟨[(0,z80),(1,z4),(2,z7),(3,z4),(4,z4)],[(10,zm)]⟩,⟨[(0,z6)],[(10,zm)]⟩,5,1,fun x=>ND k x.1.1 x.1.2.1 x.1.2.2.2.1 x.1.2.2.2.2 x.2⟩
theorem aew(k:Nat):fM Tryz.prog 283 (aev k):=ok (cx [] 62 nb) Tryz.f283 fun h x=>X h
def f283(k:Nat):Fc Tryz.prog:=⟨283,_,aew k⟩
def abE:SS:=⟨[(0,z_),(1,z4),(2,z80),(3,z7),(4,z4),(5,z4),(6,z4),(7,z2),(19,z4),(20,z4)],[(10,zm),(100,zg)]⟩
def abB:SS:=⟨[(2,z80),(3,z7),(7,(.h 11)),(18,z4)],[(10,zm),(11,zg)]⟩
def MX(F:(List ze)→Int→(List Bf)→Int→Int→Int→(List Int)→(List za)→Option ((Unit×Bool)×(List Int)×(List za))):bZ:=⟨⟨[(0,z_),(1,z4),(2,z80),(3,z7),(4,z4),(5,z4),(6,z4),(7,(.h 11))],[(10,zm),(11,zg)]⟩,⟨[(0,z2),(1,z6)],[(10,zm),(100,zg)]⟩,8,2,fun x=>F x.1.1 x.1.2.1 x.1.2.2.1 x.1.2.2.2.2.1 x.1.2.2.2.2.2.1 x.1.2.2.2.2.2.2.1 x.2.1 x.2.2⟩
def aeB:SS:=⟨[(0,z_),(1,z4),(2,z80),(3,z7),(4,z4),(5,z4),(6,z4),(7,z2),(18,z4),(19,z4),(21,z6)],[(10,zm),(100,zg)]⟩
def aeA:SS:=⟨[(0,z_),(1,z4),(2,z80),(3,z7),(4,z4),(5,z4),(6,z4),(7,z2),(18,z4),(19,z4)],[(10,zm),(100,zg)]⟩
def aez:SS:=⟨[(0,z_),(1,z4),(2,z80),(3,z7),(4,z4),(5,z4),(7,z2),(20,z4)],[(10,zm),(100,zg)]⟩
def MZ(F:(List ze)→Int→(List Bf)→Int→Int→Int→(List Int)→(List za)→Option ((Unit×Bool)×(List Int)×(List za))):bZ:=⟨⟨[(0,z_),(1,z4),(2,z80),(3,z7),(4,z4),(5,z4),(6,z4),(7,(.h 11))],[(10,zm),(11,zg)]⟩,⟨[(0,z2),(1,z6)],[(10,zm),(100,zg)]⟩,8,2,fun x=>F x.1.1 x.1.2.1 x.1.2.2.1 x.1.2.2.2.2.1 x.1.2.2.2.2.2.1 x.1.2.2.2.2.2.2.1 x.2.1 x.2.2⟩
theorem abD(k:Nat)(EX:(List ze)→Int→(List Bf)→Int→Int→Int→(List Int)→(List za)→Option ((Unit×Bool)×(List Int)×(List za)))(G7:(List ze)→Int→(List Bf)→Int→Int→Int→(List Int)→(List za)→Option ((Unit×Bool)×(List Int)×(List za)))(Sn:fM Tryz.prog 218 (MX EX))(Sq:fM Tryz.prog 284 (MZ G7)):fM Tryz.prog 218 (MX (Bz.b k EX G7)):=ok (cx [f272 k,f282 k,f283 k,⟨284,_,Sq⟩] 87 nb) Tryz.f218 fun h x=>Q (Q (Q (Q (X h) (Q (B (L abE (fun n x=>Bz.l8 k G7 n x.1.1 x.1.2.1 x.1.2.2.1 x.1.2.2.2.2.1 x.1.2.2.2.2.2.1 x.1.2.2.2.2.2.2.1 x.1.2.2.2.2.2.2.2.2.1 x.1.2.2.2.2.2.2.2.2.2 x.2.1 x.2.2) k fun n8=>X h)) (X h))) (X h)) (Q (D (Q (Q (Q (X h) (K h abB (fun x=>Bz.d5 k x.1.1 x.1.2.2.2 x.2.1 x.2.2) [[0,1,2,3,4,6,7,8,5,9,10,11,12,13,14,15,16,17],[0,1,2,3,4,6,7,8,9,10,5,11,12,13,14,15,16,17]] (O (fun x=>by kernel_rfl) (O (fun x=>by kernel_rfl) (N))))) (X h)) (X h)) (X h)) (X h))) (X h)
theorem aey(k:Nat)(EX:(List ze)→Int→(List Bf)→Int→Int→Int→(List Int)→(List za)→Option ((Unit×Bool)×(List Int)×(List za)))(G7:(List ze)→Int→(List Bf)→Int→Int→Int→(List Int)→(List za)→Option ((Unit×Bool)×(List Int)×(List za)))(Sn:fM Tryz.prog 218 (MX EX))(Sq:fM Tryz.prog 284 (MZ G7)):fM Tryz.prog 284 (MZ (Ci.b k EX G7)):=ok (cx [⟨218,_,Sn⟩,f272 k,f282 k,f283 k] 168 nb) Tryz.f284 fun h x=>Q (Q (Q (Q (Q (Q (Q (Q (T (Q (Q (X h) (B (L aeB (fun n x=>Ci.Dp k EX n x.1.1 x.1.2.1 x.1.2.2.1 x.1.2.2.2.2.1 x.1.2.2.2.2.2.1 x.1.2.2.2.2.2.2.1 x.1.2.2.2.2.2.2.2.2.1 x.1.2.2.2.2.2.2.2.2.2.1 x.1.2.2.2.2.2.2.2.2.2.2 x.2.1 x.2.2) k fun n18=>X h))) (X h)) aeA fun x=>Ci.c17 k EX x.1.1 x.1.2.1 x.1.2.2.1 x.1.2.2.2.2.1 x.1.2.2.2.2.2.1 x.1.2.2.2.2.2.2.1 x.1.2.2.2.2.2.2.2.2.1 x.1.2.2.2.2.2.2.2.2.2 x.2.1 x.2.2) (X h)) (Q (D (Q (X h) (Q (B (L aez (fun n x=>Ci.l10 k n x.1.1 x.1.2.1 x.1.2.2.1 x.1.2.2.2.2.1 x.1.2.2.2.2.2.1 x.1.2.2.2.2.2.2.2 x.2.1 x.2.2) k fun n10=>X h)) (X h))) (X h)) (X h))) (X h)) (X h)) (X h)) (X h)) (X h)) (X h)
theorem Qb(k:Nat):∀d,fM Tryz.prog 218 (MX (Bz.d k d))∧fM Tryz.prog 284 (MZ (Ci.d k d))
 |0=>⟨yL (fun _=>rfl),yL (fun _=>rfl)⟩
 |d+1=>let ih:=Qb k d
  ⟨abD k (Bz.d k d) (Ci.d k d) ih.1 ih.2,aey k (Bz.d k d) (Ci.d k d) ih.1 ih.2⟩
theorem abC(k:Nat):fM Tryz.prog 218 (MX (Bz k)):=(Qb k k).1
def f218(k:Nat):Fc Tryz.prog:=⟨218,_,abC k⟩
theorem aex(k:Nat):fM Tryz.prog 284 (MZ (Ci k)):=(Qb k k).2
def f284(k:Nat):Fc Tryz.prog:=⟨284,_,aex k⟩
def agO(k:Nat):bZ:=⟨⟨[(0,z65),(1,z4)],[]⟩,⟨[(0,z4)],[]⟩,2,1,fun x=>NC k x.1 x.2⟩
theorem agP(k:Nat):fM Tryz.prog 330 (agO k):=ok (cx [f80 k] 17 nb) Tryz.f330 fun h x=>X h
def f330(k:Nat):Fc Tryz.prog:=⟨330,_,agP k⟩
def aeE:SS:=⟨[(0,z_),(1,z4),(2,z66),(3,z4),(9,z4),(10,z4)],[]⟩
def M3(F:(List ze)→Int→(List za)→Int→Option Int):bZ:=⟨⟨[(0,z_),(1,z4),(2,z66),(3,z4)],[]⟩,⟨[(0,z4)],[]⟩,4,1,fun x=>F x.1 x.2.1 x.2.2.1 x.2.2.2⟩
def agc:SS:=⟨[(0,z_),(1,z4),(2,z66),(3,z4),(9,z4),(11,z4)],[]⟩
def agb:SS:=⟨[(0,z_),(1,z4),(2,z66),(3,z4),(9,z4)],[]⟩
def agd:SS:=⟨[(0,z_),(1,z4),(2,z66),(3,z4),(10,z4)],[]⟩
def M4(F:(List ze)→Int→(List za)→Int→Option Int):bZ:=⟨⟨[(0,z_),(1,z4),(2,z66),(3,z4)],[]⟩,⟨[(0,z4)],[]⟩,4,1,fun x=>F x.1 x.2.1 x.2.2.1 x.2.2.2⟩
theorem aeD(k:Nat)(Ee:(List ze)→Int→(List za)→Int→Option Int)(G8:(List ze)→Int→(List za)→Int→Option Int)(Sr:fM Tryz.prog 285 (M3 Ee))(Su:fM Tryz.prog 315 (M4 G8)):fM Tryz.prog 285 (M3 (Bw.b k Ee G8)):=ok (cx [f180 k,f272 k,⟨315,_,Su⟩] 58 nb) Tryz.f285 fun h x=>Q (Q (Q (Q (X h) (Q (B (L aeE (fun n x=>Bw.l7 k G8 n x.1 x.2.1 x.2.2.1 x.2.2.2.1 x.2.2.2.2.1 x.2.2.2.2.2) k fun n7=>X h)) (X h))) (X h)) (X h)) (X h)
theorem aga(k:Nat)(Ee:(List ze)→Int→(List za)→Int→Option Int)(G8:(List ze)→Int→(List za)→Int→Option Int)(Sr:fM Tryz.prog 285 (M3 Ee))(Su:fM Tryz.prog 315 (M4 G8)):fM Tryz.prog 315 (M4 (C7.b k Ee G8)):=ok (cx [⟨285,_,Sr⟩,f330 k] 51 nb) Tryz.f315 fun h x=>Q (Q (Q (T (Q (X h) (Q (B (L agc (fun n x=>C7.A_ k Ee n x.1 x.2.1 x.2.2.1 x.2.2.2.1 x.2.2.2.2.1 x.2.2.2.2.2) k fun n13=>X h)) (X h))) agb fun x=>C7.c12 k Ee x.1 x.2.1 x.2.2.1 x.2.2.2.1 x.2.2.2.2) (Q (D (Q (Q (T (X h) agd fun x=>C7.c6 k Ee x.1 x.2.1 x.2.2.1 x.2.2.2.1 x.2.2.2.2) (X h)) (X h)) (X h)) (X h))) (X h)) (X h)
theorem Qe(k:Nat):∀d,fM Tryz.prog 285 (M3 (Bw.d k d))∧fM Tryz.prog 315 (M4 (C7.d k d))
 |0=>⟨yL (fun _=>rfl),yL (fun _=>rfl)⟩
 |d+1=>let ih:=Qe k d
  ⟨aeD k (Bw.d k d) (C7.d k d) ih.1 ih.2,aga k (Bw.d k d) (C7.d k d) ih.1 ih.2⟩
theorem aeC(k:Nat):fM Tryz.prog 285 (M3 (Bw k)):=(Qe k k).1
def f285(k:Nat):Fc Tryz.prog:=⟨285,_,aeC k⟩
theorem af_(k:Nat):fM Tryz.prog 315 (M4 (C7 k)):=(Qe k k).2
def f315(k:Nat):Fc Tryz.prog:=⟨315,_,af_ k⟩
def abG:SS:=⟨[(0,z_),(3,zT)],[(100,(.box Ky (.agg (.cons z66 .nil))))]⟩
def abF(k:Nat):bZ:=⟨⟨[(0,z_),(1,(.ro Ky))],[]⟩,⟨[(0,z6)],[]⟩,2,1,fun x=>JN k x.1 x.2⟩
theorem abH(k:Nat):fM Tryz.prog 219 (abF k):=ok (cx [f137 k,f285 k] 23 nb) Tryz.f219 fun h x=>Q (Q (X h) (K h abG (fun x=>JN.d1 k x.1.1 x.2) [[0,1,2,3,4,5,6,7,8,9,10,11,13,12,14,15,16,17,18],[0,1,2,3,4,5,6,7,8,9,10,11,13,14,15,12,16,17,18]] (O (fun x=>by kernel_rfl) (O (fun x=>by kernel_rfl) (N))))) (X h)
def f219(k:Nat):Fc Tryz.prog:=⟨219,_,abH k⟩
def X_:SS:=⟨[(0,z_),(6,z2),(15,z4)],[(100,ER)]⟩
def X9:SS:=⟨[(0,z_),(1,z80),(6,z2),(10,Bq),(14,z4)],[(100,ER),(101,zm)]⟩
def X8:SS:=⟨[(0,z_),(1,z80),(6,z2),(8,z4),(10,Bq),(11,z4)],[(100,ER),(101,zm)]⟩
def X7:SS:=⟨[(0,z_),(1,z80),(6,z2),(8,z4),(9,z4)],[(100,ER)]⟩
def Ya:SS:=⟨[(0,z_),(1,z80),(6,z2),(7,z4)],[(100,ER)]⟩
def X5(k:Nat):bZ:=⟨⟨[(0,z_),(1,z80)],[]⟩,⟨[(0,z2),(1,z4)],[(100,ER)]⟩,2,2,fun x=>AZ k x.1 x.2⟩
theorem X6(k:Nat):fM Tryz.prog 148 (X5 k):=ok (cx [f137 k,f205 k,f216 k,f217 k,f218 k,f219 k] 126 nb) Tryz.f148 fun h x=>Q (Q (Q (Q (Q (Q (Q (Q (Q (Q (X h) (Q (B (L X_ (fun n x=>AZ.Df k n x.1.1 x.1.2.2 x.2) k fun n29=>X h)) (X h))) (Q (B (L X9 (fun n x=>AZ.Ea k n x.1.1 x.1.2.1 x.1.2.2.2.2 x.2.1 x.2.2) k fun n24=>X h)) (X h))) (Q (B (L X8 (fun n x=>AZ.Jg k n x.1.1 x.1.2.1 x.1.2.2.2.1 x.1.2.2.2.2.2 x.2.1 x.2.2) k fun n17=>X h)) (X h))) (X h)) (Q (B (L X7 (fun n x=>AZ.AL k n x.1.1 x.1.2.1 x.1.2.2.2.1 x.1.2.2.2.2 x.2) k fun n11=>X h)) (X h))) (X h)) (Q (B (L Ya (fun n x=>AZ.l5 k n x.1.1 x.1.2.1 x.1.2.2.2 x.2) k fun n5=>X h)) (X h))) (X h)) (X h)) (X h)
def f148(k:Nat):Fc Tryz.prog:=⟨148,_,X6 k⟩
def aiF:SS:=⟨[(0,z1),(4,zT),(8,z36),(9,z38),(10,z4),(11,z43)],[(100,Ku),(101,w32),(102,(.sl 210 La)),(103,BL)]⟩
def aiH:SS:=⟨[(0,z1),(4,zT),(8,z36),(9,z38),(10,z4)],[(100,Ku),(101,w32),(102,(.sl 210 La))]⟩
def aiE(k:Nat):bZ:=⟨⟨[(0,z1),(1,(.ro y28)),(2,z4)],[]⟩,⟨[(0,z2),(1,z4)],[(100,ER)]⟩,3,2,fun x=>FP k x.1 x.2.1 x.2.2⟩
theorem aiG(k:Nat):fM Tryz.prog 93 (aiE k):=ok (cx [f25 k,f68 k,f148 k] 74 nb) Tryz.f93 fun h x=>Q (Q (Q (Q (X h) (Q (B (L aiH (fun n x=>FP.l4 k n x.1.1 x.1.2.2.2.2 x.2.1 x.2.2.1 x.2.2.2) k fun n4=>Q (Q (X h) (B (Q (Q (X h) (K h aiF (fun x=>FP.d7 k (FP.l4 k n4) x.1.1 x.1.2.2.2.2.1 x.2.1 x.2.2.1 x.2.2.2.1 x.2.2.2.2) [[0,1,2,4,3,5,6,7,8,9,10,11,12]] (O (fun x=>by kernel_rfl) (N)))) (X h)))) (X h))) (X h))) (X h)) (X h)) (X h)
def f93(k:Nat):Fc Tryz.prog:=⟨93,_,aiG k⟩
def ahh:SS:=⟨[(0,z1),(5,z2),(6,z36),(8,z38),(9,z4)],[(100,ER),(101,(.box y28 (.agg (.cons z40 v45)))),(102,ER),(103,BK),(104,FU)]⟩
def ahf(k:Nat):bZ:=⟨⟨[(0,z1)],[]⟩,⟨[(0,z2),(1,Bq),(2,z4)],[(100,BK),(101,ER)]⟩,1,3,fun x=>IZ k x⟩
theorem ahg(k:Nat):fM Tryz.prog 39 (ahf k):=ok (cx [f67 k,f93 k] 49 nb) Tryz.f39 fun h x=>Q (Q (Q (Q (Q (Q (X h) (Q (B (L ahh (fun n x=>IZ.l7 k n x.1.1 x.1.2.2.2.2 x.2.1 x.2.2.1 x.2.2.2.1 x.2.2.2.2.1 x.2.2.2.2.2) k fun n7=>X h)) (X h))) (X h)) (X h)) (X h)) (X h)) (X h)
def f39(k:Nat):Fc Tryz.prog:=⟨39,_,ahg k⟩
def aiC(k:Nat):bZ:=⟨⟨[(0,z4),(1,z4),(2,z4)],[]⟩,⟨[(0,z6)],[]⟩,3,1,fun x=>Az k x.1 x.2.1 x.2.2⟩
theorem aiD(k:Nat):fM Tryz.prog 85 (aiC k):=ok (cx [] 15 nb) Tryz.f85 fun h x=>X h
def f85(k:Nat):Fc Tryz.prog:=⟨85,_,aiD k⟩
def XC:SS:=⟨[(0,z1),(1,z4),(2,z4),(9,z4),(26,z4),(27,z4)],[]⟩
def XA(k:Nat):bZ:=⟨⟨[(0,z1),(1,z4),(2,z4)],[]⟩,⟨[(0,z4),(1,z4),(2,z6)],[]⟩,3,3,fun x=>Ey k x.1 x.2.1 x.2.2⟩
theorem XB(k:Nat):fM Tryz.prog 130 (XA k):=ok (cx [f85 k] 47 nb) Tryz.f130 fun h x=>Q (Q (Q (Q (X h) (Q (B (L XC (fun n x=>Ey.l5 k n x.1 x.2.1 x.2.2.1 x.2.2.2.1 x.2.2.2.2.1 x.2.2.2.2.2) k fun n5=>X h)) (X h))) (X h)) (X h)) (X h)
def f130(k:Nat):Fc Tryz.prog:=⟨130,_,XB k⟩
def adt(k:Nat):bZ:=⟨⟨[(0,z4)],[]⟩,⟨[(0,z4)],[]⟩,1,1,fun x=>GJ k x⟩
theorem adu(k:Nat):fM Tryz.prog 262 (adt k):=ok (cx [] 11 nb) Tryz.f262 fun h x=>X h
def f262(k:Nat):Fc Tryz.prog:=⟨262,_,adu k⟩
def adG(k:Nat):bZ:=⟨⟨[(0,z4)],[]⟩,⟨[(0,z6)],[]⟩,1,1,fun x=>KR k x⟩
theorem adH(k:Nat):fM Tryz.prog 267 (adG k):=ok (cx [f85 k] 5 nb) Tryz.f267 fun h x=>X h
def f267(k:Nat):Fc Tryz.prog:=⟨267,_,adH k⟩
def ae4(k:Nat):bZ:=⟨⟨[(0,z83),(1,z4)],[(0,ES),(10,BV)]⟩,⟨[],[(0,ES),(10,BV)]⟩,2,0,fun x=>FC k x.1.2 x.2.1 x.2.2⟩
theorem ae5(k:Nat):fM Tryz.prog 299 (ae4 k):=ok (cx [] 13 nb) Tryz.f299 fun h x=>X h
def f299(k:Nat):Fc Tryz.prog:=⟨299,_,ae5 k⟩
def ae1:SS:=⟨[(0,z83),(4,zT)],[(0,ES),(10,BV),(100,Mw)]⟩
def aeZ(k:Nat):bZ:=⟨⟨[(0,z83),(1,(.ro CU)),(2,z4)],[(0,ES),(10,BV)]⟩,⟨[(0,z4)],[(0,G6),(100,BV)]⟩,3,1,fun x=>Ho k x.1.2.1 x.1.2.2 x.2.1 x.2.2⟩
theorem ae0(k:Nat):fM Tryz.prog 297 (aeZ k):=ok (cx [f299 k] 40 nb) Tryz.f297 fun h x=>Q (Q (T (X h) ae1 fun x=>Ho.c3 k x.2.1 x.2.2.1 x.2.2.2) (X h)) (X h)
def f297(k:Nat):Fc Tryz.prog:=⟨297,_,ae0 k⟩
def ac9:SS:=⟨[],[]⟩
def ac_:SS:=⟨[(0,z1),(1,z4),(7,z87),(8,z4)],[]⟩
def ac7(k:Nat):bZ:=⟨⟨[(0,z1),(1,z4)],[]⟩,⟨[(0,z4),(1,z4),(2,z6)],[]⟩,2,3,fun x=>D9 k x.1 x.2⟩
theorem ac8(k:Nat):fM Tryz.prog 255 (ac7 k):=ok (cx [] 52 nb) Tryz.f255 fun h x=>Q (Q (Q (Q (T (X h) ac9 fun x=>D9.c12 k) (Q (B (L ac_ (fun n x=>D9.l5 k n x.1 x.2.1 x.2.2.1 x.2.2.2) k fun n5=>X h)) (X h))) (X h)) (X h)) (X h)
def f255(k:Nat):Fc Tryz.prog:=⟨255,_,ac8 k⟩
def ae2(k:Nat):bZ:=⟨⟨[(0,z83)],[(0,ES),(10,BV)]⟩,⟨[(0,z4)],[(0,ES),(10,BV)]⟩,1,1,fun x=>JB k x.2.1 x.2.2⟩
theorem ae3(k:Nat):fM Tryz.prog 298 (ae2 k):=ok (cx [f255 k,f299 k] 35 nb) Tryz.f298 fun h x=>X h
def f298(k:Nat):Fc Tryz.prog:=⟨298,_,ae3 k⟩
def ae9:SS:=⟨[(0,z83),(3,z4)],[(0,ES),(10,BV)]⟩
def ae8:SS:=⟨[(0,z83),(3,z4)],[(0,ES),(10,BV)]⟩
def ae6(k:Nat):bZ:=⟨⟨[(0,z83)],[(0,ES),(10,BV)]⟩,⟨[(0,z8)],[(0,ES),(10,BV)]⟩,1,1,fun x=>Eo k x.2.1 x.2.2⟩
theorem ae7(k:Nat):fM Tryz.prog 300 (ae6 k):=ok (cx [f85 k,f298 k,f299 k] 68 nb) Tryz.f300 fun h x=>Q (Q (Q (T (Q (T (X h) ae9 fun x=>Eo.c6 k x.1.2 x.2.1 x.2.2) (X h)) ae8 fun x=>Eo.c4 k x.1.2 x.2.1 x.2.2) (X h)) (X h)) (X h)
def f300(k:Nat):Fc Tryz.prog:=⟨300,_,ae7 k⟩
def agv(k:Nat):bZ:=⟨⟨[(0,z83)],[(0,ES),(10,BV)]⟩,⟨[(0,z4)],[(0,ES),(10,BV)]⟩,1,1,fun x=>KT k x.2.1 x.2.2⟩
theorem agw(k:Nat):fM Tryz.prog 323 (agv k):=ok (cx [f299 k] 41 nb) Tryz.f323 fun h x=>X h
def f323(k:Nat):Fc Tryz.prog:=⟨323,_,agw k⟩
def agz:SS:=⟨[(11,z6)],[]⟩
def agA:SS:=⟨[(1,z6),(5,z4),(6,z6)],[]⟩
def agx(k:Nat):bZ:=⟨⟨[(0,z4),(1,z6)],[]⟩,⟨[(0,z6)],[]⟩,2,1,fun x=>El k x.1 x.2⟩
theorem agy(k:Nat):fM Tryz.prog 324 (agx k):=ok (cx [] 17 nb) Tryz.f324 fun h x=>Q (Q (X h) (Q (B (Q (T (D (X h) (Q (T (X h) agz fun x=>El.c10 k x) (X h))) agA fun x=>El.c4 k x.1 x.2.1 x.2.2) (X h))) (X h))) (X h)
def f324(k:Nat):Fc Tryz.prog:=⟨324,_,agy k⟩
def acS:SS:=⟨[(0,z83),(8,z4),(9,z4)],[(0,G6),(100,BV)]⟩
def acO:SS:=⟨[(0,z83),(8,z4)],[(0,G6),(100,BV)]⟩
def acR:SS:=⟨[(0,z83),(1,z4),(3,z4),(8,z4),(21,z4),(22,z6)],[(0,G6),(100,BV)]⟩
def Lm(F:Int→Int→Int→zB→(List zf)→Option (Unit×zB×(List zf))):bZ:=⟨⟨[(0,z83),(1,z4),(2,z4),(3,z4)],[(0,ES),(10,BV)]⟩,⟨[],[(0,G6),(100,BV)]⟩,4,0,fun x=>F x.1.2.1 x.1.2.2.1 x.1.2.2.2 x.2.1 x.2.2⟩
def afb:SS:=⟨[(0,z83),(2,z4),(7,z4),(8,z4),(9,z4)],[(0,G6),(100,BV)]⟩
def afe:SS:=⟨[(0,z83),(1,z4),(2,z4),(7,z4),(8,z4)],[(0,ES),(10,BV)]⟩
def afd:SS:=⟨[(0,z83),(1,z4),(2,z4),(7,z4),(8,z4)],[(0,ES),(10,BV)]⟩
def afc:SS:=⟨[(0,z83),(1,z4),(2,z4),(7,z4),(8,z4)],[(0,ES),(10,BV)]⟩
def Lr(F:Int→Int→zB→(List zf)→Option (Unit×zB×(List zf))):bZ:=⟨⟨[(0,z83),(1,z4),(2,z4)],[(0,ES),(10,BV)]⟩,⟨[],[(0,G6),(100,BV)]⟩,3,0,fun x=>F x.1.2.1 x.1.2.2 x.2.1 x.2.2⟩
def afj:SS:=⟨[(0,z83),(1,z4),(2,z4),(8,z4),(9,z4)],[(0,G6),(100,BV)]⟩
def afi:SS:=⟨[(0,z83),(1,z4),(2,z4),(6,z4),(8,z4),(9,z4)],[(0,G6),(100,BV)]⟩
def afl:SS:=⟨[(0,z83),(1,z4),(2,z4),(6,z4),(8,z4),(9,z4)],[(0,G6),(100,BV)]⟩
def afk:SS:=⟨[(0,z83),(1,z4),(2,z4),(6,z4),(7,z4),(8,z4),(9,z4)],[(0,G6),(100,BV)]⟩
def afh:SS:=⟨[(0,z83),(1,z4),(2,z4),(6,z4)],[(0,G6),(100,BV)]⟩
def Lt(F:Int→Int→zB→(List zf)→Option (Unit×zB×(List zf))):bZ:=⟨⟨[(0,z83),(1,z4),(2,z4)],[(0,ES),(10,BV)]⟩,⟨[],[(0,G6),(100,BV)]⟩,3,0,fun x=>F x.1.2.1 x.1.2.2 x.2.1 x.2.2⟩
theorem acQ(k:Nat)(AV:Int→Int→Int→zB→(List zf)→Option (Unit×zB×(List zf)))(Fv:Int→Int→zB→(List zf)→Option (Unit×zB×(List zf)))(Fw:Int→Int→zB→(List zf)→Option (Unit×zB×(List zf)))(OD:fM Tryz.prog 249 (Lm AV))(Qi:fM Tryz.prog 301 (Lr Fv))(Qj:fM Tryz.prog 302 (Lt Fw)):fM Tryz.prog 249 (Lm (Aj.b k AV Fv Fw)):=ok (cx [f262 k,f267 k,f297 k,f298 k,f299 k,f300 k,⟨301,_,Qi⟩,⟨302,_,Qj⟩] 75 nb) Tryz.f249 fun h x=>Q (Q (Q (B (Q (T (D (Q (Q (T (X h) acS fun x=>Aj.c8 k x.1.2.1 x.1.2.2 x.2.1 x.2.2) (X h)) (X h)) (Q (D (K h acO (fun x=>Aj.d10 k x.1.2 x.2.1 x.2.2) [[0,1,2,4,5,3,6,7,8,9],[0,1,2,4,5,6,3,7,8,9]] (O (fun x=>by kernel_rfl) (O (fun x=>by kernel_rfl) (N)))) (X h)) (X h))) acR fun x=>Aj.c5 k Fv Fw x.1.2.1 x.1.2.2.1 x.1.2.2.2.1 x.1.2.2.2.2.1 x.1.2.2.2.2.2 x.2.1 x.2.2) (X h))) (X h)) (X h)) (X h)
theorem afa(k:Nat)(AV:Int→Int→Int→zB→(List zf)→Option (Unit×zB×(List zf)))(Fv:Int→Int→zB→(List zf)→Option (Unit×zB×(List zf)))(Fw:Int→Int→zB→(List zf)→Option (Unit×zB×(List zf)))(OD:fM Tryz.prog 249 (Lm AV))(Qi:fM Tryz.prog 301 (Lr Fv))(Qj:fM Tryz.prog 302 (Lt Fw)):fM Tryz.prog 301 (Lr (Be.b k AV Fv Fw)):=ok (cx [f85 k,⟨249,_,OD⟩,f298 k,f299 k,f323 k,f324 k] 72 nb) Tryz.f301 fun h x=>Q (Q (Q (T (Q (Q (T (Q (T (Q (Q (B (L afb (fun n x=>Be.AL k AV n x.1.2.1 x.1.2.2.1 x.1.2.2.2.1 x.1.2.2.2.2 x.2.1 x.2.2) k fun n11=>X h)) (X h)) (X h)) afe fun x=>Be.c9 k AV x.1.2.1 x.1.2.2.1 x.1.2.2.2.1 x.1.2.2.2.2 x.2.1 x.2.2) (X h)) afd fun x=>Be.c7 k AV x.1.2.1 x.1.2.2.1 x.1.2.2.2.1 x.1.2.2.2.2 x.2.1 x.2.2) (X h)) (X h)) afc fun x=>Be.c4 k AV x.1.2.1 x.1.2.2.1 x.1.2.2.2.1 x.1.2.2.2.2 x.2.1 x.2.2) (X h)) (X h)) (X h)
theorem afg(k:Nat)(AV:Int→Int→Int→zB→(List zf)→Option (Unit×zB×(List zf)))(Fv:Int→Int→zB→(List zf)→Option (Unit×zB×(List zf)))(Fw:Int→Int→zB→(List zf)→Option (Unit×zB×(List zf)))(OD:fM Tryz.prog 249 (Lm AV))(Qi:fM Tryz.prog 301 (Lr Fv))(Qj:fM Tryz.prog 302 (Lt Fw)):fM Tryz.prog 302 (Lt (AQ.b k AV Fv Fw)):=ok (cx [f85 k,⟨249,_,OD⟩,f262 k,f298 k,f299 k,f323 k,f324 k] 84 nb) Tryz.f302 fun h x=>Q (B (L afh (fun n x=>AQ.l1 k AV n x.1.2.1 x.1.2.2.1 x.1.2.2.2 x.2.1 x.2.2) k fun n1=>B (Q (Q (Q (Q (T (Q (T (Q (T (Q (T (X h) afj fun x=>AQ.c12 k AV (AQ.l1 k AV n1) x.1.2.1 x.1.2.2.1 x.1.2.2.2.1 x.1.2.2.2.2 x.2.1 x.2.2) (X h)) afi fun x=>AQ.c10 k AV (AQ.l1 k AV n1) x.1.2.1 x.1.2.2.1 x.1.2.2.2.1 x.1.2.2.2.2.1 x.1.2.2.2.2.2 x.2.1 x.2.2) (X h)) afl fun x=>AQ.c8 k AV (AQ.l1 k AV n1) x.1.2.1 x.1.2.2.1 x.1.2.2.2.1 x.1.2.2.2.2.1 x.1.2.2.2.2.2 x.2.1 x.2.2) (X h)) afk fun x=>AQ.c6 k AV (AQ.l1 k AV n1) x.1.2.1 x.1.2.2.1 x.1.2.2.2.1 x.1.2.2.2.2.1 x.1.2.2.2.2.2.1 x.1.2.2.2.2.2.2 x.2.1 x.2.2) (X h)) (X h)) (X h)) (X h)))) (X h)
theorem Ov(k:Nat):∀d,fM Tryz.prog 249 (Lm (Aj.d k d))∧fM Tryz.prog 301 (Lr (Be.d k d))∧fM Tryz.prog 302 (Lt (AQ.d k d))
 |0=>⟨yL (fun _=>rfl),yL (fun _=>rfl),yL (fun _=>rfl)⟩
 |d+1=>let ih:=Ov k d
  ⟨acQ k (Aj.d k d) (Be.d k d) (AQ.d k d) ih.1 ih.2.1 ih.2.2,afa k (Aj.d k d) (Be.d k d) (AQ.d k d) ih.1 ih.2.1 ih.2.2,afg k (Aj.d k d) (Be.d k d) (AQ.d k d) ih.1 ih.2.1 ih.2.2⟩
theorem acP(k:Nat):fM Tryz.prog 249 (Lm (Aj k)):=(Ov k k).1
def f249(k:Nat):Fc Tryz.prog:=⟨249,_,acP k⟩
theorem ae_(k:Nat):fM Tryz.prog 301 (Lr (Be k)):=(Ov k k).2.1
def f301(k:Nat):Fc Tryz.prog:=⟨301,_,ae_ k⟩
theorem aff(k:Nat):fM Tryz.prog 302 (Lt (AQ k)):=(Ov k k).2.2
def f302(k:Nat):Fc Tryz.prog:=⟨302,_,aff k⟩
def ZG(k:Nat):bZ:=⟨⟨[(0,z1),(1,z4)],[]⟩,⟨[(0,z2),(1,z4),(2,z4)],[(100,BV)]⟩,2,3,fun x=>LP k x.1 x.2⟩
theorem ZH(k:Nat):fM Tryz.prog 181 (ZG k):=ok (cx [f85 k,f249 k] 37 nb) Tryz.f181 fun h x=>X h
def f181(k:Nat):Fc Tryz.prog:=⟨181,_,ZH k⟩
def aan(k:Nat):bZ:=⟨⟨[(0,z4)],[]⟩,⟨[(0,z6)],[]⟩,1,1,fun x=>J9 k x⟩
theorem aao(k:Nat):fM Tryz.prog 193 (aan k):=ok (cx [f85 k] 13 nb) Tryz.f193 fun h x=>X h
def f193(k:Nat):Fc Tryz.prog:=⟨193,_,aao k⟩
def aeg(k:Nat):bZ:=⟨⟨[(0,(.ro Dy))],[]⟩,⟨[(0,z6)],[]⟩,1,1,fun x=>OX k x⟩
theorem aeh(k:Nat):fM Tryz.prog 278 (aeg k):=ok (cx [f85 k,f193 k] 30 nb) Tryz.f278 fun h x=>X h
def f278(k:Nat):Fc Tryz.prog:=⟨278,_,aeh k⟩
def aek:SS:=⟨[(0,z8),(5,z4),(6,z4)],[]⟩
def aei(k:Nat):bZ:=⟨⟨[(0,z8)],[]⟩,⟨[(0,z6)],[]⟩,1,1,fun x=>Iw k x⟩
theorem aej(k:Nat):fM Tryz.prog 279 (aei k):=ok (cx [f85 k] 19 nb) Tryz.f279 fun h x=>Q (Q (X h) (Q (B (L aek (fun n x=>Iw.l2 k n x.1 x.2.1 x.2.2) k fun n2=>X h)) (X h))) (X h)
def f279(k:Nat):Fc Tryz.prog:=⟨279,_,aej k⟩
def abo:SS:=⟨[(0,z_),(2,z4),(7,z4),(8,z2),(47,z4),(48,z4),(54,z2),(55,z4),(56,z4)],[(100,Ic)]⟩
def abp:SS:=⟨[(0,z_),(2,z4),(7,z4),(8,z2),(47,z4),(48,z4)],[(100,Ic)]⟩
def Ot(F:(List ze)→Int→Int→Option Int):bZ:=⟨⟨[(0,z_),(1,z4),(2,z4)],[]⟩,⟨[(0,z4)],[]⟩,3,1,fun x=>F x.1 x.2.1 x.2.2⟩
theorem abn(k:Nat)(Gz:(List ze)→Int→Int→Option Int)(aja:fM Tryz.prog 212 (Ot Gz)):fM Tryz.prog 212 (Ot (Bb.b k Gz)):=ok (cx [⟨212,_,aja⟩,f278 k,f279 k] 85 nb) Tryz.f212 fun h x=>Q (Q (Q (Q (Q (X h) (Q (B (L abp (fun n x=>Bb.l6 k Gz n x.1.1 x.1.2.1 x.1.2.2.1 x.1.2.2.2.2.1 x.1.2.2.2.2.2 x.2) k fun n6=>Q (Q (Q (X h) (B (Q (Q (X h) (Q (B (L abo (fun n x=>Bb.l10 k Gz (Bb.l6 k Gz n6) n x.1.1 x.1.2.1 x.1.2.2.1 x.1.2.2.2.2.1 x.1.2.2.2.2.2.1 x.1.2.2.2.2.2.2.2.1 x.1.2.2.2.2.2.2.2.2 x.2) k fun n10=>X h)) (X h))) (X h)))) (X h)) (X h))) (X h))) (X h)) (X h)) (X h)) (X h)
theorem Sb(k:Nat):∀d,fM Tryz.prog 212 (Ot (Bb.d k d))
 |0=>yL (fun _=>rfl)
 |d+1=>let ih:=Sb k d
  abn k (Bb.d k d) ih
theorem abm(k:Nat):fM Tryz.prog 212 (Ot (Bb k)):=(Sb k k)
def f212(k:Nat):Fc Tryz.prog:=⟨212,_,abm k⟩
def XV(k:Nat):bZ:=⟨⟨[(0,z_)],[]⟩,⟨[(0,z6)],[]⟩,1,1,fun x=>Ex k x⟩
theorem XW(k:Nat):fM Tryz.prog 141 (XV k):=ok (cx [f85 k,f212 k] 33 nb) Tryz.f141 fun h x=>X h
def f141(k:Nat):Fc Tryz.prog:=⟨141,_,XW k⟩
def X0:SS:=⟨[(3,z2),(7,z_),(8,z4),(9,z4)],[(100,zm)]⟩
def XZ:SS:=⟨[(3,z2),(7,z_),(8,z4),(9,z4)],[(100,zm)]⟩
def XX(k:Nat):bZ:=⟨⟨[(0,z_)],[]⟩,⟨[(0,z2)],[(100,zm)]⟩,1,1,fun x=>Em k x⟩
theorem XY(k:Nat):fM Tryz.prog 142 (XX k):=ok (cx [] 23 nb) Tryz.f142 fun h x=>Q (Q (Q (X h) (Q (B (L XZ (fun n x=>Em.l3 k n x.1.2.1 x.1.2.2.1 x.1.2.2.2 x.2) k fun n3=>Q (Q (Q (T (X h) X0 fun x=>Em.c7 k (Em.l3 k n3) x.1.2.1 x.1.2.2.1 x.1.2.2.2 x.2) (X h)) (X h)) (X h))) (X h))) (X h)) (X h)
def f142(k:Nat):Fc Tryz.prog:=⟨142,_,XY k⟩
def abt:SS:=⟨[(0,z23),(5,z23),(6,z4),(7,z4)],[]⟩
def abq(k:Nat):bZ:=⟨⟨[(0,z23)],[]⟩,⟨[(0,z6)],[]⟩,1,1,fun x=>Je k x⟩
theorem abr(k:Nat):fM Tryz.prog 213 (abq k):=ok (cx [f85 k] 32 nb) Tryz.f213 fun h x=>Q (Q (X h) (Q (B (L abt (fun n x=>Je.l2 k n x.1 x.2.1 x.2.2.1 x.2.2.2) k fun n2=>X h)) (X h))) (X h)
def f213(k:Nat):Fc Tryz.prog:=⟨213,_,abr k⟩
def X3(k:Nat):bZ:=⟨⟨[(0,z25),(1,z4)],[]⟩,⟨[(0,z6)],[]⟩,2,1,fun x=>OW k x.1 x.2⟩
theorem X4(k:Nat):fM Tryz.prog 143 (X3 k):=ok (cx [f85 k,f213 k] 36 nb) Tryz.f143 fun h x=>X h
def f143(k:Nat):Fc Tryz.prog:=⟨143,_,X4 k⟩
def aiA:SS:=⟨[(1,zT),(3,z4),(5,z36),(19,z29),(20,z4),(21,z4),(40,z31),(41,z4),(42,z4)],[(100,Ku),(101,w32)]⟩
def aiy:SS:=⟨[(1,zT),(3,z4),(5,z36),(19,z29),(20,z4),(21,z4)],[(100,Ku),(101,w32)]⟩
def aiB:SS:=⟨[(1,zT),(3,z4),(19,z29),(20,z4),(21,z4)],[(100,Ku)]⟩
def aix(k:Nat):bZ:=⟨⟨[(0,(.ro y28))],[]⟩,⟨[(0,z6)],[]⟩,1,1,fun x=>CL k x⟩
theorem aiz(k:Nat):fM Tryz.prog 84 (aix k):=ok (cx [f85 k,f141 k,f142 k,f143 k] 65 nb) Tryz.f84 fun h x=>Q (Q (Q (Q (X h) (Q (B (L aiB (fun n x=>CL.l5 k n x.1.2.1 x.1.2.2.1 x.1.2.2.2.1 x.1.2.2.2.2 x.2) k fun n5=>Q (Q (Q (X h) (B (Q (Q (Q (X h) (Q (B (L aiA (fun n x=>CL.l10 k (CL.l5 k n5) n x.1.2.1 x.1.2.2.2.1 x.1.2.2.2.2.1 x.1.2.2.2.2.2.1 x.1.2.2.2.2.2.2.1 x.1.2.2.2.2.2.2.2.1 x.1.2.2.2.2.2.2.2.2 x.2.1 x.2.2) k fun n10=>X h)) (X h))) (Q (X h) (K h aiy (fun x=>CL.d7 k (CL.l5 k n5) x.1.2.1 x.1.2.2.2.1 x.1.2.2.2.2.1 x.1.2.2.2.2.2 x.2.1 x.2.2) [[0,1,2,3,4,5,8,9,6,7,10,11,12,13],[0,1,2,3,4,5,8,9,10,6,7,11,12,13]] (O (fun x=>by kernel_rfl) (O (fun x=>by kernel_rfl) (N)))))) (X h)))) (X h)) (X h))) (X h))) (X h)) (X h)) (X h)
def f84(k:Nat):Fc Tryz.prog:=⟨84,_,aiz k⟩
def afm(k:Nat):bZ:=⟨⟨[(0,(.ro CU))],[]⟩,⟨[(0,z6)],[]⟩,1,1,fun x=>OZ k x⟩
theorem afn(k:Nat):fM Tryz.prog 303 (afm k):=ok (cx [f267 k,f324 k] 109 nb) Tryz.f303 fun h x=>X h
def f303(k:Nat):Fc Tryz.prog:=⟨303,_,afn k⟩
def acV:SS:=⟨[(0,z83),(1,z4),(2,z4),(7,zT),(8,z4),(9,z4),(43,z4),(44,z4)],[(0,FV),(10,zm),(100,Mw)]⟩
def Ox(F:Int→Int→(Bool×zF)→(List Int)→Option (Int×zF×(List Int))):bZ:=⟨⟨[(0,z83),(1,z4),(2,z4)],[(0,Kv),(10,zm)]⟩,⟨[(0,z4)],[(0,FV),(10,zm)]⟩,3,1,fun x=>F x.1.2.1 x.1.2.2 x.2.1 x.2.2⟩
theorem acU(k:Nat)(JX:Int→Int→(Bool×zF)→(List Int)→Option (Int×zF×(List Int)))(ajb:fM Tryz.prog 250 (Ox JX)):fM Tryz.prog 250 (Ox (Dn.b k JX)):=ok (cx [f85 k,⟨250,_,ajb⟩,f303 k] 104 nb) Tryz.f250 fun h x=>Q (Q (Q (Q (Q (Q (X h) (Q (B (L acV (fun n x=>Dn.l7 k JX n x.1.2.1 x.1.2.2.1 x.1.2.2.2.2.1 x.1.2.2.2.2.2.1 x.1.2.2.2.2.2.2.1 x.1.2.2.2.2.2.2.2 x.2.1 x.2.2.1 x.2.2.2) k fun n7=>X h)) (X h))) (X h)) (X h)) (X h)) (X h)) (X h)
theorem Sc(k:Nat):∀d,fM Tryz.prog 250 (Ox (Dn.d k d))
 |0=>yL (fun _=>rfl)
 |d+1=>let ih:=Sc k d
  acU k (Dn.d k d) ih
theorem acT(k:Nat):fM Tryz.prog 250 (Ox (Dn k)):=(Sc k k)
def f250(k:Nat):Fc Tryz.prog:=⟨250,_,acT k⟩
def ZI(k:Nat):bZ:=⟨⟨[(0,z33)],[]⟩,⟨[(0,zT),(1,z6)],[(100,(.aU Kz (.agg (.cons z33 (.cons Bq .nil))))),(101,zm)]⟩,1,2,fun x=>KS k x⟩
theorem ZJ(k:Nat):fM Tryz.prog 182 (ZI k):=ok (cx [f85 k,f250 k] 35 (fun s=>Nat.beq s 27)) Tryz.f182 fun h x=>X h
def f182(k:Nat):Fc Tryz.prog:=⟨182,_,ZJ k⟩
def ZY:SS:=⟨[(0,z83),(2,z4),(7,z4),(37,z4),(38,z4)],[(0,FV),(10,zm)]⟩
def ZW(k:Nat):bZ:=⟨⟨[(0,z83),(1,z4),(2,z4)],[(0,Kv),(10,zm)]⟩,⟨[(0,z4)],[(0,FV),(10,zm)]⟩,3,1,fun x=>DD k x.1.2.1 x.1.2.2 x.2.1 x.2.2⟩
theorem ZX(k:Nat):fM Tryz.prog 187 (ZW k):=ok (cx [f85 k] 59 nb) Tryz.f187 fun h x=>Q (Q (Q (Q (X h) (Q (B (L ZY (fun n x=>DD.l5 k n x.1.2.1 x.1.2.2.1 x.1.2.2.2.1 x.1.2.2.2.2 x.2.1 x.2.2) k fun n5=>X h)) (X h))) (X h)) (X h)) (X h)
def f187(k:Nat):Fc Tryz.prog:=⟨187,_,ZX k⟩
def afS:SS:=⟨[(0,z83),(11,z2),(12,z4),(63,z4),(64,z4)],[(0,FV),(10,zm),(100,zm)]⟩
def afQ(k:Nat):bZ:=⟨⟨[(0,z83),(1,z4),(2,z4),(3,z4)],[(0,Kv),(10,zm)]⟩,⟨[(0,z2),(1,z6)],[(0,FV),(10,zm),(100,zm)]⟩,4,2,fun x=>F5 k x.1.2.1 x.1.2.2.1 x.1.2.2.2 x.2.1 x.2.2⟩
theorem afR(k:Nat):fM Tryz.prog 312 (afQ k):=ok (cx [f187 k] 79 nb) Tryz.f312 fun h x=>Q (Q (Q (Q (Q (Q (X h) (Q (B (L afS (fun n x=>F5.l7 k n x.1.2.2.1 x.1.2.2.2.1 x.1.2.2.2.2 x.2.1 x.2.2.1 x.2.2.2) k fun n7=>X h)) (X h))) (X h)) (X h)) (X h)) (X h)) (X h)
def f312(k:Nat):Fc Tryz.prog:=⟨312,_,afR k⟩
def ZU(k:Nat):bZ:=⟨⟨[(0,z83),(1,z4),(2,z4),(3,z4)],[(0,Kv),(10,zm)]⟩,⟨[(0,z34),(1,z6)],[(0,FV),(10,zm)]⟩,4,2,fun x=>Hq k x.1.2.1 x.1.2.2.1 x.1.2.2.2 x.2.1 x.2.2⟩
theorem ZV(k:Nat):fM Tryz.prog 186 (ZU k):=ok (cx [f187 k] 37 nb) Tryz.f186 fun h x=>X h
def f186(k:Nat):Fc Tryz.prog:=⟨186,_,ZV k⟩
def acW(k:Nat):bZ:=⟨⟨[(0,z83),(1,z4),(2,z4)],[(0,Kv),(10,zm)]⟩,⟨[(0,z4),(1,z6)],[(0,FV),(10,zm)]⟩,3,2,fun x=>IA k x.1.2.1 x.1.2.2 x.2.1 x.2.2⟩
theorem acX(k:Nat):fM Tryz.prog 251 (acW k):=ok (cx [f187 k] 45 nb) Tryz.f251 fun h x=>X h
def f251(k:Nat):Fc Tryz.prog:=⟨251,_,acX k⟩
def afV:SS:=⟨[(6,zT),(9,z6),(11,z6),(13,z6),(16,z36)],[(0,FV),(10,zm),(100,Js),(101,Js)]⟩
def afW:SS:=⟨[(0,z83),(1,z4),(6,zT),(9,z6),(11,z6),(13,z6),(14,z4),(15,z6),(16,z36)],[(0,FV),(10,zm),(100,Js),(101,Js)]⟩
def afT(k:Nat):bZ:=⟨⟨[(0,z83),(1,z4),(2,z6)],[(0,Kv),(10,zm)]⟩,⟨[(0,z17),(1,z6)],[(0,FV),(10,zm)]⟩,3,2,fun x=>FD k x.1.2.1 x.1.2.2 x.2.1 x.2.2⟩
theorem afU(k:Nat):fM Tryz.prog 313 (afT k):=ok (cx [f186 k,f187 k,f251 k] 70 (fun s=>Nat.beq s 56)) Tryz.f313 fun h x=>Q (Q (Q (Q (Q (Q (Q (T (Q (T (X h) afV fun x=>FD.c11 k x.1.2.1 x.1.2.2.1 x.1.2.2.2.1 x.2.1 x.2.2.1 x.2.2.2.1 x.2.2.2.2) (X h)) afW fun x=>FD.c8 k x.1.2.1 x.1.2.2.2.1 x.1.2.2.2.2.1 x.1.2.2.2.2.2.1 x.1.2.2.2.2.2.2.1 x.1.2.2.2.2.2.2.2.1 x.2.1 x.2.2.1 x.2.2.2.1 x.2.2.2.2) (X h)) (X h)) (X h)) (X h)) (X h)) (X h)) (X h)
def f313(k:Nat):Fc Tryz.prog:=⟨313,_,afU k⟩
def ad2:SS:=⟨[(0,z83),(8,z2),(22,Bq),(23,z4),(24,z4)],[(0,FV),(10,zm),(100,BK),(101,zm)]⟩
def adZ(k:Nat):bZ:=⟨⟨[(0,z83),(1,z4)],[(0,Kv),(10,zm)]⟩,⟨[(0,z2),(1,z6)],[(0,FV),(10,zm),(100,BK)]⟩,2,2,fun x=>Hr k x.1.2 x.2.1 x.2.2⟩
theorem ad1(k:Nat):fM Tryz.prog 273 (adZ k):=ok (cx [f141 k,f312 k,f313 k] 62 nb) Tryz.f273 fun h x=>Q (Q (Q (Q (Q (X h) (Q (B (L ad2 (fun n x=>Hr.l6 k n x.1.2.2.2.1 x.1.2.2.2.2 x.2.1 x.2.2.1 x.2.2.2.1 x.2.2.2.2) k fun n6=>X h)) (X h))) (X h)) (X h)) (X h)) (X h)
def f273(k:Nat):Fc Tryz.prog:=⟨273,_,ad1 k⟩
def ad5:SS:=⟨[(7,z4)],[(0,Et),(10,Cq),(11,zm)]⟩
def ad3(k:Nat):bZ:=⟨⟨[(0,z83),(1,z4),(2,z4)],[(0,Et),(10,Cq),(11,zm)]⟩,⟨[(0,z4)],[(0,Et),(10,Cq),(11,zm)]⟩,3,1,fun x=>EG k x.1.2.1 x.1.2.2 x.2.1 x.2.2.1 x.2.2.2⟩
theorem ad4(k:Nat):fM Tryz.prog 274 (ad3 k):=ok (cx [f251 k] 25 nb) Tryz.f274 fun h x=>Q (Q (Q (T (X h) ad5 fun x=>EG.c4 k x.1 x.2.1 x.2.2.1 x.2.2.2) (X h)) (X h)) (X h)
def Qc(k:Nat):Fc Tryz.prog:=⟨274,_,ad4 k⟩
def ad8:SS:=⟨[(9,z2)],[(0,Et),(10,Cq),(11,zm),(100,zm)]⟩
def ad6(k:Nat):bZ:=⟨⟨[(0,z83),(1,z4),(2,z4),(3,z4)],[(0,Et),(10,Cq),(11,zm)]⟩,⟨[(0,z2)],[(0,Et),(10,Cq),(11,zm),(100,zm)]⟩,4,1,fun x=>GL k x.1.2.1 x.1.2.2.1 x.1.2.2.2 x.2.1 x.2.2.1 x.2.2.2⟩
theorem ad7(k:Nat):fM Tryz.prog 275 (ad6 k):=ok (cx [f312 k] 28 nb) Tryz.f275 fun h x=>Q (Q (Q (T (X h) ad8 fun x=>GL.c4 k x.2.1 x.2.2.1 x.2.2.2.1 x.2.2.2.2) (X h)) (X h)) (X h)
def Qd(k:Nat):Fc Tryz.prog:=⟨275,_,ad7 k⟩
def XF(k:Nat):bZ:=⟨⟨[(0,z_)],[]⟩,⟨[(0,z2)],[(100,zm)]⟩,1,1,fun x=>LM k x⟩
theorem XG(k:Nat):fM Tryz.prog 132 (XF k):=ok (cx [f141 k,f142 k] 8 nb) Tryz.f132 fun h x=>X h
def f132(k:Nat):Fc Tryz.prog:=⟨132,_,XG k⟩
def abg:SS:=⟨[(0,z_),(1,z4),(5,z2),(6,Bq),(7,z4)],[(100,zm),(101,zm)]⟩
def abe(k:Nat):bZ:=⟨⟨[(0,z_),(1,z4)],[]⟩,⟨[(0,z2)],[(100,zm)]⟩,2,1,fun x=>FE k x.1 x.2⟩
theorem abf(k:Nat):fM Tryz.prog 208 (abe k):=ok (cx [f85 k,f132 k,f212 k] 41 nb) Tryz.f208 fun h x=>Q (Q (Q (Q (Q (X h) (Q (B (L abg (fun n x=>FE.l6 k n x.1.1 x.1.2.1 x.1.2.2.2.2 x.2.1 x.2.2) k fun n6=>X h)) (X h))) (X h)) (X h)) (X h)) (X h)
def f208(k:Nat):Fc Tryz.prog:=⟨208,_,abf k⟩
def XK:SS:=⟨[(0,z_),(7,z4),(8,z4),(17,z2),(18,z4),(19,z4)],[(100,zm)]⟩
def XJ:SS:=⟨[(0,z_),(7,z4),(8,z4),(10,z4),(17,z2),(18,z4),(19,z4)],[(100,zm)]⟩
def XL:SS:=⟨[(0,z_),(7,z4),(8,z4),(17,z2),(18,z4),(19,z4)],[(100,zm)]⟩
def XH(k:Nat):bZ:=⟨⟨[(0,z_),(1,z4)],[]⟩,⟨[(0,z4),(1,z4)],[]⟩,2,2,fun x=>Dl k x.1 x.2⟩
theorem XI(k:Nat):fM Tryz.prog 133 (XH k):=ok (cx [f208 k] 42 nb) Tryz.f133 fun h x=>Q (Q (Q (Q (Q (X h) (Q (B (L XL (fun n x=>Dl.l6 k n x.1.1 x.1.2.1 x.1.2.2.1 x.1.2.2.2.2.1 x.1.2.2.2.2.2 x.2) k fun n6=>Q (Q (Q (T (X h) XK fun x=>Dl.c12 k (Dl.l6 k n6) x.1.1 x.1.2.1 x.1.2.2.1 x.1.2.2.2.2.1 x.1.2.2.2.2.2 x.2) (B (Q (Q (T (X h) XJ fun x=>Dl.c10 k (Dl.l6 k n6) x.1.1 x.1.2.1 x.1.2.2.1 x.1.2.2.2.1 x.1.2.2.2.2.2.1 x.1.2.2.2.2.2.2 x.2) (X h)) (X h)))) (X h)) (X h))) (X h))) (X h)) (X h)) (X h)) (X h)
def f133(k:Nat):Fc Tryz.prog:=⟨133,_,XI k⟩
def ail(k:Nat):bZ:=⟨⟨[(0,z_),(1,z4)],[]⟩,⟨[(0,z68),(1,z6)],[]⟩,2,2,fun x=>LJ k x.1 x.2⟩
theorem aim(k:Nat):fM Tryz.prog 71 (ail k):=ok (cx [f85 k,f132 k,f133 k] 35 nb) Tryz.f71 fun h x=>X h
def f71(k:Nat):Fc Tryz.prog:=⟨71,_,aim k⟩
def agK:SS:=⟨[(0,PT),(1,PT),(12,z4),(13,z4)],[]⟩
def agI(k:Nat):bZ:=⟨⟨[(0,PT),(1,PT)],[]⟩,⟨[(0,z6)],[]⟩,2,1,fun x=>H8 k x.1 x.2⟩
theorem agJ(k:Nat):fM Tryz.prog 328 (agI k):=ok (cx [] 26 nb) Tryz.f328 fun h x=>Q (Q (Q (X h) (Q (B (L agK (fun n x=>H8.l4 k n x.1 x.2.1 x.2.2.1 x.2.2.2) k fun n4=>X h)) (X h))) (X h)) (X h)
def f328(k:Nat):Fc Tryz.prog:=⟨328,_,agJ k⟩
def agN:SS:=⟨[(0,z_),(5,z2),(11,Bq),(12,z4),(13,z4)],[(100,Ic),(101,zm)]⟩
def agL(k:Nat):bZ:=⟨⟨[(0,z_),(1,z4)],[]⟩,⟨[(0,z2)],[(100,Ic)]⟩,2,1,fun x=>Gm k x.1 x.2⟩
theorem agM(k:Nat):fM Tryz.prog 329 (agL k):=ok (cx [f208 k] 27 nb) Tryz.f329 fun h x=>Q (Q (Q (X h) (Q (B (L agN (fun n x=>Gm.l3 k n x.1.1 x.1.2.2.2.1 x.1.2.2.2.2 x.2.1 x.2.2) k fun n3=>X h)) (X h))) (X h)) (X h)
def f329(k:Nat):Fc Tryz.prog:=⟨329,_,agM k⟩
def af8:SS:=⟨[(8,zT),(9,z36)],[(0,Et),(10,Cq),(11,zm),(60,BK),(100,NQ),(101,NR),(102,zm),(103,zm)]⟩
def af7:SS:=⟨[(0,z83),(8,zT),(9,z36),(10,z4)],[(0,Et),(10,Cq),(11,zm),(60,BK),(100,NQ),(101,NR),(102,zm),(103,zm)]⟩
def af3:SS:=⟨[(0,z83),(8,zT),(9,z36),(10,z4)],[(0,Et),(10,Cq),(11,zm),(60,BK),(100,NQ),(101,NR),(102,zm),(103,zm)]⟩
def af6:SS:=⟨[(0,z83),(8,zT),(9,z36),(10,z4)],[(0,Et),(10,Cq),(11,zm),(60,BK),(100,NQ),(101,NR),(102,zm),(103,zm)]⟩
def af0:SS:=⟨[(0,z83),(1,(.h 60)),(3,z4),(8,zT),(9,z36),(10,z4),(11,z26),(15,z40)],[(0,Et),(10,Cq),(11,zm),(60,BK),(100,PK),(101,NS),(102,BL),(103,Ic),(104,zm),(105,zm)]⟩
def af5:SS:=⟨[(0,z83),(1,(.h 60)),(3,z4),(8,zT),(9,z36),(10,z4),(11,z26),(15,z40),(80,z44),(81,z4),(82,z4)],[(0,Et),(10,Cq),(11,zm),(60,BK),(100,NS),(101,PL),(102,BL),(103,Ic),(104,zm),(105,zm),(106,zm)]⟩
def afZ:SS:=⟨[(0,z83),(1,(.h 60)),(3,z4),(8,zT),(9,z36),(10,z4),(11,z26),(14,z4),(54,z40),(55,z4),(56,z4)],[(0,Et),(10,Cq),(11,zm),(60,BK),(100,PK),(101,NS),(102,BL),(103,zm),(104,zm),(105,zm)]⟩
def af9:SS:=⟨[(0,z83),(1,(.h 60)),(3,z4),(8,zT),(9,z36),(10,z4),(11,z26),(54,z40),(55,z4),(56,z4)],[(0,Et),(10,Cq),(11,zm),(60,BK),(100,PK),(101,NS),(102,BL),(103,zm),(104,zm),(105,zm)]⟩
def afY(k:Nat):bZ:=⟨⟨[(0,z83),(1,(.h 60)),(2,z4),(3,z4)],[(0,Et),(10,Cq),(11,zm),(60,BK)]⟩,⟨[(0,z53)],[(0,Et),(10,Cq),(11,zm),(60,BK),(100,zm)]⟩,4,1,fun x=>AP k x.1.2.2.1 x.1.2.2.2 x.2.1 x.2.2.1 x.2.2.2.1 x.2.2.2.2⟩
theorem af4(k:Nat):fM Tryz.prog 314 (afY k):=ok (cx [f71 k,f187 k,Qc k,Qd k,f328 k,f329 k] 169 nb) Tryz.f314 fun h x=>Q (Q (Q (Q (Q (Q (Q (Q (Q (T (Q (Q (Q (T (Q (Q (T (X h) af8 fun x=>AP.c28 k x.2.1 x.2.2.1 x.2.2.2.1 x.2.2.2.2.1 x.2.2.2.2.2.1 x.2.2.2.2.2.2.1 x.2.2.2.2.2.2.2.1 x.2.2.2.2.2.2.2.2) (X h)) (X h)) af7 fun x=>AP.c24 k x.1.2.2.2 x.2.1 x.2.2.1 x.2.2.2.1 x.2.2.2.2.1 x.2.2.2.2.2.1 x.2.2.2.2.2.2.1 x.2.2.2.2.2.2.2.1 x.2.2.2.2.2.2.2.2) (Q (X h) (K h af3 (fun x=>AP.d22 k x.1.2.2.2 x.2.1 x.2.2.1 x.2.2.2.1 x.2.2.2.2.1 x.2.2.2.2.2.1 x.2.2.2.2.2.2.1 x.2.2.2.2.2.2.2.1 x.2.2.2.2.2.2.2.2) [[0,1,3,2,4,5],[0,1,3,4,2,5]] (O (fun x=>by kernel_rfl) (O (fun x=>by kernel_rfl) (N)))))) (X h)) (X h)) af6 fun x=>AP.c20 k x.1.2.2.2 x.2.1 x.2.2.1 x.2.2.2.1 x.2.2.2.2.1 x.2.2.2.2.2.1 x.2.2.2.2.2.2.1 x.2.2.2.2.2.2.2.1 x.2.2.2.2.2.2.2.2) (Q (X h) (K h af0 (fun x=>AP.d18 k x.1.2.2.1 x.1.2.2.2.2.2.1 x.2.1 x.2.2.1 x.2.2.2.1 x.2.2.2.2.1 x.2.2.2.2.2.1 x.2.2.2.2.2.2.1 x.2.2.2.2.2.2.2.1 x.2.2.2.2.2.2.2.2.1 x.2.2.2.2.2.2.2.2.2.1 x.2.2.2.2.2.2.2.2.2.2) [[0,1,3,2,4,5,6,7,8,9,10,11,12,13,14,15,16,17,18,19],[0,1,3,4,2,5,6,7,8,9,10,11,12,13,14,15,16,17,18,19]] (O (fun x=>by kernel_rfl) (O (fun x=>by kernel_rfl) (N)))))) (Q (B (L af5 (fun n x=>AP.KV k n x.1.2.2.1 x.1.2.2.2.2.2.1 x.1.2.2.2.2.2.2.2.2.2.1 x.1.2.2.2.2.2.2.2.2.2.2 x.2.1 x.2.2.1 x.2.2.2.1 x.2.2.2.2.1 x.2.2.2.2.2.1 x.2.2.2.2.2.2.1 x.2.2.2.2.2.2.2.1 x.2.2.2.2.2.2.2.2.1 x.2.2.2.2.2.2.2.2.2.1 x.2.2.2.2.2.2.2.2.2.2.1 x.2.2.2.2.2.2.2.2.2.2.2) k fun n14=>X h)) (X h))) (X h)) (Q (B (L af9 (fun n x=>AP.l8 k n x.1.2.2.1 x.1.2.2.2.2.2.1 x.1.2.2.2.2.2.2.2.2.1 x.1.2.2.2.2.2.2.2.2.2 x.2.1 x.2.2.1 x.2.2.2.1 x.2.2.2.2.1 x.2.2.2.2.2.1 x.2.2.2.2.2.2.1 x.2.2.2.2.2.2.2.1 x.2.2.2.2.2.2.2.2.1 x.2.2.2.2.2.2.2.2.2.1 x.2.2.2.2.2.2.2.2.2.2) k fun n8=>Q (Q (Q (X h) (B (Q (K h afZ (fun x=>AP.d10 k (AP.l8 k n8) x.1.2.2.1 x.1.2.2.2.2.2.1 x.1.2.2.2.2.2.2.2.1 x.1.2.2.2.2.2.2.2.2.2.1 x.1.2.2.2.2.2.2.2.2.2.2 x.2.1 x.2.2.1 x.2.2.2.1 x.2.2.2.2.1 x.2.2.2.2.2.1 x.2.2.2.2.2.2.1 x.2.2.2.2.2.2.2.1 x.2.2.2.2.2.2.2.2.1 x.2.2.2.2.2.2.2.2.2.1 x.2.2.2.2.2.2.2.2.2.2) [[0,1,2,3,4,9,5,6,7,8,10,11,12,13,14,15,16]] (O (fun x=>by kernel_rfl) (N))) (X h)))) (X h)) (X h))) (X h))) (X h)) (X h)) (X h)) (X h)) (X h)
def afX(k:Nat):Fc Tryz.prog:=⟨314,_,af4 k⟩
def aeb:SS:=⟨[(6,zT),(7,z36)],[(0,Et),(10,Cq),(11,zm),(60,BK),(100,(.box y27 (.agg (.cons z4 (.cons z38 .nil))))),(101,(.box y27 (.agg v41))),(102,Mx),(103,Mx)]⟩
def aec:SS:=⟨[(0,z83),(1,(.h 60)),(6,zT),(7,z36),(18,z38),(19,z4),(20,z4)],[(0,Et),(10,Cq),(11,zm),(60,BK),(100,(.box y27 (.agg v41))),(101,(.box y27 (.agg v45))),(102,zm),(103,Mx),(104,Mx)]⟩
def ad_(k:Nat):bZ:=⟨⟨[(0,z83),(1,(.h 60)),(2,z4)],[(0,Et),(10,Cq),(11,zm),(60,BK)]⟩,⟨[(0,(.agg (.cons z4 (.cons z2 .nil))))],[(0,Et),(10,Cq),(11,zm),(60,BK),(100,Mx)]⟩,3,1,fun x=>Fa k x.1.2.2 x.2.1 x.2.2.1 x.2.2.2.1 x.2.2.2.2⟩
theorem aea(k:Nat):fM Tryz.prog 276 (ad_ k):=ok (cx [Qc k,Qd k,afX k] 49 nb) Tryz.f276 fun h x=>Q (Q (Q (Q (T (X h) aeb fun x=>Fa.c11 k x.2.1 x.2.2.1 x.2.2.2.1 x.2.2.2.2.1 x.2.2.2.2.2.1 x.2.2.2.2.2.2.1 x.2.2.2.2.2.2.2.1 x.2.2.2.2.2.2.2.2) (Q (B (L aec (fun n x=>Fa.l4 k n x.1.2.2.2.2.2.1 x.1.2.2.2.2.2.2 x.2.1 x.2.2.1 x.2.2.2.1 x.2.2.2.2.1 x.2.2.2.2.2.1 x.2.2.2.2.2.2.1 x.2.2.2.2.2.2.2.1 x.2.2.2.2.2.2.2.2.1 x.2.2.2.2.2.2.2.2.2) k fun n4=>X h)) (X h))) (X h)) (X h)) (X h)
def ad9(k:Nat):Fc Tryz.prog:=⟨276,_,aea k⟩
def abd:SS:=⟨[(2,zT),(6,z36),(7,z26),(36,z40),(37,z4),(38,z4)],[(100,(.box y28 (.agg (.cons z44 (.cons z4 (.cons z47 .nil)))))),(101,(.box y28 (.agg (.cons (.h 106) v51)))),(102,(.box (.st (.cons .ptr PG)) (.agg (.cons (.p 108) v93)))),(103,zm),(104,BK),(105,FU),(106,BK),(107,FU),(108,(.box Kz (.agg (.cons z33 (.cons (.h 109) .nil))))),(109,zm)]⟩
def aba(k:Nat):bZ:=⟨⟨[(0,z33)],[]⟩,⟨[(0,z58),(1,z6)],[(100,BK),(101,FU)]⟩,1,2,fun x=>Gn k x⟩
theorem abb(k:Nat):fM Tryz.prog 207 (aba k):=ok (cx [f84 k,f182 k,f273 k,Qc k,Qd k,ad9 k] 65 nb) Tryz.f207 fun h x=>Q (Q (Q (Q (Q (Q (Q (Q (Q (X h) (Q (B (L abd (fun n x=>Gn.AL k n x.1.2.2.2.2.1 x.1.2.2.2.2.2 x.2.1 x.2.2.1 x.2.2.2.1 x.2.2.2.2.1 x.2.2.2.2.2.1 x.2.2.2.2.2.2.1 x.2.2.2.2.2.2.2.1 x.2.2.2.2.2.2.2.2.1 x.2.2.2.2.2.2.2.2.2.1 x.2.2.2.2.2.2.2.2.2.2) k fun n11=>X h)) (X h))) (X h)) (X h)) (X h)) (X h)) (X h)) (X h)) (X h)) (X h)
def f207(k:Nat):Fc Tryz.prog:=⟨207,_,abb k⟩
def XD(k:Nat):bZ:=⟨⟨[(0,z1),(1,z4)],[]⟩,⟨[(0,z58),(1,z4),(2,z6)],[(100,BK),(101,FU)]⟩,2,3,fun x=>OT k x.1 x.2⟩
theorem XE(k:Nat):fM Tryz.prog 131 (XD k):=ok (cx [f181 k,f207 k] 32 nb) Tryz.f131 fun h x=>X h
def f131(k:Nat):Fc Tryz.prog:=⟨131,_,XE k⟩
def aij(k:Nat):bZ:=⟨⟨[(0,z1)],[]⟩,⟨[(0,z58),(1,z4)],[(100,BK),(101,FU)]⟩,1,2,fun x=>OP k x⟩
theorem aik(k:Nat):fM Tryz.prog 70 (aij k):=ok (cx [f85 k,f130 k,f131 k] 67 nb) Tryz.f70 fun h x=>X h
def f70(k:Nat):Fc Tryz.prog:=⟨70,_,aik k⟩
def ZK(k:Nat):bZ:=⟨⟨[(0,z60)],[]⟩,⟨[(0,z6)],[]⟩,1,1,fun x=>LK k x⟩
theorem ZL(k:Nat):fM Tryz.prog 183 (ZK k):=ok (cx [f85 k,f193 k] 18 nb) Tryz.f183 fun h x=>X h
def f183(k:Nat):Fc Tryz.prog:=⟨183,_,ZL k⟩
def ZO:SS:=⟨[(5,z4)],[(0,Gg),(10,Cq),(11,zm)]⟩
def ZM(k:Nat):bZ:=⟨⟨[(0,z83),(1,z4)],[(0,Gg),(10,(.aU Kz UO)),(11,zm)]⟩,⟨[(0,z4)],[(0,Gg),(10,Cq),(11,zm)]⟩,2,1,fun x=>FB k x.1.2 x.2.1 x.2.2.1 x.2.2.2⟩
theorem ZN(k:Nat):fM Tryz.prog 184 (ZM k):=ok (cx [f251 k] 26 nb) Tryz.f184 fun h x=>Q (Q (Q (T (X h) ZO fun x=>FB.c4 k x.1 x.2.1 x.2.2.1 x.2.2.2) (X h)) (X h)) (X h)
def R9(k:Nat):Fc Tryz.prog:=⟨184,_,ZN k⟩
def ZT:SS:=⟨[(7,z4)],[(0,Gg),(10,Cq),(11,zm)]⟩
def ZP(k:Nat):bZ:=⟨⟨[(0,z83),(1,z4),(2,z4)],[(0,Gg),(10,Cq),(11,zm)]⟩,⟨[(0,z4)],[(0,Gg),(10,Cq),(11,zm)]⟩,3,1,fun x=>F4 k x.1.2.1 x.1.2.2 x.2.1 x.2.2.1 x.2.2.2⟩
theorem ZQ(k:Nat):fM Tryz.prog 185 (ZP k):=ok (cx [f251 k] 33 nb) Tryz.f185 fun h x=>Q (Q (Q (T (X h) ZT fun x=>F4.c4 k x.1 x.2.1 x.2.2.1 x.2.2.2) (X h)) (X h)) (X h)
def R_(k:Nat):Fc Tryz.prog:=⟨185,_,ZQ k⟩
def acZ(k:Nat):bZ:=⟨⟨[(0,z83),(1,z4)],[(0,Gg),(10,Cq),(11,zm)]⟩,⟨[],[(0,Gg),(10,Cq),(11,zm)]⟩,2,0,fun x=>LU k x.1.2 x.2.1 x.2.2.1 x.2.2.2⟩
theorem ac0(k:Nat):fM Tryz.prog 252 (acZ k):=ok (cx [f187 k] 38 nb) Tryz.f252 fun h x=>X h
def acY(k:Nat):Fc Tryz.prog:=⟨252,_,ac0 k⟩
def aaC:SS:=⟨[(3,z2),(7,z23),(8,z4),(9,z4)],[(100,zg)]⟩
def aaA(k:Nat):bZ:=⟨⟨[(0,z23)],[]⟩,⟨[(0,z2)],[(100,zg)]⟩,1,1,fun x=>GM k x⟩
theorem aaB(k:Nat):fM Tryz.prog 197 (aaA k):=ok (cx [] 20 nb) Tryz.f197 fun h x=>Q (Q (Q (X h) (Q (B (L aaC (fun n x=>GM.l3 k n x.1.2.1 x.1.2.2.1 x.1.2.2.2 x.2) k fun n3=>X h)) (X h))) (X h)) (X h)
def f197(k:Nat):Fc Tryz.prog:=⟨197,_,aaB k⟩
def afz(k:Nat):bZ:=⟨⟨[(0,z1),(1,z4)],[]⟩,⟨[(0,z4)],[]⟩,2,1,fun x=>OL k x.1 x.2⟩
theorem afA(k:Nat):fM Tryz.prog 307 (afz k):=ok (cx [] 24 nb) Tryz.f307 fun h x=>X h
def f307(k:Nat):Fc Tryz.prog:=⟨307,_,afA k⟩
def adh:SS:=⟨[(0,z1),(1,z4),(3,z4),(9,z2),(10,z4),(11,z4),(14,z4),(15,z4),(18,z4),(19,z4)],[(100,zm)]⟩
def adg:SS:=⟨[(0,z1),(1,z4),(3,z4),(9,z2),(14,z4),(15,z4)],[(100,zm)]⟩
def ade(k:Nat):bZ:=⟨⟨[(0,z1),(1,z4),(2,z4),(3,z4)],[]⟩,⟨[(0,z2)],[(100,zm)]⟩,4,1,fun x=>DW k x.1 x.2.1 x.2.2.1 x.2.2.2⟩
theorem adf(k:Nat):fM Tryz.prog 257 (ade k):=ok (cx [f307 k] 43 nb) Tryz.f257 fun h x=>Q (Q (Q (X h) (Q (B (L adg (fun n x=>DW.l3 k n x.1.1 x.1.2.1 x.1.2.2.1 x.1.2.2.2.2.1 x.1.2.2.2.2.2 x.2) k fun n3=>Q (Q (Q (X h) (B (Q (Q (Q (X h) (Q (B (L adh (fun n x=>DW.l7 k (DW.l3 k n3) n x.1.1 x.1.2.1 x.1.2.2.1 x.1.2.2.2.2.1 x.1.2.2.2.2.2.1 x.1.2.2.2.2.2.2.1 x.1.2.2.2.2.2.2.2.1 x.1.2.2.2.2.2.2.2.2.1 x.1.2.2.2.2.2.2.2.2.2 x.2) k fun n7=>X h)) (X h))) (X h)) (X h)))) (X h)) (X h))) (X h))) (X h)) (X h)
def f257(k:Nat):Fc Tryz.prog:=⟨257,_,adf k⟩
def afx(k:Nat):bZ:=⟨⟨[(0,z4),(1,z4)],[]⟩,⟨[(0,z4)],[]⟩,2,1,fun x=>M9 k x.1 x.2⟩
theorem afy(k:Nat):fM Tryz.prog 306 (afx k):=ok (cx [f85 k] 18 nb) Tryz.f306 fun h x=>X h
def f306(k:Nat):Fc Tryz.prog:=⟨306,_,afy k⟩
def adk(k:Nat):bZ:=⟨⟨[(0,z1),(1,z4),(2,z4),(3,z4)],[]⟩,⟨[(0,z2),(1,z4),(2,z6)],[(100,zm)]⟩,4,3,fun x=>OM k x.1 x.2.1 x.2.2.1 x.2.2.2⟩
theorem adl(k:Nat):fM Tryz.prog 259 (adk k):=ok (cx [f85 k,f257 k,f306 k] 40 nb) Tryz.f259 fun h x=>X h
def f259(k:Nat):Fc Tryz.prog:=⟨259,_,adl k⟩
def aar:SS:=⟨[(6,z6)],[]⟩
def aap(k:Nat):bZ:=⟨⟨[(0,z4)],[]⟩,⟨[(0,z4)],[]⟩,1,1,fun x=>Ez k x⟩
theorem aaq(k:Nat):fM Tryz.prog 194 (aap k):=ok (cx [] 9 nb) Tryz.f194 fun h x=>Q (Q (X h) (Q (B (Q (D (X h) (Q (T (X h) aar fun x=>Ez.c6 k x) (X h))) (X h))) (X h))) (X h)
def f194(k:Nat):Fc Tryz.prog:=⟨194,_,aaq k⟩
def adE(k:Nat):bZ:=⟨⟨[(0,z4),(1,z4)],[]⟩,⟨[(0,z4)],[]⟩,2,1,fun x=>LW k x.1 x.2⟩
theorem adF(k:Nat):fM Tryz.prog 266 (adE k):=ok (cx [] 11 nb) Tryz.f266 fun h x=>X h
def f266(k:Nat):Fc Tryz.prog:=⟨266,_,adF k⟩
def adp(k:Nat):bZ:=⟨⟨[(0,z4),(1,z1),(2,z4)],[]⟩,⟨[(0,z62),(1,z4),(2,z6)],[]⟩,3,3,fun x=>O0 k x.1 x.2.1 x.2.2⟩
theorem adq(k:Nat):fM Tryz.prog 260 (adp k):=ok (cx [f130 k,f194 k,f266 k] 66 nb) Tryz.f260 fun h x=>X h
def f260(k:Nat):Fc Tryz.prog:=⟨260,_,adq k⟩
def aau:SS:=⟨[(0,z4),(1,z1),(2,z4),(14,z2),(48,z4),(49,z4)],[(100,zg)]⟩
def aas(k:Nat):bZ:=⟨⟨[(0,z4),(1,z1),(2,z4),(3,z4)],[]⟩,⟨[(0,z2),(1,z4),(2,z6)],[(100,zg)]⟩,4,3,fun x=>Gp k x.1 x.2.1 x.2.2.1 x.2.2.2⟩
theorem aat(k:Nat):fM Tryz.prog 195 (aas k):=ok (cx [f85 k,f193 k,f197 k,f259 k,f260 k] 69 nb) Tryz.f195 fun h x=>Q (Q (Q (Q (Q (X h) (Q (B (L aau (fun n x=>Gp.l8 k n x.1.1 x.1.2.1 x.1.2.2.1 x.1.2.2.2.2.1 x.1.2.2.2.2.2 x.2) k fun n8=>X h)) (X h))) (X h)) (X h)) (X h)) (X h)
def f195(k:Nat):Fc Tryz.prog:=⟨195,_,aat k⟩
def aaY:SS:=⟨[(0,z4),(3,zT),(26,z6)],[(100,Fp)]⟩
def aaW(k:Nat):bZ:=⟨⟨[(0,z4),(1,z65)],[]⟩,⟨[(0,z6)],[]⟩,2,1,fun x=>F3 k x.1 x.2⟩
theorem aaX(k:Nat):fM Tryz.prog 203 (aaW k):=ok (cx [f85 k,f267 k] 45 nb) Tryz.f203 fun h x=>Q (Q (X h) (Q (B (Q (D (X h) (Q (D (X h) (Q (T (X h) aaY fun x=>F3.c8 k x.1.1 x.1.2.2 x.2) (X h))) (X h))) (X h))) (X h))) (X h)
def f203(k:Nat):Fc Tryz.prog:=⟨203,_,aaX k⟩
end Go.Proofs.YtohaijhiclmkkaaGreat
