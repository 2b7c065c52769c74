/- walks through the claim's functions -/
import Derived.Test.YtohaijhiclmkkaaGreatBase
import Derived.Test.YtohaijhiclmkkaaGreatECRF0
set_option linter.unusedVariables false
set_option maxRecDepth 100000
namespace Go.Proofs.YtohaijhiclmkkaaGreat
open Go.Am Go.Am.W Go.Fn
abbrev y0:Ty:= .int .i64
abbrev u1:Ty:= .cons y0 .nil
abbrev y2:Ty:= .st (.cons y0 (.cons y0 u1))
abbrev z3:CS:= .ro y2
abbrev z4:CS:= .ro y0
abbrev v5:CS:= .cons z4 .nil
abbrev z6:CS:= .agg (.cons z4 (.cons z4 v5))
abbrev y7:Ty:= .list 5 (.int .u8)
abbrev z8:CS:= .ro y7
abbrev z9:CS:= .h 100
abbrev w10:OS:= .sl 5 (.int .u8)
abbrev y11:Ty:= .st (.cons y0 (.cons .str .nil))
abbrev z12:CS:= .ro y11
abbrev z13:CS:= .ro .bool
abbrev y14:Ty:= .st (.cons y0 (.cons y0 (.cons y11 .nil)))
abbrev z15:CS:= .ro (.list 106 y14)
abbrev z16:CS:= .ro .str
abbrev w17:OS:= .sl 106 y14
abbrev z18:CS:= .ro (.list 3 y0)
abbrev u19:Ty:= .cons (.list 3 y0) .nil
abbrev y20:Ty:= .st (.cons y0 (.cons y0 (.cons y0 (.cons y0 (.cons y0 u19)))))
abbrev z21:CS:= .ro y20
abbrev y22:Ty:= .st (.cons y0 (.cons y0 (.cons y0 (.cons .str u1))))
abbrev w23:OS:= .sl 174 y22
abbrev z24:CS:= .ro (.list 174 y22)
abbrev w25:OS:= .sl 3 y0
abbrev z26:CS:= .p 100
abbrev z27:CS:= .agg (.cons z4 (.cons z16 .nil))
abbrev w28:OS:= .box y11 z27
abbrev w29:OS:= .sl 93 y11
abbrev z30:CS:= .h 101
abbrev z31:CS:= .ro (.list 93 y11)
abbrev z32:CS:= .p 101
abbrev y33:Ty:= .st (.cons y0 (.cons .bool (.cons y11 (.cons y11 .nil))))
abbrev z34:CS:= .p 102
abbrev w35:OS:= .box y2 z6
abbrev z36:CS:= .agg (.cons z4 (.cons z13 (.cons z27 (.cons z27 .nil))))
abbrev w37:OS:= .box y33 z36
abbrev y38:Ty:= .st (.cons y0 (.cons y0 (.cons y0 (.cons y0 (.cons y0 (.cons y0 (.cons y0 (.cons y0 (.cons .bool (.cons y0 (.cons .bool (.cons y33 u1))))))))))))
abbrev z39:CS:= .agg (.cons z4 (.cons z4 (.cons z4 (.cons z4 (.cons z4 (.cons z4 (.cons z4 (.cons z4 (.cons z13 (.cons z4 (.cons z13 (.cons z36 v5))))))))))))
abbrev w40:OS:= .box y38 z39
abbrev z41:CS:= .h 103
abbrev z42:CS:= .p 104
abbrev z43:CS:= .h 102
abbrev w44:OS:= .box y20 (.agg (.cons z4 (.cons z4 (.cons z4 (.cons z4 (.cons z4 (.cons z18 .nil)))))))
abbrev z45:CS:= .p 0
abbrev y46:Ty:= .st (.cons y7 (.cons y0 (.cons (.list 174 y22) u1)))
abbrev w47:OS:= .box y46 (.agg (.cons z8 (.cons z4 (.cons (.h 10) v5))))
abbrev z48:CS:= .agg (.cons z4 (.cons z4 (.cons z4 (.cons z16 v5))))
abbrev w49:OS:= .box y22 z48
abbrev w50:OS:= .box y46 (.agg (.cons z8 (.cons z4 (.cons z9 v5))))
abbrev z51:CS:= .ro (.int .u64)
abbrev y52:Ty:= .st (.cons (.list 174 y22) u19)
abbrev v53:CS:= .cons (.h 10) .nil
abbrev w54:OS:= .box y52 (.agg (.cons z24 v53))
abbrev w55:OS:= .obox y52 (.agg (.cons z24 v53))
abbrev y56:Ty:= .st (.cons .ptr (.cons y0 (.cons .bool .nil)))
abbrev v57:CS:= .cons z4 (.cons z13 .nil)
abbrev w58:OS:= .box y56 (.agg (.cons (.p 10) v57))
abbrev z59:CS:= .agg (.cons z24 (.cons (.h 11) .nil))
abbrev w60:OS:= .box y52 z59
abbrev w61:OS:= .box y56 (.agg (.cons (.p 105) v57))
abbrev w62:OS:= .box y52 (.agg (.cons z24 (.cons (.h 106) .nil)))
abbrev w63:OS:= .box y52 (.agg (.cons z24 (.cons (.h 105) .nil)))
abbrev w64:OS:= .box y56 (.agg (.cons z34 v57))
abbrev y65:Ty:= .st (.cons y7 (.cons y0 (.cons .bool u19)))
abbrev w66:OS:= .box y65 (.agg (.cons z8 (.cons z4 (.cons z13 v53))))
abbrev w67:OS:= .box y65 (.agg (.cons z8 (.cons z4 (.cons z13 (.cons z30 .nil)))))
def f11c (k:Nat):Con:=⟨⟨[(0,z3)],[]⟩,⟨[(0,z6)],[]⟩,1,1,fun x=>laws_toLeaf k x⟩
theorem f11ok (k:Nat):FnOk Tryz.prog 11 (f11c k):=ok (cx [] 14 nb) Tryz.f11 fun h x=>X h
def f11 (k:Nat):Fc Tryz.prog:=⟨11,_,f11ok k⟩
def f12s3:SS:=⟨[(0,z8),(3,z9),(4,z4)],[(100,w10)]⟩
def f12c (k:Nat):Con:=⟨⟨[(0,z8)],[]⟩,⟨[(0,z9)],[(100,w10)]⟩,1,1,fun x=>laws_toByteS k x⟩
theorem f12ok (k:Nat):FnOk Tryz.prog 12 (f12c k):=ok (cx [] 22 nb) Tryz.f12 fun h x=>Q (Q (Q (X h) (Q (B (L f12s3 (fun n x=>laws_toByteS.l3 k n x.1.1 x.1.2.2 x.2) k fun n3=>X h)) (X h))) (X h)) (X h)
def f12 (k:Nat):Fc Tryz.prog:=⟨12,_,f12ok k⟩
def f65c (k:Nat):Con:=⟨⟨[(0,z12),(1,z12)],[]⟩,⟨[(0,z13)],[]⟩,2,1,fun x=>laws_eqVal k x.1 x.2⟩
theorem f65ok (k:Nat):FnOk Tryz.prog 65 (f65c k):=ok (cx [] 15 nb) Tryz.f65 fun h x=>X h
def f65 (k:Nat):Fc Tryz.prog:=⟨65,_,f65ok k⟩
def f64c (k:Nat):Con:=⟨⟨[(0,(.ro y14)),(1,(.ro y14))],[]⟩,⟨[(0,z13)],[]⟩,2,1,fun x=>laws_eqTriple k x.1 x.2⟩
theorem f64ok (k:Nat):FnOk Tryz.prog 64 (f64c k):=ok (cx [f65 k] 21 nb) Tryz.f64 fun h x=>X h
def f64 (k:Nat):Fc Tryz.prog:=⟨64,_,f64ok k⟩
def f15s4:SS:=⟨[(0,z15),(1,z15),(5,z4)],[]⟩
def f15c (k:Nat):Con:=⟨⟨[(0,z15),(1,z15)],[]⟩,⟨[(0,z13)],[]⟩,2,1,fun x=>laws_eqTripleS k x.1 x.2⟩
theorem f15ok (k:Nat):FnOk Tryz.prog 15 (f15c k):=ok (cx [f64 k] 27 nb) Tryz.f15 fun h x=>Q (Q (Q (X h) (Q (B (L f15s4 (fun n x=>laws_eqTripleS.l4 k n x.1 x.2.1 x.2.2) k fun n4=>X h)) (X h))) (X h)) (X h)
def f15 (k:Nat):Fc Tryz.prog:=⟨15,_,f15ok k⟩
def f16s4:SS:=⟨[(0,z8),(1,z8),(5,z4)],[]⟩
def f16c (k:Nat):Con:=⟨⟨[(0,z8),(1,z8)],[]⟩,⟨[(0,z13)],[]⟩,2,1,fun x=>laws_eqByteS k x.1 x.2⟩
theorem f16ok (k:Nat):FnOk Tryz.prog 16 (f16c k):=ok (cx [] 26 nb) Tryz.f16 fun h x=>Q (Q (Q (X h) (Q (B (L f16s4 (fun n x=>laws_eqByteS.l4 k n x.1 x.2.1 x.2.2) k fun n4=>X h)) (X h))) (X h)) (X h)
def f16 (k:Nat):Fc Tryz.prog:=⟨16,_,f16ok k⟩
def f18s2:SS:=⟨[(0,(.h 10)),(1,z4),(5,z4)],[(10,w10)]⟩
def f18c (k:Nat):Con:=⟨⟨[(0,(.h 10)),(1,z4)],[(10,w10)]⟩,⟨[(0,z4)],[(10,w10)]⟩,2,1,fun x=>laws_markByteS k x.1.2 x.2⟩
theorem f18ok (k:Nat):FnOk Tryz.prog 18 (f18c k):=ok (cx [] 20 nb) Tryz.f18 fun h x=>Q (Q (X h) (Q (B (L f18s2 (fun n x=>laws_markByteS.l2 k n x.1.2.1 x.1.2.2 x.2) k fun n2=>X h)) (X h))) (X h)
def f18 (k:Nat):Fc Tryz.prog:=⟨18,_,f18ok k⟩
def f66s4:SS:=⟨[(0,z4),(3,z16)],[]⟩
def f66c (k:Nat):Con:=⟨⟨[(0,z4)],[]⟩,⟨[(0,z16)],[]⟩,1,1,fun x=>laws_markText k x⟩
theorem f66ok (k:Nat):FnOk Tryz.prog 66 (f66c k):=ok (cx [] 20 nb) Tryz.f66 fun h x=>Q (Q (Q (Q (X h) (B (L f66s4 (fun n x=>laws_markText.l4 k n x.1 x.2) k fun n4=>X h))) (X h)) (X h)) (X h)
def f66 (k:Nat):Fc Tryz.prog:=⟨66,_,f66ok k⟩
def f20s2:SS:=⟨[(0,(.h 10)),(1,z4),(5,z4)],[(10,w17)]⟩
def f20c (k:Nat):Con:=⟨⟨[(0,(.h 10)),(1,z4)],[(10,w17)]⟩,⟨[(0,z4)],[(10,w17)]⟩,2,1,fun x=>laws_markTripleS k x.1.2 x.2⟩
theorem f20ok (k:Nat):FnOk Tryz.prog 20 (f20c k):=ok (cx [f66 k] 44 nb) Tryz.f20 fun h x=>Q (Q (X h) (Q (B (L f20s2 (fun n x=>laws_markTripleS.l2 k n x.1.2.1 x.1.2.2 x.2) k fun n2=>X h)) (X h))) (X h)
def f20 (k:Nat):Fc Tryz.prog:=⟨20,_,f20ok k⟩
def f21d13:SS:=⟨[(0,z15),(1,z4),(5,z4)],[]⟩
def f21s2:SS:=⟨[(0,z15),(1,z4),(5,z4)],[]⟩
def f21c (k:Nat):Con:=⟨⟨[(0,z15),(1,z4)],[]⟩,⟨[(0,z4)],[]⟩,2,1,fun x=>laws_heldTripleS k x.1 x.2⟩
theorem f21ok (k:Nat):FnOk Tryz.prog 21 (f21c k):=ok (cx [f66 k] 52 nb) Tryz.f21 fun h x=>Q (Q (X h) (Q (B (L f21s2 (fun n x=>laws_heldTripleS.l2 k n x.1 x.2.1 x.2.2) k fun n2=>Q (Q (X h) (B (Q (Q (Q (Q (Q (Q (Q (X h) (Q (X h) (K h f21d13 (fun x=>laws_heldTripleS.d13 k (laws_heldTripleS.l2 k n2) x.1 x.2.1 x.2.2) [[0,1,2,3,4,6,5,7,8],[0,1,2,3,4,6,7,5,8]] (O (fun x=>by kernel_rfl) (O (fun x=>by kernel_rfl) (N)))))) (X h)) (X h)) (X h)) (X h)) (X h)) (X h)))) (X h))) (X h))) (X h)
def f21 (k:Nat):Fc Tryz.prog:=⟨21,_,f21ok k⟩
def f73c (k:Nat):Con:=⟨⟨[(0,z18),(1,z4)],[]⟩,⟨[(0,z4)],[]⟩,2,1,fun x=>laws_szIntS k x.1 x.2⟩
theorem f73ok (k:Nat):FnOk Tryz.prog 73 (f73c k):=ok (cx [] 12 nb) Tryz.f73 fun h x=>X h
def f73 (k:Nat):Fc Tryz.prog:=⟨73,_,f73ok k⟩
def f24c (k:Nat):Con:=⟨⟨[(0,z21),(1,z4)],[]⟩,⟨[(0,z4)],[]⟩,2,1,fun x=>laws_szChunk k x.1 x.2⟩
theorem f24ok (k:Nat):FnOk Tryz.prog 24 (f24c k):=ok (cx [f73 k] 12 nb) Tryz.f24 fun h x=>X h
def f24 (k:Nat):Fc Tryz.prog:=⟨24,_,f24ok k⟩
def f242s5:SS:=⟨[(0,z8),(1,z4),(7,z4),(8,z4)],[]⟩
def f242c (k:Nat):Con:=⟨⟨[(0,z8),(1,z4)],[]⟩,⟨[(0,z4),(1,z4),(2,z13)],[]⟩,2,3,fun x=>spec_UvarGet k x.1 x.2⟩
theorem f242ok (k:Nat):FnOk Tryz.prog 242 (f242c k):=ok (cx [] 57 nb) Tryz.f242 fun h x=>Q (Q (Q (Q (X h) (Q (B (L f242s5 (fun n x=>spec_UvarGet.l5 k n x.1 x.2.1 x.2.2.1 x.2.2.2) k fun n5=>X h)) (X h))) (X h)) (X h)) (X h)
def f242 (k:Nat):Fc Tryz.prog:=⟨242,_,f242ok k⟩
def f243c (k:Nat):Con:=⟨⟨[(0,z4),(1,z4)],[]⟩,⟨[(0,z4)],[]⟩,2,1,fun x=>spec_l2Down k x.1 x.2⟩
theorem f243ok (k:Nat):FnOk Tryz.prog 243 (f243c k):=ok (cx [] 16 nb) Tryz.f243 fun h x=>X h
def f243 (k:Nat):Fc Tryz.prog:=⟨243,_,f243ok k⟩
def f293c (k:Nat):Con:=⟨⟨[(0,z4)],[]⟩,⟨[(0,z4)],[]⟩,1,1,fun x=>spec_Zag k x⟩
theorem f293ok (k:Nat):FnOk Tryz.prog 293 (f293c k):=ok (cx [f243 k] 11 nb) Tryz.f293 fun h x=>X h
def f293 (k:Nat):Fc Tryz.prog:=⟨293,_,f293ok k⟩
def f233c (k:Nat):Con:=⟨⟨[(0,z8),(1,z4)],[]⟩,⟨[(0,z4),(1,z4),(2,z13)],[]⟩,2,3,fun x=>spec_ZigGet k x.1 x.2⟩
theorem f233ok (k:Nat):FnOk Tryz.prog 233 (f233c k):=ok (cx [f242 k,f293 k] 22 nb) Tryz.f233 fun h x=>X h
def f233 (k:Nat):Fc Tryz.prog:=⟨233,_,f233ok k⟩
def f80c (k:Nat):Con:=⟨⟨[(0,z4),(1,z4),(2,z4)],[]⟩,⟨[(0,z13)],[]⟩,3,1,fun x=>spec_l1In k x.1 x.2.1 x.2.2⟩
theorem f80ok (k:Nat):FnOk Tryz.prog 80 (f80c k):=ok (cx [] 15 nb) Tryz.f80 fun h x=>X h
def f80 (k:Nat):Fc Tryz.prog:=⟨80,_,f80ok k⟩
def f234c (k:Nat):Con:=⟨⟨[(0,z4)],[]⟩,⟨[(0,z13)],[]⟩,1,1,fun x=>spec_l4Int k x⟩
theorem f234ok (k:Nat):FnOk Tryz.prog 234 (f234c k):=ok (cx [f80 k] 5 nb) Tryz.f234 fun h x=>X h
def f234 (k:Nat):Fc Tryz.prog:=⟨234,_,f234ok k⟩
def f235c (k:Nat):Con:=⟨⟨[(0,z8),(1,z4)],[]⟩,⟨[(0,z16),(1,z4),(2,z4)],[]⟩,2,3,fun x=>spec_l4Text k x.1 x.2⟩
theorem f235ok (k:Nat):FnOk Tryz.prog 235 (f235c k):=ok (cx [f242 k] 44 nb) Tryz.f235 fun h x=>X h
def f235 (k:Nat):Fc Tryz.prog:=⟨235,_,f235ok k⟩
def f295s9:SS:=⟨[(4,z13)],[]⟩
def f295c (k:Nat):Con:=⟨⟨[(0,z4)],[]⟩,⟨[(0,z13)],[]⟩,1,1,fun x=>spec_l4Kind k x⟩
theorem f295ok (k:Nat):FnOk Tryz.prog 295 (f295c k):=ok (cx [] 12 nb) Tryz.f295 fun h x=>Q (Q (X h) (Q (B (Q (T (X h) f295s9 fun x=>spec_l4Kind.c9 k x) (X h))) (X h))) (X h)
def f295 (k:Nat):Fc Tryz.prog:=⟨295,_,f295ok k⟩
def f294c (k:Nat):Con:=⟨⟨[(0,z4)],[]⟩,⟨[(0,z13)],[]⟩,1,1,fun x=>spec_l4Item k x⟩
theorem f294ok (k:Nat):FnOk Tryz.prog 294 (f294c k):=ok (cx [f295 k] 13 nb) Tryz.f294 fun h x=>X h
def f294 (k:Nat):Fc Tryz.prog:=⟨294,_,f294ok k⟩
def f236s11:SS:=⟨[(1,z4),(8,z4),(9,z4)],[]⟩
def f236c (k:Nat):Con:=⟨⟨[(0,z8),(1,z4)],[]⟩,⟨[(0,z4),(1,z4),(2,z4),(3,z4)],[]⟩,2,4,fun x=>spec_l4Many k x.1 x.2⟩
theorem f236ok (k:Nat):FnOk Tryz.prog 236 (f236c k):=ok (cx [f242 k,f294 k] 62 nb) Tryz.f236 fun h x=>Q (Q (Q (Q (Q (T (X h) f236s11 fun x=>spec_l4Many.c11 k x.1 x.2.1 x.2.2) (X h)) (X h)) (X h)) (X h)) (X h)
def f236 (k:Nat):Fc Tryz.prog:=⟨236,_,f236ok k⟩
def f237s16:SS:=⟨[(1,z4),(2,z4),(10,z4),(12,z4)],[]⟩
def f237c (k:Nat):Con:=⟨⟨[(0,z8),(1,z4),(2,z4)],[]⟩,⟨[(0,z4),(1,z4),(2,z4),(3,z4)],[]⟩,3,4,fun x=>spec_l4Head k x.1 x.2.1 x.2.2⟩
theorem f237ok (k:Nat):FnOk Tryz.prog 237 (f237c k):=ok (cx [f80 k,f233 k,f295 k] 71 nb) Tryz.f237 fun h x=>Q (Q (Q (Q (Q (Q (Q (Q (T (X h) f237s16 fun x=>spec_l4Head.c16 k x.1 x.2.1 x.2.2.1 x.2.2.2) (X h)) (X h)) (X h)) (X h)) (X h)) (X h)) (X h)) (X h)
def f237 (k:Nat):Fc Tryz.prog:=⟨237,_,f237ok k⟩
def f162s24:SS:=⟨[(0,z8),(4,z4),(5,z9),(22,z4),(23,z4),(24,z4),(25,z4),(26,z4)],[(100,w23)]⟩
def f162s30:SS:=⟨[(0,z8),(1,z4),(4,z4),(5,z9),(15,z4),(27,z4),(28,z4)],[(100,w23)]⟩
def f162s8:SS:=⟨[(0,z8),(1,z4),(2,z4),(4,z4),(5,z9),(15,z4),(49,z4),(50,z13)],[(100,w23)]⟩
def f162con (F:(List Int)→Int→Int→Int→Int→(List TNode)→Option ((Unit×Int×Int)×(List TNode))):Con:=⟨⟨[(0,z8),(1,z4),(2,z4),(3,z4),(4,z4),(5,(.h 10))],[(10,w23)]⟩,⟨[(0,z9),(1,z4),(2,z4)],[(100,w23)]⟩,6,3,fun x=>F x.1.1 x.1.2.1 x.1.2.2.1 x.1.2.2.2.1 x.1.2.2.2.2.1 x.2⟩
theorem f162okb (k:Nat) (S162:(List Int)→Int→Int→Int→Int→(List TNode)→Option ((Unit×Int×Int)×(List TNode))) (h162:FnOk Tryz.prog 162 (f162con S162)):FnOk Tryz.prog 162 (f162con (spec_l4Read.b k S162)):=ok (cx [⟨162,_,h162⟩,f233 k,f234 k,f235 k,f236 k,f237 k] 183 nb) Tryz.f162 fun h x=>Q (Q (Q (Q (Q (X h) (Q (B (Q (T (D (X h) (Q (D (X h) (Q (D (Q (Q (Q (Q (X h) (Q (B (L f162s24 (fun n x=>spec_l4Read.l24 k S162 n x.1.1 x.1.2.1 x.1.2.2.2.1 x.1.2.2.2.2.1 x.1.2.2.2.2.2.1 x.1.2.2.2.2.2.2.1 x.1.2.2.2.2.2.2.2 x.2) k fun n24=>X h)) (X h))) (X h)) (X h)) (X h)) (Q (D (Q (B (L f162s30 (fun n x=>spec_l4Read.l30 k S162 n x.1.1 x.1.2.1 x.1.2.2.1 x.1.2.2.2.2.1 x.1.2.2.2.2.2.1 x.1.2.2.2.2.2.2 x.2) k fun n30=>X h)) (X h)) (X h)) (X h))) (X h))) (X h))) f162s8 fun x=>spec_l4Read.c8 k S162 x.1.1 x.1.2.1 x.1.2.2.1 x.1.2.2.2.1 x.1.2.2.2.2.2.1 x.1.2.2.2.2.2.2.1 x.1.2.2.2.2.2.2.2 x.2) (X h))) (X h))) (X h)) (X h)) (X h)) (X h)
theorem f162rec (k:Nat):∀d,FnOk Tryz.prog 162 (f162con (spec_l4Read.d k d))
 |0=>FnOk_none (fun _=>rfl)
 |d+1=>let ih:=f162rec k d
  f162okb k (spec_l4Read.d k d) ih
theorem f162ok (k:Nat):FnOk Tryz.prog 162 (f162con (spec_l4Read k)):=(f162rec k k)
def f162 (k:Nat):Fc Tryz.prog:=⟨162,_,f162ok k⟩
def f107c (k:Nat):Con:=⟨⟨[(0,z8),(1,z4)],[]⟩,⟨[(0,z9),(1,z4),(2,z4)],[(100,w23)]⟩,2,3,fun x=>spec_TreeRead k x.1 x.2⟩
theorem f107ok (k:Nat):FnOk Tryz.prog 107 (f107c k):=ok (cx [f162 k] 34 nb) Tryz.f107 fun h x=>X h
def f107 (k:Nat):Fc Tryz.prog:=⟨107,_,f107ok k⟩
def f163s7:SS:=⟨[(4,z13)],[]⟩
def f163c (k:Nat):Con:=⟨⟨[(0,z4)],[]⟩,⟨[(0,z13)],[]⟩,1,1,fun x=>spec_l5Type k x⟩
theorem f163ok (k:Nat):FnOk Tryz.prog 163 (f163c k):=ok (cx [] 10 nb) Tryz.f163 fun h x=>Q (Q (X h) (Q (B (Q (T (X h) f163s7 fun x=>spec_l5Type.c7 k x) (X h))) (X h))) (X h)
def f163 (k:Nat):Fc Tryz.prog:=⟨163,_,f163ok k⟩
def f108c (k:Nat):Con:=⟨⟨[(0,z3)],[]⟩,⟨[(0,z13)],[]⟩,1,1,fun x=>spec_LeafOk k x⟩
theorem f108ok (k:Nat):FnOk Tryz.prog 108 (f108c k):=ok (cx [f80 k,f163 k] 18 nb) Tryz.f108 fun h x=>X h
def f108 (k:Nat):Fc Tryz.prog:=⟨108,_,f108ok k⟩
def f165s3:SS:=⟨[(0,z24),(1,z4),(5,z4),(6,z4)],[]⟩
def f165con (F:(List TNode)→Int→Option Int):Con:=⟨⟨[(0,z24),(1,z4)],[]⟩,⟨[(0,z4)],[]⟩,2,1,fun x=>F x.1 x.2⟩
theorem f165okb (k:Nat) (S165:(List TNode)→Int→Option Int) (h165:FnOk Tryz.prog 165 (f165con S165)):FnOk Tryz.prog 165 (f165con (spec_l4After.b k S165)):=ok (cx [⟨165,_,h165⟩] 22 nb) Tryz.f165 fun h x=>Q (Q (Q (X h) (Q (B (L f165s3 (fun n x=>spec_l4After.l3 k S165 n x.1 x.2.1 x.2.2.1 x.2.2.2) k fun n3=>X h)) (X h))) (X h)) (X h)
theorem f165rec (k:Nat):∀d,FnOk Tryz.prog 165 (f165con (spec_l4After.d k d))
 |0=>FnOk_none (fun _=>rfl)
 |d+1=>let ih:=f165rec k d
  f165okb k (spec_l4After.d k d) ih
theorem f165ok (k:Nat):FnOk Tryz.prog 165 (f165con (spec_l4After k)):=(f165rec k k)
def f165 (k:Nat):Fc Tryz.prog:=⟨165,_,f165ok k⟩
def f110s5:SS:=⟨[(0,z24),(1,z4),(2,z4),(7,z4),(8,z4)],[]⟩
def f110c (k:Nat):Con:=⟨⟨[(0,z24),(1,z4),(2,z4)],[]⟩,⟨[(0,z4)],[]⟩,3,1,fun x=>spec_l4Find k x.1 x.2.1 x.2.2⟩
theorem f110ok (k:Nat):FnOk Tryz.prog 110 (f110c k):=ok (cx [f165 k] 37 nb) Tryz.f110 fun h x=>Q (Q (Q (Q (X h) (Q (B (L f110s5 (fun n x=>spec_l4Find.l5 k n x.1 x.2.1 x.2.2.1 x.2.2.2.1 x.2.2.2.2) k fun n5=>X h)) (X h))) (X h)) (X h)) (X h)
def f110 (k:Nat):Fc Tryz.prog:=⟨110,_,f110ok k⟩
def f164c (k:Nat):Con:=⟨⟨[(0,z24),(1,z4),(2,z4)],[]⟩,⟨[(0,z4),(1,z13)],[]⟩,3,2,fun x=>spec_l4NumOf k x.1 x.2.1 x.2.2⟩
theorem f164ok (k:Nat):FnOk Tryz.prog 164 (f164c k):=ok (cx [f110 k] 36 nb) Tryz.f164 fun h x=>X h
def f164 (k:Nat):Fc Tryz.prog:=⟨164,_,f164ok k⟩
def f109s3:SS:=⟨[(0,z24),(1,z4),(2,z18),(8,z9),(9,z4)],[(100,w25)]⟩
def f109c (k:Nat):Con:=⟨⟨[(0,z24),(1,z4),(2,z18)],[]⟩,⟨[(0,z9),(1,z13)],[(100,w25)]⟩,3,2,fun x=>spec_l16Ids k x.1 x.2.1 x.2.2⟩
theorem f109ok (k:Nat):FnOk Tryz.prog 109 (f109c k):=ok (cx [f164 k] 37 nb) Tryz.f109 fun h x=>Q (Q (Q (X h) (Q (B (L f109s3 (fun n x=>spec_l16Ids.l3 k n x.1.1 x.1.2.1 x.1.2.2.1 x.1.2.2.2.2 x.2) k fun n3=>X h)) (X h))) (X h)) (X h)
def f109 (k:Nat):Fc Tryz.prog:=⟨109,_,f109ok k⟩
def f166c (k:Nat):Con:=⟨⟨[(0,z24),(1,z4)],[]⟩,⟨[(0,z4)],[]⟩,2,1,fun x=>spec_l16Part k x.1 x.2⟩
theorem f166ok (k:Nat):FnOk Tryz.prog 166 (f166c k):=ok (cx [f110 k] 20 nb) Tryz.f166 fun h x=>X h
def f166 (k:Nat):Fc Tryz.prog:=⟨166,_,f166ok k⟩
def f238c (k:Nat):Con:=⟨⟨[(0,z24),(1,z4),(2,z4)],[]⟩,⟨[(0,z16),(1,z13)],[]⟩,3,2,fun x=>spec_l4TextOf k x.1 x.2.1 x.2.2⟩
theorem f238ok (k:Nat):FnOk Tryz.prog 238 (f238c k):=ok (cx [f110 k] 28 nb) Tryz.f238 fun h x=>X h
def f238 (k:Nat):Fc Tryz.prog:=⟨238,_,f238ok k⟩
def f244c (k:Nat):Con:=⟨⟨[(0,z4),(1,z4)],[]⟩,⟨[(0,z4)],[]⟩,2,1,fun x=>spec_BitsSize k x.1 x.2⟩
theorem f244ok (k:Nat):FnOk Tryz.prog 244 (f244c k):=ok (cx [f80 k] 18 nb) Tryz.f244 fun h x=>X h
def f244 (k:Nat):Fc Tryz.prog:=⟨244,_,f244ok k⟩
def f245c (k:Nat):Con:=⟨⟨[(0,z8),(1,z4)],[]⟩,⟨[(0,z4)],[]⟩,2,1,fun x=>spec_l1Bit k x.1 x.2⟩
theorem f245ok (k:Nat):FnOk Tryz.prog 245 (f245c k):=ok (cx [] 15 nb) Tryz.f245 fun h x=>X h
def f245 (k:Nat):Fc Tryz.prog:=⟨245,_,f245ok k⟩
def f246s10:SS:=⟨[(0,z8),(1,z4),(2,z4),(3,z4),(11,z9),(12,z4),(13,z4),(14,z4),(15,z4)],[(100,w25)]⟩
def f246s6:SS:=⟨[(0,z8),(1,z4),(2,z4),(3,z4),(11,z9),(12,z4),(13,z4)],[(100,w25)]⟩
def f246c (k:Nat):Con:=⟨⟨[(0,z8),(1,z4),(2,z4),(3,z4)],[]⟩,⟨[(0,z9),(1,z4),(2,z13)],[(100,w25)]⟩,4,3,fun x=>spec_BitsRead k x.1 x.2.1 x.2.2.1 x.2.2.2⟩
theorem f246ok (k:Nat):FnOk Tryz.prog 246 (f246c k):=ok (cx [f80 k,f244 k,f245 k] 70 nb) Tryz.f246 fun h x=>Q (Q (Q (Q (Q (X h) (Q (B (L f246s6 (fun n x=>spec_BitsRead.l6 k n x.1.1 x.1.2.1 x.1.2.2.1 x.1.2.2.2.1 x.1.2.2.2.2.2.1 x.1.2.2.2.2.2.2 x.2) k fun n6=>Q (Q (X h) (B (Q (Q (X h) (Q (B (L f246s10 (fun n x=>spec_BitsRead.l10 k (spec_BitsRead.l6 k n6) n x.1.1 x.1.2.1 x.1.2.2.1 x.1.2.2.2.1 x.1.2.2.2.2.2.1 x.1.2.2.2.2.2.2.1 x.1.2.2.2.2.2.2.2.1 x.1.2.2.2.2.2.2.2.2 x.2) k fun n10=>X h)) (X h))) (X h)))) (X h))) (X h))) (X h)) (X h)) (X h)) (X h)
def f246 (k:Nat):Fc Tryz.prog:=⟨246,_,f246ok k⟩
def f125s5:SS:=⟨[(0,z8),(1,z4),(2,z4),(9,z4),(10,z4)],[]⟩
def f125c (k:Nat):Con:=⟨⟨[(0,z8),(1,z4),(2,z4)],[]⟩,⟨[(0,z4),(1,z4),(2,z13)],[]⟩,3,3,fun x=>spec_WordGet k x.1 x.2.1 x.2.2⟩
theorem f125ok (k:Nat):FnOk Tryz.prog 125 (f125c k):=ok (cx [f80 k] 53 nb) Tryz.f125 fun h x=>Q (Q (Q (Q (X h) (Q (B (L f125s5 (fun n x=>spec_WordGet.l5 k n x.1 x.2.1 x.2.2.1 x.2.2.2.1 x.2.2.2.2) k fun n5=>X h)) (X h))) (X h)) (X h)) (X h)
def f125 (k:Nat):Fc Tryz.prog:=⟨125,_,f125ok k⟩
def f247s6:SS:=⟨[(6,z26),(9,z4),(10,z4),(11,z13)],[(100,w28)]⟩
def f247c (k:Nat):Con:=⟨⟨[(0,z4),(1,z8),(2,z4)],[]⟩,⟨[(0,z27),(1,z4),(2,z13)],[]⟩,3,3,fun x=>spec_l7One k x.1 x.2.1 x.2.2⟩
theorem f247ok (k:Nat):FnOk Tryz.prog 247 (f247c k):=ok (cx [f125 k] 82 nb) Tryz.f247 fun h x=>Q (Q (X h) (Q (B (Q (D (Q (Q (T (X h) f247s6 fun x=>spec_l7One.c6 k x.1.2.1 x.1.2.2.1 x.1.2.2.2 x.2) (X h)) (X h)) (X h)) (X h))) (X h))) (X h)
def f247 (k:Nat):Fc Tryz.prog:=⟨247,_,f247ok k⟩
def f172s12:SS:=⟨[(0,z4),(1,z8),(2,z4),(3,z4),(11,z9),(16,z4)],[(100,w29)]⟩
def f172s7:SS:=⟨[(11,z9),(12,z30),(13,z4),(14,z13),(15,z4)],[(100,w29),(101,w25)]⟩
def f172c (k:Nat):Con:=⟨⟨[(0,z4),(1,z8),(2,z4),(3,z4)],[]⟩,⟨[(0,z9),(1,z4),(2,z13)],[(100,w29)]⟩,4,3,fun x=>spec_PlainRead k x.1 x.2.1 x.2.2.1 x.2.2.2⟩
theorem f172ok (k:Nat):FnOk Tryz.prog 172 (f172c k):=ok (cx [f80 k,f163 k,f246 k,f247 k] 87 nb) Tryz.f172 fun h x=>Q (Q (Q (Q (Q (X h) (Q (B (L f172s12 (fun n x=>spec_PlainRead.l12 k n x.1.1 x.1.2.1 x.1.2.2.1 x.1.2.2.2.1 x.1.2.2.2.2.2 x.2) k fun n12=>X h)) (X h))) (Q (D (Q (Q (X h) (Q (B (L f172s7 (fun n x=>spec_PlainRead.l7 k n x.1.2.2.1 x.1.2.2.2.1 x.1.2.2.2.2 x.2.1 x.2.2) k fun n7=>X h)) (X h))) (X h)) (X h)) (X h))) (X h)) (X h)) (X h)
def f172 (k:Nat):Fc Tryz.prog:=⟨172,_,f172ok k⟩
def f180s8:SS:=⟨[(3,z26),(5,z4),(26,z13)],[(100,w28)]⟩
def f180c (k:Nat):Con:=⟨⟨[(0,z4),(1,z12)],[]⟩,⟨[(0,z13)],[]⟩,2,1,fun x=>spec_ValOk k x.1 x.2⟩
theorem f180ok (k:Nat):FnOk Tryz.prog 180 (f180c k):=ok (cx [f80 k,f234 k] 43 nb) Tryz.f180 fun h x=>Q (Q (X h) (Q (B (Q (D (X h) (Q (D (X h) (Q (T (X h) f180s8 fun x=>spec_ValOk.c8 k x.1.2.1 x.1.2.2 x.2) (X h))) (X h))) (X h))) (X h))) (X h)
def f180 (k:Nat):Fc Tryz.prog:=⟨180,_,f180ok k⟩
def f117s4:SS:=⟨[(0,z4),(1,z31),(5,z4)],[]⟩
def f117c (k:Nat):Con:=⟨⟨[(0,z4),(1,z31)],[]⟩,⟨[(0,z13)],[]⟩,2,1,fun x=>spec_l6Vals k x.1 x.2⟩
theorem f117ok (k:Nat):FnOk Tryz.prog 117 (f117c k):=ok (cx [f163 k,f180 k] 27 nb) Tryz.f117 fun h x=>Q (Q (Q (X h) (Q (B (L f117s4 (fun n x=>spec_l6Vals.l4 k n x.1 x.2.1 x.2.2) k fun n4=>X h)) (X h))) (X h)) (X h)
def f117 (k:Nat):Fc Tryz.prog:=⟨117,_,f117ok k⟩
def f333s3:SS:=⟨[(0,z4),(1,z4),(5,z9),(6,z4)],[(100,w10)]⟩
def f333c (k:Nat):Con:=⟨⟨[(0,z4),(1,z4)],[]⟩,⟨[(0,z9)],[(100,w10)]⟩,2,1,fun x=>spec_WordPut k x.1 x.2⟩
theorem f333ok (k:Nat):FnOk Tryz.prog 333 (f333c k):=ok (cx [f80 k] 26 nb) Tryz.f333 fun h x=>Q (Q (Q (X h) (Q (B (L f333s3 (fun n x=>spec_WordPut.l3 k n x.1.1 x.1.2.1 x.1.2.2.2 x.2) k fun n3=>X h)) (X h))) (X h)) (X h)
def f333 (k:Nat):Fc Tryz.prog:=⟨333,_,f333ok k⟩
def f334s12:SS:=⟨[(0,z18),(1,z4),(7,z9),(8,z4),(9,z4)],[(100,w10)]⟩
def f334s11:SS:=⟨[(0,z18),(1,z4),(7,z9),(8,z4),(9,z4)],[(100,w10)]⟩
def f334s6:SS:=⟨[(0,z18),(1,z4),(7,z9),(8,z4)],[(100,w10)]⟩
def f334c (k:Nat):Con:=⟨⟨[(0,z18),(1,z4)],[]⟩,⟨[(0,z9),(1,z13)],[(100,w10)]⟩,2,2,fun x=>spec_BitsPack k x.1 x.2⟩
theorem f334ok (k:Nat):FnOk Tryz.prog 334 (f334c k):=ok (cx [f244 k] 73 nb) Tryz.f334 fun h x=>Q (Q (Q (Q (Q (X h) (Q (B (L f334s6 (fun n x=>spec_BitsPack.l6 k n x.1.1 x.1.2.1 x.1.2.2.2 x.2) k fun n6=>Q (Q (X h) (B (Q (Q (B (L f334s11 (fun n x=>spec_BitsPack.l11 k (spec_BitsPack.l6 k n6) n x.1.1 x.1.2.1 x.1.2.2.2.1 x.1.2.2.2.2 x.2) k fun n11=>Q (Q (T (X h) f334s12 fun x=>spec_BitsPack.c12 k (spec_BitsPack.l11 k (spec_BitsPack.l6 k n6) n11) x.1.1 x.1.2.1 x.1.2.2.2.1 x.1.2.2.2.2 x.2) (X h)) (X h))) (X h)) (X h)))) (X h))) (X h))) (X h)) (X h)) (X h)) (X h)
def f334 (k:Nat):Fc Tryz.prog:=⟨334,_,f334ok k⟩
def f322s7:SS:=⟨[(0,z4),(1,z31),(6,z9),(7,z30),(8,z4)],[(100,w10),(101,w25)]⟩
def f322s6:SS:=⟨[(0,z4),(1,z31),(6,z9),(7,z30),(8,z4)],[(100,w10),(101,w25)]⟩
def f322c (k:Nat):Con:=⟨⟨[(0,z4),(1,z31)],[]⟩,⟨[(0,z9),(1,z13)],[(100,w10)]⟩,2,2,fun x=>spec_PlainPack k x.1 x.2⟩
theorem f322ok (k:Nat):FnOk Tryz.prog 322 (f322c k):=ok (cx [f117 k,f333 k,f334 k] 67 nb) Tryz.f322 fun h x=>Q (Q (Q (Q (Q (X h) (Q (B (L f322s6 (fun n x=>spec_PlainPack.l6 k n x.1.1 x.1.2.1 x.1.2.2.2.2 x.2.1 x.2.2) k fun n6=>Q (Q (T (X h) f322s7 fun x=>spec_PlainPack.c7 k (spec_PlainPack.l6 k n6) x.1.1 x.1.2.1 x.1.2.2.2.2 x.2.1 x.2.2) (X h)) (X h))) (X h))) (X h)) (X h)) (X h)) (X h)
def f322 (k:Nat):Fc Tryz.prog:=⟨322,_,f322ok k⟩
def f296c (k:Nat):Con:=⟨⟨[(0,z4),(1,z12)],[]⟩,⟨[(0,z16)],[]⟩,2,1,fun x=>spec_l15Text k x.1 x.2⟩
theorem f296ok (k:Nat):FnOk Tryz.prog 296 (f296c k):=ok (cx [f322 k] 20 nb) Tryz.f296 fun h x=>X h
def f296 (k:Nat):Fc Tryz.prog:=⟨296,_,f296ok k⟩
def f239d7:SS:=⟨[(0,z4),(1,z16),(4,z26),(6,z32)],[(100,w28),(101,w28)]⟩
def f239s7:SS:=⟨[(0,z4),(1,z16),(4,z26),(6,z32)],[(100,w28),(101,w28)]⟩
def f239c (k:Nat):Con:=⟨⟨[(0,z4),(1,z16)],[]⟩,⟨[(0,z27),(1,z13)],[]⟩,2,2,fun x=>spec_l15Value k x.1 x.2⟩
theorem f239ok (k:Nat):FnOk Tryz.prog 239 (f239c k):=ok (cx [f172 k,f180 k,f296 k] 39 nb) Tryz.f239 fun h x=>Q (Q (Q (T (Q (X h) (K h f239d7 (fun x=>spec_l15Value.d7 k x.1.1 x.1.2.1 x.2.1 x.2.2) [[1,0,2,3,4,5,8,6,7,9,10,11,12],[1,2,0,3,4,5,8,6,7,9,10,11,12],[1,2,3,4,5,8,0,6,7,9,10,11,12],[1,2,3,4,5,8,6,0,7,9,10,11,12],[1,2,3,4,5,8,6,7,0,9,10,11,12]] (O (fun x=>by kernel_rfl) (O (fun x=>by kernel_rfl) (O (fun x=>by kernel_rfl) (O (fun x=>by kernel_rfl) (O (fun x=>by kernel_rfl) (N)))))))) f239s7 fun x=>spec_l15Value.c7 k x.1.1 x.1.2.1 x.2.1 x.2.2) (X h)) (X h)) (X h)
def f239 (k:Nat):Fc Tryz.prog:=⟨239,_,f239ok k⟩
def f226c (k:Nat):Con:=⟨⟨[(0,z4)],[]⟩,⟨[(0,z4)],[]⟩,1,1,fun x=>spec_FloatKey k x⟩
theorem f226ok (k:Nat):FnOk Tryz.prog 226 (f226c k):=ok (cx [] 8 nb) Tryz.f226 fun h x=>X h
def f226 (k:Nat):Fc Tryz.prog:=⟨226,_,f226ok k⟩
def f155d5:SS:=⟨[(4,z26),(5,z32)],[(100,w28),(101,w28)]⟩
def f155s8:SS:=⟨[(4,z26),(5,z32),(7,z4)],[(100,w28),(101,w28)]⟩
def f155c (k:Nat):Con:=⟨⟨[(0,z4),(1,z12),(2,z12)],[]⟩,⟨[(0,z13)],[]⟩,3,1,fun x=>spec_ValLess k x.1 x.2.1 x.2.2⟩
theorem f155ok (k:Nat):FnOk Tryz.prog 155 (f155c k):=ok (cx [f180 k,f226 k] 74 nb) Tryz.f155 fun h x=>Q (Q (Q (X h) (Q (B (Q (D (Q (X h) (K h f155d5 (fun x=>spec_ValLess.d5 k x.2.1 x.2.2) [[0,3,1,2,4,5,6,7],[0,3,1,4,2,5,6,7],[0,3,4,1,2,5,6,7]] (O (fun x=>by kernel_rfl) (O (fun x=>by kernel_rfl) (O (fun x=>by kernel_rfl) (N)))))) (Q (D (Q (X h) (Q (B (L f155s8 (fun n x=>spec_ValLess.l8 k n x.1.2.2 x.2.1 x.2.2) k fun n8=>X h)) (X h))) (X h)) (X h))) (X h))) (X h))) (X h)) (X h)
def f155 (k:Nat):Fc Tryz.prog:=⟨155,_,f155ok k⟩
def f240c (k:Nat):Con:=⟨⟨[(0,z3),(1,(.ro y33))],[]⟩,⟨[(0,z13)],[]⟩,2,1,fun x=>spec_l15Ok k x.1 x.2⟩
theorem f240ok (k:Nat):FnOk Tryz.prog 240 (f240c k):=ok (cx [f80 k,f108 k,f155 k,f180 k] 51 nb) Tryz.f240 fun h x=>X h
def f240 (k:Nat):Fc Tryz.prog:=⟨240,_,f240ok k⟩
def f167s15:SS:=⟨[(3,z26),(6,z32),(8,z34),(15,(.p 103))],[(100,w35),(101,w37),(102,w37),(103,w37)]⟩
def f167c (k:Nat):Con:=⟨⟨[(0,z3),(1,z24),(2,z4)],[]⟩,⟨[(0,z36),(1,z13)],[]⟩,3,2,fun x=>spec_l15From k x.1 x.2.1 x.2.2⟩
theorem f167ok (k:Nat):FnOk Tryz.prog 167 (f167c k):=ok (cx [f110 k,f164 k,f238 k,f239 k,f240 k] 98 nb) Tryz.f167 fun h x=>Q (Q (Q (Q (Q (Q (Q (Q (T (X h) f167s15 fun x=>spec_l15From.c15 k x.2.1 x.2.2.1 x.2.2.2.1 x.2.2.2.2) (X h)) (X h)) (X h)) (X h)) (X h)) (X h)) (X h)) (X h)
def f167 (k:Nat):Fc Tryz.prog:=⟨167,_,f167ok k⟩
def f111s33:SS:=⟨[(5,z26),(6,z32)],[(100,w40),(101,w40)]⟩
def f111s27:SS:=⟨[(1,z24),(3,z26),(5,z32),(6,z34),(10,z4),(11,z4)],[(100,w35),(101,w40),(102,w40)]⟩
def f111s7:SS:=⟨[(1,z24),(3,z26),(5,z32),(6,z34),(8,z4),(9,z41),(10,z4)],[(100,w35),(101,w40),(102,w40),(103,w25)]⟩
def f111c (k:Nat):Con:=⟨⟨[(0,z3),(1,z24),(2,(.ro y38))],[]⟩,⟨[(0,z39),(1,z13)],[]⟩,3,2,fun x=>spec_l16Kind k x.1 x.2.1 x.2.2⟩
theorem f111ok (k:Nat):FnOk Tryz.prog 111 (f111c k):=ok (cx [f80 k,f109 k,f110 k,f166 k,f167 k] 153 nb) Tryz.f111 fun h x=>Q (Q (Q (T (Q (Q (Q (Q (Q (Q (Q (T (Q (T (X h) f111s33 fun x=>spec_l16Kind.c33 k x.2.1 x.2.2) (X h)) f111s27 fun x=>spec_l16Kind.c27 k x.1.1 x.1.2.2.2.2.1 x.1.2.2.2.2.2 x.2.1 x.2.2.1 x.2.2.2) (X h)) (X h)) (X h)) (X h)) (X h)) (X h)) (X h)) f111s7 fun x=>spec_l16Kind.c7 k x.1.1 x.1.2.2.2.2.1 x.1.2.2.2.2.2.2 x.2.1 x.2.2.1 x.2.2.2.1 x.2.2.2.2) (X h)) (X h)) (X h)
def f111 (k:Nat):Fc Tryz.prog:=⟨111,_,f111ok k⟩
def f54s17:SS:=⟨[(1,z8),(3,z26),(6,z32),(8,z34),(9,z41),(10,z4),(14,z42)],[(100,w35),(101,w40),(102,w40),(103,w23),(104,w40)]⟩
def f54c (k:Nat):Con:=⟨⟨[(0,z3),(1,z8),(2,z4)],[]⟩,⟨[(0,z39),(1,z4)],[]⟩,3,2,fun x=>spec_HeadRead k x.1 x.2.1 x.2.2⟩
theorem f54ok (k:Nat):FnOk Tryz.prog 54 (f54c k):=ok (cx [f107 k,f108 k,f109 k,f110 k,f111 k] 130 nb) Tryz.f54 fun h x=>Q (Q (Q (Q (Q (Q (Q (Q (Q (T (X h) f54s17 fun x=>spec_HeadRead.c17 k x.1.1 x.1.2.2.2.2.2.1 x.2.1 x.2.2.1 x.2.2.2.1 x.2.2.2.2.1 x.2.2.2.2.2) (X h)) (X h)) (X h)) (X h)) (X h)) (X h)) (X h)) (X h)) (X h)
def f54 (k:Nat):Fc Tryz.prog:=⟨54,_,f54ok k⟩
def f168s3:SS:=⟨[(0,z4),(3,z4)],[]⟩
def f168s2:SS:=⟨[(0,z4),(3,z4)],[]⟩
def f168c (k:Nat):Con:=⟨⟨[(0,z4)],[]⟩,⟨[(0,z4)],[]⟩,1,1,fun x=>spec_l3Turn k x⟩
theorem f168ok (k:Nat):FnOk Tryz.prog 168 (f168c k):=ok (cx [] 18 nb) Tryz.f168 fun h x=>Q (Q (X h) (Q (B (L f168s2 (fun n x=>spec_l3Turn.l2 k n x.1 x.2) k fun n2=>Q (Q (T (X h) f168s3 fun x=>spec_l3Turn.c3 k (spec_l3Turn.l2 k n2) x.1 x.2) (X h)) (X h))) (X h))) (X h)
def f168 (k:Nat):Fc Tryz.prog:=⟨168,_,f168ok k⟩
def f112s5:SS:=⟨[(1,z8),(5,z4),(6,z4)],[]⟩
def f112c (k:Nat):Con:=⟨⟨[(0,z4),(1,z8)],[]⟩,⟨[(0,z4)],[]⟩,2,1,fun x=>spec_CrcMore k x.1 x.2⟩
theorem f112ok (k:Nat):FnOk Tryz.prog 112 (f112c k):=ok (cx [f80 k,f168 k] 32 nb) Tryz.f112 fun h x=>Q (Q (Q (Q (X h) (Q (B (L f112s5 (fun n x=>spec_CrcMore.l5 k n x.1 x.2.1 x.2.2) k fun n5=>X h)) (X h))) (X h)) (X h)) (X h)
def f112 (k:Nat):Fc Tryz.prog:=⟨112,_,f112ok k⟩
def f55c (k:Nat):Con:=⟨⟨[(0,z8)],[]⟩,⟨[(0,z4)],[]⟩,1,1,fun x=>spec_CrcOf k x⟩
theorem f55ok (k:Nat):FnOk Tryz.prog 55 (f55c k):=ok (cx [f112 k] 5 nb) Tryz.f55 fun h x=>X h
def f55 (k:Nat):Fc Tryz.prog:=⟨55,_,f55ok k⟩
def f241c (k:Nat):Con:=⟨⟨[(0,z4)],[]⟩,⟨[(0,z13)],[]⟩,1,1,fun x=>spec_l8Width k x⟩
theorem f241ok (k:Nat):FnOk Tryz.prog 241 (f241c k):=ok (cx [f80 k] 5 nb) Tryz.f241 fun h x=>X h
def f241 (k:Nat):Fc Tryz.prog:=⟨241,_,f241ok k⟩
def f169s29:SS:=⟨[(0,z8),(2,z4),(3,z4),(11,z9),(13,z4),(15,z4),(21,z4),(22,z4),(23,z4)],[(100,w25)]⟩
def f169s25:SS:=⟨[(0,z8),(2,z4),(3,z4),(11,z9),(13,z4),(15,z4),(21,z4)],[(100,w25)]⟩
def f169s18:SS:=⟨[(0,z8),(2,z4),(3,z4),(11,z9),(13,z4),(15,z4),(16,z4),(20,z4)],[(100,w25)]⟩
def f169s17:SS:=⟨[(0,z8),(2,z4),(3,z4),(11,z9),(13,z4),(15,z4),(16,z4)],[(100,w25)]⟩
def f169s4:SS:=⟨[(0,z8),(1,z4),(2,z4),(3,z4),(11,z9)],[(100,w25)]⟩
def f169c (k:Nat):Con:=⟨⟨[(0,z8),(1,z4),(2,z4),(3,z4)],[]⟩,⟨[(0,z9),(1,z4),(2,z13)],[(100,w25)]⟩,4,3,fun x=>spec_RunRead k x.1 x.2.1 x.2.2.1 x.2.2.2⟩
theorem f169ok (k:Nat):FnOk Tryz.prog 169 (f169c k):=ok (cx [f80 k,f125 k,f241 k,f242 k,f243 k,f244 k,f245 k] 153 nb) Tryz.f169 fun h x=>Q (Q (Q (Q (X h) (B (L f169s4 (fun n x=>spec_RunRead.l4 k n x.1.1 x.1.2.1 x.1.2.2.1 x.1.2.2.2.1 x.2) k fun n4=>Q (B (Q (Q (Q (Q (Q (Q (X h) (Q (B (L f169s25 (fun n x=>spec_RunRead.l25 k (spec_RunRead.l4 k n4) n x.1.1 x.1.2.1 x.1.2.2.1 x.1.2.2.2.2.1 x.1.2.2.2.2.2.1 x.1.2.2.2.2.2.2 x.2) k fun n25=>Q (Q (X h) (B (Q (Q (X h) (Q (B (L f169s29 (fun n x=>spec_RunRead.l29 k (spec_RunRead.l25 k (spec_RunRead.l4 k n4) n25) n x.1.1 x.1.2.1 x.1.2.2.1 x.1.2.2.2.2.1 x.1.2.2.2.2.2.1 x.1.2.2.2.2.2.2.1 x.1.2.2.2.2.2.2.2.1 x.1.2.2.2.2.2.2.2.2 x.2) k fun n29=>X h)) (X h))) (X h)))) (X h))) (X h))) (X h)) (Q (D (Q (Q (T (Q (X h) (Q (B (L f169s18 (fun n x=>spec_RunRead.l18 k (spec_RunRead.l4 k n4) n x.1.1 x.1.2.1 x.1.2.2.1 x.1.2.2.2.2.1 x.1.2.2.2.2.2.1 x.1.2.2.2.2.2.2.1 x.1.2.2.2.2.2.2.2 x.2) k fun n18=>X h)) (X h))) f169s17 fun x=>spec_RunRead.c17 k (spec_RunRead.l4 k n4) x.1.1 x.1.2.1 x.1.2.2.1 x.1.2.2.2.2.1 x.1.2.2.2.2.2.1 x.1.2.2.2.2.2.2 x.2) (X h)) (X h)) (X h)) (X h))) (X h)) (X h)) (X h))) (X h)))) (X h)) (X h)) (X h)
def f169 (k:Nat):Fc Tryz.prog:=⟨169,_,f169ok k⟩
def f170s4:SS:=⟨[(0,z4),(3,z4)],[]⟩
def f170c (k:Nat):Con:=⟨⟨[(0,z4)],[]⟩,⟨[(0,z4)],[]⟩,1,1,fun x=>spec_BitsWidth k x⟩
theorem f170ok (k:Nat):FnOk Tryz.prog 170 (f170c k):=ok (cx [] 15 nb) Tryz.f170 fun h x=>Q (Q (Q (Q (X h) (B (L f170s4 (fun n x=>spec_BitsWidth.l4 k n x.1 x.2) k fun n4=>X h))) (X h)) (X h)) (X h)
def f170 (k:Nat):Fc Tryz.prog:=⟨170,_,f170ok k⟩
def f113s13:SS:=⟨[(3,z4),(11,z9),(12,z4),(13,z4),(15,z30),(18,z4)],[(100,w25),(101,w25)]⟩
def f113c (k:Nat):Con:=⟨⟨[(0,z8),(1,z4),(2,z4),(3,z4)],[]⟩,⟨[(0,z9),(1,z4),(2,z13)],[(100,w25)]⟩,4,3,fun x=>spec_LevelsRead k x.1 x.2.1 x.2.2.1 x.2.2.2⟩
theorem f113ok (k:Nat):FnOk Tryz.prog 113 (f113c k):=ok (cx [f80 k,f125 k,f169 k,f170 k] 93 nb) Tryz.f113 fun h x=>Q (Q (Q (Q (Q (Q (Q (Q (Q (X h) (Q (B (L f113s13 (fun n x=>spec_LevelsRead.l13 k n x.1.1 x.1.2.2.1 x.1.2.2.2.1 x.1.2.2.2.2.2 x.2.1 x.2.2) k fun n13=>X h)) (X h))) (X h)) (X h)) (X h)) (X h)) (X h)) (X h)) (X h)) (X h)
def f113 (k:Nat):Fc Tryz.prog:=⟨113,_,f113ok k⟩
def f114s7:SS:=⟨[(2,z4),(8,z9),(11,z4)],[(100,w25)]⟩
def f114c (k:Nat):Con:=⟨⟨[(0,z8),(1,z4),(2,z4)],[]⟩,⟨[(0,z9),(1,z13)],[(100,w25)]⟩,3,2,fun x=>spec_l16Runs k x.1 x.2.1 x.2.2⟩
theorem f114ok (k:Nat):FnOk Tryz.prog 114 (f114c k):=ok (cx [f169 k,f170 k] 51 nb) Tryz.f114 fun h x=>Q (Q (Q (Q (Q (X h) (Q (B (L f114s7 (fun n x=>spec_l16Runs.l7 k n x.1.1 x.1.2.2 x.2) k fun n7=>X h)) (X h))) (X h)) (X h)) (X h)) (X h)
def f114 (k:Nat):Fc Tryz.prog:=⟨114,_,f114ok k⟩
def f56d9:SS:=⟨[(2,z8),(3,z26),(4,z32),(16,z4),(17,z43),(18,z13)],[(100,w35),(101,w40),(102,w25)]⟩
def f56d8:SS:=⟨[(2,z8),(3,z26),(4,z32),(16,z4)],[(100,w35),(101,w40)]⟩
def f56c (k:Nat):Con:=⟨⟨[(0,z3),(1,(.ro y38)),(2,z8)],[]⟩,⟨[(0,z9),(1,z30),(2,z4),(3,z13)],[(100,w25),(101,w25)]⟩,3,4,fun x=>spec_l16Both k x.1 x.2.1 x.2.2⟩
theorem f56ok (k:Nat):FnOk Tryz.prog 56 (f56c k):=ok (cx [f113 k,f114 k] 106 nb) Tryz.f56 fun h x=>Q (Q (Q (Q (Q (Q (X h) (K h f56d9 (fun x=>spec_l16Both.d9 k x.1.1 x.1.2.2.2.1 x.1.2.2.2.2.2 x.2.1 x.2.2.1 x.2.2.2) [[0,1,3,5,6,7,8,2,4,9,10,11,12,13,14]] (O (fun x=>by kernel_rfl) (N)))) (K h f56d8 (fun x=>spec_l16Both.d8 k x.1.1 x.1.2.2.2 x.2.1 x.2.2) [[0,1,4,5,6,7,2,3,8,9,10,11,12,13]] (O (fun x=>by kernel_rfl) (N)))) (X h)) (X h)) (X h)) (X h)
def f56 (k:Nat):Fc Tryz.prog:=⟨56,_,f56ok k⟩
def f171s6:SS:=⟨[(6,z13)],[]⟩
def f171c (k:Nat):Con:=⟨⟨[(0,z4)],[]⟩,⟨[(0,z4)],[]⟩,1,1,fun x=>spec_SplitWide k x⟩
theorem f171ok (k:Nat):FnOk Tryz.prog 171 (f171c k):=ok (cx [] 9 nb) Tryz.f171 fun h x=>Q (Q (X h) (Q (B (Q (D (X h) (Q (T (X h) f171s6 fun x=>spec_SplitWide.c6 k x) (X h))) (X h))) (X h))) (X h)
def f171 (k:Nat):Fc Tryz.prog:=⟨171,_,f171ok k⟩
def f115s13:SS:=⟨[(1,z4),(8,z4),(24,z13)],[]⟩
def f115s6:SS:=⟨[(1,z4),(8,z4),(9,z13)],[]⟩
def f115c (k:Nat):Con:=⟨⟨[(0,z4),(1,z4)],[]⟩,⟨[(0,z13)],[]⟩,2,1,fun x=>spec_EncOk k x.1 x.2⟩
theorem f115ok (k:Nat):FnOk Tryz.prog 115 (f115c k):=ok (cx [f163 k,f171 k] 34 nb) Tryz.f115 fun h x=>Q (Q (Q (X h) (Q (B (Q (T (D (X h) (Q (D (X h) (Q (D (X h) (Q (T (X h) f115s13 fun x=>spec_EncOk.c13 k x.1 x.2.1 x.2.2) (X h))) (X h))) (X h))) f115s6 fun x=>spec_EncOk.c6 k x.1 x.2.1 x.2.2) (X h))) (X h))) (X h)) (X h)
def f115 (k:Nat):Fc Tryz.prog:=⟨115,_,f115ok k⟩
def f173s3:SS:=⟨[(0,z18),(3,z9),(4,z4)],[(100,w29)]⟩
def f173c (k:Nat):Con:=⟨⟨[(0,z18)],[]⟩,⟨[(0,z9)],[(100,w29)]⟩,1,1,fun x=>spec_l16Vals k x⟩
theorem f173ok (k:Nat):FnOk Tryz.prog 173 (f173c k):=ok (cx [] 21 nb) Tryz.f173 fun h x=>Q (Q (Q (X h) (Q (B (L f173s3 (fun n x=>spec_l16Vals.l3 k n x.1.1 x.1.2.2 x.2) k fun n3=>X h)) (X h))) (X h)) (X h)
def f173 (k:Nat):Fc Tryz.prog:=⟨173,_,f173ok k⟩
def f248s9:SS:=⟨[(0,z8),(1,z4),(2,z4),(3,z4),(11,z9),(12,z4),(13,z4),(14,z4)],[(100,w25)]⟩
def f248s5:SS:=⟨[(0,z8),(1,z4),(2,z4),(3,z4),(11,z9),(12,z4)],[(100,w25)]⟩
def f248c (k:Nat):Con:=⟨⟨[(0,z8),(1,z4),(2,z4),(3,z4)],[]⟩,⟨[(0,z9),(1,z4),(2,z13)],[(100,w25)]⟩,4,3,fun x=>spec_l9Mini k x.1 x.2.1 x.2.2.1 x.2.2.2⟩
theorem f248ok (k:Nat):FnOk Tryz.prog 248 (f248c k):=ok (cx [f245 k] 65 nb) Tryz.f248 fun h x=>Q (Q (Q (Q (X h) (Q (B (L f248s5 (fun n x=>spec_l9Mini.l5 k n x.1.1 x.1.2.1 x.1.2.2.1 x.1.2.2.2.1 x.1.2.2.2.2.2 x.2) k fun n5=>Q (Q (X h) (B (Q (Q (X h) (Q (B (L f248s9 (fun n x=>spec_l9Mini.l9 k (spec_l9Mini.l5 k n5) n x.1.1 x.1.2.1 x.1.2.2.1 x.1.2.2.2.1 x.1.2.2.2.2.2.1 x.1.2.2.2.2.2.2.1 x.1.2.2.2.2.2.2.2 x.2) k fun n9=>X h)) (X h))) (X h)))) (X h))) (X h))) (X h)) (X h)) (X h)
def f248 (k:Nat):Fc Tryz.prog:=⟨248,_,f248ok k⟩
def f174d28:SS:=⟨[(0,z8),(1,z4),(7,z9),(8,z4),(10,z4),(12,z4),(16,z30),(17,z4),(18,z4),(20,z4),(21,z43),(24,z4)],[(100,w25),(101,w25),(102,w25)]⟩
def f174s26:SS:=⟨[(0,z8),(1,z4),(7,z9),(8,z4),(10,z4),(12,z4),(16,z30),(17,z4),(18,z4),(20,z4),(21,z43),(24,z4)],[(100,w25),(101,w25),(102,w25)]⟩
def f174s19:SS:=⟨[(0,z8),(1,z4),(7,z9),(8,z4),(10,z4),(12,z4),(16,z30),(17,z4),(18,z4),(20,z4)],[(100,w25),(101,w25)]⟩
def f174s13:SS:=⟨[(0,z8),(1,z4),(7,z9),(8,z4),(10,z4),(12,z4),(16,z30)],[(100,w25),(101,w25)]⟩
def f174c (k:Nat):Con:=⟨⟨[(0,z8),(1,z4)],[]⟩,⟨[(0,z9),(1,z4),(2,z13)],[(100,w25)]⟩,2,3,fun x=>spec_DeltaRead k x.1 x.2⟩
theorem f174ok (k:Nat):FnOk Tryz.prog 174 (f174c k):=ok (cx [f80 k,f233 k,f242 k,f248 k] 203 nb) Tryz.f174 fun h x=>Q (Q (Q (Q (Q (Q (Q (Q (Q (Q (Q (X h) (B (L f174s13 (fun n x=>spec_DeltaRead.l13 k n x.1.1 x.1.2.1 x.1.2.2.2.1 x.1.2.2.2.2.1 x.1.2.2.2.2.2.1 x.2.1 x.2.2) k fun n13=>Q (B (Q (Q (Q (Q (B (L f174s19 (fun n x=>spec_DeltaRead.l19 k (spec_DeltaRead.l13 k n13) n x.1.1 x.1.2.1 x.1.2.2.2.1 x.1.2.2.2.2.1 x.1.2.2.2.2.2.1 x.1.2.2.2.2.2.2.2.1 x.1.2.2.2.2.2.2.2.2.1 x.1.2.2.2.2.2.2.2.2.2 x.2.1 x.2.2) k fun n19=>Q (Q (X h) (B (Q (Q (Q (Q (B (L f174s26 (fun n x=>spec_DeltaRead.l26 k (spec_DeltaRead.l19 k (spec_DeltaRead.l13 k n13) n19) n x.1.1 x.1.2.1 x.1.2.2.2.1 x.1.2.2.2.2.1 x.1.2.2.2.2.2.1 x.1.2.2.2.2.2.2.2.1 x.1.2.2.2.2.2.2.2.2.1 x.1.2.2.2.2.2.2.2.2.2.1 x.1.2.2.2.2.2.2.2.2.2.2.2 x.2.1 x.2.2.1 x.2.2.2) k fun n26=>Q (Q (X h) (B (K h f174d28 (fun x=>spec_DeltaRead.d28 k (spec_DeltaRead.l26 k (spec_DeltaRead.l19 k (spec_DeltaRead.l13 k n13) n19) n26) x.1.1 x.1.2.1 x.1.2.2.2.1 x.1.2.2.2.2.1 x.1.2.2.2.2.2.1 x.1.2.2.2.2.2.2.2.1 x.1.2.2.2.2.2.2.2.2.1 x.1.2.2.2.2.2.2.2.2.2.1 x.1.2.2.2.2.2.2.2.2.2.2.2 x.2.1 x.2.2.1 x.2.2.2) [[0,1,2,3,4,5,7,8,9,12,6,10,11,13,14,15,16],[0,1,2,3,4,5,7,8,9,12,10,6,11,13,14,15,16]] (O (fun x=>by kernel_rfl) (O (fun x=>by kernel_rfl) (N)))))) (X h))) (X h)) (X h)) (X h)) (X h)))) (X h))) (X h)) (X h)) (X h)) (X h))) (X h)))) (X h)) (X h)) (X h)) (X h)) (X h)) (X h)) (X h)) (X h)) (X h)) (X h)
def f174 (k:Nat):Fc Tryz.prog:=⟨174,_,f174ok k⟩
def f175s7:SS:=⟨[(0,z8),(1,z4),(7,z9),(8,z30),(10,z43),(11,z4)],[(100,w29),(101,w25),(102,w29)]⟩
def f175c (k:Nat):Con:=⟨⟨[(0,z8),(1,z4)],[]⟩,⟨[(0,z9),(1,z4),(2,z13)],[(100,w29)]⟩,2,3,fun x=>spec_LengthRead k x.1 x.2⟩
theorem f175ok (k:Nat):FnOk Tryz.prog 175 (f175c k):=ok (cx [f80 k,f174 k] 70 nb) Tryz.f175 fun h x=>Q (Q (Q (Q (Q (Q (X h) (Q (B (L f175s7 (fun n x=>spec_LengthRead.l7 k n x.1.1 x.1.2.1 x.1.2.2.2.2.2 x.2.1 x.2.2.1 x.2.2.2) k fun n7=>X h)) (X h))) (X h)) (X h)) (X h)) (X h)) (X h)
def f175 (k:Nat):Fc Tryz.prog:=⟨175,_,f175ok k⟩
def f176s9:SS:=⟨[(7,z9),(8,z30),(10,z43),(11,z4),(13,z41),(14,z16),(15,z4)],[(100,w29),(101,w25),(102,w29),(103,w29)]⟩
def f176c (k:Nat):Con:=⟨⟨[(0,z8),(1,z4)],[]⟩,⟨[(0,z9),(1,z4),(2,z13)],[(100,w29)]⟩,2,3,fun x=>spec_FrontRead k x.1 x.2⟩
theorem f176ok (k:Nat):FnOk Tryz.prog 176 (f176c k):=ok (cx [f80 k,f174 k,f175 k] 84 nb) Tryz.f176 fun h x=>Q (Q (Q (Q (Q (Q (Q (Q (X h) (Q (B (L f176s9 (fun n x=>spec_FrontRead.l9 k n x.1.2.2.2.1 x.1.2.2.2.2.2.1 x.1.2.2.2.2.2.2 x.2.1 x.2.2.1 x.2.2.2.1 x.2.2.2.2) k fun n9=>X h)) (X h))) (X h)) (X h)) (X h)) (X h)) (X h)) (X h)) (X h)
def f176 (k:Nat):Fc Tryz.prog:=⟨176,_,f176ok k⟩
def f177s15:SS:=⟨[(1,z8),(2,z4),(3,z4),(11,z4),(12,z9),(13,z4),(14,z4)],[(100,w29)]⟩
def f177s10:SS:=⟨[(1,z8),(2,z4),(3,z4),(11,z4),(12,z9),(13,z4),(14,z4),(15,z4)],[(100,w29)]⟩
def f177s6:SS:=⟨[(1,z8),(2,z4),(3,z4),(11,z4),(12,z9),(13,z4)],[(100,w29)]⟩
def f177c (k:Nat):Con:=⟨⟨[(0,z4),(1,z8),(2,z4),(3,z4)],[]⟩,⟨[(0,z9),(1,z4),(2,z13)],[(100,w29)]⟩,4,3,fun x=>spec_SplitRead k x.1 x.2.1 x.2.2.1 x.2.2.2⟩
theorem f177ok (k:Nat):FnOk Tryz.prog 177 (f177c k):=ok (cx [f80 k,f171 k] 89 nb) Tryz.f177 fun h x=>Q (Q (Q (Q (Q (X h) (Q (B (L f177s6 (fun n x=>spec_SplitRead.l6 k n x.1.1 x.1.2.1 x.1.2.2.1 x.1.2.2.2.1 x.1.2.2.2.2.2 x.2) k fun n6=>Q (Q (X h) (B (Q (Q (Q (T (X h) f177s15 fun x=>spec_SplitRead.c15 k (spec_SplitRead.l6 k n6) x.1.1 x.1.2.1 x.1.2.2.1 x.1.2.2.2.1 x.1.2.2.2.2.2.1 x.1.2.2.2.2.2.2 x.2) (X h)) (Q (B (L f177s10 (fun n x=>spec_SplitRead.l10 k (spec_SplitRead.l6 k n6) n x.1.1 x.1.2.1 x.1.2.2.1 x.1.2.2.2.1 x.1.2.2.2.2.2.1 x.1.2.2.2.2.2.2.1 x.1.2.2.2.2.2.2.2 x.2) k fun n10=>X h)) (X h))) (X h)))) (X h))) (X h))) (X h)) (X h)) (X h)) (X h)
def f177 (k:Nat):Fc Tryz.prog:=⟨177,_,f177ok k⟩
def f178s8:SS:=⟨[(3,z4),(11,z9),(12,z30),(13,z4),(15,z4)],[(100,w25),(101,w25)]⟩
def f178c (k:Nat):Con:=⟨⟨[(0,z8),(1,z4),(2,z4),(3,z4)],[]⟩,⟨[(0,z9),(1,z4),(2,z13)],[(100,w25)]⟩,4,3,fun x=>spec_PlacesRead k x.1 x.2.1 x.2.2.1 x.2.2.2⟩
theorem f178ok (k:Nat):FnOk Tryz.prog 178 (f178c k):=ok (cx [f169 k] 65 nb) Tryz.f178 fun h x=>Q (Q (Q (Q (Q (Q (X h) (Q (B (L f178s8 (fun n x=>spec_PlacesRead.l8 k n x.1.1 x.1.2.2.2.1 x.1.2.2.2.2 x.2.1 x.2.2) k fun n8=>X h)) (X h))) (X h)) (X h)) (X h)) (X h)) (X h)
def f178 (k:Nat):Fc Tryz.prog:=⟨178,_,f178ok k⟩
def f179s5:SS:=⟨[(0,z31),(1,z18),(6,z9),(7,z4)],[(100,w29)]⟩
def f179c (k:Nat):Con:=⟨⟨[(0,z31),(1,z18)],[]⟩,⟨[(0,z9),(1,z13)],[(100,w29)]⟩,2,2,fun x=>spec_DictAt k x.1 x.2⟩
theorem f179ok (k:Nat):FnOk Tryz.prog 179 (f179c k):=ok (cx [f80 k] 40 nb) Tryz.f179 fun h x=>Q (Q (Q (Q (X h) (Q (B (L f179s5 (fun n x=>spec_DictAt.l5 k n x.1.1 x.1.2.1 x.1.2.2.2 x.2) k fun n5=>X h)) (X h))) (X h)) (X h)) (X h)
def f179 (k:Nat):Fc Tryz.prog:=⟨179,_,f179ok k⟩
def f116c (k:Nat):Con:=⟨⟨[(0,z4),(1,z4),(2,z8),(3,z4),(4,z31)],[]⟩,⟨[(0,z9),(1,z4),(2,z13)],[(100,w29)]⟩,5,3,fun x=>spec_l16Read k x.1 x.2.1 x.2.2.1 x.2.2.2.1 x.2.2.2.2⟩
theorem f116ok (k:Nat):FnOk Tryz.prog 116 (f116c k):=ok (cx [f125 k,f169 k,f172 k,f173 k,f174 k,f175 k,f176 k,f177 k,f178 k,f179 k] 132 nb) Tryz.f116 fun h x=>X h
def f116 (k:Nat):Fc Tryz.prog:=⟨116,_,f116ok k⟩
def f57c (k:Nat):Con:=⟨⟨[(0,z4),(1,z4),(2,z8),(3,z4),(4,z31)],[]⟩,⟨[(0,z9),(1,z13)],[(100,w29)]⟩,5,2,fun x=>spec_EncRead k x.1 x.2.1 x.2.2.1 x.2.2.2.1 x.2.2.2.2⟩
theorem f57ok (k:Nat):FnOk Tryz.prog 57 (f57c k):=ok (cx [f80 k,f115 k,f116 k,f117 k] 59 nb) Tryz.f57 fun h x=>X h
def f57 (k:Nat):Fc Tryz.prog:=⟨57,_,f57ok k⟩
def f10s35:SS:=⟨[(4,z26),(12,z32),(15,z43),(16,z41),(22,(.h 104)),(24,(.h 105)),(25,z4),(26,z4),(27,(.p 106))],[(100,w35),(101,w40),(102,w25),(103,w25),(104,w29),(105,w17),(106,(.box y14 (.agg (.cons z4 (.cons z4 (.cons z27 .nil))))))]⟩
def f10s29:SS:=⟨[(4,z26),(12,z32),(15,z43),(16,z41),(22,(.h 104)),(24,(.h 105)),(25,z4),(26,z4)],[(100,w35),(101,w40),(102,w25),(103,w25),(104,w29),(105,w17)]⟩
def f10s16:SS:=⟨[(3,z31),(4,z26),(11,z30),(12,z34),(14,z8),(15,z41),(16,(.h 104)),(17,z4),(19,z4),(20,z4),(21,z4)],[(100,w35),(101,w17),(102,w40),(103,w25),(104,w25)]⟩
def f10s19:SS:=⟨[(3,z31),(4,z26),(11,z30),(12,z34),(14,z8),(15,z41),(16,(.h 104)),(17,z4),(19,z4),(20,z4),(21,z4)],[(100,w35),(101,w17),(102,w40),(103,w25),(104,w25)]⟩
def f10s15:SS:=⟨[(3,z31),(4,z26),(11,z30),(12,z34),(14,z8),(15,z41),(16,(.h 104)),(17,z4),(19,z4),(20,z4),(21,z4)],[(100,w35),(101,w17),(102,w40),(103,w25),(104,w25)]⟩
def f10d8:SS:=⟨[(3,z31),(4,z26),(11,z30),(12,z34),(14,z8)],[(100,w35),(101,w17),(102,w40)]⟩
def f10c (k:Nat):Con:=⟨⟨[(0,z3),(1,z8),(2,z4),(3,z31)],[]⟩,⟨[(0,z9),(1,z4),(2,z4)],[(100,w17)]⟩,4,3,fun x=>spec_PageRead k x.1 x.2.1 x.2.2.1 x.2.2.2⟩
theorem f10ok (k:Nat):FnOk Tryz.prog 10 (f10c k):=ok (cx [f54 k,f55 k,f56 k,f57 k] 183 nb) Tryz.f10 fun h x=>Q (Q (Q (Q (Q (Q (Q (Q (Q (Q (Q (Q (Q (Q (Q (Q (X h) (Q (B (L f10s29 (fun n x=>spec_PageRead.l29 k n x.1.2.2.2.2.2.2.1 x.1.2.2.2.2.2.2.2 x.2.1 x.2.2.1 x.2.2.2.1 x.2.2.2.2.1 x.2.2.2.2.2.1 x.2.2.2.2.2.2) k fun n29=>Q (Q (X h) (B (Q (Q (T (X h) f10s35 fun x=>spec_PageRead.c35 k (spec_PageRead.l29 k n29) x.1.2.2.2.2.2.2.1 x.1.2.2.2.2.2.2.2.1 x.2.1 x.2.2.1 x.2.2.2.1 x.2.2.2.2.1 x.2.2.2.2.2.1 x.2.2.2.2.2.2.1 x.2.2.2.2.2.2.2) (X h)) (X h)))) (X h))) (X h))) (X h)) (X h)) (X h)) (X h)) (X h)) (Q (B (L f10s15 (fun n x=>spec_PageRead.l15 k n x.1.1 x.1.2.2.2.2.1 x.1.2.2.2.2.2.2.2.1 x.1.2.2.2.2.2.2.2.2.1 x.1.2.2.2.2.2.2.2.2.2.1 x.1.2.2.2.2.2.2.2.2.2.2 x.2.1 x.2.2.1 x.2.2.2.1 x.2.2.2.2.1 x.2.2.2.2.2) k fun n15=>Q (Q (T (X h) f10s16 fun x=>spec_PageRead.c16 k (spec_PageRead.l15 k n15) x.1.1 x.1.2.2.2.2.1 x.1.2.2.2.2.2.2.2.1 x.1.2.2.2.2.2.2.2.2.1 x.1.2.2.2.2.2.2.2.2.2.1 x.1.2.2.2.2.2.2.2.2.2.2 x.2.1 x.2.2.1 x.2.2.2.1 x.2.2.2.2.1 x.2.2.2.2.2) (B (Q (T (X h) f10s19 fun x=>spec_PageRead.c19 k (spec_PageRead.l15 k n15) x.1.1 x.1.2.2.2.2.1 x.1.2.2.2.2.2.2.2.1 x.1.2.2.2.2.2.2.2.2.1 x.1.2.2.2.2.2.2.2.2.2.1 x.1.2.2.2.2.2.2.2.2.2.2 x.2.1 x.2.2.1 x.2.2.2.1 x.2.2.2.2.1 x.2.2.2.2.2) (X h)))) (X h))) (X h))) (X h)) (X h)) (X h)) (Q (X h) (K h f10d8 (fun x=>spec_PageRead.d8 k x.1.1 x.1.2.2.2.2 x.2.1 x.2.2.1 x.2.2.2) [[0,1,2,3,5,4,6,7,8],[0,1,2,3,5,6,4,7,8]] (O (fun x=>by kernel_rfl) (O (fun x=>by kernel_rfl) (N)))))) (X h)) (X h)) (X h)) (X h)) (X h)
def f10 (k:Nat):Fc Tryz.prog:=⟨10,_,f10ok k⟩
def f129d8:SS:=⟨[(0,z4),(9,z9),(10,z32),(12,z8)],[(100,w29),(101,w40)]⟩
def f129c (k:Nat):Con:=⟨⟨[(0,z4),(1,z8),(2,z4)],[]⟩,⟨[(0,z9),(1,z4),(2,z4)],[(100,w29)]⟩,3,3,fun x=>spec_DictRead k x.1 x.2.1 x.2.2⟩
theorem f129ok (k:Nat):FnOk Tryz.prog 129 (f129c k):=ok (cx [f54 k,f55 k,f172 k] 88 nb) Tryz.f129 fun h x=>Q (Q (Q (Q (Q (Q (X h) (Q (X h) (K h f129d8 (fun x=>spec_DictRead.d8 k x.1.1 x.1.2.2.2 x.2.1 x.2.2) [[0,1,2,3,5,4,6,7,8],[0,1,2,3,5,6,4,7,8]] (O (fun x=>by kernel_rfl) (O (fun x=>by kernel_rfl) (N)))))) (X h)) (X h)) (X h)) (X h)) (X h)
def f129 (k:Nat):Fc Tryz.prog:=⟨129,_,f129ok k⟩
def f69s13:SS:=⟨[(1,z8),(3,z26),(5,z32),(9,z43),(10,z41),(11,(.h 104)),(15,(.h 105)),(16,z4),(17,z4)],[(100,w35),(101,w44),(102,w25),(103,w29),(104,w29),(105,w25)]⟩
def f69s10:SS:=⟨[(1,z8),(3,z26),(5,z32),(9,z43),(10,z41),(11,(.h 104))],[(100,w35),(101,w44),(102,w25),(103,w29),(104,w29)]⟩
def f69c (k:Nat):Con:=⟨⟨[(0,z3),(1,z8),(2,z21)],[]⟩,⟨[(0,z9),(1,z30),(2,z4)],[(100,w25),(101,w29)]⟩,3,3,fun x=>spec_ChunkPages k x.1 x.2.1 x.2.2⟩
theorem f69ok (k:Nat):FnOk Tryz.prog 69 (f69c k):=ok (cx [f54 k,f129 k] 102 nb) Tryz.f69 fun h x=>Q (Q (Q (Q (Q (T (Q (Q (Q (Q (X h) (B (L f69s13 (fun n x=>spec_ChunkPages.l13 k n x.1.1 x.1.2.2.2.2.2.2.2.1 x.1.2.2.2.2.2.2.2.2 x.2.1 x.2.2.1 x.2.2.2.1 x.2.2.2.2.1 x.2.2.2.2.2.1 x.2.2.2.2.2.2) k fun n13=>X h))) (X h)) (X h)) (X h)) f69s10 fun x=>spec_ChunkPages.c10 k x.1.1 x.2.1 x.2.2.1 x.2.2.2.1 x.2.2.2.2.1 x.2.2.2.2.2) (X h)) (X h)) (X h)) (X h)) (X h)
def f69 (k:Nat):Fc Tryz.prog:=⟨69,_,f69ok k⟩
def f25s6:SS:=⟨[(1,z8),(3,z26),(8,z30),(9,z43),(11,z41),(12,z4)],[(100,w35),(101,w25),(102,w29),(103,w17)]⟩
def f25c (k:Nat):Con:=⟨⟨[(0,z3),(1,z8),(2,z21)],[]⟩,⟨[(0,z9),(1,z4)],[(100,w17)]⟩,3,2,fun x=>spec_ChunkRead k x.1 x.2.1 x.2.2⟩
theorem f25ok (k:Nat):FnOk Tryz.prog 25 (f25c k):=ok (cx [f10 k,f69 k] 55 nb) Tryz.f25 fun h x=>Q (Q (Q (Q (Q (X h) (Q (B (L f25s6 (fun n x=>spec_ChunkRead.l6 k n x.1.1 x.1.2.2.2.2.2 x.2.1 x.2.2.1 x.2.2.2.1 x.2.2.2.2) k fun n6=>X h)) (X h))) (X h)) (X h)) (X h)) (X h)
def f25 (k:Nat):Fc Tryz.prog:=⟨25,_,f25ok k⟩
def f74s3:SS:=⟨[(0,z18),(3,z9),(4,z4)],[(100,w25)]⟩
def f74c (k:Nat):Con:=⟨⟨[(0,z18)],[]⟩,⟨[(0,z9)],[(100,w25)]⟩,1,1,fun x=>laws_toIntS k x⟩
theorem f74ok (k:Nat):FnOk Tryz.prog 74 (f74c k):=ok (cx [] 22 nb) Tryz.f74 fun h x=>Q (Q (Q (X h) (Q (B (L f74s3 (fun n x=>laws_toIntS.l3 k n x.1.1 x.1.2.2 x.2) k fun n3=>X h)) (X h))) (X h)) (X h)
def f74 (k:Nat):Fc Tryz.prog:=⟨74,_,f74ok k⟩
def f26c (k:Nat):Con:=⟨⟨[(0,z21)],[]⟩,⟨[(0,(.agg (.cons z4 (.cons z4 (.cons z4 (.cons z4 (.cons z4 (.cons z9 .nil))))))))],[(100,w25)]⟩,1,1,fun x=>laws_toChunk k x⟩
theorem f26ok (k:Nat):FnOk Tryz.prog 26 (f26c k):=ok (cx [f74 k] 24 nb) Tryz.f26 fun h x=>X h
def f26 (k:Nat):Fc Tryz.prog:=⟨26,_,f26ok k⟩
def f85c (k:Nat):Con:=⟨⟨[(0,z4),(1,z4),(2,z4)],[]⟩,⟨[(0,z13)],[]⟩,3,1,fun x=>impl_within k x.1 x.2.1 x.2.2⟩
theorem f85ok (k:Nat):FnOk Tryz.prog 85 (f85c k):=ok (cx [] 15 nb) Tryz.f85 fun h x=>X h
def f85 (k:Nat):Fc Tryz.prog:=⟨85,_,f85ok k⟩
def f262c (k:Nat):Con:=⟨⟨[(0,z4)],[]⟩,⟨[(0,z4)],[]⟩,1,1,fun x=>impl_Zag k x⟩
theorem f262ok (k:Nat):FnOk Tryz.prog 262 (f262c k):=ok (cx [] 11 nb) Tryz.f262 fun h x=>X h
def f262 (k:Nat):Fc Tryz.prog:=⟨262,_,f262ok k⟩
def f267c (k:Nat):Con:=⟨⟨[(0,z4)],[]⟩,⟨[(0,z13)],[]⟩,1,1,fun x=>impl_isInt32 k x⟩
theorem f267ok (k:Nat):FnOk Tryz.prog 267 (f267c k):=ok (cx [f85 k] 5 nb) Tryz.f267 fun h x=>X h
def f267 (k:Nat):Fc Tryz.prog:=⟨267,_,f267ok k⟩
def f299c (k:Nat):Con:=⟨⟨[(0,z45),(1,z4)],[(0,w47),(10,w23)]⟩,⟨[],[(0,w47),(10,w23)]⟩,2,0,fun x=>impl_treeReader_fail k x.1.2 x.2.1 x.2.2⟩
theorem f299ok (k:Nat):FnOk Tryz.prog 299 (f299c k):=ok (cx [] 13 nb) Tryz.f299 fun h x=>X h
def f299 (k:Nat):Fc Tryz.prog:=⟨299,_,f299ok k⟩
def f297s3:SS:=⟨[(0,z45),(4,z26)],[(0,w47),(10,w23),(100,w49)]⟩
def f297c (k:Nat):Con:=⟨⟨[(0,z45),(1,(.ro y22)),(2,z4)],[(0,w47),(10,w23)]⟩,⟨[(0,z4)],[(0,w50),(100,w23)]⟩,3,1,fun x=>impl_treeReader_begin k x.1.2.1 x.1.2.2 x.2.1 x.2.2⟩
theorem f297ok (k:Nat):FnOk Tryz.prog 297 (f297c k):=ok (cx [f299 k] 40 nb) Tryz.f297 fun h x=>Q (Q (T (X h) f297s3 fun x=>impl_treeReader_begin.c3 k x.2.1 x.2.2.1 x.2.2.2) (X h)) (X h)
def f297 (k:Nat):Fc Tryz.prog:=⟨297,_,f297ok k⟩
def f255s12:SS:=⟨[],[]⟩
def f255s5:SS:=⟨[(0,z8),(1,z4),(7,z51),(8,z4)],[]⟩
def f255c (k:Nat):Con:=⟨⟨[(0,z8),(1,z4)],[]⟩,⟨[(0,z4),(1,z4),(2,z13)],[]⟩,2,3,fun x=>impl_UvarGet k x.1 x.2⟩
theorem f255ok (k:Nat):FnOk Tryz.prog 255 (f255c k):=ok (cx [] 52 nb) Tryz.f255 fun h x=>Q (Q (Q (Q (T (X h) f255s12 fun x=>impl_UvarGet.c12 k) (Q (B (L f255s5 (fun n x=>impl_UvarGet.l5 k n x.1 x.2.1 x.2.2.1 x.2.2.2) k fun n5=>X h)) (X h))) (X h)) (X h)) (X h)
def f255 (k:Nat):Fc Tryz.prog:=⟨255,_,f255ok k⟩
def f298c (k:Nat):Con:=⟨⟨[(0,z45)],[(0,w47),(10,w23)]⟩,⟨[(0,z4)],[(0,w47),(10,w23)]⟩,1,1,fun x=>impl_treeReader_uvar k x.2.1 x.2.2⟩
theorem f298ok (k:Nat):FnOk Tryz.prog 298 (f298c k):=ok (cx [f255 k,f299 k] 35 nb) Tryz.f298 fun h x=>X h
def f298 (k:Nat):Fc Tryz.prog:=⟨298,_,f298ok k⟩
def f300s6:SS:=⟨[(0,z45),(3,z4)],[(0,w47),(10,w23)]⟩
def f300s4:SS:=⟨[(0,z45),(3,z4)],[(0,w47),(10,w23)]⟩
def f300c (k:Nat):Con:=⟨⟨[(0,z45)],[(0,w47),(10,w23)]⟩,⟨[(0,z16)],[(0,w47),(10,w23)]⟩,1,1,fun x=>impl_treeReader_text k x.2.1 x.2.2⟩
theorem f300ok (k:Nat):FnOk Tryz.prog 300 (f300c k):=ok (cx [f85 k,f298 k,f299 k] 68 nb) Tryz.f300 fun h x=>Q (Q (Q (T (Q (T (X h) f300s6 fun x=>impl_treeReader_text.c6 k x.1.2 x.2.1 x.2.2) (X h)) f300s4 fun x=>impl_treeReader_text.c4 k x.1.2 x.2.1 x.2.2) (X h)) (X h)) (X h)
def f300 (k:Nat):Fc Tryz.prog:=⟨300,_,f300ok k⟩
def f323c (k:Nat):Con:=⟨⟨[(0,z45)],[(0,w47),(10,w23)]⟩,⟨[(0,z4)],[(0,w47),(10,w23)]⟩,1,1,fun x=>impl_treeReader_one k x.2.1 x.2.2⟩
theorem f323ok (k:Nat):FnOk Tryz.prog 323 (f323c k):=ok (cx [f299 k] 41 nb) Tryz.f323 fun h x=>X h
def f323 (k:Nat):Fc Tryz.prog:=⟨323,_,f323ok k⟩
def f324s10:SS:=⟨[(11,z13)],[]⟩
def f324s4:SS:=⟨[(1,z13),(5,z4),(6,z13)],[]⟩
def f324c (k:Nat):Con:=⟨⟨[(0,z4),(1,z13)],[]⟩,⟨[(0,z13)],[]⟩,2,1,fun x=>impl_isType k x.1 x.2⟩
theorem f324ok (k:Nat):FnOk Tryz.prog 324 (f324c k):=ok (cx [] 17 nb) Tryz.f324 fun h x=>Q (Q (X h) (Q (B (Q (T (D (X h) (Q (T (X h) f324s10 fun x=>impl_isType.c10 k x) (X h))) f324s4 fun x=>impl_isType.c4 k x.1 x.2.1 x.2.2) (X h))) (X h))) (X h)
def f324 (k:Nat):Fc Tryz.prog:=⟨324,_,f324ok k⟩
def f249s8:SS:=⟨[(0,z45),(8,z4),(9,z4)],[(0,w50),(100,w23)]⟩
def f249d10:SS:=⟨[(0,z45),(8,z4)],[(0,w50),(100,w23)]⟩
def f249s5:SS:=⟨[(0,z45),(1,z4),(3,z4),(8,z4),(21,z4),(22,z13)],[(0,w50),(100,w23)]⟩
def f249con (F:Int→Int→Int→TTreeReaderB→(List TNode)→Option (Unit×TTreeReaderB×(List TNode))):Con:=⟨⟨[(0,z45),(1,z4),(2,z4),(3,z4)],[(0,w47),(10,w23)]⟩,⟨[],[(0,w50),(100,w23)]⟩,4,0,fun x=>F x.1.2.1 x.1.2.2.1 x.1.2.2.2 x.2.1 x.2.2⟩
def f301s11:SS:=⟨[(0,z45),(2,z4),(7,z4),(8,z4),(9,z4)],[(0,w50),(100,w23)]⟩
def f301s9:SS:=⟨[(0,z45),(1,z4),(2,z4),(7,z4),(8,z4)],[(0,w47),(10,w23)]⟩
def f301s7:SS:=⟨[(0,z45),(1,z4),(2,z4),(7,z4),(8,z4)],[(0,w47),(10,w23)]⟩
def f301s4:SS:=⟨[(0,z45),(1,z4),(2,z4),(7,z4),(8,z4)],[(0,w47),(10,w23)]⟩
def f301con (F:Int→Int→TTreeReaderB→(List TNode)→Option (Unit×TTreeReaderB×(List TNode))):Con:=⟨⟨[(0,z45),(1,z4),(2,z4)],[(0,w47),(10,w23)]⟩,⟨[],[(0,w50),(100,w23)]⟩,3,0,fun x=>F x.1.2.1 x.1.2.2 x.2.1 x.2.2⟩
def f302s12:SS:=⟨[(0,z45),(1,z4),(2,z4),(8,z4),(9,z4)],[(0,w50),(100,w23)]⟩
def f302s10:SS:=⟨[(0,z45),(1,z4),(2,z4),(6,z4),(8,z4),(9,z4)],[(0,w50),(100,w23)]⟩
def f302s8:SS:=⟨[(0,z45),(1,z4),(2,z4),(6,z4),(8,z4),(9,z4)],[(0,w50),(100,w23)]⟩
def f302s6:SS:=⟨[(0,z45),(1,z4),(2,z4),(6,z4),(7,z4),(8,z4),(9,z4)],[(0,w50),(100,w23)]⟩
def f302s1:SS:=⟨[(0,z45),(1,z4),(2,z4),(6,z4)],[(0,w50),(100,w23)]⟩
def f302con (F:Int→Int→TTreeReaderB→(List TNode)→Option (Unit×TTreeReaderB×(List TNode))):Con:=⟨⟨[(0,z45),(1,z4),(2,z4)],[(0,w47),(10,w23)]⟩,⟨[],[(0,w50),(100,w23)]⟩,3,0,fun x=>F x.1.2.1 x.1.2.2 x.2.1 x.2.2⟩
theorem f249okb (k:Nat) (S249:Int→Int→Int→TTreeReaderB→(List TNode)→Option (Unit×TTreeReaderB×(List TNode))) (S301:Int→Int→TTreeReaderB→(List TNode)→Option (Unit×TTreeReaderB×(List TNode))) (S302:Int→Int→TTreeReaderB→(List TNode)→Option (Unit×TTreeReaderB×(List TNode))) (h249:FnOk Tryz.prog 249 (f249con S249)) (h301:FnOk Tryz.prog 301 (f301con S301)) (h302:FnOk Tryz.prog 302 (f302con S302)):FnOk Tryz.prog 249 (f249con (impl_treeReader_node.b k S249 S301 S302)):=ok (cx [f262 k,f267 k,f297 k,f298 k,f299 k,f300 k,⟨301,_,h301⟩,⟨302,_,h302⟩] 75 nb) Tryz.f249 fun h x=>Q (Q (Q (B (Q (T (D (Q (Q (T (X h) f249s8 fun x=>impl_treeReader_node.c8 k x.1.2.1 x.1.2.2 x.2.1 x.2.2) (X h)) (X h)) (Q (D (K h f249d10 (fun x=>impl_treeReader_node.d10 k x.1.2 x.2.1 x.2.2) [[0,1,2,4,5,3,6,7,8,9],[0,1,2,4,5,6,3,7,8,9]] (O (fun x=>by kernel_rfl) (O (fun x=>by kernel_rfl) (N)))) (X h)) (X h))) f249s5 fun x=>impl_treeReader_node.c5 k S301 S302 x.1.2.1 x.1.2.2.1 x.1.2.2.2.1 x.1.2.2.2.2.1 x.1.2.2.2.2.2 x.2.1 x.2.2) (X h))) (X h)) (X h)) (X h)
theorem f301okb (k:Nat) (S249:Int→Int→Int→TTreeReaderB→(List TNode)→Option (Unit×TTreeReaderB×(List TNode))) (S301:Int→Int→TTreeReaderB→(List TNode)→Option (Unit×TTreeReaderB×(List TNode))) (S302:Int→Int→TTreeReaderB→(List TNode)→Option (Unit×TTreeReaderB×(List TNode))) (h249:FnOk Tryz.prog 249 (f249con S249)) (h301:FnOk Tryz.prog 301 (f301con S301)) (h302:FnOk Tryz.prog 302 (f302con S302)):FnOk Tryz.prog 301 (f301con (impl_treeReader_parts.b k S249 S301 S302)):=ok (cx [f85 k,⟨249,_,h249⟩,f298 k,f299 k,f323 k,f324 k] 72 nb) Tryz.f301 fun h x=>Q (Q (Q (T (Q (Q (T (Q (T (Q (Q (B (L f301s11 (fun n x=>impl_treeReader_parts.l11 k S249 n x.1.2.1 x.1.2.2.1 x.1.2.2.2.1 x.1.2.2.2.2 x.2.1 x.2.2) k fun n11=>X h)) (X h)) (X h)) f301s9 fun x=>impl_treeReader_parts.c9 k S249 x.1.2.1 x.1.2.2.1 x.1.2.2.2.1 x.1.2.2.2.2 x.2.1 x.2.2) (X h)) f301s7 fun x=>impl_treeReader_parts.c7 k S249 x.1.2.1 x.1.2.2.1 x.1.2.2.2.1 x.1.2.2.2.2 x.2.1 x.2.2) (X h)) (X h)) f301s4 fun x=>impl_treeReader_parts.c4 k S249 x.1.2.1 x.1.2.2.1 x.1.2.2.2.1 x.1.2.2.2.2 x.2.1 x.2.2) (X h)) (X h)) (X h)
theorem f302okb (k:Nat) (S249:Int→Int→Int→TTreeReaderB→(List TNode)→Option (Unit×TTreeReaderB×(List TNode))) (S301:Int→Int→TTreeReaderB→(List TNode)→Option (Unit×TTreeReaderB×(List TNode))) (S302:Int→Int→TTreeReaderB→(List TNode)→Option (Unit×TTreeReaderB×(List TNode))) (h249:FnOk Tryz.prog 249 (f249con S249)) (h301:FnOk Tryz.prog 301 (f301con S301)) (h302:FnOk Tryz.prog 302 (f302con S302)):FnOk Tryz.prog 302 (f302con (impl_treeReader_fields.b k S249 S301 S302)):=ok (cx [f85 k,⟨249,_,h249⟩,f262 k,f298 k,f299 k,f323 k,f324 k] 84 nb) Tryz.f302 fun h x=>Q (B (L f302s1 (fun n x=>impl_treeReader_fields.l1 k S249 n x.1.2.1 x.1.2.2.1 x.1.2.2.2 x.2.1 x.2.2) k fun n1=>B (Q (Q (Q (Q (T (Q (T (Q (T (Q (T (X h) f302s12 fun x=>impl_treeReader_fields.c12 k S249 (impl_treeReader_fields.l1 k S249 n1) x.1.2.1 x.1.2.2.1 x.1.2.2.2.1 x.1.2.2.2.2 x.2.1 x.2.2) (X h)) f302s10 fun x=>impl_treeReader_fields.c10 k S249 (impl_treeReader_fields.l1 k S249 n1) x.1.2.1 x.1.2.2.1 x.1.2.2.2.1 x.1.2.2.2.2.1 x.1.2.2.2.2.2 x.2.1 x.2.2) (X h)) f302s8 fun x=>impl_treeReader_fields.c8 k S249 (impl_treeReader_fields.l1 k S249 n1) x.1.2.1 x.1.2.2.1 x.1.2.2.2.1 x.1.2.2.2.2.1 x.1.2.2.2.2.2 x.2.1 x.2.2) (X h)) f302s6 fun x=>impl_treeReader_fields.c6 k S249 (impl_treeReader_fields.l1 k S249 n1) x.1.2.1 x.1.2.2.1 x.1.2.2.2.1 x.1.2.2.2.2.1 x.1.2.2.2.2.2.1 x.1.2.2.2.2.2.2 x.2.1 x.2.2) (X h)) (X h)) (X h)) (X h)))) (X h)
theorem f249rec (k:Nat):∀d,FnOk Tryz.prog 249 (f249con (impl_treeReader_node.d k d))∧FnOk Tryz.prog 301 (f301con (impl_treeReader_parts.d k d))∧FnOk Tryz.prog 302 (f302con (impl_treeReader_fields.d k d))
 |0=>⟨FnOk_none (fun _=>rfl),FnOk_none (fun _=>rfl),FnOk_none (fun _=>rfl)⟩
 |d+1=>let ih:=f249rec k d
  ⟨f249okb k (impl_treeReader_node.d k d) (impl_treeReader_parts.d k d) (impl_treeReader_fields.d k d) ih.1 ih.2.1 ih.2.2,f301okb k (impl_treeReader_node.d k d) (impl_treeReader_parts.d k d) (impl_treeReader_fields.d k d) ih.1 ih.2.1 ih.2.2,f302okb k (impl_treeReader_node.d k d) (impl_treeReader_parts.d k d) (impl_treeReader_fields.d k d) ih.1 ih.2.1 ih.2.2⟩
theorem f249ok (k:Nat):FnOk Tryz.prog 249 (f249con (impl_treeReader_node k)):=(f249rec k k).1
def f249 (k:Nat):Fc Tryz.prog:=⟨249,_,f249ok k⟩
theorem f301ok (k:Nat):FnOk Tryz.prog 301 (f301con (impl_treeReader_parts k)):=(f249rec k k).2.1
def f301 (k:Nat):Fc Tryz.prog:=⟨301,_,f301ok k⟩
theorem f302ok (k:Nat):FnOk Tryz.prog 302 (f302con (impl_treeReader_fields k)):=(f249rec k k).2.2
def f302 (k:Nat):Fc Tryz.prog:=⟨302,_,f302ok k⟩
def f181c (k:Nat):Con:=⟨⟨[(0,z8),(1,z4)],[]⟩,⟨[(0,z9),(1,z4),(2,z4)],[(100,w23)]⟩,2,3,fun x=>impl_TreeRead k x.1 x.2⟩
theorem f181ok (k:Nat):FnOk Tryz.prog 181 (f181c k):=ok (cx [f85 k,f249 k] 37 nb) Tryz.f181 fun h x=>X h
def f181 (k:Nat):Fc Tryz.prog:=⟨181,_,f181ok k⟩
def f303c (k:Nat):Con:=⟨⟨[(0,(.ro y22))],[]⟩,⟨[(0,z13)],[]⟩,1,1,fun x=>impl_nodeOk k x⟩
theorem f303ok (k:Nat):FnOk Tryz.prog 303 (f303c k):=ok (cx [f267 k,f324 k] 109 nb) Tryz.f303 fun h x=>X h
def f303 (k:Nat):Fc Tryz.prog:=⟨303,_,f303ok k⟩
def f250s7:SS:=⟨[(0,z45),(1,z4),(2,z4),(7,z26),(8,z4),(9,z4),(43,z4),(44,z4)],[(0,w54),(10,w25),(100,w49)]⟩
def f250con (F:Int→Int→(Bool×TTreeB)→(List Int)→Option (Int×TTreeB×(List Int))):Con:=⟨⟨[(0,z45),(1,z4),(2,z4)],[(0,w55),(10,w25)]⟩,⟨[(0,z4)],[(0,w54),(10,w25)]⟩,3,1,fun x=>F x.1.2.1 x.1.2.2 x.2.1 x.2.2⟩
theorem f250okb (k:Nat) (S250:Int→Int→(Bool×TTreeB)→(List Int)→Option (Int×TTreeB×(List Int))) (h250:FnOk Tryz.prog 250 (f250con S250)):FnOk Tryz.prog 250 (f250con (impl_tree_measure.b k S250)):=ok (cx [f85 k,⟨250,_,h250⟩,f303 k] 104 nb) Tryz.f250 fun h x=>Q (Q (Q (Q (Q (Q (X h) (Q (B (L f250s7 (fun n x=>impl_tree_measure.l7 k S250 n x.1.2.1 x.1.2.2.1 x.1.2.2.2.2.1 x.1.2.2.2.2.2.1 x.1.2.2.2.2.2.2.1 x.1.2.2.2.2.2.2.2 x.2.1 x.2.2.1 x.2.2.2) k fun n7=>X h)) (X h))) (X h)) (X h)) (X h)) (X h)) (X h)
theorem f250rec (k:Nat):∀d,FnOk Tryz.prog 250 (f250con (impl_tree_measure.d k d))
 |0=>FnOk_none (fun _=>rfl)
 |d+1=>let ih:=f250rec k d
  f250okb k (impl_tree_measure.d k d) ih
theorem f250ok (k:Nat):FnOk Tryz.prog 250 (f250con (impl_tree_measure k)):=(f250rec k k)
def f250 (k:Nat):Fc Tryz.prog:=⟨250,_,f250ok k⟩
def f182c (k:Nat):Con:=⟨⟨[(0,z24)],[]⟩,⟨[(0,z26),(1,z13)],[(100,(.obox y52 (.agg (.cons z24 (.cons z30 .nil))))),(101,w25)]⟩,1,2,fun x=>impl_treeOf k x⟩
theorem f182ok (k:Nat):FnOk Tryz.prog 182 (f182c k):=ok (cx [f85 k,f250 k] 35 (fun s=>Nat.beq s 27)) Tryz.f182 fun h x=>X h
def f182 (k:Nat):Fc Tryz.prog:=⟨182,_,f182ok k⟩
def f193c (k:Nat):Con:=⟨⟨[(0,z4)],[]⟩,⟨[(0,z13)],[]⟩,1,1,fun x=>impl_TypeOk k x⟩
theorem f193ok (k:Nat):FnOk Tryz.prog 193 (f193c k):=ok (cx [f85 k] 13 nb) Tryz.f193 fun h x=>X h
def f193 (k:Nat):Fc Tryz.prog:=⟨193,_,f193ok k⟩
def f183c (k:Nat):Con:=⟨⟨[(0,z3)],[]⟩,⟨[(0,z13)],[]⟩,1,1,fun x=>impl_LeafOk k x⟩
theorem f183ok (k:Nat):FnOk Tryz.prog 183 (f183c k):=ok (cx [f85 k,f193 k] 18 nb) Tryz.f183 fun h x=>X h
def f183 (k:Nat):Fc Tryz.prog:=⟨183,_,f183ok k⟩
def f187s5:SS:=⟨[(0,z45),(2,z4),(7,z4),(37,z4),(38,z4)],[(0,w54),(10,w25)]⟩
def f187c (k:Nat):Con:=⟨⟨[(0,z45),(1,z4),(2,z4)],[(0,w55),(10,w25)]⟩,⟨[(0,z4)],[(0,w54),(10,w25)]⟩,3,1,fun x=>impl_tree_find k x.1.2.1 x.1.2.2 x.2.1 x.2.2⟩
theorem f187ok (k:Nat):FnOk Tryz.prog 187 (f187c k):=ok (cx [f85 k] 59 nb) Tryz.f187 fun h x=>Q (Q (Q (Q (X h) (Q (B (L f187s5 (fun n x=>impl_tree_find.l5 k n x.1.2.1 x.1.2.2.1 x.1.2.2.2.1 x.1.2.2.2.2 x.2.1 x.2.2) k fun n5=>X h)) (X h))) (X h)) (X h)) (X h)
def f187 (k:Nat):Fc Tryz.prog:=⟨187,_,f187ok k⟩
def f186c (k:Nat):Con:=⟨⟨[(0,z45),(1,z4),(2,z4),(3,z4)],[(0,w55),(10,w25)]⟩,⟨[(0,z48),(1,z13)],[(0,w54),(10,w25)]⟩,4,2,fun x=>impl_tree_part k x.1.2.1 x.1.2.2.1 x.1.2.2.2 x.2.1 x.2.2⟩
theorem f186ok (k:Nat):FnOk Tryz.prog 186 (f186c k):=ok (cx [f187 k] 37 nb) Tryz.f186 fun h x=>X h
def f186 (k:Nat):Fc Tryz.prog:=⟨186,_,f186ok k⟩
def f251c (k:Nat):Con:=⟨⟨[(0,z45),(1,z4),(2,z4)],[(0,w55),(10,w25)]⟩,⟨[(0,z4),(1,z13)],[(0,w54),(10,w25)]⟩,3,2,fun x=>impl_tree_num k x.1.2.1 x.1.2.2 x.2.1 x.2.2⟩
theorem f251ok (k:Nat):FnOk Tryz.prog 251 (f251c k):=ok (cx [f187 k] 45 nb) Tryz.f251 fun h x=>X h
def f251 (k:Nat):Fc Tryz.prog:=⟨251,_,f251ok k⟩
def f184i1s4:SS:=⟨[(5,z4)],[(0,w58),(10,w60),(11,w25)]⟩
def f184i1c (k:Nat):Con:=⟨⟨[(0,z45),(1,z4)],[(0,w58),(10,(.obox y52 z59)),(11,w25)]⟩,⟨[(0,z4)],[(0,w58),(10,w60),(11,w25)]⟩,2,1,fun x=>impl_headReader_any k x.1.2 x.2.1 x.2.2.1 x.2.2.2⟩
theorem f184i1ok (k:Nat):FnOk Tryz.prog 184 (f184i1c k):=ok (cx [f251 k] 26 nb) Tryz.f184 fun h x=>Q (Q (Q (T (X h) f184i1s4 fun x=>impl_headReader_any.c4 k x.1 x.2.1 x.2.2.1 x.2.2.2) (X h)) (X h)) (X h)
def f184i1 (k:Nat):Fc Tryz.prog:=⟨184,_,f184i1ok k⟩
def f185i2s4:SS:=⟨[(7,z4)],[(0,w58),(10,w60),(11,w25)]⟩
def f185i2c (k:Nat):Con:=⟨⟨[(0,z45),(1,z4),(2,z4)],[(0,w58),(10,w60),(11,w25)]⟩,⟨[(0,z4)],[(0,w58),(10,w60),(11,w25)]⟩,3,1,fun x=>impl_headReader_num k x.1.2.1 x.1.2.2 x.2.1 x.2.2.1 x.2.2.2⟩
theorem f185i2ok (k:Nat):FnOk Tryz.prog 185 (f185i2c k):=ok (cx [f251 k] 33 nb) Tryz.f185 fun h x=>Q (Q (Q (T (X h) f185i2s4 fun x=>impl_headReader_num.c4 k x.1 x.2.1 x.2.2.1 x.2.2.2) (X h)) (X h)) (X h)
def f185i2 (k:Nat):Fc Tryz.prog:=⟨185,_,f185i2ok k⟩
def f252i4c (k:Nat):Con:=⟨⟨[(0,z45),(1,z4)],[(0,w58),(10,w60),(11,w25)]⟩,⟨[],[(0,w58),(10,w60),(11,w25)]⟩,2,0,fun x=>impl_headReader_enter k x.1.2 x.2.1 x.2.2.1 x.2.2.2⟩
theorem f252i4ok (k:Nat):FnOk Tryz.prog 252 (f252i4c k):=ok (cx [f187 k] 38 nb) Tryz.f252 fun h x=>X h
def f252i4 (k:Nat):Fc Tryz.prog:=⟨252,_,f252i4ok k⟩
def f197s3:SS:=⟨[(3,z9),(7,z18),(8,z4),(9,z4)],[(100,w29)]⟩
def f197c (k:Nat):Con:=⟨⟨[(0,z18)],[]⟩,⟨[(0,z9)],[(100,w29)]⟩,1,1,fun x=>impl_valsOf k x⟩
theorem f197ok (k:Nat):FnOk Tryz.prog 197 (f197c k):=ok (cx [] 20 nb) Tryz.f197 fun h x=>Q (Q (Q (X h) (Q (B (L f197s3 (fun n x=>impl_valsOf.l3 k n x.1.2.1 x.1.2.2.1 x.1.2.2.2 x.2) k fun n3=>X h)) (X h))) (X h)) (X h)
def f197 (k:Nat):Fc Tryz.prog:=⟨197,_,f197ok k⟩
def f307c (k:Nat):Con:=⟨⟨[(0,z8),(1,z4)],[]⟩,⟨[(0,z4)],[]⟩,2,1,fun x=>impl_BitAt k x.1 x.2⟩
theorem f307ok (k:Nat):FnOk Tryz.prog 307 (f307c k):=ok (cx [] 24 nb) Tryz.f307 fun h x=>X h
def f307 (k:Nat):Fc Tryz.prog:=⟨307,_,f307ok k⟩
def f257s7:SS:=⟨[(0,z8),(1,z4),(3,z4),(9,z9),(10,z4),(11,z4),(14,z4),(15,z4),(18,z4),(19,z4)],[(100,w25)]⟩
def f257s3:SS:=⟨[(0,z8),(1,z4),(3,z4),(9,z9),(14,z4),(15,z4)],[(100,w25)]⟩
def f257c (k:Nat):Con:=⟨⟨[(0,z8),(1,z4),(2,z4),(3,z4)],[]⟩,⟨[(0,z9)],[(100,w25)]⟩,4,1,fun x=>impl_unpacked k x.1 x.2.1 x.2.2.1 x.2.2.2⟩
theorem f257ok (k:Nat):FnOk Tryz.prog 257 (f257c k):=ok (cx [f307 k] 43 nb) Tryz.f257 fun h x=>Q (Q (Q (X h) (Q (B (L f257s3 (fun n x=>impl_unpacked.l3 k n x.1.1 x.1.2.1 x.1.2.2.1 x.1.2.2.2.2.1 x.1.2.2.2.2.2 x.2) k fun n3=>Q (Q (Q (X h) (B (Q (Q (Q (X h) (Q (B (L f257s7 (fun n x=>impl_unpacked.l7 k (impl_unpacked.l3 k n3) n x.1.1 x.1.2.1 x.1.2.2.1 x.1.2.2.2.2.1 x.1.2.2.2.2.2.1 x.1.2.2.2.2.2.2.1 x.1.2.2.2.2.2.2.2.1 x.1.2.2.2.2.2.2.2.2.1 x.1.2.2.2.2.2.2.2.2.2 x.2) k fun n7=>X h)) (X h))) (X h)) (X h)))) (X h)) (X h))) (X h))) (X h)) (X h)
def f257 (k:Nat):Fc Tryz.prog:=⟨257,_,f257ok k⟩
def f306c (k:Nat):Con:=⟨⟨[(0,z4),(1,z4)],[]⟩,⟨[(0,z4)],[]⟩,2,1,fun x=>impl_BitsSize k x.1 x.2⟩
theorem f306ok (k:Nat):FnOk Tryz.prog 306 (f306c k):=ok (cx [f85 k] 18 nb) Tryz.f306 fun h x=>X h
def f306 (k:Nat):Fc Tryz.prog:=⟨306,_,f306ok k⟩
def f259c (k:Nat):Con:=⟨⟨[(0,z8),(1,z4),(2,z4),(3,z4)],[]⟩,⟨[(0,z9),(1,z4),(2,z13)],[(100,w25)]⟩,4,3,fun x=>impl_BitsRead k x.1 x.2.1 x.2.2.1 x.2.2.2⟩
theorem f259ok (k:Nat):FnOk Tryz.prog 259 (f259c k):=ok (cx [f85 k,f257 k,f306 k] 40 nb) Tryz.f259 fun h x=>X h
def f259 (k:Nat):Fc Tryz.prog:=⟨259,_,f259ok k⟩
def f130s5:SS:=⟨[(0,z8),(1,z4),(2,z4),(9,z4),(26,z4),(27,z4)],[]⟩
def f130c (k:Nat):Con:=⟨⟨[(0,z8),(1,z4),(2,z4)],[]⟩,⟨[(0,z4),(1,z4),(2,z13)],[]⟩,3,3,fun x=>impl_WordGet k x.1 x.2.1 x.2.2⟩
theorem f130ok (k:Nat):FnOk Tryz.prog 130 (f130c k):=ok (cx [f85 k] 47 nb) Tryz.f130 fun h x=>Q (Q (Q (Q (X h) (Q (B (L f130s5 (fun n x=>impl_WordGet.l5 k n x.1 x.2.1 x.2.2.1 x.2.2.2.1 x.2.2.2.2.1 x.2.2.2.2.2) k fun n5=>X h)) (X h))) (X h)) (X h)) (X h)
def f130 (k:Nat):Fc Tryz.prog:=⟨130,_,f130ok k⟩
def f194s6:SS:=⟨[(6,z13)],[]⟩
def f194c (k:Nat):Con:=⟨⟨[(0,z4)],[]⟩,⟨[(0,z4)],[]⟩,1,1,fun x=>impl_wideOf k x⟩
theorem f194ok (k:Nat):FnOk Tryz.prog 194 (f194c k):=ok (cx [] 9 nb) Tryz.f194 fun h x=>Q (Q (X h) (Q (B (Q (D (X h) (Q (T (X h) f194s6 fun x=>impl_wideOf.c6 k x) (X h))) (X h))) (X h))) (X h)
def f194 (k:Nat):Fc Tryz.prog:=⟨194,_,f194ok k⟩
def f266c (k:Nat):Con:=⟨⟨[(0,z4),(1,z4)],[]⟩,⟨[(0,z4)],[]⟩,2,1,fun x=>impl_signed k x.1 x.2⟩
theorem f266ok (k:Nat):FnOk Tryz.prog 266 (f266c k):=ok (cx [] 11 nb) Tryz.f266 fun h x=>X h
def f266 (k:Nat):Fc Tryz.prog:=⟨266,_,f266ok k⟩
def f260c (k:Nat):Con:=⟨⟨[(0,z4),(1,z8),(2,z4)],[]⟩,⟨[(0,z27),(1,z4),(2,z13)],[]⟩,3,3,fun x=>impl_plainOne k x.1 x.2.1 x.2.2⟩
theorem f260ok (k:Nat):FnOk Tryz.prog 260 (f260c k):=ok (cx [f130 k,f194 k,f266 k] 66 nb) Tryz.f260 fun h x=>X h
def f260 (k:Nat):Fc Tryz.prog:=⟨260,_,f260ok k⟩
def f195s8:SS:=⟨[(0,z4),(1,z8),(2,z4),(14,z9),(48,z4),(49,z4)],[(100,w29)]⟩
def f195c (k:Nat):Con:=⟨⟨[(0,z4),(1,z8),(2,z4),(3,z4)],[]⟩,⟨[(0,z9),(1,z4),(2,z13)],[(100,w29)]⟩,4,3,fun x=>impl_PlainRead k x.1 x.2.1 x.2.2.1 x.2.2.2⟩
theorem f195ok (k:Nat):FnOk Tryz.prog 195 (f195c k):=ok (cx [f85 k,f193 k,f197 k,f259 k,f260 k] 69 nb) Tryz.f195 fun h x=>Q (Q (Q (Q (Q (X h) (Q (B (L f195s8 (fun n x=>impl_PlainRead.l8 k n x.1.1 x.1.2.1 x.1.2.2.1 x.1.2.2.2.2.1 x.1.2.2.2.2.2 x.2) k fun n8=>X h)) (X h))) (X h)) (X h)) (X h)) (X h)
def f195 (k:Nat):Fc Tryz.prog:=⟨195,_,f195ok k⟩
def f203s8:SS:=⟨[(0,z4),(3,z26),(26,z13)],[(100,w28)]⟩
def f203c (k:Nat):Con:=⟨⟨[(0,z4),(1,z12)],[]⟩,⟨[(0,z13)],[]⟩,2,1,fun x=>impl_ValOk k x.1 x.2⟩
theorem f203ok (k:Nat):FnOk Tryz.prog 203 (f203c k):=ok (cx [f85 k,f267 k] 45 nb) Tryz.f203 fun h x=>Q (Q (X h) (Q (B (Q (D (X h) (Q (D (X h) (Q (T (X h) f203s8 fun x=>impl_ValOk.c8 k x.1.1 x.1.2.2 x.2) (X h))) (X h))) (X h))) (X h))) (X h)
def f203 (k:Nat):Fc Tryz.prog:=⟨203,_,f203ok k⟩
def f124s2:SS:=⟨[(0,z4),(1,z31),(7,z31),(8,z4),(9,z4)],[]⟩
def f124c (k:Nat):Con:=⟨⟨[(0,z4),(1,z31)],[]⟩,⟨[(0,z13)],[]⟩,2,1,fun x=>impl_valsOk k x.1 x.2⟩
theorem f124ok (k:Nat):FnOk Tryz.prog 124 (f124c k):=ok (cx [f193 k,f203 k] 25 nb) Tryz.f124 fun h x=>Q (Q (X h) (Q (B (L f124s2 (fun n x=>impl_valsOk.l2 k n x.1 x.2.1 x.2.2.1 x.2.2.2.1 x.2.2.2.2) k fun n2=>X h)) (X h))) (X h)
def f124 (k:Nat):Fc Tryz.prog:=⟨124,_,f124ok k⟩
def f337s6:SS:=⟨[(1,z4),(5,z9),(6,z4),(7,z4),(17,z18),(18,z4),(19,z4),(24,z4),(25,z4)],[(100,w10)]⟩
def f337s3:SS:=⟨[(1,z4),(5,z9),(17,z18),(18,z4),(19,z4)],[(100,w10)]⟩
def f337c (k:Nat):Con:=⟨⟨[(0,z18),(1,z4)],[]⟩,⟨[(0,z9)],[(100,w10)]⟩,2,1,fun x=>impl_packed k x.1 x.2⟩
theorem f337ok (k:Nat):FnOk Tryz.prog 337 (f337c k):=ok (cx [] 51 nb) Tryz.f337 fun h x=>Q (Q (Q (X h) (Q (B (L f337s3 (fun n x=>impl_packed.l3 k n x.1.1 x.1.2.2.1 x.1.2.2.2.1 x.1.2.2.2.2 x.2) k fun n3=>Q (Q (Q (X h) (B (Q (Q (B (L f337s6 (fun n x=>impl_packed.l6 k (impl_packed.l3 k n3) n x.1.1 x.1.2.2.1 x.1.2.2.2.1 x.1.2.2.2.2.1 x.1.2.2.2.2.2.1 x.1.2.2.2.2.2.2.1 x.1.2.2.2.2.2.2.2.1 x.1.2.2.2.2.2.2.2.2 x.2) k fun n6=>X h)) (X h)) (X h)))) (X h)) (X h))) (X h))) (X h)) (X h)
def f337 (k:Nat):Fc Tryz.prog:=⟨337,_,f337ok k⟩
def f338s3:SS:=⟨[(3,z9),(7,z31),(8,z4),(9,z4)],[(100,w25)]⟩
def f338c (k:Nat):Con:=⟨⟨[(0,z31)],[]⟩,⟨[(0,z9)],[(100,w25)]⟩,1,1,fun x=>impl_numsOf k x⟩
theorem f338ok (k:Nat):FnOk Tryz.prog 338 (f338c k):=ok (cx [] 20 nb) Tryz.f338 fun h x=>Q (Q (Q (X h) (Q (B (L f338s3 (fun n x=>impl_numsOf.l3 k n x.1.2.1 x.1.2.2.1 x.1.2.2.2 x.2) k fun n3=>X h)) (X h))) (X h)) (X h)
def f338 (k:Nat):Fc Tryz.prog:=⟨338,_,f338ok k⟩
def f339s5:SS:=⟨[(0,z4),(5,z9),(11,z4),(12,z4)],[(100,w10)]⟩
def f339c (k:Nat):Con:=⟨⟨[(0,z4),(1,z4)],[]⟩,⟨[(0,z9)],[(100,w10)]⟩,2,1,fun x=>impl_WordPut k x.1 x.2⟩
theorem f339ok (k:Nat):FnOk Tryz.prog 339 (f339c k):=ok (cx [f85 k] 25 nb) Tryz.f339 fun h x=>Q (Q (Q (Q (X h) (Q (B (L f339s5 (fun n x=>impl_WordPut.l5 k n x.1.1 x.1.2.2.1 x.1.2.2.2 x.2) k fun n5=>X h)) (X h))) (X h)) (X h)) (X h)
def f339 (k:Nat):Fc Tryz.prog:=⟨339,_,f339ok k⟩
def f336s12:SS:=⟨[(0,z4),(6,z9),(19,z31),(20,z4),(21,z4)],[(100,w10)]⟩
def f336d10:SS:=⟨[(0,z4),(6,z9),(8,z32),(19,z31),(20,z4),(21,z4)],[(100,w10),(101,w28)]⟩
def f336d11:SS:=⟨[(0,z4),(6,z9),(8,z32),(19,z31),(20,z4),(21,z4)],[(100,w10),(101,w28)]⟩
def f336s7:SS:=⟨[(0,z4),(6,z9),(19,z31),(20,z4),(21,z4)],[(100,w10)]⟩
def f336c (k:Nat):Con:=⟨⟨[(0,z4),(1,z31)],[]⟩,⟨[(0,z9),(1,z13)],[(100,w10)]⟩,2,2,fun x=>impl_PlainPack k x.1 x.2⟩
theorem f336ok (k:Nat):FnOk Tryz.prog 336 (f336c k):=ok (cx [f124 k,f194 k,f337 k,f338 k,f339 k] 45 nb) Tryz.f336 fun h x=>Q (Q (Q (Q (Q (X h) (Q (B (L f336s7 (fun n x=>impl_PlainPack.l7 k n x.1.1 x.1.2.2.1 x.1.2.2.2.1 x.1.2.2.2.2 x.2) k fun n7=>Q (Q (Q (T (X h) f336s12 fun x=>impl_PlainPack.c12 k (impl_PlainPack.l7 k n7) x.1.1 x.1.2.2.1 x.1.2.2.2.1 x.1.2.2.2.2 x.2) (B (Q (Q (D (K h f336d10 (fun x=>impl_PlainPack.d10 k (impl_PlainPack.l7 k n7) x.1.1 x.1.2.2.2.1 x.1.2.2.2.2.1 x.1.2.2.2.2.2 x.2.1 x.2.2) [[0,1,6,2,3,4,5,7,8,9],[0,1,6,2,3,4,7,5,8,9],[0,1,6,2,3,7,4,5,8,9],[0,1,6,7,2,3,4,5,8,9]] (O (fun x=>by kernel_rfl) (O (fun x=>by kernel_rfl) (O (fun x=>by kernel_rfl) (O (fun x=>by kernel_rfl) (N)))))) (K h f336d11 (fun x=>impl_PlainPack.d11 k (impl_PlainPack.l7 k n7) x.1.1 x.1.2.2.2.1 x.1.2.2.2.2.1 x.1.2.2.2.2.2 x.2.1 x.2.2) [[0,1,3,2,4,5,6,7],[0,1,3,4,2,5,6,7]] (O (fun x=>by kernel_rfl) (O (fun x=>by kernel_rfl) (N))))) (X h)) (X h)))) (X h)) (X h))) (X h))) (X h)) (X h)) (X h)) (X h)
def f336 (k:Nat):Fc Tryz.prog:=⟨336,_,f336ok k⟩
def f335c (k:Nat):Con:=⟨⟨[(0,z4),(1,z12)],[]⟩,⟨[(0,z16)],[]⟩,2,1,fun x=>impl_statText k x.1 x.2⟩
theorem f335ok (k:Nat):FnOk Tryz.prog 335 (f335c k):=ok (cx [f336 k] 20 nb) Tryz.f335 fun h x=>X h
def f335 (k:Nat):Fc Tryz.prog:=⟨335,_,f335ok k⟩
def f325c (k:Nat):Con:=⟨⟨[(0,z4),(1,z16)],[]⟩,⟨[(0,z27),(1,z13)],[]⟩,2,2,fun x=>impl_valueOf k x.1 x.2⟩
theorem f325ok (k:Nat):FnOk Tryz.prog 325 (f325c k):=ok (cx [f195 k,f203 k,f335 k] 46 nb) Tryz.f325 fun h x=>X h
def f325 (k:Nat):Fc Tryz.prog:=⟨325,_,f325ok k⟩
def f292c (k:Nat):Con:=⟨⟨[(0,z4)],[]⟩,⟨[(0,z4)],[]⟩,1,1,fun x=>impl_FloatKey k x⟩
theorem f292ok (k:Nat):FnOk Tryz.prog 292 (f292c k):=ok (cx [] 8 nb) Tryz.f292 fun h x=>X h
def f292 (k:Nat):Fc Tryz.prog:=⟨292,_,f292ok k⟩
def f232d5:SS:=⟨[(4,z26),(5,z32)],[(100,w28),(101,w28)]⟩
def f232c (k:Nat):Con:=⟨⟨[(0,z4),(1,z12),(2,z12)],[]⟩,⟨[(0,z13)],[]⟩,3,1,fun x=>impl_ValLess k x.1 x.2.1 x.2.2⟩
theorem f232ok (k:Nat):FnOk Tryz.prog 232 (f232c k):=ok (cx [f203 k,f292 k] 39 nb) Tryz.f232 fun h x=>Q (Q (Q (X h) (Q (B (Q (D (Q (X h) (K h f232d5 (fun x=>impl_ValLess.d5 k x.2.1 x.2.2) [[0,3,1,2,4,5,6,7],[0,3,1,4,2,5,6,7],[0,3,4,1,2,5,6,7]] (O (fun x=>by kernel_rfl) (O (fun x=>by kernel_rfl) (O (fun x=>by kernel_rfl) (N)))))) (X h)) (X h))) (X h))) (X h)) (X h)
def f232 (k:Nat):Fc Tryz.prog:=⟨232,_,f232ok k⟩
def f326c (k:Nat):Con:=⟨⟨[(0,z3),(1,(.ro y33))],[]⟩,⟨[(0,z13)],[]⟩,2,1,fun x=>impl_statsOk k x.1 x.2⟩
theorem f326ok (k:Nat):FnOk Tryz.prog 326 (f326c k):=ok (cx [f85 k,f183 k,f203 k,f232 k] 49 nb) Tryz.f326 fun h x=>X h
def f326 (k:Nat):Fc Tryz.prog:=⟨326,_,f326ok k⟩
def f304s13:SS:=⟨[(4,z26),(6,z32),(10,z34)],[(0,w54),(10,w25),(100,w35),(101,w37),(102,w37)]⟩
def f304d12:SS:=⟨[(4,z26),(6,z32),(10,z34),(15,(.p 103)),(17,z42)],[(0,w54),(10,w25),(100,w35),(101,w37),(102,w37),(103,w28),(104,w28)]⟩
def f304c (k:Nat):Con:=⟨⟨[(0,z45),(1,z3),(2,z4)],[(0,w55),(10,w25)]⟩,⟨[(0,z36),(1,z13)],[(0,w54),(10,w25)]⟩,3,2,fun x=>impl_tree_stats k x.1.2.1 x.1.2.2 x.2.1 x.2.2⟩
theorem f304ok (k:Nat):FnOk Tryz.prog 304 (f304c k):=ok (cx [f183 k,f186 k,f187 k,f251 k,f325 k,f326 k] 99 (fun s=>Nat.beq s 39)) Tryz.f304 fun h x=>Q (Q (Q (Q (Q (T (X h) f304s13 fun x=>impl_tree_stats.c13 k x.2.1 x.2.2.1 x.2.2.2.1 x.2.2.2.2.1 x.2.2.2.2.2) (Q (D (Q (Q (Q (Q (Q (K h f304d12 (fun x=>impl_tree_stats.d12 k x.2.1 x.2.2.1 x.2.2.2.1 x.2.2.2.2.1 x.2.2.2.2.2.1 x.2.2.2.2.2.2.1 x.2.2.2.2.2.2.2) [[2,0,1,3,4,5,6,7],[2,0,3,4,1,5,6,7],[2,0,3,4,5,1,6,7],[2,1,0,3,4,5,6,7],[2,1,3,0,4,5,6,7],[2,3,0,4,1,5,6,7],[2,3,0,4,5,1,6,7]] (O (fun x=>by kernel_rfl) (O (fun x=>by kernel_rfl) (O (fun x=>by kernel_rfl) (O (fun x=>by kernel_rfl) (O (fun x=>by kernel_rfl) (O (fun x=>by kernel_rfl) (O (fun x=>by kernel_rfl) (N))))))))) (X h)) (X h)) (X h)) (X h)) (X h)) (X h)) (X h))) (X h)) (X h)) (X h)) (X h)
def f304 (k:Nat):Fc Tryz.prog:=⟨304,_,f304ok k⟩
def f253i5c (k:Nat):Con:=⟨⟨[(0,z45),(1,z3),(2,z4),(3,(.p 3))],[(0,w58),(3,w40),(10,w60),(11,w25)]⟩,⟨[],[(0,w58),(3,w40),(10,w60),(11,w25)]⟩,4,0,fun x=>impl_headReader_statistics k x.1.2.1 x.1.2.2.1 x.2.1 x.2.2.1 x.2.2.2.1 x.2.2.2.2⟩
theorem f253i5ok (k:Nat):FnOk Tryz.prog 253 (f253i5c k):=ok (cx [f187 k,f304 k] 37 nb) Tryz.f253 fun h x=>X h
def f253i5 (k:Nat):Fc Tryz.prog:=⟨253,_,f253i5ok k⟩
def f188i3s23:SS:=⟨[(0,z45),(2,(.p 2))],[(0,w58),(2,w40),(10,w60),(11,w25)]⟩
def f188i3s8:SS:=⟨[(0,z45),(2,(.p 2)),(4,z26)],[(0,w58),(2,w40),(10,w60),(11,w25),(100,w35)]⟩
def f188i3s19:SS:=⟨[(0,z45),(2,(.p 2)),(4,z26)],[(0,w58),(2,w40),(10,w60),(11,w25),(100,w35)]⟩
def f188i3c (k:Nat):Con:=⟨⟨[(0,z45),(1,z3),(2,(.p 2))],[(0,w58),(2,w40),(10,w60),(11,w25)]⟩,⟨[],[(0,w58),(2,w40),(10,w60),(11,w25)]⟩,3,0,fun x=>impl_headReader_own k x.1.2.1 x.2.1 x.2.2.1 x.2.2.2.1 x.2.2.2.2⟩
theorem f188i3ok (k:Nat):FnOk Tryz.prog 188 (f188i3c k):=ok (cx [f184i1 k,f185i2 k,f187 k,f252i4 k,f253i5 k] 127 (fun s=>Nat.beq s 26)) Tryz.f188 fun h x=>Q (Q (T (X h) f188i3s23 fun x=>impl_headReader_own.c23 k x.2.1 x.2.2.1 x.2.2.2.1 x.2.2.2.2) (Q (B (Q (D (Q (Q (Q (T (X h) f188i3s8 fun x=>impl_headReader_own.c8 k x.2.1 x.2.2.1 x.2.2.2.1 x.2.2.2.2.1 x.2.2.2.2.2) (X h)) (X h)) (X h)) (Q (D (Q (Q (Q (Q (Q (Q (Q (Q (T (X h) f188i3s19 fun x=>impl_headReader_own.c19 k x.2.1 x.2.2.1 x.2.2.2.1 x.2.2.2.2.1 x.2.2.2.2.2) (X h)) (X h)) (X h)) (X h)) (X h)) (X h)) (X h)) (X h)) (X h)) (X h))) (X h))) (X h))) (X h)
def f188i3 (k:Nat):Fc Tryz.prog:=⟨188,_,f188i3ok k⟩
def f118d14:SS:=⟨[(1,z8),(3,z26),(6,z32),(9,z4),(13,z34),(14,(.p 103)),(15,z42),(16,z13)],[(100,w35),(101,w40),(102,w61),(103,w40),(104,w49),(105,w62),(106,w25)]⟩
def f118s14:SS:=⟨[(1,z8),(3,z26),(6,z32),(9,z4),(13,z34),(14,(.p 103)),(15,z42),(16,z13)],[(100,w35),(101,w40),(102,w61),(103,w40),(104,w49),(105,w62),(106,w25)]⟩
def f118s11:SS:=⟨[(1,z8),(3,z26),(6,z32),(9,z4),(11,z34),(13,(.p 103)),(14,z42)],[(100,w35),(101,w40),(102,w63),(103,w64),(104,w40),(105,w25)]⟩
def f118d9:SS:=⟨[(1,z8),(3,z26),(6,z32),(9,z4),(11,z34),(13,(.p 103)),(14,z42)],[(100,w35),(101,w40),(102,w63),(103,w64),(104,w40),(105,w25)]⟩
def f118c (k:Nat):Con:=⟨⟨[(0,z3),(1,z8),(2,z4)],[]⟩,⟨[(0,z39),(1,z4)],[]⟩,3,2,fun x=>impl_HeadRead k x.1 x.2.1 x.2.2⟩
theorem f118ok (k:Nat):FnOk Tryz.prog 118 (f118c k):=ok (cx [f181 k,f182 k,f183 k,f184i1 k,f185i2 k,f186 k,f187 k,f188i3 k] 100 nb) Tryz.f118 fun h x=>Q (Q (Q (Q (Q (Q (Q (Q (Q (T (Q (Q (T (Q (X h) (K h f118d14 (fun x=>impl_HeadRead.d14 k x.1.1 x.1.2.2.2.1 x.1.2.2.2.2.2.2.2 x.2.1 x.2.2.1 x.2.2.2.1 x.2.2.2.2.1 x.2.2.2.2.2.1 x.2.2.2.2.2.2.1 x.2.2.2.2.2.2.2) [[0,1,4,2,3,5,6,7],[0,1,4,5,2,3,6,7]] (O (fun x=>by kernel_rfl) (O (fun x=>by kernel_rfl) (N))))) f118s14 fun x=>impl_HeadRead.c14 k x.1.1 x.1.2.2.2.1 x.1.2.2.2.2.2.2.2 x.2.1 x.2.2.1 x.2.2.2.1 x.2.2.2.2.1 x.2.2.2.2.2.1 x.2.2.2.2.2.2.1 x.2.2.2.2.2.2.2) (X h)) (X h)) f118s11 fun x=>impl_HeadRead.c11 k x.1.1 x.1.2.2.2.1 x.2.1 x.2.2.1 x.2.2.2.1 x.2.2.2.2.1 x.2.2.2.2.2.1 x.2.2.2.2.2.2) (Q (X h) (K h f118d9 (fun x=>impl_HeadRead.d9 k x.1.1 x.1.2.2.2.1 x.2.1 x.2.2.1 x.2.2.2.1 x.2.2.2.2.1 x.2.2.2.2.2.1 x.2.2.2.2.2.2) [[0,2,1,3,4],[0,2,3,1,4]] (O (fun x=>by kernel_rfl) (O (fun x=>by kernel_rfl) (N)))))) (X h)) (X h)) (X h)) (X h)) (X h)) (X h)) (X h)) (X h)
def f118 (k:Nat):Fc Tryz.prog:=⟨118,_,f118ok k⟩
def f305s7:SS:=⟨[(0,z4),(4,z4)],[]⟩
def f305s2:SS:=⟨[(0,z4),(4,z4)],[]⟩
def f305c (k:Nat):Con:=⟨⟨[(0,z4)],[]⟩,⟨[(0,z4)],[]⟩,1,1,fun x=>impl_crcNumber k x⟩
theorem f305ok (k:Nat):FnOk Tryz.prog 305 (f305c k):=ok (cx [] 16 nb) Tryz.f305 fun h x=>Q (Q (X h) (Q (B (L f305s2 (fun n x=>impl_crcNumber.l2 k n x.1 x.2) k fun n2=>Q (Q (Q (T (X h) f305s7 fun x=>impl_crcNumber.c7 k (impl_crcNumber.l2 k n2) x.1 x.2) (X h)) (X h)) (X h))) (X h))) (X h)
def f305 (k:Nat):Fc Tryz.prog:=⟨305,_,f305ok k⟩
def f254s3:SS:=⟨[(1,z9),(4,z4)],[(100,w25)]⟩
def f254c (k:Nat):Con:=⟨⟨[],[]⟩,⟨[(0,z9)],[(100,w25)]⟩,0,1,fun x=>impl_CrcTable k⟩
theorem f254ok (k:Nat):FnOk Tryz.prog 254 (f254c k):=ok (cx [f305 k] 14 nb) Tryz.f254 fun h x=>Q (Q (Q (X h) (Q (B (L f254s3 (fun n x=>impl_CrcTable.l3 k n x.1.2 x.2) k fun n3=>X h)) (X h))) (X h)) (X h)
def f254 (k:Nat):Fc Tryz.prog:=⟨254,_,f254ok k⟩
def f189s6:SS:=⟨[(0,z4),(5,z9),(14,z8),(15,z4),(16,z4)],[(100,w25)]⟩
def f189c (k:Nat):Con:=⟨⟨[(0,z4),(1,z8)],[]⟩,⟨[(0,z4)],[]⟩,2,1,fun x=>impl_CrcMore k x.1 x.2⟩
theorem f189ok (k:Nat):FnOk Tryz.prog 189 (f189c k):=ok (cx [f85 k,f254 k] 34 nb) Tryz.f189 fun h x=>Q (Q (Q (Q (Q (X h) (Q (B (L f189s6 (fun n x=>impl_CrcMore.l6 k n x.1.1 x.1.2.2.1 x.1.2.2.2.1 x.1.2.2.2.2 x.2) k fun n6=>X h)) (X h))) (X h)) (X h)) (X h)) (X h)
def f189 (k:Nat):Fc Tryz.prog:=⟨189,_,f189ok k⟩
def f119c (k:Nat):Con:=⟨⟨[(0,z8)],[]⟩,⟨[(0,z4)],[]⟩,1,1,fun x=>impl_CrcOf k x⟩
theorem f119ok (k:Nat):FnOk Tryz.prog 119 (f119c k):=ok (cx [f189 k] 5 nb) Tryz.f119 fun h x=>X h
def f119 (k:Nat):Fc Tryz.prog:=⟨119,_,f119ok k⟩
def f59d5:SS:=⟨[(6,z26),(9,z32),(11,z8)],[(100,w40),(101,w40)]⟩
def f59c (k:Nat):Con:=⟨⟨[(0,z3),(1,z8),(2,z4)],[]⟩,⟨[(0,z39),(1,z8),(2,z4)],[]⟩,3,3,fun x=>impl_checked k x.1 x.2.1 x.2.2⟩
theorem f59ok (k:Nat):FnOk Tryz.prog 59 (f59c k):=ok (cx [f118 k,f119 k] 44 nb) Tryz.f59 fun h x=>Q (Q (Q (Q (Q (X h) (Q (X h) (K h f59d5 (fun x=>impl_checked.d5 k x.1.2.2 x.2.1 x.2.2) [[0,1,2,3,5,4,6,7,8],[0,1,2,3,5,6,4,7,8]] (O (fun x=>by kernel_rfl) (O (fun x=>by kernel_rfl) (N)))))) (X h)) (X h)) (X h)) (X h)
def f59 (k:Nat):Fc Tryz.prog:=⟨59,_,f59ok k⟩
def f308s10:SS:=⟨[(0,z51),(2,z4)],[]⟩
def f308s7:SS:=⟨[(0,z51),(2,z4)],[]⟩
def f308s4:SS:=⟨[(0,z51),(2,z4)],[]⟩
def f308c (k:Nat):Con:=⟨⟨[(0,z51)],[]⟩,⟨[(0,z4)],[]⟩,1,1,fun x=>bits_Len64 k x⟩
theorem f308ok (k:Nat):FnOk Tryz.prog 308 (f308c k):=ok (cx [] 25 nb) Tryz.f308 fun h x=>Q (Q (T (Q (T (Q (T (X h) f308s10 fun x=>bits_Len64.c10 k x.1 x.2) (X h)) f308s7 fun x=>bits_Len64.c7 k x.1 x.2) (X h)) f308s4 fun x=>bits_Len64.c4 k x.1 x.2) (X h)) (X h)
def f308 (k:Nat):Fc Tryz.prog:=⟨308,_,f308ok k⟩
def f258c (k:Nat):Con:=⟨⟨[(0,z4)],[]⟩,⟨[(0,z4)],[]⟩,1,1,fun x=>impl_widthOf k x⟩
theorem f258ok (k:Nat):FnOk Tryz.prog 258 (f258c k):=ok (cx [f308 k] 6 nb) Tryz.f258 fun h x=>X h
def f258 (k:Nat):Fc Tryz.prog:=⟨258,_,f258ok k⟩
def f256c (k:Nat):Con:=⟨⟨[(0,z8),(1,z4),(2,z4)],[]⟩,⟨[(0,z4),(1,z4),(2,z13)],[]⟩,3,3,fun x=>impl_runNumber k x.1 x.2.1 x.2.2⟩
theorem f256ok (k:Nat):FnOk Tryz.prog 256 (f256c k):=ok (cx [f130 k,f258 k,f306 k] 34 nb) Tryz.f256 fun h x=>X h
def f256 (k:Nat):Fc Tryz.prog:=⟨256,_,f256ok k⟩
def f190s15:SS:=⟨[(0,z8),(2,z4),(3,z4),(11,z9),(17,z4),(18,z4),(72,z4),(73,z4)],[(100,w25)]⟩
def f190s4:SS:=⟨[(0,z8),(1,z4),(2,z4),(3,z4),(11,z9)],[(100,w25)]⟩
def f190c (k:Nat):Con:=⟨⟨[(0,z8),(1,z4),(2,z4),(3,z4)],[]⟩,⟨[(0,z9),(1,z4),(2,z13)],[(100,w25)]⟩,4,3,fun x=>impl_RunRead k x.1 x.2.1 x.2.2.1 x.2.2.2⟩
theorem f190ok (k:Nat):FnOk Tryz.prog 190 (f190c k):=ok (cx [f85 k,f255 k,f256 k,f257 k] 110 nb) Tryz.f190 fun h x=>Q (Q (Q (Q (X h) (B (L f190s4 (fun n x=>impl_RunRead.l4 k n x.1.1 x.1.2.1 x.1.2.2.1 x.1.2.2.2.1 x.2) k fun n4=>Q (B (Q (Q (Q (Q (Q (X h) (Q (D (Q (Q (Q (X h) (Q (B (L f190s15 (fun n x=>impl_RunRead.l15 k (impl_RunRead.l4 k n4) n x.1.1 x.1.2.1 x.1.2.2.1 x.1.2.2.2.2.1 x.1.2.2.2.2.2.1 x.1.2.2.2.2.2.2.1 x.1.2.2.2.2.2.2.2 x.2) k fun n15=>X h)) (X h))) (X h)) (X h)) (X h)) (X h))) (X h)) (X h)) (X h)) (X h))) (X h)))) (X h)) (X h)) (X h)
def f190 (k:Nat):Fc Tryz.prog:=⟨190,_,f190ok k⟩
def f191c (k:Nat):Con:=⟨⟨[(0,z4)],[]⟩,⟨[(0,z4)],[]⟩,1,1,fun x=>impl_BitsWidth k x⟩
theorem f191ok (k:Nat):FnOk Tryz.prog 191 (f191c k):=ok (cx [f258 k] 12 nb) Tryz.f191 fun h x=>X h
def f191 (k:Nat):Fc Tryz.prog:=⟨191,_,f191ok k⟩
def f120s12:SS:=⟨[(3,z4),(11,z4),(12,z4),(14,z9),(71,z9),(72,z4),(73,z4)],[(100,w25)]⟩
def f120c (k:Nat):Con:=⟨⟨[(0,z8),(1,z4),(2,z4),(3,z4)],[]⟩,⟨[(0,z9),(1,z4),(2,z13)],[(100,w25)]⟩,4,3,fun x=>impl_LevelsRead k x.1 x.2.1 x.2.2.1 x.2.2.2⟩
theorem f120ok (k:Nat):FnOk Tryz.prog 120 (f120c k):=ok (cx [f85 k,f130 k,f190 k,f191 k] 85 nb) Tryz.f120 fun h x=>Q (Q (Q (Q (Q (Q (Q (Q (X h) (Q (B (L f120s12 (fun n x=>impl_LevelsRead.l12 k n x.1.1 x.1.2.1 x.1.2.2.1 x.1.2.2.2.2.2.1 x.1.2.2.2.2.2.2 x.2) k fun n12=>X h)) (X h))) (X h)) (X h)) (X h)) (X h)) (X h)) (X h)) (X h)
def f120 (k:Nat):Fc Tryz.prog:=⟨120,_,f120ok k⟩
def f192s5:SS:=⟨[(0,z18),(3,z4),(4,z4)],[]⟩
def f192s3:SS:=⟨[(0,z18)],[]⟩
def f192c (k:Nat):Con:=⟨⟨[(0,z18)],[]⟩,⟨[(0,z4)],[]⟩,1,1,fun x=>slices_Max_int_int k x⟩
theorem f192ok (k:Nat):FnOk Tryz.prog 192 (f192c k):=ok (cx [] 25 nb) Tryz.f192 fun h x=>Q (Q (T (Q (Q (X h) (Q (B (L f192s5 (fun n x=>slices_Max_int_int.l5 k n x.1 x.2.1 x.2.2) k fun n5=>X h)) (X h))) (X h)) f192s3 fun x=>slices_Max_int_int.c3 k x) (X h)) (X h)
def f192 (k:Nat):Fc Tryz.prog:=⟨192,_,f192ok k⟩
def f121c (k:Nat):Con:=⟨⟨[(0,z8),(1,z4),(2,z4)],[]⟩,⟨[(0,z9),(1,z13)],[(100,w25)]⟩,3,2,fun x=>impl_levelsOf k x.1 x.2.1 x.2.2⟩
theorem f121ok (k:Nat):FnOk Tryz.prog 121 (f121c k):=ok (cx [f190 k,f191 k,f192 k] 47 nb) Tryz.f121 fun h x=>X h
def f121 (k:Nat):Fc Tryz.prog:=⟨121,_,f121ok k⟩
def f60d13:SS:=⟨[(2,z8),(3,z26),(4,z32),(15,z4),(16,z43),(17,z13)],[(100,w35),(101,w40),(102,w25)]⟩
def f60d12:SS:=⟨[(2,z8),(3,z26),(4,z32),(15,z4)],[(100,w35),(101,w40)]⟩
def f60c (k:Nat):Con:=⟨⟨[(0,z3),(1,(.ro y38)),(2,z8)],[]⟩,⟨[(0,z9),(1,z30),(2,z8),(3,z13)],[(100,w25),(101,w25)]⟩,3,4,fun x=>impl_pageLevels k x.1 x.2.1 x.2.2⟩
theorem f60ok (k:Nat):FnOk Tryz.prog 60 (f60c k):=ok (cx [f120 k,f121 k] 107 nb) Tryz.f60 fun h x=>Q (Q (Q (Q (Q (Q (X h) (K h f60d13 (fun x=>impl_pageLevels.d13 k x.1.1 x.1.2.2.2.1 x.1.2.2.2.2.2 x.2.1 x.2.2.1 x.2.2.2) [[0,1,3,5,6,7,8,2,4,9,10,11,12,13,14]] (O (fun x=>by kernel_rfl) (N)))) (K h f60d12 (fun x=>impl_pageLevels.d12 k x.1.1 x.1.2.2.2 x.2.1 x.2.2) [[0,1,4,5,6,7,2,3,8,9,10,11,12,13]] (O (fun x=>by kernel_rfl) (N)))) (X h)) (X h)) (X h)) (X h)
def f60 (k:Nat):Fc Tryz.prog:=⟨60,_,f60ok k⟩
def f61s9:SS:=⟨[(2,z18),(3,z26),(8,z30),(9,z4),(13,z18),(14,z4),(15,z4)],[(100,w35),(101,w17)]⟩
def f61s4:SS:=⟨[(2,z18),(3,z26),(8,z30),(9,z4),(13,z18),(14,z4),(15,z4)],[(100,w35),(101,w17)]⟩
def f61c (k:Nat):Con:=⟨⟨[(0,z3),(1,z18),(2,z18)],[]⟩,⟨[(0,z9),(1,z4)],[(100,w17)]⟩,3,2,fun x=>impl_tripled k x.1 x.2.1 x.2.2⟩
theorem f61ok (k:Nat):FnOk Tryz.prog 61 (f61c k):=ok (cx [] 41 nb) Tryz.f61 fun h x=>Q (Q (Q (Q (X h) (Q (B (L f61s4 (fun n x=>impl_tripled.l4 k n x.1.1 x.1.2.2.2.1 x.1.2.2.2.2.1 x.1.2.2.2.2.2.1 x.1.2.2.2.2.2.2 x.2.1 x.2.2) k fun n4=>Q (Q (Q (T (X h) f61s9 fun x=>impl_tripled.c9 k (impl_tripled.l4 k n4) x.1.1 x.1.2.2.2.1 x.1.2.2.2.2.1 x.1.2.2.2.2.2.1 x.1.2.2.2.2.2.2 x.2.1 x.2.2) (X h)) (X h)) (X h))) (X h))) (X h)) (X h)) (X h)
def f61 (k:Nat):Fc Tryz.prog:=⟨61,_,f61ok k⟩
def f62s7:SS:=⟨[(3,z4),(6,z15),(7,z4),(8,z4)],[]⟩
def f62s3:SS:=⟨[(3,z4),(6,z15),(7,z4),(8,z4)],[]⟩
def f62c (k:Nat):Con:=⟨⟨[(0,z15)],[]⟩,⟨[(0,z4)],[]⟩,1,1,fun x=>impl_RowsOf k x⟩
theorem f62ok (k:Nat):FnOk Tryz.prog 62 (f62c k):=ok (cx [] 19 nb) Tryz.f62 fun h x=>Q (Q (Q (X h) (Q (B (L f62s3 (fun n x=>impl_RowsOf.l3 k n x.1 x.2.1 x.2.2.1 x.2.2.2) k fun n3=>Q (Q (Q (T (X h) f62s7 fun x=>impl_RowsOf.c7 k (impl_RowsOf.l3 k n3) x.1 x.2.1 x.2.2.1 x.2.2.2) (X h)) (X h)) (X h))) (X h))) (X h)) (X h)
def f62 (k:Nat):Fc Tryz.prog:=⟨62,_,f62ok k⟩
def f122s11:SS:=⟨[(0,z4),(1,z4),(23,z13)],[]⟩
def f122s4:SS:=⟨[(0,z4),(1,z4),(5,z4),(6,z13)],[]⟩
def f122c (k:Nat):Con:=⟨⟨[(0,z4),(1,z4)],[]⟩,⟨[(0,z13)],[]⟩,2,1,fun x=>impl_EncOk k x.1 x.2⟩
theorem f122ok (k:Nat):FnOk Tryz.prog 122 (f122c k):=ok (cx [f193 k,f194 k] 35 nb) Tryz.f122 fun h x=>Q (Q (X h) (Q (B (Q (T (D (X h) (Q (D (X h) (Q (D (X h) (Q (T (X h) f122s11 fun x=>impl_EncOk.c11 k x.1 x.2.1 x.2.2) (X h))) (X h))) (X h))) f122s4 fun x=>impl_EncOk.c4 k x.1 x.2.1 x.2.2.1 x.2.2.2) (X h))) (X h))) (X h)
def f122 (k:Nat):Fc Tryz.prog:=⟨122,_,f122ok k⟩
def f261c (k:Nat):Con:=⟨⟨[(0,z45)],[(0,w66),(10,w25)]⟩,⟨[(0,z4)],[(0,w66),(10,w25)]⟩,1,1,fun x=>impl_deltaReader_uvar k x.2.1 x.2.2⟩
theorem f261ok (k:Nat):FnOk Tryz.prog 261 (f261c k):=ok (cx [f255 k] 35 nb) Tryz.f261 fun h x=>X h
def f261 (k:Nat):Fc Tryz.prog:=⟨261,_,f261ok k⟩
def f263c (k:Nat):Con:=⟨⟨[(0,z45),(1,z4)],[(0,w66),(10,w25)]⟩,⟨[(0,z4)],[(0,w66),(10,w25)]⟩,2,1,fun x=>impl_deltaReader_take k x.1.2 x.2.1 x.2.2⟩
theorem f263ok (k:Nat):FnOk Tryz.prog 263 (f263c k):=ok (cx [] 40 nb) Tryz.f263 fun h x=>X h
def f263 (k:Nat):Fc Tryz.prog:=⟨263,_,f263ok k⟩
def f264d7:SS:=⟨[(0,z45),(3,z4),(12,z4),(37,z9),(38,z4),(39,z4)],[(0,w67),(100,w25),(101,w25)]⟩
def f264s5:SS:=⟨[(0,z45),(3,z4),(37,z9),(38,z4),(39,z4)],[(0,w67),(100,w25),(101,w25)]⟩
def f264s2:SS:=⟨[(0,z45),(1,z4),(2,z4),(3,z4),(4,z4)],[(0,w66),(10,w25)]⟩
def f264c (k:Nat):Con:=⟨⟨[(0,z45),(1,z4),(2,z4),(3,z4),(4,z4)],[(0,w66),(10,w25)]⟩,⟨[],[(0,(.box y65 (.agg (.cons z8 (.cons z4 (.cons z13 (.cons z9 .nil))))))),(100,w25)]⟩,5,0,fun x=>impl_deltaReader_mini k x.1.2.1 x.1.2.2.1 x.1.2.2.2.1 x.1.2.2.2.2 x.2.1 x.2.2⟩
theorem f264ok (k:Nat):FnOk Tryz.prog 264 (f264c k):=ok (cx [f257 k,f263 k] 69 nb) Tryz.f264 fun h x=>Q (T (Q (Q (Q (B (L f264s5 (fun n x=>impl_deltaReader_mini.l5 k n x.1.2.1 x.1.2.2.2.1 x.1.2.2.2.2 x.2.1 x.2.2.1 x.2.2.2) k fun n5=>Q (Q (Q (X h) (B (Q (K h f264d7 (fun x=>impl_deltaReader_mini.d7 k (impl_deltaReader_mini.l5 k n5) x.1.2.1 x.1.2.2.1 x.1.2.2.2.2.1 x.1.2.2.2.2.2 x.2.1 x.2.2.1 x.2.2.2) [[0,1,2,3,4,5,6,7,9,10,11,17,19,8,12,13,14,15,16,18,20,21,22,23,24,25],[0,1,2,3,4,5,6,7,9,10,11,17,19,12,13,14,8,15,16,18,20,21,22,23,24,25]] (O (fun x=>by kernel_rfl) (O (fun x=>by kernel_rfl) (N)))) (X h)))) (X h)) (X h))) (X h)) (X h)) (X h)) f264s2 fun x=>impl_deltaReader_mini.c2 k x.1.2.1 x.1.2.2.1 x.1.2.2.2.1 x.1.2.2.2.2 x.2.1 x.2.2) (X h)
def f264 (k:Nat):Fc Tryz.prog:=⟨264,_,f264ok k⟩
def f196d22:SS:=⟨[(0,z8),(7,z26),(9,z4),(10,z4),(12,z4),(13,z4),(14,z4),(15,z4)],[(100,w67),(101,w25)]⟩
def f196s20:SS:=⟨[(0,z8),(7,z26),(9,z4),(10,z4),(12,z4),(13,z4),(14,z4),(15,z4)],[(100,w67),(101,w25)]⟩
def f196s16:SS:=⟨[(0,z8),(7,z26),(9,z4),(10,z4),(12,z4)],[(100,w67),(101,w25)]⟩
def f196c (k:Nat):Con:=⟨⟨[(0,z8),(1,z4)],[]⟩,⟨[(0,z9),(1,z4),(2,z13)],[(100,w25)]⟩,2,3,fun x=>impl_DeltaRead k x.1 x.2⟩
theorem f196ok (k:Nat):FnOk Tryz.prog 196 (f196c k):=ok (cx [f85 k,f261 k,f262 k,f263 k,f264 k] 155 nb) Tryz.f196 fun h x=>Q (Q (Q (Q (Q (Q (Q (Q (Q (Q (Q (Q (Q (X h) (B (L f196s16 (fun n x=>impl_DeltaRead.l16 k n x.1.1 x.1.2.2.1 x.1.2.2.2.1 x.1.2.2.2.2 x.2.1 x.2.2) k fun n16=>Q (B (Q (Q (Q (B (L f196s20 (fun n x=>impl_DeltaRead.l20 k (impl_DeltaRead.l16 k n16) n x.1.1 x.1.2.2.1 x.1.2.2.2.1 x.1.2.2.2.2.1 x.1.2.2.2.2.2.1 x.1.2.2.2.2.2.2.1 x.1.2.2.2.2.2.2.2 x.2.1 x.2.2) k fun n20=>Q (Q (X h) (B (K h f196d22 (fun x=>impl_DeltaRead.d22 k (impl_DeltaRead.l20 k (impl_DeltaRead.l16 k n16) n20) x.1.1 x.1.2.2.1 x.1.2.2.2.1 x.1.2.2.2.2.1 x.1.2.2.2.2.2.1 x.1.2.2.2.2.2.2.1 x.1.2.2.2.2.2.2.2 x.2.1 x.2.2) [[0,1,2,3,4,5,6,9,10,11,12,13,7,8,14,15,16,17],[0,1,2,3,4,5,6,9,10,11,12,13,14,15,16,7,8,17]] (O (fun x=>by kernel_rfl) (O (fun x=>by kernel_rfl) (N)))))) (X h))) (X h)) (X h)) (X h))) (X h)))) (X h)) (X h)) (X h)) (X h)) (X h)) (X h)) (X h)) (X h)) (X h)) (X h)) (X h)) (X h)
def f196 (k:Nat):Fc Tryz.prog:=⟨196,_,f196ok k⟩
def f198s6:SS:=⟨[(0,z8),(8,z4),(10,z9),(23,z30),(24,z4),(25,z4)],[(100,w29),(101,w25)]⟩
def f198c (k:Nat):Con:=⟨⟨[(0,z8),(1,z4)],[]⟩,⟨[(0,z9),(1,z4),(2,z13)],[(100,w29)]⟩,2,3,fun x=>impl_LengthRead k x.1 x.2⟩
theorem f198ok (k:Nat):FnOk Tryz.prog 198 (f198c k):=ok (cx [f85 k,f196 k] 57 nb) Tryz.f198 fun h x=>Q (Q (Q (Q (Q (X h) (Q (B (L f198s6 (fun n x=>impl_LengthRead.l6 k n x.1.1 x.1.2.1 x.1.2.2.2.2.1 x.1.2.2.2.2.2 x.2.1 x.2.2) k fun n6=>X h)) (X h))) (X h)) (X h)) (X h)) (X h)
def f198 (k:Nat):Fc Tryz.prog:=⟨198,_,f198ok k⟩
def f199s10:SS:=⟨[(10,z9),(11,z4),(12,z30),(13,z16),(42,z43),(43,z4),(44,z4)],[(100,w29),(101,w29),(102,w25)]⟩
def f199c (k:Nat):Con:=⟨⟨[(0,z8),(1,z4)],[]⟩,⟨[(0,z9),(1,z4),(2,z13)],[(100,w29)]⟩,2,3,fun x=>impl_FrontRead k x.1 x.2⟩
theorem f199ok (k:Nat):FnOk Tryz.prog 199 (f199c k):=ok (cx [f85 k,f196 k,f198 k] 82 nb) Tryz.f199 fun h x=>Q (Q (Q (Q (Q (Q (Q (Q (X h) (Q (B (L f199s10 (fun n x=>impl_FrontRead.l10 k n x.1.2.1 x.1.2.2.2.1 x.1.2.2.2.2.2.1 x.1.2.2.2.2.2.2 x.2.1 x.2.2.1 x.2.2.2) k fun n10=>X h)) (X h))) (X h)) (X h)) (X h)) (X h)) (X h)) (X h)) (X h)
def f199 (k:Nat):Fc Tryz.prog:=⟨199,_,f199ok k⟩
def f265c (k:Nat):Con:=⟨⟨[(0,z4)],[]⟩,⟨[(0,z4)],[]⟩,1,1,fun x=>impl_SplitWide k x⟩
theorem f265ok (k:Nat):FnOk Tryz.prog 265 (f265c k):=ok (cx [f194 k] 5 nb) Tryz.f265 fun h x=>X h
def f265 (k:Nat):Fc Tryz.prog:=⟨265,_,f265ok k⟩
def f200s10:SS:=⟨[(1,z8),(2,z4),(3,z4),(11,z4),(12,z9),(13,z4),(14,z4),(43,z4),(44,z4),(47,z4),(48,z4)],[(100,w29)]⟩
def f200s6:SS:=⟨[(1,z8),(2,z4),(3,z4),(11,z4),(12,z9),(43,z4),(44,z4)],[(100,w29)]⟩
def f200c (k:Nat):Con:=⟨⟨[(0,z4),(1,z8),(2,z4),(3,z4)],[]⟩,⟨[(0,z9),(1,z4),(2,z13)],[(100,w29)]⟩,4,3,fun x=>impl_SplitRead k x.1 x.2.1 x.2.2.1 x.2.2.2⟩
theorem f200ok (k:Nat):FnOk Tryz.prog 200 (f200c k):=ok (cx [f85 k,f265 k,f266 k] 82 nb) Tryz.f200 fun h x=>Q (Q (Q (Q (Q (X h) (Q (B (L f200s6 (fun n x=>impl_SplitRead.l6 k n x.1.1 x.1.2.1 x.1.2.2.1 x.1.2.2.2.1 x.1.2.2.2.2.2.1 x.1.2.2.2.2.2.2 x.2) k fun n6=>Q (Q (Q (X h) (B (Q (Q (Q (X h) (Q (B (L f200s10 (fun n x=>impl_SplitRead.l10 k (impl_SplitRead.l6 k n6) n x.1.1 x.1.2.1 x.1.2.2.1 x.1.2.2.2.1 x.1.2.2.2.2.2.1 x.1.2.2.2.2.2.2.1 x.1.2.2.2.2.2.2.2.1 x.1.2.2.2.2.2.2.2.2.1 x.1.2.2.2.2.2.2.2.2.2.1 x.1.2.2.2.2.2.2.2.2.2.2 x.2) k fun n10=>X h)) (X h))) (X h)) (X h)))) (X h)) (X h))) (X h))) (X h)) (X h)) (X h)) (X h)
def f200 (k:Nat):Fc Tryz.prog:=⟨200,_,f200ok k⟩
def f201s7:SS:=⟨[(3,z4),(11,z9),(12,z4),(38,z9),(39,z4),(40,z4)],[(100,w25)]⟩
def f201c (k:Nat):Con:=⟨⟨[(0,z8),(1,z4),(2,z4),(3,z4)],[]⟩,⟨[(0,z9),(1,z4),(2,z13)],[(100,w25)]⟩,4,3,fun x=>impl_PlacesRead k x.1 x.2.1 x.2.2.1 x.2.2.2⟩
theorem f201ok (k:Nat):FnOk Tryz.prog 201 (f201c k):=ok (cx [f85 k,f190 k] 50 nb) Tryz.f201 fun h x=>Q (Q (Q (Q (Q (X h) (Q (B (L f201s7 (fun n x=>impl_PlacesRead.l7 k n x.1.1 x.1.2.2.1 x.1.2.2.2.2.1 x.1.2.2.2.2.2 x.2) k fun n7=>X h)) (X h))) (X h)) (X h)) (X h)) (X h)
def f201 (k:Nat):Fc Tryz.prog:=⟨201,_,f201ok k⟩
def f202s5:SS:=⟨[(0,z31),(6,z9),(13,z18),(14,z4),(15,z4)],[(100,w29)]⟩
def f202c (k:Nat):Con:=⟨⟨[(0,z31),(1,z18)],[]⟩,⟨[(0,z9),(1,z13)],[(100,w29)]⟩,2,2,fun x=>impl_DictAt k x.1 x.2⟩
theorem f202ok (k:Nat):FnOk Tryz.prog 202 (f202c k):=ok (cx [f85 k] 34 nb) Tryz.f202 fun h x=>Q (Q (Q (Q (X h) (Q (B (L f202s5 (fun n x=>impl_DictAt.l5 k n x.1.1 x.1.2.2.1 x.1.2.2.2.1 x.1.2.2.2.2 x.2) k fun n5=>X h)) (X h))) (X h)) (X h)) (X h)
def f202 (k:Nat):Fc Tryz.prog:=⟨202,_,f202ok k⟩
def f123c (k:Nat):Con:=⟨⟨[(0,z4),(1,z4),(2,z8),(3,z4),(4,z31)],[]⟩,⟨[(0,z9),(1,z4),(2,z13)],[(100,w29)]⟩,5,3,fun x=>impl_encValues k x.1 x.2.1 x.2.2.1 x.2.2.2.1 x.2.2.2.2⟩
theorem f123ok (k:Nat):FnOk Tryz.prog 123 (f123c k):=ok (cx [f130 k,f190 k,f195 k,f196 k,f197 k,f198 k,f199 k,f200 k,f201 k,f202 k] 122 nb) Tryz.f123 fun h x=>X h
def f123 (k:Nat):Fc Tryz.prog:=⟨123,_,f123ok k⟩
def f63c (k:Nat):Con:=⟨⟨[(0,z4),(1,z4),(2,z8),(3,z4),(4,z31)],[]⟩,⟨[(0,z9),(1,z13)],[(100,w29)]⟩,5,2,fun x=>impl_EncRead k x.1 x.2.1 x.2.2.1 x.2.2.2.1 x.2.2.2.2⟩
theorem f63ok (k:Nat):FnOk Tryz.prog 63 (f63c k):=ok (cx [f85 k,f122 k,f123 k,f124 k] 66 nb) Tryz.f63 fun h x=>X h
def f63 (k:Nat):Fc Tryz.prog:=⟨63,_,f63ok k⟩
def f14s21:SS:=⟨[(4,z26),(11,z32),(18,z43),(20,z31),(108,z4),(109,z4)],[(100,w35),(101,w40),(102,w17)]⟩
def f14s16:SS:=⟨[(4,z26),(11,z32),(18,z43),(20,z31),(108,z4),(109,z4)],[(100,w35),(101,w40),(102,w17)]⟩
def f14d10:SS:=⟨[(3,z31),(4,z26),(11,z32),(16,z8),(18,z43),(19,z4)],[(100,w35),(101,w40),(102,w17)]⟩
def f14c (k:Nat):Con:=⟨⟨[(0,z3),(1,z8),(2,z4),(3,z31)],[]⟩,⟨[(0,z9),(1,z4),(2,z4)],[(100,w17)]⟩,4,3,fun x=>impl_PageRead k x.1 x.2.1 x.2.2.1 x.2.2.2⟩
theorem f14ok (k:Nat):FnOk Tryz.prog 14 (f14c k):=ok (cx [f59 k,f60 k,f61 k,f62 k,f63 k] 136 nb) Tryz.f14 fun h x=>Q (Q (Q (Q (Q (Q (Q (Q (Q (Q (X h) (Q (B (L f14s16 (fun n x=>impl_PageRead.l16 k n x.1.2.2.2.1 x.1.2.2.2.2.1 x.1.2.2.2.2.2 x.2.1 x.2.2.1 x.2.2.2) k fun n16=>Q (Q (Q (T (X h) f14s21 fun x=>impl_PageRead.c21 k (impl_PageRead.l16 k n16) x.1.2.2.2.1 x.1.2.2.2.2.1 x.1.2.2.2.2.2 x.2.1 x.2.2.1 x.2.2.2) (X h)) (X h)) (X h))) (X h))) (X h)) (X h)) (Q (X h) (K h f14d10 (fun x=>impl_PageRead.d10 k x.1.1 x.1.2.2.2.1 x.1.2.2.2.2.2 x.2.1 x.2.2.1 x.2.2.2) [[0,1,2,3,4,6,5,7,8,9,10,11,12,13,14,15],[0,1,2,3,4,6,7,5,8,9,10,11,12,13,14,15]] (O (fun x=>by kernel_rfl) (O (fun x=>by kernel_rfl) (N)))))) (X h)) (X h)) (X h)) (X h)) (X h)) (X h)
def f14 (k:Nat):Fc Tryz.prog:=⟨14,_,f14ok k⟩
def f134c (k:Nat):Con:=⟨⟨[(0,z4),(1,z8),(2,z4)],[]⟩,⟨[(0,z9),(1,z4),(2,z4)],[(100,w29)]⟩,3,3,fun x=>impl_DictRead k x.1 x.2.1 x.2.2⟩
theorem f134ok (k:Nat):FnOk Tryz.prog 134 (f134c k):=ok (cx [f59 k,f195 k] 75 nb) Tryz.f134 fun h x=>X h
def f134 (k:Nat):Fc Tryz.prog:=⟨134,_,f134ok k⟩
def f72s11:SS:=⟨[(1,z8),(3,z26),(5,z32),(9,z43),(13,z41),(14,z4),(15,z4)],[(100,w35),(101,w44),(102,w29),(103,w25)]⟩
def f72s9:SS:=⟨[(1,z8),(3,z26),(5,z32),(9,z43)],[(100,w35),(101,w44),(102,w29)]⟩
def f72c (k:Nat):Con:=⟨⟨[(0,z3),(1,z8),(2,z21)],[]⟩,⟨[(0,z9),(1,z30),(2,z4)],[(100,w25),(101,w29)]⟩,3,3,fun x=>impl_ChunkPages k x.1 x.2.1 x.2.2⟩
theorem f72ok (k:Nat):FnOk Tryz.prog 72 (f72c k):=ok (cx [f118 k,f134 k] 90 nb) Tryz.f72 fun h x=>Q (Q (Q (Q (T (Q (Q (Q (X h) (B (L f72s11 (fun n x=>impl_ChunkPages.l11 k n x.1.1 x.1.2.2.2.2.2.1 x.1.2.2.2.2.2.2 x.2.1 x.2.2.1 x.2.2.2.1 x.2.2.2.2) k fun n11=>X h))) (X h)) (X h)) f72s9 fun x=>impl_ChunkPages.c9 k x.1.1 x.2.1 x.2.2.1 x.2.2.2) (X h)) (X h)) (X h)) (X h)
def f72 (k:Nat):Fc Tryz.prog:=⟨72,_,f72ok k⟩
def f27s6:SS:=⟨[(1,z8),(3,z26),(9,z30),(11,z43),(29,z41),(30,z4),(31,z4)],[(100,w35),(101,w29),(102,w17),(103,w25)]⟩
def f27c (k:Nat):Con:=⟨⟨[(0,z3),(1,z8),(2,z21)],[]⟩,⟨[(0,z9),(1,z4)],[(100,w17)]⟩,3,2,fun x=>impl_ChunkRead k x.1 x.2.1 x.2.2⟩
theorem f27ok (k:Nat):FnOk Tryz.prog 27 (f27c k):=ok (cx [f14 k,f72 k] 52 nb) Tryz.f27 fun h x=>Q (Q (Q (Q (Q (X h) (Q (B (L f27s6 (fun n x=>impl_ChunkRead.l6 k n x.1.1 x.1.2.2.2.2.2.1 x.1.2.2.2.2.2.2 x.2.1 x.2.2.1 x.2.2.2.1 x.2.2.2.2) k fun n6=>X h)) (X h))) (X h)) (X h)) (X h)) (X h)
def f27 (k:Nat):Fc Tryz.prog:=⟨27,_,f27ok k⟩
def f75s4:SS:=⟨[(0,z18),(1,z18),(5,z4)],[]⟩
def f75c (k:Nat):Con:=⟨⟨[(0,z18),(1,z18)],[]⟩,⟨[(0,z13)],[]⟩,2,1,fun x=>laws_eqIntS k x.1 x.2⟩
theorem f75ok (k:Nat):FnOk Tryz.prog 75 (f75c k):=ok (cx [] 26 nb) Tryz.f75 fun h x=>Q (Q (Q (X h) (Q (B (L f75s4 (fun n x=>laws_eqIntS.l4 k n x.1 x.2.1 x.2.2) k fun n4=>X h)) (X h))) (X h)) (X h)
def f75 (k:Nat):Fc Tryz.prog:=⟨75,_,f75ok k⟩
def f28c (k:Nat):Con:=⟨⟨[(0,z21),(1,z21)],[]⟩,⟨[(0,z13)],[]⟩,2,1,fun x=>laws_eqChunk k x.1 x.2⟩
theorem f28ok (k:Nat):FnOk Tryz.prog 28 (f28c k):=ok (cx [f75 k] 36 nb) Tryz.f28 fun h x=>X h
def f28 (k:Nat):Fc Tryz.prog:=⟨28,_,f28ok k⟩
def f76s2:SS:=⟨[(0,(.h 10)),(1,z4),(5,z4)],[(10,w25)]⟩
def f76c (k:Nat):Con:=⟨⟨[(0,(.h 10)),(1,z4)],[(10,w25)]⟩,⟨[(0,z4)],[(10,w25)]⟩,2,1,fun x=>laws_markIntS k x.1.2 x.2⟩
theorem f76ok (k:Nat):FnOk Tryz.prog 76 (f76c k):=ok (cx [] 19 nb) Tryz.f76 fun h x=>Q (Q (X h) (Q (B (L f76s2 (fun n x=>laws_markIntS.l2 k n x.1.2.1 x.1.2.2 x.2) k fun n2=>X h)) (X h))) (X h)
def f76 (k:Nat):Fc Tryz.prog:=⟨76,_,f76ok k⟩
def f29c (k:Nat):Con:=⟨⟨[(0,(.agg (.cons z4 (.cons z4 (.cons z4 (.cons z4 (.cons z4 v53))))))),(1,z4)],[(10,w25)]⟩,⟨[(0,z4)],[(10,w25)]⟩,2,1,fun x=>laws_markChunk k x.1.1 x.1.2 x.2⟩
theorem f29ok (k:Nat):FnOk Tryz.prog 29 (f29c k):=ok (cx [f76 k] 10 nb) Tryz.f29 fun h x=>X h
def f29 (k:Nat):Fc Tryz.prog:=⟨29,_,f29ok k⟩
def f5d30:SS:=⟨[(1,z8),(3,z26),(5,z32),(8,z43),(9,z4),(12,z41),(15,z4)],[(100,w35),(101,w44),(102,w17),(103,w17)]⟩
def f5d15:SS:=⟨[(1,z8),(3,z26),(5,z32),(8,z43),(9,z4),(10,z41),(11,z42),(12,(.h 105)),(13,z4)],[(100,w35),(101,w44),(102,w17),(103,w10),(104,(.box y20 (.agg (.cons z4 (.cons z4 (.cons z4 (.cons z4 (.cons z4 (.cons (.h 106) .nil))))))))),(105,w17),(106,w25)]⟩
def f5d10:SS:=⟨[(1,z8),(3,z26),(5,z32),(8,z43),(9,z4),(10,z41),(11,z42)],[(100,w35),(101,w44),(102,w17),(103,w10),(104,(.box y20 (.agg (.cons z4 (.cons z4 (.cons z4 (.cons z4 (.cons z4 (.cons (.h 105) .nil))))))))),(105,w25)]⟩
def f5d7:SS:=⟨[(1,z8),(3,z26),(5,z32)],[(100,w35),(101,w44)]⟩
def f5c (k:Nat):Con:=⟨⟨[(0,z3),(1,z8),(2,z21)],[]⟩,⟨[(0,z13)],[]⟩,3,1,fun x=>laws_FnExactChunkRead k x.1 x.2.1 x.2.2⟩
theorem f5ok (k:Nat):FnOk Tryz.prog 5 (f5c k):=ok (cx [f11 k,f12 k,f15 k,f16 k,f18 k,f20 k,f21 k,f24 k,f25 k,f26 k,f27 k,f28 k,f29 k] 125 nb) Tryz.f5 fun h x=>Q (Q (Q (Q (Q (Q (Q (Q (Q (Q (Q (Q (Q (Q (Q (Q (Q (Q (Q (Q (Q (Q (Q (X h) (K h f5d30 (fun x=>laws_FnExactChunkRead.d30 k x.1.1 x.1.2.2.2.2.1 x.1.2.2.2.2.2.2 x.2.1 x.2.2.1 x.2.2.2.1 x.2.2.2.2) [[2,0,1,3,4,5,6,7,8,9,10,11],[2,0,1,4,3,5,6,7,8,9,10,11],[2,0,4,1,3,5,6,7,8,9,10,11],[2,4,0,1,3,5,6,7,8,9,10,11]] (O (fun x=>by kernel_rfl) (O (fun x=>by kernel_rfl) (O (fun x=>by kernel_rfl) (O (fun x=>by kernel_rfl) (N))))))) (X h)) (X h)) (X h)) (X h)) (X h)) (X h)) (X h)) (X h)) (X h)) (X h)) (Q (X h) (K h f5d15 (fun x=>laws_FnExactChunkRead.d15 k x.1.1 x.1.2.2.2.2.1 x.1.2.2.2.2.2.2.2.2 x.2.1 x.2.2.1 x.2.2.2.1 x.2.2.2.2.1 x.2.2.2.2.2.1 x.2.2.2.2.2.2.1 x.2.2.2.2.2.2.2) [[0,1,2,3,4],[1,0,2,3,4],[1,2,0,3,4]] (O (fun x=>by kernel_rfl) (O (fun x=>by kernel_rfl) (O (fun x=>by kernel_rfl) (N))))))) (X h)) (X h)) (K h f5d10 (fun x=>laws_FnExactChunkRead.d10 k x.1.1 x.1.2.2.2.2.1 x.2.1 x.2.2.1 x.2.2.2.1 x.2.2.2.2.1 x.2.2.2.2.2.1 x.2.2.2.2.2.2) [[2,0,1,3,4,5,6,7,8,9],[2,0,3,1,4,5,6,7,8,9],[2,3,0,1,4,5,6,7,8,9]] (O (fun x=>by kernel_rfl) (O (fun x=>by kernel_rfl) (O (fun x=>by kernel_rfl) (N)))))) (X h)) (X h)) (K h f5d7 (fun x=>laws_FnExactChunkRead.d7 k x.1.1 x.2.1 x.2.2) [[2,0,1,3,4,5,6,7,8,9,10,11],[2,0,1,4,3,5,6,7,8,9,10,11],[2,0,4,1,3,5,6,7,8,9,10,11],[2,4,0,1,3,5,6,7,8,9,10,11]] (O (fun x=>by kernel_rfl) (O (fun x=>by kernel_rfl) (O (fun x=>by kernel_rfl) (O (fun x=>by kernel_rfl) (N))))))) (X h)) (X h)) (X h)) (X h)) (X h)
def f5 (k:Nat):Fc Tryz.prog:=⟨5,_,f5ok k⟩
end Go.Proofs.YtohaijhiclmkkaaGreat
