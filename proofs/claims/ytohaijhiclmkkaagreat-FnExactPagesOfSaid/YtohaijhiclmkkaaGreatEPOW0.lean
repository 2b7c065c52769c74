/- walks through the claim's functions -/
import Derived.Test.YtohaijhiclmkkaaGreatBase
import Derived.Test.YtohaijhiclmkkaaGreatEPOF0
set_option linter.unusedVariables false
set_option maxRecDepth 100000
namespace Go.Proofs.YtohaijhiclmkkaaGreat
open Go.Am Go.Am.W Go.Fn
abbrev z0:CS:= .ro (.list 5 (.int .u8))
abbrev z1:CS:= .h 100
abbrev y2:Ty:= .int .i64
abbrev z3:CS:= .ro y2
abbrev w4:OS:= .sl 5 (.int .u8)
abbrev z5:CS:= .ro .bool
abbrev z6:CS:= .ro .str
abbrev u7:Ty:= .cons y2 .nil
abbrev y8:Ty:= .st (.cons y2 (.cons y2 (.cons y2 (.cons .str u7))))
abbrev w9:OS:= .sl 174 y8
abbrev y10:Ty:= .st (.cons .str (.cons y2 (.cons y2 u7)))
abbrev z11:CS:= .ro (.list 151 y10)
abbrev z12:CS:= .p 100
abbrev z13:CS:= .h 101
abbrev v14:CS:= .cons z3 .nil
abbrev z15:CS:= .agg (.cons z6 (.cons z3 (.cons z3 v14)))
abbrev w16:OS:= .box y10 z15
abbrev w17:OS:= .sl 9 .str
abbrev w18:OS:= .sl 3 y2
abbrev y19:Ty:= .st (.cons y2 (.cons y2 (.cons y2 (.cons y2 (.cons y2 (.cons (.list 3 y2) .nil))))))
abbrev z20:CS:= .ro (.list 3 y2)
abbrev w21:OS:= .box y19 (.agg (.cons z3 (.cons z3 (.cons z3 (.cons z3 (.cons z3 (.cons z20 .nil)))))))
abbrev z22:CS:= .p 102
abbrev y23:Ty:= .st (.cons y2 (.cons (.list 51 y19) .nil))
abbrev y24:Ty:= .st (.cons (.list 151 y10) (.cons y2 (.cons (.list 121 y23) .nil)))
abbrev z25:CS:= .ro (.list 121 y23)
abbrev w26:OS:= .box y24 (.agg (.cons z11 (.cons z3 (.cons z25 .nil))))
abbrev z27:CS:= .ro (.list 51 y19)
abbrev w28:OS:= .box y23 (.agg (.cons z3 (.cons z27 .nil)))
abbrev z29:CS:= .ro (.list 174 y8)
abbrev z30:CS:= .agg (.cons z3 (.cons z3 (.cons z3 (.cons z6 v14))))
abbrev w31:OS:= .box y8 z30
abbrev z32:CS:= .p 101
abbrev w33:OS:= .sl 151 y10
abbrev z34:CS:= .h 102
abbrev v35:CS:= .cons z3 (.cons z34 .nil)
abbrev w36:OS:= .box y19 (.agg (.cons z3 (.cons z3 (.cons z3 (.cons z3 v35)))))
abbrev z37:CS:= .h 103
abbrev v38:CS:= .cons z3 (.cons z37 .nil)
abbrev w39:OS:= .box y19 (.agg (.cons z3 (.cons z3 (.cons z3 (.cons z3 v38)))))
abbrev v40:CS:= .cons z3 (.cons (.h 104) .nil)
abbrev w41:OS:= .box y19 (.agg (.cons z3 (.cons z3 (.cons z3 (.cons z3 v40)))))
abbrev v42:CS:= .cons z3 (.cons (.h 105) .nil)
abbrev w43:OS:= .box y19 (.agg (.cons z3 (.cons z3 (.cons z3 (.cons z3 v42)))))
abbrev v44:CS:= .cons z3 (.cons (.h 106) .nil)
abbrev w45:OS:= .box y19 (.agg (.cons z3 (.cons z3 (.cons z3 (.cons z3 v44)))))
abbrev v46:CS:= .cons z3 (.cons (.h 107) .nil)
abbrev w47:OS:= .box y19 (.agg (.cons z3 (.cons z3 (.cons z3 (.cons z3 v46)))))
abbrev z48:CS:= .agg (.cons z3 (.cons z3 (.cons z3 (.cons z3 (.cons z3 (.cons z1 .nil))))))
abbrev z49:CS:= .p 104
abbrev w50:OS:= .box y24 (.agg (.cons (.h 107) (.cons z3 (.cons (.h 108) .nil))))
abbrev w51:OS:= .sl 121 y23
abbrev w52:OS:= .sl 51 y19
abbrev z53:CS:= .agg (.cons z1 (.cons z3 (.cons z13 .nil)))
abbrev z54:CS:= .agg (.cons z3 (.cons z3 v14))
abbrev y55:Ty:= .st (.cons y2 (.cons y2 u7))
abbrev z56:CS:= .ro y55
abbrev y57:Ty:= .st (.cons y2 (.cons .str .nil))
abbrev z58:CS:= .agg (.cons z3 (.cons z6 .nil))
abbrev w59:OS:= .box y57 z58
abbrev w60:OS:= .sl 93 y57
abbrev z61:CS:= .ro y57
abbrev z62:CS:= .ro (.list 93 y57)
abbrev y63:Ty:= .st (.cons y2 (.cons .bool (.cons y57 (.cons y57 .nil))))
abbrev w64:OS:= .box y55 z54
abbrev z65:CS:= .agg (.cons z3 (.cons z5 (.cons z58 (.cons z58 .nil))))
abbrev w66:OS:= .box y63 z65
abbrev y67:Ty:= .st (.cons y2 (.cons y2 (.cons y2 (.cons y2 (.cons y2 (.cons y2 (.cons y2 (.cons y2 (.cons .bool (.cons y2 (.cons .bool (.cons y63 u7))))))))))))
abbrev z68:CS:= .agg (.cons z3 (.cons z3 (.cons z3 (.cons z3 (.cons z3 (.cons z3 (.cons z3 (.cons z3 (.cons z5 (.cons z3 (.cons z5 (.cons z65 v14))))))))))))
abbrev w69:OS:= .box y67 z68
abbrev w70:OS:= .box y24 (.agg (.cons z13 v35))
abbrev z71:CS:= .p 0
abbrev y72:Ty:= .st (.cons (.list 5 (.int .u8)) (.cons y2 (.cons (.list 174 y8) u7)))
abbrev w73:OS:= .box y72 (.agg (.cons z0 (.cons z3 (.cons (.h 10) v14))))
abbrev w74:OS:= .box y72 (.agg (.cons z0 (.cons z3 (.cons z1 v14))))
abbrev y75:Ty:= .st (.cons (.list 174 y8) (.cons (.list 3 y2) .nil))
abbrev z76:CS:= .agg (.cons z29 (.cons (.h 10) .nil))
abbrev w77:OS:= .box y75 z76
abbrev w78:OS:= .obox y75 z76
abbrev y79:Ty:= .st (.cons .ptr (.cons .bool .nil))
abbrev w80:OS:= .box y79 (.agg (.cons (.p 10) (.cons z5 .nil)))
abbrev z81:CS:= .agg (.cons z29 (.cons (.h 11) .nil))
abbrev w82:OS:= .box y75 z81
abbrev z83:CS:= .ro (.list 9 .str)
abbrev y84:Ty:= .st (.cons .ptr (.cons y2 (.cons .bool .nil)))
abbrev v85:CS:= .cons z3 (.cons z5 .nil)
abbrev w86:OS:= .box y84 (.agg (.cons (.p 10) v85))
abbrev w87:OS:= .box y84 (.agg (.cons (.p 105) v85))
abbrev w88:OS:= .box y75 (.agg (.cons z29 (.cons (.h 106) .nil)))
abbrev w89:OS:= .box y75 (.agg (.cons z29 (.cons (.h 105) .nil)))
abbrev w90:OS:= .box y84 (.agg (.cons z22 v85))
abbrev w91:OS:= .box y24 (.agg (.cons z13 (.cons z3 (.cons z25 .nil))))
def f12s3:SS:=⟨[(0,z0),(3,z1),(4,z3)],[(100,w4)]⟩
def f12c (k:Nat):Con:=⟨⟨[(0,z0)],[]⟩,⟨[(0,z1)],[(100,w4)]⟩,1,1,fun x=>laws_toByteS k x⟩
theorem f12ok (k:Nat):FnOk Tryz.prog 12 (f12c k):=ok (cx [] 22 nb) Tryz.f12 fun h x=>Q (Q (Q (X h) (Q (B (L f12s3 (fun n x=>laws_toByteS.l3 k n x.1.1 x.1.2.2 x.2) k fun n3=>X h)) (X h))) (X h)) (X h)
def f12 (k:Nat):Fc Tryz.prog:=⟨12,_,f12ok k⟩
def f16s4:SS:=⟨[(0,z0),(1,z0),(5,z3)],[]⟩
def f16c (k:Nat):Con:=⟨⟨[(0,z0),(1,z0)],[]⟩,⟨[(0,z5)],[]⟩,2,1,fun x=>laws_eqByteS k x.1 x.2⟩
theorem f16ok (k:Nat):FnOk Tryz.prog 16 (f16c k):=ok (cx [] 26 nb) Tryz.f16 fun h x=>Q (Q (Q (X h) (Q (B (L f16s4 (fun n x=>laws_eqByteS.l4 k n x.1 x.2.1 x.2.2) k fun n4=>X h)) (X h))) (X h)) (X h)
def f16 (k:Nat):Fc Tryz.prog:=⟨16,_,f16ok k⟩
def f80c (k:Nat):Con:=⟨⟨[(0,z3),(1,z3),(2,z3)],[]⟩,⟨[(0,z5)],[]⟩,3,1,fun x=>spec_l1In k x.1 x.2.1 x.2.2⟩
theorem f80ok (k:Nat):FnOk Tryz.prog 80 (f80c k):=ok (cx [] 15 nb) Tryz.f80 fun h x=>X h
def f80 (k:Nat):Fc Tryz.prog:=⟨80,_,f80ok k⟩
def f125s5:SS:=⟨[(0,z0),(1,z3),(2,z3),(9,z3),(10,z3)],[]⟩
def f125c (k:Nat):Con:=⟨⟨[(0,z0),(1,z3),(2,z3)],[]⟩,⟨[(0,z3),(1,z3),(2,z5)],[]⟩,3,3,fun x=>spec_WordGet k x.1 x.2.1 x.2.2⟩
theorem f125ok (k:Nat):FnOk Tryz.prog 125 (f125c k):=ok (cx [f80 k] 53 nb) Tryz.f125 fun h x=>Q (Q (Q (Q (X h) (Q (B (L f125s5 (fun n x=>spec_WordGet.l5 k n x.1 x.2.1 x.2.2.1 x.2.2.2.1 x.2.2.2.2) k fun n5=>X h)) (X h))) (X h)) (X h)) (X h)
def f125 (k:Nat):Fc Tryz.prog:=⟨125,_,f125ok k⟩
def f242s5:SS:=⟨[(0,z0),(1,z3),(7,z3),(8,z3)],[]⟩
def f242c (k:Nat):Con:=⟨⟨[(0,z0),(1,z3)],[]⟩,⟨[(0,z3),(1,z3),(2,z5)],[]⟩,2,3,fun x=>spec_UvarGet k x.1 x.2⟩
theorem f242ok (k:Nat):FnOk Tryz.prog 242 (f242c k):=ok (cx [] 57 nb) Tryz.f242 fun h x=>Q (Q (Q (Q (X h) (Q (B (L f242s5 (fun n x=>spec_UvarGet.l5 k n x.1 x.2.1 x.2.2.1 x.2.2.2) k fun n5=>X h)) (X h))) (X h)) (X h)) (X h)
def f242 (k:Nat):Fc Tryz.prog:=⟨242,_,f242ok k⟩
def f243c (k:Nat):Con:=⟨⟨[(0,z3),(1,z3)],[]⟩,⟨[(0,z3)],[]⟩,2,1,fun x=>spec_l2Down k x.1 x.2⟩
theorem f243ok (k:Nat):FnOk Tryz.prog 243 (f243c k):=ok (cx [] 16 nb) Tryz.f243 fun h x=>X h
def f243 (k:Nat):Fc Tryz.prog:=⟨243,_,f243ok k⟩
def f293c (k:Nat):Con:=⟨⟨[(0,z3)],[]⟩,⟨[(0,z3)],[]⟩,1,1,fun x=>spec_Zag k x⟩
theorem f293ok (k:Nat):FnOk Tryz.prog 293 (f293c k):=ok (cx [f243 k] 11 nb) Tryz.f293 fun h x=>X h
def f293 (k:Nat):Fc Tryz.prog:=⟨293,_,f293ok k⟩
def f233c (k:Nat):Con:=⟨⟨[(0,z0),(1,z3)],[]⟩,⟨[(0,z3),(1,z3),(2,z5)],[]⟩,2,3,fun x=>spec_ZigGet k x.1 x.2⟩
theorem f233ok (k:Nat):FnOk Tryz.prog 233 (f233c k):=ok (cx [f242 k,f293 k] 22 nb) Tryz.f233 fun h x=>X h
def f233 (k:Nat):Fc Tryz.prog:=⟨233,_,f233ok k⟩
def f234c (k:Nat):Con:=⟨⟨[(0,z3)],[]⟩,⟨[(0,z5)],[]⟩,1,1,fun x=>spec_l4Int k x⟩
theorem f234ok (k:Nat):FnOk Tryz.prog 234 (f234c k):=ok (cx [f80 k] 5 nb) Tryz.f234 fun h x=>X h
def f234 (k:Nat):Fc Tryz.prog:=⟨234,_,f234ok k⟩
def f235c (k:Nat):Con:=⟨⟨[(0,z0),(1,z3)],[]⟩,⟨[(0,z6),(1,z3),(2,z3)],[]⟩,2,3,fun x=>spec_l4Text k x.1 x.2⟩
theorem f235ok (k:Nat):FnOk Tryz.prog 235 (f235c k):=ok (cx [f242 k] 44 nb) Tryz.f235 fun h x=>X h
def f235 (k:Nat):Fc Tryz.prog:=⟨235,_,f235ok k⟩
def f295s9:SS:=⟨[(4,z5)],[]⟩
def f295c (k:Nat):Con:=⟨⟨[(0,z3)],[]⟩,⟨[(0,z5)],[]⟩,1,1,fun x=>spec_l4Kind k x⟩
theorem f295ok (k:Nat):FnOk Tryz.prog 295 (f295c k):=ok (cx [] 12 nb) Tryz.f295 fun h x=>Q (Q (X h) (Q (B (Q (T (X h) f295s9 fun x=>spec_l4Kind.c9 k x) (X h))) (X h))) (X h)
def f295 (k:Nat):Fc Tryz.prog:=⟨295,_,f295ok k⟩
def f294c (k:Nat):Con:=⟨⟨[(0,z3)],[]⟩,⟨[(0,z5)],[]⟩,1,1,fun x=>spec_l4Item k x⟩
theorem f294ok (k:Nat):FnOk Tryz.prog 294 (f294c k):=ok (cx [f295 k] 13 nb) Tryz.f294 fun h x=>X h
def f294 (k:Nat):Fc Tryz.prog:=⟨294,_,f294ok k⟩
def f236s11:SS:=⟨[(1,z3),(8,z3),(9,z3)],[]⟩
def f236c (k:Nat):Con:=⟨⟨[(0,z0),(1,z3)],[]⟩,⟨[(0,z3),(1,z3),(2,z3),(3,z3)],[]⟩,2,4,fun x=>spec_l4Many k x.1 x.2⟩
theorem f236ok (k:Nat):FnOk Tryz.prog 236 (f236c k):=ok (cx [f242 k,f294 k] 62 nb) Tryz.f236 fun h x=>Q (Q (Q (Q (Q (T (X h) f236s11 fun x=>spec_l4Many.c11 k x.1 x.2.1 x.2.2) (X h)) (X h)) (X h)) (X h)) (X h)
def f236 (k:Nat):Fc Tryz.prog:=⟨236,_,f236ok k⟩
def f237s16:SS:=⟨[(1,z3),(2,z3),(10,z3),(12,z3)],[]⟩
def f237c (k:Nat):Con:=⟨⟨[(0,z0),(1,z3),(2,z3)],[]⟩,⟨[(0,z3),(1,z3),(2,z3),(3,z3)],[]⟩,3,4,fun x=>spec_l4Head k x.1 x.2.1 x.2.2⟩
theorem f237ok (k:Nat):FnOk Tryz.prog 237 (f237c k):=ok (cx [f80 k,f233 k,f295 k] 71 nb) Tryz.f237 fun h x=>Q (Q (Q (Q (Q (Q (Q (Q (T (X h) f237s16 fun x=>spec_l4Head.c16 k x.1 x.2.1 x.2.2.1 x.2.2.2) (X h)) (X h)) (X h)) (X h)) (X h)) (X h)) (X h)) (X h)
def f237 (k:Nat):Fc Tryz.prog:=⟨237,_,f237ok k⟩
def f162s24:SS:=⟨[(0,z0),(4,z3),(5,z1),(22,z3),(23,z3),(24,z3),(25,z3),(26,z3)],[(100,w9)]⟩
def f162s30:SS:=⟨[(0,z0),(1,z3),(4,z3),(5,z1),(15,z3),(27,z3),(28,z3)],[(100,w9)]⟩
def f162s8:SS:=⟨[(0,z0),(1,z3),(2,z3),(4,z3),(5,z1),(15,z3),(49,z3),(50,z5)],[(100,w9)]⟩
def f162con (F:(List Int)→Int→Int→Int→Int→(List TNode)→Option ((Unit×Int×Int)×(List TNode))):Con:=⟨⟨[(0,z0),(1,z3),(2,z3),(3,z3),(4,z3),(5,(.h 10))],[(10,w9)]⟩,⟨[(0,z1),(1,z3),(2,z3)],[(100,w9)]⟩,6,3,fun x=>F x.1.1 x.1.2.1 x.1.2.2.1 x.1.2.2.2.1 x.1.2.2.2.2.1 x.2⟩
theorem f162okb (k:Nat) (S162:(List Int)→Int→Int→Int→Int→(List TNode)→Option ((Unit×Int×Int)×(List TNode))) (h162:FnOk Tryz.prog 162 (f162con S162)):FnOk Tryz.prog 162 (f162con (spec_l4Read.b k S162)):=ok (cx [⟨162,_,h162⟩,f233 k,f234 k,f235 k,f236 k,f237 k] 183 nb) Tryz.f162 fun h x=>Q (Q (Q (Q (Q (X h) (Q (B (Q (T (D (X h) (Q (D (X h) (Q (D (Q (Q (Q (Q (X h) (Q (B (L f162s24 (fun n x=>spec_l4Read.l24 k S162 n x.1.1 x.1.2.1 x.1.2.2.2.1 x.1.2.2.2.2.1 x.1.2.2.2.2.2.1 x.1.2.2.2.2.2.2.1 x.1.2.2.2.2.2.2.2 x.2) k fun n24=>X h)) (X h))) (X h)) (X h)) (X h)) (Q (D (Q (B (L f162s30 (fun n x=>spec_l4Read.l30 k S162 n x.1.1 x.1.2.1 x.1.2.2.1 x.1.2.2.2.2.1 x.1.2.2.2.2.2.1 x.1.2.2.2.2.2.2 x.2) k fun n30=>X h)) (X h)) (X h)) (X h))) (X h))) (X h))) f162s8 fun x=>spec_l4Read.c8 k S162 x.1.1 x.1.2.1 x.1.2.2.1 x.1.2.2.2.1 x.1.2.2.2.2.2.1 x.1.2.2.2.2.2.2.1 x.1.2.2.2.2.2.2.2 x.2) (X h))) (X h))) (X h)) (X h)) (X h)) (X h)
theorem f162rec (k:Nat):∀d,FnOk Tryz.prog 162 (f162con (spec_l4Read.d k d))
 |0=>FnOk_none (fun _=>rfl)
 |d+1=>let ih:=f162rec k d
  f162okb k (spec_l4Read.d k d) ih
theorem f162ok (k:Nat):FnOk Tryz.prog 162 (f162con (spec_l4Read k)):=(f162rec k k)
def f162 (k:Nat):Fc Tryz.prog:=⟨162,_,f162ok k⟩
def f107c (k:Nat):Con:=⟨⟨[(0,z0),(1,z3)],[]⟩,⟨[(0,z1),(1,z3),(2,z3)],[(100,w9)]⟩,2,3,fun x=>spec_TreeRead k x.1 x.2⟩
theorem f107ok (k:Nat):FnOk Tryz.prog 107 (f107c k):=ok (cx [f162 k] 34 nb) Tryz.f107 fun h x=>X h
def f107 (k:Nat):Fc Tryz.prog:=⟨107,_,f107ok k⟩
def f163s7:SS:=⟨[(4,z5)],[]⟩
def f163c (k:Nat):Con:=⟨⟨[(0,z3)],[]⟩,⟨[(0,z5)],[]⟩,1,1,fun x=>spec_l5Type k x⟩
theorem f163ok (k:Nat):FnOk Tryz.prog 163 (f163c k):=ok (cx [] 10 nb) Tryz.f163 fun h x=>Q (Q (X h) (Q (B (Q (T (X h) f163s7 fun x=>spec_l5Type.c7 k x) (X h))) (X h))) (X h)
def f163 (k:Nat):Fc Tryz.prog:=⟨163,_,f163ok k⟩
def f277s4:SS:=⟨[(0,z6),(3,z3)],[]⟩
def f277c (k:Nat):Con:=⟨⟨[(0,z6)],[]⟩,⟨[(0,z5)],[]⟩,1,1,fun x=>spec_l5Name k x⟩
theorem f277ok (k:Nat):FnOk Tryz.prog 277 (f277c k):=ok (cx [f80 k] 24 nb) Tryz.f277 fun h x=>Q (Q (Q (X h) (Q (B (L f277s4 (fun n x=>spec_l5Name.l4 k n x.1 x.2) k fun n4=>X h)) (X h))) (X h)) (X h)
def f277 (k:Nat):Fc Tryz.prog:=⟨277,_,f277ok k⟩
def f210s20:SS:=⟨[(0,z11),(2,z3),(7,z12),(8,z3),(9,z13),(10,z3),(11,z3)],[(100,w16),(101,w17)]⟩
def f210s15:SS:=⟨[(0,z11),(2,z3),(7,z12),(8,z3),(9,z13),(10,z3)],[(100,w16),(101,w17)]⟩
def f210con (F:(List TCol)→Int→Int→Option Int):Con:=⟨⟨[(0,z11),(1,z3),(2,z3)],[]⟩,⟨[(0,z3)],[]⟩,3,1,fun x=>F x.1 x.2.1 x.2.2⟩
theorem f210okb (k:Nat) (S210:(List TCol)→Int→Int→Option Int) (h210:FnOk Tryz.prog 210 (f210con S210)):FnOk Tryz.prog 210 (f210con (spec_l5Check.b k S210)):=ok (cx [f80 k,f163 k,⟨210,_,h210⟩,f277 k] 119 nb) Tryz.f210 fun h x=>Q (Q (Q (Q (Q (Q (Q (Q (Q (X h) (Q (B (L f210s15 (fun n x=>spec_l5Check.l15 k S210 n x.1.1 x.1.2.1 x.1.2.2.2.1 x.1.2.2.2.2.2 x.2.1 x.2.2) k fun n15=>Q (Q (X h) (B (Q (Q (X h) (Q (B (L f210s20 (fun n x=>spec_l5Check.l20 k S210 (spec_l5Check.l15 k S210 n15) n x.1.1 x.1.2.1 x.1.2.2.2.1 x.1.2.2.2.2.2.1 x.1.2.2.2.2.2.2 x.2.1 x.2.2) k fun n20=>X h)) (X h))) (X h)))) (X h))) (X h))) (X h)) (X h)) (X h)) (X h)) (X h)) (X h)) (X h)) (X h)
theorem f210rec (k:Nat):∀d,FnOk Tryz.prog 210 (f210con (spec_l5Check.d k d))
 |0=>FnOk_none (fun _=>rfl)
 |d+1=>let ih:=f210rec k d
  f210okb k (spec_l5Check.d k d) ih
theorem f210ok (k:Nat):FnOk Tryz.prog 210 (f210con (spec_l5Check k)):=(f210rec k k)
def f210 (k:Nat):Fc Tryz.prog:=⟨210,_,f210ok k⟩
def f137c (k:Nat):Con:=⟨⟨[(0,z11)],[]⟩,⟨[(0,z5)],[]⟩,1,1,fun x=>spec_SchemaOk k x⟩
theorem f137ok (k:Nat):FnOk Tryz.prog 137 (f137c k):=ok (cx [f80 k,f210 k] 13 nb) Tryz.f137 fun h x=>X h
def f137 (k:Nat):Fc Tryz.prog:=⟨137,_,f137ok k⟩
def f205s4:SS:=⟨[(0,z11),(3,z1),(4,z3)],[(100,w18)]⟩
def f205s3:SS:=⟨[(0,z11),(3,z1),(4,z3)],[(100,w18)]⟩
def f205c (k:Nat):Con:=⟨⟨[(0,z11)],[]⟩,⟨[(0,z1)],[(100,w18)]⟩,1,1,fun x=>spec_l5Leaves k x⟩
theorem f205ok (k:Nat):FnOk Tryz.prog 205 (f205c k):=ok (cx [] 23 nb) Tryz.f205 fun h x=>Q (Q (Q (X h) (Q (B (L f205s3 (fun n x=>spec_l5Leaves.l3 k n x.1.1 x.1.2.2 x.2) k fun n3=>Q (Q (T (X h) f205s4 fun x=>spec_l5Leaves.c4 k (spec_l5Leaves.l3 k n3) x.1.1 x.1.2.2 x.2) (X h)) (X h))) (X h))) (X h)) (X h)
def f205 (k:Nat):Fc Tryz.prog:=⟨205,_,f205ok k⟩
def f127c (k:Nat):Con:=⟨⟨[(0,z11)],[]⟩,⟨[(0,z1)],[(100,w18)]⟩,1,1,fun x=>spec_SchemaLeaves k x⟩
theorem f127ok (k:Nat):FnOk Tryz.prog 127 (f127c k):=ok (cx [f137 k,f205 k] 9 nb) Tryz.f127 fun h x=>X h
def f127 (k:Nat):Fc Tryz.prog:=⟨127,_,f127ok k⟩
def f138d6:SS:=⟨[(2,z12),(5,z3)],[(100,w21)]⟩
def f138s4:SS:=⟨[(2,z12),(5,z3)],[(100,w21)]⟩
def f138c (k:Nat):Con:=⟨⟨[(0,(.ro y19)),(1,z3)],[]⟩,⟨[(0,z5)],[]⟩,2,1,fun x=>spec_l18Chunk k x.1 x.2⟩
theorem f138ok (k:Nat):FnOk Tryz.prog 138 (f138c k):=ok (cx [f80 k] 73 nb) Tryz.f138 fun h x=>Q (Q (Q (X h) (Q (B (L f138s4 (fun n x=>spec_l18Chunk.l4 k n x.1.2 x.2) k fun n4=>Q (Q (X h) (B (Q (X h) (K h f138d6 (fun x=>spec_l18Chunk.d6 k (spec_l18Chunk.l4 k n4) x.1.2 x.2) [[0,2,1,3,4,5,6,7,8,9,10,11,12,13,14,15,16,17,18,19,20,21,22,23,24]] (O (fun x=>by kernel_rfl) (N)))))) (X h))) (X h))) (X h)) (X h)
def f138 (k:Nat):Fc Tryz.prog:=⟨138,_,f138ok k⟩
def f79s13:SS:=⟨[(1,z12),(3,z13),(4,z3),(5,z3),(6,z22),(7,z3)],[(100,w26),(101,w18),(102,w28)]⟩
def f79s6:SS:=⟨[(1,z12),(3,z13),(4,z3),(5,z3)],[(100,w26),(101,w18)]⟩
def f79c (k:Nat):Con:=⟨⟨[(0,(.ro y24))],[]⟩,⟨[(0,z5)],[]⟩,1,1,fun x=>spec_MetaOk k x⟩
theorem f79ok (k:Nat):FnOk Tryz.prog 79 (f79c k):=ok (cx [f80 k,f127 k,f137 k,f138 k] 74 nb) Tryz.f79 fun h x=>Q (Q (Q (Q (Q (X h) (Q (B (L f79s6 (fun n x=>spec_MetaOk.l6 k n x.1.2.2.1 x.1.2.2.2 x.2.1 x.2.2) k fun n6=>Q (Q (X h) (B (Q (Q (Q (Q (B (L f79s13 (fun n x=>spec_MetaOk.l13 k (spec_MetaOk.l6 k n6) n x.1.2.2.1 x.1.2.2.2.1 x.1.2.2.2.2.2 x.2.1 x.2.2.1 x.2.2.2) k fun n13=>X h)) (X h)) (X h)) (X h)) (X h)))) (X h))) (X h))) (X h)) (X h)) (X h)) (X h)
def f79 (k:Nat):Fc Tryz.prog:=⟨79,_,f79ok k⟩
def f165s3:SS:=⟨[(0,z29),(1,z3),(5,z3),(6,z3)],[]⟩
def f165con (F:(List TNode)→Int→Option Int):Con:=⟨⟨[(0,z29),(1,z3)],[]⟩,⟨[(0,z3)],[]⟩,2,1,fun x=>F x.1 x.2⟩
theorem f165okb (k:Nat) (S165:(List TNode)→Int→Option Int) (h165:FnOk Tryz.prog 165 (f165con S165)):FnOk Tryz.prog 165 (f165con (spec_l4After.b k S165)):=ok (cx [⟨165,_,h165⟩] 22 nb) Tryz.f165 fun h x=>Q (Q (Q (X h) (Q (B (L f165s3 (fun n x=>spec_l4After.l3 k S165 n x.1 x.2.1 x.2.2.1 x.2.2.2) k fun n3=>X h)) (X h))) (X h)) (X h)
theorem f165rec (k:Nat):∀d,FnOk Tryz.prog 165 (f165con (spec_l4After.d k d))
 |0=>FnOk_none (fun _=>rfl)
 |d+1=>let ih:=f165rec k d
  f165okb k (spec_l4After.d k d) ih
theorem f165ok (k:Nat):FnOk Tryz.prog 165 (f165con (spec_l4After k)):=(f165rec k k)
def f165 (k:Nat):Fc Tryz.prog:=⟨165,_,f165ok k⟩
def f110s5:SS:=⟨[(0,z29),(1,z3),(2,z3),(7,z3),(8,z3)],[]⟩
def f110c (k:Nat):Con:=⟨⟨[(0,z29),(1,z3),(2,z3)],[]⟩,⟨[(0,z3)],[]⟩,3,1,fun x=>spec_l4Find k x.1 x.2.1 x.2.2⟩
theorem f110ok (k:Nat):FnOk Tryz.prog 110 (f110c k):=ok (cx [f165 k] 37 nb) Tryz.f110 fun h x=>Q (Q (Q (Q (X h) (Q (B (L f110s5 (fun n x=>spec_l4Find.l5 k n x.1 x.2.1 x.2.2.1 x.2.2.2.1 x.2.2.2.2) k fun n5=>X h)) (X h))) (X h)) (X h)) (X h)
def f110 (k:Nat):Fc Tryz.prog:=⟨110,_,f110ok k⟩
def f164c (k:Nat):Con:=⟨⟨[(0,z29),(1,z3),(2,z3)],[]⟩,⟨[(0,z3),(1,z5)],[]⟩,3,2,fun x=>spec_l4NumOf k x.1 x.2.1 x.2.2⟩
theorem f164ok (k:Nat):FnOk Tryz.prog 164 (f164c k):=ok (cx [f110 k] 36 nb) Tryz.f164 fun h x=>X h
def f164 (k:Nat):Fc Tryz.prog:=⟨164,_,f164ok k⟩
def f327s4:SS:=⟨[(1,z12),(4,z3),(5,z5)],[(100,w31)]⟩
def f327c (k:Nat):Con:=⟨⟨[(0,(.ro y8))],[]⟩,⟨[(0,z5)],[]⟩,1,1,fun x=>spec_l4Plain k x⟩
theorem f327ok (k:Nat):FnOk Tryz.prog 327 (f327c k):=ok (cx [f234 k,f294 k] 107 nb) Tryz.f327 fun h x=>Q (Q (X h) (Q (B (Q (T (X h) f327s4 fun x=>spec_l4Plain.c4 k x.1.2.1 x.1.2.2 x.2) (X h))) (X h))) (X h)
def f327 (k:Nat):Fc Tryz.prog:=⟨327,_,f327ok k⟩
def f309s7:SS:=⟨[(0,z29),(2,z3),(7,z12),(8,z3),(9,z3),(10,z3)],[(100,w31)]⟩
def f309con (F:(List TNode)→Int→Int→Option Int):Con:=⟨⟨[(0,z29),(1,z3),(2,z3)],[]⟩,⟨[(0,z3)],[]⟩,3,1,fun x=>F x.1 x.2.1 x.2.2⟩
theorem f309okb (k:Nat) (S309:(List TNode)→Int→Int→Option Int) (h309:FnOk Tryz.prog 309 (f309con S309)):FnOk Tryz.prog 309 (f309con (spec_l4Check.b k S309)):=ok (cx [⟨309,_,h309⟩,f327 k] 89 nb) Tryz.f309 fun h x=>Q (Q (Q (Q (Q (Q (X h) (Q (B (L f309s7 (fun n x=>spec_l4Check.l7 k S309 n x.1.1 x.1.2.1 x.1.2.2.2.1 x.1.2.2.2.2.1 x.1.2.2.2.2.2 x.2) k fun n7=>X h)) (X h))) (X h)) (X h)) (X h)) (X h)) (X h)
theorem f309rec (k:Nat):∀d,FnOk Tryz.prog 309 (f309con (spec_l4Check.d k d))
 |0=>FnOk_none (fun _=>rfl)
 |d+1=>let ih:=f309rec k d
  f309okb k (spec_l4Check.d k d) ih
theorem f309ok (k:Nat):FnOk Tryz.prog 309 (f309con (spec_l4Check k)):=(f309rec k k)
def f309 (k:Nat):Fc Tryz.prog:=⟨309,_,f309ok k⟩
def f268c (k:Nat):Con:=⟨⟨[(0,z29)],[]⟩,⟨[(0,z5)],[]⟩,1,1,fun x=>spec_TreeOk k x⟩
theorem f268ok (k:Nat):FnOk Tryz.prog 268 (f268c k):=ok (cx [f80 k,f309 k] 26 nb) Tryz.f268 fun h x=>X h
def f268 (k:Nat):Fc Tryz.prog:=⟨268,_,f268ok k⟩
def f238c (k:Nat):Con:=⟨⟨[(0,z29),(1,z3),(2,z3)],[]⟩,⟨[(0,z6),(1,z5)],[]⟩,3,2,fun x=>spec_l4TextOf k x.1 x.2.1 x.2.2⟩
theorem f238ok (k:Nat):FnOk Tryz.prog 238 (f238c k):=ok (cx [f110 k] 28 nb) Tryz.f238 fun h x=>X h
def f238 (k:Nat):Fc Tryz.prog:=⟨238,_,f238ok k⟩
def f310s12:SS:=⟨[(0,z29),(1,z3),(6,z12),(9,z5),(11,z5),(13,z5),(15,z5),(16,z32)],[(100,w16),(101,w16)]⟩
def f310s9:SS:=⟨[(0,z29),(1,z3),(6,z12),(9,z5),(11,z5),(12,z3),(13,z5),(15,z5),(16,z32)],[(100,w16),(101,w16)]⟩
def f310c (k:Nat):Con:=⟨⟨[(0,z29),(1,z3),(2,z5)],[]⟩,⟨[(0,z15),(1,z5)],[]⟩,3,2,fun x=>spec_l5Col k x.1 x.2.1 x.2.2⟩
theorem f310ok (k:Nat):FnOk Tryz.prog 310 (f310c k):=ok (cx [f110 k,f164 k,f238 k] 82 nb) Tryz.f310 fun h x=>Q (Q (Q (Q (Q (Q (Q (T (Q (T (X h) f310s12 fun x=>spec_l5Col.c12 k x.1.1 x.1.2.1 x.1.2.2.2.1 x.1.2.2.2.2.1 x.1.2.2.2.2.2.1 x.1.2.2.2.2.2.2.1 x.2.1 x.2.2) (X h)) f310s9 fun x=>spec_l5Col.c9 k x.1.1 x.1.2.1 x.1.2.2.2.1 x.1.2.2.2.2.1 x.1.2.2.2.2.2.1 x.1.2.2.2.2.2.2.1 x.1.2.2.2.2.2.2.2.1 x.2.1 x.2.2) (X h)) (X h)) (X h)) (X h)) (X h)) (X h)) (X h)
def f310 (k:Nat):Fc Tryz.prog:=⟨310,_,f310ok k⟩
def f269s8:SS:=⟨[(0,z29),(8,z1),(9,z3),(10,z13),(11,z3),(12,z3)],[(100,w33),(101,w33)]⟩
def f269c (k:Nat):Con:=⟨⟨[(0,z29),(1,z3),(2,z3)],[]⟩,⟨[(0,z1),(1,z5)],[(100,w33)]⟩,3,2,fun x=>spec_l5Of k x.1 x.2.1 x.2.2⟩
theorem f269ok (k:Nat):FnOk Tryz.prog 269 (f269c k):=ok (cx [f110 k,f137 k,f165 k,f310 k] 74 nb) Tryz.f269 fun h x=>Q (Q (Q (Q (Q (Q (Q (X h) (Q (B (L f269s8 (fun n x=>spec_l5Of.l8 k n x.1.1 x.1.2.2.1 x.1.2.2.2.2.1 x.1.2.2.2.2.2 x.2.1 x.2.2) k fun n8=>X h)) (X h))) (X h)) (X h)) (X h)) (X h)) (X h)) (X h)
def f269 (k:Nat):Fc Tryz.prog:=⟨269,_,f269ok k⟩
def f270s7:SS:=⟨[(0,z29),(10,z1),(11,z3),(12,z3),(13,z3)],[(100,w18)]⟩
def f270c (k:Nat):Con:=⟨⟨[(0,z29),(1,z3),(2,z3),(3,z3)],[]⟩,⟨[(0,z1),(1,z5)],[(100,w18)]⟩,4,2,fun x=>spec_l18List k x.1 x.2.1 x.2.2.1 x.2.2.2⟩
theorem f270ok (k:Nat):FnOk Tryz.prog 270 (f270c k):=ok (cx [f110 k,f165 k] 66 nb) Tryz.f270 fun h x=>Q (Q (Q (Q (Q (Q (X h) (Q (B (L f270s7 (fun n x=>spec_l18List.l7 k n x.1.1 x.1.2.2.1 x.1.2.2.2.1 x.1.2.2.2.2 x.2) k fun n7=>X h)) (X h))) (X h)) (X h)) (X h)) (X h)) (X h)
def f270 (k:Nat):Fc Tryz.prog:=⟨270,_,f270ok k⟩
def f109s3:SS:=⟨[(0,z29),(1,z3),(2,z20),(8,z1),(9,z3)],[(100,w18)]⟩
def f109c (k:Nat):Con:=⟨⟨[(0,z29),(1,z3),(2,z20)],[]⟩,⟨[(0,z1),(1,z5)],[(100,w18)]⟩,3,2,fun x=>spec_l16Ids k x.1 x.2.1 x.2.2⟩
theorem f109ok (k:Nat):FnOk Tryz.prog 109 (f109c k):=ok (cx [f164 k] 37 nb) Tryz.f109 fun h x=>Q (Q (Q (X h) (Q (B (L f109s3 (fun n x=>spec_l16Ids.l3 k n x.1.1 x.1.2.1 x.1.2.2.1 x.1.2.2.2.2 x.2) k fun n3=>X h)) (X h))) (X h)) (X h)
def f109 (k:Nat):Fc Tryz.prog:=⟨109,_,f109ok k⟩
def f272s3:SS:=⟨[(0,z11),(1,z3),(5,z3),(6,z3)],[]⟩
def f272con (F:(List TCol)→Int→Option Int):Con:=⟨⟨[(0,z11),(1,z3)],[]⟩,⟨[(0,z3)],[]⟩,2,1,fun x=>F x.1 x.2⟩
theorem f272okb (k:Nat) (S272:(List TCol)→Int→Option Int) (h272:FnOk Tryz.prog 272 (f272con S272)):FnOk Tryz.prog 272 (f272con (spec_l5After.b k S272)):=ok (cx [⟨272,_,h272⟩] 22 nb) Tryz.f272 fun h x=>Q (Q (Q (X h) (Q (B (L f272s3 (fun n x=>spec_l5After.l3 k S272 n x.1 x.2.1 x.2.2.1 x.2.2.2) k fun n3=>X h)) (X h))) (X h)) (X h)
theorem f272rec (k:Nat):∀d,FnOk Tryz.prog 272 (f272con (spec_l5After.d k d))
 |0=>FnOk_none (fun _=>rfl)
 |d+1=>let ih:=f272rec k d
  f272okb k (spec_l5After.d k d) ih
theorem f272ok (k:Nat):FnOk Tryz.prog 272 (f272con (spec_l5After k)):=(f272rec k k)
def f272 (k:Nat):Fc Tryz.prog:=⟨272,_,f272ok k⟩
def f206s4:SS:=⟨[(0,z11),(1,z3),(5,z1),(6,z3)],[(100,w18)]⟩
def f206s3:SS:=⟨[(0,z11),(1,z3),(5,z1),(6,z3)],[(100,w18)]⟩
def f206c (k:Nat):Con:=⟨⟨[(0,z11),(1,z3)],[]⟩,⟨[(0,z1)],[(100,w18)]⟩,2,1,fun x=>spec_l5Way k x.1 x.2⟩
theorem f206ok (k:Nat):FnOk Tryz.prog 206 (f206c k):=ok (cx [f272 k] 23 nb) Tryz.f206 fun h x=>Q (Q (Q (X h) (Q (B (L f206s3 (fun n x=>spec_l5Way.l3 k n x.1.1 x.1.2.1 x.1.2.2.2 x.2) k fun n3=>Q (Q (T (X h) f206s4 fun x=>spec_l5Way.c4 k (spec_l5Way.l3 k n3) x.1.1 x.1.2.1 x.1.2.2.2 x.2) (X h)) (X h))) (X h))) (X h)) (X h)
def f206 (k:Nat):Fc Tryz.prog:=⟨206,_,f206ok k⟩
def f311s7:SS:=⟨[(0,z11),(5,z1),(7,z13),(8,z3)],[(100,w17),(101,w18)]⟩
def f311c (k:Nat):Con:=⟨⟨[(0,z11),(1,z3)],[]⟩,⟨[(0,z1)],[(100,w17)]⟩,2,1,fun x=>spec_LeafPath k x.1 x.2⟩
theorem f311ok (k:Nat):FnOk Tryz.prog 311 (f311c k):=ok (cx [f80 k,f127 k,f206 k] 43 nb) Tryz.f311 fun h x=>Q (Q (Q (Q (Q (Q (X h) (Q (B (L f311s7 (fun n x=>spec_LeafPath.l7 k n x.1.1 x.1.2.2.2 x.2.1 x.2.2) k fun n7=>X h)) (X h))) (X h)) (X h)) (X h)) (X h)) (X h)
def f311 (k:Nat):Fc Tryz.prog:=⟨311,_,f311ok k⟩
def f271s26:SS:=⟨[(8,z12),(20,z32)],[(100,w36),(101,w39),(102,w18),(103,w18)]⟩
def f271s18:SS:=⟨[(0,z29),(8,z12),(10,z32),(11,z3),(14,z34),(20,(.p 103)),(21,z3)],[(100,w41),(101,w43),(102,w18),(103,w45),(104,w18),(105,w18),(106,w18)]⟩
def f271s12:SS:=⟨[(0,z29),(3,z3),(8,z12),(10,z32),(11,z3),(12,z34),(14,z37),(16,(.h 104)),(18,(.h 105)),(19,z3)],[(100,w45),(101,w47),(102,w18),(103,w18),(104,w18),(105,w17),(106,w18),(107,w18)]⟩
def f271d9:SS:=⟨[(0,z29),(2,z11),(3,z3),(8,z12),(10,z32),(11,z3),(12,z34),(13,z5),(14,z37),(15,z5),(16,(.h 104)),(17,z5),(18,(.h 105))],[(100,w45),(101,w47),(102,w18),(103,w18),(104,w18),(105,w17),(106,w18),(107,w18)]⟩
def f271c (k:Nat):Con:=⟨⟨[(0,z29),(1,z3),(2,z11),(3,z3)],[]⟩,⟨[(0,z48),(1,z5)],[(100,w18)]⟩,4,2,fun x=>spec_l18From k x.1 x.2.1 x.2.2.1 x.2.2.2⟩
theorem f271ok (k:Nat):FnOk Tryz.prog 271 (f271c k):=ok (cx [f109 k,f110 k,f164 k,f205 k,f270 k,f311 k] 179 nb) Tryz.f271 fun h x=>Q (Q (Q (Q (Q (Q (Q (Q (Q (Q (Q (Q (Q (T (X h) f271s26 fun x=>spec_l18From.c26 k x.2.1 x.2.2.1 x.2.2.2.1 x.2.2.2.2) (X h)) (Q (B (L f271s18 (fun n x=>spec_l18From.l18 k n x.1.1 x.1.2.2.2.1 x.1.2.2.2.2.2.2 x.2.1 x.2.2.1 x.2.2.2.1 x.2.2.2.2.1 x.2.2.2.2.2.1 x.2.2.2.2.2.2.1 x.2.2.2.2.2.2.2) k fun n18=>X h)) (X h))) (X h)) (Q (B (L f271s12 (fun n x=>spec_l18From.l12 k n x.1.1 x.1.2.1 x.1.2.2.2.2.1 x.1.2.2.2.2.2.2.2.2.2 x.2.1 x.2.2.1 x.2.2.2.1 x.2.2.2.2.1 x.2.2.2.2.2.1 x.2.2.2.2.2.2.1 x.2.2.2.2.2.2.2.1 x.2.2.2.2.2.2.2.2) k fun n12=>X h)) (X h))) (Q (X h) (K h f271d9 (fun x=>spec_l18From.d9 k x.1.1 x.1.2.1 x.1.2.2.1 x.1.2.2.2.2.2.1 x.1.2.2.2.2.2.2.2.1 x.1.2.2.2.2.2.2.2.2.2.1 x.1.2.2.2.2.2.2.2.2.2.2.2.1 x.2.1 x.2.2.1 x.2.2.2.1 x.2.2.2.2.1 x.2.2.2.2.2.1 x.2.2.2.2.2.2.1 x.2.2.2.2.2.2.2.1 x.2.2.2.2.2.2.2.2) [[0,1,2,3,4,5,6,7,8,9,10,11,12,13,14,15,16,17,18,19,21,22,24,20,23,25,26,27,28,29,30,31,32,33,34,35,36,37,38,39,40,41,42,43,44,45,46],[0,1,2,3,4,5,6,7,8,9,10,11,12,13,14,15,16,17,18,19,21,22,24,23,20,25,26,27,28,29,30,31,32,33,34,35,36,37,38,39,40,41,42,43,44,45,46]] (O (fun x=>by kernel_rfl) (O (fun x=>by kernel_rfl) (N)))))) (X h)) (X h)) (X h)) (X h)) (X h)) (X h)) (X h)) (X h)
def f271 (k:Nat):Fc Tryz.prog:=⟨271,_,f271ok k⟩
def f204s19:SS:=⟨[(0,z29),(2,z12),(4,z32),(5,z34),(9,z37),(11,z49),(12,z3),(15,(.h 105)),(17,(.p 106)),(18,z3)],[(100,w50),(101,(.box y24 (.agg (.cons (.h 109) (.cons z3 (.cons (.h 110) .nil)))))),(102,w33),(103,w18),(104,(.box y24 (.agg (.cons z34 (.cons z3 (.cons (.h 111) .nil)))))),(105,w18),(106,(.box y23 (.agg (.cons z3 (.cons (.h 112) .nil))))),(107,w33),(108,w51),(109,w33),(110,w51),(111,w51),(112,w52)]⟩
def f204s11:SS:=⟨[(0,z29),(2,z12),(4,z32),(5,z34),(9,z37),(11,z49),(12,z3)],[(100,(.box y24 (.agg (.cons (.h 105) v44)))),(101,w50),(102,w33),(103,w18),(104,(.box y24 (.agg (.cons z34 (.cons z3 (.cons (.h 109) .nil)))))),(105,w33),(106,w51),(107,w33),(108,w51),(109,w51)]⟩
def f204c (k:Nat):Con:=⟨⟨[(0,z29)],[]⟩,⟨[(0,z53),(1,z5)],[(100,w33),(101,w51)]⟩,1,2,fun x=>spec_MetaFrom k x⟩
theorem f204ok (k:Nat):FnOk Tryz.prog 204 (f204c k):=ok (cx [f79 k,f164 k,f205 k,f268 k,f269 k,f270 k,f271 k] 133 nb) Tryz.f204 fun h x=>Q (Q (Q (Q (Q (Q (Q (Q (Q (X h) (Q (B (L f204s11 (fun n x=>spec_MetaFrom.l11 k n x.1.1 x.1.2.2.2.2.2.2 x.2.1 x.2.2.1 x.2.2.2.1 x.2.2.2.2.1 x.2.2.2.2.2.1 x.2.2.2.2.2.2.1 x.2.2.2.2.2.2.2.1 x.2.2.2.2.2.2.2.2.1 x.2.2.2.2.2.2.2.2.2.1 x.2.2.2.2.2.2.2.2.2.2) k fun n11=>Q (Q (X h) (B (Q (Q (Q (Q (Q (X h) (Q (B (L f204s19 (fun n x=>spec_MetaFrom.l19 k (spec_MetaFrom.l11 k n11) n x.1.1 x.1.2.2.2.2.2.2.1 x.1.2.2.2.2.2.2.2.2.2 x.2.1 x.2.2.1 x.2.2.2.1 x.2.2.2.2.1 x.2.2.2.2.2.1 x.2.2.2.2.2.2.1 x.2.2.2.2.2.2.2.1 x.2.2.2.2.2.2.2.2.1 x.2.2.2.2.2.2.2.2.2.1 x.2.2.2.2.2.2.2.2.2.2.1 x.2.2.2.2.2.2.2.2.2.2.2.1 x.2.2.2.2.2.2.2.2.2.2.2.2.1 x.2.2.2.2.2.2.2.2.2.2.2.2.2) k fun n19=>X h)) (X h))) (X h)) (X h)) (X h)) (X h)))) (X h))) (X h))) (X h)) (X h)) (X h)) (X h)) (X h)) (X h)) (X h)) (X h)
def f204 (k:Nat):Fc Tryz.prog:=⟨204,_,f204ok k⟩
def f126c (k:Nat):Con:=⟨⟨[(0,z0),(1,z3)],[]⟩,⟨[(0,z53),(1,z3),(2,z5)],[(100,w33),(101,w51)]⟩,2,3,fun x=>spec_MetaRead k x.1 x.2⟩
theorem f126ok (k:Nat):FnOk Tryz.prog 126 (f126c k):=ok (cx [f107 k,f204 k] 32 nb) Tryz.f126 fun h x=>X h
def f126 (k:Nat):Fc Tryz.prog:=⟨126,_,f126ok k⟩
def f67c (k:Nat):Con:=⟨⟨[(0,z0)],[]⟩,⟨[(0,z53),(1,z3)],[(100,w33),(101,w51)]⟩,1,2,fun x=>spec_FileMeta k x⟩
theorem f67ok (k:Nat):FnOk Tryz.prog 67 (f67c k):=ok (cx [f80 k,f125 k,f126 k] 67 nb) Tryz.f67 fun h x=>X h
def f67 (k:Nat):Fc Tryz.prog:=⟨67,_,f67ok k⟩
def f128s5:SS:=⟨[(0,z11),(6,z3),(7,z3),(8,z1),(9,z3)],[(100,w18)]⟩
def f128s8:SS:=⟨[(0,z11),(6,z3),(7,z3),(8,z1),(9,z3)],[(100,w18)]⟩
def f128s4:SS:=⟨[(0,z11),(6,z3),(7,z3),(8,z1),(9,z3)],[(100,w18)]⟩
def f128c (k:Nat):Con:=⟨⟨[(0,z11),(1,z3)],[]⟩,⟨[(0,z3),(1,z3)],[]⟩,2,2,fun x=>spec_l5Max k x.1 x.2⟩
theorem f128ok (k:Nat):FnOk Tryz.prog 128 (f128c k):=ok (cx [f206 k] 43 nb) Tryz.f128 fun h x=>Q (Q (Q (Q (X h) (Q (B (L f128s4 (fun n x=>spec_l5Max.l4 k n x.1.1 x.1.2.1 x.1.2.2.1 x.1.2.2.2.2 x.2) k fun n4=>Q (Q (T (X h) f128s5 fun x=>spec_l5Max.c5 k (spec_l5Max.l4 k n4) x.1.1 x.1.2.1 x.1.2.2.1 x.1.2.2.2.2 x.2) (B (Q (T (X h) f128s8 fun x=>spec_l5Max.c8 k (spec_l5Max.l4 k n4) x.1.1 x.1.2.1 x.1.2.2.1 x.1.2.2.2.2 x.2) (X h)))) (X h))) (X h))) (X h)) (X h)) (X h)
def f128 (k:Nat):Fc Tryz.prog:=⟨128,_,f128ok k⟩
def f68c (k:Nat):Con:=⟨⟨[(0,z11),(1,z3)],[]⟩,⟨[(0,z54),(1,z5)],[]⟩,2,2,fun x=>spec_LeafOf k x.1 x.2⟩
theorem f68ok (k:Nat):FnOk Tryz.prog 68 (f68c k):=ok (cx [f80 k,f127 k,f128 k] 38 nb) Tryz.f68 fun h x=>X h
def f68 (k:Nat):Fc Tryz.prog:=⟨68,_,f68ok k⟩
def f108c (k:Nat):Con:=⟨⟨[(0,z56)],[]⟩,⟨[(0,z5)],[]⟩,1,1,fun x=>spec_LeafOk k x⟩
theorem f108ok (k:Nat):FnOk Tryz.prog 108 (f108c k):=ok (cx [f80 k,f163 k] 18 nb) Tryz.f108 fun h x=>X h
def f108 (k:Nat):Fc Tryz.prog:=⟨108,_,f108ok k⟩
def f166c (k:Nat):Con:=⟨⟨[(0,z29),(1,z3)],[]⟩,⟨[(0,z3)],[]⟩,2,1,fun x=>spec_l16Part k x.1 x.2⟩
theorem f166ok (k:Nat):FnOk Tryz.prog 166 (f166c k):=ok (cx [f110 k] 20 nb) Tryz.f166 fun h x=>X h
def f166 (k:Nat):Fc Tryz.prog:=⟨166,_,f166ok k⟩
def f244c (k:Nat):Con:=⟨⟨[(0,z3),(1,z3)],[]⟩,⟨[(0,z3)],[]⟩,2,1,fun x=>spec_BitsSize k x.1 x.2⟩
theorem f244ok (k:Nat):FnOk Tryz.prog 244 (f244c k):=ok (cx [f80 k] 18 nb) Tryz.f244 fun h x=>X h
def f244 (k:Nat):Fc Tryz.prog:=⟨244,_,f244ok k⟩
def f245c (k:Nat):Con:=⟨⟨[(0,z0),(1,z3)],[]⟩,⟨[(0,z3)],[]⟩,2,1,fun x=>spec_l1Bit k x.1 x.2⟩
theorem f245ok (k:Nat):FnOk Tryz.prog 245 (f245c k):=ok (cx [] 15 nb) Tryz.f245 fun h x=>X h
def f245 (k:Nat):Fc Tryz.prog:=⟨245,_,f245ok k⟩
def f246s10:SS:=⟨[(0,z0),(1,z3),(2,z3),(3,z3),(11,z1),(12,z3),(13,z3),(14,z3),(15,z3)],[(100,w18)]⟩
def f246s6:SS:=⟨[(0,z0),(1,z3),(2,z3),(3,z3),(11,z1),(12,z3),(13,z3)],[(100,w18)]⟩
def f246c (k:Nat):Con:=⟨⟨[(0,z0),(1,z3),(2,z3),(3,z3)],[]⟩,⟨[(0,z1),(1,z3),(2,z5)],[(100,w18)]⟩,4,3,fun x=>spec_BitsRead k x.1 x.2.1 x.2.2.1 x.2.2.2⟩
theorem f246ok (k:Nat):FnOk Tryz.prog 246 (f246c k):=ok (cx [f80 k,f244 k,f245 k] 70 nb) Tryz.f246 fun h x=>Q (Q (Q (Q (Q (X h) (Q (B (L f246s6 (fun n x=>spec_BitsRead.l6 k n x.1.1 x.1.2.1 x.1.2.2.1 x.1.2.2.2.1 x.1.2.2.2.2.2.1 x.1.2.2.2.2.2.2 x.2) k fun n6=>Q (Q (X h) (B (Q (Q (X h) (Q (B (L f246s10 (fun n x=>spec_BitsRead.l10 k (spec_BitsRead.l6 k n6) n x.1.1 x.1.2.1 x.1.2.2.1 x.1.2.2.2.1 x.1.2.2.2.2.2.1 x.1.2.2.2.2.2.2.1 x.1.2.2.2.2.2.2.2.1 x.1.2.2.2.2.2.2.2.2 x.2) k fun n10=>X h)) (X h))) (X h)))) (X h))) (X h))) (X h)) (X h)) (X h)) (X h)
def f246 (k:Nat):Fc Tryz.prog:=⟨246,_,f246ok k⟩
def f247s6:SS:=⟨[(6,z12),(9,z3),(10,z3),(11,z5)],[(100,w59)]⟩
def f247c (k:Nat):Con:=⟨⟨[(0,z3),(1,z0),(2,z3)],[]⟩,⟨[(0,z58),(1,z3),(2,z5)],[]⟩,3,3,fun x=>spec_l7One k x.1 x.2.1 x.2.2⟩
theorem f247ok (k:Nat):FnOk Tryz.prog 247 (f247c k):=ok (cx [f125 k] 82 nb) Tryz.f247 fun h x=>Q (Q (X h) (Q (B (Q (D (Q (Q (T (X h) f247s6 fun x=>spec_l7One.c6 k x.1.2.1 x.1.2.2.1 x.1.2.2.2 x.2) (X h)) (X h)) (X h)) (X h))) (X h))) (X h)
def f247 (k:Nat):Fc Tryz.prog:=⟨247,_,f247ok k⟩
def f172s12:SS:=⟨[(0,z3),(1,z0),(2,z3),(3,z3),(11,z1),(16,z3)],[(100,w60)]⟩
def f172s7:SS:=⟨[(11,z1),(12,z13),(13,z3),(14,z5),(15,z3)],[(100,w60),(101,w18)]⟩
def f172c (k:Nat):Con:=⟨⟨[(0,z3),(1,z0),(2,z3),(3,z3)],[]⟩,⟨[(0,z1),(1,z3),(2,z5)],[(100,w60)]⟩,4,3,fun x=>spec_PlainRead k x.1 x.2.1 x.2.2.1 x.2.2.2⟩
theorem f172ok (k:Nat):FnOk Tryz.prog 172 (f172c k):=ok (cx [f80 k,f163 k,f246 k,f247 k] 87 nb) Tryz.f172 fun h x=>Q (Q (Q (Q (Q (X h) (Q (B (L f172s12 (fun n x=>spec_PlainRead.l12 k n x.1.1 x.1.2.1 x.1.2.2.1 x.1.2.2.2.1 x.1.2.2.2.2.2 x.2) k fun n12=>X h)) (X h))) (Q (D (Q (Q (X h) (Q (B (L f172s7 (fun n x=>spec_PlainRead.l7 k n x.1.2.2.1 x.1.2.2.2.1 x.1.2.2.2.2 x.2.1 x.2.2) k fun n7=>X h)) (X h))) (X h)) (X h)) (X h))) (X h)) (X h)) (X h)
def f172 (k:Nat):Fc Tryz.prog:=⟨172,_,f172ok k⟩
def f180s8:SS:=⟨[(3,z12),(5,z3),(26,z5)],[(100,w59)]⟩
def f180c (k:Nat):Con:=⟨⟨[(0,z3),(1,z61)],[]⟩,⟨[(0,z5)],[]⟩,2,1,fun x=>spec_ValOk k x.1 x.2⟩
theorem f180ok (k:Nat):FnOk Tryz.prog 180 (f180c k):=ok (cx [f80 k,f234 k] 43 nb) Tryz.f180 fun h x=>Q (Q (X h) (Q (B (Q (D (X h) (Q (D (X h) (Q (T (X h) f180s8 fun x=>spec_ValOk.c8 k x.1.2.1 x.1.2.2 x.2) (X h))) (X h))) (X h))) (X h))) (X h)
def f180 (k:Nat):Fc Tryz.prog:=⟨180,_,f180ok k⟩
def f117s4:SS:=⟨[(0,z3),(1,z62),(5,z3)],[]⟩
def f117c (k:Nat):Con:=⟨⟨[(0,z3),(1,z62)],[]⟩,⟨[(0,z5)],[]⟩,2,1,fun x=>spec_l6Vals k x.1 x.2⟩
theorem f117ok (k:Nat):FnOk Tryz.prog 117 (f117c k):=ok (cx [f163 k,f180 k] 27 nb) Tryz.f117 fun h x=>Q (Q (Q (X h) (Q (B (L f117s4 (fun n x=>spec_l6Vals.l4 k n x.1 x.2.1 x.2.2) k fun n4=>X h)) (X h))) (X h)) (X h)
def f117 (k:Nat):Fc Tryz.prog:=⟨117,_,f117ok k⟩
def f333s3:SS:=⟨[(0,z3),(1,z3),(5,z1),(6,z3)],[(100,w4)]⟩
def f333c (k:Nat):Con:=⟨⟨[(0,z3),(1,z3)],[]⟩,⟨[(0,z1)],[(100,w4)]⟩,2,1,fun x=>spec_WordPut k x.1 x.2⟩
theorem f333ok (k:Nat):FnOk Tryz.prog 333 (f333c k):=ok (cx [f80 k] 26 nb) Tryz.f333 fun h x=>Q (Q (Q (X h) (Q (B (L f333s3 (fun n x=>spec_WordPut.l3 k n x.1.1 x.1.2.1 x.1.2.2.2 x.2) k fun n3=>X h)) (X h))) (X h)) (X h)
def f333 (k:Nat):Fc Tryz.prog:=⟨333,_,f333ok k⟩
def f334s12:SS:=⟨[(0,z20),(1,z3),(7,z1),(8,z3),(9,z3)],[(100,w4)]⟩
def f334s11:SS:=⟨[(0,z20),(1,z3),(7,z1),(8,z3),(9,z3)],[(100,w4)]⟩
def f334s6:SS:=⟨[(0,z20),(1,z3),(7,z1),(8,z3)],[(100,w4)]⟩
def f334c (k:Nat):Con:=⟨⟨[(0,z20),(1,z3)],[]⟩,⟨[(0,z1),(1,z5)],[(100,w4)]⟩,2,2,fun x=>spec_BitsPack k x.1 x.2⟩
theorem f334ok (k:Nat):FnOk Tryz.prog 334 (f334c k):=ok (cx [f244 k] 73 nb) Tryz.f334 fun h x=>Q (Q (Q (Q (Q (X h) (Q (B (L f334s6 (fun n x=>spec_BitsPack.l6 k n x.1.1 x.1.2.1 x.1.2.2.2 x.2) k fun n6=>Q (Q (X h) (B (Q (Q (B (L f334s11 (fun n x=>spec_BitsPack.l11 k (spec_BitsPack.l6 k n6) n x.1.1 x.1.2.1 x.1.2.2.2.1 x.1.2.2.2.2 x.2) k fun n11=>Q (Q (T (X h) f334s12 fun x=>spec_BitsPack.c12 k (spec_BitsPack.l11 k (spec_BitsPack.l6 k n6) n11) x.1.1 x.1.2.1 x.1.2.2.2.1 x.1.2.2.2.2 x.2) (X h)) (X h))) (X h)) (X h)))) (X h))) (X h))) (X h)) (X h)) (X h)) (X h)
def f334 (k:Nat):Fc Tryz.prog:=⟨334,_,f334ok k⟩
def f322s7:SS:=⟨[(0,z3),(1,z62),(6,z1),(7,z13),(8,z3)],[(100,w4),(101,w18)]⟩
def f322s6:SS:=⟨[(0,z3),(1,z62),(6,z1),(7,z13),(8,z3)],[(100,w4),(101,w18)]⟩
def f322c (k:Nat):Con:=⟨⟨[(0,z3),(1,z62)],[]⟩,⟨[(0,z1),(1,z5)],[(100,w4)]⟩,2,2,fun x=>spec_PlainPack k x.1 x.2⟩
theorem f322ok (k:Nat):FnOk Tryz.prog 322 (f322c k):=ok (cx [f117 k,f333 k,f334 k] 67 nb) Tryz.f322 fun h x=>Q (Q (Q (Q (Q (X h) (Q (B (L f322s6 (fun n x=>spec_PlainPack.l6 k n x.1.1 x.1.2.1 x.1.2.2.2.2 x.2.1 x.2.2) k fun n6=>Q (Q (T (X h) f322s7 fun x=>spec_PlainPack.c7 k (spec_PlainPack.l6 k n6) x.1.1 x.1.2.1 x.1.2.2.2.2 x.2.1 x.2.2) (X h)) (X h))) (X h))) (X h)) (X h)) (X h)) (X h)
def f322 (k:Nat):Fc Tryz.prog:=⟨322,_,f322ok k⟩
def f296c (k:Nat):Con:=⟨⟨[(0,z3),(1,z61)],[]⟩,⟨[(0,z6)],[]⟩,2,1,fun x=>spec_l15Text k x.1 x.2⟩
theorem f296ok (k:Nat):FnOk Tryz.prog 296 (f296c k):=ok (cx [f322 k] 20 nb) Tryz.f296 fun h x=>X h
def f296 (k:Nat):Fc Tryz.prog:=⟨296,_,f296ok k⟩
def f239d7:SS:=⟨[(0,z3),(1,z6),(4,z12),(6,z32)],[(100,w59),(101,w59)]⟩
def f239s7:SS:=⟨[(0,z3),(1,z6),(4,z12),(6,z32)],[(100,w59),(101,w59)]⟩
def f239c (k:Nat):Con:=⟨⟨[(0,z3),(1,z6)],[]⟩,⟨[(0,z58),(1,z5)],[]⟩,2,2,fun x=>spec_l15Value k x.1 x.2⟩
theorem f239ok (k:Nat):FnOk Tryz.prog 239 (f239c k):=ok (cx [f172 k,f180 k,f296 k] 39 nb) Tryz.f239 fun h x=>Q (Q (Q (T (Q (X h) (K h f239d7 (fun x=>spec_l15Value.d7 k x.1.1 x.1.2.1 x.2.1 x.2.2) [[1,0,2,3,4,5,8,6,7,9,10,11,12],[1,2,0,3,4,5,8,6,7,9,10,11,12],[1,2,3,4,5,8,0,6,7,9,10,11,12],[1,2,3,4,5,8,6,0,7,9,10,11,12],[1,2,3,4,5,8,6,7,0,9,10,11,12]] (O (fun x=>by kernel_rfl) (O (fun x=>by kernel_rfl) (O (fun x=>by kernel_rfl) (O (fun x=>by kernel_rfl) (O (fun x=>by kernel_rfl) (N)))))))) f239s7 fun x=>spec_l15Value.c7 k x.1.1 x.1.2.1 x.2.1 x.2.2) (X h)) (X h)) (X h)
def f239 (k:Nat):Fc Tryz.prog:=⟨239,_,f239ok k⟩
def f226c (k:Nat):Con:=⟨⟨[(0,z3)],[]⟩,⟨[(0,z3)],[]⟩,1,1,fun x=>spec_FloatKey k x⟩
theorem f226ok (k:Nat):FnOk Tryz.prog 226 (f226c k):=ok (cx [] 8 nb) Tryz.f226 fun h x=>X h
def f226 (k:Nat):Fc Tryz.prog:=⟨226,_,f226ok k⟩
def f155d5:SS:=⟨[(4,z12),(5,z32)],[(100,w59),(101,w59)]⟩
def f155s8:SS:=⟨[(4,z12),(5,z32),(7,z3)],[(100,w59),(101,w59)]⟩
def f155c (k:Nat):Con:=⟨⟨[(0,z3),(1,z61),(2,z61)],[]⟩,⟨[(0,z5)],[]⟩,3,1,fun x=>spec_ValLess k x.1 x.2.1 x.2.2⟩
theorem f155ok (k:Nat):FnOk Tryz.prog 155 (f155c k):=ok (cx [f180 k,f226 k] 74 nb) Tryz.f155 fun h x=>Q (Q (Q (X h) (Q (B (Q (D (Q (X h) (K h f155d5 (fun x=>spec_ValLess.d5 k x.2.1 x.2.2) [[0,3,1,2,4,5,6,7],[0,3,1,4,2,5,6,7],[0,3,4,1,2,5,6,7]] (O (fun x=>by kernel_rfl) (O (fun x=>by kernel_rfl) (O (fun x=>by kernel_rfl) (N)))))) (Q (D (Q (X h) (Q (B (L f155s8 (fun n x=>spec_ValLess.l8 k n x.1.2.2 x.2.1 x.2.2) k fun n8=>X h)) (X h))) (X h)) (X h))) (X h))) (X h))) (X h)) (X h)
def f155 (k:Nat):Fc Tryz.prog:=⟨155,_,f155ok k⟩
def f240c (k:Nat):Con:=⟨⟨[(0,z56),(1,(.ro y63))],[]⟩,⟨[(0,z5)],[]⟩,2,1,fun x=>spec_l15Ok k x.1 x.2⟩
theorem f240ok (k:Nat):FnOk Tryz.prog 240 (f240c k):=ok (cx [f80 k,f108 k,f155 k,f180 k] 51 nb) Tryz.f240 fun h x=>X h
def f240 (k:Nat):Fc Tryz.prog:=⟨240,_,f240ok k⟩
def f167s15:SS:=⟨[(3,z12),(6,z32),(8,z22),(15,(.p 103))],[(100,w64),(101,w66),(102,w66),(103,w66)]⟩
def f167c (k:Nat):Con:=⟨⟨[(0,z56),(1,z29),(2,z3)],[]⟩,⟨[(0,z65),(1,z5)],[]⟩,3,2,fun x=>spec_l15From k x.1 x.2.1 x.2.2⟩
theorem f167ok (k:Nat):FnOk Tryz.prog 167 (f167c k):=ok (cx [f110 k,f164 k,f238 k,f239 k,f240 k] 98 nb) Tryz.f167 fun h x=>Q (Q (Q (Q (Q (Q (Q (Q (T (X h) f167s15 fun x=>spec_l15From.c15 k x.2.1 x.2.2.1 x.2.2.2.1 x.2.2.2.2) (X h)) (X h)) (X h)) (X h)) (X h)) (X h)) (X h)) (X h)
def f167 (k:Nat):Fc Tryz.prog:=⟨167,_,f167ok k⟩
def f111s33:SS:=⟨[(5,z12),(6,z32)],[(100,w69),(101,w69)]⟩
def f111s27:SS:=⟨[(1,z29),(3,z12),(5,z32),(6,z22),(10,z3),(11,z3)],[(100,w64),(101,w69),(102,w69)]⟩
def f111s7:SS:=⟨[(1,z29),(3,z12),(5,z32),(6,z22),(8,z3),(9,z37),(10,z3)],[(100,w64),(101,w69),(102,w69),(103,w18)]⟩
def f111c (k:Nat):Con:=⟨⟨[(0,z56),(1,z29),(2,(.ro y67))],[]⟩,⟨[(0,z68),(1,z5)],[]⟩,3,2,fun x=>spec_l16Kind k x.1 x.2.1 x.2.2⟩
theorem f111ok (k:Nat):FnOk Tryz.prog 111 (f111c k):=ok (cx [f80 k,f109 k,f110 k,f166 k,f167 k] 153 nb) Tryz.f111 fun h x=>Q (Q (Q (T (Q (Q (Q (Q (Q (Q (Q (T (Q (T (X h) f111s33 fun x=>spec_l16Kind.c33 k x.2.1 x.2.2) (X h)) f111s27 fun x=>spec_l16Kind.c27 k x.1.1 x.1.2.2.2.2.1 x.1.2.2.2.2.2 x.2.1 x.2.2.1 x.2.2.2) (X h)) (X h)) (X h)) (X h)) (X h)) (X h)) (X h)) f111s7 fun x=>spec_l16Kind.c7 k x.1.1 x.1.2.2.2.2.1 x.1.2.2.2.2.2.2 x.2.1 x.2.2.1 x.2.2.2.1 x.2.2.2.2) (X h)) (X h)) (X h)
def f111 (k:Nat):Fc Tryz.prog:=⟨111,_,f111ok k⟩
def f54s17:SS:=⟨[(1,z0),(3,z12),(6,z32),(8,z22),(9,z37),(10,z3),(14,z49)],[(100,w64),(101,w69),(102,w69),(103,w9),(104,w69)]⟩
def f54c (k:Nat):Con:=⟨⟨[(0,z56),(1,z0),(2,z3)],[]⟩,⟨[(0,z68),(1,z3)],[]⟩,3,2,fun x=>spec_HeadRead k x.1 x.2.1 x.2.2⟩
theorem f54ok (k:Nat):FnOk Tryz.prog 54 (f54c k):=ok (cx [f107 k,f108 k,f109 k,f110 k,f111 k] 130 nb) Tryz.f54 fun h x=>Q (Q (Q (Q (Q (Q (Q (Q (Q (T (X h) f54s17 fun x=>spec_HeadRead.c17 k x.1.1 x.1.2.2.2.2.2.1 x.2.1 x.2.2.1 x.2.2.2.1 x.2.2.2.2.1 x.2.2.2.2.2) (X h)) (X h)) (X h)) (X h)) (X h)) (X h)) (X h)) (X h)) (X h)
def f54 (k:Nat):Fc Tryz.prog:=⟨54,_,f54ok k⟩
def f168s3:SS:=⟨[(0,z3),(3,z3)],[]⟩
def f168s2:SS:=⟨[(0,z3),(3,z3)],[]⟩
def f168c (k:Nat):Con:=⟨⟨[(0,z3)],[]⟩,⟨[(0,z3)],[]⟩,1,1,fun x=>spec_l3Turn k x⟩
theorem f168ok (k:Nat):FnOk Tryz.prog 168 (f168c k):=ok (cx [] 18 nb) Tryz.f168 fun h x=>Q (Q (X h) (Q (B (L f168s2 (fun n x=>spec_l3Turn.l2 k n x.1 x.2) k fun n2=>Q (Q (T (X h) f168s3 fun x=>spec_l3Turn.c3 k (spec_l3Turn.l2 k n2) x.1 x.2) (X h)) (X h))) (X h))) (X h)
def f168 (k:Nat):Fc Tryz.prog:=⟨168,_,f168ok k⟩
def f112s5:SS:=⟨[(1,z0),(5,z3),(6,z3)],[]⟩
def f112c (k:Nat):Con:=⟨⟨[(0,z3),(1,z0)],[]⟩,⟨[(0,z3)],[]⟩,2,1,fun x=>spec_CrcMore k x.1 x.2⟩
theorem f112ok (k:Nat):FnOk Tryz.prog 112 (f112c k):=ok (cx [f80 k,f168 k] 32 nb) Tryz.f112 fun h x=>Q (Q (Q (Q (X h) (Q (B (L f112s5 (fun n x=>spec_CrcMore.l5 k n x.1 x.2.1 x.2.2) k fun n5=>X h)) (X h))) (X h)) (X h)) (X h)
def f112 (k:Nat):Fc Tryz.prog:=⟨112,_,f112ok k⟩
def f55c (k:Nat):Con:=⟨⟨[(0,z0)],[]⟩,⟨[(0,z3)],[]⟩,1,1,fun x=>spec_CrcOf k x⟩
theorem f55ok (k:Nat):FnOk Tryz.prog 55 (f55c k):=ok (cx [f112 k] 5 nb) Tryz.f55 fun h x=>X h
def f55 (k:Nat):Fc Tryz.prog:=⟨55,_,f55ok k⟩
def f129d8:SS:=⟨[(0,z3),(9,z1),(10,z32),(12,z0)],[(100,w60),(101,w69)]⟩
def f129c (k:Nat):Con:=⟨⟨[(0,z3),(1,z0),(2,z3)],[]⟩,⟨[(0,z1),(1,z3),(2,z3)],[(100,w60)]⟩,3,3,fun x=>spec_DictRead k x.1 x.2.1 x.2.2⟩
theorem f129ok (k:Nat):FnOk Tryz.prog 129 (f129c k):=ok (cx [f54 k,f55 k,f172 k] 88 nb) Tryz.f129 fun h x=>Q (Q (Q (Q (Q (Q (X h) (Q (X h) (K h f129d8 (fun x=>spec_DictRead.d8 k x.1.1 x.1.2.2.2 x.2.1 x.2.2) [[0,1,2,3,5,4,6,7,8],[0,1,2,3,5,6,4,7,8]] (O (fun x=>by kernel_rfl) (O (fun x=>by kernel_rfl) (N)))))) (X h)) (X h)) (X h)) (X h)) (X h)
def f129 (k:Nat):Fc Tryz.prog:=⟨129,_,f129ok k⟩
def f69s13:SS:=⟨[(1,z0),(3,z12),(5,z32),(9,z34),(10,z37),(11,(.h 104)),(15,(.h 105)),(16,z3),(17,z3)],[(100,w64),(101,w21),(102,w18),(103,w60),(104,w60),(105,w18)]⟩
def f69s10:SS:=⟨[(1,z0),(3,z12),(5,z32),(9,z34),(10,z37),(11,(.h 104))],[(100,w64),(101,w21),(102,w18),(103,w60),(104,w60)]⟩
def f69c (k:Nat):Con:=⟨⟨[(0,z56),(1,z0),(2,(.ro y19))],[]⟩,⟨[(0,z1),(1,z13),(2,z3)],[(100,w18),(101,w60)]⟩,3,3,fun x=>spec_ChunkPages k x.1 x.2.1 x.2.2⟩
theorem f69ok (k:Nat):FnOk Tryz.prog 69 (f69c k):=ok (cx [f54 k,f129 k] 102 nb) Tryz.f69 fun h x=>Q (Q (Q (Q (Q (T (Q (Q (Q (Q (X h) (B (L f69s13 (fun n x=>spec_ChunkPages.l13 k n x.1.1 x.1.2.2.2.2.2.2.2.1 x.1.2.2.2.2.2.2.2.2 x.2.1 x.2.2.1 x.2.2.2.1 x.2.2.2.2.1 x.2.2.2.2.2.1 x.2.2.2.2.2.2) k fun n13=>X h))) (X h)) (X h)) (X h)) f69s10 fun x=>spec_ChunkPages.c10 k x.1.1 x.2.1 x.2.2.1 x.2.2.2.1 x.2.2.2.2.1 x.2.2.2.2.2) (X h)) (X h)) (X h)) (X h)) (X h)
def f69 (k:Nat):Fc Tryz.prog:=⟨69,_,f69ok k⟩
def f22d12:SS:=⟨[(0,z0),(4,z12),(6,z3),(7,z3),(8,z3),(9,z32)],[(100,(.box y24 (.agg (.cons z34 v38)))),(101,w64),(102,w33),(103,w51)]⟩
def f22s9:SS:=⟨[(0,z0),(4,z12),(6,z3),(7,z3),(8,z3)],[(100,w70),(101,w33),(102,w51)]⟩
def f22s6:SS:=⟨[(0,z0),(4,z12),(6,z3),(7,z3)],[(100,w70),(101,w33),(102,w51)]⟩
def f22c (k:Nat):Con:=⟨⟨[(0,z0)],[]⟩,⟨[(0,z3),(1,z3)],[]⟩,1,2,fun x=>spec_PagesOf k x⟩
theorem f22ok (k:Nat):FnOk Tryz.prog 22 (f22c k):=ok (cx [f67 k,f68 k,f69 k] 70 nb) Tryz.f22 fun h x=>Q (Q (Q (Q (Q (X h) (Q (B (L f22s6 (fun n x=>spec_PagesOf.l6 k n x.1.1 x.1.2.2.1 x.1.2.2.2 x.2.1 x.2.2.1 x.2.2.2) k fun n6=>Q (Q (X h) (B (Q (B (L f22s9 (fun n x=>spec_PagesOf.l9 k (spec_PagesOf.l6 k n6) n x.1.1 x.1.2.2.1 x.1.2.2.2.1 x.1.2.2.2.2 x.2.1 x.2.2.1 x.2.2.2) k fun n9=>Q (Q (X h) (B (Q (Q (X h) (K h f22d12 (fun x=>spec_PagesOf.d12 k (spec_PagesOf.l9 k (spec_PagesOf.l6 k n6) n9) x.1.1 x.1.2.2.1 x.1.2.2.2.1 x.1.2.2.2.2.1 x.2.1 x.2.2.1 x.2.2.2.1 x.2.2.2.2) [[0,1,2,4,8,3,5,6,7,9,10,11,12,13,14,15,16,17,18]] (O (fun x=>by kernel_rfl) (N)))) (X h)))) (X h))) (X h)))) (X h))) (X h))) (X h)) (X h)) (X h)) (X h)
def f22 (k:Nat):Fc Tryz.prog:=⟨22,_,f22ok k⟩
def f85c (k:Nat):Con:=⟨⟨[(0,z3),(1,z3),(2,z3)],[]⟩,⟨[(0,z5)],[]⟩,3,1,fun x=>impl_within k x.1 x.2.1 x.2.2⟩
theorem f85ok (k:Nat):FnOk Tryz.prog 85 (f85c k):=ok (cx [] 15 nb) Tryz.f85 fun h x=>X h
def f85 (k:Nat):Fc Tryz.prog:=⟨85,_,f85ok k⟩
def f130s5:SS:=⟨[(0,z0),(1,z3),(2,z3),(9,z3),(26,z3),(27,z3)],[]⟩
def f130c (k:Nat):Con:=⟨⟨[(0,z0),(1,z3),(2,z3)],[]⟩,⟨[(0,z3),(1,z3),(2,z5)],[]⟩,3,3,fun x=>impl_WordGet k x.1 x.2.1 x.2.2⟩
theorem f130ok (k:Nat):FnOk Tryz.prog 130 (f130c k):=ok (cx [f85 k] 47 nb) Tryz.f130 fun h x=>Q (Q (Q (Q (X h) (Q (B (L f130s5 (fun n x=>impl_WordGet.l5 k n x.1 x.2.1 x.2.2.1 x.2.2.2.1 x.2.2.2.2.1 x.2.2.2.2.2) k fun n5=>X h)) (X h))) (X h)) (X h)) (X h)
def f130 (k:Nat):Fc Tryz.prog:=⟨130,_,f130ok k⟩
def f262c (k:Nat):Con:=⟨⟨[(0,z3)],[]⟩,⟨[(0,z3)],[]⟩,1,1,fun x=>impl_Zag k x⟩
theorem f262ok (k:Nat):FnOk Tryz.prog 262 (f262c k):=ok (cx [] 11 nb) Tryz.f262 fun h x=>X h
def f262 (k:Nat):Fc Tryz.prog:=⟨262,_,f262ok k⟩
def f267c (k:Nat):Con:=⟨⟨[(0,z3)],[]⟩,⟨[(0,z5)],[]⟩,1,1,fun x=>impl_isInt32 k x⟩
theorem f267ok (k:Nat):FnOk Tryz.prog 267 (f267c k):=ok (cx [f85 k] 5 nb) Tryz.f267 fun h x=>X h
def f267 (k:Nat):Fc Tryz.prog:=⟨267,_,f267ok k⟩
def f299c (k:Nat):Con:=⟨⟨[(0,z71),(1,z3)],[(0,w73),(10,w9)]⟩,⟨[],[(0,w73),(10,w9)]⟩,2,0,fun x=>impl_treeReader_fail k x.1.2 x.2.1 x.2.2⟩
theorem f299ok (k:Nat):FnOk Tryz.prog 299 (f299c k):=ok (cx [] 13 nb) Tryz.f299 fun h x=>X h
def f299 (k:Nat):Fc Tryz.prog:=⟨299,_,f299ok k⟩
def f297s3:SS:=⟨[(0,z71),(4,z12)],[(0,w73),(10,w9),(100,w31)]⟩
def f297c (k:Nat):Con:=⟨⟨[(0,z71),(1,(.ro y8)),(2,z3)],[(0,w73),(10,w9)]⟩,⟨[(0,z3)],[(0,w74),(100,w9)]⟩,3,1,fun x=>impl_treeReader_begin k x.1.2.1 x.1.2.2 x.2.1 x.2.2⟩
theorem f297ok (k:Nat):FnOk Tryz.prog 297 (f297c k):=ok (cx [f299 k] 40 nb) Tryz.f297 fun h x=>Q (Q (T (X h) f297s3 fun x=>impl_treeReader_begin.c3 k x.2.1 x.2.2.1 x.2.2.2) (X h)) (X h)
def f297 (k:Nat):Fc Tryz.prog:=⟨297,_,f297ok k⟩
def f255s12:SS:=⟨[],[]⟩
def f255s5:SS:=⟨[(0,z0),(1,z3),(7,(.ro (.int .u64))),(8,z3)],[]⟩
def f255c (k:Nat):Con:=⟨⟨[(0,z0),(1,z3)],[]⟩,⟨[(0,z3),(1,z3),(2,z5)],[]⟩,2,3,fun x=>impl_UvarGet k x.1 x.2⟩
theorem f255ok (k:Nat):FnOk Tryz.prog 255 (f255c k):=ok (cx [] 52 nb) Tryz.f255 fun h x=>Q (Q (Q (Q (T (X h) f255s12 fun x=>impl_UvarGet.c12 k) (Q (B (L f255s5 (fun n x=>impl_UvarGet.l5 k n x.1 x.2.1 x.2.2.1 x.2.2.2) k fun n5=>X h)) (X h))) (X h)) (X h)) (X h)
def f255 (k:Nat):Fc Tryz.prog:=⟨255,_,f255ok k⟩
def f298c (k:Nat):Con:=⟨⟨[(0,z71)],[(0,w73),(10,w9)]⟩,⟨[(0,z3)],[(0,w73),(10,w9)]⟩,1,1,fun x=>impl_treeReader_uvar k x.2.1 x.2.2⟩
theorem f298ok (k:Nat):FnOk Tryz.prog 298 (f298c k):=ok (cx [f255 k,f299 k] 35 nb) Tryz.f298 fun h x=>X h
def f298 (k:Nat):Fc Tryz.prog:=⟨298,_,f298ok k⟩
def f300s6:SS:=⟨[(0,z71),(3,z3)],[(0,w73),(10,w9)]⟩
def f300s4:SS:=⟨[(0,z71),(3,z3)],[(0,w73),(10,w9)]⟩
def f300c (k:Nat):Con:=⟨⟨[(0,z71)],[(0,w73),(10,w9)]⟩,⟨[(0,z6)],[(0,w73),(10,w9)]⟩,1,1,fun x=>impl_treeReader_text k x.2.1 x.2.2⟩
theorem f300ok (k:Nat):FnOk Tryz.prog 300 (f300c k):=ok (cx [f85 k,f298 k,f299 k] 68 nb) Tryz.f300 fun h x=>Q (Q (Q (T (Q (T (X h) f300s6 fun x=>impl_treeReader_text.c6 k x.1.2 x.2.1 x.2.2) (X h)) f300s4 fun x=>impl_treeReader_text.c4 k x.1.2 x.2.1 x.2.2) (X h)) (X h)) (X h)
def f300 (k:Nat):Fc Tryz.prog:=⟨300,_,f300ok k⟩
def f323c (k:Nat):Con:=⟨⟨[(0,z71)],[(0,w73),(10,w9)]⟩,⟨[(0,z3)],[(0,w73),(10,w9)]⟩,1,1,fun x=>impl_treeReader_one k x.2.1 x.2.2⟩
theorem f323ok (k:Nat):FnOk Tryz.prog 323 (f323c k):=ok (cx [f299 k] 41 nb) Tryz.f323 fun h x=>X h
def f323 (k:Nat):Fc Tryz.prog:=⟨323,_,f323ok k⟩
def f324s10:SS:=⟨[(11,z5)],[]⟩
def f324s4:SS:=⟨[(1,z5),(5,z3),(6,z5)],[]⟩
def f324c (k:Nat):Con:=⟨⟨[(0,z3),(1,z5)],[]⟩,⟨[(0,z5)],[]⟩,2,1,fun x=>impl_isType k x.1 x.2⟩
theorem f324ok (k:Nat):FnOk Tryz.prog 324 (f324c k):=ok (cx [] 17 nb) Tryz.f324 fun h x=>Q (Q (X h) (Q (B (Q (T (D (X h) (Q (T (X h) f324s10 fun x=>impl_isType.c10 k x) (X h))) f324s4 fun x=>impl_isType.c4 k x.1 x.2.1 x.2.2) (X h))) (X h))) (X h)
def f324 (k:Nat):Fc Tryz.prog:=⟨324,_,f324ok k⟩
def f249s8:SS:=⟨[(0,z71),(8,z3),(9,z3)],[(0,w74),(100,w9)]⟩
def f249d10:SS:=⟨[(0,z71),(8,z3)],[(0,w74),(100,w9)]⟩
def f249s5:SS:=⟨[(0,z71),(1,z3),(3,z3),(8,z3),(21,z3),(22,z5)],[(0,w74),(100,w9)]⟩
def f249con (F:Int→Int→Int→TTreeReaderB→(List TNode)→Option (Unit×TTreeReaderB×(List TNode))):Con:=⟨⟨[(0,z71),(1,z3),(2,z3),(3,z3)],[(0,w73),(10,w9)]⟩,⟨[],[(0,w74),(100,w9)]⟩,4,0,fun x=>F x.1.2.1 x.1.2.2.1 x.1.2.2.2 x.2.1 x.2.2⟩
def f301s11:SS:=⟨[(0,z71),(2,z3),(7,z3),(8,z3),(9,z3)],[(0,w74),(100,w9)]⟩
def f301s9:SS:=⟨[(0,z71),(1,z3),(2,z3),(7,z3),(8,z3)],[(0,w73),(10,w9)]⟩
def f301s7:SS:=⟨[(0,z71),(1,z3),(2,z3),(7,z3),(8,z3)],[(0,w73),(10,w9)]⟩
def f301s4:SS:=⟨[(0,z71),(1,z3),(2,z3),(7,z3),(8,z3)],[(0,w73),(10,w9)]⟩
def f301con (F:Int→Int→TTreeReaderB→(List TNode)→Option (Unit×TTreeReaderB×(List TNode))):Con:=⟨⟨[(0,z71),(1,z3),(2,z3)],[(0,w73),(10,w9)]⟩,⟨[],[(0,w74),(100,w9)]⟩,3,0,fun x=>F x.1.2.1 x.1.2.2 x.2.1 x.2.2⟩
def f302s12:SS:=⟨[(0,z71),(1,z3),(2,z3),(8,z3),(9,z3)],[(0,w74),(100,w9)]⟩
def f302s10:SS:=⟨[(0,z71),(1,z3),(2,z3),(6,z3),(8,z3),(9,z3)],[(0,w74),(100,w9)]⟩
def f302s8:SS:=⟨[(0,z71),(1,z3),(2,z3),(6,z3),(8,z3),(9,z3)],[(0,w74),(100,w9)]⟩
def f302s6:SS:=⟨[(0,z71),(1,z3),(2,z3),(6,z3),(7,z3),(8,z3),(9,z3)],[(0,w74),(100,w9)]⟩
def f302s1:SS:=⟨[(0,z71),(1,z3),(2,z3),(6,z3)],[(0,w74),(100,w9)]⟩
def f302con (F:Int→Int→TTreeReaderB→(List TNode)→Option (Unit×TTreeReaderB×(List TNode))):Con:=⟨⟨[(0,z71),(1,z3),(2,z3)],[(0,w73),(10,w9)]⟩,⟨[],[(0,w74),(100,w9)]⟩,3,0,fun x=>F x.1.2.1 x.1.2.2 x.2.1 x.2.2⟩
theorem f249okb (k:Nat) (S249:Int→Int→Int→TTreeReaderB→(List TNode)→Option (Unit×TTreeReaderB×(List TNode))) (S301:Int→Int→TTreeReaderB→(List TNode)→Option (Unit×TTreeReaderB×(List TNode))) (S302:Int→Int→TTreeReaderB→(List TNode)→Option (Unit×TTreeReaderB×(List TNode))) (h249:FnOk Tryz.prog 249 (f249con S249)) (h301:FnOk Tryz.prog 301 (f301con S301)) (h302:FnOk Tryz.prog 302 (f302con S302)):FnOk Tryz.prog 249 (f249con (impl_treeReader_node.b k S249 S301 S302)):=ok (cx [f262 k,f267 k,f297 k,f298 k,f299 k,f300 k,⟨301,_,h301⟩,⟨302,_,h302⟩] 75 nb) Tryz.f249 fun h x=>Q (Q (Q (B (Q (T (D (Q (Q (T (X h) f249s8 fun x=>impl_treeReader_node.c8 k x.1.2.1 x.1.2.2 x.2.1 x.2.2) (X h)) (X h)) (Q (D (K h f249d10 (fun x=>impl_treeReader_node.d10 k x.1.2 x.2.1 x.2.2) [[0,1,2,4,5,3,6,7,8,9],[0,1,2,4,5,6,3,7,8,9]] (O (fun x=>by kernel_rfl) (O (fun x=>by kernel_rfl) (N)))) (X h)) (X h))) f249s5 fun x=>impl_treeReader_node.c5 k S301 S302 x.1.2.1 x.1.2.2.1 x.1.2.2.2.1 x.1.2.2.2.2.1 x.1.2.2.2.2.2 x.2.1 x.2.2) (X h))) (X h)) (X h)) (X h)
theorem f301okb (k:Nat) (S249:Int→Int→Int→TTreeReaderB→(List TNode)→Option (Unit×TTreeReaderB×(List TNode))) (S301:Int→Int→TTreeReaderB→(List TNode)→Option (Unit×TTreeReaderB×(List TNode))) (S302:Int→Int→TTreeReaderB→(List TNode)→Option (Unit×TTreeReaderB×(List TNode))) (h249:FnOk Tryz.prog 249 (f249con S249)) (h301:FnOk Tryz.prog 301 (f301con S301)) (h302:FnOk Tryz.prog 302 (f302con S302)):FnOk Tryz.prog 301 (f301con (impl_treeReader_parts.b k S249 S301 S302)):=ok (cx [f85 k,⟨249,_,h249⟩,f298 k,f299 k,f323 k,f324 k] 72 nb) Tryz.f301 fun h x=>Q (Q (Q (T (Q (Q (T (Q (T (Q (Q (B (L f301s11 (fun n x=>impl_treeReader_parts.l11 k S249 n x.1.2.1 x.1.2.2.1 x.1.2.2.2.1 x.1.2.2.2.2 x.2.1 x.2.2) k fun n11=>X h)) (X h)) (X h)) f301s9 fun x=>impl_treeReader_parts.c9 k S249 x.1.2.1 x.1.2.2.1 x.1.2.2.2.1 x.1.2.2.2.2 x.2.1 x.2.2) (X h)) f301s7 fun x=>impl_treeReader_parts.c7 k S249 x.1.2.1 x.1.2.2.1 x.1.2.2.2.1 x.1.2.2.2.2 x.2.1 x.2.2) (X h)) (X h)) f301s4 fun x=>impl_treeReader_parts.c4 k S249 x.1.2.1 x.1.2.2.1 x.1.2.2.2.1 x.1.2.2.2.2 x.2.1 x.2.2) (X h)) (X h)) (X h)
theorem f302okb (k:Nat) (S249:Int→Int→Int→TTreeReaderB→(List TNode)→Option (Unit×TTreeReaderB×(List TNode))) (S301:Int→Int→TTreeReaderB→(List TNode)→Option (Unit×TTreeReaderB×(List TNode))) (S302:Int→Int→TTreeReaderB→(List TNode)→Option (Unit×TTreeReaderB×(List TNode))) (h249:FnOk Tryz.prog 249 (f249con S249)) (h301:FnOk Tryz.prog 301 (f301con S301)) (h302:FnOk Tryz.prog 302 (f302con S302)):FnOk Tryz.prog 302 (f302con (impl_treeReader_fields.b k S249 S301 S302)):=ok (cx [f85 k,⟨249,_,h249⟩,f262 k,f298 k,f299 k,f323 k,f324 k] 84 nb) Tryz.f302 fun h x=>Q (B (L f302s1 (fun n x=>impl_treeReader_fields.l1 k S249 n x.1.2.1 x.1.2.2.1 x.1.2.2.2 x.2.1 x.2.2) k fun n1=>B (Q (Q (Q (Q (T (Q (T (Q (T (Q (T (X h) f302s12 fun x=>impl_treeReader_fields.c12 k S249 (impl_treeReader_fields.l1 k S249 n1) x.1.2.1 x.1.2.2.1 x.1.2.2.2.1 x.1.2.2.2.2 x.2.1 x.2.2) (X h)) f302s10 fun x=>impl_treeReader_fields.c10 k S249 (impl_treeReader_fields.l1 k S249 n1) x.1.2.1 x.1.2.2.1 x.1.2.2.2.1 x.1.2.2.2.2.1 x.1.2.2.2.2.2 x.2.1 x.2.2) (X h)) f302s8 fun x=>impl_treeReader_fields.c8 k S249 (impl_treeReader_fields.l1 k S249 n1) x.1.2.1 x.1.2.2.1 x.1.2.2.2.1 x.1.2.2.2.2.1 x.1.2.2.2.2.2 x.2.1 x.2.2) (X h)) f302s6 fun x=>impl_treeReader_fields.c6 k S249 (impl_treeReader_fields.l1 k S249 n1) x.1.2.1 x.1.2.2.1 x.1.2.2.2.1 x.1.2.2.2.2.1 x.1.2.2.2.2.2.1 x.1.2.2.2.2.2.2 x.2.1 x.2.2) (X h)) (X h)) (X h)) (X h)))) (X h)
theorem f249rec (k:Nat):∀d,FnOk Tryz.prog 249 (f249con (impl_treeReader_node.d k d))∧FnOk Tryz.prog 301 (f301con (impl_treeReader_parts.d k d))∧FnOk Tryz.prog 302 (f302con (impl_treeReader_fields.d k d))
 |0=>⟨FnOk_none (fun _=>rfl),FnOk_none (fun _=>rfl),FnOk_none (fun _=>rfl)⟩
 |d+1=>let ih:=f249rec k d
  ⟨f249okb k (impl_treeReader_node.d k d) (impl_treeReader_parts.d k d) (impl_treeReader_fields.d k d) ih.1 ih.2.1 ih.2.2,f301okb k (impl_treeReader_node.d k d) (impl_treeReader_parts.d k d) (impl_treeReader_fields.d k d) ih.1 ih.2.1 ih.2.2,f302okb k (impl_treeReader_node.d k d) (impl_treeReader_parts.d k d) (impl_treeReader_fields.d k d) ih.1 ih.2.1 ih.2.2⟩
theorem f249ok (k:Nat):FnOk Tryz.prog 249 (f249con (impl_treeReader_node k)):=(f249rec k k).1
def f249 (k:Nat):Fc Tryz.prog:=⟨249,_,f249ok k⟩
theorem f301ok (k:Nat):FnOk Tryz.prog 301 (f301con (impl_treeReader_parts k)):=(f249rec k k).2.1
def f301 (k:Nat):Fc Tryz.prog:=⟨301,_,f301ok k⟩
theorem f302ok (k:Nat):FnOk Tryz.prog 302 (f302con (impl_treeReader_fields k)):=(f249rec k k).2.2
def f302 (k:Nat):Fc Tryz.prog:=⟨302,_,f302ok k⟩
def f181c (k:Nat):Con:=⟨⟨[(0,z0),(1,z3)],[]⟩,⟨[(0,z1),(1,z3),(2,z3)],[(100,w9)]⟩,2,3,fun x=>impl_TreeRead k x.1 x.2⟩
theorem f181ok (k:Nat):FnOk Tryz.prog 181 (f181c k):=ok (cx [f85 k,f249 k] 37 nb) Tryz.f181 fun h x=>X h
def f181 (k:Nat):Fc Tryz.prog:=⟨181,_,f181ok k⟩
def f193c (k:Nat):Con:=⟨⟨[(0,z3)],[]⟩,⟨[(0,z5)],[]⟩,1,1,fun x=>impl_TypeOk k x⟩
theorem f193ok (k:Nat):FnOk Tryz.prog 193 (f193c k):=ok (cx [f85 k] 13 nb) Tryz.f193 fun h x=>X h
def f193 (k:Nat):Fc Tryz.prog:=⟨193,_,f193ok k⟩
def f278c (k:Nat):Con:=⟨⟨[(0,(.ro y10))],[]⟩,⟨[(0,z5)],[]⟩,1,1,fun x=>impl_colOk k x⟩
theorem f278ok (k:Nat):FnOk Tryz.prog 278 (f278c k):=ok (cx [f85 k,f193 k] 30 nb) Tryz.f278 fun h x=>X h
def f278 (k:Nat):Fc Tryz.prog:=⟨278,_,f278ok k⟩
def f279s2:SS:=⟨[(0,z6),(5,z3),(6,z3)],[]⟩
def f279c (k:Nat):Con:=⟨⟨[(0,z6)],[]⟩,⟨[(0,z5)],[]⟩,1,1,fun x=>impl_isColName k x⟩
theorem f279ok (k:Nat):FnOk Tryz.prog 279 (f279c k):=ok (cx [f85 k] 19 nb) Tryz.f279 fun h x=>Q (Q (X h) (Q (B (L f279s2 (fun n x=>impl_isColName.l2 k n x.1 x.2.1 x.2.2) k fun n2=>X h)) (X h))) (X h)
def f279 (k:Nat):Fc Tryz.prog:=⟨279,_,f279ok k⟩
def f212s10:SS:=⟨[(0,z11),(2,z3),(7,z3),(8,z1),(47,z3),(48,z3),(54,z1),(55,z3),(56,z3)],[(100,w17)]⟩
def f212s6:SS:=⟨[(0,z11),(2,z3),(7,z3),(8,z1),(47,z3),(48,z3)],[(100,w17)]⟩
def f212con (F:(List TCol)→Int→Int→Option Int):Con:=⟨⟨[(0,z11),(1,z3),(2,z3)],[]⟩,⟨[(0,z3)],[]⟩,3,1,fun x=>F x.1 x.2.1 x.2.2⟩
theorem f212okb (k:Nat) (S212:(List TCol)→Int→Int→Option Int) (h212:FnOk Tryz.prog 212 (f212con S212)):FnOk Tryz.prog 212 (f212con (impl_colAfter.b k S212)):=ok (cx [⟨212,_,h212⟩,f278 k,f279 k] 85 nb) Tryz.f212 fun h x=>Q (Q (Q (Q (Q (X h) (Q (B (L f212s6 (fun n x=>impl_colAfter.l6 k S212 n x.1.1 x.1.2.1 x.1.2.2.1 x.1.2.2.2.2.1 x.1.2.2.2.2.2 x.2) k fun n6=>Q (Q (Q (X h) (B (Q (Q (X h) (Q (B (L f212s10 (fun n x=>impl_colAfter.l10 k S212 (impl_colAfter.l6 k S212 n6) n x.1.1 x.1.2.1 x.1.2.2.1 x.1.2.2.2.2.1 x.1.2.2.2.2.2.1 x.1.2.2.2.2.2.2.2.1 x.1.2.2.2.2.2.2.2.2 x.2) k fun n10=>X h)) (X h))) (X h)))) (X h)) (X h))) (X h))) (X h)) (X h)) (X h)) (X h)
theorem f212rec (k:Nat):∀d,FnOk Tryz.prog 212 (f212con (impl_colAfter.d k d))
 |0=>FnOk_none (fun _=>rfl)
 |d+1=>let ih:=f212rec k d
  f212okb k (impl_colAfter.d k d) ih
theorem f212ok (k:Nat):FnOk Tryz.prog 212 (f212con (impl_colAfter k)):=(f212rec k k)
def f212 (k:Nat):Fc Tryz.prog:=⟨212,_,f212ok k⟩
def f141c (k:Nat):Con:=⟨⟨[(0,z11)],[]⟩,⟨[(0,z5)],[]⟩,1,1,fun x=>impl_SchemaOk k x⟩
theorem f141ok (k:Nat):FnOk Tryz.prog 141 (f141c k):=ok (cx [f85 k,f212 k] 33 nb) Tryz.f141 fun h x=>X h
def f141 (k:Nat):Fc Tryz.prog:=⟨141,_,f141ok k⟩
def f142s7:SS:=⟨[(3,z1),(7,z11),(8,z3),(9,z3)],[(100,w18)]⟩
def f142s3:SS:=⟨[(3,z1),(7,z11),(8,z3),(9,z3)],[(100,w18)]⟩
def f142c (k:Nat):Con:=⟨⟨[(0,z11)],[]⟩,⟨[(0,z1)],[(100,w18)]⟩,1,1,fun x=>impl_leavesOf k x⟩
theorem f142ok (k:Nat):FnOk Tryz.prog 142 (f142c k):=ok (cx [] 23 nb) Tryz.f142 fun h x=>Q (Q (Q (X h) (Q (B (L f142s3 (fun n x=>impl_leavesOf.l3 k n x.1.2.1 x.1.2.2.1 x.1.2.2.2 x.2) k fun n3=>Q (Q (Q (T (X h) f142s7 fun x=>impl_leavesOf.c7 k (impl_leavesOf.l3 k n3) x.1.2.1 x.1.2.2.1 x.1.2.2.2 x.2) (X h)) (X h)) (X h))) (X h))) (X h)) (X h)
def f142 (k:Nat):Fc Tryz.prog:=⟨142,_,f142ok k⟩
def f213s2:SS:=⟨[(0,z20),(5,z20),(6,z3),(7,z3)],[]⟩
def f213c (k:Nat):Con:=⟨⟨[(0,z20)],[]⟩,⟨[(0,z5)],[]⟩,1,1,fun x=>impl_encsRight k x⟩
theorem f213ok (k:Nat):FnOk Tryz.prog 213 (f213c k):=ok (cx [f85 k] 32 nb) Tryz.f213 fun h x=>Q (Q (X h) (Q (B (L f213s2 (fun n x=>impl_encsRight.l2 k n x.1 x.2.1 x.2.2.1 x.2.2.2) k fun n2=>X h)) (X h))) (X h)
def f213 (k:Nat):Fc Tryz.prog:=⟨213,_,f213ok k⟩
def f143c (k:Nat):Con:=⟨⟨[(0,(.ro y19)),(1,z3)],[]⟩,⟨[(0,z5)],[]⟩,2,1,fun x=>impl_chunkOk k x.1 x.2⟩
theorem f143ok (k:Nat):FnOk Tryz.prog 143 (f143c k):=ok (cx [f85 k,f213 k] 36 nb) Tryz.f143 fun h x=>X h
def f143 (k:Nat):Fc Tryz.prog:=⟨143,_,f143ok k⟩
def f84s10:SS:=⟨[(1,z12),(3,z3),(5,z32),(19,z25),(20,z3),(21,z3),(40,z27),(41,z3),(42,z3)],[(100,w26),(101,w28)]⟩
def f84d7:SS:=⟨[(1,z12),(3,z3),(5,z32),(19,z25),(20,z3),(21,z3)],[(100,w26),(101,w28)]⟩
def f84s5:SS:=⟨[(1,z12),(3,z3),(19,z25),(20,z3),(21,z3)],[(100,w26)]⟩
def f84c (k:Nat):Con:=⟨⟨[(0,(.ro y24))],[]⟩,⟨[(0,z5)],[]⟩,1,1,fun x=>impl_MetaOk k x⟩
theorem f84ok (k:Nat):FnOk Tryz.prog 84 (f84c k):=ok (cx [f85 k,f141 k,f142 k,f143 k] 65 nb) Tryz.f84 fun h x=>Q (Q (Q (Q (X h) (Q (B (L f84s5 (fun n x=>impl_MetaOk.l5 k n x.1.2.1 x.1.2.2.1 x.1.2.2.2.1 x.1.2.2.2.2 x.2) k fun n5=>Q (Q (Q (X h) (B (Q (Q (Q (X h) (Q (B (L f84s10 (fun n x=>impl_MetaOk.l10 k (impl_MetaOk.l5 k n5) n x.1.2.1 x.1.2.2.2.1 x.1.2.2.2.2.1 x.1.2.2.2.2.2.1 x.1.2.2.2.2.2.2.1 x.1.2.2.2.2.2.2.2.1 x.1.2.2.2.2.2.2.2.2 x.2.1 x.2.2) k fun n10=>X h)) (X h))) (Q (X h) (K h f84d7 (fun x=>impl_MetaOk.d7 k (impl_MetaOk.l5 k n5) x.1.2.1 x.1.2.2.2.1 x.1.2.2.2.2.1 x.1.2.2.2.2.2 x.2.1 x.2.2) [[0,1,2,3,4,5,8,9,6,7,10,11,12,13],[0,1,2,3,4,5,8,9,10,6,7,11,12,13]] (O (fun x=>by kernel_rfl) (O (fun x=>by kernel_rfl) (N)))))) (X h)))) (X h)) (X h))) (X h))) (X h)) (X h)) (X h)
def f84 (k:Nat):Fc Tryz.prog:=⟨84,_,f84ok k⟩
def f303c (k:Nat):Con:=⟨⟨[(0,(.ro y8))],[]⟩,⟨[(0,z5)],[]⟩,1,1,fun x=>impl_nodeOk k x⟩
theorem f303ok (k:Nat):FnOk Tryz.prog 303 (f303c k):=ok (cx [f267 k,f324 k] 109 nb) Tryz.f303 fun h x=>X h
def f303 (k:Nat):Fc Tryz.prog:=⟨303,_,f303ok k⟩
def f250s7:SS:=⟨[(0,z71),(1,z3),(2,z3),(7,z12),(8,z3),(9,z3),(43,z3),(44,z3)],[(0,w77),(10,w18),(100,w31)]⟩
def f250con (F:Int→Int→(Bool×TTreeB)→(List Int)→Option (Int×TTreeB×(List Int))):Con:=⟨⟨[(0,z71),(1,z3),(2,z3)],[(0,w78),(10,w18)]⟩,⟨[(0,z3)],[(0,w77),(10,w18)]⟩,3,1,fun x=>F x.1.2.1 x.1.2.2 x.2.1 x.2.2⟩
theorem f250okb (k:Nat) (S250:Int→Int→(Bool×TTreeB)→(List Int)→Option (Int×TTreeB×(List Int))) (h250:FnOk Tryz.prog 250 (f250con S250)):FnOk Tryz.prog 250 (f250con (impl_tree_measure.b k S250)):=ok (cx [f85 k,⟨250,_,h250⟩,f303 k] 104 nb) Tryz.f250 fun h x=>Q (Q (Q (Q (Q (Q (X h) (Q (B (L f250s7 (fun n x=>impl_tree_measure.l7 k S250 n x.1.2.1 x.1.2.2.1 x.1.2.2.2.2.1 x.1.2.2.2.2.2.1 x.1.2.2.2.2.2.2.1 x.1.2.2.2.2.2.2.2 x.2.1 x.2.2.1 x.2.2.2) k fun n7=>X h)) (X h))) (X h)) (X h)) (X h)) (X h)) (X h)
theorem f250rec (k:Nat):∀d,FnOk Tryz.prog 250 (f250con (impl_tree_measure.d k d))
 |0=>FnOk_none (fun _=>rfl)
 |d+1=>let ih:=f250rec k d
  f250okb k (impl_tree_measure.d k d) ih
theorem f250ok (k:Nat):FnOk Tryz.prog 250 (f250con (impl_tree_measure k)):=(f250rec k k)
def f250 (k:Nat):Fc Tryz.prog:=⟨250,_,f250ok k⟩
def f182c (k:Nat):Con:=⟨⟨[(0,z29)],[]⟩,⟨[(0,z12),(1,z5)],[(100,(.obox y75 (.agg (.cons z29 (.cons z13 .nil))))),(101,w18)]⟩,1,2,fun x=>impl_treeOf k x⟩
theorem f182ok (k:Nat):FnOk Tryz.prog 182 (f182c k):=ok (cx [f85 k,f250 k] 35 (fun s=>Nat.beq s 27)) Tryz.f182 fun h x=>X h
def f182 (k:Nat):Fc Tryz.prog:=⟨182,_,f182ok k⟩
def f187s5:SS:=⟨[(0,z71),(2,z3),(7,z3),(37,z3),(38,z3)],[(0,w77),(10,w18)]⟩
def f187c (k:Nat):Con:=⟨⟨[(0,z71),(1,z3),(2,z3)],[(0,w78),(10,w18)]⟩,⟨[(0,z3)],[(0,w77),(10,w18)]⟩,3,1,fun x=>impl_tree_find k x.1.2.1 x.1.2.2 x.2.1 x.2.2⟩
theorem f187ok (k:Nat):FnOk Tryz.prog 187 (f187c k):=ok (cx [f85 k] 59 nb) Tryz.f187 fun h x=>Q (Q (Q (Q (X h) (Q (B (L f187s5 (fun n x=>impl_tree_find.l5 k n x.1.2.1 x.1.2.2.1 x.1.2.2.2.1 x.1.2.2.2.2 x.2.1 x.2.2) k fun n5=>X h)) (X h))) (X h)) (X h)) (X h)
def f187 (k:Nat):Fc Tryz.prog:=⟨187,_,f187ok k⟩
def f312s7:SS:=⟨[(0,z71),(11,z1),(12,z3),(63,z3),(64,z3)],[(0,w77),(10,w18),(100,w18)]⟩
def f312c (k:Nat):Con:=⟨⟨[(0,z71),(1,z3),(2,z3),(3,z3)],[(0,w78),(10,w18)]⟩,⟨[(0,z1),(1,z5)],[(0,w77),(10,w18),(100,w18)]⟩,4,2,fun x=>impl_tree_parts k x.1.2.1 x.1.2.2.1 x.1.2.2.2 x.2.1 x.2.2⟩
theorem f312ok (k:Nat):FnOk Tryz.prog 312 (f312c k):=ok (cx [f187 k] 79 nb) Tryz.f312 fun h x=>Q (Q (Q (Q (Q (Q (X h) (Q (B (L f312s7 (fun n x=>impl_tree_parts.l7 k n x.1.2.2.1 x.1.2.2.2.1 x.1.2.2.2.2 x.2.1 x.2.2.1 x.2.2.2) k fun n7=>X h)) (X h))) (X h)) (X h)) (X h)) (X h)) (X h)
def f312 (k:Nat):Fc Tryz.prog:=⟨312,_,f312ok k⟩
def f186c (k:Nat):Con:=⟨⟨[(0,z71),(1,z3),(2,z3),(3,z3)],[(0,w78),(10,w18)]⟩,⟨[(0,z30),(1,z5)],[(0,w77),(10,w18)]⟩,4,2,fun x=>impl_tree_part k x.1.2.1 x.1.2.2.1 x.1.2.2.2 x.2.1 x.2.2⟩
theorem f186ok (k:Nat):FnOk Tryz.prog 186 (f186c k):=ok (cx [f187 k] 37 nb) Tryz.f186 fun h x=>X h
def f186 (k:Nat):Fc Tryz.prog:=⟨186,_,f186ok k⟩
def f251c (k:Nat):Con:=⟨⟨[(0,z71),(1,z3),(2,z3)],[(0,w78),(10,w18)]⟩,⟨[(0,z3),(1,z5)],[(0,w77),(10,w18)]⟩,3,2,fun x=>impl_tree_num k x.1.2.1 x.1.2.2 x.2.1 x.2.2⟩
theorem f251ok (k:Nat):FnOk Tryz.prog 251 (f251c k):=ok (cx [f187 k] 45 nb) Tryz.f251 fun h x=>X h
def f251 (k:Nat):Fc Tryz.prog:=⟨251,_,f251ok k⟩
def f313s11:SS:=⟨[(6,z12),(9,z5),(11,z5),(13,z5),(16,z32)],[(0,w77),(10,w18),(100,w16),(101,w16)]⟩
def f313s8:SS:=⟨[(0,z71),(1,z3),(6,z12),(9,z5),(11,z5),(13,z5),(14,z3),(15,z5),(16,z32)],[(0,w77),(10,w18),(100,w16),(101,w16)]⟩
def f313c (k:Nat):Con:=⟨⟨[(0,z71),(1,z3),(2,z5)],[(0,w78),(10,w18)]⟩,⟨[(0,z15),(1,z5)],[(0,w77),(10,w18)]⟩,3,2,fun x=>impl_tree_col k x.1.2.1 x.1.2.2 x.2.1 x.2.2⟩
theorem f313ok (k:Nat):FnOk Tryz.prog 313 (f313c k):=ok (cx [f186 k,f187 k,f251 k] 70 (fun s=>Nat.beq s 56)) Tryz.f313 fun h x=>Q (Q (Q (Q (Q (Q (Q (T (Q (T (X h) f313s11 fun x=>impl_tree_col.c11 k x.1.2.1 x.1.2.2.1 x.1.2.2.2.1 x.2.1 x.2.2.1 x.2.2.2.1 x.2.2.2.2) (X h)) f313s8 fun x=>impl_tree_col.c8 k x.1.2.1 x.1.2.2.2.1 x.1.2.2.2.2.1 x.1.2.2.2.2.2.1 x.1.2.2.2.2.2.2.1 x.1.2.2.2.2.2.2.2.1 x.2.1 x.2.2.1 x.2.2.2.1 x.2.2.2.2) (X h)) (X h)) (X h)) (X h)) (X h)) (X h)) (X h)
def f313 (k:Nat):Fc Tryz.prog:=⟨313,_,f313ok k⟩
def f273s6:SS:=⟨[(0,z71),(8,z1),(22,z13),(23,z3),(24,z3)],[(0,w77),(10,w18),(100,w33),(101,w18)]⟩
def f273c (k:Nat):Con:=⟨⟨[(0,z71),(1,z3)],[(0,w78),(10,w18)]⟩,⟨[(0,z1),(1,z5)],[(0,w77),(10,w18),(100,w33)]⟩,2,2,fun x=>impl_tree_schema k x.1.2 x.2.1 x.2.2⟩
theorem f273ok (k:Nat):FnOk Tryz.prog 273 (f273c k):=ok (cx [f141 k,f312 k,f313 k] 62 nb) Tryz.f273 fun h x=>Q (Q (Q (Q (Q (X h) (Q (B (L f273s6 (fun n x=>impl_tree_schema.l6 k n x.1.2.2.2.1 x.1.2.2.2.2 x.2.1 x.2.2.1 x.2.2.2.1 x.2.2.2.2) k fun n6=>X h)) (X h))) (X h)) (X h)) (X h)) (X h)
def f273 (k:Nat):Fc Tryz.prog:=⟨273,_,f273ok k⟩
def f274i1s4:SS:=⟨[(7,z3)],[(0,w80),(10,w82),(11,w18)]⟩
def f274i1c (k:Nat):Con:=⟨⟨[(0,z71),(1,z3),(2,z3)],[(0,w80),(10,w82),(11,w18)]⟩,⟨[(0,z3)],[(0,w80),(10,w82),(11,w18)]⟩,3,1,fun x=>impl_metaReader_number k x.1.2.1 x.1.2.2 x.2.1 x.2.2.1 x.2.2.2⟩
theorem f274i1ok (k:Nat):FnOk Tryz.prog 274 (f274i1c k):=ok (cx [f251 k] 25 nb) Tryz.f274 fun h x=>Q (Q (Q (T (X h) f274i1s4 fun x=>impl_metaReader_number.c4 k x.1 x.2.1 x.2.2.1 x.2.2.2) (X h)) (X h)) (X h)
def f274i1 (k:Nat):Fc Tryz.prog:=⟨274,_,f274i1ok k⟩
def f275i3s4:SS:=⟨[(9,z1)],[(0,w80),(10,w82),(11,w18),(100,w18)]⟩
def f275i3c (k:Nat):Con:=⟨⟨[(0,z71),(1,z3),(2,z3),(3,z3)],[(0,w80),(10,w82),(11,w18)]⟩,⟨[(0,z1)],[(0,w80),(10,w82),(11,w18),(100,w18)]⟩,4,1,fun x=>impl_metaReader_list k x.1.2.1 x.1.2.2.1 x.1.2.2.2 x.2.1 x.2.2.1 x.2.2.2⟩
theorem f275i3ok (k:Nat):FnOk Tryz.prog 275 (f275i3c k):=ok (cx [f312 k] 28 nb) Tryz.f275 fun h x=>Q (Q (Q (T (X h) f275i3s4 fun x=>impl_metaReader_list.c4 k x.2.1 x.2.2.1 x.2.2.2.1 x.2.2.2.2) (X h)) (X h)) (X h)
def f275i3 (k:Nat):Fc Tryz.prog:=⟨275,_,f275i3ok k⟩
def f132c (k:Nat):Con:=⟨⟨[(0,z11)],[]⟩,⟨[(0,z1)],[(100,w18)]⟩,1,1,fun x=>impl_SchemaLeaves k x⟩
theorem f132ok (k:Nat):FnOk Tryz.prog 132 (f132c k):=ok (cx [f141 k,f142 k] 8 nb) Tryz.f132 fun h x=>X h
def f132 (k:Nat):Fc Tryz.prog:=⟨132,_,f132ok k⟩
def f208s6:SS:=⟨[(0,z11),(1,z3),(5,z1),(6,z13),(7,z3)],[(100,w18),(101,w18)]⟩
def f208c (k:Nat):Con:=⟨⟨[(0,z11),(1,z3)],[]⟩,⟨[(0,z1)],[(100,w18)]⟩,2,1,fun x=>impl_wayTo k x.1 x.2⟩
theorem f208ok (k:Nat):FnOk Tryz.prog 208 (f208c k):=ok (cx [f85 k,f132 k,f212 k] 41 nb) Tryz.f208 fun h x=>Q (Q (Q (Q (Q (X h) (Q (B (L f208s6 (fun n x=>impl_wayTo.l6 k n x.1.1 x.1.2.1 x.1.2.2.2.2 x.2.1 x.2.2) k fun n6=>X h)) (X h))) (X h)) (X h)) (X h)) (X h)
def f208 (k:Nat):Fc Tryz.prog:=⟨208,_,f208ok k⟩
def f133s12:SS:=⟨[(0,z11),(7,z3),(8,z3),(17,z1),(18,z3),(19,z3)],[(100,w18)]⟩
def f133s10:SS:=⟨[(0,z11),(7,z3),(8,z3),(10,z3),(17,z1),(18,z3),(19,z3)],[(100,w18)]⟩
def f133s6:SS:=⟨[(0,z11),(7,z3),(8,z3),(17,z1),(18,z3),(19,z3)],[(100,w18)]⟩
def f133c (k:Nat):Con:=⟨⟨[(0,z11),(1,z3)],[]⟩,⟨[(0,z3),(1,z3)],[]⟩,2,2,fun x=>impl_LeafMax k x.1 x.2⟩
theorem f133ok (k:Nat):FnOk Tryz.prog 133 (f133c k):=ok (cx [f208 k] 42 nb) Tryz.f133 fun h x=>Q (Q (Q (Q (Q (X h) (Q (B (L f133s6 (fun n x=>impl_LeafMax.l6 k n x.1.1 x.1.2.1 x.1.2.2.1 x.1.2.2.2.2.1 x.1.2.2.2.2.2 x.2) k fun n6=>Q (Q (Q (T (X h) f133s12 fun x=>impl_LeafMax.c12 k (impl_LeafMax.l6 k n6) x.1.1 x.1.2.1 x.1.2.2.1 x.1.2.2.2.2.1 x.1.2.2.2.2.2 x.2) (B (Q (Q (T (X h) f133s10 fun x=>impl_LeafMax.c10 k (impl_LeafMax.l6 k n6) x.1.1 x.1.2.1 x.1.2.2.1 x.1.2.2.2.1 x.1.2.2.2.2.2.1 x.1.2.2.2.2.2.2 x.2) (X h)) (X h)))) (X h)) (X h))) (X h))) (X h)) (X h)) (X h)) (X h)
def f133 (k:Nat):Fc Tryz.prog:=⟨133,_,f133ok k⟩
def f71c (k:Nat):Con:=⟨⟨[(0,z11),(1,z3)],[]⟩,⟨[(0,z54),(1,z5)],[]⟩,2,2,fun x=>impl_LeafOf k x.1 x.2⟩
theorem f71ok (k:Nat):FnOk Tryz.prog 71 (f71c k):=ok (cx [f85 k,f132 k,f133 k] 35 nb) Tryz.f71 fun h x=>X h
def f71 (k:Nat):Fc Tryz.prog:=⟨71,_,f71ok k⟩
def f328s4:SS:=⟨[(0,z83),(1,z83),(12,z3),(13,z3)],[]⟩
def f328c (k:Nat):Con:=⟨⟨[(0,z83),(1,z83)],[]⟩,⟨[(0,z5)],[]⟩,2,1,fun x=>slices_Equal_string_string k x.1 x.2⟩
theorem f328ok (k:Nat):FnOk Tryz.prog 328 (f328c k):=ok (cx [] 26 nb) Tryz.f328 fun h x=>Q (Q (Q (X h) (Q (B (L f328s4 (fun n x=>slices_Equal_string_string.l4 k n x.1 x.2.1 x.2.2.1 x.2.2.2) k fun n4=>X h)) (X h))) (X h)) (X h)
def f328 (k:Nat):Fc Tryz.prog:=⟨328,_,f328ok k⟩
def f329s3:SS:=⟨[(0,z11),(5,z1),(11,z13),(12,z3),(13,z3)],[(100,w17),(101,w18)]⟩
def f329c (k:Nat):Con:=⟨⟨[(0,z11),(1,z3)],[]⟩,⟨[(0,z1)],[(100,w17)]⟩,2,1,fun x=>impl_LeafPath k x.1 x.2⟩
theorem f329ok (k:Nat):FnOk Tryz.prog 329 (f329c k):=ok (cx [f208 k] 27 nb) Tryz.f329 fun h x=>Q (Q (Q (X h) (Q (B (L f329s3 (fun n x=>impl_LeafPath.l3 k n x.1.1 x.1.2.2.2.1 x.1.2.2.2.2 x.2.1 x.2.2) k fun n3=>X h)) (X h))) (X h)) (X h)
def f329 (k:Nat):Fc Tryz.prog:=⟨329,_,f329ok k⟩
def f314i7s28:SS:=⟨[(8,z12),(9,z32)],[(0,w80),(10,w82),(11,w18),(60,w33),(100,w36),(101,w39),(102,w18),(103,w18)]⟩
def f314i7s24:SS:=⟨[(0,z71),(8,z12),(9,z32),(10,z3)],[(0,w80),(10,w82),(11,w18),(60,w33),(100,w36),(101,w39),(102,w18),(103,w18)]⟩
def f314i7d22:SS:=⟨[(0,z71),(8,z12),(9,z32),(10,z3)],[(0,w80),(10,w82),(11,w18),(60,w33),(100,w36),(101,w39),(102,w18),(103,w18)]⟩
def f314i7s20:SS:=⟨[(0,z71),(8,z12),(9,z32),(10,z3)],[(0,w80),(10,w82),(11,w18),(60,w33),(100,w36),(101,w39),(102,w18),(103,w18)]⟩
def f314i7d18:SS:=⟨[(0,z71),(1,(.h 60)),(3,z3),(8,z12),(9,z32),(10,z3),(11,z22),(15,z37)],[(0,w80),(10,w82),(11,w18),(60,w33),(100,w41),(101,w43),(102,w64),(103,w17),(104,w18),(105,w18)]⟩
def f314i7s14:SS:=⟨[(0,z71),(1,(.h 60)),(3,z3),(8,z12),(9,z32),(10,z3),(11,z22),(15,z37),(80,(.h 104)),(81,z3),(82,z3)],[(0,w80),(10,w82),(11,w18),(60,w33),(100,w43),(101,w45),(102,w64),(103,w17),(104,w18),(105,w18),(106,w18)]⟩
def f314i7d10:SS:=⟨[(0,z71),(1,(.h 60)),(3,z3),(8,z12),(9,z32),(10,z3),(11,z22),(14,z3),(54,z37),(55,z3),(56,z3)],[(0,w80),(10,w82),(11,w18),(60,w33),(100,w41),(101,w43),(102,w64),(103,w18),(104,w18),(105,w18)]⟩
def f314i7s8:SS:=⟨[(0,z71),(1,(.h 60)),(3,z3),(8,z12),(9,z32),(10,z3),(11,z22),(54,z37),(55,z3),(56,z3)],[(0,w80),(10,w82),(11,w18),(60,w33),(100,w41),(101,w43),(102,w64),(103,w18),(104,w18),(105,w18)]⟩
def f314i7c (k:Nat):Con:=⟨⟨[(0,z71),(1,(.h 60)),(2,z3),(3,z3)],[(0,w80),(10,w82),(11,w18),(60,w33)]⟩,⟨[(0,z48)],[(0,w80),(10,w82),(11,w18),(60,w33),(100,w18)]⟩,4,1,fun x=>impl_metaReader_chunk k x.1.2.2.1 x.1.2.2.2 x.2.1 x.2.2.1 x.2.2.2.1 x.2.2.2.2⟩
theorem f314i7ok (k:Nat):FnOk Tryz.prog 314 (f314i7c k):=ok (cx [f71 k,f187 k,f274i1 k,f275i3 k,f328 k,f329 k] 169 nb) Tryz.f314 fun h x=>Q (Q (Q (Q (Q (Q (Q (Q (Q (T (Q (Q (Q (T (Q (Q (T (X h) f314i7s28 fun x=>impl_metaReader_chunk.c28 k x.2.1 x.2.2.1 x.2.2.2.1 x.2.2.2.2.1 x.2.2.2.2.2.1 x.2.2.2.2.2.2.1 x.2.2.2.2.2.2.2.1 x.2.2.2.2.2.2.2.2) (X h)) (X h)) f314i7s24 fun x=>impl_metaReader_chunk.c24 k x.1.2.2.2 x.2.1 x.2.2.1 x.2.2.2.1 x.2.2.2.2.1 x.2.2.2.2.2.1 x.2.2.2.2.2.2.1 x.2.2.2.2.2.2.2.1 x.2.2.2.2.2.2.2.2) (Q (X h) (K h f314i7d22 (fun x=>impl_metaReader_chunk.d22 k x.1.2.2.2 x.2.1 x.2.2.1 x.2.2.2.1 x.2.2.2.2.1 x.2.2.2.2.2.1 x.2.2.2.2.2.2.1 x.2.2.2.2.2.2.2.1 x.2.2.2.2.2.2.2.2) [[0,1,3,2,4,5],[0,1,3,4,2,5]] (O (fun x=>by kernel_rfl) (O (fun x=>by kernel_rfl) (N)))))) (X h)) (X h)) f314i7s20 fun x=>impl_metaReader_chunk.c20 k x.1.2.2.2 x.2.1 x.2.2.1 x.2.2.2.1 x.2.2.2.2.1 x.2.2.2.2.2.1 x.2.2.2.2.2.2.1 x.2.2.2.2.2.2.2.1 x.2.2.2.2.2.2.2.2) (Q (X h) (K h f314i7d18 (fun x=>impl_metaReader_chunk.d18 k x.1.2.2.1 x.1.2.2.2.2.2.1 x.2.1 x.2.2.1 x.2.2.2.1 x.2.2.2.2.1 x.2.2.2.2.2.1 x.2.2.2.2.2.2.1 x.2.2.2.2.2.2.2.1 x.2.2.2.2.2.2.2.2.1 x.2.2.2.2.2.2.2.2.2.1 x.2.2.2.2.2.2.2.2.2.2) [[0,1,3,2,4,5,6,7,8,9,10,11,12,13,14,15,16,17,18,19],[0,1,3,4,2,5,6,7,8,9,10,11,12,13,14,15,16,17,18,19]] (O (fun x=>by kernel_rfl) (O (fun x=>by kernel_rfl) (N)))))) (Q (B (L f314i7s14 (fun n x=>impl_metaReader_chunk.l14 k n x.1.2.2.1 x.1.2.2.2.2.2.1 x.1.2.2.2.2.2.2.2.2.2.1 x.1.2.2.2.2.2.2.2.2.2.2 x.2.1 x.2.2.1 x.2.2.2.1 x.2.2.2.2.1 x.2.2.2.2.2.1 x.2.2.2.2.2.2.1 x.2.2.2.2.2.2.2.1 x.2.2.2.2.2.2.2.2.1 x.2.2.2.2.2.2.2.2.2.1 x.2.2.2.2.2.2.2.2.2.2.1 x.2.2.2.2.2.2.2.2.2.2.2) k fun n14=>X h)) (X h))) (X h)) (Q (B (L f314i7s8 (fun n x=>impl_metaReader_chunk.l8 k n x.1.2.2.1 x.1.2.2.2.2.2.1 x.1.2.2.2.2.2.2.2.2.1 x.1.2.2.2.2.2.2.2.2.2 x.2.1 x.2.2.1 x.2.2.2.1 x.2.2.2.2.1 x.2.2.2.2.2.1 x.2.2.2.2.2.2.1 x.2.2.2.2.2.2.2.1 x.2.2.2.2.2.2.2.2.1 x.2.2.2.2.2.2.2.2.2.1 x.2.2.2.2.2.2.2.2.2.2) k fun n8=>Q (Q (Q (X h) (B (Q (K h f314i7d10 (fun x=>impl_metaReader_chunk.d10 k (impl_metaReader_chunk.l8 k n8) x.1.2.2.1 x.1.2.2.2.2.2.1 x.1.2.2.2.2.2.2.2.1 x.1.2.2.2.2.2.2.2.2.2.1 x.1.2.2.2.2.2.2.2.2.2.2 x.2.1 x.2.2.1 x.2.2.2.1 x.2.2.2.2.1 x.2.2.2.2.2.1 x.2.2.2.2.2.2.1 x.2.2.2.2.2.2.2.1 x.2.2.2.2.2.2.2.2.1 x.2.2.2.2.2.2.2.2.2.1 x.2.2.2.2.2.2.2.2.2.2) [[0,1,2,3,4,9,5,6,7,8,10,11,12,13,14,15,16]] (O (fun x=>by kernel_rfl) (N))) (X h)))) (X h)) (X h))) (X h))) (X h)) (X h)) (X h)) (X h)) (X h)
def f314i7 (k:Nat):Fc Tryz.prog:=⟨314,_,f314i7ok k⟩
def f276i5s11:SS:=⟨[(6,z12),(7,z32)],[(0,w80),(10,w82),(11,w18),(60,w33),(100,(.box y23 (.agg v35))),(101,(.box y23 (.agg v38))),(102,w52),(103,w52)]⟩
def f276i5s4:SS:=⟨[(0,z71),(1,(.h 60)),(6,z12),(7,z32),(18,z34),(19,z3),(20,z3)],[(0,w80),(10,w82),(11,w18),(60,w33),(100,(.box y23 (.agg v38))),(101,(.box y23 (.agg v40))),(102,w18),(103,w52),(104,w52)]⟩
def f276i5c (k:Nat):Con:=⟨⟨[(0,z71),(1,(.h 60)),(2,z3)],[(0,w80),(10,w82),(11,w18),(60,w33)]⟩,⟨[(0,(.agg (.cons z3 (.cons z1 .nil))))],[(0,w80),(10,w82),(11,w18),(60,w33),(100,w52)]⟩,3,1,fun x=>impl_metaReader_group k x.1.2.2 x.2.1 x.2.2.1 x.2.2.2.1 x.2.2.2.2⟩
theorem f276i5ok (k:Nat):FnOk Tryz.prog 276 (f276i5c k):=ok (cx [f274i1 k,f275i3 k,f314i7 k] 49 nb) Tryz.f276 fun h x=>Q (Q (Q (Q (T (X h) f276i5s11 fun x=>impl_metaReader_group.c11 k x.2.1 x.2.2.1 x.2.2.2.1 x.2.2.2.2.1 x.2.2.2.2.2.1 x.2.2.2.2.2.2.1 x.2.2.2.2.2.2.2.1 x.2.2.2.2.2.2.2.2) (Q (B (L f276i5s4 (fun n x=>impl_metaReader_group.l4 k n x.1.2.2.2.2.2.1 x.1.2.2.2.2.2.2 x.2.1 x.2.2.1 x.2.2.2.1 x.2.2.2.2.1 x.2.2.2.2.2.1 x.2.2.2.2.2.2.1 x.2.2.2.2.2.2.2.1 x.2.2.2.2.2.2.2.2.1 x.2.2.2.2.2.2.2.2.2) k fun n4=>X h)) (X h))) (X h)) (X h)) (X h)
def f276i5 (k:Nat):Fc Tryz.prog:=⟨276,_,f276i5ok k⟩
def f207s11:SS:=⟨[(2,z12),(6,z32),(7,z22),(36,z37),(37,z3),(38,z3)],[(100,(.box y24 (.agg (.cons (.h 104) v42)))),(101,(.box y24 (.agg (.cons (.h 106) v46)))),(102,(.box y79 (.agg (.cons (.p 108) (.cons z5 .nil))))),(103,w18),(104,w33),(105,w51),(106,w33),(107,w51),(108,(.box y75 (.agg (.cons z29 (.cons (.h 109) .nil))))),(109,w18)]⟩
def f207c (k:Nat):Con:=⟨⟨[(0,z29)],[]⟩,⟨[(0,z53),(1,z5)],[(100,w33),(101,w51)]⟩,1,2,fun x=>impl_MetaFrom k x⟩
theorem f207ok (k:Nat):FnOk Tryz.prog 207 (f207c k):=ok (cx [f84 k,f182 k,f273 k,f274i1 k,f275i3 k,f276i5 k] 65 nb) Tryz.f207 fun h x=>Q (Q (Q (Q (Q (Q (Q (Q (Q (X h) (Q (B (L f207s11 (fun n x=>impl_MetaFrom.l11 k n x.1.2.2.2.2.1 x.1.2.2.2.2.2 x.2.1 x.2.2.1 x.2.2.2.1 x.2.2.2.2.1 x.2.2.2.2.2.1 x.2.2.2.2.2.2.1 x.2.2.2.2.2.2.2.1 x.2.2.2.2.2.2.2.2.1 x.2.2.2.2.2.2.2.2.2.1 x.2.2.2.2.2.2.2.2.2.2) k fun n11=>X h)) (X h))) (X h)) (X h)) (X h)) (X h)) (X h)) (X h)) (X h)) (X h)
def f207 (k:Nat):Fc Tryz.prog:=⟨207,_,f207ok k⟩
def f131c (k:Nat):Con:=⟨⟨[(0,z0),(1,z3)],[]⟩,⟨[(0,z53),(1,z3),(2,z5)],[(100,w33),(101,w51)]⟩,2,3,fun x=>impl_MetaRead k x.1 x.2⟩
theorem f131ok (k:Nat):FnOk Tryz.prog 131 (f131c k):=ok (cx [f181 k,f207 k] 32 nb) Tryz.f131 fun h x=>X h
def f131 (k:Nat):Fc Tryz.prog:=⟨131,_,f131ok k⟩
def f70c (k:Nat):Con:=⟨⟨[(0,z0)],[]⟩,⟨[(0,z53),(1,z3)],[(100,w33),(101,w51)]⟩,1,2,fun x=>impl_FileMeta k x⟩
theorem f70ok (k:Nat):FnOk Tryz.prog 70 (f70c k):=ok (cx [f85 k,f130 k,f131 k] 67 nb) Tryz.f70 fun h x=>X h
def f70 (k:Nat):Fc Tryz.prog:=⟨70,_,f70ok k⟩
def f183c (k:Nat):Con:=⟨⟨[(0,z56)],[]⟩,⟨[(0,z5)],[]⟩,1,1,fun x=>impl_LeafOk k x⟩
theorem f183ok (k:Nat):FnOk Tryz.prog 183 (f183c k):=ok (cx [f85 k,f193 k] 18 nb) Tryz.f183 fun h x=>X h
def f183 (k:Nat):Fc Tryz.prog:=⟨183,_,f183ok k⟩
def f184i2s4:SS:=⟨[(5,z3)],[(0,w86),(10,w82),(11,w18)]⟩
def f184i2c (k:Nat):Con:=⟨⟨[(0,z71),(1,z3)],[(0,w86),(10,(.obox y75 z81)),(11,w18)]⟩,⟨[(0,z3)],[(0,w86),(10,w82),(11,w18)]⟩,2,1,fun x=>impl_headReader_any k x.1.2 x.2.1 x.2.2.1 x.2.2.2⟩
theorem f184i2ok (k:Nat):FnOk Tryz.prog 184 (f184i2c k):=ok (cx [f251 k] 26 nb) Tryz.f184 fun h x=>Q (Q (Q (T (X h) f184i2s4 fun x=>impl_headReader_any.c4 k x.1 x.2.1 x.2.2.1 x.2.2.2) (X h)) (X h)) (X h)
def f184i2 (k:Nat):Fc Tryz.prog:=⟨184,_,f184i2ok k⟩
def f185i4s4:SS:=⟨[(7,z3)],[(0,w86),(10,w82),(11,w18)]⟩
def f185i4c (k:Nat):Con:=⟨⟨[(0,z71),(1,z3),(2,z3)],[(0,w86),(10,w82),(11,w18)]⟩,⟨[(0,z3)],[(0,w86),(10,w82),(11,w18)]⟩,3,1,fun x=>impl_headReader_num k x.1.2.1 x.1.2.2 x.2.1 x.2.2.1 x.2.2.2⟩
theorem f185i4ok (k:Nat):FnOk Tryz.prog 185 (f185i4c k):=ok (cx [f251 k] 33 nb) Tryz.f185 fun h x=>Q (Q (Q (T (X h) f185i4s4 fun x=>impl_headReader_num.c4 k x.1 x.2.1 x.2.2.1 x.2.2.2) (X h)) (X h)) (X h)
def f185i4 (k:Nat):Fc Tryz.prog:=⟨185,_,f185i4ok k⟩
def f252i8c (k:Nat):Con:=⟨⟨[(0,z71),(1,z3)],[(0,w86),(10,w82),(11,w18)]⟩,⟨[],[(0,w86),(10,w82),(11,w18)]⟩,2,0,fun x=>impl_headReader_enter k x.1.2 x.2.1 x.2.2.1 x.2.2.2⟩
theorem f252i8ok (k:Nat):FnOk Tryz.prog 252 (f252i8c k):=ok (cx [f187 k] 38 nb) Tryz.f252 fun h x=>X h
def f252i8 (k:Nat):Fc Tryz.prog:=⟨252,_,f252i8ok k⟩
def f197s3:SS:=⟨[(3,z1),(7,z20),(8,z3),(9,z3)],[(100,w60)]⟩
def f197c (k:Nat):Con:=⟨⟨[(0,z20)],[]⟩,⟨[(0,z1)],[(100,w60)]⟩,1,1,fun x=>impl_valsOf k x⟩
theorem f197ok (k:Nat):FnOk Tryz.prog 197 (f197c k):=ok (cx [] 20 nb) Tryz.f197 fun h x=>Q (Q (Q (X h) (Q (B (L f197s3 (fun n x=>impl_valsOf.l3 k n x.1.2.1 x.1.2.2.1 x.1.2.2.2 x.2) k fun n3=>X h)) (X h))) (X h)) (X h)
def f197 (k:Nat):Fc Tryz.prog:=⟨197,_,f197ok k⟩
def f307c (k:Nat):Con:=⟨⟨[(0,z0),(1,z3)],[]⟩,⟨[(0,z3)],[]⟩,2,1,fun x=>impl_BitAt k x.1 x.2⟩
theorem f307ok (k:Nat):FnOk Tryz.prog 307 (f307c k):=ok (cx [] 24 nb) Tryz.f307 fun h x=>X h
def f307 (k:Nat):Fc Tryz.prog:=⟨307,_,f307ok k⟩
def f257s7:SS:=⟨[(0,z0),(1,z3),(3,z3),(9,z1),(10,z3),(11,z3),(14,z3),(15,z3),(18,z3),(19,z3)],[(100,w18)]⟩
def f257s3:SS:=⟨[(0,z0),(1,z3),(3,z3),(9,z1),(14,z3),(15,z3)],[(100,w18)]⟩
def f257c (k:Nat):Con:=⟨⟨[(0,z0),(1,z3),(2,z3),(3,z3)],[]⟩,⟨[(0,z1)],[(100,w18)]⟩,4,1,fun x=>impl_unpacked k x.1 x.2.1 x.2.2.1 x.2.2.2⟩
theorem f257ok (k:Nat):FnOk Tryz.prog 257 (f257c k):=ok (cx [f307 k] 43 nb) Tryz.f257 fun h x=>Q (Q (Q (X h) (Q (B (L f257s3 (fun n x=>impl_unpacked.l3 k n x.1.1 x.1.2.1 x.1.2.2.1 x.1.2.2.2.2.1 x.1.2.2.2.2.2 x.2) k fun n3=>Q (Q (Q (X h) (B (Q (Q (Q (X h) (Q (B (L f257s7 (fun n x=>impl_unpacked.l7 k (impl_unpacked.l3 k n3) n x.1.1 x.1.2.1 x.1.2.2.1 x.1.2.2.2.2.1 x.1.2.2.2.2.2.1 x.1.2.2.2.2.2.2.1 x.1.2.2.2.2.2.2.2.1 x.1.2.2.2.2.2.2.2.2.1 x.1.2.2.2.2.2.2.2.2.2 x.2) k fun n7=>X h)) (X h))) (X h)) (X h)))) (X h)) (X h))) (X h))) (X h)) (X h)
def f257 (k:Nat):Fc Tryz.prog:=⟨257,_,f257ok k⟩
def f306c (k:Nat):Con:=⟨⟨[(0,z3),(1,z3)],[]⟩,⟨[(0,z3)],[]⟩,2,1,fun x=>impl_BitsSize k x.1 x.2⟩
theorem f306ok (k:Nat):FnOk Tryz.prog 306 (f306c k):=ok (cx [f85 k] 18 nb) Tryz.f306 fun h x=>X h
def f306 (k:Nat):Fc Tryz.prog:=⟨306,_,f306ok k⟩
def f259c (k:Nat):Con:=⟨⟨[(0,z0),(1,z3),(2,z3),(3,z3)],[]⟩,⟨[(0,z1),(1,z3),(2,z5)],[(100,w18)]⟩,4,3,fun x=>impl_BitsRead k x.1 x.2.1 x.2.2.1 x.2.2.2⟩
theorem f259ok (k:Nat):FnOk Tryz.prog 259 (f259c k):=ok (cx [f85 k,f257 k,f306 k] 40 nb) Tryz.f259 fun h x=>X h
def f259 (k:Nat):Fc Tryz.prog:=⟨259,_,f259ok k⟩
def f194s6:SS:=⟨[(6,z5)],[]⟩
def f194c (k:Nat):Con:=⟨⟨[(0,z3)],[]⟩,⟨[(0,z3)],[]⟩,1,1,fun x=>impl_wideOf k x⟩
theorem f194ok (k:Nat):FnOk Tryz.prog 194 (f194c k):=ok (cx [] 9 nb) Tryz.f194 fun h x=>Q (Q (X h) (Q (B (Q (D (X h) (Q (T (X h) f194s6 fun x=>impl_wideOf.c6 k x) (X h))) (X h))) (X h))) (X h)
def f194 (k:Nat):Fc Tryz.prog:=⟨194,_,f194ok k⟩
def f266c (k:Nat):Con:=⟨⟨[(0,z3),(1,z3)],[]⟩,⟨[(0,z3)],[]⟩,2,1,fun x=>impl_signed k x.1 x.2⟩
theorem f266ok (k:Nat):FnOk Tryz.prog 266 (f266c k):=ok (cx [] 11 nb) Tryz.f266 fun h x=>X h
def f266 (k:Nat):Fc Tryz.prog:=⟨266,_,f266ok k⟩
def f260c (k:Nat):Con:=⟨⟨[(0,z3),(1,z0),(2,z3)],[]⟩,⟨[(0,z58),(1,z3),(2,z5)],[]⟩,3,3,fun x=>impl_plainOne k x.1 x.2.1 x.2.2⟩
theorem f260ok (k:Nat):FnOk Tryz.prog 260 (f260c k):=ok (cx [f130 k,f194 k,f266 k] 66 nb) Tryz.f260 fun h x=>X h
def f260 (k:Nat):Fc Tryz.prog:=⟨260,_,f260ok k⟩
def f195s8:SS:=⟨[(0,z3),(1,z0),(2,z3),(14,z1),(48,z3),(49,z3)],[(100,w60)]⟩
def f195c (k:Nat):Con:=⟨⟨[(0,z3),(1,z0),(2,z3),(3,z3)],[]⟩,⟨[(0,z1),(1,z3),(2,z5)],[(100,w60)]⟩,4,3,fun x=>impl_PlainRead k x.1 x.2.1 x.2.2.1 x.2.2.2⟩
theorem f195ok (k:Nat):FnOk Tryz.prog 195 (f195c k):=ok (cx [f85 k,f193 k,f197 k,f259 k,f260 k] 69 nb) Tryz.f195 fun h x=>Q (Q (Q (Q (Q (X h) (Q (B (L f195s8 (fun n x=>impl_PlainRead.l8 k n x.1.1 x.1.2.1 x.1.2.2.1 x.1.2.2.2.2.1 x.1.2.2.2.2.2 x.2) k fun n8=>X h)) (X h))) (X h)) (X h)) (X h)) (X h)
def f195 (k:Nat):Fc Tryz.prog:=⟨195,_,f195ok k⟩
def f203s8:SS:=⟨[(0,z3),(3,z12),(26,z5)],[(100,w59)]⟩
def f203c (k:Nat):Con:=⟨⟨[(0,z3),(1,z61)],[]⟩,⟨[(0,z5)],[]⟩,2,1,fun x=>impl_ValOk k x.1 x.2⟩
theorem f203ok (k:Nat):FnOk Tryz.prog 203 (f203c k):=ok (cx [f85 k,f267 k] 45 nb) Tryz.f203 fun h x=>Q (Q (X h) (Q (B (Q (D (X h) (Q (D (X h) (Q (T (X h) f203s8 fun x=>impl_ValOk.c8 k x.1.1 x.1.2.2 x.2) (X h))) (X h))) (X h))) (X h))) (X h)
def f203 (k:Nat):Fc Tryz.prog:=⟨203,_,f203ok k⟩
def f124s2:SS:=⟨[(0,z3),(1,z62),(7,z62),(8,z3),(9,z3)],[]⟩
def f124c (k:Nat):Con:=⟨⟨[(0,z3),(1,z62)],[]⟩,⟨[(0,z5)],[]⟩,2,1,fun x=>impl_valsOk k x.1 x.2⟩
theorem f124ok (k:Nat):FnOk Tryz.prog 124 (f124c k):=ok (cx [f193 k,f203 k] 25 nb) Tryz.f124 fun h x=>Q (Q (X h) (Q (B (L f124s2 (fun n x=>impl_valsOk.l2 k n x.1 x.2.1 x.2.2.1 x.2.2.2.1 x.2.2.2.2) k fun n2=>X h)) (X h))) (X h)
def f124 (k:Nat):Fc Tryz.prog:=⟨124,_,f124ok k⟩
def f337s6:SS:=⟨[(1,z3),(5,z1),(6,z3),(7,z3),(17,z20),(18,z3),(19,z3),(24,z3),(25,z3)],[(100,w4)]⟩
def f337s3:SS:=⟨[(1,z3),(5,z1),(17,z20),(18,z3),(19,z3)],[(100,w4)]⟩
def f337c (k:Nat):Con:=⟨⟨[(0,z20),(1,z3)],[]⟩,⟨[(0,z1)],[(100,w4)]⟩,2,1,fun x=>impl_packed k x.1 x.2⟩
theorem f337ok (k:Nat):FnOk Tryz.prog 337 (f337c k):=ok (cx [] 51 nb) Tryz.f337 fun h x=>Q (Q (Q (X h) (Q (B (L f337s3 (fun n x=>impl_packed.l3 k n x.1.1 x.1.2.2.1 x.1.2.2.2.1 x.1.2.2.2.2 x.2) k fun n3=>Q (Q (Q (X h) (B (Q (Q (B (L f337s6 (fun n x=>impl_packed.l6 k (impl_packed.l3 k n3) n x.1.1 x.1.2.2.1 x.1.2.2.2.1 x.1.2.2.2.2.1 x.1.2.2.2.2.2.1 x.1.2.2.2.2.2.2.1 x.1.2.2.2.2.2.2.2.1 x.1.2.2.2.2.2.2.2.2 x.2) k fun n6=>X h)) (X h)) (X h)))) (X h)) (X h))) (X h))) (X h)) (X h)
def f337 (k:Nat):Fc Tryz.prog:=⟨337,_,f337ok k⟩
def f338s3:SS:=⟨[(3,z1),(7,z62),(8,z3),(9,z3)],[(100,w18)]⟩
def f338c (k:Nat):Con:=⟨⟨[(0,z62)],[]⟩,⟨[(0,z1)],[(100,w18)]⟩,1,1,fun x=>impl_numsOf k x⟩
theorem f338ok (k:Nat):FnOk Tryz.prog 338 (f338c k):=ok (cx [] 20 nb) Tryz.f338 fun h x=>Q (Q (Q (X h) (Q (B (L f338s3 (fun n x=>impl_numsOf.l3 k n x.1.2.1 x.1.2.2.1 x.1.2.2.2 x.2) k fun n3=>X h)) (X h))) (X h)) (X h)
def f338 (k:Nat):Fc Tryz.prog:=⟨338,_,f338ok k⟩
def f339s5:SS:=⟨[(0,z3),(5,z1),(11,z3),(12,z3)],[(100,w4)]⟩
def f339c (k:Nat):Con:=⟨⟨[(0,z3),(1,z3)],[]⟩,⟨[(0,z1)],[(100,w4)]⟩,2,1,fun x=>impl_WordPut k x.1 x.2⟩
theorem f339ok (k:Nat):FnOk Tryz.prog 339 (f339c k):=ok (cx [f85 k] 25 nb) Tryz.f339 fun h x=>Q (Q (Q (Q (X h) (Q (B (L f339s5 (fun n x=>impl_WordPut.l5 k n x.1.1 x.1.2.2.1 x.1.2.2.2 x.2) k fun n5=>X h)) (X h))) (X h)) (X h)) (X h)
def f339 (k:Nat):Fc Tryz.prog:=⟨339,_,f339ok k⟩
def f336s12:SS:=⟨[(0,z3),(6,z1),(19,z62),(20,z3),(21,z3)],[(100,w4)]⟩
def f336d10:SS:=⟨[(0,z3),(6,z1),(8,z32),(19,z62),(20,z3),(21,z3)],[(100,w4),(101,w59)]⟩
def f336d11:SS:=⟨[(0,z3),(6,z1),(8,z32),(19,z62),(20,z3),(21,z3)],[(100,w4),(101,w59)]⟩
def f336s7:SS:=⟨[(0,z3),(6,z1),(19,z62),(20,z3),(21,z3)],[(100,w4)]⟩
def f336c (k:Nat):Con:=⟨⟨[(0,z3),(1,z62)],[]⟩,⟨[(0,z1),(1,z5)],[(100,w4)]⟩,2,2,fun x=>impl_PlainPack k x.1 x.2⟩
theorem f336ok (k:Nat):FnOk Tryz.prog 336 (f336c k):=ok (cx [f124 k,f194 k,f337 k,f338 k,f339 k] 45 nb) Tryz.f336 fun h x=>Q (Q (Q (Q (Q (X h) (Q (B (L f336s7 (fun n x=>impl_PlainPack.l7 k n x.1.1 x.1.2.2.1 x.1.2.2.2.1 x.1.2.2.2.2 x.2) k fun n7=>Q (Q (Q (T (X h) f336s12 fun x=>impl_PlainPack.c12 k (impl_PlainPack.l7 k n7) x.1.1 x.1.2.2.1 x.1.2.2.2.1 x.1.2.2.2.2 x.2) (B (Q (Q (D (K h f336d10 (fun x=>impl_PlainPack.d10 k (impl_PlainPack.l7 k n7) x.1.1 x.1.2.2.2.1 x.1.2.2.2.2.1 x.1.2.2.2.2.2 x.2.1 x.2.2) [[0,1,6,2,3,4,5,7,8,9],[0,1,6,2,3,4,7,5,8,9],[0,1,6,2,3,7,4,5,8,9],[0,1,6,7,2,3,4,5,8,9]] (O (fun x=>by kernel_rfl) (O (fun x=>by kernel_rfl) (O (fun x=>by kernel_rfl) (O (fun x=>by kernel_rfl) (N)))))) (K h f336d11 (fun x=>impl_PlainPack.d11 k (impl_PlainPack.l7 k n7) x.1.1 x.1.2.2.2.1 x.1.2.2.2.2.1 x.1.2.2.2.2.2 x.2.1 x.2.2) [[0,1,3,2,4,5,6,7],[0,1,3,4,2,5,6,7]] (O (fun x=>by kernel_rfl) (O (fun x=>by kernel_rfl) (N))))) (X h)) (X h)))) (X h)) (X h))) (X h))) (X h)) (X h)) (X h)) (X h)
def f336 (k:Nat):Fc Tryz.prog:=⟨336,_,f336ok k⟩
def f335c (k:Nat):Con:=⟨⟨[(0,z3),(1,z61)],[]⟩,⟨[(0,z6)],[]⟩,2,1,fun x=>impl_statText k x.1 x.2⟩
theorem f335ok (k:Nat):FnOk Tryz.prog 335 (f335c k):=ok (cx [f336 k] 20 nb) Tryz.f335 fun h x=>X h
def f335 (k:Nat):Fc Tryz.prog:=⟨335,_,f335ok k⟩
def f325c (k:Nat):Con:=⟨⟨[(0,z3),(1,z6)],[]⟩,⟨[(0,z58),(1,z5)],[]⟩,2,2,fun x=>impl_valueOf k x.1 x.2⟩
theorem f325ok (k:Nat):FnOk Tryz.prog 325 (f325c k):=ok (cx [f195 k,f203 k,f335 k] 46 nb) Tryz.f325 fun h x=>X h
def f325 (k:Nat):Fc Tryz.prog:=⟨325,_,f325ok k⟩
def f292c (k:Nat):Con:=⟨⟨[(0,z3)],[]⟩,⟨[(0,z3)],[]⟩,1,1,fun x=>impl_FloatKey k x⟩
theorem f292ok (k:Nat):FnOk Tryz.prog 292 (f292c k):=ok (cx [] 8 nb) Tryz.f292 fun h x=>X h
def f292 (k:Nat):Fc Tryz.prog:=⟨292,_,f292ok k⟩
def f232d5:SS:=⟨[(4,z12),(5,z32)],[(100,w59),(101,w59)]⟩
def f232c (k:Nat):Con:=⟨⟨[(0,z3),(1,z61),(2,z61)],[]⟩,⟨[(0,z5)],[]⟩,3,1,fun x=>impl_ValLess k x.1 x.2.1 x.2.2⟩
theorem f232ok (k:Nat):FnOk Tryz.prog 232 (f232c k):=ok (cx [f203 k,f292 k] 39 nb) Tryz.f232 fun h x=>Q (Q (Q (X h) (Q (B (Q (D (Q (X h) (K h f232d5 (fun x=>impl_ValLess.d5 k x.2.1 x.2.2) [[0,3,1,2,4,5,6,7],[0,3,1,4,2,5,6,7],[0,3,4,1,2,5,6,7]] (O (fun x=>by kernel_rfl) (O (fun x=>by kernel_rfl) (O (fun x=>by kernel_rfl) (N)))))) (X h)) (X h))) (X h))) (X h)) (X h)
def f232 (k:Nat):Fc Tryz.prog:=⟨232,_,f232ok k⟩
def f326c (k:Nat):Con:=⟨⟨[(0,z56),(1,(.ro y63))],[]⟩,⟨[(0,z5)],[]⟩,2,1,fun x=>impl_statsOk k x.1 x.2⟩
theorem f326ok (k:Nat):FnOk Tryz.prog 326 (f326c k):=ok (cx [f85 k,f183 k,f203 k,f232 k] 49 nb) Tryz.f326 fun h x=>X h
def f326 (k:Nat):Fc Tryz.prog:=⟨326,_,f326ok k⟩
def f304s13:SS:=⟨[(4,z12),(6,z32),(10,z22)],[(0,w77),(10,w18),(100,w64),(101,w66),(102,w66)]⟩
def f304d12:SS:=⟨[(4,z12),(6,z32),(10,z22),(15,(.p 103)),(17,z49)],[(0,w77),(10,w18),(100,w64),(101,w66),(102,w66),(103,w59),(104,w59)]⟩
def f304c (k:Nat):Con:=⟨⟨[(0,z71),(1,z56),(2,z3)],[(0,w78),(10,w18)]⟩,⟨[(0,z65),(1,z5)],[(0,w77),(10,w18)]⟩,3,2,fun x=>impl_tree_stats k x.1.2.1 x.1.2.2 x.2.1 x.2.2⟩
theorem f304ok (k:Nat):FnOk Tryz.prog 304 (f304c k):=ok (cx [f183 k,f186 k,f187 k,f251 k,f325 k,f326 k] 99 (fun s=>Nat.beq s 39)) Tryz.f304 fun h x=>Q (Q (Q (Q (Q (T (X h) f304s13 fun x=>impl_tree_stats.c13 k x.2.1 x.2.2.1 x.2.2.2.1 x.2.2.2.2.1 x.2.2.2.2.2) (Q (D (Q (Q (Q (Q (Q (K h f304d12 (fun x=>impl_tree_stats.d12 k x.2.1 x.2.2.1 x.2.2.2.1 x.2.2.2.2.1 x.2.2.2.2.2.1 x.2.2.2.2.2.2.1 x.2.2.2.2.2.2.2) [[2,0,1,3,4,5,6,7],[2,0,3,4,1,5,6,7],[2,0,3,4,5,1,6,7],[2,1,0,3,4,5,6,7],[2,1,3,0,4,5,6,7],[2,3,0,4,1,5,6,7],[2,3,0,4,5,1,6,7]] (O (fun x=>by kernel_rfl) (O (fun x=>by kernel_rfl) (O (fun x=>by kernel_rfl) (O (fun x=>by kernel_rfl) (O (fun x=>by kernel_rfl) (O (fun x=>by kernel_rfl) (O (fun x=>by kernel_rfl) (N))))))))) (X h)) (X h)) (X h)) (X h)) (X h)) (X h)) (X h))) (X h)) (X h)) (X h)) (X h)
def f304 (k:Nat):Fc Tryz.prog:=⟨304,_,f304ok k⟩
def f253i9c (k:Nat):Con:=⟨⟨[(0,z71),(1,z56),(2,z3),(3,(.p 3))],[(0,w86),(3,w69),(10,w82),(11,w18)]⟩,⟨[],[(0,w86),(3,w69),(10,w82),(11,w18)]⟩,4,0,fun x=>impl_headReader_statistics k x.1.2.1 x.1.2.2.1 x.2.1 x.2.2.1 x.2.2.2.1 x.2.2.2.2⟩
theorem f253i9ok (k:Nat):FnOk Tryz.prog 253 (f253i9c k):=ok (cx [f187 k,f304 k] 37 nb) Tryz.f253 fun h x=>X h
def f253i9 (k:Nat):Fc Tryz.prog:=⟨253,_,f253i9ok k⟩
def f188i6s23:SS:=⟨[(0,z71),(2,(.p 2))],[(0,w86),(2,w69),(10,w82),(11,w18)]⟩
def f188i6s8:SS:=⟨[(0,z71),(2,(.p 2)),(4,z12)],[(0,w86),(2,w69),(10,w82),(11,w18),(100,w64)]⟩
def f188i6s19:SS:=⟨[(0,z71),(2,(.p 2)),(4,z12)],[(0,w86),(2,w69),(10,w82),(11,w18),(100,w64)]⟩
def f188i6c (k:Nat):Con:=⟨⟨[(0,z71),(1,z56),(2,(.p 2))],[(0,w86),(2,w69),(10,w82),(11,w18)]⟩,⟨[],[(0,w86),(2,w69),(10,w82),(11,w18)]⟩,3,0,fun x=>impl_headReader_own k x.1.2.1 x.2.1 x.2.2.1 x.2.2.2.1 x.2.2.2.2⟩
theorem f188i6ok (k:Nat):FnOk Tryz.prog 188 (f188i6c k):=ok (cx [f184i2 k,f185i4 k,f187 k,f252i8 k,f253i9 k] 127 (fun s=>Nat.beq s 26)) Tryz.f188 fun h x=>Q (Q (T (X h) f188i6s23 fun x=>impl_headReader_own.c23 k x.2.1 x.2.2.1 x.2.2.2.1 x.2.2.2.2) (Q (B (Q (D (Q (Q (Q (T (X h) f188i6s8 fun x=>impl_headReader_own.c8 k x.2.1 x.2.2.1 x.2.2.2.1 x.2.2.2.2.1 x.2.2.2.2.2) (X h)) (X h)) (X h)) (Q (D (Q (Q (Q (Q (Q (Q (Q (Q (T (X h) f188i6s19 fun x=>impl_headReader_own.c19 k x.2.1 x.2.2.1 x.2.2.2.1 x.2.2.2.2.1 x.2.2.2.2.2) (X h)) (X h)) (X h)) (X h)) (X h)) (X h)) (X h)) (X h)) (X h)) (X h))) (X h))) (X h))) (X h)
def f188i6 (k:Nat):Fc Tryz.prog:=⟨188,_,f188i6ok k⟩
def f118d14:SS:=⟨[(1,z0),(3,z12),(6,z32),(9,z3),(13,z22),(14,(.p 103)),(15,z49),(16,z5)],[(100,w64),(101,w69),(102,w87),(103,w69),(104,w31),(105,w88),(106,w18)]⟩
def f118s14:SS:=⟨[(1,z0),(3,z12),(6,z32),(9,z3),(13,z22),(14,(.p 103)),(15,z49),(16,z5)],[(100,w64),(101,w69),(102,w87),(103,w69),(104,w31),(105,w88),(106,w18)]⟩
def f118s11:SS:=⟨[(1,z0),(3,z12),(6,z32),(9,z3),(11,z22),(13,(.p 103)),(14,z49)],[(100,w64),(101,w69),(102,w89),(103,w90),(104,w69),(105,w18)]⟩
def f118d9:SS:=⟨[(1,z0),(3,z12),(6,z32),(9,z3),(11,z22),(13,(.p 103)),(14,z49)],[(100,w64),(101,w69),(102,w89),(103,w90),(104,w69),(105,w18)]⟩
def f118c (k:Nat):Con:=⟨⟨[(0,z56),(1,z0),(2,z3)],[]⟩,⟨[(0,z68),(1,z3)],[]⟩,3,2,fun x=>impl_HeadRead k x.1 x.2.1 x.2.2⟩
theorem f118ok (k:Nat):FnOk Tryz.prog 118 (f118c k):=ok (cx [f181 k,f182 k,f183 k,f184i2 k,f185i4 k,f186 k,f187 k,f188i6 k] 100 nb) Tryz.f118 fun h x=>Q (Q (Q (Q (Q (Q (Q (Q (Q (T (Q (Q (T (Q (X h) (K h f118d14 (fun x=>impl_HeadRead.d14 k x.1.1 x.1.2.2.2.1 x.1.2.2.2.2.2.2.2 x.2.1 x.2.2.1 x.2.2.2.1 x.2.2.2.2.1 x.2.2.2.2.2.1 x.2.2.2.2.2.2.1 x.2.2.2.2.2.2.2) [[0,1,4,2,3,5,6,7],[0,1,4,5,2,3,6,7]] (O (fun x=>by kernel_rfl) (O (fun x=>by kernel_rfl) (N))))) f118s14 fun x=>impl_HeadRead.c14 k x.1.1 x.1.2.2.2.1 x.1.2.2.2.2.2.2.2 x.2.1 x.2.2.1 x.2.2.2.1 x.2.2.2.2.1 x.2.2.2.2.2.1 x.2.2.2.2.2.2.1 x.2.2.2.2.2.2.2) (X h)) (X h)) f118s11 fun x=>impl_HeadRead.c11 k x.1.1 x.1.2.2.2.1 x.2.1 x.2.2.1 x.2.2.2.1 x.2.2.2.2.1 x.2.2.2.2.2.1 x.2.2.2.2.2.2) (Q (X h) (K h f118d9 (fun x=>impl_HeadRead.d9 k x.1.1 x.1.2.2.2.1 x.2.1 x.2.2.1 x.2.2.2.1 x.2.2.2.2.1 x.2.2.2.2.2.1 x.2.2.2.2.2.2) [[0,2,1,3,4],[0,2,3,1,4]] (O (fun x=>by kernel_rfl) (O (fun x=>by kernel_rfl) (N)))))) (X h)) (X h)) (X h)) (X h)) (X h)) (X h)) (X h)) (X h)
def f118 (k:Nat):Fc Tryz.prog:=⟨118,_,f118ok k⟩
def f305s7:SS:=⟨[(0,z3),(4,z3)],[]⟩
def f305s2:SS:=⟨[(0,z3),(4,z3)],[]⟩
def f305c (k:Nat):Con:=⟨⟨[(0,z3)],[]⟩,⟨[(0,z3)],[]⟩,1,1,fun x=>impl_crcNumber k x⟩
theorem f305ok (k:Nat):FnOk Tryz.prog 305 (f305c k):=ok (cx [] 16 nb) Tryz.f305 fun h x=>Q (Q (X h) (Q (B (L f305s2 (fun n x=>impl_crcNumber.l2 k n x.1 x.2) k fun n2=>Q (Q (Q (T (X h) f305s7 fun x=>impl_crcNumber.c7 k (impl_crcNumber.l2 k n2) x.1 x.2) (X h)) (X h)) (X h))) (X h))) (X h)
def f305 (k:Nat):Fc Tryz.prog:=⟨305,_,f305ok k⟩
def f254s3:SS:=⟨[(1,z1),(4,z3)],[(100,w18)]⟩
def f254c (k:Nat):Con:=⟨⟨[],[]⟩,⟨[(0,z1)],[(100,w18)]⟩,0,1,fun x=>impl_CrcTable k⟩
theorem f254ok (k:Nat):FnOk Tryz.prog 254 (f254c k):=ok (cx [f305 k] 14 nb) Tryz.f254 fun h x=>Q (Q (Q (X h) (Q (B (L f254s3 (fun n x=>impl_CrcTable.l3 k n x.1.2 x.2) k fun n3=>X h)) (X h))) (X h)) (X h)
def f254 (k:Nat):Fc Tryz.prog:=⟨254,_,f254ok k⟩
def f189s6:SS:=⟨[(0,z3),(5,z1),(14,z0),(15,z3),(16,z3)],[(100,w18)]⟩
def f189c (k:Nat):Con:=⟨⟨[(0,z3),(1,z0)],[]⟩,⟨[(0,z3)],[]⟩,2,1,fun x=>impl_CrcMore k x.1 x.2⟩
theorem f189ok (k:Nat):FnOk Tryz.prog 189 (f189c k):=ok (cx [f85 k,f254 k] 34 nb) Tryz.f189 fun h x=>Q (Q (Q (Q (Q (X h) (Q (B (L f189s6 (fun n x=>impl_CrcMore.l6 k n x.1.1 x.1.2.2.1 x.1.2.2.2.1 x.1.2.2.2.2 x.2) k fun n6=>X h)) (X h))) (X h)) (X h)) (X h)) (X h)
def f189 (k:Nat):Fc Tryz.prog:=⟨189,_,f189ok k⟩
def f119c (k:Nat):Con:=⟨⟨[(0,z0)],[]⟩,⟨[(0,z3)],[]⟩,1,1,fun x=>impl_CrcOf k x⟩
theorem f119ok (k:Nat):FnOk Tryz.prog 119 (f119c k):=ok (cx [f189 k] 5 nb) Tryz.f119 fun h x=>X h
def f119 (k:Nat):Fc Tryz.prog:=⟨119,_,f119ok k⟩
def f59d5:SS:=⟨[(6,z12),(9,z32),(11,z0)],[(100,w69),(101,w69)]⟩
def f59c (k:Nat):Con:=⟨⟨[(0,z56),(1,z0),(2,z3)],[]⟩,⟨[(0,z68),(1,z0),(2,z3)],[]⟩,3,3,fun x=>impl_checked k x.1 x.2.1 x.2.2⟩
theorem f59ok (k:Nat):FnOk Tryz.prog 59 (f59c k):=ok (cx [f118 k,f119 k] 44 nb) Tryz.f59 fun h x=>Q (Q (Q (Q (Q (X h) (Q (X h) (K h f59d5 (fun x=>impl_checked.d5 k x.1.2.2 x.2.1 x.2.2) [[0,1,2,3,5,4,6,7,8],[0,1,2,3,5,6,4,7,8]] (O (fun x=>by kernel_rfl) (O (fun x=>by kernel_rfl) (N)))))) (X h)) (X h)) (X h)) (X h)
def f59 (k:Nat):Fc Tryz.prog:=⟨59,_,f59ok k⟩
def f134c (k:Nat):Con:=⟨⟨[(0,z3),(1,z0),(2,z3)],[]⟩,⟨[(0,z1),(1,z3),(2,z3)],[(100,w60)]⟩,3,3,fun x=>impl_DictRead k x.1 x.2.1 x.2.2⟩
theorem f134ok (k:Nat):FnOk Tryz.prog 134 (f134c k):=ok (cx [f59 k,f195 k] 75 nb) Tryz.f134 fun h x=>X h
def f134 (k:Nat):Fc Tryz.prog:=⟨134,_,f134ok k⟩
def f72s11:SS:=⟨[(1,z0),(3,z12),(5,z32),(9,z34),(13,z37),(14,z3),(15,z3)],[(100,w64),(101,w21),(102,w60),(103,w18)]⟩
def f72s9:SS:=⟨[(1,z0),(3,z12),(5,z32),(9,z34)],[(100,w64),(101,w21),(102,w60)]⟩
def f72c (k:Nat):Con:=⟨⟨[(0,z56),(1,z0),(2,(.ro y19))],[]⟩,⟨[(0,z1),(1,z13),(2,z3)],[(100,w18),(101,w60)]⟩,3,3,fun x=>impl_ChunkPages k x.1 x.2.1 x.2.2⟩
theorem f72ok (k:Nat):FnOk Tryz.prog 72 (f72c k):=ok (cx [f118 k,f134 k] 90 nb) Tryz.f72 fun h x=>Q (Q (Q (Q (T (Q (Q (Q (X h) (B (L f72s11 (fun n x=>impl_ChunkPages.l11 k n x.1.1 x.1.2.2.2.2.2.1 x.1.2.2.2.2.2.2 x.2.1 x.2.2.1 x.2.2.2.1 x.2.2.2.2) k fun n11=>X h))) (X h)) (X h)) f72s9 fun x=>impl_ChunkPages.c9 k x.1.1 x.2.1 x.2.2.1 x.2.2.2) (X h)) (X h)) (X h)) (X h)
def f72 (k:Nat):Fc Tryz.prog:=⟨72,_,f72ok k⟩
def f23s9:SS:=⟨[(0,z0),(4,z12),(6,z3),(25,z25),(26,z3),(27,z3),(32,z27),(33,z3),(34,z3)],[(100,w91),(101,w33)]⟩
def f23s6:SS:=⟨[(0,z0),(4,z12),(6,z3),(25,z25),(26,z3),(27,z3)],[(100,w91),(101,w33)]⟩
def f23c (k:Nat):Con:=⟨⟨[(0,z0)],[]⟩,⟨[(0,z3),(1,z3)],[]⟩,1,2,fun x=>impl_PagesOf k x⟩
theorem f23ok (k:Nat):FnOk Tryz.prog 23 (f23c k):=ok (cx [f70 k,f71 k,f72 k] 63 nb) Tryz.f23 fun h x=>Q (Q (Q (Q (Q (X h) (Q (B (L f23s6 (fun n x=>impl_PagesOf.l6 k n x.1.1 x.1.2.2.1 x.1.2.2.2.1 x.1.2.2.2.2.1 x.1.2.2.2.2.2 x.2.1 x.2.2) k fun n6=>Q (Q (Q (X h) (B (Q (Q (B (L f23s9 (fun n x=>impl_PagesOf.l9 k (impl_PagesOf.l6 k n6) n x.1.1 x.1.2.2.1 x.1.2.2.2.1 x.1.2.2.2.2.1 x.1.2.2.2.2.2.1 x.1.2.2.2.2.2.2.1 x.1.2.2.2.2.2.2.2.1 x.1.2.2.2.2.2.2.2.2 x.2.1 x.2.2) k fun n9=>X h)) (X h)) (X h)))) (X h)) (X h))) (X h))) (X h)) (X h)) (X h)) (X h)
def f23 (k:Nat):Fc Tryz.prog:=⟨23,_,f23ok k⟩
def f4c (k:Nat):Con:=⟨⟨[(0,z0)],[]⟩,⟨[(0,z5)],[]⟩,1,1,fun x=>laws_FnExactPagesOf k x⟩
theorem f4ok (k:Nat):FnOk Tryz.prog 4 (f4c k):=ok (cx [f12 k,f16 k,f22 k,f23 k] 37 nb) Tryz.f4 fun h x=>X h
def f4 (k:Nat):Fc Tryz.prog:=⟨4,_,f4ok k⟩
end Go.Proofs.YtohaijhiclmkkaaGreat
