/- The walks, printed by program. -/
import Derived.Test.YtabocefniklbpaaGreatBase
import Derived.Test.YtabocefniklbpaaGreatECPF0
set_option linter.unusedVariables false
set_option maxRecDepth 100000
namespace Go.Proofs.YtabocefniklbpaaGreat
open Go.Am Go.Am.W Go.Fn

abbrev y0 : Ty := .int .i64
abbrev z1 : CS := .ro (.list 3 y0)
abbrev z2 : CS := .ro y0
abbrev y3 : Ty := .st (.cons y0 (.cons y0 (.cons y0 (.cons y0 (.cons y0 (.cons (.list 3 y0) .nil))))))
abbrev z4 : CS := .ro (.list 5 (.int .u8))
abbrev z5 : CS := .ro .bool
abbrev z6 : CS := .ro .str
abbrev z7 : CS := .h 100
abbrev u8 : Ty := .cons y0 .nil
abbrev y9 : Ty := .st (.cons y0 (.cons y0 (.cons y0 (.cons .str u8))))
abbrev w10 : OS := .sl 70 y9
abbrev y11 : Ty := .st (.cons y0 (.cons y0 u8))
abbrev z12 : CS := .ro y11
abbrev z13 : CS := .ro (.list 70 y9)
abbrev w14 : OS := .sl 3 y0
abbrev z15 : CS := .p 100
abbrev y16 : Ty := .st (.cons y0 (.cons .str .nil))
abbrev z17 : CS := .agg (.cons z2 (.cons z6 .nil))
abbrev w18 : OS := .box y16 z17
abbrev w19 : OS := .sl 49 y16
abbrev z20 : CS := .ro y16
abbrev z21 : CS := .ro (.list 49 y16)
abbrev w22 : OS := .sl 5 (.int .u8)
abbrev z23 : CS := .p 101
abbrev y24 : Ty := .st (.cons y0 (.cons .bool (.cons y16 (.cons y16 .nil))))
abbrev z25 : CS := .p 102
abbrev v26 : CS := .cons z2 .nil
abbrev z27 : CS := .agg (.cons z2 (.cons z2 v26))
abbrev w28 : OS := .box y11 z27
abbrev z29 : CS := .agg (.cons z2 (.cons z5 (.cons z17 (.cons z17 .nil))))
abbrev w30 : OS := .box y24 z29
abbrev y31 : Ty := .st (.cons y0 (.cons y0 (.cons y0 (.cons y0 (.cons y0 (.cons y0 (.cons y0 (.cons y0 (.cons .bool (.cons y0 (.cons .bool (.cons y24 u8))))))))))))
abbrev z32 : CS := .agg (.cons z2 (.cons z2 (.cons z2 (.cons z2 (.cons z2 (.cons z2 (.cons z2 (.cons z2 (.cons z5 (.cons z2 (.cons z5 (.cons z29 v26))))))))))))
abbrev w33 : OS := .box y31 z32
abbrev z34 : CS := .h 103
abbrev w35 : OS := .box y3 (.agg (.cons z2 (.cons z2 (.cons z2 (.cons z2 (.cons z2 (.cons z1 .nil)))))))
abbrev z36 : CS := .p 0
abbrev y37 : Ty := .st (.cons (.list 5 (.int .u8)) (.cons y0 (.cons (.list 70 y9) u8)))
abbrev w38 : OS := .box y37 (.agg (.cons z4 (.cons z2 (.cons (.h 10) v26))))
abbrev z39 : CS := .agg (.cons z2 (.cons z2 (.cons z2 (.cons z6 v26))))
abbrev w40 : OS := .box y9 z39
abbrev w41 : OS := .box y37 (.agg (.cons z4 (.cons z2 (.cons z7 v26))))
abbrev y42 : Ty := .st (.cons (.list 70 y9) (.cons (.list 3 y0) .nil))
abbrev z43 : CS := .agg (.cons z13 (.cons (.h 10) .nil))
abbrev w44 : OS := .box y42 z43
abbrev w45 : OS := .obox y42 z43
abbrev y46 : Ty := .st (.cons .ptr (.cons y0 (.cons .bool .nil)))
abbrev v47 : CS := .cons z2 (.cons z5 .nil)
abbrev w48 : OS := .box y46 (.agg (.cons (.p 10) v47))
abbrev z49 : CS := .agg (.cons z13 (.cons (.h 11) .nil))
abbrev w50 : OS := .box y42 z49
abbrev w51 : OS := .box y46 (.agg (.cons (.p 105) v47))
abbrev w52 : OS := .box y42 (.agg (.cons z13 (.cons (.h 106) .nil)))
abbrev w53 : OS := .box y42 (.agg (.cons z13 (.cons (.h 105) .nil)))
abbrev w54 : OS := .box y46 (.agg (.cons z25 v47))
def f20c (k : Nat) : Con := ⟨⟨[(0, z1), (1, z2)], []⟩, ⟨[(0, z2)], []⟩, 2, 1, fun x => laws_szIntS k x.1 x.2⟩
theorem f20ok (k : Nat) : FnOk Tryz.prog 20 (f20c k) := ok (cx [] 12 nb) Tryz.f20 fun h x => X h
def f20 (k : Nat) : Fc Tryz.prog := ⟨20, _, f20ok k⟩
def f4c (k : Nat) : Con := ⟨⟨[(0, (.ro y3)), (1, z2)], []⟩, ⟨[(0, z2)], []⟩, 2, 1, fun x => laws_szChunk k x.1 x.2⟩
theorem f4ok (k : Nat) : FnOk Tryz.prog 4 (f4c k) := ok (cx [f20 k] 12 nb) Tryz.f4 fun h x => X h
def f4 (k : Nat) : Fc Tryz.prog := ⟨4, _, f4ok k⟩
def f94s5 : SS := ⟨[(0, z4), (1, z2), (7, z2), (8, z2)], []⟩
def f94c (k : Nat) : Con := ⟨⟨[(0, z4), (1, z2)], []⟩, ⟨[(0, z2), (1, z2), (2, z5)], []⟩, 2, 3, fun x => spec_UvarGet k x.1 x.2⟩
theorem f94ok (k : Nat) : FnOk Tryz.prog 94 (f94c k) := ok (cx [] 57 nb) Tryz.f94 fun h x => Q (Q (Q (Q (X h) (Q (B (L f94s5 (fun n x => spec_UvarGet.l5 k n x.1 x.2.1 x.2.2.1 x.2.2.2) k fun n5 => X h)) (X h))) (X h)) (X h)) (X h)
def f94 (k : Nat) : Fc Tryz.prog := ⟨94, _, f94ok k⟩
def f108c (k : Nat) : Con := ⟨⟨[(0, z2), (1, z2)], []⟩, ⟨[(0, z2)], []⟩, 2, 1, fun x => spec_l2Down k x.1 x.2⟩
theorem f108ok (k : Nat) : FnOk Tryz.prog 108 (f108c k) := ok (cx [] 16 nb) Tryz.f108 fun h x => X h
def f108 (k : Nat) : Fc Tryz.prog := ⟨108, _, f108ok k⟩
def f95c (k : Nat) : Con := ⟨⟨[(0, z2)], []⟩, ⟨[(0, z2)], []⟩, 1, 1, fun x => spec_Zag k x⟩
theorem f95ok (k : Nat) : FnOk Tryz.prog 95 (f95c k) := ok (cx [f108 k] 11 nb) Tryz.f95 fun h x => X h
def f95 (k : Nat) : Fc Tryz.prog := ⟨95, _, f95ok k⟩
def f70c (k : Nat) : Con := ⟨⟨[(0, z4), (1, z2)], []⟩, ⟨[(0, z2), (1, z2), (2, z5)], []⟩, 2, 3, fun x => spec_ZigGet k x.1 x.2⟩
theorem f70ok (k : Nat) : FnOk Tryz.prog 70 (f70c k) := ok (cx [f94 k, f95 k] 22 nb) Tryz.f70 fun h x => X h
def f70 (k : Nat) : Fc Tryz.prog := ⟨70, _, f70ok k⟩
def f47c (k : Nat) : Con := ⟨⟨[(0, z2), (1, z2), (2, z2)], []⟩, ⟨[(0, z5)], []⟩, 3, 1, fun x => spec_l1In k x.1 x.2.1 x.2.2⟩
theorem f47ok (k : Nat) : FnOk Tryz.prog 47 (f47c k) := ok (cx [] 15 nb) Tryz.f47 fun h x => X h
def f47 (k : Nat) : Fc Tryz.prog := ⟨47, _, f47ok k⟩
def f71c (k : Nat) : Con := ⟨⟨[(0, z2)], []⟩, ⟨[(0, z5)], []⟩, 1, 1, fun x => spec_l4Int k x⟩
theorem f71ok (k : Nat) : FnOk Tryz.prog 71 (f71c k) := ok (cx [f47 k] 5 nb) Tryz.f71 fun h x => X h
def f71 (k : Nat) : Fc Tryz.prog := ⟨71, _, f71ok k⟩
def f72c (k : Nat) : Con := ⟨⟨[(0, z4), (1, z2)], []⟩, ⟨[(0, z6), (1, z2), (2, z2)], []⟩, 2, 3, fun x => spec_l4Text k x.1 x.2⟩
theorem f72ok (k : Nat) : FnOk Tryz.prog 72 (f72c k) := ok (cx [f94 k] 44 nb) Tryz.f72 fun h x => X h
def f72 (k : Nat) : Fc Tryz.prog := ⟨72, _, f72ok k⟩
def f97s9 : SS := ⟨[(4, z5)], []⟩
def f97c (k : Nat) : Con := ⟨⟨[(0, z2)], []⟩, ⟨[(0, z5)], []⟩, 1, 1, fun x => spec_l4Kind k x⟩
theorem f97ok (k : Nat) : FnOk Tryz.prog 97 (f97c k) := ok (cx [] 12 nb) Tryz.f97 fun h x => Q (Q (X h) (Q (B (Q (T (X h) f97s9 fun x => spec_l4Kind.c9 k x) (X h))) (X h))) (X h)
def f97 (k : Nat) : Fc Tryz.prog := ⟨97, _, f97ok k⟩
def f96c (k : Nat) : Con := ⟨⟨[(0, z2)], []⟩, ⟨[(0, z5)], []⟩, 1, 1, fun x => spec_l4Item k x⟩
theorem f96ok (k : Nat) : FnOk Tryz.prog 96 (f96c k) := ok (cx [f97 k] 13 nb) Tryz.f96 fun h x => X h
def f96 (k : Nat) : Fc Tryz.prog := ⟨96, _, f96ok k⟩
def f73s11 : SS := ⟨[(1, z2), (8, z2), (9, z2)], []⟩
def f73c (k : Nat) : Con := ⟨⟨[(0, z4), (1, z2)], []⟩, ⟨[(0, z2), (1, z2), (2, z2), (3, z2)], []⟩, 2, 4, fun x => spec_l4Many k x.1 x.2⟩
theorem f73ok (k : Nat) : FnOk Tryz.prog 73 (f73c k) := ok (cx [f94 k, f96 k] 62 nb) Tryz.f73 fun h x => Q (Q (Q (Q (Q (T (X h) f73s11 fun x => spec_l4Many.c11 k x.1 x.2.1 x.2.2) (X h)) (X h)) (X h)) (X h)) (X h)
def f73 (k : Nat) : Fc Tryz.prog := ⟨73, _, f73ok k⟩
def f74s16 : SS := ⟨[(1, z2), (2, z2), (10, z2), (12, z2)], []⟩
def f74c (k : Nat) : Con := ⟨⟨[(0, z4), (1, z2), (2, z2)], []⟩, ⟨[(0, z2), (1, z2), (2, z2), (3, z2)], []⟩, 3, 4, fun x => spec_l4Head k x.1 x.2.1 x.2.2⟩
theorem f74ok (k : Nat) : FnOk Tryz.prog 74 (f74c k) := ok (cx [f47 k, f70 k, f97 k] 71 nb) Tryz.f74 fun h x => Q (Q (Q (Q (Q (Q (Q (Q (T (X h) f74s16 fun x => spec_l4Head.c16 k x.1 x.2.1 x.2.2.1 x.2.2.2) (X h)) (X h)) (X h)) (X h)) (X h)) (X h)) (X h)) (X h)
def f74 (k : Nat) : Fc Tryz.prog := ⟨74, _, f74ok k⟩
def f50s24 : SS := ⟨[(0, z4), (4, z2), (5, z7), (22, z2), (23, z2), (24, z2), (25, z2), (26, z2)], [(100, w10)]⟩
def f50s30 : SS := ⟨[(0, z4), (1, z2), (4, z2), (5, z7), (15, z2), (27, z2), (28, z2)], [(100, w10)]⟩
def f50s8 : SS := ⟨[(0, z4), (1, z2), (2, z2), (4, z2), (5, z7), (15, z2), (49, z2), (50, z5)], [(100, w10)]⟩
def f50con (F : (List Int) → Int → Int → Int → Int → (List TNode) → Option ((Unit × Int × Int) × (List TNode))) : Con := ⟨⟨[(0, z4), (1, z2), (2, z2), (3, z2), (4, z2), (5, (.h 10))], [(10, w10)]⟩, ⟨[(0, z7), (1, z2), (2, z2)], [(100, w10)]⟩, 6, 3, fun x => F x.1.1 x.1.2.1 x.1.2.2.1 x.1.2.2.2.1 x.1.2.2.2.2.1 x.2⟩
theorem f50okb (k : Nat) (S50 : (List Int) → Int → Int → Int → Int → (List TNode) → Option ((Unit × Int × Int) × (List TNode))) (h50 : FnOk Tryz.prog 50 (f50con S50)) : FnOk Tryz.prog 50 (f50con (spec_l4Read.b k S50)) := ok (cx [⟨50, _, h50⟩, f70 k, f71 k, f72 k, f73 k, f74 k] 183 nb) Tryz.f50 fun h x => Q (Q (Q (Q (Q (X h) (Q (B (Q (T (D (X h) (Q (D (X h) (Q (D (Q (Q (Q (Q (X h) (Q (B (L f50s24 (fun n x => spec_l4Read.l24 k S50 n x.1.1 x.1.2.1 x.1.2.2.2.1 x.1.2.2.2.2.1 x.1.2.2.2.2.2.1 x.1.2.2.2.2.2.2.1 x.1.2.2.2.2.2.2.2 x.2) k fun n24 => X h)) (X h))) (X h)) (X h)) (X h)) (Q (D (Q (B (L f50s30 (fun n x => spec_l4Read.l30 k S50 n x.1.1 x.1.2.1 x.1.2.2.1 x.1.2.2.2.2.1 x.1.2.2.2.2.2.1 x.1.2.2.2.2.2.2 x.2) k fun n30 => X h)) (X h)) (X h)) (X h))) (X h))) (X h))) f50s8 fun x => spec_l4Read.c8 k S50 x.1.1 x.1.2.1 x.1.2.2.1 x.1.2.2.2.1 x.1.2.2.2.2.2.1 x.1.2.2.2.2.2.2.1 x.1.2.2.2.2.2.2.2 x.2) (X h))) (X h))) (X h)) (X h)) (X h)) (X h)
theorem f50rec (k : Nat) : ∀ d, FnOk Tryz.prog 50 (f50con (spec_l4Read.d k d))
  | 0 => FnOk_none (fun _ => rfl)
  | d + 1 => let ih := f50rec k d
    f50okb k (spec_l4Read.d k d) ih
theorem f50ok (k : Nat) : FnOk Tryz.prog 50 (f50con (spec_l4Read k)) := (f50rec k k)
def f50 (k : Nat) : Fc Tryz.prog := ⟨50, _, f50ok k⟩
def f30c (k : Nat) : Con := ⟨⟨[(0, z4), (1, z2)], []⟩, ⟨[(0, z7), (1, z2), (2, z2)], [(100, w10)]⟩, 2, 3, fun x => spec_TreeRead k x.1 x.2⟩
theorem f30ok (k : Nat) : FnOk Tryz.prog 30 (f30c k) := ok (cx [f50 k] 34 nb) Tryz.f30 fun h x => X h
def f30 (k : Nat) : Fc Tryz.prog := ⟨30, _, f30ok k⟩
def f46s7 : SS := ⟨[(4, z5)], []⟩
def f46c (k : Nat) : Con := ⟨⟨[(0, z2)], []⟩, ⟨[(0, z5)], []⟩, 1, 1, fun x => spec_l5Type k x⟩
theorem f46ok (k : Nat) : FnOk Tryz.prog 46 (f46c k) := ok (cx [] 10 nb) Tryz.f46 fun h x => Q (Q (X h) (Q (B (Q (T (X h) f46s7 fun x => spec_l5Type.c7 k x) (X h))) (X h))) (X h)
def f46 (k : Nat) : Fc Tryz.prog := ⟨46, _, f46ok k⟩
def f31c (k : Nat) : Con := ⟨⟨[(0, z12)], []⟩, ⟨[(0, z5)], []⟩, 1, 1, fun x => spec_LeafOk k x⟩
theorem f31ok (k : Nat) : FnOk Tryz.prog 31 (f31c k) := ok (cx [f46 k, f47 k] 18 nb) Tryz.f31 fun h x => X h
def f31 (k : Nat) : Fc Tryz.prog := ⟨31, _, f31ok k⟩
def f52s3 : SS := ⟨[(0, z13), (1, z2), (5, z2), (6, z2)], []⟩
def f52con (F : (List TNode) → Int → Option Int) : Con := ⟨⟨[(0, z13), (1, z2)], []⟩, ⟨[(0, z2)], []⟩, 2, 1, fun x => F x.1 x.2⟩
theorem f52okb (k : Nat) (S52 : (List TNode) → Int → Option Int) (h52 : FnOk Tryz.prog 52 (f52con S52)) : FnOk Tryz.prog 52 (f52con (spec_l4After.b k S52)) := ok (cx [⟨52, _, h52⟩] 22 nb) Tryz.f52 fun h x => Q (Q (Q (X h) (Q (B (L f52s3 (fun n x => spec_l4After.l3 k S52 n x.1 x.2.1 x.2.2.1 x.2.2.2) k fun n3 => X h)) (X h))) (X h)) (X h)
theorem f52rec (k : Nat) : ∀ d, FnOk Tryz.prog 52 (f52con (spec_l4After.d k d))
  | 0 => FnOk_none (fun _ => rfl)
  | d + 1 => let ih := f52rec k d
    f52okb k (spec_l4After.d k d) ih
theorem f52ok (k : Nat) : FnOk Tryz.prog 52 (f52con (spec_l4After k)) := (f52rec k k)
def f52 (k : Nat) : Fc Tryz.prog := ⟨52, _, f52ok k⟩
def f33s5 : SS := ⟨[(0, z13), (1, z2), (2, z2), (7, z2), (8, z2)], []⟩
def f33c (k : Nat) : Con := ⟨⟨[(0, z13), (1, z2), (2, z2)], []⟩, ⟨[(0, z2)], []⟩, 3, 1, fun x => spec_l4Find k x.1 x.2.1 x.2.2⟩
theorem f33ok (k : Nat) : FnOk Tryz.prog 33 (f33c k) := ok (cx [f52 k] 37 nb) Tryz.f33 fun h x => Q (Q (Q (Q (X h) (Q (B (L f33s5 (fun n x => spec_l4Find.l5 k n x.1 x.2.1 x.2.2.1 x.2.2.2.1 x.2.2.2.2) k fun n5 => X h)) (X h))) (X h)) (X h)) (X h)
def f33 (k : Nat) : Fc Tryz.prog := ⟨33, _, f33ok k⟩
def f51c (k : Nat) : Con := ⟨⟨[(0, z13), (1, z2), (2, z2)], []⟩, ⟨[(0, z2), (1, z5)], []⟩, 3, 2, fun x => spec_l4NumOf k x.1 x.2.1 x.2.2⟩
theorem f51ok (k : Nat) : FnOk Tryz.prog 51 (f51c k) := ok (cx [f33 k] 36 nb) Tryz.f51 fun h x => X h
def f51 (k : Nat) : Fc Tryz.prog := ⟨51, _, f51ok k⟩
def f32s3 : SS := ⟨[(0, z13), (1, z2), (2, z1), (8, z7), (9, z2)], [(100, w14)]⟩
def f32c (k : Nat) : Con := ⟨⟨[(0, z13), (1, z2), (2, z1)], []⟩, ⟨[(0, z7), (1, z5)], [(100, w14)]⟩, 3, 2, fun x => spec_l16Ids k x.1 x.2.1 x.2.2⟩
theorem f32ok (k : Nat) : FnOk Tryz.prog 32 (f32c k) := ok (cx [f51 k] 37 nb) Tryz.f32 fun h x => Q (Q (Q (X h) (Q (B (L f32s3 (fun n x => spec_l16Ids.l3 k n x.1.1 x.1.2.1 x.1.2.2.1 x.1.2.2.2.2 x.2) k fun n3 => X h)) (X h))) (X h)) (X h)
def f32 (k : Nat) : Fc Tryz.prog := ⟨32, _, f32ok k⟩
def f53c (k : Nat) : Con := ⟨⟨[(0, z13), (1, z2)], []⟩, ⟨[(0, z2)], []⟩, 2, 1, fun x => spec_l16Part k x.1 x.2⟩
theorem f53ok (k : Nat) : FnOk Tryz.prog 53 (f53c k) := ok (cx [f33 k] 20 nb) Tryz.f53 fun h x => X h
def f53 (k : Nat) : Fc Tryz.prog := ⟨53, _, f53ok k⟩
def f75c (k : Nat) : Con := ⟨⟨[(0, z13), (1, z2), (2, z2)], []⟩, ⟨[(0, z6), (1, z5)], []⟩, 3, 2, fun x => spec_l4TextOf k x.1 x.2.1 x.2.2⟩
theorem f75ok (k : Nat) : FnOk Tryz.prog 75 (f75c k) := ok (cx [f33 k] 28 nb) Tryz.f75 fun h x => X h
def f75 (k : Nat) : Fc Tryz.prog := ⟨75, _, f75ok k⟩
def f67c (k : Nat) : Con := ⟨⟨[(0, z2), (1, z2)], []⟩, ⟨[(0, z2)], []⟩, 2, 1, fun x => spec_BitsSize k x.1 x.2⟩
theorem f67ok (k : Nat) : FnOk Tryz.prog 67 (f67c k) := ok (cx [f47 k] 18 nb) Tryz.f67 fun h x => X h
def f67 (k : Nat) : Fc Tryz.prog := ⟨67, _, f67ok k⟩
def f68c (k : Nat) : Con := ⟨⟨[(0, z4), (1, z2)], []⟩, ⟨[(0, z2)], []⟩, 2, 1, fun x => spec_l1Bit k x.1 x.2⟩
theorem f68ok (k : Nat) : FnOk Tryz.prog 68 (f68c k) := ok (cx [] 15 nb) Tryz.f68 fun h x => X h
def f68 (k : Nat) : Fc Tryz.prog := ⟨68, _, f68ok k⟩
def f48s10 : SS := ⟨[(0, z4), (1, z2), (2, z2), (3, z2), (11, z7), (12, z2), (13, z2), (14, z2), (15, z2)], [(100, w14)]⟩
def f48s6 : SS := ⟨[(0, z4), (1, z2), (2, z2), (3, z2), (11, z7), (12, z2), (13, z2)], [(100, w14)]⟩
def f48c (k : Nat) : Con := ⟨⟨[(0, z4), (1, z2), (2, z2), (3, z2)], []⟩, ⟨[(0, z7), (1, z2), (2, z5)], [(100, w14)]⟩, 4, 3, fun x => spec_BitsRead k x.1 x.2.1 x.2.2.1 x.2.2.2⟩
theorem f48ok (k : Nat) : FnOk Tryz.prog 48 (f48c k) := ok (cx [f47 k, f67 k, f68 k] 70 nb) Tryz.f48 fun h x => Q (Q (Q (Q (Q (X h) (Q (B (L f48s6 (fun n x => spec_BitsRead.l6 k n x.1.1 x.1.2.1 x.1.2.2.1 x.1.2.2.2.1 x.1.2.2.2.2.2.1 x.1.2.2.2.2.2.2 x.2) k fun n6 => Q (Q (X h) (B (Q (Q (X h) (Q (B (L f48s10 (fun n x => spec_BitsRead.l10 k (spec_BitsRead.l6 k n6) n x.1.1 x.1.2.1 x.1.2.2.1 x.1.2.2.2.1 x.1.2.2.2.2.2.1 x.1.2.2.2.2.2.2.1 x.1.2.2.2.2.2.2.2.1 x.1.2.2.2.2.2.2.2.2 x.2) k fun n10 => X h)) (X h))) (X h)))) (X h))) (X h))) (X h)) (X h)) (X h)) (X h)
def f48 (k : Nat) : Fc Tryz.prog := ⟨48, _, f48ok k⟩
def f69s5 : SS := ⟨[(0, z4), (1, z2), (2, z2), (9, z2), (10, z2)], []⟩
def f69c (k : Nat) : Con := ⟨⟨[(0, z4), (1, z2), (2, z2)], []⟩, ⟨[(0, z2), (1, z2), (2, z5)], []⟩, 3, 3, fun x => spec_WordGet k x.1 x.2.1 x.2.2⟩
theorem f69ok (k : Nat) : FnOk Tryz.prog 69 (f69c k) := ok (cx [f47 k] 53 nb) Tryz.f69 fun h x => Q (Q (Q (Q (X h) (Q (B (L f69s5 (fun n x => spec_WordGet.l5 k n x.1 x.2.1 x.2.2.1 x.2.2.2.1 x.2.2.2.2) k fun n5 => X h)) (X h))) (X h)) (X h)) (X h)
def f69 (k : Nat) : Fc Tryz.prog := ⟨69, _, f69ok k⟩
def f49s6 : SS := ⟨[(6, z15), (9, z2), (10, z2), (11, z5)], [(100, w18)]⟩
def f49c (k : Nat) : Con := ⟨⟨[(0, z2), (1, z4), (2, z2)], []⟩, ⟨[(0, z17), (1, z2), (2, z5)], []⟩, 3, 3, fun x => spec_l7One k x.1 x.2.1 x.2.2⟩
theorem f49ok (k : Nat) : FnOk Tryz.prog 49 (f49c k) := ok (cx [f69 k] 82 nb) Tryz.f49 fun h x => Q (Q (X h) (Q (B (Q (D (Q (Q (T (X h) f49s6 fun x => spec_l7One.c6 k x.1.2.1 x.1.2.2.1 x.1.2.2.2 x.2) (X h)) (X h)) (X h)) (X h))) (X h))) (X h)
def f49 (k : Nat) : Fc Tryz.prog := ⟨49, _, f49ok k⟩
def f29s12 : SS := ⟨[(0, z2), (1, z4), (2, z2), (3, z2), (11, z7), (16, z2)], [(100, w19)]⟩
def f29s7 : SS := ⟨[(11, z7), (12, (.h 101)), (13, z2), (14, z5), (15, z2)], [(100, w19), (101, w14)]⟩
def f29c (k : Nat) : Con := ⟨⟨[(0, z2), (1, z4), (2, z2), (3, z2)], []⟩, ⟨[(0, z7), (1, z2), (2, z5)], [(100, w19)]⟩, 4, 3, fun x => spec_PlainRead k x.1 x.2.1 x.2.2.1 x.2.2.2⟩
theorem f29ok (k : Nat) : FnOk Tryz.prog 29 (f29c k) := ok (cx [f46 k, f47 k, f48 k, f49 k] 87 nb) Tryz.f29 fun h x => Q (Q (Q (Q (Q (X h) (Q (B (L f29s12 (fun n x => spec_PlainRead.l12 k n x.1.1 x.1.2.1 x.1.2.2.1 x.1.2.2.2.1 x.1.2.2.2.2.2 x.2) k fun n12 => X h)) (X h))) (Q (D (Q (Q (X h) (Q (B (L f29s7 (fun n x => spec_PlainRead.l7 k n x.1.2.2.1 x.1.2.2.2.1 x.1.2.2.2.2 x.2.1 x.2.2) k fun n7 => X h)) (X h))) (X h)) (X h)) (X h))) (X h)) (X h)) (X h)
def f29 (k : Nat) : Fc Tryz.prog := ⟨29, _, f29ok k⟩
def f98s8 : SS := ⟨[(3, z15), (5, z2), (26, z5)], [(100, w18)]⟩
def f98c (k : Nat) : Con := ⟨⟨[(0, z2), (1, z20)], []⟩, ⟨[(0, z5)], []⟩, 2, 1, fun x => spec_ValOk k x.1 x.2⟩
theorem f98ok (k : Nat) : FnOk Tryz.prog 98 (f98c k) := ok (cx [f47 k, f71 k] 43 nb) Tryz.f98 fun h x => Q (Q (X h) (Q (B (Q (D (X h) (Q (D (X h) (Q (T (X h) f98s8 fun x => spec_ValOk.c8 k x.1.2.1 x.1.2.2 x.2) (X h))) (X h))) (X h))) (X h))) (X h)
def f98 (k : Nat) : Fc Tryz.prog := ⟨98, _, f98ok k⟩
def f115s4 : SS := ⟨[(0, z2), (1, z21), (5, z2)], []⟩
def f115c (k : Nat) : Con := ⟨⟨[(0, z2), (1, z21)], []⟩, ⟨[(0, z5)], []⟩, 2, 1, fun x => spec_l6Vals k x.1 x.2⟩
theorem f115ok (k : Nat) : FnOk Tryz.prog 115 (f115c k) := ok (cx [f46 k, f98 k] 27 nb) Tryz.f115 fun h x => Q (Q (Q (X h) (Q (B (L f115s4 (fun n x => spec_l6Vals.l4 k n x.1 x.2.1 x.2.2) k fun n4 => X h)) (X h))) (X h)) (X h)
def f115 (k : Nat) : Fc Tryz.prog := ⟨115, _, f115ok k⟩
def f116s3 : SS := ⟨[(0, z2), (1, z2), (5, z7), (6, z2)], [(100, w22)]⟩
def f116c (k : Nat) : Con := ⟨⟨[(0, z2), (1, z2)], []⟩, ⟨[(0, z7)], [(100, w22)]⟩, 2, 1, fun x => spec_WordPut k x.1 x.2⟩
theorem f116ok (k : Nat) : FnOk Tryz.prog 116 (f116c k) := ok (cx [f47 k] 26 nb) Tryz.f116 fun h x => Q (Q (Q (X h) (Q (B (L f116s3 (fun n x => spec_WordPut.l3 k n x.1.1 x.1.2.1 x.1.2.2.2 x.2) k fun n3 => X h)) (X h))) (X h)) (X h)
def f116 (k : Nat) : Fc Tryz.prog := ⟨116, _, f116ok k⟩
def f117s12 : SS := ⟨[(0, z1), (1, z2), (7, z7), (8, z2), (9, z2)], [(100, w22)]⟩
def f117s11 : SS := ⟨[(0, z1), (1, z2), (7, z7), (8, z2), (9, z2)], [(100, w22)]⟩
def f117s6 : SS := ⟨[(0, z1), (1, z2), (7, z7), (8, z2)], [(100, w22)]⟩
def f117c (k : Nat) : Con := ⟨⟨[(0, z1), (1, z2)], []⟩, ⟨[(0, z7), (1, z5)], [(100, w22)]⟩, 2, 2, fun x => spec_BitsPack k x.1 x.2⟩
theorem f117ok (k : Nat) : FnOk Tryz.prog 117 (f117c k) := ok (cx [f67 k] 73 nb) Tryz.f117 fun h x => Q (Q (Q (Q (Q (X h) (Q (B (L f117s6 (fun n x => spec_BitsPack.l6 k n x.1.1 x.1.2.1 x.1.2.2.2 x.2) k fun n6 => Q (Q (X h) (B (Q (Q (B (L f117s11 (fun n x => spec_BitsPack.l11 k (spec_BitsPack.l6 k n6) n x.1.1 x.1.2.1 x.1.2.2.2.1 x.1.2.2.2.2 x.2) k fun n11 => Q (Q (T (X h) f117s12 fun x => spec_BitsPack.c12 k (spec_BitsPack.l11 k (spec_BitsPack.l6 k n6) n11) x.1.1 x.1.2.1 x.1.2.2.2.1 x.1.2.2.2.2 x.2) (X h)) (X h))) (X h)) (X h)))) (X h))) (X h))) (X h)) (X h)) (X h)) (X h)
def f117 (k : Nat) : Fc Tryz.prog := ⟨117, _, f117ok k⟩
def f109s7 : SS := ⟨[(0, z2), (1, z21), (6, z7), (7, (.h 101)), (8, z2)], [(100, w22), (101, w14)]⟩
def f109s6 : SS := ⟨[(0, z2), (1, z21), (6, z7), (7, (.h 101)), (8, z2)], [(100, w22), (101, w14)]⟩
def f109c (k : Nat) : Con := ⟨⟨[(0, z2), (1, z21)], []⟩, ⟨[(0, z7), (1, z5)], [(100, w22)]⟩, 2, 2, fun x => spec_PlainPack k x.1 x.2⟩
theorem f109ok (k : Nat) : FnOk Tryz.prog 109 (f109c k) := ok (cx [f115 k, f116 k, f117 k] 67 nb) Tryz.f109 fun h x => Q (Q (Q (Q (Q (X h) (Q (B (L f109s6 (fun n x => spec_PlainPack.l6 k n x.1.1 x.1.2.1 x.1.2.2.2.2 x.2.1 x.2.2) k fun n6 => Q (Q (T (X h) f109s7 fun x => spec_PlainPack.c7 k (spec_PlainPack.l6 k n6) x.1.1 x.1.2.1 x.1.2.2.2.2 x.2.1 x.2.2) (X h)) (X h))) (X h))) (X h)) (X h)) (X h)) (X h)
def f109 (k : Nat) : Fc Tryz.prog := ⟨109, _, f109ok k⟩
def f99c (k : Nat) : Con := ⟨⟨[(0, z2), (1, z20)], []⟩, ⟨[(0, z6)], []⟩, 2, 1, fun x => spec_l15Text k x.1 x.2⟩
theorem f99ok (k : Nat) : FnOk Tryz.prog 99 (f99c k) := ok (cx [f109 k] 20 nb) Tryz.f99 fun h x => X h
def f99 (k : Nat) : Fc Tryz.prog := ⟨99, _, f99ok k⟩
def f76d7 : SS := ⟨[(0, z2), (1, z6), (4, z15), (6, z23)], [(100, w18), (101, w18)]⟩
def f76s7 : SS := ⟨[(0, z2), (1, z6), (4, z15), (6, z23)], [(100, w18), (101, w18)]⟩
def f76c (k : Nat) : Con := ⟨⟨[(0, z2), (1, z6)], []⟩, ⟨[(0, z17), (1, z5)], []⟩, 2, 2, fun x => spec_l15Value k x.1 x.2⟩
theorem f76ok (k : Nat) : FnOk Tryz.prog 76 (f76c k) := ok (cx [f29 k, f98 k, f99 k] 39 nb) Tryz.f76 fun h x => Q (Q (Q (T (Q (X h) (K h f76d7 (fun x => spec_l15Value.d7 k x.1.1 x.1.2.1 x.2.1 x.2.2) [[1, 0, 2, 3, 4, 5, 8, 6, 7, 9, 10, 11, 12], [1, 2, 0, 3, 4, 5, 8, 6, 7, 9, 10, 11, 12], [1, 2, 3, 4, 5, 8, 0, 6, 7, 9, 10, 11, 12], [1, 2, 3, 4, 5, 8, 6, 0, 7, 9, 10, 11, 12], [1, 2, 3, 4, 5, 8, 6, 7, 0, 9, 10, 11, 12]] (O (fun x => by kernel_rfl) (O (fun x => by kernel_rfl) (O (fun x => by kernel_rfl) (O (fun x => by kernel_rfl) (O (fun x => by kernel_rfl) (N)))))))) f76s7 fun x => spec_l15Value.c7 k x.1.1 x.1.2.1 x.2.1 x.2.2) (X h)) (X h)) (X h)
def f76 (k : Nat) : Fc Tryz.prog := ⟨76, _, f76ok k⟩
def f110c (k : Nat) : Con := ⟨⟨[(0, z2)], []⟩, ⟨[(0, z2)], []⟩, 1, 1, fun x => spec_FloatKey k x⟩
theorem f110ok (k : Nat) : FnOk Tryz.prog 110 (f110c k) := ok (cx [] 8 nb) Tryz.f110 fun h x => X h
def f110 (k : Nat) : Fc Tryz.prog := ⟨110, _, f110ok k⟩
def f100d5 : SS := ⟨[(4, z15), (5, z23)], [(100, w18), (101, w18)]⟩
def f100s8 : SS := ⟨[(4, z15), (5, z23), (7, z2)], [(100, w18), (101, w18)]⟩
def f100c (k : Nat) : Con := ⟨⟨[(0, z2), (1, z20), (2, z20)], []⟩, ⟨[(0, z5)], []⟩, 3, 1, fun x => spec_ValLess k x.1 x.2.1 x.2.2⟩
theorem f100ok (k : Nat) : FnOk Tryz.prog 100 (f100c k) := ok (cx [f98 k, f110 k] 74 nb) Tryz.f100 fun h x => Q (Q (Q (X h) (Q (B (Q (D (Q (X h) (K h f100d5 (fun x => spec_ValLess.d5 k x.2.1 x.2.2) [[0, 3, 1, 2, 4, 5, 6, 7], [0, 3, 1, 4, 2, 5, 6, 7], [0, 3, 4, 1, 2, 5, 6, 7]] (O (fun x => by kernel_rfl) (O (fun x => by kernel_rfl) (O (fun x => by kernel_rfl) (N)))))) (Q (D (Q (X h) (Q (B (L f100s8 (fun n x => spec_ValLess.l8 k n x.1.2.2 x.2.1 x.2.2) k fun n8 => X h)) (X h))) (X h)) (X h))) (X h))) (X h))) (X h)) (X h)
def f100 (k : Nat) : Fc Tryz.prog := ⟨100, _, f100ok k⟩
def f77c (k : Nat) : Con := ⟨⟨[(0, z12), (1, (.ro y24))], []⟩, ⟨[(0, z5)], []⟩, 2, 1, fun x => spec_l15Ok k x.1 x.2⟩
theorem f77ok (k : Nat) : FnOk Tryz.prog 77 (f77c k) := ok (cx [f31 k, f47 k, f98 k, f100 k] 51 nb) Tryz.f77 fun h x => X h
def f77 (k : Nat) : Fc Tryz.prog := ⟨77, _, f77ok k⟩
def f54s15 : SS := ⟨[(3, z15), (6, z23), (8, z25), (15, (.p 103))], [(100, w28), (101, w30), (102, w30), (103, w30)]⟩
def f54c (k : Nat) : Con := ⟨⟨[(0, z12), (1, z13), (2, z2)], []⟩, ⟨[(0, z29), (1, z5)], []⟩, 3, 2, fun x => spec_l15From k x.1 x.2.1 x.2.2⟩
theorem f54ok (k : Nat) : FnOk Tryz.prog 54 (f54c k) := ok (cx [f33 k, f51 k, f75 k, f76 k, f77 k] 98 nb) Tryz.f54 fun h x => Q (Q (Q (Q (Q (Q (Q (Q (T (X h) f54s15 fun x => spec_l15From.c15 k x.2.1 x.2.2.1 x.2.2.2.1 x.2.2.2.2) (X h)) (X h)) (X h)) (X h)) (X h)) (X h)) (X h)) (X h)
def f54 (k : Nat) : Fc Tryz.prog := ⟨54, _, f54ok k⟩
def f34s33 : SS := ⟨[(5, z15), (6, z23)], [(100, w33), (101, w33)]⟩
def f34s27 : SS := ⟨[(1, z13), (3, z15), (5, z23), (6, z25), (10, z2), (11, z2)], [(100, w28), (101, w33), (102, w33)]⟩
def f34s7 : SS := ⟨[(1, z13), (3, z15), (5, z23), (6, z25), (8, z2), (9, z34), (10, z2)], [(100, w28), (101, w33), (102, w33), (103, w14)]⟩
def f34c (k : Nat) : Con := ⟨⟨[(0, z12), (1, z13), (2, (.ro y31))], []⟩, ⟨[(0, z32), (1, z5)], []⟩, 3, 2, fun x => spec_l16Kind k x.1 x.2.1 x.2.2⟩
theorem f34ok (k : Nat) : FnOk Tryz.prog 34 (f34c k) := ok (cx [f32 k, f33 k, f47 k, f53 k, f54 k] 153 nb) Tryz.f34 fun h x => Q (Q (Q (T (Q (Q (Q (Q (Q (Q (Q (T (Q (T (X h) f34s33 fun x => spec_l16Kind.c33 k x.2.1 x.2.2) (X h)) f34s27 fun x => spec_l16Kind.c27 k x.1.1 x.1.2.2.2.2.1 x.1.2.2.2.2.2 x.2.1 x.2.2.1 x.2.2.2) (X h)) (X h)) (X h)) (X h)) (X h)) (X h)) (X h)) f34s7 fun x => spec_l16Kind.c7 k x.1.1 x.1.2.2.2.2.1 x.1.2.2.2.2.2.2 x.2.1 x.2.2.1 x.2.2.2.1 x.2.2.2.2) (X h)) (X h)) (X h)
def f34 (k : Nat) : Fc Tryz.prog := ⟨34, _, f34ok k⟩
def f22s17 : SS := ⟨[(1, z4), (3, z15), (6, z23), (8, z25), (9, z34), (10, z2), (14, (.p 104))], [(100, w28), (101, w33), (102, w33), (103, w10), (104, w33)]⟩
def f22c (k : Nat) : Con := ⟨⟨[(0, z12), (1, z4), (2, z2)], []⟩, ⟨[(0, z32), (1, z2)], []⟩, 3, 2, fun x => spec_HeadRead k x.1 x.2.1 x.2.2⟩
theorem f22ok (k : Nat) : FnOk Tryz.prog 22 (f22c k) := ok (cx [f30 k, f31 k, f32 k, f33 k, f34 k] 130 nb) Tryz.f22 fun h x => Q (Q (Q (Q (Q (Q (Q (Q (Q (T (X h) f22s17 fun x => spec_HeadRead.c17 k x.1.1 x.1.2.2.2.2.2.1 x.2.1 x.2.2.1 x.2.2.2.1 x.2.2.2.2.1 x.2.2.2.2.2) (X h)) (X h)) (X h)) (X h)) (X h)) (X h)) (X h)) (X h)) (X h)
def f22 (k : Nat) : Fc Tryz.prog := ⟨22, _, f22ok k⟩
def f66s3 : SS := ⟨[(0, z2), (3, z2)], []⟩
def f66s2 : SS := ⟨[(0, z2), (3, z2)], []⟩
def f66c (k : Nat) : Con := ⟨⟨[(0, z2)], []⟩, ⟨[(0, z2)], []⟩, 1, 1, fun x => spec_l3Turn k x⟩
theorem f66ok (k : Nat) : FnOk Tryz.prog 66 (f66c k) := ok (cx [] 18 nb) Tryz.f66 fun h x => Q (Q (X h) (Q (B (L f66s2 (fun n x => spec_l3Turn.l2 k n x.1 x.2) k fun n2 => Q (Q (T (X h) f66s3 fun x => spec_l3Turn.c3 k (spec_l3Turn.l2 k n2) x.1 x.2) (X h)) (X h))) (X h))) (X h)
def f66 (k : Nat) : Fc Tryz.prog := ⟨66, _, f66ok k⟩
def f45s5 : SS := ⟨[(1, z4), (5, z2), (6, z2)], []⟩
def f45c (k : Nat) : Con := ⟨⟨[(0, z2), (1, z4)], []⟩, ⟨[(0, z2)], []⟩, 2, 1, fun x => spec_CrcMore k x.1 x.2⟩
theorem f45ok (k : Nat) : FnOk Tryz.prog 45 (f45c k) := ok (cx [f47 k, f66 k] 32 nb) Tryz.f45 fun h x => Q (Q (Q (Q (X h) (Q (B (L f45s5 (fun n x => spec_CrcMore.l5 k n x.1 x.2.1 x.2.2) k fun n5 => X h)) (X h))) (X h)) (X h)) (X h)
def f45 (k : Nat) : Fc Tryz.prog := ⟨45, _, f45ok k⟩
def f28c (k : Nat) : Con := ⟨⟨[(0, z4)], []⟩, ⟨[(0, z2)], []⟩, 1, 1, fun x => spec_CrcOf k x⟩
theorem f28ok (k : Nat) : FnOk Tryz.prog 28 (f28c k) := ok (cx [f45 k] 5 nb) Tryz.f28 fun h x => X h
def f28 (k : Nat) : Fc Tryz.prog := ⟨28, _, f28ok k⟩
def f21d8 : SS := ⟨[(0, z2), (9, z7), (10, z23), (12, z4)], [(100, w19), (101, w33)]⟩
def f21c (k : Nat) : Con := ⟨⟨[(0, z2), (1, z4), (2, z2)], []⟩, ⟨[(0, z7), (1, z2), (2, z2)], [(100, w19)]⟩, 3, 3, fun x => spec_DictRead k x.1 x.2.1 x.2.2⟩
theorem f21ok (k : Nat) : FnOk Tryz.prog 21 (f21c k) := ok (cx [f22 k, f28 k, f29 k] 88 nb) Tryz.f21 fun h x => Q (Q (Q (Q (Q (Q (X h) (Q (X h) (K h f21d8 (fun x => spec_DictRead.d8 k x.1.1 x.1.2.2.2 x.2.1 x.2.2) [[0, 1, 2, 3, 5, 4, 6, 7, 8], [0, 1, 2, 3, 5, 6, 4, 7, 8]] (O (fun x => by kernel_rfl) (O (fun x => by kernel_rfl) (N)))))) (X h)) (X h)) (X h)) (X h)) (X h)
def f21 (k : Nat) : Fc Tryz.prog := ⟨21, _, f21ok k⟩
def f5s13 : SS := ⟨[(1, z4), (3, z15), (5, z23), (9, (.h 102)), (10, z34), (11, (.h 104)), (15, (.h 105)), (16, z2), (17, z2)], [(100, w28), (101, w35), (102, w14), (103, w19), (104, w19), (105, w14)]⟩
def f5s10 : SS := ⟨[(1, z4), (3, z15), (5, z23), (9, (.h 102)), (10, z34), (11, (.h 104))], [(100, w28), (101, w35), (102, w14), (103, w19), (104, w19)]⟩
def f5c (k : Nat) : Con := ⟨⟨[(0, z12), (1, z4), (2, (.ro y3))], []⟩, ⟨[(0, z7), (1, (.h 101)), (2, z2)], [(100, w14), (101, w19)]⟩, 3, 3, fun x => spec_ChunkPages k x.1 x.2.1 x.2.2⟩
theorem f5ok (k : Nat) : FnOk Tryz.prog 5 (f5c k) := ok (cx [f21 k, f22 k] 102 nb) Tryz.f5 fun h x => Q (Q (Q (Q (Q (T (Q (Q (Q (Q (X h) (B (L f5s13 (fun n x => spec_ChunkPages.l13 k n x.1.1 x.1.2.2.2.2.2.2.2.1 x.1.2.2.2.2.2.2.2.2 x.2.1 x.2.2.1 x.2.2.2.1 x.2.2.2.2.1 x.2.2.2.2.2.1 x.2.2.2.2.2.2) k fun n13 => X h))) (X h)) (X h)) (X h)) f5s10 fun x => spec_ChunkPages.c10 k x.1.1 x.2.1 x.2.2.1 x.2.2.2.1 x.2.2.2.2.1 x.2.2.2.2.2) (X h)) (X h)) (X h)) (X h)) (X h)
def f5 (k : Nat) : Fc Tryz.prog := ⟨5, _, f5ok k⟩
def f6c (k : Nat) : Con := ⟨⟨[(0, z12)], []⟩, ⟨[(0, z27)], []⟩, 1, 1, fun x => laws_toLeaf k x⟩
theorem f6ok (k : Nat) : FnOk Tryz.prog 6 (f6c k) := ok (cx [] 14 nb) Tryz.f6 fun h x => X h
def f6 (k : Nat) : Fc Tryz.prog := ⟨6, _, f6ok k⟩
def f7s3 : SS := ⟨[(0, z4), (3, z7), (4, z2)], [(100, w22)]⟩
def f7c (k : Nat) : Con := ⟨⟨[(0, z4)], []⟩, ⟨[(0, z7)], [(100, w22)]⟩, 1, 1, fun x => laws_toByteS k x⟩
theorem f7ok (k : Nat) : FnOk Tryz.prog 7 (f7c k) := ok (cx [] 22 nb) Tryz.f7 fun h x => Q (Q (Q (X h) (Q (B (L f7s3 (fun n x => laws_toByteS.l3 k n x.1.1 x.1.2.2 x.2) k fun n3 => X h)) (X h))) (X h)) (X h)
def f7 (k : Nat) : Fc Tryz.prog := ⟨7, _, f7ok k⟩
def f23s3 : SS := ⟨[(0, z1), (3, z7), (4, z2)], [(100, w14)]⟩
def f23c (k : Nat) : Con := ⟨⟨[(0, z1)], []⟩, ⟨[(0, z7)], [(100, w14)]⟩, 1, 1, fun x => laws_toIntS k x⟩
theorem f23ok (k : Nat) : FnOk Tryz.prog 23 (f23c k) := ok (cx [] 22 nb) Tryz.f23 fun h x => Q (Q (Q (X h) (Q (B (L f23s3 (fun n x => laws_toIntS.l3 k n x.1.1 x.1.2.2 x.2) k fun n3 => X h)) (X h))) (X h)) (X h)
def f23 (k : Nat) : Fc Tryz.prog := ⟨23, _, f23ok k⟩
def f8c (k : Nat) : Con := ⟨⟨[(0, (.ro y3))], []⟩, ⟨[(0, (.agg (.cons z2 (.cons z2 (.cons z2 (.cons z2 (.cons z2 (.cons z7 .nil))))))))], [(100, w14)]⟩, 1, 1, fun x => laws_toChunk k x⟩
theorem f8ok (k : Nat) : FnOk Tryz.prog 8 (f8c k) := ok (cx [f23 k] 24 nb) Tryz.f8 fun h x => X h
def f8 (k : Nat) : Fc Tryz.prog := ⟨8, _, f8ok k⟩
def f57c (k : Nat) : Con := ⟨⟨[(0, z2), (1, z2), (2, z2)], []⟩, ⟨[(0, z5)], []⟩, 3, 1, fun x => impl_within k x.1 x.2.1 x.2.2⟩
theorem f57ok (k : Nat) : FnOk Tryz.prog 57 (f57c k) := ok (cx [] 15 nb) Tryz.f57 fun h x => X h
def f57 (k : Nat) : Fc Tryz.prog := ⟨57, _, f57ok k⟩
def f88c (k : Nat) : Con := ⟨⟨[(0, z36), (1, z2)], [(0, w38), (10, w10)]⟩, ⟨[], [(0, w38), (10, w10)]⟩, 2, 0, fun x => impl_treeReader_fail k x.1.2 x.2.1 x.2.2⟩
theorem f88ok (k : Nat) : FnOk Tryz.prog 88 (f88c k) := ok (cx [] 13 nb) Tryz.f88 fun h x => X h
def f88 (k : Nat) : Fc Tryz.prog := ⟨88, _, f88ok k⟩
def f84s3 : SS := ⟨[(0, z36), (4, z15)], [(0, w38), (10, w10), (100, w40)]⟩
def f84c (k : Nat) : Con := ⟨⟨[(0, z36), (1, (.ro y9)), (2, z2)], [(0, w38), (10, w10)]⟩, ⟨[(0, z2)], [(0, w41), (100, w10)]⟩, 3, 1, fun x => impl_treeReader_begin k x.1.2.1 x.1.2.2 x.2.1 x.2.2⟩
theorem f84ok (k : Nat) : FnOk Tryz.prog 84 (f84c k) := ok (cx [f88 k] 40 nb) Tryz.f84 fun h x => Q (Q (T (X h) f84s3 fun x => impl_treeReader_begin.c3 k x.2.1 x.2.2.1 x.2.2.2) (X h)) (X h)
def f84 (k : Nat) : Fc Tryz.prog := ⟨84, _, f84ok k⟩
def f85c (k : Nat) : Con := ⟨⟨[(0, z2)], []⟩, ⟨[(0, z2)], []⟩, 1, 1, fun x => impl_Zag k x⟩
theorem f85ok (k : Nat) : FnOk Tryz.prog 85 (f85c k) := ok (cx [] 11 nb) Tryz.f85 fun h x => X h
def f85 (k : Nat) : Fc Tryz.prog := ⟨85, _, f85ok k⟩
def f103s12 : SS := ⟨[], []⟩
def f103s5 : SS := ⟨[(0, z4), (1, z2), (7, (.ro (.int .u64))), (8, z2)], []⟩
def f103c (k : Nat) : Con := ⟨⟨[(0, z4), (1, z2)], []⟩, ⟨[(0, z2), (1, z2), (2, z5)], []⟩, 2, 3, fun x => impl_UvarGet k x.1 x.2⟩
theorem f103ok (k : Nat) : FnOk Tryz.prog 103 (f103c k) := ok (cx [] 52 nb) Tryz.f103 fun h x => Q (Q (Q (Q (T (X h) f103s12 fun x => impl_UvarGet.c12 k) (Q (B (L f103s5 (fun n x => impl_UvarGet.l5 k n x.1 x.2.1 x.2.2.1 x.2.2.2) k fun n5 => X h)) (X h))) (X h)) (X h)) (X h)
def f103 (k : Nat) : Fc Tryz.prog := ⟨103, _, f103ok k⟩
def f86c (k : Nat) : Con := ⟨⟨[(0, z36)], [(0, w38), (10, w10)]⟩, ⟨[(0, z2)], [(0, w38), (10, w10)]⟩, 1, 1, fun x => impl_treeReader_uvar k x.2.1 x.2.2⟩
theorem f86ok (k : Nat) : FnOk Tryz.prog 86 (f86c k) := ok (cx [f88 k, f103 k] 35 nb) Tryz.f86 fun h x => X h
def f86 (k : Nat) : Fc Tryz.prog := ⟨86, _, f86ok k⟩
def f87c (k : Nat) : Con := ⟨⟨[(0, z2)], []⟩, ⟨[(0, z5)], []⟩, 1, 1, fun x => impl_isInt32 k x⟩
theorem f87ok (k : Nat) : FnOk Tryz.prog 87 (f87c k) := ok (cx [f57 k] 5 nb) Tryz.f87 fun h x => X h
def f87 (k : Nat) : Fc Tryz.prog := ⟨87, _, f87ok k⟩
def f89s6 : SS := ⟨[(0, z36), (3, z2)], [(0, w38), (10, w10)]⟩
def f89s4 : SS := ⟨[(0, z36), (3, z2)], [(0, w38), (10, w10)]⟩
def f89c (k : Nat) : Con := ⟨⟨[(0, z36)], [(0, w38), (10, w10)]⟩, ⟨[(0, z6)], [(0, w38), (10, w10)]⟩, 1, 1, fun x => impl_treeReader_text k x.2.1 x.2.2⟩
theorem f89ok (k : Nat) : FnOk Tryz.prog 89 (f89c k) := ok (cx [f57 k, f86 k, f88 k] 68 nb) Tryz.f89 fun h x => Q (Q (Q (T (Q (T (X h) f89s6 fun x => impl_treeReader_text.c6 k x.1.2 x.2.1 x.2.2) (X h)) f89s4 fun x => impl_treeReader_text.c4 k x.1.2 x.2.1 x.2.2) (X h)) (X h)) (X h)
def f89 (k : Nat) : Fc Tryz.prog := ⟨89, _, f89ok k⟩
def f104c (k : Nat) : Con := ⟨⟨[(0, z36)], [(0, w38), (10, w10)]⟩, ⟨[(0, z2)], [(0, w38), (10, w10)]⟩, 1, 1, fun x => impl_treeReader_one k x.2.1 x.2.2⟩
theorem f104ok (k : Nat) : FnOk Tryz.prog 104 (f104c k) := ok (cx [f88 k] 41 nb) Tryz.f104 fun h x => X h
def f104 (k : Nat) : Fc Tryz.prog := ⟨104, _, f104ok k⟩
def f105s10 : SS := ⟨[(11, z5)], []⟩
def f105s4 : SS := ⟨[(1, z5), (5, z2), (6, z5)], []⟩
def f105c (k : Nat) : Con := ⟨⟨[(0, z2), (1, z5)], []⟩, ⟨[(0, z5)], []⟩, 2, 1, fun x => impl_isType k x.1 x.2⟩
theorem f105ok (k : Nat) : FnOk Tryz.prog 105 (f105c k) := ok (cx [] 17 nb) Tryz.f105 fun h x => Q (Q (X h) (Q (B (Q (T (D (X h) (Q (T (X h) f105s10 fun x => impl_isType.c10 k x) (X h))) f105s4 fun x => impl_isType.c4 k x.1 x.2.1 x.2.2) (X h))) (X h))) (X h)
def f105 (k : Nat) : Fc Tryz.prog := ⟨105, _, f105ok k⟩
def f61s8 : SS := ⟨[(0, z36), (8, z2), (9, z2)], [(0, w41), (100, w10)]⟩
def f61d10 : SS := ⟨[(0, z36), (8, z2)], [(0, w41), (100, w10)]⟩
def f61s5 : SS := ⟨[(0, z36), (1, z2), (3, z2), (8, z2), (21, z2), (22, z5)], [(0, w41), (100, w10)]⟩
def f61con (F : Int → Int → Int → TTreeReaderB → (List TNode) → Option (Unit × TTreeReaderB × (List TNode))) : Con := ⟨⟨[(0, z36), (1, z2), (2, z2), (3, z2)], [(0, w38), (10, w10)]⟩, ⟨[], [(0, w41), (100, w10)]⟩, 4, 0, fun x => F x.1.2.1 x.1.2.2.1 x.1.2.2.2 x.2.1 x.2.2⟩
def f90s11 : SS := ⟨[(0, z36), (2, z2), (7, z2), (8, z2), (9, z2)], [(0, w41), (100, w10)]⟩
def f90s9 : SS := ⟨[(0, z36), (1, z2), (2, z2), (7, z2), (8, z2)], [(0, w38), (10, w10)]⟩
def f90s7 : SS := ⟨[(0, z36), (1, z2), (2, z2), (7, z2), (8, z2)], [(0, w38), (10, w10)]⟩
def f90s4 : SS := ⟨[(0, z36), (1, z2), (2, z2), (7, z2), (8, z2)], [(0, w38), (10, w10)]⟩
def f90con (F : Int → Int → TTreeReaderB → (List TNode) → Option (Unit × TTreeReaderB × (List TNode))) : Con := ⟨⟨[(0, z36), (1, z2), (2, z2)], [(0, w38), (10, w10)]⟩, ⟨[], [(0, w41), (100, w10)]⟩, 3, 0, fun x => F x.1.2.1 x.1.2.2 x.2.1 x.2.2⟩
def f91s12 : SS := ⟨[(0, z36), (1, z2), (2, z2), (8, z2), (9, z2)], [(0, w41), (100, w10)]⟩
def f91s10 : SS := ⟨[(0, z36), (1, z2), (2, z2), (6, z2), (8, z2), (9, z2)], [(0, w41), (100, w10)]⟩
def f91s8 : SS := ⟨[(0, z36), (1, z2), (2, z2), (6, z2), (8, z2), (9, z2)], [(0, w41), (100, w10)]⟩
def f91s6 : SS := ⟨[(0, z36), (1, z2), (2, z2), (6, z2), (7, z2), (8, z2), (9, z2)], [(0, w41), (100, w10)]⟩
def f91s1 : SS := ⟨[(0, z36), (1, z2), (2, z2), (6, z2)], [(0, w41), (100, w10)]⟩
def f91con (F : Int → Int → TTreeReaderB → (List TNode) → Option (Unit × TTreeReaderB × (List TNode))) : Con := ⟨⟨[(0, z36), (1, z2), (2, z2)], [(0, w38), (10, w10)]⟩, ⟨[], [(0, w41), (100, w10)]⟩, 3, 0, fun x => F x.1.2.1 x.1.2.2 x.2.1 x.2.2⟩
theorem f61okb (k : Nat) (S61 : Int → Int → Int → TTreeReaderB → (List TNode) → Option (Unit × TTreeReaderB × (List TNode))) (S90 : Int → Int → TTreeReaderB → (List TNode) → Option (Unit × TTreeReaderB × (List TNode))) (S91 : Int → Int → TTreeReaderB → (List TNode) → Option (Unit × TTreeReaderB × (List TNode))) (h61 : FnOk Tryz.prog 61 (f61con S61)) (h90 : FnOk Tryz.prog 90 (f90con S90)) (h91 : FnOk Tryz.prog 91 (f91con S91)) : FnOk Tryz.prog 61 (f61con (impl_treeReader_node.b k S61 S90 S91)) := ok (cx [f84 k, f85 k, f86 k, f87 k, f88 k, f89 k, ⟨90, _, h90⟩, ⟨91, _, h91⟩] 75 nb) Tryz.f61 fun h x => Q (Q (Q (B (Q (T (D (Q (Q (T (X h) f61s8 fun x => impl_treeReader_node.c8 k x.1.2.1 x.1.2.2 x.2.1 x.2.2) (X h)) (X h)) (Q (D (K h f61d10 (fun x => impl_treeReader_node.d10 k x.1.2 x.2.1 x.2.2) [[0, 1, 2, 4, 5, 3, 6, 7, 8, 9], [0, 1, 2, 4, 5, 6, 3, 7, 8, 9]] (O (fun x => by kernel_rfl) (O (fun x => by kernel_rfl) (N)))) (X h)) (X h))) f61s5 fun x => impl_treeReader_node.c5 k S90 S91 x.1.2.1 x.1.2.2.1 x.1.2.2.2.1 x.1.2.2.2.2.1 x.1.2.2.2.2.2 x.2.1 x.2.2) (X h))) (X h)) (X h)) (X h)
theorem f90okb (k : Nat) (S61 : Int → Int → Int → TTreeReaderB → (List TNode) → Option (Unit × TTreeReaderB × (List TNode))) (S90 : Int → Int → TTreeReaderB → (List TNode) → Option (Unit × TTreeReaderB × (List TNode))) (S91 : Int → Int → TTreeReaderB → (List TNode) → Option (Unit × TTreeReaderB × (List TNode))) (h61 : FnOk Tryz.prog 61 (f61con S61)) (h90 : FnOk Tryz.prog 90 (f90con S90)) (h91 : FnOk Tryz.prog 91 (f91con S91)) : FnOk Tryz.prog 90 (f90con (impl_treeReader_parts.b k S61 S90 S91)) := ok (cx [f57 k, ⟨61, _, h61⟩, f86 k, f88 k, f104 k, f105 k] 72 nb) Tryz.f90 fun h x => Q (Q (Q (T (Q (Q (T (Q (T (Q (Q (B (L f90s11 (fun n x => impl_treeReader_parts.l11 k S61 n x.1.2.1 x.1.2.2.1 x.1.2.2.2.1 x.1.2.2.2.2 x.2.1 x.2.2) k fun n11 => X h)) (X h)) (X h)) f90s9 fun x => impl_treeReader_parts.c9 k S61 x.1.2.1 x.1.2.2.1 x.1.2.2.2.1 x.1.2.2.2.2 x.2.1 x.2.2) (X h)) f90s7 fun x => impl_treeReader_parts.c7 k S61 x.1.2.1 x.1.2.2.1 x.1.2.2.2.1 x.1.2.2.2.2 x.2.1 x.2.2) (X h)) (X h)) f90s4 fun x => impl_treeReader_parts.c4 k S61 x.1.2.1 x.1.2.2.1 x.1.2.2.2.1 x.1.2.2.2.2 x.2.1 x.2.2) (X h)) (X h)) (X h)
theorem f91okb (k : Nat) (S61 : Int → Int → Int → TTreeReaderB → (List TNode) → Option (Unit × TTreeReaderB × (List TNode))) (S90 : Int → Int → TTreeReaderB → (List TNode) → Option (Unit × TTreeReaderB × (List TNode))) (S91 : Int → Int → TTreeReaderB → (List TNode) → Option (Unit × TTreeReaderB × (List TNode))) (h61 : FnOk Tryz.prog 61 (f61con S61)) (h90 : FnOk Tryz.prog 90 (f90con S90)) (h91 : FnOk Tryz.prog 91 (f91con S91)) : FnOk Tryz.prog 91 (f91con (impl_treeReader_fields.b k S61 S90 S91)) := ok (cx [f57 k, ⟨61, _, h61⟩, f85 k, f86 k, f88 k, f104 k, f105 k] 84 nb) Tryz.f91 fun h x => Q (B (L f91s1 (fun n x => impl_treeReader_fields.l1 k S61 n x.1.2.1 x.1.2.2.1 x.1.2.2.2 x.2.1 x.2.2) k fun n1 => B (Q (Q (Q (Q (T (Q (T (Q (T (Q (T (X h) f91s12 fun x => impl_treeReader_fields.c12 k S61 (impl_treeReader_fields.l1 k S61 n1) x.1.2.1 x.1.2.2.1 x.1.2.2.2.1 x.1.2.2.2.2 x.2.1 x.2.2) (X h)) f91s10 fun x => impl_treeReader_fields.c10 k S61 (impl_treeReader_fields.l1 k S61 n1) x.1.2.1 x.1.2.2.1 x.1.2.2.2.1 x.1.2.2.2.2.1 x.1.2.2.2.2.2 x.2.1 x.2.2) (X h)) f91s8 fun x => impl_treeReader_fields.c8 k S61 (impl_treeReader_fields.l1 k S61 n1) x.1.2.1 x.1.2.2.1 x.1.2.2.2.1 x.1.2.2.2.2.1 x.1.2.2.2.2.2 x.2.1 x.2.2) (X h)) f91s6 fun x => impl_treeReader_fields.c6 k S61 (impl_treeReader_fields.l1 k S61 n1) x.1.2.1 x.1.2.2.1 x.1.2.2.2.1 x.1.2.2.2.2.1 x.1.2.2.2.2.2.1 x.1.2.2.2.2.2.2 x.2.1 x.2.2) (X h)) (X h)) (X h)) (X h)))) (X h)
theorem f61rec (k : Nat) : ∀ d, FnOk Tryz.prog 61 (f61con (impl_treeReader_node.d k d)) ∧ FnOk Tryz.prog 90 (f90con (impl_treeReader_parts.d k d)) ∧ FnOk Tryz.prog 91 (f91con (impl_treeReader_fields.d k d))
  | 0 => ⟨FnOk_none (fun _ => rfl), FnOk_none (fun _ => rfl), FnOk_none (fun _ => rfl)⟩
  | d + 1 => let ih := f61rec k d
    ⟨f61okb k (impl_treeReader_node.d k d) (impl_treeReader_parts.d k d) (impl_treeReader_fields.d k d) ih.1 ih.2.1 ih.2.2, f90okb k (impl_treeReader_node.d k d) (impl_treeReader_parts.d k d) (impl_treeReader_fields.d k d) ih.1 ih.2.1 ih.2.2, f91okb k (impl_treeReader_node.d k d) (impl_treeReader_parts.d k d) (impl_treeReader_fields.d k d) ih.1 ih.2.1 ih.2.2⟩
theorem f61ok (k : Nat) : FnOk Tryz.prog 61 (f61con (impl_treeReader_node k)) := (f61rec k k).1
def f61 (k : Nat) : Fc Tryz.prog := ⟨61, _, f61ok k⟩
theorem f90ok (k : Nat) : FnOk Tryz.prog 90 (f90con (impl_treeReader_parts k)) := (f61rec k k).2.1
def f90 (k : Nat) : Fc Tryz.prog := ⟨90, _, f90ok k⟩
theorem f91ok (k : Nat) : FnOk Tryz.prog 91 (f91con (impl_treeReader_fields k)) := (f61rec k k).2.2
def f91 (k : Nat) : Fc Tryz.prog := ⟨91, _, f91ok k⟩
def f37c (k : Nat) : Con := ⟨⟨[(0, z4), (1, z2)], []⟩, ⟨[(0, z7), (1, z2), (2, z2)], [(100, w10)]⟩, 2, 3, fun x => impl_TreeRead k x.1 x.2⟩
theorem f37ok (k : Nat) : FnOk Tryz.prog 37 (f37c k) := ok (cx [f57 k, f61 k] 37 nb) Tryz.f37 fun h x => X h
def f37 (k : Nat) : Fc Tryz.prog := ⟨37, _, f37ok k⟩
def f92c (k : Nat) : Con := ⟨⟨[(0, (.ro y9))], []⟩, ⟨[(0, z5)], []⟩, 1, 1, fun x => impl_nodeOk k x⟩
theorem f92ok (k : Nat) : FnOk Tryz.prog 92 (f92c k) := ok (cx [f87 k, f105 k] 109 nb) Tryz.f92 fun h x => X h
def f92 (k : Nat) : Fc Tryz.prog := ⟨92, _, f92ok k⟩
def f62s7 : SS := ⟨[(0, z36), (1, z2), (2, z2), (7, z15), (8, z2), (9, z2), (43, z2), (44, z2)], [(0, w44), (10, w14), (100, w40)]⟩
def f62con (F : Int → Int → (Bool × TTreeB) → (List Int) → Option (Int × TTreeB × (List Int))) : Con := ⟨⟨[(0, z36), (1, z2), (2, z2)], [(0, w45), (10, w14)]⟩, ⟨[(0, z2)], [(0, w44), (10, w14)]⟩, 3, 1, fun x => F x.1.2.1 x.1.2.2 x.2.1 x.2.2⟩
theorem f62okb (k : Nat) (S62 : Int → Int → (Bool × TTreeB) → (List Int) → Option (Int × TTreeB × (List Int))) (h62 : FnOk Tryz.prog 62 (f62con S62)) : FnOk Tryz.prog 62 (f62con (impl_tree_measure.b k S62)) := ok (cx [f57 k, ⟨62, _, h62⟩, f92 k] 104 nb) Tryz.f62 fun h x => Q (Q (Q (Q (Q (Q (X h) (Q (B (L f62s7 (fun n x => impl_tree_measure.l7 k S62 n x.1.2.1 x.1.2.2.1 x.1.2.2.2.2.1 x.1.2.2.2.2.2.1 x.1.2.2.2.2.2.2.1 x.1.2.2.2.2.2.2.2 x.2.1 x.2.2.1 x.2.2.2) k fun n7 => X h)) (X h))) (X h)) (X h)) (X h)) (X h)) (X h)
theorem f62rec (k : Nat) : ∀ d, FnOk Tryz.prog 62 (f62con (impl_tree_measure.d k d))
  | 0 => FnOk_none (fun _ => rfl)
  | d + 1 => let ih := f62rec k d
    f62okb k (impl_tree_measure.d k d) ih
theorem f62ok (k : Nat) : FnOk Tryz.prog 62 (f62con (impl_tree_measure k)) := (f62rec k k)
def f62 (k : Nat) : Fc Tryz.prog := ⟨62, _, f62ok k⟩
def f38c (k : Nat) : Con := ⟨⟨[(0, z13)], []⟩, ⟨[(0, z15), (1, z5)], [(100, (.obox y42 (.agg (.cons z13 (.cons (.h 101) .nil))))), (101, w14)]⟩, 1, 2, fun x => impl_treeOf k x⟩
theorem f38ok (k : Nat) : FnOk Tryz.prog 38 (f38c k) := ok (cx [f57 k, f62 k] 35 (fun s => Nat.beq s 27)) Tryz.f38 fun h x => X h
def f38 (k : Nat) : Fc Tryz.prog := ⟨38, _, f38ok k⟩
def f56c (k : Nat) : Con := ⟨⟨[(0, z2)], []⟩, ⟨[(0, z5)], []⟩, 1, 1, fun x => impl_TypeOk k x⟩
theorem f56ok (k : Nat) : FnOk Tryz.prog 56 (f56c k) := ok (cx [f57 k] 13 nb) Tryz.f56 fun h x => X h
def f56 (k : Nat) : Fc Tryz.prog := ⟨56, _, f56ok k⟩
def f39c (k : Nat) : Con := ⟨⟨[(0, z12)], []⟩, ⟨[(0, z5)], []⟩, 1, 1, fun x => impl_LeafOk k x⟩
theorem f39ok (k : Nat) : FnOk Tryz.prog 39 (f39c k) := ok (cx [f56 k, f57 k] 18 nb) Tryz.f39 fun h x => X h
def f39 (k : Nat) : Fc Tryz.prog := ⟨39, _, f39ok k⟩
def f43s5 : SS := ⟨[(0, z36), (2, z2), (7, z2), (37, z2), (38, z2)], [(0, w44), (10, w14)]⟩
def f43c (k : Nat) : Con := ⟨⟨[(0, z36), (1, z2), (2, z2)], [(0, w45), (10, w14)]⟩, ⟨[(0, z2)], [(0, w44), (10, w14)]⟩, 3, 1, fun x => impl_tree_find k x.1.2.1 x.1.2.2 x.2.1 x.2.2⟩
theorem f43ok (k : Nat) : FnOk Tryz.prog 43 (f43c k) := ok (cx [f57 k] 59 nb) Tryz.f43 fun h x => Q (Q (Q (Q (X h) (Q (B (L f43s5 (fun n x => impl_tree_find.l5 k n x.1.2.1 x.1.2.2.1 x.1.2.2.2.1 x.1.2.2.2.2 x.2.1 x.2.2) k fun n5 => X h)) (X h))) (X h)) (X h)) (X h)
def f43 (k : Nat) : Fc Tryz.prog := ⟨43, _, f43ok k⟩
def f42c (k : Nat) : Con := ⟨⟨[(0, z36), (1, z2), (2, z2), (3, z2)], [(0, w45), (10, w14)]⟩, ⟨[(0, z39), (1, z5)], [(0, w44), (10, w14)]⟩, 4, 2, fun x => impl_tree_part k x.1.2.1 x.1.2.2.1 x.1.2.2.2 x.2.1 x.2.2⟩
theorem f42ok (k : Nat) : FnOk Tryz.prog 42 (f42c k) := ok (cx [f43 k] 37 nb) Tryz.f42 fun h x => X h
def f42 (k : Nat) : Fc Tryz.prog := ⟨42, _, f42ok k⟩
def f63c (k : Nat) : Con := ⟨⟨[(0, z36), (1, z2), (2, z2)], [(0, w45), (10, w14)]⟩, ⟨[(0, z2), (1, z5)], [(0, w44), (10, w14)]⟩, 3, 2, fun x => impl_tree_num k x.1.2.1 x.1.2.2 x.2.1 x.2.2⟩
theorem f63ok (k : Nat) : FnOk Tryz.prog 63 (f63c k) := ok (cx [f43 k] 45 nb) Tryz.f63 fun h x => X h
def f63 (k : Nat) : Fc Tryz.prog := ⟨63, _, f63ok k⟩
def f40i1s4 : SS := ⟨[(5, z2)], [(0, w48), (10, w50), (11, w14)]⟩
def f40i1c (k : Nat) : Con := ⟨⟨[(0, z36), (1, z2)], [(0, w48), (10, (.obox y42 z49)), (11, w14)]⟩, ⟨[(0, z2)], [(0, w48), (10, w50), (11, w14)]⟩, 2, 1, fun x => impl_headReader_any k x.1.2 x.2.1 x.2.2.1 x.2.2.2⟩
theorem f40i1ok (k : Nat) : FnOk Tryz.prog 40 (f40i1c k) := ok (cx [f63 k] 26 nb) Tryz.f40 fun h x => Q (Q (Q (T (X h) f40i1s4 fun x => impl_headReader_any.c4 k x.1 x.2.1 x.2.2.1 x.2.2.2) (X h)) (X h)) (X h)
def f40i1 (k : Nat) : Fc Tryz.prog := ⟨40, _, f40i1ok k⟩
def f41i2s4 : SS := ⟨[(7, z2)], [(0, w48), (10, w50), (11, w14)]⟩
def f41i2c (k : Nat) : Con := ⟨⟨[(0, z36), (1, z2), (2, z2)], [(0, w48), (10, w50), (11, w14)]⟩, ⟨[(0, z2)], [(0, w48), (10, w50), (11, w14)]⟩, 3, 1, fun x => impl_headReader_num k x.1.2.1 x.1.2.2 x.2.1 x.2.2.1 x.2.2.2⟩
theorem f41i2ok (k : Nat) : FnOk Tryz.prog 41 (f41i2c k) := ok (cx [f63 k] 33 nb) Tryz.f41 fun h x => Q (Q (Q (T (X h) f41i2s4 fun x => impl_headReader_num.c4 k x.1 x.2.1 x.2.2.1 x.2.2.2) (X h)) (X h)) (X h)
def f41i2 (k : Nat) : Fc Tryz.prog := ⟨41, _, f41i2ok k⟩
def f64i4c (k : Nat) : Con := ⟨⟨[(0, z36), (1, z2)], [(0, w48), (10, w50), (11, w14)]⟩, ⟨[], [(0, w48), (10, w50), (11, w14)]⟩, 2, 0, fun x => impl_headReader_enter k x.1.2 x.2.1 x.2.2.1 x.2.2.2⟩
theorem f64i4ok (k : Nat) : FnOk Tryz.prog 64 (f64i4c k) := ok (cx [f43 k] 38 nb) Tryz.f64 fun h x => X h
def f64i4 (k : Nat) : Fc Tryz.prog := ⟨64, _, f64i4ok k⟩
def f79c (k : Nat) : Con := ⟨⟨[(0, z2), (1, z2)], []⟩, ⟨[(0, z2)], []⟩, 2, 1, fun x => impl_BitsSize k x.1 x.2⟩
theorem f79ok (k : Nat) : FnOk Tryz.prog 79 (f79c k) := ok (cx [f57 k] 18 nb) Tryz.f79 fun h x => X h
def f79 (k : Nat) : Fc Tryz.prog := ⟨79, _, f79ok k⟩
def f102c (k : Nat) : Con := ⟨⟨[(0, z4), (1, z2)], []⟩, ⟨[(0, z2)], []⟩, 2, 1, fun x => impl_BitAt k x.1 x.2⟩
theorem f102ok (k : Nat) : FnOk Tryz.prog 102 (f102c k) := ok (cx [] 24 nb) Tryz.f102 fun h x => X h
def f102 (k : Nat) : Fc Tryz.prog := ⟨102, _, f102ok k⟩
def f80s7 : SS := ⟨[(0, z4), (1, z2), (3, z2), (9, z7), (10, z2), (11, z2), (14, z2), (15, z2), (18, z2), (19, z2)], [(100, w14)]⟩
def f80s3 : SS := ⟨[(0, z4), (1, z2), (3, z2), (9, z7), (14, z2), (15, z2)], [(100, w14)]⟩
def f80c (k : Nat) : Con := ⟨⟨[(0, z4), (1, z2), (2, z2), (3, z2)], []⟩, ⟨[(0, z7)], [(100, w14)]⟩, 4, 1, fun x => impl_unpacked k x.1 x.2.1 x.2.2.1 x.2.2.2⟩
theorem f80ok (k : Nat) : FnOk Tryz.prog 80 (f80c k) := ok (cx [f102 k] 43 nb) Tryz.f80 fun h x => Q (Q (Q (X h) (Q (B (L f80s3 (fun n x => impl_unpacked.l3 k n x.1.1 x.1.2.1 x.1.2.2.1 x.1.2.2.2.2.1 x.1.2.2.2.2.2 x.2) k fun n3 => Q (Q (Q (X h) (B (Q (Q (Q (X h) (Q (B (L f80s7 (fun n x => impl_unpacked.l7 k (impl_unpacked.l3 k n3) n x.1.1 x.1.2.1 x.1.2.2.1 x.1.2.2.2.2.1 x.1.2.2.2.2.2.1 x.1.2.2.2.2.2.2.1 x.1.2.2.2.2.2.2.2.1 x.1.2.2.2.2.2.2.2.2.1 x.1.2.2.2.2.2.2.2.2.2 x.2) k fun n7 => X h)) (X h))) (X h)) (X h)))) (X h)) (X h))) (X h))) (X h)) (X h)
def f80 (k : Nat) : Fc Tryz.prog := ⟨80, _, f80ok k⟩
def f58c (k : Nat) : Con := ⟨⟨[(0, z4), (1, z2), (2, z2), (3, z2)], []⟩, ⟨[(0, z7), (1, z2), (2, z5)], [(100, w14)]⟩, 4, 3, fun x => impl_BitsRead k x.1 x.2.1 x.2.2.1 x.2.2.2⟩
theorem f58ok (k : Nat) : FnOk Tryz.prog 58 (f58c k) := ok (cx [f57 k, f79 k, f80 k] 40 nb) Tryz.f58 fun h x => X h
def f58 (k : Nat) : Fc Tryz.prog := ⟨58, _, f58ok k⟩
def f59s3 : SS := ⟨[(3, z7), (7, z1), (8, z2), (9, z2)], [(100, w19)]⟩
def f59c (k : Nat) : Con := ⟨⟨[(0, z1)], []⟩, ⟨[(0, z7)], [(100, w19)]⟩, 1, 1, fun x => impl_valsOf k x⟩
theorem f59ok (k : Nat) : FnOk Tryz.prog 59 (f59c k) := ok (cx [] 20 nb) Tryz.f59 fun h x => Q (Q (Q (X h) (Q (B (L f59s3 (fun n x => impl_valsOf.l3 k n x.1.2.1 x.1.2.2.1 x.1.2.2.2 x.2) k fun n3 => X h)) (X h))) (X h)) (X h)
def f59 (k : Nat) : Fc Tryz.prog := ⟨59, _, f59ok k⟩
def f81s5 : SS := ⟨[(0, z4), (1, z2), (2, z2), (9, z2), (26, z2), (27, z2)], []⟩
def f81c (k : Nat) : Con := ⟨⟨[(0, z4), (1, z2), (2, z2)], []⟩, ⟨[(0, z2), (1, z2), (2, z5)], []⟩, 3, 3, fun x => impl_WordGet k x.1 x.2.1 x.2.2⟩
theorem f81ok (k : Nat) : FnOk Tryz.prog 81 (f81c k) := ok (cx [f57 k] 47 nb) Tryz.f81 fun h x => Q (Q (Q (Q (X h) (Q (B (L f81s5 (fun n x => impl_WordGet.l5 k n x.1 x.2.1 x.2.2.1 x.2.2.2.1 x.2.2.2.2.1 x.2.2.2.2.2) k fun n5 => X h)) (X h))) (X h)) (X h)) (X h)
def f81 (k : Nat) : Fc Tryz.prog := ⟨81, _, f81ok k⟩
def f82s6 : SS := ⟨[(6, z5)], []⟩
def f82c (k : Nat) : Con := ⟨⟨[(0, z2)], []⟩, ⟨[(0, z2)], []⟩, 1, 1, fun x => impl_wideOf k x⟩
theorem f82ok (k : Nat) : FnOk Tryz.prog 82 (f82c k) := ok (cx [] 9 nb) Tryz.f82 fun h x => Q (Q (X h) (Q (B (Q (D (X h) (Q (T (X h) f82s6 fun x => impl_wideOf.c6 k x) (X h))) (X h))) (X h))) (X h)
def f82 (k : Nat) : Fc Tryz.prog := ⟨82, _, f82ok k⟩
def f83c (k : Nat) : Con := ⟨⟨[(0, z2), (1, z2)], []⟩, ⟨[(0, z2)], []⟩, 2, 1, fun x => impl_signed k x.1 x.2⟩
theorem f83ok (k : Nat) : FnOk Tryz.prog 83 (f83c k) := ok (cx [] 11 nb) Tryz.f83 fun h x => X h
def f83 (k : Nat) : Fc Tryz.prog := ⟨83, _, f83ok k⟩
def f60c (k : Nat) : Con := ⟨⟨[(0, z2), (1, z4), (2, z2)], []⟩, ⟨[(0, z17), (1, z2), (2, z5)], []⟩, 3, 3, fun x => impl_plainOne k x.1 x.2.1 x.2.2⟩
theorem f60ok (k : Nat) : FnOk Tryz.prog 60 (f60c k) := ok (cx [f81 k, f82 k, f83 k] 66 nb) Tryz.f60 fun h x => X h
def f60 (k : Nat) : Fc Tryz.prog := ⟨60, _, f60ok k⟩
def f36s8 : SS := ⟨[(0, z2), (1, z4), (2, z2), (14, z7), (48, z2), (49, z2)], [(100, w19)]⟩
def f36c (k : Nat) : Con := ⟨⟨[(0, z2), (1, z4), (2, z2), (3, z2)], []⟩, ⟨[(0, z7), (1, z2), (2, z5)], [(100, w19)]⟩, 4, 3, fun x => impl_PlainRead k x.1 x.2.1 x.2.2.1 x.2.2.2⟩
theorem f36ok (k : Nat) : FnOk Tryz.prog 36 (f36c k) := ok (cx [f56 k, f57 k, f58 k, f59 k, f60 k] 69 nb) Tryz.f36 fun h x => Q (Q (Q (Q (Q (X h) (Q (B (L f36s8 (fun n x => impl_PlainRead.l8 k n x.1.1 x.1.2.1 x.1.2.2.1 x.1.2.2.2.2.1 x.1.2.2.2.2.2 x.2) k fun n8 => X h)) (X h))) (X h)) (X h)) (X h)) (X h)
def f36 (k : Nat) : Fc Tryz.prog := ⟨36, _, f36ok k⟩
def f112s8 : SS := ⟨[(0, z2), (3, z15), (26, z5)], [(100, w18)]⟩
def f112c (k : Nat) : Con := ⟨⟨[(0, z2), (1, z20)], []⟩, ⟨[(0, z5)], []⟩, 2, 1, fun x => impl_ValOk k x.1 x.2⟩
theorem f112ok (k : Nat) : FnOk Tryz.prog 112 (f112c k) := ok (cx [f57 k, f87 k] 45 nb) Tryz.f112 fun h x => Q (Q (X h) (Q (B (Q (D (X h) (Q (D (X h) (Q (T (X h) f112s8 fun x => impl_ValOk.c8 k x.1.1 x.1.2.2 x.2) (X h))) (X h))) (X h))) (X h))) (X h)
def f112 (k : Nat) : Fc Tryz.prog := ⟨112, _, f112ok k⟩
def f120s2 : SS := ⟨[(0, z2), (1, z21), (7, z21), (8, z2), (9, z2)], []⟩
def f120c (k : Nat) : Con := ⟨⟨[(0, z2), (1, z21)], []⟩, ⟨[(0, z5)], []⟩, 2, 1, fun x => impl_valsOk k x.1 x.2⟩
theorem f120ok (k : Nat) : FnOk Tryz.prog 120 (f120c k) := ok (cx [f56 k, f112 k] 25 nb) Tryz.f120 fun h x => Q (Q (X h) (Q (B (L f120s2 (fun n x => impl_valsOk.l2 k n x.1 x.2.1 x.2.2.1 x.2.2.2.1 x.2.2.2.2) k fun n2 => X h)) (X h))) (X h)
def f120 (k : Nat) : Fc Tryz.prog := ⟨120, _, f120ok k⟩
def f121s6 : SS := ⟨[(1, z2), (5, z7), (6, z2), (7, z2), (17, z1), (18, z2), (19, z2), (24, z2), (25, z2)], [(100, w22)]⟩
def f121s3 : SS := ⟨[(1, z2), (5, z7), (17, z1), (18, z2), (19, z2)], [(100, w22)]⟩
def f121c (k : Nat) : Con := ⟨⟨[(0, z1), (1, z2)], []⟩, ⟨[(0, z7)], [(100, w22)]⟩, 2, 1, fun x => impl_packed k x.1 x.2⟩
theorem f121ok (k : Nat) : FnOk Tryz.prog 121 (f121c k) := ok (cx [] 51 nb) Tryz.f121 fun h x => Q (Q (Q (X h) (Q (B (L f121s3 (fun n x => impl_packed.l3 k n x.1.1 x.1.2.2.1 x.1.2.2.2.1 x.1.2.2.2.2 x.2) k fun n3 => Q (Q (Q (X h) (B (Q (Q (B (L f121s6 (fun n x => impl_packed.l6 k (impl_packed.l3 k n3) n x.1.1 x.1.2.2.1 x.1.2.2.2.1 x.1.2.2.2.2.1 x.1.2.2.2.2.2.1 x.1.2.2.2.2.2.2.1 x.1.2.2.2.2.2.2.2.1 x.1.2.2.2.2.2.2.2.2 x.2) k fun n6 => X h)) (X h)) (X h)))) (X h)) (X h))) (X h))) (X h)) (X h)
def f121 (k : Nat) : Fc Tryz.prog := ⟨121, _, f121ok k⟩
def f122s3 : SS := ⟨[(3, z7), (7, z21), (8, z2), (9, z2)], [(100, w14)]⟩
def f122c (k : Nat) : Con := ⟨⟨[(0, z21)], []⟩, ⟨[(0, z7)], [(100, w14)]⟩, 1, 1, fun x => impl_numsOf k x⟩
theorem f122ok (k : Nat) : FnOk Tryz.prog 122 (f122c k) := ok (cx [] 20 nb) Tryz.f122 fun h x => Q (Q (Q (X h) (Q (B (L f122s3 (fun n x => impl_numsOf.l3 k n x.1.2.1 x.1.2.2.1 x.1.2.2.2 x.2) k fun n3 => X h)) (X h))) (X h)) (X h)
def f122 (k : Nat) : Fc Tryz.prog := ⟨122, _, f122ok k⟩
def f123s5 : SS := ⟨[(0, z2), (5, z7), (11, z2), (12, z2)], [(100, w22)]⟩
def f123c (k : Nat) : Con := ⟨⟨[(0, z2), (1, z2)], []⟩, ⟨[(0, z7)], [(100, w22)]⟩, 2, 1, fun x => impl_WordPut k x.1 x.2⟩
theorem f123ok (k : Nat) : FnOk Tryz.prog 123 (f123c k) := ok (cx [f57 k] 25 nb) Tryz.f123 fun h x => Q (Q (Q (Q (X h) (Q (B (L f123s5 (fun n x => impl_WordPut.l5 k n x.1.1 x.1.2.2.1 x.1.2.2.2 x.2) k fun n5 => X h)) (X h))) (X h)) (X h)) (X h)
def f123 (k : Nat) : Fc Tryz.prog := ⟨123, _, f123ok k⟩
def f118s12 : SS := ⟨[(0, z2), (6, z7), (19, z21), (20, z2), (21, z2)], [(100, w22)]⟩
def f118d10 : SS := ⟨[(0, z2), (6, z7), (8, z23), (19, z21), (20, z2), (21, z2)], [(100, w22), (101, w18)]⟩
def f118d11 : SS := ⟨[(0, z2), (6, z7), (8, z23), (19, z21), (20, z2), (21, z2)], [(100, w22), (101, w18)]⟩
def f118s7 : SS := ⟨[(0, z2), (6, z7), (19, z21), (20, z2), (21, z2)], [(100, w22)]⟩
def f118c (k : Nat) : Con := ⟨⟨[(0, z2), (1, z21)], []⟩, ⟨[(0, z7), (1, z5)], [(100, w22)]⟩, 2, 2, fun x => impl_PlainPack k x.1 x.2⟩
theorem f118ok (k : Nat) : FnOk Tryz.prog 118 (f118c k) := ok (cx [f82 k, f120 k, f121 k, f122 k, f123 k] 45 nb) Tryz.f118 fun h x => Q (Q (Q (Q (Q (X h) (Q (B (L f118s7 (fun n x => impl_PlainPack.l7 k n x.1.1 x.1.2.2.1 x.1.2.2.2.1 x.1.2.2.2.2 x.2) k fun n7 => Q (Q (Q (T (X h) f118s12 fun x => impl_PlainPack.c12 k (impl_PlainPack.l7 k n7) x.1.1 x.1.2.2.1 x.1.2.2.2.1 x.1.2.2.2.2 x.2) (B (Q (Q (D (K h f118d10 (fun x => impl_PlainPack.d10 k (impl_PlainPack.l7 k n7) x.1.1 x.1.2.2.2.1 x.1.2.2.2.2.1 x.1.2.2.2.2.2 x.2.1 x.2.2) [[0, 1, 6, 2, 3, 4, 5, 7, 8, 9], [0, 1, 6, 2, 3, 4, 7, 5, 8, 9], [0, 1, 6, 2, 3, 7, 4, 5, 8, 9], [0, 1, 6, 7, 2, 3, 4, 5, 8, 9]] (O (fun x => by kernel_rfl) (O (fun x => by kernel_rfl) (O (fun x => by kernel_rfl) (O (fun x => by kernel_rfl) (N)))))) (K h f118d11 (fun x => impl_PlainPack.d11 k (impl_PlainPack.l7 k n7) x.1.1 x.1.2.2.2.1 x.1.2.2.2.2.1 x.1.2.2.2.2.2 x.2.1 x.2.2) [[0, 1, 3, 2, 4, 5, 6, 7], [0, 1, 3, 4, 2, 5, 6, 7]] (O (fun x => by kernel_rfl) (O (fun x => by kernel_rfl) (N))))) (X h)) (X h)))) (X h)) (X h))) (X h))) (X h)) (X h)) (X h)) (X h)
def f118 (k : Nat) : Fc Tryz.prog := ⟨118, _, f118ok k⟩
def f113c (k : Nat) : Con := ⟨⟨[(0, z2), (1, z20)], []⟩, ⟨[(0, z6)], []⟩, 2, 1, fun x => impl_statText k x.1 x.2⟩
theorem f113ok (k : Nat) : FnOk Tryz.prog 113 (f113c k) := ok (cx [f118 k] 20 nb) Tryz.f113 fun h x => X h
def f113 (k : Nat) : Fc Tryz.prog := ⟨113, _, f113ok k⟩
def f106c (k : Nat) : Con := ⟨⟨[(0, z2), (1, z6)], []⟩, ⟨[(0, z17), (1, z5)], []⟩, 2, 2, fun x => impl_valueOf k x.1 x.2⟩
theorem f106ok (k : Nat) : FnOk Tryz.prog 106 (f106c k) := ok (cx [f36 k, f112 k, f113 k] 46 nb) Tryz.f106 fun h x => X h
def f106 (k : Nat) : Fc Tryz.prog := ⟨106, _, f106ok k⟩
def f119c (k : Nat) : Con := ⟨⟨[(0, z2)], []⟩, ⟨[(0, z2)], []⟩, 1, 1, fun x => impl_FloatKey k x⟩
theorem f119ok (k : Nat) : FnOk Tryz.prog 119 (f119c k) := ok (cx [] 8 nb) Tryz.f119 fun h x => X h
def f119 (k : Nat) : Fc Tryz.prog := ⟨119, _, f119ok k⟩
def f114d5 : SS := ⟨[(4, z15), (5, z23)], [(100, w18), (101, w18)]⟩
def f114c (k : Nat) : Con := ⟨⟨[(0, z2), (1, z20), (2, z20)], []⟩, ⟨[(0, z5)], []⟩, 3, 1, fun x => impl_ValLess k x.1 x.2.1 x.2.2⟩
theorem f114ok (k : Nat) : FnOk Tryz.prog 114 (f114c k) := ok (cx [f112 k, f119 k] 39 nb) Tryz.f114 fun h x => Q (Q (Q (X h) (Q (B (Q (D (Q (X h) (K h f114d5 (fun x => impl_ValLess.d5 k x.2.1 x.2.2) [[0, 3, 1, 2, 4, 5, 6, 7], [0, 3, 1, 4, 2, 5, 6, 7], [0, 3, 4, 1, 2, 5, 6, 7]] (O (fun x => by kernel_rfl) (O (fun x => by kernel_rfl) (O (fun x => by kernel_rfl) (N)))))) (X h)) (X h))) (X h))) (X h)) (X h)
def f114 (k : Nat) : Fc Tryz.prog := ⟨114, _, f114ok k⟩
def f107c (k : Nat) : Con := ⟨⟨[(0, z12), (1, (.ro y24))], []⟩, ⟨[(0, z5)], []⟩, 2, 1, fun x => impl_statsOk k x.1 x.2⟩
theorem f107ok (k : Nat) : FnOk Tryz.prog 107 (f107c k) := ok (cx [f39 k, f57 k, f112 k, f114 k] 49 nb) Tryz.f107 fun h x => X h
def f107 (k : Nat) : Fc Tryz.prog := ⟨107, _, f107ok k⟩
def f93s13 : SS := ⟨[(4, z15), (6, z23), (10, z25)], [(0, w44), (10, w14), (100, w28), (101, w30), (102, w30)]⟩
def f93d12 : SS := ⟨[(4, z15), (6, z23), (10, z25), (15, (.p 103)), (17, (.p 104))], [(0, w44), (10, w14), (100, w28), (101, w30), (102, w30), (103, w18), (104, w18)]⟩
def f93c (k : Nat) : Con := ⟨⟨[(0, z36), (1, z12), (2, z2)], [(0, w45), (10, w14)]⟩, ⟨[(0, z29), (1, z5)], [(0, w44), (10, w14)]⟩, 3, 2, fun x => impl_tree_stats k x.1.2.1 x.1.2.2 x.2.1 x.2.2⟩
theorem f93ok (k : Nat) : FnOk Tryz.prog 93 (f93c k) := ok (cx [f39 k, f42 k, f43 k, f63 k, f106 k, f107 k] 99 (fun s => Nat.beq s 39)) Tryz.f93 fun h x => Q (Q (Q (Q (Q (T (X h) f93s13 fun x => impl_tree_stats.c13 k x.2.1 x.2.2.1 x.2.2.2.1 x.2.2.2.2.1 x.2.2.2.2.2) (Q (D (Q (Q (Q (Q (Q (K h f93d12 (fun x => impl_tree_stats.d12 k x.2.1 x.2.2.1 x.2.2.2.1 x.2.2.2.2.1 x.2.2.2.2.2.1 x.2.2.2.2.2.2.1 x.2.2.2.2.2.2.2) [[2, 0, 1, 3, 4, 5, 6, 7], [2, 0, 3, 4, 1, 5, 6, 7], [2, 0, 3, 4, 5, 1, 6, 7], [2, 1, 0, 3, 4, 5, 6, 7], [2, 1, 3, 0, 4, 5, 6, 7], [2, 3, 0, 4, 1, 5, 6, 7], [2, 3, 0, 4, 5, 1, 6, 7]] (O (fun x => by kernel_rfl) (O (fun x => by kernel_rfl) (O (fun x => by kernel_rfl) (O (fun x => by kernel_rfl) (O (fun x => by kernel_rfl) (O (fun x => by kernel_rfl) (O (fun x => by kernel_rfl) (N))))))))) (X h)) (X h)) (X h)) (X h)) (X h)) (X h)) (X h))) (X h)) (X h)) (X h)) (X h)
def f93 (k : Nat) : Fc Tryz.prog := ⟨93, _, f93ok k⟩
def f65i5c (k : Nat) : Con := ⟨⟨[(0, z36), (1, z12), (2, z2), (3, (.p 3))], [(0, w48), (3, w33), (10, w50), (11, w14)]⟩, ⟨[], [(0, w48), (3, w33), (10, w50), (11, w14)]⟩, 4, 0, fun x => impl_headReader_statistics k x.1.2.1 x.1.2.2.1 x.2.1 x.2.2.1 x.2.2.2.1 x.2.2.2.2⟩
theorem f65i5ok (k : Nat) : FnOk Tryz.prog 65 (f65i5c k) := ok (cx [f43 k, f93 k] 37 nb) Tryz.f65 fun h x => X h
def f65i5 (k : Nat) : Fc Tryz.prog := ⟨65, _, f65i5ok k⟩
def f44i3s23 : SS := ⟨[(0, z36), (2, (.p 2))], [(0, w48), (2, w33), (10, w50), (11, w14)]⟩
def f44i3s8 : SS := ⟨[(0, z36), (2, (.p 2)), (4, z15)], [(0, w48), (2, w33), (10, w50), (11, w14), (100, w28)]⟩
def f44i3s19 : SS := ⟨[(0, z36), (2, (.p 2)), (4, z15)], [(0, w48), (2, w33), (10, w50), (11, w14), (100, w28)]⟩
def f44i3c (k : Nat) : Con := ⟨⟨[(0, z36), (1, z12), (2, (.p 2))], [(0, w48), (2, w33), (10, w50), (11, w14)]⟩, ⟨[], [(0, w48), (2, w33), (10, w50), (11, w14)]⟩, 3, 0, fun x => impl_headReader_own k x.1.2.1 x.2.1 x.2.2.1 x.2.2.2.1 x.2.2.2.2⟩
theorem f44i3ok (k : Nat) : FnOk Tryz.prog 44 (f44i3c k) := ok (cx [f40i1 k, f41i2 k, f43 k, f64i4 k, f65i5 k] 127 (fun s => Nat.beq s 26)) Tryz.f44 fun h x => Q (Q (T (X h) f44i3s23 fun x => impl_headReader_own.c23 k x.2.1 x.2.2.1 x.2.2.2.1 x.2.2.2.2) (Q (B (Q (D (Q (Q (Q (T (X h) f44i3s8 fun x => impl_headReader_own.c8 k x.2.1 x.2.2.1 x.2.2.2.1 x.2.2.2.2.1 x.2.2.2.2.2) (X h)) (X h)) (X h)) (Q (D (Q (Q (Q (Q (Q (Q (Q (Q (T (X h) f44i3s19 fun x => impl_headReader_own.c19 k x.2.1 x.2.2.1 x.2.2.2.1 x.2.2.2.2.1 x.2.2.2.2.2) (X h)) (X h)) (X h)) (X h)) (X h)) (X h)) (X h)) (X h)) (X h)) (X h))) (X h))) (X h))) (X h)
def f44i3 (k : Nat) : Fc Tryz.prog := ⟨44, _, f44i3ok k⟩
def f25d14 : SS := ⟨[(1, z4), (3, z15), (6, z23), (9, z2), (13, z25), (14, (.p 103)), (15, (.p 104)), (16, z5)], [(100, w28), (101, w33), (102, w51), (103, w33), (104, w40), (105, w52), (106, w14)]⟩
def f25s14 : SS := ⟨[(1, z4), (3, z15), (6, z23), (9, z2), (13, z25), (14, (.p 103)), (15, (.p 104)), (16, z5)], [(100, w28), (101, w33), (102, w51), (103, w33), (104, w40), (105, w52), (106, w14)]⟩
def f25s11 : SS := ⟨[(1, z4), (3, z15), (6, z23), (9, z2), (11, z25), (13, (.p 103)), (14, (.p 104))], [(100, w28), (101, w33), (102, w53), (103, w54), (104, w33), (105, w14)]⟩
def f25d9 : SS := ⟨[(1, z4), (3, z15), (6, z23), (9, z2), (11, z25), (13, (.p 103)), (14, (.p 104))], [(100, w28), (101, w33), (102, w53), (103, w54), (104, w33), (105, w14)]⟩
def f25c (k : Nat) : Con := ⟨⟨[(0, z12), (1, z4), (2, z2)], []⟩, ⟨[(0, z32), (1, z2)], []⟩, 3, 2, fun x => impl_HeadRead k x.1 x.2.1 x.2.2⟩
theorem f25ok (k : Nat) : FnOk Tryz.prog 25 (f25c k) := ok (cx [f37 k, f38 k, f39 k, f40i1 k, f41i2 k, f42 k, f43 k, f44i3 k] 100 nb) Tryz.f25 fun h x => Q (Q (Q (Q (Q (Q (Q (Q (Q (T (Q (Q (T (Q (X h) (K h f25d14 (fun x => impl_HeadRead.d14 k x.1.1 x.1.2.2.2.1 x.1.2.2.2.2.2.2.2 x.2.1 x.2.2.1 x.2.2.2.1 x.2.2.2.2.1 x.2.2.2.2.2.1 x.2.2.2.2.2.2.1 x.2.2.2.2.2.2.2) [[0, 1, 4, 2, 3, 5, 6, 7], [0, 1, 4, 5, 2, 3, 6, 7]] (O (fun x => by kernel_rfl) (O (fun x => by kernel_rfl) (N))))) f25s14 fun x => impl_HeadRead.c14 k x.1.1 x.1.2.2.2.1 x.1.2.2.2.2.2.2.2 x.2.1 x.2.2.1 x.2.2.2.1 x.2.2.2.2.1 x.2.2.2.2.2.1 x.2.2.2.2.2.2.1 x.2.2.2.2.2.2.2) (X h)) (X h)) f25s11 fun x => impl_HeadRead.c11 k x.1.1 x.1.2.2.2.1 x.2.1 x.2.2.1 x.2.2.2.1 x.2.2.2.2.1 x.2.2.2.2.2.1 x.2.2.2.2.2.2) (Q (X h) (K h f25d9 (fun x => impl_HeadRead.d9 k x.1.1 x.1.2.2.2.1 x.2.1 x.2.2.1 x.2.2.2.1 x.2.2.2.2.1 x.2.2.2.2.2.1 x.2.2.2.2.2.2) [[0, 2, 1, 3, 4], [0, 2, 3, 1, 4]] (O (fun x => by kernel_rfl) (O (fun x => by kernel_rfl) (N)))))) (X h)) (X h)) (X h)) (X h)) (X h)) (X h)) (X h)) (X h)
def f25 (k : Nat) : Fc Tryz.prog := ⟨25, _, f25ok k⟩
def f111s7 : SS := ⟨[(0, z2), (4, z2)], []⟩
def f111s2 : SS := ⟨[(0, z2), (4, z2)], []⟩
def f111c (k : Nat) : Con := ⟨⟨[(0, z2)], []⟩, ⟨[(0, z2)], []⟩, 1, 1, fun x => impl_crcNumber k x⟩
theorem f111ok (k : Nat) : FnOk Tryz.prog 111 (f111c k) := ok (cx [] 16 nb) Tryz.f111 fun h x => Q (Q (X h) (Q (B (L f111s2 (fun n x => impl_crcNumber.l2 k n x.1 x.2) k fun n2 => Q (Q (Q (T (X h) f111s7 fun x => impl_crcNumber.c7 k (impl_crcNumber.l2 k n2) x.1 x.2) (X h)) (X h)) (X h))) (X h))) (X h)
def f111 (k : Nat) : Fc Tryz.prog := ⟨111, _, f111ok k⟩
def f101s3 : SS := ⟨[(1, z7), (4, z2)], [(100, w14)]⟩
def f101c (k : Nat) : Con := ⟨⟨[], []⟩, ⟨[(0, z7)], [(100, w14)]⟩, 0, 1, fun x => impl_CrcTable k⟩
theorem f101ok (k : Nat) : FnOk Tryz.prog 101 (f101c k) := ok (cx [f111 k] 14 nb) Tryz.f101 fun h x => Q (Q (Q (X h) (Q (B (L f101s3 (fun n x => impl_CrcTable.l3 k n x.1.2 x.2) k fun n3 => X h)) (X h))) (X h)) (X h)
def f101 (k : Nat) : Fc Tryz.prog := ⟨101, _, f101ok k⟩
def f78s6 : SS := ⟨[(0, z2), (5, z7), (14, z4), (15, z2), (16, z2)], [(100, w14)]⟩
def f78c (k : Nat) : Con := ⟨⟨[(0, z2), (1, z4)], []⟩, ⟨[(0, z2)], []⟩, 2, 1, fun x => impl_CrcMore k x.1 x.2⟩
theorem f78ok (k : Nat) : FnOk Tryz.prog 78 (f78c k) := ok (cx [f57 k, f101 k] 34 nb) Tryz.f78 fun h x => Q (Q (Q (Q (Q (X h) (Q (B (L f78s6 (fun n x => impl_CrcMore.l6 k n x.1.1 x.1.2.2.1 x.1.2.2.2.1 x.1.2.2.2.2 x.2) k fun n6 => X h)) (X h))) (X h)) (X h)) (X h)) (X h)
def f78 (k : Nat) : Fc Tryz.prog := ⟨78, _, f78ok k⟩
def f55c (k : Nat) : Con := ⟨⟨[(0, z4)], []⟩, ⟨[(0, z2)], []⟩, 1, 1, fun x => impl_CrcOf k x⟩
theorem f55ok (k : Nat) : FnOk Tryz.prog 55 (f55c k) := ok (cx [f78 k] 5 nb) Tryz.f55 fun h x => X h
def f55 (k : Nat) : Fc Tryz.prog := ⟨55, _, f55ok k⟩
def f35d5 : SS := ⟨[(6, z15), (9, z23), (11, z4)], [(100, w33), (101, w33)]⟩
def f35c (k : Nat) : Con := ⟨⟨[(0, z12), (1, z4), (2, z2)], []⟩, ⟨[(0, z32), (1, z4), (2, z2)], []⟩, 3, 3, fun x => impl_checked k x.1 x.2.1 x.2.2⟩
theorem f35ok (k : Nat) : FnOk Tryz.prog 35 (f35c k) := ok (cx [f25 k, f55 k] 44 nb) Tryz.f35 fun h x => Q (Q (Q (Q (Q (X h) (Q (X h) (K h f35d5 (fun x => impl_checked.d5 k x.1.2.2 x.2.1 x.2.2) [[0, 1, 2, 3, 5, 4, 6, 7, 8], [0, 1, 2, 3, 5, 6, 4, 7, 8]] (O (fun x => by kernel_rfl) (O (fun x => by kernel_rfl) (N)))))) (X h)) (X h)) (X h)) (X h)
def f35 (k : Nat) : Fc Tryz.prog := ⟨35, _, f35ok k⟩
def f24c (k : Nat) : Con := ⟨⟨[(0, z2), (1, z4), (2, z2)], []⟩, ⟨[(0, z7), (1, z2), (2, z2)], [(100, w19)]⟩, 3, 3, fun x => impl_DictRead k x.1 x.2.1 x.2.2⟩
theorem f24ok (k : Nat) : FnOk Tryz.prog 24 (f24c k) := ok (cx [f35 k, f36 k] 75 nb) Tryz.f24 fun h x => X h
def f24 (k : Nat) : Fc Tryz.prog := ⟨24, _, f24ok k⟩
def f9s11 : SS := ⟨[(1, z4), (3, z15), (5, z23), (9, (.h 102)), (13, z34), (14, z2), (15, z2)], [(100, w28), (101, w35), (102, w19), (103, w14)]⟩
def f9s9 : SS := ⟨[(1, z4), (3, z15), (5, z23), (9, (.h 102))], [(100, w28), (101, w35), (102, w19)]⟩
def f9c (k : Nat) : Con := ⟨⟨[(0, z12), (1, z4), (2, (.ro y3))], []⟩, ⟨[(0, z7), (1, (.h 101)), (2, z2)], [(100, w14), (101, w19)]⟩, 3, 3, fun x => impl_ChunkPages k x.1 x.2.1 x.2.2⟩
theorem f9ok (k : Nat) : FnOk Tryz.prog 9 (f9c k) := ok (cx [f24 k, f25 k] 90 nb) Tryz.f9 fun h x => Q (Q (Q (Q (T (Q (Q (Q (X h) (B (L f9s11 (fun n x => impl_ChunkPages.l11 k n x.1.1 x.1.2.2.2.2.2.1 x.1.2.2.2.2.2.2 x.2.1 x.2.2.1 x.2.2.2.1 x.2.2.2.2) k fun n11 => X h))) (X h)) (X h)) f9s9 fun x => impl_ChunkPages.c9 k x.1.1 x.2.1 x.2.2.1 x.2.2.2) (X h)) (X h)) (X h)) (X h)
def f9 (k : Nat) : Fc Tryz.prog := ⟨9, _, f9ok k⟩
def f10s4 : SS := ⟨[(0, z1), (1, z1), (5, z2)], []⟩
def f10c (k : Nat) : Con := ⟨⟨[(0, z1), (1, z1)], []⟩, ⟨[(0, z5)], []⟩, 2, 1, fun x => laws_eqIntS k x.1 x.2⟩
theorem f10ok (k : Nat) : FnOk Tryz.prog 10 (f10c k) := ok (cx [] 26 nb) Tryz.f10 fun h x => Q (Q (Q (X h) (Q (B (L f10s4 (fun n x => laws_eqIntS.l4 k n x.1 x.2.1 x.2.2) k fun n4 => X h)) (X h))) (X h)) (X h)
def f10 (k : Nat) : Fc Tryz.prog := ⟨10, _, f10ok k⟩
def f26c (k : Nat) : Con := ⟨⟨[(0, z20), (1, z20)], []⟩, ⟨[(0, z5)], []⟩, 2, 1, fun x => laws_eqVal k x.1 x.2⟩
theorem f26ok (k : Nat) : FnOk Tryz.prog 26 (f26c k) := ok (cx [] 15 nb) Tryz.f26 fun h x => X h
def f26 (k : Nat) : Fc Tryz.prog := ⟨26, _, f26ok k⟩
def f11s4 : SS := ⟨[(0, z21), (1, z21), (5, z2)], []⟩
def f11c (k : Nat) : Con := ⟨⟨[(0, z21), (1, z21)], []⟩, ⟨[(0, z5)], []⟩, 2, 1, fun x => laws_eqValS k x.1 x.2⟩
theorem f11ok (k : Nat) : FnOk Tryz.prog 11 (f11c k) := ok (cx [f26 k] 27 nb) Tryz.f11 fun h x => Q (Q (Q (X h) (Q (B (L f11s4 (fun n x => laws_eqValS.l4 k n x.1 x.2.1 x.2.2) k fun n4 => X h)) (X h))) (X h)) (X h)
def f11 (k : Nat) : Fc Tryz.prog := ⟨11, _, f11ok k⟩
def f12s4 : SS := ⟨[(0, z4), (1, z4), (5, z2)], []⟩
def f12c (k : Nat) : Con := ⟨⟨[(0, z4), (1, z4)], []⟩, ⟨[(0, z5)], []⟩, 2, 1, fun x => laws_eqByteS k x.1 x.2⟩
theorem f12ok (k : Nat) : FnOk Tryz.prog 12 (f12c k) := ok (cx [] 26 nb) Tryz.f12 fun h x => Q (Q (Q (X h) (Q (B (L f12s4 (fun n x => laws_eqByteS.l4 k n x.1 x.2.1 x.2.2) k fun n4 => X h)) (X h))) (X h)) (X h)
def f12 (k : Nat) : Fc Tryz.prog := ⟨12, _, f12ok k⟩
def f13c (k : Nat) : Con := ⟨⟨[(0, (.ro y3)), (1, (.ro y3))], []⟩, ⟨[(0, z5)], []⟩, 2, 1, fun x => laws_eqChunk k x.1 x.2⟩
theorem f13ok (k : Nat) : FnOk Tryz.prog 13 (f13c k) := ok (cx [f10 k] 36 nb) Tryz.f13 fun h x => X h
def f13 (k : Nat) : Fc Tryz.prog := ⟨13, _, f13ok k⟩
def f14s2 : SS := ⟨[(0, (.h 10)), (1, z2), (5, z2)], [(10, w22)]⟩
def f14c (k : Nat) : Con := ⟨⟨[(0, (.h 10)), (1, z2)], [(10, w22)]⟩, ⟨[(0, z2)], [(10, w22)]⟩, 2, 1, fun x => laws_markByteS k x.1.2 x.2⟩
theorem f14ok (k : Nat) : FnOk Tryz.prog 14 (f14c k) := ok (cx [] 20 nb) Tryz.f14 fun h x => Q (Q (X h) (Q (B (L f14s2 (fun n x => laws_markByteS.l2 k n x.1.2.1 x.1.2.2 x.2) k fun n2 => X h)) (X h))) (X h)
def f14 (k : Nat) : Fc Tryz.prog := ⟨14, _, f14ok k⟩
def f16s2 : SS := ⟨[(0, (.h 10)), (1, z2), (5, z2)], [(10, w14)]⟩
def f16c (k : Nat) : Con := ⟨⟨[(0, (.h 10)), (1, z2)], [(10, w14)]⟩, ⟨[(0, z2)], [(10, w14)]⟩, 2, 1, fun x => laws_markIntS k x.1.2 x.2⟩
theorem f16ok (k : Nat) : FnOk Tryz.prog 16 (f16c k) := ok (cx [] 19 nb) Tryz.f16 fun h x => Q (Q (X h) (Q (B (L f16s2 (fun n x => laws_markIntS.l2 k n x.1.2.1 x.1.2.2 x.2) k fun n2 => X h)) (X h))) (X h)
def f16 (k : Nat) : Fc Tryz.prog := ⟨16, _, f16ok k⟩
def f15c (k : Nat) : Con := ⟨⟨[(0, (.agg (.cons z2 (.cons z2 (.cons z2 (.cons z2 (.cons z2 (.cons (.h 10) .nil)))))))), (1, z2)], [(10, w14)]⟩, ⟨[(0, z2)], [(10, w14)]⟩, 2, 1, fun x => laws_markChunk k x.1.1 x.1.2 x.2⟩
theorem f15ok (k : Nat) : FnOk Tryz.prog 15 (f15c k) := ok (cx [f16 k] 10 nb) Tryz.f15 fun h x => X h
def f15 (k : Nat) : Fc Tryz.prog := ⟨15, _, f15ok k⟩
def f27s4 : SS := ⟨[(0, z2), (3, z6)], []⟩
def f27c (k : Nat) : Con := ⟨⟨[(0, z2)], []⟩, ⟨[(0, z6)], []⟩, 1, 1, fun x => laws_markText k x⟩
theorem f27ok (k : Nat) : FnOk Tryz.prog 27 (f27c k) := ok (cx [] 20 nb) Tryz.f27 fun h x => Q (Q (Q (Q (X h) (B (L f27s4 (fun n x => laws_markText.l4 k n x.1 x.2) k fun n4 => X h))) (X h)) (X h)) (X h)
def f27 (k : Nat) : Fc Tryz.prog := ⟨27, _, f27ok k⟩
def f17s2 : SS := ⟨[(0, (.h 10)), (1, z2), (5, z2)], [(10, w19)]⟩
def f17c (k : Nat) : Con := ⟨⟨[(0, (.h 10)), (1, z2)], [(10, w19)]⟩, ⟨[(0, z2)], [(10, w19)]⟩, 2, 1, fun x => laws_markValS k x.1.2 x.2⟩
theorem f17ok (k : Nat) : FnOk Tryz.prog 17 (f17c k) := ok (cx [f27 k] 28 nb) Tryz.f17 fun h x => Q (Q (X h) (Q (B (L f17s2 (fun n x => laws_markValS.l2 k n x.1.2.1 x.1.2.2 x.2) k fun n2 => X h)) (X h))) (X h)
def f17 (k : Nat) : Fc Tryz.prog := ⟨17, _, f17ok k⟩
def f18s2 : SS := ⟨[(0, z1), (1, z2), (5, z2)], []⟩
def f18c (k : Nat) : Con := ⟨⟨[(0, z1), (1, z2)], []⟩, ⟨[(0, z2)], []⟩, 2, 1, fun x => laws_heldIntS k x.1 x.2⟩
theorem f18ok (k : Nat) : FnOk Tryz.prog 18 (f18c k) := ok (cx [] 21 nb) Tryz.f18 fun h x => Q (Q (X h) (Q (B (L f18s2 (fun n x => laws_heldIntS.l2 k n x.1 x.2.1 x.2.2) k fun n2 => X h)) (X h))) (X h)
def f18 (k : Nat) : Fc Tryz.prog := ⟨18, _, f18ok k⟩
def f19d7 : SS := ⟨[(0, z21), (1, z2), (5, z2)], []⟩
def f19s2 : SS := ⟨[(0, z21), (1, z2), (5, z2)], []⟩
def f19c (k : Nat) : Con := ⟨⟨[(0, z21), (1, z2)], []⟩, ⟨[(0, z2)], []⟩, 2, 1, fun x => laws_heldValS k x.1 x.2⟩
theorem f19ok (k : Nat) : FnOk Tryz.prog 19 (f19c k) := ok (cx [f27 k] 32 nb) Tryz.f19 fun h x => Q (Q (X h) (Q (B (L f19s2 (fun n x => laws_heldValS.l2 k n x.1 x.2.1 x.2.2) k fun n2 => Q (Q (X h) (B (Q (Q (Q (X h) (Q (X h) (K h f19d7 (fun x => laws_heldValS.d7 k (laws_heldValS.l2 k n2) x.1 x.2.1 x.2.2) [[0, 1, 2, 3, 5, 4, 6, 7], [0, 1, 2, 3, 5, 6, 4, 7]] (O (fun x => by kernel_rfl) (O (fun x => by kernel_rfl) (N)))))) (X h)) (X h)))) (X h))) (X h))) (X h)
def f19 (k : Nat) : Fc Tryz.prog := ⟨19, _, f19ok k⟩
def f3d34 : SS := ⟨[(1, z4), (3, z15), (5, z23), (8, (.h 102)), (9, z34), (10, z2), (13, (.h 104)), (14, (.h 105)), (17, z2)], [(100, w28), (101, w35), (102, w14), (103, w19), (104, w14), (105, w19)]⟩
def f3d15 : SS := ⟨[(1, z4), (3, z15), (5, z23), (8, (.h 102)), (9, z34), (10, z2), (11, (.h 104)), (12, (.p 105)), (13, (.h 106)), (14, (.h 107)), (15, z2)], [(100, w28), (101, w35), (102, w14), (103, w19), (104, w22), (105, (.box y3 (.agg (.cons z2 (.cons z2 (.cons z2 (.cons z2 (.cons z2 (.cons (.h 108) .nil))))))))), (106, w14), (107, w19), (108, w14)]⟩
def f3d10 : SS := ⟨[(1, z4), (3, z15), (5, z23), (8, (.h 102)), (9, z34), (10, z2), (11, (.h 104)), (12, (.p 105))], [(100, w28), (101, w35), (102, w14), (103, w19), (104, w22), (105, (.box y3 (.agg (.cons z2 (.cons z2 (.cons z2 (.cons z2 (.cons z2 (.cons (.h 106) .nil))))))))), (106, w14)]⟩
def f3d7 : SS := ⟨[(1, z4), (3, z15), (5, z23)], [(100, w28), (101, w35)]⟩
def f3c (k : Nat) : Con := ⟨⟨[(0, z12), (1, z4), (2, (.ro y3))], []⟩, ⟨[(0, z5)], []⟩, 3, 1, fun x => laws_FnExactChunkPages k x.1 x.2.1 x.2.2⟩
theorem f3ok (k : Nat) : FnOk Tryz.prog 3 (f3c k) := ok (cx [f4 k, f5 k, f6 k, f7 k, f8 k, f9 k, f10 k, f11 k, f12 k, f13 k, f14 k, f15 k, f16 k, f17 k, f18 k, f19 k] 162 nb) Tryz.f3 fun h x => Q (Q (Q (Q (Q (Q (Q (Q (Q (Q (Q (Q (Q (Q (Q (Q (Q (Q (Q (Q (Q (Q (Q (Q (Q (Q (X h) (K h f3d34 (fun x => laws_FnExactChunkPages.d34 k x.1.1 x.1.2.2.2.2.2.1 x.1.2.2.2.2.2.2.2.2 x.2.1 x.2.2.1 x.2.2.2.1 x.2.2.2.2.1 x.2.2.2.2.2.1 x.2.2.2.2.2.2) [[2, 0, 1, 3, 4, 5, 6, 7, 8, 9, 10, 11, 12, 13], [2, 0, 1, 4, 3, 5, 6, 7, 8, 9, 10, 11, 12, 13], [2, 0, 4, 1, 3, 5, 6, 7, 8, 9, 10, 11, 12, 13], [2, 4, 0, 1, 3, 5, 6, 7, 8, 9, 10, 11, 12, 13]] (O (fun x => by kernel_rfl) (O (fun x => by kernel_rfl) (O (fun x => by kernel_rfl) (O (fun x => by kernel_rfl) (N))))))) (X h)) (X h)) (X h)) (X h)) (X h)) (X h)) (X h)) (X h)) (X h)) (X h)) (X h)) (X h)) (X h)) (Q (X h) (K h f3d15 (fun x => laws_FnExactChunkPages.d15 k x.1.1 x.1.2.2.2.2.2.1 x.1.2.2.2.2.2.2.2.2.2.2 x.2.1 x.2.2.1 x.2.2.2.1 x.2.2.2.2.1 x.2.2.2.2.2.1 x.2.2.2.2.2.2.1 x.2.2.2.2.2.2.2.1 x.2.2.2.2.2.2.2.2.1 x.2.2.2.2.2.2.2.2.2) [[0, 1, 2, 3, 4], [1, 0, 2, 3, 4], [1, 2, 0, 3, 4]] (O (fun x => by kernel_rfl) (O (fun x => by kernel_rfl) (O (fun x => by kernel_rfl) (N))))))) (X h)) (X h)) (K h f3d10 (fun x => laws_FnExactChunkPages.d10 k x.1.1 x.1.2.2.2.2.2.1 x.2.1 x.2.2.1 x.2.2.2.1 x.2.2.2.2.1 x.2.2.2.2.2.1 x.2.2.2.2.2.2.1 x.2.2.2.2.2.2.2) [[2, 0, 1, 3, 4, 5, 6, 7, 8, 9, 10, 11], [2, 0, 3, 1, 4, 5, 6, 7, 8, 9, 10, 11], [2, 3, 0, 1, 4, 5, 6, 7, 8, 9, 10, 11]] (O (fun x => by kernel_rfl) (O (fun x => by kernel_rfl) (O (fun x => by kernel_rfl) (N)))))) (X h)) (X h)) (K h f3d7 (fun x => laws_FnExactChunkPages.d7 k x.1.1 x.2.1 x.2.2) [[2, 0, 1, 3, 4, 5, 6, 7, 8, 9, 10, 11, 12, 13], [2, 0, 1, 4, 3, 5, 6, 7, 8, 9, 10, 11, 12, 13], [2, 0, 4, 1, 3, 5, 6, 7, 8, 9, 10, 11, 12, 13], [2, 4, 0, 1, 3, 5, 6, 7, 8, 9, 10, 11, 12, 13]] (O (fun x => by kernel_rfl) (O (fun x => by kernel_rfl) (O (fun x => by kernel_rfl) (O (fun x => by kernel_rfl) (N))))))) (X h)) (X h)) (X h)) (X h)) (X h)
def f3 (k : Nat) : Fc Tryz.prog := ⟨3, _, f3ok k⟩

end Go.Proofs.YtabocefniklbpaaGreat
