/- The walks, printed by program. -/
import Derived.Test.YtabocefniklbpaaBase
import Derived.Test.YtabocefniklbpaaEENF0
set_option linter.unusedVariables false
set_option maxRecDepth 100000
namespace Go.Proofs.Ytabocefniklbpaa
open Go.Am Go.Am.W Go.Fn

abbrev y0 : Ty := .int .i64
abbrev y1 : Ty := .st (.cons y0 (.cons .str .nil))
abbrev z2 : CS := .ro y0
abbrev z3 : CS := .ro (.list 70 y1)
abbrev z4 : CS := .ro .bool
abbrev z5 : CS := .ro (.list 5 (.int .u8))
abbrev z6 : CS := .h 100
abbrev w7 : OS := .sl 3 y0
abbrev z8 : CS := .agg (.cons z2 (.cons (.ro .str) .nil))
abbrev w9 : OS := .sl 56 y1
abbrev z10 : CS := .h 101
abbrev z11 : CS := .ro (.list 3 y0)
abbrev z12 : CS := .ro (.list 56 y1)
abbrev w13 : OS := .sl 5 (.int .u8)
abbrev z14 : CS := .ro (.int .u64)
abbrev y15 : Ty := .st (.cons (.list 5 (.int .u8)) (.cons y0 (.cons .bool (.cons (.list 3 y0) .nil))))
abbrev w16 : OS := .box y15 (.agg (.cons z5 (.cons z2 (.cons z4 (.cons (.h 10) .nil)))))
abbrev w17 : OS := .box y15 (.agg (.cons z5 (.cons z2 (.cons z4 (.cons z10 .nil)))))
def f26c (k : Nat) : Con := ⟨⟨[(0, (.ro y1)), (1, z2)], []⟩, ⟨[(0, z2)], []⟩, 2, 1, fun x => laws_szVal k x.1 x.2⟩
theorem f26ok (k : Nat) : FnOk Try.prog 26 (f26c k) := ok (cx [] 13 nb) Try.f26 fun h x => X h
def f26 (k : Nat) : Fc Try.prog := ⟨26, _, f26ok k⟩
def f5s5 : SS := ⟨[(0, z3), (1, z2), (5, z2)], []⟩
def f5c (k : Nat) : Con := ⟨⟨[(0, z3), (1, z2)], []⟩, ⟨[(0, z2)], []⟩, 2, 1, fun x => laws_szValS k x.1 x.2⟩
theorem f5ok (k : Nat) : FnOk Try.prog 5 (f5c k) := ok (cx [f26 k] 27 nb) Try.f5 fun h x => Q (Q (Q (Q (X h) (Q (B (L f5s5 (fun n x => laws_szValS.l5 k n x.1 x.2.1 x.2.2) k fun n5 => X h)) (X h))) (X h)) (X h)) (X h)
def f5 (k : Nat) : Fc Try.prog := ⟨5, _, f5ok k⟩
def f63s7 : SS := ⟨[(4, z4)], []⟩
def f63c (k : Nat) : Con := ⟨⟨[(0, z2)], []⟩, ⟨[(0, z4)], []⟩, 1, 1, fun x => spec_l5Type k x⟩
theorem f63ok (k : Nat) : FnOk Try.prog 63 (f63c k) := ok (cx [] 10 nb) Try.f63 fun h x => Q (Q (X h) (Q (B (Q (T (X h) f63s7 fun x => spec_l5Type.c7 k x) (X h))) (X h))) (X h)
def f63 (k : Nat) : Fc Try.prog := ⟨63, _, f63ok k⟩
def f64s6 : SS := ⟨[(6, z4)], []⟩
def f64c (k : Nat) : Con := ⟨⟨[(0, z2)], []⟩, ⟨[(0, z2)], []⟩, 1, 1, fun x => spec_SplitWide k x⟩
theorem f64ok (k : Nat) : FnOk Try.prog 64 (f64c k) := ok (cx [] 9 nb) Try.f64 fun h x => Q (Q (X h) (Q (B (Q (D (X h) (Q (T (X h) f64s6 fun x => spec_SplitWide.c6 k x) (X h))) (X h))) (X h))) (X h)
def f64 (k : Nat) : Fc Try.prog := ⟨64, _, f64ok k⟩
def f27s13 : SS := ⟨[(1, z2), (8, z2), (24, z4)], []⟩
def f27s6 : SS := ⟨[(1, z2), (8, z2), (9, z4)], []⟩
def f27c (k : Nat) : Con := ⟨⟨[(0, z2), (1, z2)], []⟩, ⟨[(0, z4)], []⟩, 2, 1, fun x => spec_EncOk k x.1 x.2⟩
theorem f27ok (k : Nat) : FnOk Try.prog 27 (f27c k) := ok (cx [f63 k, f64 k] 34 nb) Try.f27 fun h x => Q (Q (Q (X h) (Q (B (Q (T (D (X h) (Q (D (X h) (Q (D (X h) (Q (T (X h) f27s13 fun x => spec_EncOk.c13 k x.1 x.2.1 x.2.2) (X h))) (X h))) (X h))) f27s6 fun x => spec_EncOk.c6 k x.1 x.2.1 x.2.2) (X h))) (X h))) (X h)) (X h)
def f27 (k : Nat) : Fc Try.prog := ⟨27, _, f27ok k⟩
def f28c (k : Nat) : Con := ⟨⟨[(0, z2), (1, z2), (2, z2)], []⟩, ⟨[(0, z4)], []⟩, 3, 1, fun x => spec_l1In k x.1 x.2.1 x.2.2⟩
theorem f28ok (k : Nat) : FnOk Try.prog 28 (f28c k) := ok (cx [] 15 nb) Try.f28 fun h x => X h
def f28 (k : Nat) : Fc Try.prog := ⟨28, _, f28ok k⟩
def f121c (k : Nat) : Con := ⟨⟨[(0, z2), (1, z2)], []⟩, ⟨[(0, z2)], []⟩, 2, 1, fun x => spec_BitsSize k x.1 x.2⟩
theorem f121ok (k : Nat) : FnOk Try.prog 121 (f121c k) := ok (cx [f28 k] 18 nb) Try.f121 fun h x => X h
def f121 (k : Nat) : Fc Try.prog := ⟨121, _, f121ok k⟩
def f122c (k : Nat) : Con := ⟨⟨[(0, z5), (1, z2)], []⟩, ⟨[(0, z2)], []⟩, 2, 1, fun x => spec_l1Bit k x.1 x.2⟩
theorem f122ok (k : Nat) : FnOk Try.prog 122 (f122c k) := ok (cx [] 15 nb) Try.f122 fun h x => X h
def f122 (k : Nat) : Fc Try.prog := ⟨122, _, f122ok k⟩
def f116s10 : SS := ⟨[(0, z5), (1, z2), (2, z2), (3, z2), (11, z6), (12, z2), (13, z2), (14, z2), (15, z2)], [(100, w7)]⟩
def f116s6 : SS := ⟨[(0, z5), (1, z2), (2, z2), (3, z2), (11, z6), (12, z2), (13, z2)], [(100, w7)]⟩
def f116c (k : Nat) : Con := ⟨⟨[(0, z5), (1, z2), (2, z2), (3, z2)], []⟩, ⟨[(0, z6), (1, z2), (2, z4)], [(100, w7)]⟩, 4, 3, fun x => spec_BitsRead k x.1 x.2.1 x.2.2.1 x.2.2.2⟩
theorem f116ok (k : Nat) : FnOk Try.prog 116 (f116c k) := ok (cx [f28 k, f121 k, f122 k] 70 nb) Try.f116 fun h x => Q (Q (Q (Q (Q (X h) (Q (B (L f116s6 (fun n x => spec_BitsRead.l6 k n x.1.1 x.1.2.1 x.1.2.2.1 x.1.2.2.2.1 x.1.2.2.2.2.2.1 x.1.2.2.2.2.2.2 x.2) k fun n6 => Q (Q (X h) (B (Q (Q (X h) (Q (B (L f116s10 (fun n x => spec_BitsRead.l10 k (spec_BitsRead.l6 k n6) n x.1.1 x.1.2.1 x.1.2.2.1 x.1.2.2.2.1 x.1.2.2.2.2.2.1 x.1.2.2.2.2.2.2.1 x.1.2.2.2.2.2.2.2.1 x.1.2.2.2.2.2.2.2.2 x.2) k fun n10 => X h)) (X h))) (X h)))) (X h))) (X h))) (X h)) (X h)) (X h)) (X h)
def f116 (k : Nat) : Fc Try.prog := ⟨116, _, f116ok k⟩
def f66s5 : SS := ⟨[(0, z5), (1, z2), (2, z2), (9, z2), (10, z2)], []⟩
def f66c (k : Nat) : Con := ⟨⟨[(0, z5), (1, z2), (2, z2)], []⟩, ⟨[(0, z2), (1, z2), (2, z4)], []⟩, 3, 3, fun x => spec_WordGet k x.1 x.2.1 x.2.2⟩
theorem f66ok (k : Nat) : FnOk Try.prog 66 (f66c k) := ok (cx [f28 k] 53 nb) Try.f66 fun h x => Q (Q (Q (Q (X h) (Q (B (L f66s5 (fun n x => spec_WordGet.l5 k n x.1 x.2.1 x.2.2.1 x.2.2.2.1 x.2.2.2.2) k fun n5 => X h)) (X h))) (X h)) (X h)) (X h)
def f66 (k : Nat) : Fc Try.prog := ⟨66, _, f66ok k⟩
def f117s6 : SS := ⟨[(6, (.p 100)), (9, z2), (10, z2), (11, z4)], [(100, (.box y1 z8))]⟩
def f117c (k : Nat) : Con := ⟨⟨[(0, z2), (1, z5), (2, z2)], []⟩, ⟨[(0, z8), (1, z2), (2, z4)], []⟩, 3, 3, fun x => spec_l7One k x.1 x.2.1 x.2.2⟩
theorem f117ok (k : Nat) : FnOk Try.prog 117 (f117c k) := ok (cx [f66 k] 82 nb) Try.f117 fun h x => Q (Q (X h) (Q (B (Q (D (Q (Q (T (X h) f117s6 fun x => spec_l7One.c6 k x.1.2.1 x.1.2.2.1 x.1.2.2.2 x.2) (X h)) (X h)) (X h)) (X h))) (X h))) (X h)
def f117 (k : Nat) : Fc Try.prog := ⟨117, _, f117ok k⟩
def f65s12 : SS := ⟨[(0, z2), (1, z5), (2, z2), (3, z2), (11, z6), (16, z2)], [(100, w9)]⟩
def f65s7 : SS := ⟨[(11, z6), (12, z10), (13, z2), (14, z4), (15, z2)], [(100, w9), (101, w7)]⟩
def f65c (k : Nat) : Con := ⟨⟨[(0, z2), (1, z5), (2, z2), (3, z2)], []⟩, ⟨[(0, z6), (1, z2), (2, z4)], [(100, w9)]⟩, 4, 3, fun x => spec_PlainRead k x.1 x.2.1 x.2.2.1 x.2.2.2⟩
theorem f65ok (k : Nat) : FnOk Try.prog 65 (f65c k) := ok (cx [f28 k, f63 k, f116 k, f117 k] 87 nb) Try.f65 fun h x => Q (Q (Q (Q (Q (X h) (Q (B (L f65s12 (fun n x => spec_PlainRead.l12 k n x.1.1 x.1.2.1 x.1.2.2.1 x.1.2.2.2.1 x.1.2.2.2.2.2 x.2) k fun n12 => X h)) (X h))) (Q (D (Q (Q (X h) (Q (B (L f65s7 (fun n x => spec_PlainRead.l7 k n x.1.2.2.1 x.1.2.2.2.1 x.1.2.2.2.2 x.2.1 x.2.2) k fun n7 => X h)) (X h))) (X h)) (X h)) (X h))) (X h)) (X h)) (X h)
def f65 (k : Nat) : Fc Try.prog := ⟨65, _, f65ok k⟩
def f118c (k : Nat) : Con := ⟨⟨[(0, z2)], []⟩, ⟨[(0, z4)], []⟩, 1, 1, fun x => spec_l8Width k x⟩
theorem f118ok (k : Nat) : FnOk Try.prog 118 (f118c k) := ok (cx [f28 k] 5 nb) Try.f118 fun h x => X h
def f118 (k : Nat) : Fc Try.prog := ⟨118, _, f118ok k⟩
def f119s5 : SS := ⟨[(0, z5), (1, z2), (7, z2), (8, z2)], []⟩
def f119c (k : Nat) : Con := ⟨⟨[(0, z5), (1, z2)], []⟩, ⟨[(0, z2), (1, z2), (2, z4)], []⟩, 2, 3, fun x => spec_UvarGet k x.1 x.2⟩
theorem f119ok (k : Nat) : FnOk Try.prog 119 (f119c k) := ok (cx [] 57 nb) Try.f119 fun h x => Q (Q (Q (Q (X h) (Q (B (L f119s5 (fun n x => spec_UvarGet.l5 k n x.1 x.2.1 x.2.2.1 x.2.2.2) k fun n5 => X h)) (X h))) (X h)) (X h)) (X h)
def f119 (k : Nat) : Fc Try.prog := ⟨119, _, f119ok k⟩
def f120c (k : Nat) : Con := ⟨⟨[(0, z2), (1, z2)], []⟩, ⟨[(0, z2)], []⟩, 2, 1, fun x => spec_l2Down k x.1 x.2⟩
theorem f120ok (k : Nat) : FnOk Try.prog 120 (f120c k) := ok (cx [] 16 nb) Try.f120 fun h x => X h
def f120 (k : Nat) : Fc Try.prog := ⟨120, _, f120ok k⟩
def f67s29 : SS := ⟨[(0, z5), (2, z2), (3, z2), (11, z6), (13, z2), (15, z2), (21, z2), (22, z2), (23, z2)], [(100, w7)]⟩
def f67s25 : SS := ⟨[(0, z5), (2, z2), (3, z2), (11, z6), (13, z2), (15, z2), (21, z2)], [(100, w7)]⟩
def f67s18 : SS := ⟨[(0, z5), (2, z2), (3, z2), (11, z6), (13, z2), (15, z2), (16, z2), (20, z2)], [(100, w7)]⟩
def f67s17 : SS := ⟨[(0, z5), (2, z2), (3, z2), (11, z6), (13, z2), (15, z2), (16, z2)], [(100, w7)]⟩
def f67s4 : SS := ⟨[(0, z5), (1, z2), (2, z2), (3, z2), (11, z6)], [(100, w7)]⟩
def f67c (k : Nat) : Con := ⟨⟨[(0, z5), (1, z2), (2, z2), (3, z2)], []⟩, ⟨[(0, z6), (1, z2), (2, z4)], [(100, w7)]⟩, 4, 3, fun x => spec_RunRead k x.1 x.2.1 x.2.2.1 x.2.2.2⟩
theorem f67ok (k : Nat) : FnOk Try.prog 67 (f67c k) := ok (cx [f28 k, f66 k, f118 k, f119 k, f120 k, f121 k, f122 k] 153 nb) Try.f67 fun h x => Q (Q (Q (Q (X h) (B (L f67s4 (fun n x => spec_RunRead.l4 k n x.1.1 x.1.2.1 x.1.2.2.1 x.1.2.2.2.1 x.2) k fun n4 => Q (B (Q (Q (Q (Q (Q (Q (X h) (Q (B (L f67s25 (fun n x => spec_RunRead.l25 k (spec_RunRead.l4 k n4) n x.1.1 x.1.2.1 x.1.2.2.1 x.1.2.2.2.2.1 x.1.2.2.2.2.2.1 x.1.2.2.2.2.2.2 x.2) k fun n25 => Q (Q (X h) (B (Q (Q (X h) (Q (B (L f67s29 (fun n x => spec_RunRead.l29 k (spec_RunRead.l25 k (spec_RunRead.l4 k n4) n25) n x.1.1 x.1.2.1 x.1.2.2.1 x.1.2.2.2.2.1 x.1.2.2.2.2.2.1 x.1.2.2.2.2.2.2.1 x.1.2.2.2.2.2.2.2.1 x.1.2.2.2.2.2.2.2.2 x.2) k fun n29 => X h)) (X h))) (X h)))) (X h))) (X h))) (X h)) (Q (D (Q (Q (T (Q (X h) (Q (B (L f67s18 (fun n x => spec_RunRead.l18 k (spec_RunRead.l4 k n4) n x.1.1 x.1.2.1 x.1.2.2.1 x.1.2.2.2.2.1 x.1.2.2.2.2.2.1 x.1.2.2.2.2.2.2.1 x.1.2.2.2.2.2.2.2 x.2) k fun n18 => X h)) (X h))) f67s17 fun x => spec_RunRead.c17 k (spec_RunRead.l4 k n4) x.1.1 x.1.2.1 x.1.2.2.1 x.1.2.2.2.2.1 x.1.2.2.2.2.2.1 x.1.2.2.2.2.2.2 x.2) (X h)) (X h)) (X h)) (X h))) (X h)) (X h)) (X h))) (X h)))) (X h)) (X h)) (X h)
def f67 (k : Nat) : Fc Try.prog := ⟨67, _, f67ok k⟩
def f68s3 : SS := ⟨[(0, z11), (3, z6), (4, z2)], [(100, w9)]⟩
def f68c (k : Nat) : Con := ⟨⟨[(0, z11)], []⟩, ⟨[(0, z6)], [(100, w9)]⟩, 1, 1, fun x => spec_l16Vals k x⟩
theorem f68ok (k : Nat) : FnOk Try.prog 68 (f68c k) := ok (cx [] 21 nb) Try.f68 fun h x => Q (Q (Q (X h) (Q (B (L f68s3 (fun n x => spec_l16Vals.l3 k n x.1.1 x.1.2.2 x.2) k fun n3 => X h)) (X h))) (X h)) (X h)
def f68 (k : Nat) : Fc Try.prog := ⟨68, _, f68ok k⟩
def f155c (k : Nat) : Con := ⟨⟨[(0, z2)], []⟩, ⟨[(0, z2)], []⟩, 1, 1, fun x => spec_Zag k x⟩
theorem f155ok (k : Nat) : FnOk Try.prog 155 (f155c k) := ok (cx [f120 k] 11 nb) Try.f155 fun h x => X h
def f155 (k : Nat) : Fc Try.prog := ⟨155, _, f155ok k⟩
def f123c (k : Nat) : Con := ⟨⟨[(0, z5), (1, z2)], []⟩, ⟨[(0, z2), (1, z2), (2, z4)], []⟩, 2, 3, fun x => spec_ZigGet k x.1 x.2⟩
theorem f123ok (k : Nat) : FnOk Try.prog 123 (f123c k) := ok (cx [f119 k, f155 k] 22 nb) Try.f123 fun h x => X h
def f123 (k : Nat) : Fc Try.prog := ⟨123, _, f123ok k⟩
def f124s9 : SS := ⟨[(0, z5), (1, z2), (2, z2), (3, z2), (11, z6), (12, z2), (13, z2), (14, z2)], [(100, w7)]⟩
def f124s5 : SS := ⟨[(0, z5), (1, z2), (2, z2), (3, z2), (11, z6), (12, z2)], [(100, w7)]⟩
def f124c (k : Nat) : Con := ⟨⟨[(0, z5), (1, z2), (2, z2), (3, z2)], []⟩, ⟨[(0, z6), (1, z2), (2, z4)], [(100, w7)]⟩, 4, 3, fun x => spec_l9Mini k x.1 x.2.1 x.2.2.1 x.2.2.2⟩
theorem f124ok (k : Nat) : FnOk Try.prog 124 (f124c k) := ok (cx [f122 k] 65 nb) Try.f124 fun h x => Q (Q (Q (Q (X h) (Q (B (L f124s5 (fun n x => spec_l9Mini.l5 k n x.1.1 x.1.2.1 x.1.2.2.1 x.1.2.2.2.1 x.1.2.2.2.2.2 x.2) k fun n5 => Q (Q (X h) (B (Q (Q (X h) (Q (B (L f124s9 (fun n x => spec_l9Mini.l9 k (spec_l9Mini.l5 k n5) n x.1.1 x.1.2.1 x.1.2.2.1 x.1.2.2.2.1 x.1.2.2.2.2.2.1 x.1.2.2.2.2.2.2.1 x.1.2.2.2.2.2.2.2 x.2) k fun n9 => X h)) (X h))) (X h)))) (X h))) (X h))) (X h)) (X h)) (X h)
def f124 (k : Nat) : Fc Try.prog := ⟨124, _, f124ok k⟩
def f69d28 : SS := ⟨[(0, z5), (1, z2), (7, z6), (8, z2), (10, z2), (12, z2), (16, z10), (17, z2), (18, z2), (20, z2), (21, (.h 102)), (24, z2)], [(100, w7), (101, w7), (102, w7)]⟩
def f69s26 : SS := ⟨[(0, z5), (1, z2), (7, z6), (8, z2), (10, z2), (12, z2), (16, z10), (17, z2), (18, z2), (20, z2), (21, (.h 102)), (24, z2)], [(100, w7), (101, w7), (102, w7)]⟩
def f69s19 : SS := ⟨[(0, z5), (1, z2), (7, z6), (8, z2), (10, z2), (12, z2), (16, z10), (17, z2), (18, z2), (20, z2)], [(100, w7), (101, w7)]⟩
def f69s13 : SS := ⟨[(0, z5), (1, z2), (7, z6), (8, z2), (10, z2), (12, z2), (16, z10)], [(100, w7), (101, w7)]⟩
def f69c (k : Nat) : Con := ⟨⟨[(0, z5), (1, z2)], []⟩, ⟨[(0, z6), (1, z2), (2, z4)], [(100, w7)]⟩, 2, 3, fun x => spec_DeltaRead k x.1 x.2⟩
theorem f69ok (k : Nat) : FnOk Try.prog 69 (f69c k) := ok (cx [f28 k, f119 k, f123 k, f124 k] 203 nb) Try.f69 fun h x => Q (Q (Q (Q (Q (Q (Q (Q (Q (Q (Q (X h) (B (L f69s13 (fun n x => spec_DeltaRead.l13 k n x.1.1 x.1.2.1 x.1.2.2.2.1 x.1.2.2.2.2.1 x.1.2.2.2.2.2.1 x.2.1 x.2.2) k fun n13 => Q (B (Q (Q (Q (Q (B (L f69s19 (fun n x => spec_DeltaRead.l19 k (spec_DeltaRead.l13 k n13) n x.1.1 x.1.2.1 x.1.2.2.2.1 x.1.2.2.2.2.1 x.1.2.2.2.2.2.1 x.1.2.2.2.2.2.2.2.1 x.1.2.2.2.2.2.2.2.2.1 x.1.2.2.2.2.2.2.2.2.2 x.2.1 x.2.2) k fun n19 => Q (Q (X h) (B (Q (Q (Q (Q (B (L f69s26 (fun n x => spec_DeltaRead.l26 k (spec_DeltaRead.l19 k (spec_DeltaRead.l13 k n13) n19) n x.1.1 x.1.2.1 x.1.2.2.2.1 x.1.2.2.2.2.1 x.1.2.2.2.2.2.1 x.1.2.2.2.2.2.2.2.1 x.1.2.2.2.2.2.2.2.2.1 x.1.2.2.2.2.2.2.2.2.2.1 x.1.2.2.2.2.2.2.2.2.2.2.2 x.2.1 x.2.2.1 x.2.2.2) k fun n26 => Q (Q (X h) (B (K h f69d28 (fun x => spec_DeltaRead.d28 k (spec_DeltaRead.l26 k (spec_DeltaRead.l19 k (spec_DeltaRead.l13 k n13) n19) n26) x.1.1 x.1.2.1 x.1.2.2.2.1 x.1.2.2.2.2.1 x.1.2.2.2.2.2.1 x.1.2.2.2.2.2.2.2.1 x.1.2.2.2.2.2.2.2.2.1 x.1.2.2.2.2.2.2.2.2.2.1 x.1.2.2.2.2.2.2.2.2.2.2.2 x.2.1 x.2.2.1 x.2.2.2) [[0, 1, 2, 3, 4, 5, 7, 8, 9, 12, 6, 10, 11, 13, 14, 15, 16], [0, 1, 2, 3, 4, 5, 7, 8, 9, 12, 10, 6, 11, 13, 14, 15, 16]] (O (fun x => by kernel_rfl) (O (fun x => by kernel_rfl) (N)))))) (X h))) (X h)) (X h)) (X h)) (X h)))) (X h))) (X h)) (X h)) (X h)) (X h))) (X h)))) (X h)) (X h)) (X h)) (X h)) (X h)) (X h)) (X h)) (X h)) (X h)) (X h)
def f69 (k : Nat) : Fc Try.prog := ⟨69, _, f69ok k⟩
def f70s7 : SS := ⟨[(0, z5), (1, z2), (7, z6), (8, z10), (10, (.h 102)), (11, z2)], [(100, w9), (101, w7), (102, w9)]⟩
def f70c (k : Nat) : Con := ⟨⟨[(0, z5), (1, z2)], []⟩, ⟨[(0, z6), (1, z2), (2, z4)], [(100, w9)]⟩, 2, 3, fun x => spec_LengthRead k x.1 x.2⟩
theorem f70ok (k : Nat) : FnOk Try.prog 70 (f70c k) := ok (cx [f28 k, f69 k] 70 nb) Try.f70 fun h x => Q (Q (Q (Q (Q (Q (X h) (Q (B (L f70s7 (fun n x => spec_LengthRead.l7 k n x.1.1 x.1.2.1 x.1.2.2.2.2.2 x.2.1 x.2.2.1 x.2.2.2) k fun n7 => X h)) (X h))) (X h)) (X h)) (X h)) (X h)) (X h)
def f70 (k : Nat) : Fc Try.prog := ⟨70, _, f70ok k⟩
def f71s9 : SS := ⟨[(7, z6), (8, z10), (10, (.h 102)), (11, z2), (13, (.h 103)), (14, (.ro .str)), (15, z2)], [(100, w9), (101, w7), (102, w9), (103, w9)]⟩
def f71c (k : Nat) : Con := ⟨⟨[(0, z5), (1, z2)], []⟩, ⟨[(0, z6), (1, z2), (2, z4)], [(100, w9)]⟩, 2, 3, fun x => spec_FrontRead k x.1 x.2⟩
theorem f71ok (k : Nat) : FnOk Try.prog 71 (f71c k) := ok (cx [f28 k, f69 k, f70 k] 84 nb) Try.f71 fun h x => Q (Q (Q (Q (Q (Q (Q (Q (X h) (Q (B (L f71s9 (fun n x => spec_FrontRead.l9 k n x.1.2.2.2.1 x.1.2.2.2.2.2.1 x.1.2.2.2.2.2.2 x.2.1 x.2.2.1 x.2.2.2.1 x.2.2.2.2) k fun n9 => X h)) (X h))) (X h)) (X h)) (X h)) (X h)) (X h)) (X h)) (X h)
def f71 (k : Nat) : Fc Try.prog := ⟨71, _, f71ok k⟩
def f72s15 : SS := ⟨[(1, z5), (2, z2), (3, z2), (11, z2), (12, z6), (13, z2), (14, z2)], [(100, w9)]⟩
def f72s10 : SS := ⟨[(1, z5), (2, z2), (3, z2), (11, z2), (12, z6), (13, z2), (14, z2), (15, z2)], [(100, w9)]⟩
def f72s6 : SS := ⟨[(1, z5), (2, z2), (3, z2), (11, z2), (12, z6), (13, z2)], [(100, w9)]⟩
def f72c (k : Nat) : Con := ⟨⟨[(0, z2), (1, z5), (2, z2), (3, z2)], []⟩, ⟨[(0, z6), (1, z2), (2, z4)], [(100, w9)]⟩, 4, 3, fun x => spec_SplitRead k x.1 x.2.1 x.2.2.1 x.2.2.2⟩
theorem f72ok (k : Nat) : FnOk Try.prog 72 (f72c k) := ok (cx [f28 k, f64 k] 89 nb) Try.f72 fun h x => Q (Q (Q (Q (Q (X h) (Q (B (L f72s6 (fun n x => spec_SplitRead.l6 k n x.1.1 x.1.2.1 x.1.2.2.1 x.1.2.2.2.1 x.1.2.2.2.2.2 x.2) k fun n6 => Q (Q (X h) (B (Q (Q (Q (T (X h) f72s15 fun x => spec_SplitRead.c15 k (spec_SplitRead.l6 k n6) x.1.1 x.1.2.1 x.1.2.2.1 x.1.2.2.2.1 x.1.2.2.2.2.2.1 x.1.2.2.2.2.2.2 x.2) (X h)) (Q (B (L f72s10 (fun n x => spec_SplitRead.l10 k (spec_SplitRead.l6 k n6) n x.1.1 x.1.2.1 x.1.2.2.1 x.1.2.2.2.1 x.1.2.2.2.2.2.1 x.1.2.2.2.2.2.2.1 x.1.2.2.2.2.2.2.2 x.2) k fun n10 => X h)) (X h))) (X h)))) (X h))) (X h))) (X h)) (X h)) (X h)) (X h)
def f72 (k : Nat) : Fc Try.prog := ⟨72, _, f72ok k⟩
def f73s8 : SS := ⟨[(3, z2), (11, z6), (12, z10), (13, z2), (15, z2)], [(100, w7), (101, w7)]⟩
def f73c (k : Nat) : Con := ⟨⟨[(0, z5), (1, z2), (2, z2), (3, z2)], []⟩, ⟨[(0, z6), (1, z2), (2, z4)], [(100, w7)]⟩, 4, 3, fun x => spec_PlacesRead k x.1 x.2.1 x.2.2.1 x.2.2.2⟩
theorem f73ok (k : Nat) : FnOk Try.prog 73 (f73c k) := ok (cx [f67 k] 65 nb) Try.f73 fun h x => Q (Q (Q (Q (Q (Q (X h) (Q (B (L f73s8 (fun n x => spec_PlacesRead.l8 k n x.1.1 x.1.2.2.2.1 x.1.2.2.2.2 x.2.1 x.2.2) k fun n8 => X h)) (X h))) (X h)) (X h)) (X h)) (X h)) (X h)
def f73 (k : Nat) : Fc Try.prog := ⟨73, _, f73ok k⟩
def f74s5 : SS := ⟨[(0, z12), (1, z11), (6, z6), (7, z2)], [(100, w9)]⟩
def f74c (k : Nat) : Con := ⟨⟨[(0, z12), (1, z11)], []⟩, ⟨[(0, z6), (1, z4)], [(100, w9)]⟩, 2, 2, fun x => spec_DictAt k x.1 x.2⟩
theorem f74ok (k : Nat) : FnOk Try.prog 74 (f74c k) := ok (cx [f28 k] 40 nb) Try.f74 fun h x => Q (Q (Q (Q (X h) (Q (B (L f74s5 (fun n x => spec_DictAt.l5 k n x.1.1 x.1.2.1 x.1.2.2.2 x.2) k fun n5 => X h)) (X h))) (X h)) (X h)) (X h)
def f74 (k : Nat) : Fc Try.prog := ⟨74, _, f74ok k⟩
def f29c (k : Nat) : Con := ⟨⟨[(0, z2), (1, z2), (2, z5), (3, z2), (4, z12)], []⟩, ⟨[(0, z6), (1, z2), (2, z4)], [(100, w9)]⟩, 5, 3, fun x => spec_l16Read k x.1 x.2.1 x.2.2.1 x.2.2.2.1 x.2.2.2.2⟩
theorem f29ok (k : Nat) : FnOk Try.prog 29 (f29c k) := ok (cx [f65 k, f66 k, f67 k, f68 k, f69 k, f70 k, f71 k, f72 k, f73 k, f74 k] 132 nb) Try.f29 fun h x => X h
def f29 (k : Nat) : Fc Try.prog := ⟨29, _, f29ok k⟩
def f125c (k : Nat) : Con := ⟨⟨[(0, z2)], []⟩, ⟨[(0, z4)], []⟩, 1, 1, fun x => spec_l4Int k x⟩
theorem f125ok (k : Nat) : FnOk Try.prog 125 (f125c k) := ok (cx [f28 k] 5 nb) Try.f125 fun h x => X h
def f125 (k : Nat) : Fc Try.prog := ⟨125, _, f125ok k⟩
def f75s8 : SS := ⟨[(3, (.p 100)), (5, z2), (26, z4)], [(100, (.box y1 z8))]⟩
def f75c (k : Nat) : Con := ⟨⟨[(0, z2), (1, (.ro y1))], []⟩, ⟨[(0, z4)], []⟩, 2, 1, fun x => spec_ValOk k x.1 x.2⟩
theorem f75ok (k : Nat) : FnOk Try.prog 75 (f75c k) := ok (cx [f28 k, f125 k] 43 nb) Try.f75 fun h x => Q (Q (X h) (Q (B (Q (D (X h) (Q (D (X h) (Q (T (X h) f75s8 fun x => spec_ValOk.c8 k x.1.2.1 x.1.2.2 x.2) (X h))) (X h))) (X h))) (X h))) (X h)
def f75 (k : Nat) : Fc Try.prog := ⟨75, _, f75ok k⟩
def f30s4 : SS := ⟨[(0, z2), (1, z12), (5, z2)], []⟩
def f30c (k : Nat) : Con := ⟨⟨[(0, z2), (1, z12)], []⟩, ⟨[(0, z4)], []⟩, 2, 1, fun x => spec_l6Vals k x.1 x.2⟩
theorem f30ok (k : Nat) : FnOk Try.prog 30 (f30c k) := ok (cx [f63 k, f75 k] 27 nb) Try.f30 fun h x => Q (Q (Q (X h) (Q (B (L f30s4 (fun n x => spec_l6Vals.l4 k n x.1 x.2.1 x.2.2) k fun n4 => X h)) (X h))) (X h)) (X h)
def f30 (k : Nat) : Fc Try.prog := ⟨30, _, f30ok k⟩
def f6c (k : Nat) : Con := ⟨⟨[(0, z2), (1, z2), (2, z5), (3, z2), (4, z12)], []⟩, ⟨[(0, z6), (1, z4)], [(100, w9)]⟩, 5, 2, fun x => spec_EncRead k x.1 x.2.1 x.2.2.1 x.2.2.2.1 x.2.2.2.2⟩
theorem f6ok (k : Nat) : FnOk Try.prog 6 (f6c k) := ok (cx [f27 k, f28 k, f29 k, f30 k] 59 nb) Try.f6 fun h x => X h
def f6 (k : Nat) : Fc Try.prog := ⟨6, _, f6ok k⟩
def f7s3 : SS := ⟨[(0, z5), (3, z6), (4, z2)], [(100, w13)]⟩
def f7c (k : Nat) : Con := ⟨⟨[(0, z5)], []⟩, ⟨[(0, z6)], [(100, w13)]⟩, 1, 1, fun x => laws_toByteS k x⟩
theorem f7ok (k : Nat) : FnOk Try.prog 7 (f7c k) := ok (cx [] 22 nb) Try.f7 fun h x => Q (Q (Q (X h) (Q (B (L f7s3 (fun n x => laws_toByteS.l3 k n x.1.1 x.1.2.2 x.2) k fun n3 => X h)) (X h))) (X h)) (X h)
def f7 (k : Nat) : Fc Try.prog := ⟨7, _, f7ok k⟩
def f31c (k : Nat) : Con := ⟨⟨[(0, (.ro y1))], []⟩, ⟨[(0, z8)], []⟩, 1, 1, fun x => laws_toVal k x⟩
theorem f31ok (k : Nat) : FnOk Try.prog 31 (f31c k) := ok (cx [] 11 nb) Try.f31 fun h x => X h
def f31 (k : Nat) : Fc Try.prog := ⟨31, _, f31ok k⟩
def f8s3 : SS := ⟨[(0, z3), (3, z6), (4, z2)], [(100, w9)]⟩
def f8c (k : Nat) : Con := ⟨⟨[(0, z3)], []⟩, ⟨[(0, z6)], [(100, w9)]⟩, 1, 1, fun x => laws_toValS k x⟩
theorem f8ok (k : Nat) : FnOk Try.prog 8 (f8c k) := ok (cx [f31 k] 23 nb) Try.f8 fun h x => Q (Q (Q (X h) (Q (B (L f8s3 (fun n x => laws_toValS.l3 k n x.1.1 x.1.2.2 x.2) k fun n3 => X h)) (X h))) (X h)) (X h)
def f8 (k : Nat) : Fc Try.prog := ⟨8, _, f8ok k⟩
def f33c (k : Nat) : Con := ⟨⟨[(0, z2), (1, z2), (2, z2)], []⟩, ⟨[(0, z4)], []⟩, 3, 1, fun x => impl_within k x.1 x.2.1 x.2.2⟩
theorem f33ok (k : Nat) : FnOk Try.prog 33 (f33c k) := ok (cx [] 15 nb) Try.f33 fun h x => X h
def f33 (k : Nat) : Fc Try.prog := ⟨33, _, f33ok k⟩
def f76c (k : Nat) : Con := ⟨⟨[(0, z2)], []⟩, ⟨[(0, z4)], []⟩, 1, 1, fun x => impl_TypeOk k x⟩
theorem f76ok (k : Nat) : FnOk Try.prog 76 (f76c k) := ok (cx [f33 k] 13 nb) Try.f76 fun h x => X h
def f76 (k : Nat) : Fc Try.prog := ⟨76, _, f76ok k⟩
def f77s6 : SS := ⟨[(6, z4)], []⟩
def f77c (k : Nat) : Con := ⟨⟨[(0, z2)], []⟩, ⟨[(0, z2)], []⟩, 1, 1, fun x => impl_wideOf k x⟩
theorem f77ok (k : Nat) : FnOk Try.prog 77 (f77c k) := ok (cx [] 9 nb) Try.f77 fun h x => Q (Q (X h) (Q (B (Q (D (X h) (Q (T (X h) f77s6 fun x => impl_wideOf.c6 k x) (X h))) (X h))) (X h))) (X h)
def f77 (k : Nat) : Fc Try.prog := ⟨77, _, f77ok k⟩
def f32s11 : SS := ⟨[(0, z2), (1, z2), (23, z4)], []⟩
def f32s4 : SS := ⟨[(0, z2), (1, z2), (5, z2), (6, z4)], []⟩
def f32c (k : Nat) : Con := ⟨⟨[(0, z2), (1, z2)], []⟩, ⟨[(0, z4)], []⟩, 2, 1, fun x => impl_EncOk k x.1 x.2⟩
theorem f32ok (k : Nat) : FnOk Try.prog 32 (f32c k) := ok (cx [f76 k, f77 k] 35 nb) Try.f32 fun h x => Q (Q (X h) (Q (B (Q (T (D (X h) (Q (D (X h) (Q (D (X h) (Q (T (X h) f32s11 fun x => impl_EncOk.c11 k x.1 x.2.1 x.2.2) (X h))) (X h))) (X h))) f32s4 fun x => impl_EncOk.c4 k x.1 x.2.1 x.2.2.1 x.2.2.2) (X h))) (X h))) (X h)
def f32 (k : Nat) : Fc Try.prog := ⟨32, _, f32ok k⟩
def f80s3 : SS := ⟨[(3, z6), (7, z11), (8, z2), (9, z2)], [(100, w9)]⟩
def f80c (k : Nat) : Con := ⟨⟨[(0, z11)], []⟩, ⟨[(0, z6)], [(100, w9)]⟩, 1, 1, fun x => impl_valsOf k x⟩
theorem f80ok (k : Nat) : FnOk Try.prog 80 (f80c k) := ok (cx [] 20 nb) Try.f80 fun h x => Q (Q (Q (X h) (Q (B (L f80s3 (fun n x => impl_valsOf.l3 k n x.1.2.1 x.1.2.2.1 x.1.2.2.2 x.2) k fun n3 => X h)) (X h))) (X h)) (X h)
def f80 (k : Nat) : Fc Try.prog := ⟨80, _, f80ok k⟩
def f158c (k : Nat) : Con := ⟨⟨[(0, z5), (1, z2)], []⟩, ⟨[(0, z2)], []⟩, 2, 1, fun x => impl_BitAt k x.1 x.2⟩
theorem f158ok (k : Nat) : FnOk Try.prog 158 (f158c k) := ok (cx [] 24 nb) Try.f158 fun h x => X h
def f158 (k : Nat) : Fc Try.prog := ⟨158, _, f158ok k⟩
def f136s7 : SS := ⟨[(0, z5), (1, z2), (3, z2), (9, z6), (10, z2), (11, z2), (14, z2), (15, z2), (18, z2), (19, z2)], [(100, w7)]⟩
def f136s3 : SS := ⟨[(0, z5), (1, z2), (3, z2), (9, z6), (14, z2), (15, z2)], [(100, w7)]⟩
def f136c (k : Nat) : Con := ⟨⟨[(0, z5), (1, z2), (2, z2), (3, z2)], []⟩, ⟨[(0, z6)], [(100, w7)]⟩, 4, 1, fun x => impl_unpacked k x.1 x.2.1 x.2.2.1 x.2.2.2⟩
theorem f136ok (k : Nat) : FnOk Try.prog 136 (f136c k) := ok (cx [f158 k] 43 nb) Try.f136 fun h x => Q (Q (Q (X h) (Q (B (L f136s3 (fun n x => impl_unpacked.l3 k n x.1.1 x.1.2.1 x.1.2.2.1 x.1.2.2.2.2.1 x.1.2.2.2.2.2 x.2) k fun n3 => Q (Q (Q (X h) (B (Q (Q (Q (X h) (Q (B (L f136s7 (fun n x => impl_unpacked.l7 k (impl_unpacked.l3 k n3) n x.1.1 x.1.2.1 x.1.2.2.1 x.1.2.2.2.2.1 x.1.2.2.2.2.2.1 x.1.2.2.2.2.2.2.1 x.1.2.2.2.2.2.2.2.1 x.1.2.2.2.2.2.2.2.2.1 x.1.2.2.2.2.2.2.2.2.2 x.2) k fun n7 => X h)) (X h))) (X h)) (X h)))) (X h)) (X h))) (X h))) (X h)) (X h)
def f136 (k : Nat) : Fc Try.prog := ⟨136, _, f136ok k⟩
def f156c (k : Nat) : Con := ⟨⟨[(0, z2), (1, z2)], []⟩, ⟨[(0, z2)], []⟩, 2, 1, fun x => impl_BitsSize k x.1 x.2⟩
theorem f156ok (k : Nat) : FnOk Try.prog 156 (f156c k) := ok (cx [f33 k] 18 nb) Try.f156 fun h x => X h
def f156 (k : Nat) : Fc Try.prog := ⟨156, _, f156ok k⟩
def f126c (k : Nat) : Con := ⟨⟨[(0, z5), (1, z2), (2, z2), (3, z2)], []⟩, ⟨[(0, z6), (1, z2), (2, z4)], [(100, w7)]⟩, 4, 3, fun x => impl_BitsRead k x.1 x.2.1 x.2.2.1 x.2.2.2⟩
theorem f126ok (k : Nat) : FnOk Try.prog 126 (f126c k) := ok (cx [f33 k, f136 k, f156 k] 40 nb) Try.f126 fun h x => X h
def f126 (k : Nat) : Fc Try.prog := ⟨126, _, f126ok k⟩
def f86s5 : SS := ⟨[(0, z5), (1, z2), (2, z2), (9, z2), (26, z2), (27, z2)], []⟩
def f86c (k : Nat) : Con := ⟨⟨[(0, z5), (1, z2), (2, z2)], []⟩, ⟨[(0, z2), (1, z2), (2, z4)], []⟩, 3, 3, fun x => impl_WordGet k x.1 x.2.1 x.2.2⟩
theorem f86ok (k : Nat) : FnOk Try.prog 86 (f86c k) := ok (cx [f33 k] 47 nb) Try.f86 fun h x => Q (Q (Q (Q (X h) (Q (B (L f86s5 (fun n x => impl_WordGet.l5 k n x.1 x.2.1 x.2.2.1 x.2.2.2.1 x.2.2.2.2.1 x.2.2.2.2.2) k fun n5 => X h)) (X h))) (X h)) (X h)) (X h)
def f86 (k : Nat) : Fc Try.prog := ⟨86, _, f86ok k⟩
def f133c (k : Nat) : Con := ⟨⟨[(0, z2), (1, z2)], []⟩, ⟨[(0, z2)], []⟩, 2, 1, fun x => impl_signed k x.1 x.2⟩
theorem f133ok (k : Nat) : FnOk Try.prog 133 (f133c k) := ok (cx [] 11 nb) Try.f133 fun h x => X h
def f133 (k : Nat) : Fc Try.prog := ⟨133, _, f133ok k⟩
def f127c (k : Nat) : Con := ⟨⟨[(0, z2), (1, z5), (2, z2)], []⟩, ⟨[(0, z8), (1, z2), (2, z4)], []⟩, 3, 3, fun x => impl_plainOne k x.1 x.2.1 x.2.2⟩
theorem f127ok (k : Nat) : FnOk Try.prog 127 (f127c k) := ok (cx [f77 k, f86 k, f133 k] 66 nb) Try.f127 fun h x => X h
def f127 (k : Nat) : Fc Try.prog := ⟨127, _, f127ok k⟩
def f78s8 : SS := ⟨[(0, z2), (1, z5), (2, z2), (14, z6), (48, z2), (49, z2)], [(100, w9)]⟩
def f78c (k : Nat) : Con := ⟨⟨[(0, z2), (1, z5), (2, z2), (3, z2)], []⟩, ⟨[(0, z6), (1, z2), (2, z4)], [(100, w9)]⟩, 4, 3, fun x => impl_PlainRead k x.1 x.2.1 x.2.2.1 x.2.2.2⟩
theorem f78ok (k : Nat) : FnOk Try.prog 78 (f78c k) := ok (cx [f33 k, f76 k, f80 k, f126 k, f127 k] 69 nb) Try.f78 fun h x => Q (Q (Q (Q (Q (X h) (Q (B (L f78s8 (fun n x => impl_PlainRead.l8 k n x.1.1 x.1.2.1 x.1.2.2.1 x.1.2.2.2.2.1 x.1.2.2.2.2.2 x.2) k fun n8 => X h)) (X h))) (X h)) (X h)) (X h)) (X h)
def f78 (k : Nat) : Fc Try.prog := ⟨78, _, f78ok k⟩
def f134s12 : SS := ⟨[], []⟩
def f134s5 : SS := ⟨[(0, z5), (1, z2), (7, z14), (8, z2)], []⟩
def f134c (k : Nat) : Con := ⟨⟨[(0, z5), (1, z2)], []⟩, ⟨[(0, z2), (1, z2), (2, z4)], []⟩, 2, 3, fun x => impl_UvarGet k x.1 x.2⟩
theorem f134ok (k : Nat) : FnOk Try.prog 134 (f134c k) := ok (cx [] 52 nb) Try.f134 fun h x => Q (Q (Q (Q (T (X h) f134s12 fun x => impl_UvarGet.c12 k) (Q (B (L f134s5 (fun n x => impl_UvarGet.l5 k n x.1 x.2.1 x.2.2.1 x.2.2.2) k fun n5 => X h)) (X h))) (X h)) (X h)) (X h)
def f134 (k : Nat) : Fc Try.prog := ⟨134, _, f134ok k⟩
def f128c (k : Nat) : Con := ⟨⟨[(0, (.p 0))], [(0, w16), (10, w7)]⟩, ⟨[(0, z2)], [(0, w16), (10, w7)]⟩, 1, 1, fun x => impl_deltaReader_uvar k x.2.1 x.2.2⟩
theorem f128ok (k : Nat) : FnOk Try.prog 128 (f128c k) := ok (cx [f134 k] 35 nb) Try.f128 fun h x => X h
def f128 (k : Nat) : Fc Try.prog := ⟨128, _, f128ok k⟩
def f129c (k : Nat) : Con := ⟨⟨[(0, z2)], []⟩, ⟨[(0, z2)], []⟩, 1, 1, fun x => impl_Zag k x⟩
theorem f129ok (k : Nat) : FnOk Try.prog 129 (f129c k) := ok (cx [] 11 nb) Try.f129 fun h x => X h
def f129 (k : Nat) : Fc Try.prog := ⟨129, _, f129ok k⟩
def f130c (k : Nat) : Con := ⟨⟨[(0, (.p 0)), (1, z2)], [(0, w16), (10, w7)]⟩, ⟨[(0, z2)], [(0, w16), (10, w7)]⟩, 2, 1, fun x => impl_deltaReader_take k x.1.2 x.2.1 x.2.2⟩
theorem f130ok (k : Nat) : FnOk Try.prog 130 (f130c k) := ok (cx [] 40 nb) Try.f130 fun h x => X h
def f130 (k : Nat) : Fc Try.prog := ⟨130, _, f130ok k⟩
def f131d7 : SS := ⟨[(0, (.p 0)), (3, z2), (12, z2), (37, z6), (38, z2), (39, z2)], [(0, w17), (100, w7), (101, w7)]⟩
def f131s5 : SS := ⟨[(0, (.p 0)), (3, z2), (37, z6), (38, z2), (39, z2)], [(0, w17), (100, w7), (101, w7)]⟩
def f131s2 : SS := ⟨[(0, (.p 0)), (1, z2), (2, z2), (3, z2), (4, z2)], [(0, w16), (10, w7)]⟩
def f131c (k : Nat) : Con := ⟨⟨[(0, (.p 0)), (1, z2), (2, z2), (3, z2), (4, z2)], [(0, w16), (10, w7)]⟩, ⟨[], [(0, (.box y15 (.agg (.cons z5 (.cons z2 (.cons z4 (.cons z6 .nil))))))), (100, w7)]⟩, 5, 0, fun x => impl_deltaReader_mini k x.1.2.1 x.1.2.2.1 x.1.2.2.2.1 x.1.2.2.2.2 x.2.1 x.2.2⟩
theorem f131ok (k : Nat) : FnOk Try.prog 131 (f131c k) := ok (cx [f130 k, f136 k] 69 nb) Try.f131 fun h x => Q (T (Q (Q (Q (B (L f131s5 (fun n x => impl_deltaReader_mini.l5 k n x.1.2.1 x.1.2.2.2.1 x.1.2.2.2.2 x.2.1 x.2.2.1 x.2.2.2) k fun n5 => Q (Q (Q (X h) (B (Q (K h f131d7 (fun x => impl_deltaReader_mini.d7 k (impl_deltaReader_mini.l5 k n5) x.1.2.1 x.1.2.2.1 x.1.2.2.2.2.1 x.1.2.2.2.2.2 x.2.1 x.2.2.1 x.2.2.2) [[0, 1, 2, 3, 4, 5, 6, 7, 9, 10, 11, 17, 19, 8, 12, 13, 14, 15, 16, 18, 20, 21, 22, 23, 24, 25], [0, 1, 2, 3, 4, 5, 6, 7, 9, 10, 11, 17, 19, 12, 13, 14, 8, 15, 16, 18, 20, 21, 22, 23, 24, 25]] (O (fun x => by kernel_rfl) (O (fun x => by kernel_rfl) (N)))) (X h)))) (X h)) (X h))) (X h)) (X h)) (X h)) f131s2 fun x => impl_deltaReader_mini.c2 k x.1.2.1 x.1.2.2.1 x.1.2.2.2.1 x.1.2.2.2.2 x.2.1 x.2.2) (X h)
def f131 (k : Nat) : Fc Try.prog := ⟨131, _, f131ok k⟩
def f79d22 : SS := ⟨[(0, z5), (7, (.p 100)), (9, z2), (10, z2), (12, z2), (13, z2), (14, z2), (15, z2)], [(100, w17), (101, w7)]⟩
def f79s20 : SS := ⟨[(0, z5), (7, (.p 100)), (9, z2), (10, z2), (12, z2), (13, z2), (14, z2), (15, z2)], [(100, w17), (101, w7)]⟩
def f79s16 : SS := ⟨[(0, z5), (7, (.p 100)), (9, z2), (10, z2), (12, z2)], [(100, w17), (101, w7)]⟩
def f79c (k : Nat) : Con := ⟨⟨[(0, z5), (1, z2)], []⟩, ⟨[(0, z6), (1, z2), (2, z4)], [(100, w7)]⟩, 2, 3, fun x => impl_DeltaRead k x.1 x.2⟩
theorem f79ok (k : Nat) : FnOk Try.prog 79 (f79c k) := ok (cx [f33 k, f128 k, f129 k, f130 k, f131 k] 155 nb) Try.f79 fun h x => Q (Q (Q (Q (Q (Q (Q (Q (Q (Q (Q (Q (Q (X h) (B (L f79s16 (fun n x => impl_DeltaRead.l16 k n x.1.1 x.1.2.2.1 x.1.2.2.2.1 x.1.2.2.2.2 x.2.1 x.2.2) k fun n16 => Q (B (Q (Q (Q (B (L f79s20 (fun n x => impl_DeltaRead.l20 k (impl_DeltaRead.l16 k n16) n x.1.1 x.1.2.2.1 x.1.2.2.2.1 x.1.2.2.2.2.1 x.1.2.2.2.2.2.1 x.1.2.2.2.2.2.2.1 x.1.2.2.2.2.2.2.2 x.2.1 x.2.2) k fun n20 => Q (Q (X h) (B (K h f79d22 (fun x => impl_DeltaRead.d22 k (impl_DeltaRead.l20 k (impl_DeltaRead.l16 k n16) n20) x.1.1 x.1.2.2.1 x.1.2.2.2.1 x.1.2.2.2.2.1 x.1.2.2.2.2.2.1 x.1.2.2.2.2.2.2.1 x.1.2.2.2.2.2.2.2 x.2.1 x.2.2) [[0, 1, 2, 3, 4, 5, 6, 9, 10, 11, 12, 13, 7, 8, 14, 15, 16, 17], [0, 1, 2, 3, 4, 5, 6, 9, 10, 11, 12, 13, 14, 15, 16, 7, 8, 17]] (O (fun x => by kernel_rfl) (O (fun x => by kernel_rfl) (N)))))) (X h))) (X h)) (X h)) (X h))) (X h)))) (X h)) (X h)) (X h)) (X h)) (X h)) (X h)) (X h)) (X h)) (X h)) (X h)) (X h)) (X h)
def f79 (k : Nat) : Fc Try.prog := ⟨79, _, f79ok k⟩
def f81s6 : SS := ⟨[(0, z5), (8, z2), (10, z6), (23, z10), (24, z2), (25, z2)], [(100, w9), (101, w7)]⟩
def f81c (k : Nat) : Con := ⟨⟨[(0, z5), (1, z2)], []⟩, ⟨[(0, z6), (1, z2), (2, z4)], [(100, w9)]⟩, 2, 3, fun x => impl_LengthRead k x.1 x.2⟩
theorem f81ok (k : Nat) : FnOk Try.prog 81 (f81c k) := ok (cx [f33 k, f79 k] 57 nb) Try.f81 fun h x => Q (Q (Q (Q (Q (X h) (Q (B (L f81s6 (fun n x => impl_LengthRead.l6 k n x.1.1 x.1.2.1 x.1.2.2.2.2.1 x.1.2.2.2.2.2 x.2.1 x.2.2) k fun n6 => X h)) (X h))) (X h)) (X h)) (X h)) (X h)
def f81 (k : Nat) : Fc Try.prog := ⟨81, _, f81ok k⟩
def f82s10 : SS := ⟨[(10, z6), (11, z2), (12, z10), (13, (.ro .str)), (42, (.h 102)), (43, z2), (44, z2)], [(100, w9), (101, w9), (102, w7)]⟩
def f82c (k : Nat) : Con := ⟨⟨[(0, z5), (1, z2)], []⟩, ⟨[(0, z6), (1, z2), (2, z4)], [(100, w9)]⟩, 2, 3, fun x => impl_FrontRead k x.1 x.2⟩
theorem f82ok (k : Nat) : FnOk Try.prog 82 (f82c k) := ok (cx [f33 k, f79 k, f81 k] 82 nb) Try.f82 fun h x => Q (Q (Q (Q (Q (Q (Q (Q (X h) (Q (B (L f82s10 (fun n x => impl_FrontRead.l10 k n x.1.2.1 x.1.2.2.2.1 x.1.2.2.2.2.2.1 x.1.2.2.2.2.2.2 x.2.1 x.2.2.1 x.2.2.2) k fun n10 => X h)) (X h))) (X h)) (X h)) (X h)) (X h)) (X h)) (X h)) (X h)
def f82 (k : Nat) : Fc Try.prog := ⟨82, _, f82ok k⟩
def f132c (k : Nat) : Con := ⟨⟨[(0, z2)], []⟩, ⟨[(0, z2)], []⟩, 1, 1, fun x => impl_SplitWide k x⟩
theorem f132ok (k : Nat) : FnOk Try.prog 132 (f132c k) := ok (cx [f77 k] 5 nb) Try.f132 fun h x => X h
def f132 (k : Nat) : Fc Try.prog := ⟨132, _, f132ok k⟩
def f83s10 : SS := ⟨[(1, z5), (2, z2), (3, z2), (11, z2), (12, z6), (13, z2), (14, z2), (43, z2), (44, z2), (47, z2), (48, z2)], [(100, w9)]⟩
def f83s6 : SS := ⟨[(1, z5), (2, z2), (3, z2), (11, z2), (12, z6), (43, z2), (44, z2)], [(100, w9)]⟩
def f83c (k : Nat) : Con := ⟨⟨[(0, z2), (1, z5), (2, z2), (3, z2)], []⟩, ⟨[(0, z6), (1, z2), (2, z4)], [(100, w9)]⟩, 4, 3, fun x => impl_SplitRead k x.1 x.2.1 x.2.2.1 x.2.2.2⟩
theorem f83ok (k : Nat) : FnOk Try.prog 83 (f83c k) := ok (cx [f33 k, f132 k, f133 k] 82 nb) Try.f83 fun h x => Q (Q (Q (Q (Q (X h) (Q (B (L f83s6 (fun n x => impl_SplitRead.l6 k n x.1.1 x.1.2.1 x.1.2.2.1 x.1.2.2.2.1 x.1.2.2.2.2.2.1 x.1.2.2.2.2.2.2 x.2) k fun n6 => Q (Q (Q (X h) (B (Q (Q (Q (X h) (Q (B (L f83s10 (fun n x => impl_SplitRead.l10 k (impl_SplitRead.l6 k n6) n x.1.1 x.1.2.1 x.1.2.2.1 x.1.2.2.2.1 x.1.2.2.2.2.2.1 x.1.2.2.2.2.2.2.1 x.1.2.2.2.2.2.2.2.1 x.1.2.2.2.2.2.2.2.2.1 x.1.2.2.2.2.2.2.2.2.2.1 x.1.2.2.2.2.2.2.2.2.2.2 x.2) k fun n10 => X h)) (X h))) (X h)) (X h)))) (X h)) (X h))) (X h))) (X h)) (X h)) (X h)) (X h)
def f83 (k : Nat) : Fc Try.prog := ⟨83, _, f83ok k⟩
def f164s10 : SS := ⟨[(0, z14), (2, z2)], []⟩
def f164s7 : SS := ⟨[(0, z14), (2, z2)], []⟩
def f164s4 : SS := ⟨[(0, z14), (2, z2)], []⟩
def f164c (k : Nat) : Con := ⟨⟨[(0, z14)], []⟩, ⟨[(0, z2)], []⟩, 1, 1, fun x => bits_Len64 k x⟩
theorem f164ok (k : Nat) : FnOk Try.prog 164 (f164c k) := ok (cx [] 25 nb) Try.f164 fun h x => Q (Q (T (Q (T (Q (T (X h) f164s10 fun x => bits_Len64.c10 k x.1 x.2) (X h)) f164s7 fun x => bits_Len64.c7 k x.1 x.2) (X h)) f164s4 fun x => bits_Len64.c4 k x.1 x.2) (X h)) (X h)
def f164 (k : Nat) : Fc Try.prog := ⟨164, _, f164ok k⟩
def f157c (k : Nat) : Con := ⟨⟨[(0, z2)], []⟩, ⟨[(0, z2)], []⟩, 1, 1, fun x => impl_widthOf k x⟩
theorem f157ok (k : Nat) : FnOk Try.prog 157 (f157c k) := ok (cx [f164 k] 6 nb) Try.f157 fun h x => X h
def f157 (k : Nat) : Fc Try.prog := ⟨157, _, f157ok k⟩
def f135c (k : Nat) : Con := ⟨⟨[(0, z5), (1, z2), (2, z2)], []⟩, ⟨[(0, z2), (1, z2), (2, z4)], []⟩, 3, 3, fun x => impl_runNumber k x.1 x.2.1 x.2.2⟩
theorem f135ok (k : Nat) : FnOk Try.prog 135 (f135c k) := ok (cx [f86 k, f156 k, f157 k] 34 nb) Try.f135 fun h x => X h
def f135 (k : Nat) : Fc Try.prog := ⟨135, _, f135ok k⟩
def f87s15 : SS := ⟨[(0, z5), (2, z2), (3, z2), (11, z6), (17, z2), (18, z2), (72, z2), (73, z2)], [(100, w7)]⟩
def f87s4 : SS := ⟨[(0, z5), (1, z2), (2, z2), (3, z2), (11, z6)], [(100, w7)]⟩
def f87c (k : Nat) : Con := ⟨⟨[(0, z5), (1, z2), (2, z2), (3, z2)], []⟩, ⟨[(0, z6), (1, z2), (2, z4)], [(100, w7)]⟩, 4, 3, fun x => impl_RunRead k x.1 x.2.1 x.2.2.1 x.2.2.2⟩
theorem f87ok (k : Nat) : FnOk Try.prog 87 (f87c k) := ok (cx [f33 k, f134 k, f135 k, f136 k] 110 nb) Try.f87 fun h x => Q (Q (Q (Q (X h) (B (L f87s4 (fun n x => impl_RunRead.l4 k n x.1.1 x.1.2.1 x.1.2.2.1 x.1.2.2.2.1 x.2) k fun n4 => Q (B (Q (Q (Q (Q (Q (X h) (Q (D (Q (Q (Q (X h) (Q (B (L f87s15 (fun n x => impl_RunRead.l15 k (impl_RunRead.l4 k n4) n x.1.1 x.1.2.1 x.1.2.2.1 x.1.2.2.2.2.1 x.1.2.2.2.2.2.1 x.1.2.2.2.2.2.2.1 x.1.2.2.2.2.2.2.2 x.2) k fun n15 => X h)) (X h))) (X h)) (X h)) (X h)) (X h))) (X h)) (X h)) (X h)) (X h))) (X h)))) (X h)) (X h)) (X h)
def f87 (k : Nat) : Fc Try.prog := ⟨87, _, f87ok k⟩
def f84s7 : SS := ⟨[(3, z2), (11, z6), (12, z2), (38, z6), (39, z2), (40, z2)], [(100, w7)]⟩
def f84c (k : Nat) : Con := ⟨⟨[(0, z5), (1, z2), (2, z2), (3, z2)], []⟩, ⟨[(0, z6), (1, z2), (2, z4)], [(100, w7)]⟩, 4, 3, fun x => impl_PlacesRead k x.1 x.2.1 x.2.2.1 x.2.2.2⟩
theorem f84ok (k : Nat) : FnOk Try.prog 84 (f84c k) := ok (cx [f33 k, f87 k] 50 nb) Try.f84 fun h x => Q (Q (Q (Q (Q (X h) (Q (B (L f84s7 (fun n x => impl_PlacesRead.l7 k n x.1.1 x.1.2.2.1 x.1.2.2.2.2.1 x.1.2.2.2.2.2 x.2) k fun n7 => X h)) (X h))) (X h)) (X h)) (X h)) (X h)
def f84 (k : Nat) : Fc Try.prog := ⟨84, _, f84ok k⟩
def f85s5 : SS := ⟨[(0, z12), (6, z6), (13, z11), (14, z2), (15, z2)], [(100, w9)]⟩
def f85c (k : Nat) : Con := ⟨⟨[(0, z12), (1, z11)], []⟩, ⟨[(0, z6), (1, z4)], [(100, w9)]⟩, 2, 2, fun x => impl_DictAt k x.1 x.2⟩
theorem f85ok (k : Nat) : FnOk Try.prog 85 (f85c k) := ok (cx [f33 k] 34 nb) Try.f85 fun h x => Q (Q (Q (Q (X h) (Q (B (L f85s5 (fun n x => impl_DictAt.l5 k n x.1.1 x.1.2.2.1 x.1.2.2.2.1 x.1.2.2.2.2 x.2) k fun n5 => X h)) (X h))) (X h)) (X h)) (X h)
def f85 (k : Nat) : Fc Try.prog := ⟨85, _, f85ok k⟩
def f34c (k : Nat) : Con := ⟨⟨[(0, z2), (1, z2), (2, z5), (3, z2), (4, z12)], []⟩, ⟨[(0, z6), (1, z2), (2, z4)], [(100, w9)]⟩, 5, 3, fun x => impl_encValues k x.1 x.2.1 x.2.2.1 x.2.2.2.1 x.2.2.2.2⟩
theorem f34ok (k : Nat) : FnOk Try.prog 34 (f34c k) := ok (cx [f78 k, f79 k, f80 k, f81 k, f82 k, f83 k, f84 k, f85 k, f86 k, f87 k] 122 nb) Try.f34 fun h x => X h
def f34 (k : Nat) : Fc Try.prog := ⟨34, _, f34ok k⟩
def f137c (k : Nat) : Con := ⟨⟨[(0, z2)], []⟩, ⟨[(0, z4)], []⟩, 1, 1, fun x => impl_isInt32 k x⟩
theorem f137ok (k : Nat) : FnOk Try.prog 137 (f137c k) := ok (cx [f33 k] 5 nb) Try.f137 fun h x => X h
def f137 (k : Nat) : Fc Try.prog := ⟨137, _, f137ok k⟩
def f88s8 : SS := ⟨[(0, z2), (3, (.p 100)), (26, z4)], [(100, (.box y1 z8))]⟩
def f88c (k : Nat) : Con := ⟨⟨[(0, z2), (1, (.ro y1))], []⟩, ⟨[(0, z4)], []⟩, 2, 1, fun x => impl_ValOk k x.1 x.2⟩
theorem f88ok (k : Nat) : FnOk Try.prog 88 (f88c k) := ok (cx [f33 k, f137 k] 45 nb) Try.f88 fun h x => Q (Q (X h) (Q (B (Q (D (X h) (Q (D (X h) (Q (T (X h) f88s8 fun x => impl_ValOk.c8 k x.1.1 x.1.2.2 x.2) (X h))) (X h))) (X h))) (X h))) (X h)
def f88 (k : Nat) : Fc Try.prog := ⟨88, _, f88ok k⟩
def f35s2 : SS := ⟨[(0, z2), (1, z12), (7, z12), (8, z2), (9, z2)], []⟩
def f35c (k : Nat) : Con := ⟨⟨[(0, z2), (1, z12)], []⟩, ⟨[(0, z4)], []⟩, 2, 1, fun x => impl_valsOk k x.1 x.2⟩
theorem f35ok (k : Nat) : FnOk Try.prog 35 (f35c k) := ok (cx [f76 k, f88 k] 25 nb) Try.f35 fun h x => Q (Q (X h) (Q (B (L f35s2 (fun n x => impl_valsOk.l2 k n x.1 x.2.1 x.2.2.1 x.2.2.2.1 x.2.2.2.2) k fun n2 => X h)) (X h))) (X h)
def f35 (k : Nat) : Fc Try.prog := ⟨35, _, f35ok k⟩
def f9c (k : Nat) : Con := ⟨⟨[(0, z2), (1, z2), (2, z5), (3, z2), (4, z12)], []⟩, ⟨[(0, z6), (1, z4)], [(100, w9)]⟩, 5, 2, fun x => impl_EncRead k x.1 x.2.1 x.2.2.1 x.2.2.2.1 x.2.2.2.2⟩
theorem f9ok (k : Nat) : FnOk Try.prog 9 (f9c k) := ok (cx [f32 k, f33 k, f34 k, f35 k] 66 nb) Try.f9 fun h x => X h
def f9 (k : Nat) : Fc Try.prog := ⟨9, _, f9ok k⟩
def f36c (k : Nat) : Con := ⟨⟨[(0, (.ro y1)), (1, (.ro y1))], []⟩, ⟨[(0, z4)], []⟩, 2, 1, fun x => laws_eqVal k x.1 x.2⟩
theorem f36ok (k : Nat) : FnOk Try.prog 36 (f36c k) := ok (cx [] 15 nb) Try.f36 fun h x => X h
def f36 (k : Nat) : Fc Try.prog := ⟨36, _, f36ok k⟩
def f10s4 : SS := ⟨[(0, z12), (1, z12), (5, z2)], []⟩
def f10c (k : Nat) : Con := ⟨⟨[(0, z12), (1, z12)], []⟩, ⟨[(0, z4)], []⟩, 2, 1, fun x => laws_eqValS k x.1 x.2⟩
theorem f10ok (k : Nat) : FnOk Try.prog 10 (f10c k) := ok (cx [f36 k] 27 nb) Try.f10 fun h x => Q (Q (Q (X h) (Q (B (L f10s4 (fun n x => laws_eqValS.l4 k n x.1 x.2.1 x.2.2) k fun n4 => X h)) (X h))) (X h)) (X h)
def f10 (k : Nat) : Fc Try.prog := ⟨10, _, f10ok k⟩
def f11s4 : SS := ⟨[(0, z5), (1, z5), (5, z2)], []⟩
def f11c (k : Nat) : Con := ⟨⟨[(0, z5), (1, z5)], []⟩, ⟨[(0, z4)], []⟩, 2, 1, fun x => laws_eqByteS k x.1 x.2⟩
theorem f11ok (k : Nat) : FnOk Try.prog 11 (f11c k) := ok (cx [] 26 nb) Try.f11 fun h x => Q (Q (Q (X h) (Q (B (L f11s4 (fun n x => laws_eqByteS.l4 k n x.1 x.2.1 x.2.2) k fun n4 => X h)) (X h))) (X h)) (X h)
def f11 (k : Nat) : Fc Try.prog := ⟨11, _, f11ok k⟩
def f12s2 : SS := ⟨[(0, (.h 10)), (1, z2), (5, z2)], [(10, w13)]⟩
def f12c (k : Nat) : Con := ⟨⟨[(0, (.h 10)), (1, z2)], [(10, w13)]⟩, ⟨[(0, z2)], [(10, w13)]⟩, 2, 1, fun x => laws_markByteS k x.1.2 x.2⟩
theorem f12ok (k : Nat) : FnOk Try.prog 12 (f12c k) := ok (cx [] 20 nb) Try.f12 fun h x => Q (Q (X h) (Q (B (L f12s2 (fun n x => laws_markByteS.l2 k n x.1.2.1 x.1.2.2 x.2) k fun n2 => X h)) (X h))) (X h)
def f12 (k : Nat) : Fc Try.prog := ⟨12, _, f12ok k⟩
def f37s4 : SS := ⟨[(0, z2), (3, (.ro .str))], []⟩
def f37c (k : Nat) : Con := ⟨⟨[(0, z2)], []⟩, ⟨[(0, (.ro .str))], []⟩, 1, 1, fun x => laws_markText k x⟩
theorem f37ok (k : Nat) : FnOk Try.prog 37 (f37c k) := ok (cx [] 20 nb) Try.f37 fun h x => Q (Q (Q (Q (X h) (B (L f37s4 (fun n x => laws_markText.l4 k n x.1 x.2) k fun n4 => X h))) (X h)) (X h)) (X h)
def f37 (k : Nat) : Fc Try.prog := ⟨37, _, f37ok k⟩
def f13s2 : SS := ⟨[(0, (.h 10)), (1, z2), (5, z2)], [(10, w9)]⟩
def f13c (k : Nat) : Con := ⟨⟨[(0, (.h 10)), (1, z2)], [(10, w9)]⟩, ⟨[(0, z2)], [(10, w9)]⟩, 2, 1, fun x => laws_markValS k x.1.2 x.2⟩
theorem f13ok (k : Nat) : FnOk Try.prog 13 (f13c k) := ok (cx [f37 k] 28 nb) Try.f13 fun h x => Q (Q (X h) (Q (B (L f13s2 (fun n x => laws_markValS.l2 k n x.1.2.1 x.1.2.2 x.2) k fun n2 => X h)) (X h))) (X h)
def f13 (k : Nat) : Fc Try.prog := ⟨13, _, f13ok k⟩
def f14d7 : SS := ⟨[(0, z12), (1, z2), (5, z2)], []⟩
def f14s2 : SS := ⟨[(0, z12), (1, z2), (5, z2)], []⟩
def f14c (k : Nat) : Con := ⟨⟨[(0, z12), (1, z2)], []⟩, ⟨[(0, z2)], []⟩, 2, 1, fun x => laws_heldValS k x.1 x.2⟩
theorem f14ok (k : Nat) : FnOk Try.prog 14 (f14c k) := ok (cx [f37 k] 32 nb) Try.f14 fun h x => Q (Q (X h) (Q (B (L f14s2 (fun n x => laws_heldValS.l2 k n x.1 x.2.1 x.2.2) k fun n2 => Q (Q (X h) (B (Q (Q (Q (X h) (Q (X h) (K h f14d7 (fun x => laws_heldValS.d7 k (laws_heldValS.l2 k n2) x.1 x.2.1 x.2.2) [[0, 1, 2, 3, 5, 4, 6, 7], [0, 1, 2, 3, 5, 6, 4, 7]] (O (fun x => by kernel_rfl) (O (fun x => by kernel_rfl) (N)))))) (X h)) (X h)))) (X h))) (X h))) (X h)
def f14 (k : Nat) : Fc Try.prog := ⟨14, _, f14ok k⟩
def f3c (k : Nat) : Con := ⟨⟨[(0, z2), (1, z2), (2, z5), (3, z2), (4, z3)], []⟩, ⟨[(0, z4)], []⟩, 5, 1, fun x => laws_FnExactEncRead k x.1 x.2.1 x.2.2.1 x.2.2.2.1 x.2.2.2.2⟩
theorem f3ok (k : Nat) : FnOk Try.prog 3 (f3c k) := ok (cx [f5 k, f6 k, f7 k, f8 k, f9 k, f10 k, f11 k, f12 k, f13 k, f14 k] 132 nb) Try.f3 fun h x => X h
def f3 (k : Nat) : Fc Try.prog := ⟨3, _, f3ok k⟩

end Go.Proofs.Ytabocefniklbpaa
