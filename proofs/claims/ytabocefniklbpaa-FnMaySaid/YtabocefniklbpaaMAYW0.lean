/- The walks, printed by program. -/
import Derived.Test.YtabocefniklbpaaBase
import Derived.Test.YtabocefniklbpaaMAYF0
set_option linter.unusedVariables false
set_option maxRecDepth 100000
namespace Go.Proofs.Ytabocefniklbpaa
open Go.Am Go.Am.W Go.Fn

abbrev z0 : CS := .ro (.list 5 (.int .u8))
abbrev z1 : CS := .ro .bool
abbrev y2 : Ty := .int .i64
abbrev z3 : CS := .ro y2
abbrev z4 : CS := .p 100
abbrev u5 : Ty := .cons y2 (.cons y2 .nil)
abbrev v6 : CS := .cons z3 (.cons z3 .nil)
abbrev w7 : OS := .box (.st (.cons (.list 5 (.int .u8)) u5)) (.agg (.cons z0 v6))
abbrev z8 : CS := .p 0
abbrev z9 : CS := .ro .str
abbrev y10 : Ty := .st (.cons .str (.cons y2 u5))
abbrev z11 : CS := .ro (.list 102 y10)
abbrev z12 : CS := .h 101
abbrev w13 : OS := .box y10 (.agg (.cons z9 (.cons z3 v6)))
abbrev z14 : CS := .h 100
abbrev w15 : OS := .sl 102 y10
abbrev z16 : CS := .h 10
abbrev w17 : OS := .sl 3 y2
abbrev z18 : CS := .agg (.cons z3 v6)
abbrev y19 : Ty := .st (.cons y2 (.cons .str .nil))
abbrev z20 : CS := .agg (.cons z3 (.cons z9 .nil))
abbrev w21 : OS := .box y19 z20
abbrev z22 : CS := .ro y19
abbrev y23 : Ty := .list 56 y19
abbrev z24 : CS := .ro y23
abbrev y25 : Ty := .st (.cons y23 .nil)
abbrev w26 : OS := .box y25 (.agg (.cons z24 .nil))
abbrev z27 : CS := .ro y25
abbrev w28 : OS := .sl 56 y19
abbrev z29 : CS := .p 101
abbrev z30 : CS := .h 102
abbrev y31 : Ty := .st (.cons y2 (.cons .bool (.cons y2 (.cons y2 (.cons y2 (.cons (.list 3 y2) .nil))))))
abbrev w32 : OS := .box y31 (.agg (.cons z3 (.cons z1 (.cons z3 (.cons z3 (.cons z3 (.cons (.h 103) .nil)))))))
abbrev w33 : OS := .box y31 (.agg (.cons z3 (.cons z1 (.cons z3 (.cons z3 (.cons z3 (.cons (.h 104) .nil)))))))
abbrev y34 : Ty := .st (.cons y2 (.cons y2 (.cons y19 u5)))
abbrev z35 : CS := .ro (.list 89 y34)
abbrev w36 : OS := .sl 89 y34
abbrev w37 : OS := .box y34 (.agg (.cons z3 (.cons z3 (.cons z20 v6))))
abbrev y38 : Ty := .st (.cons y2 (.cons .bool (.cons y19 (.cons y19 .nil))))
abbrev y39 : Ty := .st (.cons .bool (.cons y38 .nil))
abbrev z40 : CS := .ro (.list 65 y39)
abbrev w41 : OS := .sl 4 .bool
abbrev y42 : Ty := .st (.cons y2 (.cons y2 (.cons y19 .nil)))
abbrev y43 : Ty := .list 105 y42
abbrev w44 : OS := .sl 61 y43
abbrev w45 : OS := .sh 63 (.st (.cons y43 .nil))
abbrev z46 : CS := .ro (.list 68 y25)
abbrev z47 : CS := .ro (.st (.cons y2 u5))
abbrev z48 : CS := .ro y43
abbrev w49 : OS := .box (.st (.cons y2 u5)) z18
abbrev z50 : CS := .agg (.cons z3 (.cons z1 (.cons z20 (.cons z20 .nil))))
abbrev w51 : OS := .box y38 z50
abbrev y52 : Ty := .st (.cons (.list 102 y10) (.cons y23 (.cons .bool (.cons .ptr (.cons .ptr .nil)))))
abbrev w53 : OS := .box y52 (.agg (.cons z11 (.cons z24 (.cons z1 (.cons (.fn 113 .nil) (.cons (.fn 114 .nil) .nil))))))
abbrev z54 : CS := .fn 153 (.cons (.p 10) (.cons (.p 12) (.cons (.p 13) .nil)))
abbrev w55 : OS := .box y52 (.agg (.cons z11 (.cons z24 (.cons z1 (.cons z54 (.cons (.fn 154 .nil) .nil))))))
abbrev w56 : OS := .box (.list 3 y2) (.h 11)
abbrev w57 : OS := .box y2 z3
abbrev w58 : OS := .box y23 (.h 14)
abbrev w59 : OS := .box y23 z14
def f15c (k : Nat) : Con := ⟨⟨[(0, z0)], []⟩, ⟨[(0, z1)], []⟩, 1, 1, fun x => laws_big k x⟩
theorem f15ok (k : Nat) : FnOk Try.prog 15 (f15c k) := ok (cx [] 6 nb) Try.f15 fun h x => X h
def f15 (k : Nat) : Fc Try.prog := ⟨15, _, f15ok k⟩
def f38s3 : SS := ⟨[(0, z0), (3, z3), (4, z3)], []⟩
def f38c (k : Nat) : Con := ⟨⟨[(0, z0)], []⟩, ⟨[(0, z4)], [(100, w7)]⟩, 1, 1, fun x => spec_l1New k x⟩
theorem f38ok (k : Nat) : FnOk Try.prog 38 (f38c k) := ok (cx [] 32 nb) Try.f38 fun h x => Q (Q (Q (X h) (Q (B (L f38s3 (fun n x => spec_l1New.l3 k n x.1 x.2.1 x.2.2) k fun n3 => X h)) (X h))) (X h)) (X h)
def f38 (k : Nat) : Fc Try.prog := ⟨38, _, f38ok k⟩
def f98s6 : SS := ⟨[(3, z3)], [(0, w7)]⟩
def f98c (k : Nat) : Con := ⟨⟨[(0, z8)], [(0, w7)]⟩, ⟨[(0, z3)], [(0, w7)]⟩, 1, 1, fun x => spec_l1Byte k x.2⟩
theorem f98ok (k : Nat) : FnOk Try.prog 98 (f98c k) := ok (cx [] 58 nb) Try.f98 fun h x => Q (Q (Q (Q (T (X h) f98s6 fun x => spec_l1Byte.c6 k x.1 x.2) (X h)) (X h)) (X h)) (X h)
def f98 (k : Nat) : Fc Try.prog := ⟨98, _, f98ok k⟩
def f43c (k : Nat) : Con := ⟨⟨[(0, z8), (1, z3)], [(0, w7)]⟩, ⟨[(0, z3)], [(0, w7)]⟩, 2, 1, fun x => spec_l1Below k x.1.2 x.2⟩
theorem f43ok (k : Nat) : FnOk Try.prog 43 (f43c k) := ok (cx [f98 k] 37 nb) Try.f43 fun h x => X h
def f43 (k : Nat) : Fc Try.prog := ⟨43, _, f43ok k⟩
def f28c (k : Nat) : Con := ⟨⟨[(0, z3), (1, z3), (2, z3)], []⟩, ⟨[(0, z1)], []⟩, 3, 1, fun x => spec_l1In k x.1 x.2.1 x.2.2⟩
theorem f28ok (k : Nat) : FnOk Try.prog 28 (f28c k) := ok (cx [] 15 nb) Try.f28 fun h x => X h
def f28 (k : Nat) : Fc Try.prog := ⟨28, _, f28ok k⟩
def f63s7 : SS := ⟨[(4, z1)], []⟩
def f63c (k : Nat) : Con := ⟨⟨[(0, z3)], []⟩, ⟨[(0, z1)], []⟩, 1, 1, fun x => spec_l5Type k x⟩
theorem f63ok (k : Nat) : FnOk Try.prog 63 (f63c k) := ok (cx [] 10 nb) Try.f63 fun h x => Q (Q (X h) (Q (B (Q (T (X h) f63s7 fun x => spec_l5Type.c7 k x) (X h))) (X h))) (X h)
def f63 (k : Nat) : Fc Try.prog := ⟨63, _, f63ok k⟩
def f145s4 : SS := ⟨[(0, z9), (3, z3)], []⟩
def f145c (k : Nat) : Con := ⟨⟨[(0, z9)], []⟩, ⟨[(0, z1)], []⟩, 1, 1, fun x => spec_l5Name k x⟩
theorem f145ok (k : Nat) : FnOk Try.prog 145 (f145c k) := ok (cx [f28 k] 24 nb) Try.f145 fun h x => Q (Q (Q (X h) (Q (B (L f145s4 (fun n x => spec_l5Name.l4 k n x.1 x.2) k fun n4 => X h)) (X h))) (X h)) (X h)
def f145 (k : Nat) : Fc Try.prog := ⟨145, _, f145ok k⟩
def f99s20 : SS := ⟨[(0, z11), (2, z3), (7, z4), (8, z3), (9, z12), (10, z3), (11, z3)], [(100, w13), (101, (.sl 9 .str))]⟩
def f99s15 : SS := ⟨[(0, z11), (2, z3), (7, z4), (8, z3), (9, z12), (10, z3)], [(100, w13), (101, (.sl 9 .str))]⟩
def f99con (F : (List TCol) → Int → Int → Option Int) : Con := ⟨⟨[(0, z11), (1, z3), (2, z3)], []⟩, ⟨[(0, z3)], []⟩, 3, 1, fun x => F x.1 x.2.1 x.2.2⟩
theorem f99okb (k : Nat) (S99 : (List TCol) → Int → Int → Option Int) (h99 : FnOk Try.prog 99 (f99con S99)) : FnOk Try.prog 99 (f99con (spec_l5Check.b k S99)) := ok (cx [f28 k, f63 k, ⟨99, _, h99⟩, f145 k] 119 nb) Try.f99 fun h x => Q (Q (Q (Q (Q (Q (Q (Q (Q (X h) (Q (B (L f99s15 (fun n x => spec_l5Check.l15 k S99 n x.1.1 x.1.2.1 x.1.2.2.2.1 x.1.2.2.2.2.2 x.2.1 x.2.2) k fun n15 => Q (Q (X h) (B (Q (Q (X h) (Q (B (L f99s20 (fun n x => spec_l5Check.l20 k S99 (spec_l5Check.l15 k S99 n15) n x.1.1 x.1.2.1 x.1.2.2.2.1 x.1.2.2.2.2.2.1 x.1.2.2.2.2.2.2 x.2.1 x.2.2) k fun n20 => X h)) (X h))) (X h)))) (X h))) (X h))) (X h)) (X h)) (X h)) (X h)) (X h)) (X h)) (X h)) (X h)
theorem f99rec (k : Nat) : ∀ d, FnOk Try.prog 99 (f99con (spec_l5Check.d k d))
  | 0 => FnOk_none (fun _ => rfl)
  | d + 1 => let ih := f99rec k d
    f99okb k (spec_l5Check.d k d) ih
theorem f99ok (k : Nat) : FnOk Try.prog 99 (f99con (spec_l5Check k)) := (f99rec k k)
def f99 (k : Nat) : Fc Try.prog := ⟨99, _, f99ok k⟩
def f44c (k : Nat) : Con := ⟨⟨[(0, z11)], []⟩, ⟨[(0, z1)], []⟩, 1, 1, fun x => spec_SchemaOk k x⟩
theorem f44ok (k : Nat) : FnOk Try.prog 44 (f44c k) := ok (cx [f28 k, f99 k] 13 nb) Try.f44 fun h x => X h
def f44 (k : Nat) : Fc Try.prog := ⟨44, _, f44ok k⟩
def f92c (k : Nat) : Con := ⟨⟨[(0, z8), (1, z3)], [(0, w7)]⟩, ⟨[(0, z1)], [(0, w7)]⟩, 2, 1, fun x => spec_l1Once k x.1.2 x.2⟩
theorem f92ok (k : Nat) : FnOk Try.prog 92 (f92c k) := ok (cx [f43 k] 9 nb) Try.f92 fun h x => X h
def f92 (k : Nat) : Fc Try.prog := ⟨92, _, f92ok k⟩
def f93c (k : Nat) : Con := ⟨⟨[(0, z8), (1, (.ro (.list 3 y2)))], [(0, w7)]⟩, ⟨[(0, z3)], [(0, w7)]⟩, 2, 1, fun x => spec_l1PickInt k x.1.2 x.2⟩
theorem f93ok (k : Nat) : FnOk Try.prog 93 (f93c k) := ok (cx [f43 k] 12 nb) Try.f93 fun h x => X h
def f93 (k : Nat) : Fc Try.prog := ⟨93, _, f93ok k⟩
def f138s13 : SS := ⟨[(0, z8), (2, z3), (3, z14), (11, z3), (12, z3)], [(0, w7), (100, w15)]⟩
def f138s12 : SS := ⟨[(0, z8), (2, z3), (3, z14), (11, z3)], [(0, w7), (100, w15)]⟩
def f138s4 : SS := ⟨[(0, z8), (1, z9), (2, z3), (3, z16), (9, z4)], [(0, w7), (10, w15), (100, w13)]⟩
def f138con (F : ByteArray → Int → TL1Cur → (List TCol) → Option (Unit × TL1Cur × (List TCol))) : Con := ⟨⟨[(0, z8), (1, z9), (2, z3), (3, z16)], [(0, w7), (10, w15)]⟩, ⟨[(0, z14)], [(0, w7), (100, w15)]⟩, 4, 1, fun x => F x.1.2.1 x.1.2.2.1 x.2.1 x.2.2⟩
theorem f138okb (k : Nat) (S138 : ByteArray → Int → TL1Cur → (List TCol) → Option (Unit × TL1Cur × (List TCol))) (h138 : FnOk Try.prog 138 (f138con S138)) : FnOk Try.prog 138 (f138con (spec_l5DrawCol.b k S138)) := ok (cx [f43 k, f92 k, f93 k, ⟨138, _, h138⟩] 75 (fun s => Nat.beq s 22 || Nat.beq s 25)) Try.f138 fun h x => Q (Q (Q (T (Q (Q (Q (Q (Q (Q (T (Q (X h) (Q (B (L f138s13 (fun n x => spec_l5DrawCol.l13 k S138 n x.1.2.1 x.1.2.2.2.1 x.1.2.2.2.2 x.2.1 x.2.2) k fun n13 => X h)) (X h))) f138s12 fun x => spec_l5DrawCol.c12 k S138 x.1.2.1 x.1.2.2.2 x.2.1 x.2.2) (X h)) (X h)) (X h)) (X h)) (X h)) (X h)) f138s4 fun x => spec_l5DrawCol.c4 k S138 x.1.2.1 x.1.2.2.1 x.2.1 x.2.2.1 x.2.2.2) (X h)) (X h)) (X h)
theorem f138rec (k : Nat) : ∀ d, FnOk Try.prog 138 (f138con (spec_l5DrawCol.d k d))
  | 0 => FnOk_none (fun _ => rfl)
  | d + 1 => let ih := f138rec k d
    f138okb k (spec_l5DrawCol.d k d) ih
theorem f138ok (k : Nat) : FnOk Try.prog 138 (f138con (spec_l5DrawCol k)) := (f138rec k k)
def f138 (k : Nat) : Fc Try.prog := ⟨138, _, f138ok k⟩
def f89s2 : SS := ⟨[(0, z8), (3, z3)], [(0, w7)]⟩
def f89c (k : Nat) : Con := ⟨⟨[(0, z8)], [(0, w7)]⟩, ⟨[(0, z14)], [(0, w7), (100, w15)]⟩, 1, 1, fun x => spec_l5DrawRight k x.2⟩
theorem f89ok (k : Nat) : FnOk Try.prog 89 (f89c k) := ok (cx [f43 k, f44 k, f138 k] 21 nb) Try.f89 fun h x => Q (Q (X h) (Q (B (L f89s2 (fun n x => spec_l5DrawRight.l2 k n x.1.2 x.2) k fun n2 => X h)) (X h))) (X h)
def f89 (k : Nat) : Fc Try.prog := ⟨89, _, f89ok k⟩
def f53s4 : SS := ⟨[(0, z11), (3, z14), (4, z3)], [(100, w17)]⟩
def f53s3 : SS := ⟨[(0, z11), (3, z14), (4, z3)], [(100, w17)]⟩
def f53c (k : Nat) : Con := ⟨⟨[(0, z11)], []⟩, ⟨[(0, z14)], [(100, w17)]⟩, 1, 1, fun x => spec_l5Leaves k x⟩
theorem f53ok (k : Nat) : FnOk Try.prog 53 (f53c k) := ok (cx [] 23 nb) Try.f53 fun h x => Q (Q (Q (X h) (Q (B (L f53s3 (fun n x => spec_l5Leaves.l3 k n x.1.1 x.1.2.2 x.2) k fun n3 => Q (Q (T (X h) f53s4 fun x => spec_l5Leaves.c4 k (spec_l5Leaves.l3 k n3) x.1.1 x.1.2.2 x.2) (X h)) (X h))) (X h))) (X h)) (X h)
def f53 (k : Nat) : Fc Try.prog := ⟨53, _, f53ok k⟩
def f56c (k : Nat) : Con := ⟨⟨[(0, z11)], []⟩, ⟨[(0, z14)], [(100, w17)]⟩, 1, 1, fun x => spec_SchemaLeaves k x⟩
theorem f56ok (k : Nat) : FnOk Try.prog 56 (f56c k) := ok (cx [f44 k, f53 k] 9 nb) Try.f56 fun h x => X h
def f56 (k : Nat) : Fc Try.prog := ⟨56, _, f56ok k⟩
def f107s3 : SS := ⟨[(0, z11), (1, z3), (5, z3), (6, z3)], []⟩
def f107con (F : (List TCol) → Int → Option Int) : Con := ⟨⟨[(0, z11), (1, z3)], []⟩, ⟨[(0, z3)], []⟩, 2, 1, fun x => F x.1 x.2⟩
theorem f107okb (k : Nat) (S107 : (List TCol) → Int → Option Int) (h107 : FnOk Try.prog 107 (f107con S107)) : FnOk Try.prog 107 (f107con (spec_l5After.b k S107)) := ok (cx [⟨107, _, h107⟩] 22 nb) Try.f107 fun h x => Q (Q (Q (X h) (Q (B (L f107s3 (fun n x => spec_l5After.l3 k S107 n x.1 x.2.1 x.2.2.1 x.2.2.2) k fun n3 => X h)) (X h))) (X h)) (X h)
theorem f107rec (k : Nat) : ∀ d, FnOk Try.prog 107 (f107con (spec_l5After.d k d))
  | 0 => FnOk_none (fun _ => rfl)
  | d + 1 => let ih := f107rec k d
    f107okb k (spec_l5After.d k d) ih
theorem f107ok (k : Nat) : FnOk Try.prog 107 (f107con (spec_l5After k)) := (f107rec k k)
def f107 (k : Nat) : Fc Try.prog := ⟨107, _, f107ok k⟩
def f108s4 : SS := ⟨[(0, z11), (1, z3), (5, z14), (6, z3)], [(100, w17)]⟩
def f108s3 : SS := ⟨[(0, z11), (1, z3), (5, z14), (6, z3)], [(100, w17)]⟩
def f108c (k : Nat) : Con := ⟨⟨[(0, z11), (1, z3)], []⟩, ⟨[(0, z14)], [(100, w17)]⟩, 2, 1, fun x => spec_l5Way k x.1 x.2⟩
theorem f108ok (k : Nat) : FnOk Try.prog 108 (f108c k) := ok (cx [f107 k] 23 nb) Try.f108 fun h x => Q (Q (Q (X h) (Q (B (L f108s3 (fun n x => spec_l5Way.l3 k n x.1.1 x.1.2.1 x.1.2.2.2 x.2) k fun n3 => Q (Q (T (X h) f108s4 fun x => spec_l5Way.c4 k (spec_l5Way.l3 k n3) x.1.1 x.1.2.1 x.1.2.2.2 x.2) (X h)) (X h))) (X h))) (X h)) (X h)
def f108 (k : Nat) : Fc Try.prog := ⟨108, _, f108ok k⟩
def f57s5 : SS := ⟨[(0, z11), (6, z3), (7, z3), (8, z14), (9, z3)], [(100, w17)]⟩
def f57s8 : SS := ⟨[(0, z11), (6, z3), (7, z3), (8, z14), (9, z3)], [(100, w17)]⟩
def f57s4 : SS := ⟨[(0, z11), (6, z3), (7, z3), (8, z14), (9, z3)], [(100, w17)]⟩
def f57c (k : Nat) : Con := ⟨⟨[(0, z11), (1, z3)], []⟩, ⟨[(0, z3), (1, z3)], []⟩, 2, 2, fun x => spec_l5Max k x.1 x.2⟩
theorem f57ok (k : Nat) : FnOk Try.prog 57 (f57c k) := ok (cx [f108 k] 43 nb) Try.f57 fun h x => Q (Q (Q (Q (X h) (Q (B (L f57s4 (fun n x => spec_l5Max.l4 k n x.1.1 x.1.2.1 x.1.2.2.1 x.1.2.2.2.2 x.2) k fun n4 => Q (Q (T (X h) f57s5 fun x => spec_l5Max.c5 k (spec_l5Max.l4 k n4) x.1.1 x.1.2.1 x.1.2.2.1 x.1.2.2.2.2 x.2) (B (Q (T (X h) f57s8 fun x => spec_l5Max.c8 k (spec_l5Max.l4 k n4) x.1.1 x.1.2.1 x.1.2.2.1 x.1.2.2.2.2 x.2) (X h)))) (X h))) (X h))) (X h)) (X h)) (X h)
def f57 (k : Nat) : Fc Try.prog := ⟨57, _, f57ok k⟩
def f21c (k : Nat) : Con := ⟨⟨[(0, z11), (1, z3)], []⟩, ⟨[(0, z18), (1, z1)], []⟩, 2, 2, fun x => spec_LeafOf k x.1 x.2⟩
theorem f21ok (k : Nat) : FnOk Try.prog 21 (f21c k) := ok (cx [f28 k, f56 k, f57 k] 38 nb) Try.f21 fun h x => X h
def f21 (k : Nat) : Fc Try.prog := ⟨21, _, f21ok k⟩
def f90s4 : SS := ⟨[(0, z11), (3, z14), (4, z3)], [(100, w17)]⟩
def f90s3 : SS := ⟨[(0, z11), (3, z14), (4, z3)], [(100, w17)]⟩
def f90c (k : Nat) : Con := ⟨⟨[(0, z11)], []⟩, ⟨[(0, z14)], [(100, w17)]⟩, 1, 1, fun x => spec_l20Leaves k x⟩
theorem f90ok (k : Nat) : FnOk Try.prog 90 (f90c k) := ok (cx [f21 k, f53 k] 32 nb) Try.f90 fun h x => Q (Q (Q (X h) (Q (B (L f90s3 (fun n x => spec_l20Leaves.l3 k n x.1.1 x.1.2.2 x.2) k fun n3 => Q (Q (T (X h) f90s4 fun x => spec_l20Leaves.c4 k (spec_l20Leaves.l3 k n3) x.1.1 x.1.2.2 x.2) (X h)) (X h))) (X h))) (X h)) (X h)
def f90 (k : Nat) : Fc Try.prog := ⟨90, _, f90ok k⟩
def f39s3 : SS := ⟨[(0, z8), (3, z14), (4, z3)], [(0, w7), (100, w15)]⟩
def f39c (k : Nat) : Con := ⟨⟨[(0, z8)], [(0, w7)]⟩, ⟨[(0, z14)], [(0, w7), (100, w15)]⟩, 1, 1, fun x => spec_l20DrawSchema k x.2⟩
theorem f39ok (k : Nat) : FnOk Try.prog 39 (f39c k) := ok (cx [f89 k, f90 k] 20 nb) Try.f39 fun h x => Q (Q (Q (X h) (Q (B (L f39s3 (fun n x => spec_l20DrawSchema.l3 k n x.1.2.2 x.2.1 x.2.2) k fun n3 => X h)) (X h))) (X h)) (X h)
def f39 (k : Nat) : Fc Try.prog := ⟨39, _, f39ok k⟩
def f125c (k : Nat) : Con := ⟨⟨[(0, z3)], []⟩, ⟨[(0, z1)], []⟩, 1, 1, fun x => spec_l4Int k x⟩
theorem f125ok (k : Nat) : FnOk Try.prog 125 (f125c k) := ok (cx [f28 k] 5 nb) Try.f125 fun h x => X h
def f125 (k : Nat) : Fc Try.prog := ⟨125, _, f125ok k⟩
def f75s8 : SS := ⟨[(3, z4), (5, z3), (26, z1)], [(100, w21)]⟩
def f75c (k : Nat) : Con := ⟨⟨[(0, z3), (1, z22)], []⟩, ⟨[(0, z1)], []⟩, 2, 1, fun x => spec_ValOk k x.1 x.2⟩
theorem f75ok (k : Nat) : FnOk Try.prog 75 (f75c k) := ok (cx [f28 k, f125 k] 43 nb) Try.f75 fun h x => Q (Q (X h) (Q (B (Q (D (X h) (Q (D (X h) (Q (T (X h) f75s8 fun x => spec_ValOk.c8 k x.1.2.1 x.1.2.2 x.2) (X h))) (X h))) (X h))) (X h))) (X h)
def f75 (k : Nat) : Fc Try.prog := ⟨75, _, f75ok k⟩
def f161c (k : Nat) : Con := ⟨⟨[(0, z22), (1, z3)], []⟩, ⟨[(0, z3)], []⟩, 2, 1, fun x => spec_l13Count k x.1 x.2⟩
theorem f161ok (k : Nat) : FnOk Try.prog 161 (f161c k) := ok (cx [f28 k] 17 nb) Try.f161 fun h x => X h
def f161 (k : Nat) : Fc Try.prog := ⟨161, _, f161ok k⟩
def f104s7 : SS := ⟨[(0, z11), (1, z3), (2, z24), (3, z3), (9, z3), (10, z3)], []⟩
def f104con (F : (List TCol) → Int → (List TVal) → Int → Option Int) : Con := ⟨⟨[(0, z11), (1, z3), (2, z24), (3, z3)], []⟩, ⟨[(0, z3)], []⟩, 4, 1, fun x => F x.1 x.2.1 x.2.2.1 x.2.2.2⟩
def f150s13 : SS := ⟨[(0, z11), (1, z3), (2, z24), (3, z3), (9, z3), (11, z3)], []⟩
def f150s12 : SS := ⟨[(0, z11), (1, z3), (2, z24), (3, z3), (9, z3)], []⟩
def f150s6 : SS := ⟨[(0, z11), (1, z3), (2, z24), (3, z3), (10, z3)], []⟩
def f150con (F : (List TCol) → Int → (List TVal) → Int → Option Int) : Con := ⟨⟨[(0, z11), (1, z3), (2, z24), (3, z3)], []⟩, ⟨[(0, z3)], []⟩, 4, 1, fun x => F x.1 x.2.1 x.2.2.1 x.2.2.2⟩
theorem f104okb (k : Nat) (S104 : (List TCol) → Int → (List TVal) → Int → Option Int) (S150 : (List TCol) → Int → (List TVal) → Int → Option Int) (h104 : FnOk Try.prog 104 (f104con S104)) (h150 : FnOk Try.prog 150 (f150con S150)) : FnOk Try.prog 104 (f104con (spec_l13Content.b k S104 S150)) := ok (cx [f75 k, f107 k, ⟨150, _, h150⟩] 58 nb) Try.f104 fun h x => Q (Q (Q (Q (X h) (Q (B (L f104s7 (fun n x => spec_l13Content.l7 k S150 n x.1 x.2.1 x.2.2.1 x.2.2.2.1 x.2.2.2.2.1 x.2.2.2.2.2) k fun n7 => X h)) (X h))) (X h)) (X h)) (X h)
theorem f150okb (k : Nat) (S104 : (List TCol) → Int → (List TVal) → Int → Option Int) (S150 : (List TCol) → Int → (List TVal) → Int → Option Int) (h104 : FnOk Try.prog 104 (f104con S104)) (h150 : FnOk Try.prog 150 (f150con S150)) : FnOk Try.prog 150 (f150con (spec_l13Part.b k S104 S150)) := ok (cx [⟨104, _, h104⟩, f161 k] 51 nb) Try.f150 fun h x => Q (Q (Q (T (Q (X h) (Q (B (L f150s13 (fun n x => spec_l13Part.l13 k S104 n x.1 x.2.1 x.2.2.1 x.2.2.2.1 x.2.2.2.2.1 x.2.2.2.2.2) k fun n13 => X h)) (X h))) f150s12 fun x => spec_l13Part.c12 k S104 x.1 x.2.1 x.2.2.1 x.2.2.2.1 x.2.2.2.2) (Q (D (Q (Q (T (X h) f150s6 fun x => spec_l13Part.c6 k S104 x.1 x.2.1 x.2.2.1 x.2.2.2.1 x.2.2.2.2) (X h)) (X h)) (X h)) (X h))) (X h)) (X h)
theorem f104rec (k : Nat) : ∀ d, FnOk Try.prog 104 (f104con (spec_l13Content.d k d)) ∧ FnOk Try.prog 150 (f150con (spec_l13Part.d k d))
  | 0 => ⟨FnOk_none (fun _ => rfl), FnOk_none (fun _ => rfl)⟩
  | d + 1 => let ih := f104rec k d
    ⟨f104okb k (spec_l13Content.d k d) (spec_l13Part.d k d) ih.1 ih.2, f150okb k (spec_l13Content.d k d) (spec_l13Part.d k d) ih.1 ih.2⟩
theorem f104ok (k : Nat) : FnOk Try.prog 104 (f104con (spec_l13Content k)) := (f104rec k k).1
def f104 (k : Nat) : Fc Try.prog := ⟨104, _, f104ok k⟩
theorem f150ok (k : Nat) : FnOk Try.prog 150 (f150con (spec_l13Part k)) := (f104rec k k).2
def f150 (k : Nat) : Fc Try.prog := ⟨150, _, f150ok k⟩
def f54d1 : SS := ⟨[(0, z11), (3, z4)], [(100, w26)]⟩
def f54c (k : Nat) : Con := ⟨⟨[(0, z11), (1, z27)], []⟩, ⟨[(0, z1)], []⟩, 2, 1, fun x => spec_RecOk k x.1 x.2⟩
theorem f54ok (k : Nat) : FnOk Try.prog 54 (f54c k) := ok (cx [f44 k, f104 k] 23 nb) Try.f54 fun h x => Q (Q (X h) (K h f54d1 (fun x => spec_RecOk.d1 k x.1.1 x.2) [[0, 1, 2, 3, 4, 5, 6, 7, 8, 9, 10, 11, 13, 12, 14, 15, 16, 17, 18], [0, 1, 2, 3, 4, 5, 6, 7, 8, 9, 10, 11, 13, 14, 15, 12, 16, 17, 18]] (O (fun x => by kernel_rfl) (O (fun x => by kernel_rfl) (N))))) (X h)
def f54 (k : Nat) : Fc Try.prog := ⟨54, _, f54ok k⟩
def f142c (k : Nat) : Con := ⟨⟨[(0, z8), (1, (.ro (.list 9 .str)))], [(0, w7)]⟩, ⟨[(0, z9)], [(0, w7)]⟩, 2, 1, fun x => spec_l1Pick k x.1.2 x.2⟩
theorem f142ok (k : Nat) : FnOk Try.prog 142 (f142c k) := ok (cx [f43 k] 12 nb) Try.f142 fun h x => X h
def f142 (k : Nat) : Fc Try.prog := ⟨142, _, f142ok k⟩
def f160s4 : SS := ⟨[(0, z8), (5, z14), (6, z3), (7, z3)], [(0, w7), (100, (.sl 5 (.int .u8)))]⟩
def f160c (k : Nat) : Con := ⟨⟨[(0, z8), (1, z3)], [(0, w7)]⟩, ⟨[(0, z14)], [(0, w7), (100, (.sl 5 (.int .u8)))]⟩, 2, 1, fun x => spec_l1DrawBytes k x.1.2 x.2⟩
theorem f160ok (k : Nat) : FnOk Try.prog 160 (f160c k) := ok (cx [f43 k, f98 k] 25 nb) Try.f160 fun h x => Q (Q (Q (Q (X h) (Q (B (L f160s4 (fun n x => spec_l1DrawBytes.l4 k n x.1.2.2.1 x.1.2.2.2 x.2.1 x.2.2) k fun n4 => X h)) (X h))) (X h)) (X h)) (X h)
def f160 (k : Nat) : Fc Try.prog := ⟨160, _, f160ok k⟩
def f143c (k : Nat) : Con := ⟨⟨[(0, z8), (1, z3)], [(0, w7)]⟩, ⟨[(0, z9)], [(0, w7)]⟩, 2, 1, fun x => spec_l4DrawText k x.1.2 x.2⟩
theorem f143ok (k : Nat) : FnOk Try.prog 143 (f143c k) := ok (cx [f160 k] 9 nb) Try.f143 fun h x => X h
def f143 (k : Nat) : Fc Try.prog := ⟨143, _, f143ok k⟩
def f144c (k : Nat) : Con := ⟨⟨[(0, z8)], [(0, w7)]⟩, ⟨[(0, z3)], [(0, w7)]⟩, 1, 1, fun x => spec_l2DrawNum k x.2⟩
theorem f144ok (k : Nat) : FnOk Try.prog 144 (f144c k) := ok (cx [f43 k, f93 k] 13 nb) Try.f144 fun h x => X h
def f144 (k : Nat) : Fc Try.prog := ⟨144, _, f144ok k⟩
def f97c (k : Nat) : Con := ⟨⟨[(0, z8), (1, z3)], [(0, w7)]⟩, ⟨[(0, z20)], [(0, w7)]⟩, 2, 1, fun x => spec_l6DrawRight k x.1.2 x.2⟩
theorem f97ok (k : Nat) : FnOk Try.prog 97 (f97c k) := ok (cx [f43 k, f92 k, f93 k, f142 k, f143 k, f144 k] 53 nb) Try.f97 fun h x => X h
def f97 (k : Nat) : Fc Try.prog := ⟨97, _, f97ok k⟩
def f139s11 : SS := ⟨[(0, z8), (1, z11), (2, z3), (3, z14), (9, z3), (10, z3)], [(0, w7), (100, w28)]⟩
def f139s16 : SS := ⟨[(0, z8), (1, z11), (2, z3), (3, z14), (9, z3), (10, z3), (11, z3), (12, z3)], [(0, w7), (100, w28)]⟩
def f139s10 : SS := ⟨[(0, z8), (1, z11), (2, z3), (3, z14), (9, z3), (10, z3)], [(0, w7), (100, w28)]⟩
def f139s9 : SS := ⟨[(0, z8), (1, z11), (2, z3), (3, z14), (9, z3)], [(0, w7), (100, w28)]⟩
def f139s8 : SS := ⟨[(0, z8), (1, z11), (2, z3), (3, z16), (9, z3)], [(0, w7), (10, w28)]⟩
def f139con (F : (List TCol) → Int → TL1Cur → (List TVal) → Option (Unit × TL1Cur × (List TVal))) : Con := ⟨⟨[(0, z8), (1, z11), (2, z3), (3, z16)], [(0, w7), (10, w28)]⟩, ⟨[(0, z14)], [(0, w7), (100, w28)]⟩, 4, 1, fun x => F x.1.2.1 x.1.2.2.1 x.2.1 x.2.2⟩
theorem f139okb (k : Nat) (S139 : (List TCol) → Int → TL1Cur → (List TVal) → Option (Unit × TL1Cur × (List TVal))) (h139 : FnOk Try.prog 139 (f139con S139)) : FnOk Try.prog 139 (f139con (spec_l13DrawPart.b k S139)) := ok (cx [f43 k, f92 k, f97 k, f107 k, ⟨139, _, h139⟩] 81 nb) Try.f139 fun h x => Q (Q (Q (T (Q (X h) (Q (B (L f139s10 (fun n x => spec_l13DrawPart.l10 k S139 n x.1.2.1 x.1.2.2.1 x.1.2.2.2.2.1 x.1.2.2.2.2.2 x.2.1 x.2.2) k fun n10 => Q (Q (T (X h) f139s11 fun x => spec_l13DrawPart.c11 k (spec_l13DrawPart.l10 k S139 n10) x.1.2.1 x.1.2.2.1 x.1.2.2.2.2.1 x.1.2.2.2.2.2 x.2.1 x.2.2) (B (Q (Q (Q (B (L f139s16 (fun n x => spec_l13DrawPart.l16 k S139 (spec_l13DrawPart.l10 k S139 n10) n x.1.2.1 x.1.2.2.1 x.1.2.2.2.2.1 x.1.2.2.2.2.2.1 x.1.2.2.2.2.2.2.1 x.1.2.2.2.2.2.2.2 x.2.1 x.2.2) k fun n16 => X h)) (X h)) (X h)) (X h)))) (X h))) (X h))) f139s9 fun x => spec_l13DrawPart.c9 k S139 x.1.2.1 x.1.2.2.1 x.1.2.2.2.2 x.2.1 x.2.2) (Q (D (Q (Q (T (X h) f139s8 fun x => spec_l13DrawPart.c8 k S139 x.1.2.1 x.1.2.2.1 x.1.2.2.2.2 x.2.1 x.2.2) (X h)) (X h)) (X h)) (X h))) (X h)) (X h)
theorem f139rec (k : Nat) : ∀ d, FnOk Try.prog 139 (f139con (spec_l13DrawPart.d k d))
  | 0 => FnOk_none (fun _ => rfl)
  | d + 1 => let ih := f139rec k d
    f139okb k (spec_l13DrawPart.d k d) ih
theorem f139ok (k : Nat) : FnOk Try.prog 139 (f139con (spec_l13DrawPart k)) := (f139rec k k)
def f139 (k : Nat) : Fc Try.prog := ⟨139, _, f139ok k⟩
def f159s6 : SS := ⟨[(0, z11), (1, z3), (5, z14), (6, z3), (7, z3)], [(100, w28)]⟩
def f159con (F : (List TCol) → Int → Option (Unit × (List TVal))) : Con := ⟨⟨[(0, z11), (1, z3)], []⟩, ⟨[(0, z14)], [(100, w28)]⟩, 2, 1, fun x => F x.1 x.2⟩
theorem f159okb (k : Nat) (S159 : (List TCol) → Int → Option (Unit × (List TVal))) (h159 : FnOk Try.prog 159 (f159con S159)) : FnOk Try.prog 159 (f159con (spec_l13Empty.b k S159)) := ok (cx [f107 k, ⟨159, _, h159⟩] 49 nb) Try.f159 fun h x => Q (Q (Q (Q (Q (X h) (Q (B (L f159s6 (fun n x => spec_l13Empty.l6 k S159 n x.1.1 x.1.2.1 x.1.2.2.2.1 x.1.2.2.2.2 x.2) k fun n6 => X h)) (X h))) (X h)) (X h)) (X h)) (X h)
theorem f159rec (k : Nat) : ∀ d, FnOk Try.prog 159 (f159con (spec_l13Empty.d k d))
  | 0 => FnOk_none (fun _ => rfl)
  | d + 1 => let ih := f159rec k d
    f159okb k (spec_l13Empty.d k d) ih
theorem f159ok (k : Nat) : FnOk Try.prog 159 (f159con (spec_l13Empty k)) := (f159rec k k)
def f159 (k : Nat) : Fc Try.prog := ⟨159, _, f159ok k⟩
def f140c (k : Nat) : Con := ⟨⟨[(0, z11)], []⟩, ⟨[(0, (.agg (.cons z14 .nil))), (1, z1)], [(100, w28)]⟩, 1, 2, fun x => spec_RecEmpty k x⟩
theorem f140ok (k : Nat) : FnOk Try.prog 140 (f140c k) := ok (cx [f44 k, f159 k] 11 nb) Try.f140 fun h x => X h
def f140 (k : Nat) : Fc Try.prog := ⟨140, _, f140ok k⟩
def f91s4 : SS := ⟨[(4, z4), (5, z29)], [(0, w7), (100, (.box y25 (.agg (.cons (.h 103) .nil)))), (101, (.box y25 (.agg (.cons z30 .nil)))), (102, w28), (103, w28)]⟩
def f91c (k : Nat) : Con := ⟨⟨[(0, z8), (1, z11)], [(0, w7)]⟩, ⟨[(0, (.agg (.cons z14 .nil)))], [(0, w7), (100, w28)]⟩, 2, 1, fun x => spec_l13DrawRight k x.1.2 x.2⟩
theorem f91ok (k : Nat) : FnOk Try.prog 91 (f91c k) := ok (cx [f54 k, f139 k, f140 k] 21 nb) Try.f91 fun h x => Q (Q (Q (T (X h) f91s4 fun x => spec_l13DrawRight.c4 k x.2.1 x.2.2.1 x.2.2.2.1 x.2.2.2.2.1 x.2.2.2.2.2) (X h)) (X h)) (X h)
def f91 (k : Nat) : Fc Try.prog := ⟨91, _, f91ok k⟩
def f40s4 : SS := ⟨[(0, z8), (1, z11), (7, z14), (8, z3), (9, z3)], [(0, w7), (100, (.sl 68 y25))]⟩
def f40c (k : Nat) : Con := ⟨⟨[(0, z8), (1, z11), (2, z3)], [(0, w7)]⟩, ⟨[(0, z14)], [(0, w7), (100, (.sl 68 y25))]⟩, 3, 1, fun x => spec_l14DrawRecs k x.1.2.1 x.1.2.2 x.2⟩
theorem f40ok (k : Nat) : FnOk Try.prog 40 (f40c k) := ok (cx [f43 k, f91 k] 27 nb) Try.f40 fun h x => Q (Q (Q (Q (X h) (Q (B (L f40s4 (fun n x => spec_l14DrawRecs.l4 k n x.1.2.1 x.1.2.2.2.1 x.1.2.2.2.2 x.2.1 x.2.2) k fun n4 => X h)) (X h))) (X h)) (X h)) (X h)
def f40 (k : Nat) : Fc Try.prog := ⟨40, _, f40ok k⟩
def f64s6 : SS := ⟨[(6, z1)], []⟩
def f64c (k : Nat) : Con := ⟨⟨[(0, z3)], []⟩, ⟨[(0, z3)], []⟩, 1, 1, fun x => spec_SplitWide k x⟩
theorem f64ok (k : Nat) : FnOk Try.prog 64 (f64c k) := ok (cx [] 9 nb) Try.f64 fun h x => Q (Q (X h) (Q (B (Q (D (X h) (Q (T (X h) f64s6 fun x => spec_SplitWide.c6 k x) (X h))) (X h))) (X h))) (X h)
def f64 (k : Nat) : Fc Try.prog := ⟨64, _, f64ok k⟩
def f27s13 : SS := ⟨[(1, z3), (8, z3), (24, z1)], []⟩
def f27s6 : SS := ⟨[(1, z3), (8, z3), (9, z1)], []⟩
def f27c (k : Nat) : Con := ⟨⟨[(0, z3), (1, z3)], []⟩, ⟨[(0, z1)], []⟩, 2, 1, fun x => spec_EncOk k x.1 x.2⟩
theorem f27ok (k : Nat) : FnOk Try.prog 27 (f27c k) := ok (cx [f63 k, f64 k] 34 nb) Try.f27 fun h x => Q (Q (Q (X h) (Q (B (Q (T (D (X h) (Q (D (X h) (Q (D (X h) (Q (T (X h) f27s13 fun x => spec_EncOk.c13 k x.1 x.2.1 x.2.2) (X h))) (X h))) (X h))) f27s6 fun x => spec_EncOk.c6 k x.1 x.2.1 x.2.2) (X h))) (X h))) (X h)) (X h)
def f27 (k : Nat) : Fc Try.prog := ⟨27, _, f27ok k⟩
def f94s4 : SS := ⟨[(0, z8), (1, z3), (5, z14), (6, z3)], [(0, w7), (100, w17)]⟩
def f94s3 : SS := ⟨[(0, z8), (1, z3), (5, z14), (6, z3)], [(0, w7), (100, w17)]⟩
def f94c (k : Nat) : Con := ⟨⟨[(0, z8), (1, z3)], [(0, w7)]⟩, ⟨[(0, z3)], [(0, w7)]⟩, 2, 1, fun x => spec_l16DrawEnc k x.1.2 x.2⟩
theorem f94ok (k : Nat) : FnOk Try.prog 94 (f94c k) := ok (cx [f27 k, f43 k, f92 k, f93 k] 31 nb) Try.f94 fun h x => Q (Q (Q (X h) (Q (B (L f94s3 (fun n x => spec_l16DrawEnc.l3 k n x.1.2.1 x.1.2.2.2 x.2.1 x.2.2) k fun n3 => Q (Q (T (X h) f94s4 fun x => spec_l16DrawEnc.c4 k (spec_l16DrawEnc.l3 k n3) x.1.2.1 x.1.2.2.2 x.2.1 x.2.2) (X h)) (X h))) (X h))) (X h)) (X h)
def f94 (k : Nat) : Fc Try.prog := ⟨94, _, f94ok k⟩
def f41s9 : SS := ⟨[(0, z8), (1, z11), (4, z4), (5, z29), (6, z30), (7, z3), (8, z3)], [(0, w7), (100, w32), (101, w33), (102, w17), (103, w17), (104, w17)]⟩
def f41s4 : SS := ⟨[(0, z8), (1, z11), (4, z4), (5, z29), (6, z30), (7, z3)], [(0, w7), (100, w32), (101, w33), (102, w17), (103, w17), (104, w17)]⟩
def f41c (k : Nat) : Con := ⟨⟨[(0, z8), (1, z11)], [(0, w7)]⟩, ⟨[(0, (.agg (.cons z3 (.cons z1 (.cons z3 (.cons z3 (.cons z3 (.cons z14 .nil))))))))], [(0, w7), (100, w17)]⟩, 2, 1, fun x => spec_l16DrawConfig k x.1.2 x.2⟩
theorem f41ok (k : Nat) : FnOk Try.prog 41 (f41c k) := ok (cx [f27 k, f43 k, f53 k, f92 k, f93 k, f94 k] 60 nb) Try.f41 fun h x => Q (Q (Q (Q (X h) (Q (B (L f41s4 (fun n x => spec_l16DrawConfig.l4 k n x.1.2.1 x.1.2.2.2.2.2 x.2.1 x.2.2.1 x.2.2.2.1 x.2.2.2.2.1 x.2.2.2.2.2.1 x.2.2.2.2.2.2) k fun n4 => Q (Q (X h) (B (Q (Q (T (X h) f41s9 fun x => spec_l16DrawConfig.c9 k (spec_l16DrawConfig.l4 k n4) x.1.2.1 x.1.2.2.2.2.2.1 x.1.2.2.2.2.2.2 x.2.1 x.2.2.1 x.2.2.2.1 x.2.2.2.2.1 x.2.2.2.2.2.1 x.2.2.2.2.2.2) (X h)) (X h)))) (X h))) (X h))) (X h)) (X h)) (X h)
def f41 (k : Nat) : Fc Try.prog := ⟨41, _, f41ok k⟩
def f95c (k : Nat) : Con := ⟨⟨[(0, z35)], []⟩, ⟨[(0, z14), (1, z1)], [(100, w36)]⟩, 1, 2, fun x => spec_PredNot k x⟩
theorem f95ok (k : Nat) : FnOk Try.prog 95 (f95c k) := ok (cx [] 25 nb) Try.f95 fun h x => X h
def f95 (k : Nat) : Fc Try.prog := ⟨95, _, f95ok k⟩
def f141s13 : SS := ⟨[(0, z35), (1, z3), (5, z14), (6, z3), (7, z29)], [(100, w36), (101, w37)]⟩
def f141s9 : SS := ⟨[(0, z35), (1, z3), (5, z14), (6, z3), (7, z29), (20, z3), (21, z1)], [(100, w36), (101, w37)]⟩
def f141s3 : SS := ⟨[(0, z35), (1, z3), (5, z14), (6, z3)], [(100, w36)]⟩
def f141c (k : Nat) : Con := ⟨⟨[(0, z35), (1, z3)], []⟩, ⟨[(0, z14)], [(100, w36)]⟩, 2, 1, fun x => spec_l20Shift k x.1 x.2⟩
theorem f141ok (k : Nat) : FnOk Try.prog 141 (f141c k) := ok (cx [] 46 nb) Try.f141 fun h x => Q (Q (Q (X h) (Q (B (L f141s3 (fun n x => spec_l20Shift.l3 k n x.1.1 x.1.2.1 x.1.2.2.2 x.2) k fun n3 => Q (Q (X h) (B (Q (Q (T (X h) f141s13 fun x => spec_l20Shift.c13 k (spec_l20Shift.l3 k n3) x.1.1 x.1.2.1 x.1.2.2.2.1 x.2.1 x.2.2) (Q (B (Q (T (X h) f141s9 fun x => spec_l20Shift.c9 k (spec_l20Shift.l3 k n3) x.1.1 x.1.2.1 x.1.2.2.2.1 x.1.2.2.2.2.2.1 x.1.2.2.2.2.2.2 x.2.1 x.2.2) (X h))) (X h))) (X h)))) (X h))) (X h))) (X h)) (X h)
def f141 (k : Nat) : Fc Try.prog := ⟨141, _, f141ok k⟩
def f96c (k : Nat) : Con := ⟨⟨[(0, z3), (1, z35), (2, z35)], []⟩, ⟨[(0, z14), (1, z1)], [(100, w36)]⟩, 3, 2, fun x => spec_PredPair k x.1 x.2.1 x.2.2⟩
theorem f96ok (k : Nat) : FnOk Try.prog 96 (f96c k) := ok (cx [f141 k] 54 nb) Try.f96 fun h x => X h
def f96 (k : Nat) : Fc Try.prog := ⟨96, _, f96ok k⟩
def f42s18 : SS := ⟨[(13, z4)], [(0, w7), (100, w37)]⟩
def f42s10 : SS := ⟨[(0, z8), (1, z11), (2, z3), (8, z14)], [(0, w7), (100, w36)]⟩
def f42con (F : (List TCol) → Int → TL1Cur → Option (Unit × TL1Cur × (List TPred))) : Con := ⟨⟨[(0, z8), (1, z11), (2, z3)], [(0, w7)]⟩, ⟨[(0, z14)], [(0, w7), (100, w36)]⟩, 3, 1, fun x => F x.1.2.1 x.1.2.2 x.2⟩
theorem f42okb (k : Nat) (S42 : (List TCol) → Int → TL1Cur → Option (Unit × TL1Cur × (List TPred))) (h42 : FnOk Try.prog 42 (f42con S42)) : FnOk Try.prog 42 (f42con (spec_l20DrawTree.b k S42)) := ok (cx [f21 k, ⟨42, _, h42⟩, f43 k, f90 k, f92 k, f93 k, f95 k, f96 k, f97 k] 83 (fun s => Nat.beq s 25)) Try.f42 fun h x => Q (Q (Q (Q (Q (Q (T (X h) f42s18 fun x => spec_l20DrawTree.c18 k x.2.1 x.2.2) (X h)) (X h)) (Q (D (Q (Q (T (X h) f42s10 fun x => spec_l20DrawTree.c10 k S42 x.1.2.1 x.1.2.2.1 x.2.1 x.2.2) (X h)) (X h)) (X h)) (X h))) (X h)) (X h)) (X h)
theorem f42rec (k : Nat) : ∀ d, FnOk Try.prog 42 (f42con (spec_l20DrawTree.d k d))
  | 0 => FnOk_none (fun _ => rfl)
  | d + 1 => let ih := f42rec k d
    f42okb k (spec_l20DrawTree.d k d) ih
theorem f42ok (k : Nat) : FnOk Try.prog 42 (f42con (spec_l20DrawTree k)) := (f42rec k k)
def f42 (k : Nat) : Fc Try.prog := ⟨42, _, f42ok k⟩
def f16d5 : SS := ⟨[(4, z4), (6, z29), (7, z11), (8, z30), (9, (.p 103))], [(100, (.box y31 (.agg (.cons z3 (.cons z1 (.cons z3 (.cons z3 (.cons z3 (.cons (.h 105) .nil))))))))), (101, w7), (102, (.sl 68 y25)), (103, w33), (104, w17), (105, w17)]⟩
def f16c (k : Nat) : Con := ⟨⟨[(0, z0)], []⟩, ⟨[(0, z11), (1, z14), (2, (.agg (.cons z3 (.cons z1 (.cons z3 (.cons z3 (.cons z3 (.cons z12 .nil)))))))), (3, z30)], [(100, (.sl 68 y25)), (101, w17), (102, w36)]⟩, 1, 4, fun x => spec_DrawSome k x⟩
theorem f16ok (k : Nat) : FnOk Try.prog 16 (f16c k) := ok (cx [f38 k, f39 k, f40 k, f41 k, f42 k, f43 k] 29 nb) Try.f16 fun h x => Q (Q (Q (Q (Q (Q (X h) (K h f16d5 (fun x => spec_DrawSome.d5 k x.1.2.2.1 x.2.1 x.2.2.1 x.2.2.2.1 x.2.2.2.2.1 x.2.2.2.2.2.1 x.2.2.2.2.2.2) [[0, 1, 3, 4, 5, 2, 6, 7, 8, 9, 10, 11, 12], [0, 1, 3, 4, 5, 6, 7, 2, 8, 9, 10, 11, 12], [0, 1, 3, 4, 5, 6, 7, 8, 2, 9, 10, 11, 12]] (O (fun x => by kernel_rfl) (O (fun x => by kernel_rfl) (O (fun x => by kernel_rfl) (N)))))) (X h)) (X h)) (X h)) (X h)) (X h)
def f16 (k : Nat) : Fc Try.prog := ⟨16, _, f16ok k⟩
def f45s14 : SS := ⟨[(3, z4), (5, z29), (14, z3), (72, z1)], [(100, w37), (101, w37)]⟩
def f45s6 : SS := ⟨[(0, z11), (3, z4), (5, z29), (14, z3), (15, z1)], [(100, w37), (101, w37)]⟩
def f45c (k : Nat) : Con := ⟨⟨[(0, z11), (1, (.ro y34))], []⟩, ⟨[(0, z1)], []⟩, 2, 1, fun x => spec_l20Plain k x.1 x.2⟩
theorem f45ok (k : Nat) : FnOk Try.prog 45 (f45c k) := ok (cx [f21 k, f75 k] 92 nb) Try.f45 fun h x => Q (Q (Q (X h) (Q (B (Q (T (D (X h) (Q (D (X h) (Q (T (X h) f45s14 fun x => spec_l20Plain.c14 k x.1.2.2.1 x.1.2.2.2 x.2.1 x.2.2) (X h))) (X h))) f45s6 fun x => spec_l20Plain.c6 k x.1.1 x.1.2.2.2.1 x.1.2.2.2.2 x.2.1 x.2.2) (X h))) (X h))) (X h)) (X h)
def f45 (k : Nat) : Fc Try.prog := ⟨45, _, f45ok k⟩
def f46s10 : SS := ⟨[(0, z35), (1, z3), (27, z1)], []⟩
def f46con (F : (List TPred) → Int → Option Int) : Con := ⟨⟨[(0, z35), (1, z3)], []⟩, ⟨[(0, z3)], []⟩, 2, 1, fun x => F x.1 x.2⟩
theorem f46okb (k : Nat) (S46 : (List TPred) → Int → Option Int) (h46 : FnOk Try.prog 46 (f46con S46)) : FnOk Try.prog 46 (f46con (spec_l20From.b k S46)) := ok (cx [⟨46, _, h46⟩] 59 nb) Try.f46 fun h x => Q (Q (Q (X h) (Q (B (Q (D (X h) (Q (T (X h) f46s10 fun x => spec_l20From.c10 k S46 x.1 x.2.1 x.2.2) (X h))) (X h))) (X h))) (X h)) (X h)
theorem f46rec (k : Nat) : ∀ d, FnOk Try.prog 46 (f46con (spec_l20From.d k d))
  | 0 => FnOk_none (fun _ => rfl)
  | d + 1 => let ih := f46rec k d
    f46okb k (spec_l20From.d k d) ih
theorem f46ok (k : Nat) : FnOk Try.prog 46 (f46con (spec_l20From k)) := (f46rec k k)
def f46 (k : Nat) : Fc Try.prog := ⟨46, _, f46ok k⟩
def f17s4 : SS := ⟨[(0, z11), (1, z35), (5, z3)], []⟩
def f17c (k : Nat) : Con := ⟨⟨[(0, z11), (1, z35)], []⟩, ⟨[(0, z1)], []⟩, 2, 1, fun x => spec_PredOk k x.1 x.2⟩
theorem f17ok (k : Nat) : FnOk Try.prog 17 (f17c k) := ok (cx [f28 k, f44 k, f45 k, f46 k] 34 nb) Try.f17 fun h x => Q (Q (Q (X h) (Q (B (L f17s4 (fun n x => spec_PredOk.l4 k n x.1 x.2.1 x.2.2) k fun n4 => X h)) (X h))) (X h)) (X h)
def f17 (k : Nat) : Fc Try.prog := ⟨17, _, f17ok k⟩
def f33c (k : Nat) : Con := ⟨⟨[(0, z3), (1, z3), (2, z3)], []⟩, ⟨[(0, z1)], []⟩, 3, 1, fun x => impl_within k x.1 x.2.1 x.2.2⟩
theorem f33ok (k : Nat) : FnOk Try.prog 33 (f33c k) := ok (cx [] 15 nb) Try.f33 fun h x => X h
def f33 (k : Nat) : Fc Try.prog := ⟨33, _, f33ok k⟩
def f76c (k : Nat) : Con := ⟨⟨[(0, z3)], []⟩, ⟨[(0, z1)], []⟩, 1, 1, fun x => impl_TypeOk k x⟩
theorem f76ok (k : Nat) : FnOk Try.prog 76 (f76c k) := ok (cx [f33 k] 13 nb) Try.f76 fun h x => X h
def f76 (k : Nat) : Fc Try.prog := ⟨76, _, f76ok k⟩
def f148c (k : Nat) : Con := ⟨⟨[(0, (.ro y10))], []⟩, ⟨[(0, z1)], []⟩, 1, 1, fun x => impl_colOk k x⟩
theorem f148ok (k : Nat) : FnOk Try.prog 148 (f148c k) := ok (cx [f33 k, f76 k] 30 nb) Try.f148 fun h x => X h
def f148 (k : Nat) : Fc Try.prog := ⟨148, _, f148ok k⟩
def f149s2 : SS := ⟨[(0, z9), (5, z3), (6, z3)], []⟩
def f149c (k : Nat) : Con := ⟨⟨[(0, z9)], []⟩, ⟨[(0, z1)], []⟩, 1, 1, fun x => impl_isColName k x⟩
theorem f149ok (k : Nat) : FnOk Try.prog 149 (f149c k) := ok (cx [f33 k] 19 nb) Try.f149 fun h x => Q (Q (X h) (Q (B (L f149s2 (fun n x => impl_isColName.l2 k n x.1 x.2.1 x.2.2) k fun n2 => X h)) (X h))) (X h)
def f149 (k : Nat) : Fc Try.prog := ⟨149, _, f149ok k⟩
def f103s10 : SS := ⟨[(0, z11), (2, z3), (7, z3), (8, z14), (47, z3), (48, z3), (54, z14), (55, z3), (56, z3)], [(100, (.sl 9 .str))]⟩
def f103s6 : SS := ⟨[(0, z11), (2, z3), (7, z3), (8, z14), (47, z3), (48, z3)], [(100, (.sl 9 .str))]⟩
def f103con (F : (List TCol) → Int → Int → Option Int) : Con := ⟨⟨[(0, z11), (1, z3), (2, z3)], []⟩, ⟨[(0, z3)], []⟩, 3, 1, fun x => F x.1 x.2.1 x.2.2⟩
theorem f103okb (k : Nat) (S103 : (List TCol) → Int → Int → Option Int) (h103 : FnOk Try.prog 103 (f103con S103)) : FnOk Try.prog 103 (f103con (impl_colAfter.b k S103)) := ok (cx [⟨103, _, h103⟩, f148 k, f149 k] 85 nb) Try.f103 fun h x => Q (Q (Q (Q (Q (X h) (Q (B (L f103s6 (fun n x => impl_colAfter.l6 k S103 n x.1.1 x.1.2.1 x.1.2.2.1 x.1.2.2.2.2.1 x.1.2.2.2.2.2 x.2) k fun n6 => Q (Q (Q (X h) (B (Q (Q (X h) (Q (B (L f103s10 (fun n x => impl_colAfter.l10 k S103 (impl_colAfter.l6 k S103 n6) n x.1.1 x.1.2.1 x.1.2.2.1 x.1.2.2.2.2.1 x.1.2.2.2.2.2.1 x.1.2.2.2.2.2.2.2.1 x.1.2.2.2.2.2.2.2.2 x.2) k fun n10 => X h)) (X h))) (X h)))) (X h)) (X h))) (X h))) (X h)) (X h)) (X h)) (X h)
theorem f103rec (k : Nat) : ∀ d, FnOk Try.prog 103 (f103con (impl_colAfter.d k d))
  | 0 => FnOk_none (fun _ => rfl)
  | d + 1 => let ih := f103rec k d
    f103okb k (impl_colAfter.d k d) ih
theorem f103ok (k : Nat) : FnOk Try.prog 103 (f103con (impl_colAfter k)) := (f103rec k k)
def f103 (k : Nat) : Fc Try.prog := ⟨103, _, f103ok k⟩
def f50c (k : Nat) : Con := ⟨⟨[(0, z11)], []⟩, ⟨[(0, z1)], []⟩, 1, 1, fun x => impl_SchemaOk k x⟩
theorem f50ok (k : Nat) : FnOk Try.prog 50 (f50c k) := ok (cx [f33 k, f103 k] 33 nb) Try.f50 fun h x => X h
def f50 (k : Nat) : Fc Try.prog := ⟨50, _, f50ok k⟩
def f47s7 : SS := ⟨[(3, z14), (7, z11), (8, z3), (9, z3)], [(100, w17)]⟩
def f47s3 : SS := ⟨[(3, z14), (7, z11), (8, z3), (9, z3)], [(100, w17)]⟩
def f47c (k : Nat) : Con := ⟨⟨[(0, z11)], []⟩, ⟨[(0, z14)], [(100, w17)]⟩, 1, 1, fun x => impl_leavesOf k x⟩
theorem f47ok (k : Nat) : FnOk Try.prog 47 (f47c k) := ok (cx [] 23 nb) Try.f47 fun h x => Q (Q (Q (X h) (Q (B (L f47s3 (fun n x => impl_leavesOf.l3 k n x.1.2.1 x.1.2.2.1 x.1.2.2.2 x.2) k fun n3 => Q (Q (Q (T (X h) f47s7 fun x => impl_leavesOf.c7 k (impl_leavesOf.l3 k n3) x.1.2.1 x.1.2.2.1 x.1.2.2.2 x.2) (X h)) (X h)) (X h))) (X h))) (X h)) (X h)
def f47 (k : Nat) : Fc Try.prog := ⟨47, _, f47ok k⟩
def f100c (k : Nat) : Con := ⟨⟨[(0, z11)], []⟩, ⟨[(0, z14)], [(100, w17)]⟩, 1, 1, fun x => impl_SchemaLeaves k x⟩
theorem f100ok (k : Nat) : FnOk Try.prog 100 (f100c k) := ok (cx [f47 k, f50 k] 8 nb) Try.f100 fun h x => X h
def f100 (k : Nat) : Fc Try.prog := ⟨100, _, f100ok k⟩
def f146s6 : SS := ⟨[(0, z11), (1, z3), (5, z14), (6, z12), (7, z3)], [(100, w17), (101, w17)]⟩
def f146c (k : Nat) : Con := ⟨⟨[(0, z11), (1, z3)], []⟩, ⟨[(0, z14)], [(100, w17)]⟩, 2, 1, fun x => impl_wayTo k x.1 x.2⟩
theorem f146ok (k : Nat) : FnOk Try.prog 146 (f146c k) := ok (cx [f33 k, f100 k, f103 k] 41 nb) Try.f146 fun h x => Q (Q (Q (Q (Q (X h) (Q (B (L f146s6 (fun n x => impl_wayTo.l6 k n x.1.1 x.1.2.1 x.1.2.2.2.2 x.2.1 x.2.2) k fun n6 => X h)) (X h))) (X h)) (X h)) (X h)) (X h)
def f146 (k : Nat) : Fc Try.prog := ⟨146, _, f146ok k⟩
def f101s12 : SS := ⟨[(0, z11), (7, z3), (8, z3), (17, z14), (18, z3), (19, z3)], [(100, w17)]⟩
def f101s10 : SS := ⟨[(0, z11), (7, z3), (8, z3), (10, z3), (17, z14), (18, z3), (19, z3)], [(100, w17)]⟩
def f101s6 : SS := ⟨[(0, z11), (7, z3), (8, z3), (17, z14), (18, z3), (19, z3)], [(100, w17)]⟩
def f101c (k : Nat) : Con := ⟨⟨[(0, z11), (1, z3)], []⟩, ⟨[(0, z3), (1, z3)], []⟩, 2, 2, fun x => impl_LeafMax k x.1 x.2⟩
theorem f101ok (k : Nat) : FnOk Try.prog 101 (f101c k) := ok (cx [f146 k] 42 nb) Try.f101 fun h x => Q (Q (Q (Q (Q (X h) (Q (B (L f101s6 (fun n x => impl_LeafMax.l6 k n x.1.1 x.1.2.1 x.1.2.2.1 x.1.2.2.2.2.1 x.1.2.2.2.2.2 x.2) k fun n6 => Q (Q (Q (T (X h) f101s12 fun x => impl_LeafMax.c12 k (impl_LeafMax.l6 k n6) x.1.1 x.1.2.1 x.1.2.2.1 x.1.2.2.2.2.1 x.1.2.2.2.2.2 x.2) (B (Q (Q (T (X h) f101s10 fun x => impl_LeafMax.c10 k (impl_LeafMax.l6 k n6) x.1.1 x.1.2.1 x.1.2.2.1 x.1.2.2.2.1 x.1.2.2.2.2.2.1 x.1.2.2.2.2.2.2 x.2) (X h)) (X h)))) (X h)) (X h))) (X h))) (X h)) (X h)) (X h)) (X h)
def f101 (k : Nat) : Fc Try.prog := ⟨101, _, f101ok k⟩
def f48c (k : Nat) : Con := ⟨⟨[(0, z11), (1, z3)], []⟩, ⟨[(0, z18), (1, z1)], []⟩, 2, 2, fun x => impl_LeafOf k x.1 x.2⟩
theorem f48ok (k : Nat) : FnOk Try.prog 48 (f48c k) := ok (cx [f33 k, f100 k, f101 k] 35 nb) Try.f48 fun h x => X h
def f48 (k : Nat) : Fc Try.prog := ⟨48, _, f48ok k⟩
def f137c (k : Nat) : Con := ⟨⟨[(0, z3)], []⟩, ⟨[(0, z1)], []⟩, 1, 1, fun x => impl_isInt32 k x⟩
theorem f137ok (k : Nat) : FnOk Try.prog 137 (f137c k) := ok (cx [f33 k] 5 nb) Try.f137 fun h x => X h
def f137 (k : Nat) : Fc Try.prog := ⟨137, _, f137ok k⟩
def f88s8 : SS := ⟨[(0, z3), (3, z4), (26, z1)], [(100, w21)]⟩
def f88c (k : Nat) : Con := ⟨⟨[(0, z3), (1, z22)], []⟩, ⟨[(0, z1)], []⟩, 2, 1, fun x => impl_ValOk k x.1 x.2⟩
theorem f88ok (k : Nat) : FnOk Try.prog 88 (f88c k) := ok (cx [f33 k, f137 k] 45 nb) Try.f88 fun h x => Q (Q (X h) (Q (B (Q (D (X h) (Q (D (X h) (Q (T (X h) f88s8 fun x => impl_ValOk.c8 k x.1.1 x.1.2.2 x.2) (X h))) (X h))) (X h))) (X h))) (X h)
def f88 (k : Nat) : Fc Try.prog := ⟨88, _, f88ok k⟩
def f51c (k : Nat) : Con := ⟨⟨[(0, z11), (1, (.ro y34))], []⟩, ⟨[(0, z1)], []⟩, 2, 1, fun x => impl_plainPred k x.1 x.2⟩
theorem f51ok (k : Nat) : FnOk Try.prog 51 (f51c k) := ok (cx [f48 k, f88 k] 43 nb) Try.f51 fun h x => X h
def f51 (k : Nat) : Fc Try.prog := ⟨51, _, f51ok k⟩
def f52c (k : Nat) : Con := ⟨⟨[(0, z3)], []⟩, ⟨[(0, z1)], []⟩, 1, 1, fun x => impl_isPair k x⟩
theorem f52ok (k : Nat) : FnOk Try.prog 52 (f52c k) := ok (cx [] 9 nb) Try.f52 fun h x => X h
def f52 (k : Nat) : Fc Try.prog := ⟨52, _, f52ok k⟩
def f19s20 : SS := ⟨[(0, z11), (1, z35), (5, z14), (20, z35), (21, z3), (22, z3)], [(100, w17)]⟩
def f19s5 : SS := ⟨[(0, z11), (1, z35), (5, z14), (20, z35), (21, z3), (22, z3)], [(100, w17)]⟩
def f19c (k : Nat) : Con := ⟨⟨[(0, z11), (1, z35)], []⟩, ⟨[(0, z1)], []⟩, 2, 1, fun x => impl_PredOk k x.1 x.2⟩
theorem f19ok (k : Nat) : FnOk Try.prog 19 (f19c k) := ok (cx [f33 k, f50 k, f51 k, f52 k] 105 nb) Try.f19 fun h x => Q (Q (Q (Q (X h) (Q (B (L f19s5 (fun n x => impl_PredOk.l5 k n x.1.1 x.1.2.1 x.1.2.2.2.1 x.1.2.2.2.2.1 x.1.2.2.2.2.2 x.2) k fun n5 => Q (Q (Q (T (X h) f19s20 fun x => impl_PredOk.c20 k (impl_PredOk.l5 k n5) x.1.1 x.1.2.1 x.1.2.2.2.1 x.1.2.2.2.2.1 x.1.2.2.2.2.2 x.2) (X h)) (X h)) (X h))) (X h))) (X h)) (X h)) (X h)
def f19 (k : Nat) : Fc Try.prog := ⟨19, _, f19ok k⟩
def f147c (k : Nat) : Con := ⟨⟨[(0, z3)], []⟩, ⟨[(0, z3)], []⟩, 1, 1, fun x => impl_FloatKey k x⟩
theorem f147ok (k : Nat) : FnOk Try.prog 147 (f147c k) := ok (cx [] 8 nb) Try.f147 fun h x => X h
def f147 (k : Nat) : Fc Try.prog := ⟨147, _, f147ok k⟩
def f102d5 : SS := ⟨[(4, z4), (5, z29)], [(100, w21), (101, w21)]⟩
def f102c (k : Nat) : Con := ⟨⟨[(0, z3), (1, z22), (2, z22)], []⟩, ⟨[(0, z1)], []⟩, 3, 1, fun x => impl_ValLess k x.1 x.2.1 x.2.2⟩
theorem f102ok (k : Nat) : FnOk Try.prog 102 (f102c k) := ok (cx [f88 k, f147 k] 39 nb) Try.f102 fun h x => Q (Q (Q (X h) (Q (B (Q (D (Q (X h) (K h f102d5 (fun x => impl_ValLess.d5 k x.2.1 x.2.2) [[0, 3, 1, 2, 4, 5, 6, 7], [0, 3, 1, 4, 2, 5, 6, 7], [0, 3, 4, 1, 2, 5, 6, 7]] (O (fun x => by kernel_rfl) (O (fun x => by kernel_rfl) (O (fun x => by kernel_rfl) (N)))))) (X h)) (X h))) (X h))) (X h)) (X h)
def f102 (k : Nat) : Fc Try.prog := ⟨102, _, f102ok k⟩
def f49c (k : Nat) : Con := ⟨⟨[(0, z3), (1, (.ro y34)), (2, (.ro y39))], []⟩, ⟨[(0, z1), (1, z1)], []⟩, 3, 2, fun x => impl_may k x.1 x.2.1 x.2.2⟩
theorem f49ok (k : Nat) : FnOk Try.prog 49 (f49c k) := ok (cx [f102 k] 118 nb) Try.f49 fun h x => X h
def f49 (k : Nat) : Fc Try.prog := ⟨49, _, f49ok k⟩
def f18s17 : SS := ⟨[(0, z11), (1, z35), (2, z40), (8, z14), (9, z12), (32, z35), (33, z3), (34, z3)], [(100, w41), (101, w41)]⟩
def f18s6 : SS := ⟨[(0, z11), (1, z35), (2, z40), (8, z14), (9, z12), (32, z35), (33, z3), (34, z3)], [(100, w41), (101, w41)]⟩
def f18c (k : Nat) : Con := ⟨⟨[(0, z11), (1, z35), (2, z40)], []⟩, ⟨[(0, z1), (1, z1)], []⟩, 3, 2, fun x => impl_PredMay k x.1 x.2.1 x.2.2⟩
theorem f18ok (k : Nat) : FnOk Try.prog 18 (f18c k) := ok (cx [f19 k, f47 k, f48 k, f49 k] 161 nb) Try.f18 fun h x => Q (Q (Q (Q (Q (X h) (Q (B (L f18s6 (fun n x => impl_PredMay.l6 k n x.1.1 x.1.2.1 x.1.2.2.1 x.1.2.2.2.2.2.1 x.1.2.2.2.2.2.2.1 x.1.2.2.2.2.2.2.2 x.2.1 x.2.2) k fun n6 => Q (Q (Q (T (X h) f18s17 fun x => impl_PredMay.c17 k (impl_PredMay.l6 k n6) x.1.1 x.1.2.1 x.1.2.2.1 x.1.2.2.2.2.2.1 x.1.2.2.2.2.2.2.1 x.1.2.2.2.2.2.2.2 x.2.1 x.2.2) (X h)) (X h)) (X h))) (X h))) (X h)) (X h)) (X h)) (X h)
def f18 (k : Nat) : Fc Try.prog := ⟨18, _, f18ok k⟩
def f105s4 : SS := ⟨[(0, z11), (1, z3), (5, z3), (6, z3)], []⟩
def f105s3 : SS := ⟨[(0, z11), (1, z3), (5, z3), (6, z3)], []⟩
def f105c (k : Nat) : Con := ⟨⟨[(0, z11), (1, z3)], []⟩, ⟨[(0, z3)], []⟩, 2, 1, fun x => spec_l14Leaf k x.1 x.2⟩
theorem f105ok (k : Nat) : FnOk Try.prog 105 (f105c k) := ok (cx [] 21 nb) Try.f105 fun h x => Q (Q (Q (X h) (Q (B (L f105s3 (fun n x => spec_l14Leaf.l3 k n x.1 x.2.1 x.2.2.1 x.2.2.2) k fun n3 => Q (Q (T (X h) f105s4 fun x => spec_l14Leaf.c4 k (spec_l14Leaf.l3 k n3) x.1 x.2.1 x.2.2.1 x.2.2.2) (X h)) (X h))) (X h))) (X h)) (X h)
def f105 (k : Nat) : Fc Try.prog := ⟨105, _, f105ok k⟩
def f151s2 : SS := ⟨[(0, z11), (1, z3), (3, z16), (6, z4), (9, z3)], [(10, w44), (100, (.box y42 (.agg (.cons z3 (.cons z3 (.cons z20 .nil))))))]⟩
def f151c (k : Nat) : Con := ⟨⟨[(0, z11), (1, z3), (2, (.ro y42)), (3, z16)], [(10, w44)]⟩, ⟨[(0, z16)], [(10, w44)]⟩, 4, 1, fun x => spec_l14Null k x.1.1 x.1.2.1 x.1.2.2.1 x.2⟩
theorem f151ok (k : Nat) : FnOk Try.prog 151 (f151c k) := ok (cx [f105 k, f107 k] 33 nb) Try.f151 fun h x => Q (Q (X h) (Q (B (L f151s2 (fun n x => spec_l14Null.l2 k n x.1.1 x.1.2.1 x.1.2.2.2.2 x.2.1 x.2.2) k fun n2 => X h)) (X h))) (X h)
def f151 (k : Nat) : Fc Try.prog := ⟨151, _, f151ok k⟩
def f55s7 : SS := ⟨[(0, z11), (1, z3), (2, z24), (3, z3), (4, z3), (5, z3), (6, z3), (7, z16), (19, z3), (20, z3)], [(10, w44)]⟩
def f55con (F : (List TCol) → Int → (List TVal) → Int → Int → Int → Int → (List (List TTriple)) → Option ((Unit × Int) × (List (List TTriple)))) : Con := ⟨⟨[(0, z11), (1, z3), (2, z24), (3, z3), (4, z3), (5, z3), (6, z3), (7, z16)], [(10, w44)]⟩, ⟨[(0, z16), (1, z3)], [(10, w44)]⟩, 8, 2, fun x => F x.1.1 x.1.2.1 x.1.2.2.1 x.1.2.2.2.1 x.1.2.2.2.2.1 x.1.2.2.2.2.2.1 x.1.2.2.2.2.2.2.1 x.2⟩
def f106s10 : SS := ⟨[(0, z11), (1, z3), (2, z24), (3, z3), (4, z3), (5, z3), (6, z3), (7, z16), (18, z3), (19, z3)], [(10, w44)]⟩
def f106s9 : SS := ⟨[(0, z11), (1, z3), (2, z24), (3, z3), (4, z3), (5, z3), (6, z3), (7, z16), (18, z3)], [(10, w44)]⟩
def f106con (F : (List TCol) → Int → (List TVal) → Int → Int → Int → Int → (List (List TTriple)) → Option ((Unit × Int) × (List (List TTriple)))) : Con := ⟨⟨[(0, z11), (1, z3), (2, z24), (3, z3), (4, z3), (5, z3), (6, z3), (7, z16)], [(10, w44)]⟩, ⟨[(0, z16), (1, z3)], [(10, w44)]⟩, 8, 2, fun x => F x.1.1 x.1.2.1 x.1.2.2.1 x.1.2.2.2.1 x.1.2.2.2.2.1 x.1.2.2.2.2.2.1 x.1.2.2.2.2.2.2.1 x.2⟩
theorem f55okb (k : Nat) (S55 : (List TCol) → Int → (List TVal) → Int → Int → Int → Int → (List (List TTriple)) → Option ((Unit × Int) × (List (List TTriple)))) (S106 : (List TCol) → Int → (List TVal) → Int → Int → Int → Int → (List (List TTriple)) → Option ((Unit × Int) × (List (List TTriple)))) (h55 : FnOk Try.prog 55 (f55con S55)) (h106 : FnOk Try.prog 106 (f106con S106)) : FnOk Try.prog 55 (f55con (spec_l14Content.b k S55 S106)) := ok (cx [f105 k, ⟨106, _, h106⟩, f107 k] 77 nb) Try.f55 fun h x => Q (Q (Q (Q (X h) (Q (B (L f55s7 (fun n x => spec_l14Content.l7 k S106 n x.1.1 x.1.2.1 x.1.2.2.1 x.1.2.2.2.1 x.1.2.2.2.2.1 x.1.2.2.2.2.2.1 x.1.2.2.2.2.2.2.1 x.1.2.2.2.2.2.2.2.2.1 x.1.2.2.2.2.2.2.2.2.2 x.2) k fun n7 => X h)) (X h))) (X h)) (X h)) (X h)
theorem f106okb (k : Nat) (S55 : (List TCol) → Int → (List TVal) → Int → Int → Int → Int → (List (List TTriple)) → Option ((Unit × Int) × (List (List TTriple)))) (S106 : (List TCol) → Int → (List TVal) → Int → Int → Int → Int → (List (List TTriple)) → Option ((Unit × Int) × (List (List TTriple)))) (h55 : FnOk Try.prog 55 (f55con S55)) (h106 : FnOk Try.prog 106 (f106con S106)) : FnOk Try.prog 106 (f106con (spec_l14Part.b k S55 S106)) := ok (cx [⟨55, _, h55⟩, f151 k] 83 nb) Try.f106 fun h x => Q (Q (Q (Q (Q (Q (T (Q (X h) (Q (B (L f106s10 (fun n x => spec_l14Part.l10 k S55 n x.1.1 x.1.2.1 x.1.2.2.1 x.1.2.2.2.1 x.1.2.2.2.2.1 x.1.2.2.2.2.2.1 x.1.2.2.2.2.2.2.1 x.1.2.2.2.2.2.2.2.2.1 x.1.2.2.2.2.2.2.2.2.2 x.2) k fun n10 => X h)) (X h))) f106s9 fun x => spec_l14Part.c9 k S55 x.1.1 x.1.2.1 x.1.2.2.1 x.1.2.2.2.1 x.1.2.2.2.2.1 x.1.2.2.2.2.2.1 x.1.2.2.2.2.2.2.1 x.1.2.2.2.2.2.2.2.2 x.2) (X h)) (X h)) (X h)) (X h)) (X h)) (X h)
theorem f55rec (k : Nat) : ∀ d, FnOk Try.prog 55 (f55con (spec_l14Content.d k d)) ∧ FnOk Try.prog 106 (f106con (spec_l14Part.d k d))
  | 0 => ⟨FnOk_none (fun _ => rfl), FnOk_none (fun _ => rfl)⟩
  | d + 1 => let ih := f55rec k d
    ⟨f55okb k (spec_l14Content.d k d) (spec_l14Part.d k d) ih.1 ih.2, f106okb k (spec_l14Content.d k d) (spec_l14Part.d k d) ih.1 ih.2⟩
theorem f55ok (k : Nat) : FnOk Try.prog 55 (f55con (spec_l14Content k)) := (f55rec k k).1
def f55 (k : Nat) : Fc Try.prog := ⟨55, _, f55ok k⟩
theorem f106ok (k : Nat) : FnOk Try.prog 106 (f106con (spec_l14Part k)) := (f55rec k k).2
def f106 (k : Nat) : Fc Try.prog := ⟨106, _, f106ok k⟩
def f20s12 : SS := ⟨[(6, z14), (7, (.ro (.list 61 y43))), (9, z3)], [(100, w45)]⟩
def f20s6 : SS := ⟨[(0, z11), (1, z46), (6, z14), (7, z12), (8, z3)], [(100, (.sl 63 (.st (.cons y43 .nil)))), (101, w44)]⟩
def f20c (k : Nat) : Con := ⟨⟨[(0, z11), (1, z46)], []⟩, ⟨[(0, z14), (1, z1)], [(100, w45)]⟩, 2, 2, fun x => spec_Shred k x.1 x.2⟩
theorem f20ok (k : Nat) : FnOk Try.prog 20 (f20c k) := ok (cx [f44 k, f53 k, f54 k, f55 k] 71 nb) Try.f20 fun h x => Q (Q (Q (Q (Q (Q (X h) (Q (B (L f20s12 (fun n x => spec_Shred.l12 k n x.1.2.1 x.1.2.2 x.2) k fun n12 => X h)) (X h))) (Q (B (L f20s6 (fun n x => spec_Shred.l6 k n x.1.1 x.1.2.1 x.1.2.2.2.2 x.2.1 x.2.2) k fun n6 => X h)) (X h))) (X h)) (X h)) (X h)) (X h)
def f20 (k : Nat) : Fc Try.prog := ⟨20, _, f20ok k⟩
def f109c (k : Nat) : Con := ⟨⟨[(0, z47)], []⟩, ⟨[(0, z1)], []⟩, 1, 1, fun x => spec_LeafOk k x⟩
theorem f109ok (k : Nat) : FnOk Try.prog 109 (f109c k) := ok (cx [f28 k, f63 k] 18 nb) Try.f109 fun h x => X h
def f109 (k : Nat) : Fc Try.prog := ⟨109, _, f109ok k⟩
def f110c (k : Nat) : Con := ⟨⟨[(0, z47), (1, (.ro y42))], []⟩, ⟨[(0, z1)], []⟩, 2, 1, fun x => spec_l15Right k x.1 x.2⟩
theorem f110ok (k : Nat) : FnOk Try.prog 110 (f110c k) := ok (cx [f28 k, f75 k] 35 nb) Try.f110 fun h x => X h
def f110 (k : Nat) : Fc Try.prog := ⟨110, _, f110ok k⟩
def f58s4 : SS := ⟨[(1, z48), (2, z4), (5, z3)], [(100, w49)]⟩
def f58c (k : Nat) : Con := ⟨⟨[(0, z47), (1, z48)], []⟩, ⟨[(0, z1)], []⟩, 2, 1, fun x => spec_l15All k x.1 x.2⟩
theorem f58ok (k : Nat) : FnOk Try.prog 58 (f58c k) := ok (cx [f109 k, f110 k] 27 nb) Try.f58 fun h x => Q (Q (Q (X h) (Q (B (L f58s4 (fun n x => spec_l15All.l4 k n x.1.1 x.1.2.2 x.2) k fun n4 => X h)) (X h))) (X h)) (X h)
def f58 (k : Nat) : Fc Try.prog := ⟨58, _, f58ok k⟩
def f111c (k : Nat) : Con := ⟨⟨[(0, z3)], []⟩, ⟨[(0, z3)], []⟩, 1, 1, fun x => spec_FloatKey k x⟩
theorem f111ok (k : Nat) : FnOk Try.prog 111 (f111c k) := ok (cx [] 8 nb) Try.f111 fun h x => X h
def f111 (k : Nat) : Fc Try.prog := ⟨111, _, f111ok k⟩
def f59d5 : SS := ⟨[(4, z4), (5, z29)], [(100, w21), (101, w21)]⟩
def f59s8 : SS := ⟨[(4, z4), (5, z29), (7, z3)], [(100, w21), (101, w21)]⟩
def f59c (k : Nat) : Con := ⟨⟨[(0, z3), (1, z22), (2, z22)], []⟩, ⟨[(0, z1)], []⟩, 3, 1, fun x => spec_ValLess k x.1 x.2.1 x.2.2⟩
theorem f59ok (k : Nat) : FnOk Try.prog 59 (f59c k) := ok (cx [f75 k, f111 k] 74 nb) Try.f59 fun h x => Q (Q (Q (X h) (Q (B (Q (D (Q (X h) (K h f59d5 (fun x => spec_ValLess.d5 k x.2.1 x.2.2) [[0, 3, 1, 2, 4, 5, 6, 7], [0, 3, 1, 4, 2, 5, 6, 7], [0, 3, 4, 1, 2, 5, 6, 7]] (O (fun x => by kernel_rfl) (O (fun x => by kernel_rfl) (O (fun x => by kernel_rfl) (N)))))) (Q (D (Q (X h) (Q (B (L f59s8 (fun n x => spec_ValLess.l8 k n x.1.2.2 x.2.1 x.2.2) k fun n8 => X h)) (X h))) (X h)) (X h))) (X h))) (X h))) (X h)) (X h)
def f59 (k : Nat) : Fc Try.prog := ⟨59, _, f59ok k⟩
def f22s6 : SS := ⟨[(1, z48), (2, z4), (4, z29), (6, (.p 102)), (7, z3)], [(100, w49), (101, w51), (102, w51)]⟩
def f22s10 : SS := ⟨[(1, z48), (2, z4), (4, z29), (6, (.p 102)), (7, z3), (8, (.p 103))], [(100, w49), (101, w51), (102, w51), (103, w21)]⟩
def f22s5 : SS := ⟨[(1, z48), (2, z4), (4, z29), (6, (.p 102)), (7, z3)], [(100, w49), (101, w51), (102, w51)]⟩
def f22c (k : Nat) : Con := ⟨⟨[(0, z47), (1, z48)], []⟩, ⟨[(0, z50), (1, z1)], []⟩, 2, 2, fun x => spec_StatsOf k x.1 x.2⟩
theorem f22ok (k : Nat) : FnOk Try.prog 22 (f22c k) := ok (cx [f58 k, f59 k] 65 nb) Try.f22 fun h x => Q (Q (Q (Q (X h) (Q (B (L f22s5 (fun n x => spec_StatsOf.l5 k n x.1.1 x.1.2.2.2.2 x.2.1 x.2.2.1 x.2.2.2) k fun n5 => Q (Q (T (X h) f22s6 fun x => spec_StatsOf.c6 k (spec_StatsOf.l5 k n5) x.1.1 x.1.2.2.2.2 x.2.1 x.2.2.1 x.2.2.2) (B (Q (B (Q (D (X h) (Q (D (X h) (Q (T (X h) f22s10 fun x => spec_StatsOf.c10 k (spec_StatsOf.l5 k n5) x.1.1 x.1.2.2.2.2.1 x.2.1 x.2.2.1 x.2.2.2.1 x.2.2.2.2) (X h))) (X h))) (X h))) (X h)))) (X h))) (X h))) (X h)) (X h)) (X h)
def f22 (k : Nat) : Fc Try.prog := ⟨22, _, f22ok k⟩
def f23c (k : Nat) : Con := ⟨⟨[(0, z0), (1, z3)], []⟩, ⟨[(0, z3)], []⟩, 2, 1, fun x => laws_at k x.1 x.2⟩
theorem f23ok (k : Nat) : FnOk Try.prog 23 (f23c k) := ok (cx [] 20 nb) Try.f23 fun h x => X h
def f23 (k : Nat) : Fc Try.prog := ⟨23, _, f23ok k⟩
def f60d21 : SS := ⟨[(10, z4), (18, z29), (20, (.p 102)), (21, z1)], [(100, w37), (101, w49), (102, w51)]⟩
def f60s5 : SS := ⟨[(0, z11), (1, z35), (3, z40), (10, z4), (27, z3), (28, z1)], [(100, w37)]⟩
def f60con (F : (List TCol) → (List TPred) → Int → (List TKnown) → Option (Bool × Bool)) : Con := ⟨⟨[(0, z11), (1, z35), (2, z3), (3, z40)], []⟩, ⟨[(0, z1), (1, z1)], []⟩, 4, 2, fun x => F x.1 x.2.1 x.2.2.1 x.2.2.2⟩
theorem f60okb (k : Nat) (S60 : (List TCol) → (List TPred) → Int → (List TKnown) → Option (Bool × Bool)) (h60 : FnOk Try.prog 60 (f60con S60)) : FnOk Try.prog 60 (f60con (spec_l20May.b k S60)) := ok (cx [f21 k, f59 k, ⟨60, _, h60⟩] 205 nb) Try.f60 fun h x => Q (Q (Q (Q (Q (Q (Q (Q (Q (X h) (Q (B (Q (D (Q (X h) (K h f60d21 (fun x => spec_l20May.d21 k x.1.2.2.2 x.2.1 x.2.2.1 x.2.2.2) [[0, 22, 1, 2, 3, 5, 7, 4, 6, 8, 9, 10, 11, 12, 13, 14, 15, 16, 17, 18, 19, 20, 21, 23, 24, 25, 26, 27, 28, 29, 30, 31, 32, 33, 34, 35, 36, 37, 38, 39, 40, 41, 42], [0, 22, 1, 2, 3, 5, 7, 4, 8, 6, 9, 10, 11, 12, 13, 14, 15, 16, 17, 18, 19, 20, 21, 23, 24, 25, 26, 27, 28, 29, 30, 31, 32, 33, 34, 35, 36, 37, 38, 39, 40, 41, 42], [0, 22, 1, 2, 3, 5, 7, 6, 4, 8, 9, 10, 11, 12, 13, 14, 15, 16, 17, 18, 19, 20, 21, 23, 24, 25, 26, 27, 28, 29, 30, 31, 32, 33, 34, 35, 36, 37, 38, 39, 40, 41, 42], [0, 22, 1, 2, 3, 5, 7, 6, 8, 4, 9, 10, 11, 12, 13, 14, 15, 16, 17, 18, 19, 20, 21, 23, 24, 25, 26, 27, 28, 29, 30, 31, 32, 33, 34, 35, 36, 37, 38, 39, 40, 41, 42], [0, 22, 1, 2, 3, 5, 7, 8, 4, 6, 9, 10, 11, 12, 13, 14, 15, 16, 17, 18, 19, 20, 21, 23, 24, 25, 26, 27, 28, 29, 30, 31, 32, 33, 34, 35, 36, 37, 38, 39, 40, 41, 42], [0, 22, 1, 2, 3, 5, 7, 8, 6, 4, 9, 10, 11, 12, 13, 14, 15, 16, 17, 18, 19, 20, 21, 23, 24, 25, 26, 27, 28, 29, 30, 31, 32, 33, 34, 35, 36, 37, 38, 39, 40, 41, 42]] (O (fun x => by kernel_rfl) (O (fun x => by kernel_rfl) (O (fun x => by kernel_rfl) (O (fun x => by kernel_rfl) (O (fun x => by kernel_rfl) (O (fun x => by kernel_rfl) (N))))))))) (X h)) (X h))) (X h))) (X h)) (X h)) (X h)) (X h)) (X h)) (Q (B (Q (T (X h) f60s5 fun x => spec_l20May.c5 k S60 x.1.1 x.1.2.1 x.1.2.2.1 x.1.2.2.2.2.1 x.1.2.2.2.2.2 x.2) (X h))) (X h))) (X h)) (X h)
theorem f60rec (k : Nat) : ∀ d, FnOk Try.prog 60 (f60con (spec_l20May.d k d))
  | 0 => FnOk_none (fun _ => rfl)
  | d + 1 => let ih := f60rec k d
    f60okb k (spec_l20May.d k d) ih
theorem f60ok (k : Nat) : FnOk Try.prog 60 (f60con (spec_l20May k)) := (f60rec k k)
def f60 (k : Nat) : Fc Try.prog := ⟨60, _, f60ok k⟩
def f24c (k : Nat) : Con := ⟨⟨[(0, z11), (1, z35), (2, z40)], []⟩, ⟨[(0, z1), (1, z1)], []⟩, 3, 2, fun x => spec_PredMay k x.1 x.2.1 x.2.2⟩
theorem f24ok (k : Nat) : FnOk Try.prog 24 (f24c k) := ok (cx [f17 k, f53 k, f60 k] 34 nb) Try.f24 fun h x => X h
def f24 (k : Nat) : Fc Try.prog := ⟨24, _, f24ok k⟩
def f113c (k : Nat) : Con := ⟨⟨[(0, z3), (1, z3), (2, z3), (3, z22)], []⟩, ⟨[], []⟩, 4, 0, fun x => impl_RecOk_1 k x.1 x.2.1 x.2.2.1 x.2.2.2⟩
theorem f113ok (k : Nat) : FnOk Try.prog 113 (f113c k) := ok (cx [] 8 nb) Try.f113 fun h x => X h
def f113 (k : Nat) : Fc Try.prog := ⟨113, _, f113ok k⟩
def f162i5c (k : Nat) : Con := ⟨⟨[(0, z8)], [(0, w53)]⟩, ⟨[(0, z20)], [(0, w53)]⟩, 1, 1, fun x => impl_walker_next_of_RecOk_1_RecOk_2 k x.2⟩
theorem f162i5ok (k : Nat) : FnOk Try.prog 162 (f162i5c k) := ok (cx [] 35 nb) Try.f162 fun h x => X h
def f162i5 (k : Nat) : Fc Try.prog := ⟨162, _, f162i5ok k⟩
def f165i9c (k : Nat) : Con := ⟨⟨[(0, z8), (1, z3)], [(0, w53)]⟩, ⟨[(0, z3)], [(0, w53)]⟩, 2, 1, fun x => impl_walker_count_of_RecOk_1_RecOk_2 k x.1.2 x.2⟩
theorem f165i9ok (k : Nat) : FnOk Try.prog 165 (f165i9c k) := ok (cx [f33 k, f162i5 k] 23 nb) Try.f165 fun h x => X h
def f165i9 (k : Nat) : Fc Try.prog := ⟨165, _, f165i9ok k⟩
def f114c (k : Nat) : Con := ⟨⟨[(0, z3), (1, z3), (2, z3)], []⟩, ⟨[], []⟩, 3, 0, fun x => impl_RecOk_2 k x.1 x.2.1 x.2.2⟩
theorem f114ok (k : Nat) : FnOk Try.prog 114 (f114c k) := ok (cx [] 6 nb) Try.f114 fun h x => X h
def f114 (k : Nat) : Fc Try.prog := ⟨114, _, f114ok k⟩
def f166i12s4 : SS := ⟨[(0, z8), (2, z3), (3, z3), (9, z3), (10, z3)], [(0, w53)]⟩
def f166i12s3 : SS := ⟨[(0, z8), (2, z3), (3, z3), (9, z3), (10, z3)], [(0, w53)]⟩
def f166i12c (k : Nat) : Con := ⟨⟨[(0, z8), (1, z3), (2, z3), (3, z3)], [(0, w53)]⟩, ⟨[(0, z3)], [(0, w53)]⟩, 4, 1, fun x => impl_walker_missing_of_RecOk_1_RecOk_2 k x.1.2.1 x.1.2.2.1 x.1.2.2.2 x.2⟩
theorem f166i12ok (k : Nat) : FnOk Try.prog 166 (f166i12c k) := ok (cx [f103 k, f114 k] 41 nb) Try.f166 fun h x => Q (Q (Q (X h) (Q (B (L f166i12s3 (fun n x => impl_walker_missing_of_RecOk_1_RecOk_2.l3 k n x.1.2.1 x.1.2.2.1 x.1.2.2.2.1 x.1.2.2.2.2 x.2) k fun n3 => Q (Q (T (X h) f166i12s4 fun x => impl_walker_missing_of_RecOk_1_RecOk_2.c4 k (impl_walker_missing_of_RecOk_1_RecOk_2.l3 k n3) x.1.2.1 x.1.2.2.1 x.1.2.2.2.1 x.1.2.2.2.2 x.2) (X h)) (X h))) (X h))) (X h)) (X h)
def f166i12 (k : Nat) : Fc Try.prog := ⟨166, _, f166i12ok k⟩
def f152i3s14 : SS := ⟨[(12, z3)], [(0, w53)]⟩
def f152i3s10 : SS := ⟨[(0, z8), (2, z3), (3, z3), (4, z3), (12, z3), (70, z3), (71, z3)], [(0, w53)]⟩
def f152i3s7 : SS := ⟨[(1, z3)], [(0, w53)]⟩
def f152i3s5 : SS := ⟨[(0, z8), (1, z3), (2, z3), (3, z3), (11, z4)], [(0, w53), (100, w21)]⟩
def f152i3d3 : SS := ⟨[(0, z8), (1, z3), (2, z3), (3, z3), (11, z4)], [(0, w53), (100, w21)]⟩
def f152i3con (F : Int → Int → Int → Int → TWalker → Option (Int × TWalker)) : Con := ⟨⟨[(0, z8), (1, z3), (2, z3), (3, z3), (4, z3)], [(0, w53)]⟩, ⟨[(0, z3)], [(0, w53)]⟩, 5, 1, fun x => F x.1.2.1 x.1.2.2.1 x.1.2.2.2.1 x.1.2.2.2.2 x.2⟩
def f163i6s18 : SS := ⟨[(0, z8), (1, z3), (2, z3), (3, z3), (4, z3)], [(0, w53)]⟩
def f163i6s14 : SS := ⟨[(0, z8), (1, z3), (3, z3), (4, z3), (12, z3), (13, z3)], [(0, w53)]⟩
def f163i6con (F : Int → Int → Int → Int → TWalker → Option (Int × TWalker)) : Con := ⟨⟨[(0, z8), (1, z3), (2, z3), (3, z3), (4, z3)], [(0, w53)]⟩, ⟨[(0, z3)], [(0, w53)]⟩, 5, 1, fun x => F x.1.2.1 x.1.2.2.1 x.1.2.2.2.1 x.1.2.2.2.2 x.2⟩
theorem f152i3okb (k : Nat) (S152i3 : Int → Int → Int → Int → TWalker → Option (Int × TWalker)) (S163i6 : Int → Int → Int → Int → TWalker → Option (Int × TWalker)) (h152i3 : FnOk Try.prog 152 (f152i3con S152i3)) (h163i6 : FnOk Try.prog 163 (f163i6con S163i6)) : FnOk Try.prog 152 (f152i3con (impl_walker_body_of_RecOk_1_RecOk_2.b k S152i3 S163i6)) := ok (cx [f88 k, f113 k, f162i5 k, ⟨163, _, h163i6⟩] 85 nb) Try.f152 fun h x => Q (Q (Q (Q (T (X h) f152i3s14 fun x => impl_walker_body_of_RecOk_1_RecOk_2.c14 k x.1 x.2) (Q (B (L f152i3s10 (fun n x => impl_walker_body_of_RecOk_1_RecOk_2.l10 k S163i6 n x.1.2.1 x.1.2.2.1 x.1.2.2.2.1 x.1.2.2.2.2.1 x.1.2.2.2.2.2.1 x.1.2.2.2.2.2.2 x.2) k fun n10 => X h)) (X h))) (X h)) (Q (D (Q (Q (T (Q (T (X h) f152i3s7 fun x => impl_walker_body_of_RecOk_1_RecOk_2.c7 k x.1 x.2) (X h)) f152i3s5 fun x => impl_walker_body_of_RecOk_1_RecOk_2.c5 k x.1.2.1 x.1.2.2.1 x.1.2.2.2.1 x.2.1 x.2.2) (Q (X h) (K h f152i3d3 (fun x => impl_walker_body_of_RecOk_1_RecOk_2.d3 k x.1.2.1 x.1.2.2.1 x.1.2.2.2.1 x.2.1 x.2.2) [[0, 1, 2, 3, 4, 5, 6, 7, 8, 10, 14, 9, 11, 12, 13, 15, 16, 17]] (O (fun x => by kernel_rfl) (N))))) (X h)) (X h)) (X h))) (X h)
theorem f163i6okb (k : Nat) (S152i3 : Int → Int → Int → Int → TWalker → Option (Int × TWalker)) (S163i6 : Int → Int → Int → Int → TWalker → Option (Int × TWalker)) (h152i3 : FnOk Try.prog 152 (f152i3con S152i3)) (h163i6 : FnOk Try.prog 163 (f163i6con S163i6)) : FnOk Try.prog 163 (f163i6con (impl_walker_col_of_RecOk_1_RecOk_2.b k S152i3 S163i6)) := ok (cx [f103 k, ⟨152, _, h152i3⟩, f165i9 k, f166i12 k] 86 nb) Try.f163 fun h x => Q (Q (T (X h) f163i6s18 fun x => impl_walker_col_of_RecOk_1_RecOk_2.c18 k S152i3 x.1.2.1 x.1.2.2.1 x.1.2.2.2.1 x.1.2.2.2.2 x.2) (Q (B (Q (D (X h) (Q (D (Q (Q (Q (Q (Q (X h) (Q (B (L f163i6s14 (fun n x => impl_walker_col_of_RecOk_1_RecOk_2.l14 k S152i3 n x.1.2.1 x.1.2.2.1 x.1.2.2.2.1 x.1.2.2.2.2.1 x.1.2.2.2.2.2 x.2) k fun n14 => X h)) (X h))) (X h)) (X h)) (X h)) (X h)) (X h)) (X h))) (X h))) (X h))) (X h)
theorem f152i3rec (k : Nat) : ∀ d, FnOk Try.prog 152 (f152i3con (impl_walker_body_of_RecOk_1_RecOk_2.d k d)) ∧ FnOk Try.prog 163 (f163i6con (impl_walker_col_of_RecOk_1_RecOk_2.d k d))
  | 0 => ⟨FnOk_none (fun _ => rfl), FnOk_none (fun _ => rfl)⟩
  | d + 1 => let ih := f152i3rec k d
    ⟨f152i3okb k (impl_walker_body_of_RecOk_1_RecOk_2.d k d) (impl_walker_col_of_RecOk_1_RecOk_2.d k d) ih.1 ih.2, f163i6okb k (impl_walker_body_of_RecOk_1_RecOk_2.d k d) (impl_walker_col_of_RecOk_1_RecOk_2.d k d) ih.1 ih.2⟩
theorem f152i3ok (k : Nat) : FnOk Try.prog 152 (f152i3con (impl_walker_body_of_RecOk_1_RecOk_2 k)) := (f152i3rec k k).1
def f152i3 (k : Nat) : Fc Try.prog := ⟨152, _, f152i3ok k⟩
theorem f163i6ok (k : Nat) : FnOk Try.prog 163 (f163i6con (impl_walker_col_of_RecOk_1_RecOk_2 k)) := (f152i3rec k k).2
def f163i6 (k : Nat) : Fc Try.prog := ⟨163, _, f163i6ok k⟩
def f112i1c (k : Nat) : Con := ⟨⟨[(0, z11), (1, z27), (2, (.fn 113 .nil)), (3, (.fn 114 .nil))], []⟩, ⟨[(0, z1)], []⟩, 4, 1, fun x => impl_walk_of_RecOk_1_RecOk_2 k x.1 x.2.1 x.2.2.1 x.2.2.2⟩
theorem f112i1ok (k : Nat) : FnOk Try.prog 112 (f112i1c k) := ok (cx [f152i3 k] 36 nb) Try.f112 fun h x => X h
def f112i1 (k : Nat) : Fc Try.prog := ⟨112, _, f112i1ok k⟩
def f61c (k : Nat) : Con := ⟨⟨[(0, z11), (1, z27)], []⟩, ⟨[(0, z1)], []⟩, 2, 1, fun x => impl_RecOk k x.1 x.2⟩
theorem f61ok (k : Nat) : FnOk Try.prog 61 (f61c k) := ok (cx [f50 k, f112i1 k] 12 nb) Try.f61 fun h x => X h
def f61 (k : Nat) : Fc Try.prog := ⟨61, _, f61ok k⟩
def f162i7c (k : Nat) : Con := ⟨⟨[(0, z8)], [(0, w55), (10, w56), (11, w17), (12, w57), (13, w58), (14, w28)]⟩, ⟨[(0, z20)], [(0, w55), (10, w56), (11, w17), (12, w57), (13, w58), (14, w28)]⟩, 1, 1, fun x => impl_walker_next_of_RecValues_1_RecValues_2 k x.2.1 x.2.2.1 x.2.2.2.1 x.2.2.2.2.1 x.2.2.2.2.2.1 x.2.2.2.2.2.2⟩
theorem f162i7ok (k : Nat) : FnOk Try.prog 162 (f162i7c k) := ok (cx [] 35 nb) Try.f162 fun h x => X h
def f162i7 (k : Nat) : Fc Try.prog := ⟨162, _, f162i7ok k⟩
def f165i10c (k : Nat) : Con := ⟨⟨[(0, z8), (1, z3)], [(0, w55), (10, w56), (11, w17), (12, w57), (13, w58), (14, w28)]⟩, ⟨[(0, z3)], [(0, w55), (10, w56), (11, w17), (12, w57), (13, w58), (14, w28)]⟩, 2, 1, fun x => impl_walker_count_of_RecValues_1_RecValues_2 k x.1.2 x.2.1 x.2.2.1 x.2.2.2.1 x.2.2.2.2.1 x.2.2.2.2.2.1 x.2.2.2.2.2.2⟩
theorem f165i10ok (k : Nat) : FnOk Try.prog 165 (f165i10c k) := ok (cx [f33 k, f162i7 k] 23 nb) Try.f165 fun h x => X h
def f165i10 (k : Nat) : Fc Try.prog := ⟨165, _, f165i10ok k⟩
def f154c (k : Nat) : Con := ⟨⟨[(0, z3), (1, z3), (2, z3)], []⟩, ⟨[], []⟩, 3, 0, fun x => impl_RecValues_2 k x.1 x.2.1 x.2.2⟩
theorem f154ok (k : Nat) : FnOk Try.prog 154 (f154c k) := ok (cx [] 6 nb) Try.f154 fun h x => X h
def f154 (k : Nat) : Fc Try.prog := ⟨154, _, f154ok k⟩
def f166i13s4 : SS := ⟨[(0, z8), (2, z3), (3, z3), (9, z3), (10, z3)], [(0, w55), (10, w56), (11, w17), (12, w57), (13, w58), (14, w28)]⟩
def f166i13s3 : SS := ⟨[(0, z8), (2, z3), (3, z3), (9, z3), (10, z3)], [(0, w55), (10, w56), (11, w17), (12, w57), (13, w58), (14, w28)]⟩
def f166i13c (k : Nat) : Con := ⟨⟨[(0, z8), (1, z3), (2, z3), (3, z3)], [(0, w55), (10, w56), (11, w17), (12, w57), (13, w58), (14, w28)]⟩, ⟨[(0, z3)], [(0, w55), (10, w56), (11, w17), (12, w57), (13, w58), (14, w28)]⟩, 4, 1, fun x => impl_walker_missing_of_RecValues_1_RecValues_2 k x.1.2.1 x.1.2.2.1 x.1.2.2.2 x.2.1 x.2.2.1 x.2.2.2.1 x.2.2.2.2.1 x.2.2.2.2.2.1 x.2.2.2.2.2.2⟩
theorem f166i13ok (k : Nat) : FnOk Try.prog 166 (f166i13c k) := ok (cx [f103 k, f154 k] 41 nb) Try.f166 fun h x => Q (Q (Q (X h) (Q (B (L f166i13s3 (fun n x => impl_walker_missing_of_RecValues_1_RecValues_2.l3 k n x.1.2.1 x.1.2.2.1 x.1.2.2.2.1 x.1.2.2.2.2 x.2.1 x.2.2.1 x.2.2.2.1 x.2.2.2.2.1 x.2.2.2.2.2.1 x.2.2.2.2.2.2) k fun n3 => Q (Q (T (X h) f166i13s4 fun x => impl_walker_missing_of_RecValues_1_RecValues_2.c4 k (impl_walker_missing_of_RecValues_1_RecValues_2.l3 k n3) x.1.2.1 x.1.2.2.1 x.1.2.2.2.1 x.1.2.2.2.2 x.2.1 x.2.2.1 x.2.2.2.1 x.2.2.2.2.1 x.2.2.2.2.2.1 x.2.2.2.2.2.2) (X h)) (X h))) (X h))) (X h)) (X h)
def f166i13 (k : Nat) : Fc Try.prog := ⟨166, _, f166i13ok k⟩
def f153i11c (k : Nat) : Con := ⟨⟨[(0, z3), (1, z3), (2, z3), (3, z22), (4, (.p 4)), (5, (.p 5)), (6, (.p 6))], [(4, (.box (.list 3 y2) z16)), (5, w57), (6, (.box y23 (.h 11))), (10, w17), (11, w28)]⟩, ⟨[], [(4, (.box (.list 3 y2) z16)), (5, w57), (6, w59), (10, w17), (100, w28)]⟩, 7, 0, fun x => impl_RecValues_1 k x.1.1 x.1.2.1 x.1.2.2.1 x.1.2.2.2.1 x.2.1 x.2.2.1 x.2.2.2.1 x.2.2.2.2.1 x.2.2.2.2.2⟩
theorem f153i11ok (k : Nat) : FnOk Try.prog 153 (f153i11c k) := ok (cx [] 21 nb) Try.f153 fun h x => X h
def f153i11 (k : Nat) : Fc Try.prog := ⟨153, _, f153i11ok k⟩
def f152i4s14 : SS := ⟨[(12, z3)], [(0, w55), (10, w56), (11, w17), (12, w57), (13, w59), (100, w28)]⟩
def f152i4s10 : SS := ⟨[(0, z8), (2, z3), (3, z3), (4, z3), (12, z3), (70, z3), (71, z3)], [(0, w55), (10, w56), (11, w17), (12, w57), (13, w59), (100, w28)]⟩
def f152i4s7 : SS := ⟨[(1, z3)], [(0, w55), (10, w56), (11, w17), (12, w57), (13, w59), (100, w28)]⟩
def f152i4s5 : SS := ⟨[(0, z8), (1, z3), (2, z3), (3, z3), (11, z4)], [(0, w55), (10, w56), (11, w17), (12, w57), (13, w58), (14, w28), (100, w21)]⟩
def f152i4d3 : SS := ⟨[(0, z8), (1, z3), (2, z3), (3, z3), (11, z4)], [(0, w55), (10, w56), (11, w17), (12, w57), (13, w58), (14, w28), (100, w21)]⟩
def f152i4con (F : Int → Int → Int → Int → TWalkerB → Unit → (List Int) → Int → Unit → (List TVal) → Option (Int × TWalkerB × Unit × (List Int) × Int × Unit × (List TVal))) : Con := ⟨⟨[(0, z8), (1, z3), (2, z3), (3, z3), (4, z3)], [(0, w55), (10, w56), (11, w17), (12, w57), (13, w58), (14, w28)]⟩, ⟨[(0, z3)], [(0, w55), (10, w56), (11, w17), (12, w57), (13, w59), (100, w28)]⟩, 5, 1, fun x => F x.1.2.1 x.1.2.2.1 x.1.2.2.2.1 x.1.2.2.2.2 x.2.1 x.2.2.1 x.2.2.2.1 x.2.2.2.2.1 x.2.2.2.2.2.1 x.2.2.2.2.2.2⟩
def f163i8s18 : SS := ⟨[(0, z8), (1, z3), (2, z3), (3, z3), (4, z3)], [(0, w55), (10, w56), (11, w17), (12, w57), (13, w58), (14, w28)]⟩
def f163i8s14 : SS := ⟨[(0, z8), (1, z3), (3, z3), (4, z3), (12, z3), (13, z3)], [(0, w55), (10, w56), (11, w17), (12, w57), (13, w59), (100, w28)]⟩
def f163i8con (F : Int → Int → Int → Int → TWalkerB → Unit → (List Int) → Int → Unit → (List TVal) → Option (Int × TWalkerB × Unit × (List Int) × Int × Unit × (List TVal))) : Con := ⟨⟨[(0, z8), (1, z3), (2, z3), (3, z3), (4, z3)], [(0, w55), (10, w56), (11, w17), (12, w57), (13, w58), (14, w28)]⟩, ⟨[(0, z3)], [(0, w55), (10, w56), (11, w17), (12, w57), (13, w59), (100, w28)]⟩, 5, 1, fun x => F x.1.2.1 x.1.2.2.1 x.1.2.2.2.1 x.1.2.2.2.2 x.2.1 x.2.2.1 x.2.2.2.1 x.2.2.2.2.1 x.2.2.2.2.2.1 x.2.2.2.2.2.2⟩
theorem f152i4okb (k : Nat) (S152i4 : Int → Int → Int → Int → TWalkerB → Unit → (List Int) → Int → Unit → (List TVal) → Option (Int × TWalkerB × Unit × (List Int) × Int × Unit × (List TVal))) (S163i8 : Int → Int → Int → Int → TWalkerB → Unit → (List Int) → Int → Unit → (List TVal) → Option (Int × TWalkerB × Unit × (List Int) × Int × Unit × (List TVal))) (h152i4 : FnOk Try.prog 152 (f152i4con S152i4)) (h163i8 : FnOk Try.prog 163 (f163i8con S163i8)) : FnOk Try.prog 152 (f152i4con (impl_walker_body_of_RecValues_1_RecValues_2.b k S152i4 S163i8)) := ok (cx [f88 k, f153i11 k, f162i7 k, ⟨163, _, h163i8⟩] 85 nb) Try.f152 fun h x => Q (Q (Q (Q (T (X h) f152i4s14 fun x => impl_walker_body_of_RecValues_1_RecValues_2.c14 k x.1 x.2.1 x.2.2.1 x.2.2.2.1 x.2.2.2.2.1 x.2.2.2.2.2.1 x.2.2.2.2.2.2) (Q (B (L f152i4s10 (fun n x => impl_walker_body_of_RecValues_1_RecValues_2.l10 k S163i8 n x.1.2.1 x.1.2.2.1 x.1.2.2.2.1 x.1.2.2.2.2.1 x.1.2.2.2.2.2.1 x.1.2.2.2.2.2.2 x.2.1 x.2.2.1 x.2.2.2.1 x.2.2.2.2.1 x.2.2.2.2.2.1 x.2.2.2.2.2.2) k fun n10 => X h)) (X h))) (X h)) (Q (D (Q (Q (T (Q (T (X h) f152i4s7 fun x => impl_walker_body_of_RecValues_1_RecValues_2.c7 k x.1 x.2.1 x.2.2.1 x.2.2.2.1 x.2.2.2.2.1 x.2.2.2.2.2.1 x.2.2.2.2.2.2) (X h)) f152i4s5 fun x => impl_walker_body_of_RecValues_1_RecValues_2.c5 k x.1.2.1 x.1.2.2.1 x.1.2.2.2.1 x.2.1 x.2.2.1 x.2.2.2.1 x.2.2.2.2.1 x.2.2.2.2.2.1 x.2.2.2.2.2.2.1 x.2.2.2.2.2.2.2) (Q (X h) (K h f152i4d3 (fun x => impl_walker_body_of_RecValues_1_RecValues_2.d3 k x.1.2.1 x.1.2.2.1 x.1.2.2.2.1 x.2.1 x.2.2.1 x.2.2.2.1 x.2.2.2.2.1 x.2.2.2.2.2.1 x.2.2.2.2.2.2.1 x.2.2.2.2.2.2.2) [[0, 1, 2, 3, 4, 5, 6, 7, 8, 10, 14, 9, 11, 12, 13, 15, 16, 17]] (O (fun x => by kernel_rfl) (N))))) (X h)) (X h)) (X h))) (X h)
theorem f163i8okb (k : Nat) (S152i4 : Int → Int → Int → Int → TWalkerB → Unit → (List Int) → Int → Unit → (List TVal) → Option (Int × TWalkerB × Unit × (List Int) × Int × Unit × (List TVal))) (S163i8 : Int → Int → Int → Int → TWalkerB → Unit → (List Int) → Int → Unit → (List TVal) → Option (Int × TWalkerB × Unit × (List Int) × Int × Unit × (List TVal))) (h152i4 : FnOk Try.prog 152 (f152i4con S152i4)) (h163i8 : FnOk Try.prog 163 (f163i8con S163i8)) : FnOk Try.prog 163 (f163i8con (impl_walker_col_of_RecValues_1_RecValues_2.b k S152i4 S163i8)) := ok (cx [f103 k, ⟨152, _, h152i4⟩, f165i10 k, f166i13 k] 86 nb) Try.f163 fun h x => Q (Q (T (X h) f163i8s18 fun x => impl_walker_col_of_RecValues_1_RecValues_2.c18 k S152i4 x.1.2.1 x.1.2.2.1 x.1.2.2.2.1 x.1.2.2.2.2 x.2.1 x.2.2.1 x.2.2.2.1 x.2.2.2.2.1 x.2.2.2.2.2.1 x.2.2.2.2.2.2) (Q (B (Q (D (X h) (Q (D (Q (Q (Q (Q (Q (X h) (Q (B (L f163i8s14 (fun n x => impl_walker_col_of_RecValues_1_RecValues_2.l14 k S152i4 n x.1.2.1 x.1.2.2.1 x.1.2.2.2.1 x.1.2.2.2.2.1 x.1.2.2.2.2.2 x.2.1 x.2.2.1 x.2.2.2.1 x.2.2.2.2.1 x.2.2.2.2.2.1 x.2.2.2.2.2.2) k fun n14 => X h)) (X h))) (X h)) (X h)) (X h)) (X h)) (X h)) (X h))) (X h))) (X h))) (X h)
theorem f152i4rec (k : Nat) : ∀ d, FnOk Try.prog 152 (f152i4con (impl_walker_body_of_RecValues_1_RecValues_2.d k d)) ∧ FnOk Try.prog 163 (f163i8con (impl_walker_col_of_RecValues_1_RecValues_2.d k d))
  | 0 => ⟨FnOk_none (fun _ => rfl), FnOk_none (fun _ => rfl)⟩
  | d + 1 => let ih := f152i4rec k d
    ⟨f152i4okb k (impl_walker_body_of_RecValues_1_RecValues_2.d k d) (impl_walker_col_of_RecValues_1_RecValues_2.d k d) ih.1 ih.2, f163i8okb k (impl_walker_body_of_RecValues_1_RecValues_2.d k d) (impl_walker_col_of_RecValues_1_RecValues_2.d k d) ih.1 ih.2⟩
theorem f152i4ok (k : Nat) : FnOk Try.prog 152 (f152i4con (impl_walker_body_of_RecValues_1_RecValues_2 k)) := (f152i4rec k k).1
def f152i4 (k : Nat) : Fc Try.prog := ⟨152, _, f152i4ok k⟩
theorem f163i8ok (k : Nat) : FnOk Try.prog 163 (f163i8con (impl_walker_col_of_RecValues_1_RecValues_2 k)) := (f152i4rec k k).2
def f163i8 (k : Nat) : Fc Try.prog := ⟨163, _, f163i8ok k⟩
def f112i2c (k : Nat) : Con := ⟨⟨[(0, z11), (1, z27), (2, z54), (3, (.fn 154 .nil))], [(10, w56), (11, w17), (12, w57), (13, w58), (14, w28)]⟩, ⟨[(0, z1)], [(10, w56), (11, w17), (12, w57), (13, w59), (100, w28)]⟩, 4, 1, fun x => impl_walk_of_RecValues_1_RecValues_2 k x.1.1 x.1.2.1 x.1.2.2.1 x.1.2.2.2 x.2.1 x.2.2.1 x.2.2.2.1 x.2.2.2.2.1 x.2.2.2.2.2⟩
theorem f112i2ok (k : Nat) : FnOk Try.prog 112 (f112i2c k) := ok (cx [f152i4 k] 36 nb) Try.f112 fun h x => X h
def f112i2 (k : Nat) : Fc Try.prog := ⟨112, _, f112i2ok k⟩
def f115c (k : Nat) : Con := ⟨⟨[(0, z11), (1, z27), (2, z3)], []⟩, ⟨[(0, z14), (1, z1)], [(100, w28)]⟩, 3, 2, fun x => impl_RecValues k x.1 x.2.1 x.2.2⟩
theorem f115ok (k : Nat) : FnOk Try.prog 115 (f115c k) := ok (cx [f33 k, f100 k, f112i2 k] 27 nb) Try.f115 fun h x => X h
def f115 (k : Nat) : Fc Try.prog := ⟨115, _, f115ok k⟩
def f62c (k : Nat) : Con := ⟨⟨[(0, z11), (1, (.ro y34)), (2, z27)], []⟩, ⟨[(0, z1)], []⟩, 3, 1, fun x => impl_holds k x.1 x.2.1 x.2.2⟩
theorem f62ok (k : Nat) : FnOk Try.prog 62 (f62c k) := ok (cx [f48 k, f102 k, f115 k] 71 nb) Try.f62 fun h x => X h
def f62 (k : Nat) : Fc Try.prog := ⟨62, _, f62ok k⟩
def f25s15 : SS := ⟨[(0, z11), (1, z35), (5, z4), (7, z12), (23, z35), (24, z3), (25, z3)], [(100, w26), (101, w41)]⟩
def f25s5 : SS := ⟨[(0, z11), (1, z35), (5, z4), (7, z12), (23, z35), (24, z3), (25, z3)], [(100, w26), (101, w41)]⟩
def f25c (k : Nat) : Con := ⟨⟨[(0, z11), (1, z35), (2, z27)], []⟩, ⟨[(0, z1)], []⟩, 3, 1, fun x => impl_PredHolds k x.1 x.2.1 x.2.2⟩
theorem f25ok (k : Nat) : FnOk Try.prog 25 (f25c k) := ok (cx [f19 k, f61 k, f62 k] 91 nb) Try.f25 fun h x => Q (Q (Q (Q (X h) (Q (B (L f25s5 (fun n x => impl_PredHolds.l5 k n x.1.1 x.1.2.1 x.1.2.2.2.2.1 x.1.2.2.2.2.2.1 x.1.2.2.2.2.2.2 x.2.1 x.2.2) k fun n5 => Q (Q (Q (T (X h) f25s15 fun x => impl_PredHolds.c15 k (impl_PredHolds.l5 k n5) x.1.1 x.1.2.1 x.1.2.2.2.2.1 x.1.2.2.2.2.2.1 x.1.2.2.2.2.2.2 x.2.1 x.2.2) (X h)) (X h)) (X h))) (X h))) (X h)) (X h)) (X h)
def f25 (k : Nat) : Fc Try.prog := ⟨25, _, f25ok k⟩
def f4s23 : SS := ⟨[(3, z11), (4, z46), (6, z14), (17, z1), (18, z1), (21, z3)], [(100, w36)]⟩
def f4s22 : SS := ⟨[(3, z11), (4, z46), (6, z14), (17, z1), (18, z1), (21, z3)], [(100, w36)]⟩
def f4d16 : SS := ⟨[(0, z0), (3, z11), (4, z46), (6, z14), (9, z12), (11, z30), (12, z3), (13, (.p 103)), (15, (.p 104))], [(100, w36), (101, w45), (102, (.sl 65 y39)), (103, w49), (104, w51)]⟩
def f4d15 : SS := ⟨[(0, z0), (3, z11), (4, z46), (6, z14), (9, z12), (11, z30), (12, z3), (13, (.p 103))], [(100, w36), (101, w45), (102, (.sl 65 y39)), (103, w49)]⟩
def f4s12 : SS := ⟨[(0, z0), (3, z11), (4, z46), (6, z14), (9, z12), (11, z30), (12, z3)], [(100, w36), (101, w45), (102, (.sl 65 y39))]⟩
def f4c (k : Nat) : Con := ⟨⟨[(0, z0)], []⟩, ⟨[(0, z1)], []⟩, 1, 1, fun x => laws_FnMay k x⟩
theorem f4ok (k : Nat) : FnOk Try.prog 4 (f4c k) := ok (cx [f15 k, f16 k, f17 k, f18 k, f19 k, f20 k, f21 k, f22 k, f23 k, f24 k, f25 k] 138 nb) Try.f4 fun h x => Q (Q (Q (Q (Q (Q (Q (Q (Q (Q (Q (Q (X h) (Q (B (L f4s22 (fun n x => laws_FnMay.l22 k n x.1.1 x.1.2.1 x.1.2.2.2.1 x.1.2.2.2.2.1 x.1.2.2.2.2.2 x.2) k fun n22 => Q (Q (T (X h) f4s23 fun x => laws_FnMay.c23 k (laws_FnMay.l22 k n22) x.1.1 x.1.2.1 x.1.2.2.2.1 x.1.2.2.2.2.1 x.1.2.2.2.2.2 x.2) (X h)) (X h))) (X h))) (X h)) (X h)) (X h)) (Q (B (L f4s12 (fun n x => laws_FnMay.l12 k n x.1.1 x.1.2.1 x.1.2.2.1 x.1.2.2.2.2.2.2 x.2.1 x.2.2.1 x.2.2.2) k fun n12 => Q (Q (X h) (B (Q (Q (K h f4d16 (fun x => laws_FnMay.d16 k (laws_FnMay.l12 k n12) x.1.1 x.1.2.1 x.1.2.2.1 x.1.2.2.2.2.2.2.1 x.2.1 x.2.2.1 x.2.2.2.1 x.2.2.2.2.1 x.2.2.2.2.2) [[0, 1, 2, 3, 4, 5, 6, 7, 8, 9, 10, 11, 12, 13, 14, 15], [0, 1, 2, 3, 4, 5, 6, 11, 7, 8, 9, 10, 12, 13, 14, 15], [0, 1, 11, 2, 3, 4, 5, 6, 7, 8, 9, 10, 12, 13, 14, 15]] (O (fun x => by kernel_rfl) (O (fun x => by kernel_rfl) (O (fun x => by kernel_rfl) (N))))) (K h f4d15 (fun x => laws_FnMay.d15 k (laws_FnMay.l12 k n12) x.1.1 x.1.2.1 x.1.2.2.1 x.1.2.2.2.2.2.2.1 x.2.1 x.2.2.1 x.2.2.2.1 x.2.2.2.2) [[0, 1, 2, 3, 4, 5, 6, 7, 8, 9, 10, 11, 12], [0, 1, 2, 3, 4, 5, 10, 6, 7, 8, 9, 11, 12]] (O (fun x => by kernel_rfl) (O (fun x => by kernel_rfl) (N))))) (X h)))) (X h))) (X h))) (X h)) (X h)) (X h)) (X h)) (X h)) (X h)) (X h)
def f4 (k : Nat) : Fc Try.prog := ⟨4, _, f4ok k⟩

end Go.Proofs.Ytabocefniklbpaa
