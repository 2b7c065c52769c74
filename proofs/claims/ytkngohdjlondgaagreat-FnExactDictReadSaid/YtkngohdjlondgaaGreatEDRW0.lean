/- The walks, printed by program. -/
import Derived.Test.YtkngohdjlondgaaGreatBase
import Derived.Test.YtkngohdjlondgaaGreatEDRF0
set_option linter.unusedVariables false
set_option maxRecDepth 100000
namespace Go.Proofs.YtkngohdjlondgaaGreat
open Go.Am Go.Fn

def f141in : SS := ⟨[(0, (.ro (.list 5 (.int .u8)))), (1, (.ro (.int .i64)))], []⟩
def f141out : SS := ⟨[(0, (.ro (.int .i64))), (1, (.ro (.int .i64))), (2, (.ro .bool))], []⟩
def f141s5 : SS := ⟨[(0, (.ro (.list 5 (.int .u8)))), (1, (.ro (.int .i64))), (7, (.ro (.int .i64))), (8, (.ro (.int .i64)))], []⟩
def f141con (F : (List Int) → Int → Option (Int × Int × Bool)) : Con := ⟨f141in, f141out, 2, 3, fun x => F x.1 x.2⟩
def f141ctx (k : Nat) : Ctx := ⟨tyAt tys, conAt [], 57, fun _ => false⟩
theorem f141hc (k : Nat) : CtxOk Tryz.prog (f141ctx k) := ctxOk tys_ok mixed_ok (consOk_nil)
theorem f141ok (k : Nat) : FnOk Tryz.prog 141 (f141con (spec_UvarGet k)) :=
  let hc := f141hc k
  fnOk (fn := Tryz.f141) (code := bodyOf Tryz.f141) (res := [.tmp 4, .tmp 5, .tmp 6]) hc (by kernel_rfl) (by kernel_rfl) (by decide) (by kernel_rfl) (by kernel_rfl) (by kernel_rfl) (Nat.le_of_ble_eq_true (by kernel_rfl)) _
    (fun x => Snd.seq (by kernel_rfl) (Snd.seq (by kernel_rfl) (Snd.seq (by kernel_rfl) (Snd.seq (by kernel_rfl) (Snd.exec hc _ _ _ _) (Snd.seq (by kernel_rfl) (Snd.block (id := 0) (by kernel_rfl) (Snd.loop' (by kernel_rfl) f141s5 (fun n x => spec_UvarGet.l5 k n x.1 x.2.1 x.2.2.1 x.2.2.2) _ (fun _ => rfl) (fun n5 => Snd.exec hc _ _ _ _) (fun n x => by kernel_rfl) k)) (Snd.exec hc _ _ _ _))) (Snd.exec hc _ _ _ _)) (Snd.exec hc _ _ _ _)) (Snd.exec hc _ _ _ _))
    (fun x => by kernel_rfl)

def f162in : SS := ⟨[(0, (.ro (.int .i64))), (1, (.ro (.int .i64)))], []⟩
def f162out : SS := ⟨[(0, (.ro (.int .i64)))], []⟩
def f162con (F : Int → Int → Option Int) : Con := ⟨f162in, f162out, 2, 1, fun x => F x.1 x.2⟩
def f162ctx (k : Nat) : Ctx := ⟨tyAt tys, conAt [], 16, fun _ => false⟩
theorem f162hc (k : Nat) : CtxOk Tryz.prog (f162ctx k) := ctxOk tys_ok mixed_ok (consOk_nil)
theorem f162ok (k : Nat) : FnOk Tryz.prog 162 (f162con (spec_l2Down k)) :=
  let hc := f162hc k
  fnOk (fn := Tryz.f162) (code := bodyOf Tryz.f162) (res := [.tmp 4]) hc (by kernel_rfl) (by kernel_rfl) (by decide) (by kernel_rfl) (by kernel_rfl) (by kernel_rfl) (Nat.le_of_ble_eq_true (by kernel_rfl)) _
    (fun x => Snd.exec hc _ _ _ _)
    (fun x => by kernel_rfl)

def f142in : SS := ⟨[(0, (.ro (.int .i64)))], []⟩
def f142out : SS := ⟨[(0, (.ro (.int .i64)))], []⟩
def f142con (F : Int → Option Int) : Con := ⟨f142in, f142out, 1, 1, fun x => F x⟩
def f142ctx (k : Nat) : Ctx := ⟨tyAt tys, conAt [(162, [f162con (spec_l2Down k)])], 11, fun _ => false⟩
theorem f142hc (k : Nat) : CtxOk Tryz.prog (f142ctx k) := ctxOk tys_ok mixed_ok (consOk_cons (f162ok k) (consOk_nil))
theorem f142ok (k : Nat) : FnOk Tryz.prog 142 (f142con (spec_Zag k)) :=
  let hc := f142hc k
  fnOk (fn := Tryz.f142) (code := bodyOf Tryz.f142) (res := [.tmp 2]) hc (by kernel_rfl) (by kernel_rfl) (by decide) (by kernel_rfl) (by kernel_rfl) (by kernel_rfl) (Nat.le_of_ble_eq_true (by kernel_rfl)) _
    (fun x => Snd.exec hc _ _ _ _)
    (fun x => by kernel_rfl)

def f109in : SS := ⟨[(0, (.ro (.list 5 (.int .u8)))), (1, (.ro (.int .i64)))], []⟩
def f109out : SS := ⟨[(0, (.ro (.int .i64))), (1, (.ro (.int .i64))), (2, (.ro .bool))], []⟩
def f109con (F : (List Int) → Int → Option (Int × Int × Bool)) : Con := ⟨f109in, f109out, 2, 3, fun x => F x.1 x.2⟩
def f109ctx (k : Nat) : Ctx := ⟨tyAt tys, conAt [(141, [f141con (spec_UvarGet k)]), (142, [f142con (spec_Zag k)])], 22, fun _ => false⟩
theorem f109hc (k : Nat) : CtxOk Tryz.prog (f109ctx k) := ctxOk tys_ok mixed_ok (consOk_cons (f141ok k) (consOk_cons (f142ok k) (consOk_nil)))
theorem f109ok (k : Nat) : FnOk Tryz.prog 109 (f109con (spec_ZigGet k)) :=
  let hc := f109hc k
  fnOk (fn := Tryz.f109) (code := bodyOf Tryz.f109) (res := [.tmp 4, .tmp 5, .tmp 6]) hc (by kernel_rfl) (by kernel_rfl) (by decide) (by kernel_rfl) (by kernel_rfl) (by kernel_rfl) (Nat.le_of_ble_eq_true (by kernel_rfl)) _
    (fun x => Snd.exec hc _ _ _ _)
    (fun x => by kernel_rfl)

def f36in : SS := ⟨[(0, (.ro (.int .i64))), (1, (.ro (.int .i64))), (2, (.ro (.int .i64)))], []⟩
def f36out : SS := ⟨[(0, (.ro .bool))], []⟩
def f36con (F : Int → Int → Int → Option Bool) : Con := ⟨f36in, f36out, 3, 1, fun x => F x.1 x.2.1 x.2.2⟩
def f36ctx (k : Nat) : Ctx := ⟨tyAt tys, conAt [], 15, fun _ => false⟩
theorem f36hc (k : Nat) : CtxOk Tryz.prog (f36ctx k) := ctxOk tys_ok mixed_ok (consOk_nil)
theorem f36ok (k : Nat) : FnOk Tryz.prog 36 (f36con (spec_l1In k)) :=
  let hc := f36hc k
  fnOk (fn := Tryz.f36) (code := bodyOf Tryz.f36) (res := [.tmp 6]) hc (by kernel_rfl) (by kernel_rfl) (by decide) (by kernel_rfl) (by kernel_rfl) (by kernel_rfl) (Nat.le_of_ble_eq_true (by kernel_rfl)) _
    (fun x => Snd.exec hc _ _ _ _)
    (fun x => by kernel_rfl)

def f110in : SS := ⟨[(0, (.ro (.int .i64)))], []⟩
def f110out : SS := ⟨[(0, (.ro .bool))], []⟩
def f110con (F : Int → Option Bool) : Con := ⟨f110in, f110out, 1, 1, fun x => F x⟩
def f110ctx (k : Nat) : Ctx := ⟨tyAt tys, conAt [(36, [f36con (spec_l1In k)])], 5, fun _ => false⟩
theorem f110hc (k : Nat) : CtxOk Tryz.prog (f110ctx k) := ctxOk tys_ok mixed_ok (consOk_cons (f36ok k) (consOk_nil))
theorem f110ok (k : Nat) : FnOk Tryz.prog 110 (f110con (spec_l4Int k)) :=
  let hc := f110hc k
  fnOk (fn := Tryz.f110) (code := bodyOf Tryz.f110) (res := [.tmp 2]) hc (by kernel_rfl) (by kernel_rfl) (by decide) (by kernel_rfl) (by kernel_rfl) (by kernel_rfl) (Nat.le_of_ble_eq_true (by kernel_rfl)) _
    (fun x => Snd.exec hc _ _ _ _)
    (fun x => by kernel_rfl)

def f111in : SS := ⟨[(0, (.ro (.list 5 (.int .u8)))), (1, (.ro (.int .i64)))], []⟩
def f111out : SS := ⟨[(0, (.ro .str)), (1, (.ro (.int .i64))), (2, (.ro (.int .i64)))], []⟩
def f111con (F : (List Int) → Int → Option (ByteArray × Int × Int)) : Con := ⟨f111in, f111out, 2, 3, fun x => F x.1 x.2⟩
def f111ctx (k : Nat) : Ctx := ⟨tyAt tys, conAt [(141, [f141con (spec_UvarGet k)])], 44, fun _ => false⟩
theorem f111hc (k : Nat) : CtxOk Tryz.prog (f111ctx k) := ctxOk tys_ok mixed_ok (consOk_cons (f141ok k) (consOk_nil))
theorem f111ok (k : Nat) : FnOk Tryz.prog 111 (f111con (spec_l4Text k)) :=
  let hc := f111hc k
  fnOk (fn := Tryz.f111) (code := bodyOf Tryz.f111) (res := [.tmp 4, .tmp 5, .tmp 6]) hc (by kernel_rfl) (by kernel_rfl) (by decide) (by kernel_rfl) (by kernel_rfl) (by kernel_rfl) (Nat.le_of_ble_eq_true (by kernel_rfl)) _
    (fun x => Snd.exec hc _ _ _ _)
    (fun x => by kernel_rfl)

def f144in : SS := ⟨[(0, (.ro (.int .i64)))], []⟩
def f144out : SS := ⟨[(0, (.ro .bool))], []⟩
def f144s9 : SS := ⟨[(4, (.ro .bool))], []⟩
def f144con (F : Int → Option Bool) : Con := ⟨f144in, f144out, 1, 1, fun x => F x⟩
def f144ctx (k : Nat) : Ctx := ⟨tyAt tys, conAt [], 12, fun _ => false⟩
theorem f144hc (k : Nat) : CtxOk Tryz.prog (f144ctx k) := ctxOk tys_ok mixed_ok (consOk_nil)
theorem f144ok (k : Nat) : FnOk Tryz.prog 144 (f144con (spec_l4Kind k)) :=
  let hc := f144hc k
  fnOk (fn := Tryz.f144) (code := bodyOf Tryz.f144) (res := [.tmp 2]) hc (by kernel_rfl) (by kernel_rfl) (by decide) (by kernel_rfl) (by kernel_rfl) (by kernel_rfl) (Nat.le_of_ble_eq_true (by kernel_rfl)) _
    (fun x => Snd.seq (by kernel_rfl) (Snd.seq (by kernel_rfl) (Snd.exec hc _ _ _ _) (Snd.seq (by kernel_rfl) (Snd.block (id := 0) (by kernel_rfl) (Snd.seq (by kernel_rfl) (Snd.cut (Snd.exec hc _ _ _ _) ⟨f144s9, fun x => spec_l4Kind.c9 k x⟩ (fun x => by kernel_rfl)) (Snd.exec hc _ _ _ _))) (Snd.exec hc _ _ _ _))) (Snd.exec hc _ _ _ _))
    (fun x => by kernel_rfl)

def f143in : SS := ⟨[(0, (.ro (.int .i64)))], []⟩
def f143out : SS := ⟨[(0, (.ro .bool))], []⟩
def f143con (F : Int → Option Bool) : Con := ⟨f143in, f143out, 1, 1, fun x => F x⟩
def f143ctx (k : Nat) : Ctx := ⟨tyAt tys, conAt [(144, [f144con (spec_l4Kind k)])], 13, fun _ => false⟩
theorem f143hc (k : Nat) : CtxOk Tryz.prog (f143ctx k) := ctxOk tys_ok mixed_ok (consOk_cons (f144ok k) (consOk_nil))
theorem f143ok (k : Nat) : FnOk Tryz.prog 143 (f143con (spec_l4Item k)) :=
  let hc := f143hc k
  fnOk (fn := Tryz.f143) (code := bodyOf Tryz.f143) (res := [.tmp 2]) hc (by kernel_rfl) (by kernel_rfl) (by decide) (by kernel_rfl) (by kernel_rfl) (by kernel_rfl) (Nat.le_of_ble_eq_true (by kernel_rfl)) _
    (fun x => Snd.exec hc _ _ _ _)
    (fun x => by kernel_rfl)

def f112in : SS := ⟨[(0, (.ro (.list 5 (.int .u8)))), (1, (.ro (.int .i64)))], []⟩
def f112out : SS := ⟨[(0, (.ro (.int .i64))), (1, (.ro (.int .i64))), (2, (.ro (.int .i64))), (3, (.ro (.int .i64)))], []⟩
def f112s11 : SS := ⟨[(1, (.ro (.int .i64))), (8, (.ro (.int .i64))), (9, (.ro (.int .i64)))], []⟩
def f112con (F : (List Int) → Int → Option (Int × Int × Int × Int)) : Con := ⟨f112in, f112out, 2, 4, fun x => F x.1 x.2⟩
def f112ctx (k : Nat) : Ctx := ⟨tyAt tys, conAt [(141, [f141con (spec_UvarGet k)]), (143, [f143con (spec_l4Item k)])], 62, fun _ => false⟩
theorem f112hc (k : Nat) : CtxOk Tryz.prog (f112ctx k) := ctxOk tys_ok mixed_ok (consOk_cons (f141ok k) (consOk_cons (f143ok k) (consOk_nil)))
theorem f112ok (k : Nat) : FnOk Tryz.prog 112 (f112con (spec_l4Many k)) :=
  let hc := f112hc k
  fnOk (fn := Tryz.f112) (code := bodyOf Tryz.f112) (res := [.tmp 4, .tmp 5, .tmp 6, .tmp 7]) hc (by kernel_rfl) (by kernel_rfl) (by decide) (by kernel_rfl) (by kernel_rfl) (by kernel_rfl) (Nat.le_of_ble_eq_true (by kernel_rfl)) _
    (fun x => Snd.seq (by kernel_rfl) (Snd.seq (by kernel_rfl) (Snd.seq (by kernel_rfl) (Snd.seq (by kernel_rfl) (Snd.seq (by kernel_rfl) (Snd.cut (Snd.exec hc _ _ _ _) ⟨f112s11, fun x => spec_l4Many.c11 k x.1 x.2.1 x.2.2⟩ (fun x => by kernel_rfl)) (Snd.exec hc _ _ _ _)) (Snd.exec hc _ _ _ _)) (Snd.exec hc _ _ _ _)) (Snd.exec hc _ _ _ _)) (Snd.exec hc _ _ _ _))
    (fun x => by kernel_rfl)

def f113in : SS := ⟨[(0, (.ro (.list 5 (.int .u8)))), (1, (.ro (.int .i64))), (2, (.ro (.int .i64)))], []⟩
def f113out : SS := ⟨[(0, (.ro (.int .i64))), (1, (.ro (.int .i64))), (2, (.ro (.int .i64))), (3, (.ro (.int .i64)))], []⟩
def f113s16 : SS := ⟨[(1, (.ro (.int .i64))), (2, (.ro (.int .i64))), (10, (.ro (.int .i64))), (12, (.ro (.int .i64)))], []⟩
def f113con (F : (List Int) → Int → Int → Option (Int × Int × Int × Int)) : Con := ⟨f113in, f113out, 3, 4, fun x => F x.1 x.2.1 x.2.2⟩
def f113ctx (k : Nat) : Ctx := ⟨tyAt tys, conAt [(36, [f36con (spec_l1In k)]), (109, [f109con (spec_ZigGet k)]), (144, [f144con (spec_l4Kind k)])], 71, fun _ => false⟩
theorem f113hc (k : Nat) : CtxOk Tryz.prog (f113ctx k) := ctxOk tys_ok mixed_ok (consOk_cons (f36ok k) (consOk_cons (f109ok k) (consOk_cons (f144ok k) (consOk_nil))))
theorem f113ok (k : Nat) : FnOk Tryz.prog 113 (f113con (spec_l4Head k)) :=
  let hc := f113hc k
  fnOk (fn := Tryz.f113) (code := bodyOf Tryz.f113) (res := [.tmp 6, .tmp 7, .tmp 8, .tmp 9]) hc (by kernel_rfl) (by kernel_rfl) (by decide) (by kernel_rfl) (by kernel_rfl) (by kernel_rfl) (Nat.le_of_ble_eq_true (by kernel_rfl)) _
    (fun x => Snd.seq (by kernel_rfl) (Snd.seq (by kernel_rfl) (Snd.seq (by kernel_rfl) (Snd.seq (by kernel_rfl) (Snd.seq (by kernel_rfl) (Snd.seq (by kernel_rfl) (Snd.seq (by kernel_rfl) (Snd.seq (by kernel_rfl) (Snd.cut (Snd.exec hc _ _ _ _) ⟨f113s16, fun x => spec_l4Head.c16 k x.1 x.2.1 x.2.2.1 x.2.2.2⟩ (fun x => by kernel_rfl)) (Snd.exec hc _ _ _ _)) (Snd.exec hc _ _ _ _)) (Snd.exec hc _ _ _ _)) (Snd.exec hc _ _ _ _)) (Snd.exec hc _ _ _ _)) (Snd.exec hc _ _ _ _)) (Snd.exec hc _ _ _ _)) (Snd.exec hc _ _ _ _))
    (fun x => by kernel_rfl)

def f79in : SS := ⟨[(0, (.ro (.list 5 (.int .u8)))), (1, (.ro (.int .i64))), (2, (.ro (.int .i64))), (3, (.ro (.int .i64))), (4, (.ro (.int .i64))), (5, (.h 10))], [(10, (.sl 91 (.st (.cons (.int .i64) (.cons (.int .i64) (.cons (.int .i64) (.cons .str (.cons (.int .i64) .nil))))))))]⟩
def f79out : SS := ⟨[(0, (.h 100)), (1, (.ro (.int .i64))), (2, (.ro (.int .i64)))], [(100, (.sl 91 (.st (.cons (.int .i64) (.cons (.int .i64) (.cons (.int .i64) (.cons .str (.cons (.int .i64) .nil))))))))]⟩
def f79s24 : SS := ⟨[(0, (.ro (.list 5 (.int .u8)))), (4, (.ro (.int .i64))), (5, (.h 100)), (22, (.ro (.int .i64))), (23, (.ro (.int .i64))), (24, (.ro (.int .i64))), (25, (.ro (.int .i64))), (26, (.ro (.int .i64)))], [(100, (.sl 91 (.st (.cons (.int .i64) (.cons (.int .i64) (.cons (.int .i64) (.cons .str (.cons (.int .i64) .nil))))))))]⟩
def f79s30 : SS := ⟨[(0, (.ro (.list 5 (.int .u8)))), (1, (.ro (.int .i64))), (4, (.ro (.int .i64))), (5, (.h 100)), (15, (.ro (.int .i64))), (27, (.ro (.int .i64))), (28, (.ro (.int .i64)))], [(100, (.sl 91 (.st (.cons (.int .i64) (.cons (.int .i64) (.cons (.int .i64) (.cons .str (.cons (.int .i64) .nil))))))))]⟩
def f79s8 : SS := ⟨[(0, (.ro (.list 5 (.int .u8)))), (1, (.ro (.int .i64))), (2, (.ro (.int .i64))), (4, (.ro (.int .i64))), (5, (.h 100)), (15, (.ro (.int .i64))), (49, (.ro (.int .i64))), (50, (.ro .bool))], [(100, (.sl 91 (.st (.cons (.int .i64) (.cons (.int .i64) (.cons (.int .i64) (.cons .str (.cons (.int .i64) .nil))))))))]⟩
def f79con (F : (List Int) → Int → Int → Int → Int → (List TNode) → Option ((Unit × Int × Int) × (List TNode))) : Con := ⟨f79in, f79out, 6, 3, fun x => F x.1.1 x.1.2.1 x.1.2.2.1 x.1.2.2.2.1 x.1.2.2.2.2.1 x.2⟩
def f79ctx (k : Nat) (S79 : (List Int) → Int → Int → Int → Int → (List TNode) → Option ((Unit × Int × Int) × (List TNode))) : Ctx := ⟨tyAt tys, conAt [(79, [f79con S79]), (109, [f109con (spec_ZigGet k)]), (110, [f110con (spec_l4Int k)]), (111, [f111con (spec_l4Text k)]), (112, [f112con (spec_l4Many k)]), (113, [f113con (spec_l4Head k)])], 183, fun _ => false⟩
theorem f79hc (k : Nat) (S79 : (List Int) → Int → Int → Int → Int → (List TNode) → Option ((Unit × Int × Int) × (List TNode))) (h79 : FnOk Tryz.prog 79 (f79con S79)) : CtxOk Tryz.prog (f79ctx k S79) := ctxOk tys_ok mixed_ok (consOk_cons (h79) (consOk_cons (f109ok k) (consOk_cons (f110ok k) (consOk_cons (f111ok k) (consOk_cons (f112ok k) (consOk_cons (f113ok k) (consOk_nil)))))))
theorem f79okb (k : Nat) (S79 : (List Int) → Int → Int → Int → Int → (List TNode) → Option ((Unit × Int × Int) × (List TNode))) (h79 : FnOk Tryz.prog 79 (f79con S79)) : FnOk Tryz.prog 79 (f79con (spec_l4Read.b k S79)) :=
  let hc := f79hc k S79 h79
  fnOk (fn := Tryz.f79) (code := bodyOf Tryz.f79) (res := [.tmp 12, .tmp 13, .tmp 14]) hc (by kernel_rfl) (by kernel_rfl) (by decide) (by kernel_rfl) (by kernel_rfl) (by kernel_rfl) (Nat.le_of_ble_eq_true (by kernel_rfl)) _
    (fun x => Snd.seq (by kernel_rfl) (Snd.seq (by kernel_rfl) (Snd.seq (by kernel_rfl) (Snd.seq (by kernel_rfl) (Snd.seq (by kernel_rfl) (Snd.exec hc _ _ _ _) (Snd.seq (by kernel_rfl) (Snd.block (id := 0) (by kernel_rfl) (Snd.seq (by kernel_rfl) (Snd.cut (Snd.cond (x := .tmp 50) (by kernel_rfl) (Snd.exec hc _ _ _ _) (Snd.seq (by kernel_rfl) (Snd.cond (x := .tmp 78) (by kernel_rfl) (Snd.exec hc _ _ _ _) (Snd.seq (by kernel_rfl) (Snd.cond (x := .tmp 95) (by kernel_rfl) (Snd.seq (by kernel_rfl) (Snd.seq (by kernel_rfl) (Snd.seq (by kernel_rfl) (Snd.seq (by kernel_rfl) (Snd.exec hc _ _ _ _) (Snd.seq (by kernel_rfl) (Snd.block (id := 1) (by kernel_rfl) (Snd.loop' (by kernel_rfl) f79s24 (fun n x => spec_l4Read.l24 k S79 n x.1.1 x.1.2.1 x.1.2.2.2.1 x.1.2.2.2.2.1 x.1.2.2.2.2.2.1 x.1.2.2.2.2.2.2.1 x.1.2.2.2.2.2.2.2 x.2) _ (fun _ => rfl) (fun n24 => Snd.exec hc _ _ _ _) (fun n x => by kernel_rfl) k)) (Snd.exec hc _ _ _ _))) (Snd.exec hc _ _ _ _)) (Snd.exec hc _ _ _ _)) (Snd.exec hc _ _ _ _)) (Snd.seq (by kernel_rfl) (Snd.cond (x := .tmp 138) (by kernel_rfl) (Snd.seq (by kernel_rfl) (Snd.block (id := 3) (by kernel_rfl) (Snd.loop' (by kernel_rfl) f79s30 (fun n x => spec_l4Read.l30 k S79 n x.1.1 x.1.2.1 x.1.2.2.1 x.1.2.2.2.2.1 x.1.2.2.2.2.2.1 x.1.2.2.2.2.2.2 x.2) _ (fun _ => rfl) (fun n30 => Snd.exec hc _ _ _ _) (fun n x => by kernel_rfl) k)) (Snd.exec hc _ _ _ _)) (Snd.exec hc _ _ _ _)) (Snd.exec hc _ _ _ _))) (Snd.exec hc _ _ _ _))) (Snd.exec hc _ _ _ _))) ⟨f79s8, fun x => spec_l4Read.c8 k S79 x.1.1 x.1.2.1 x.1.2.2.1 x.1.2.2.2.1 x.1.2.2.2.2.2.1 x.1.2.2.2.2.2.2.1 x.1.2.2.2.2.2.2.2 x.2⟩ (fun x => by kernel_rfl)) (Snd.exec hc _ _ _ _))) (Snd.exec hc _ _ _ _))) (Snd.exec hc _ _ _ _)) (Snd.exec hc _ _ _ _)) (Snd.exec hc _ _ _ _)) (Snd.exec hc _ _ _ _))
    (fun x => by kernel_rfl)
theorem f79rec (k : Nat) : ∀ d, FnOk Tryz.prog 79 (f79con (spec_l4Read.d k d))
  | 0 => FnOk_none (fun _ => rfl)
  | d + 1 => let ih := f79rec k d
    f79okb k (spec_l4Read.d k d) ih
theorem f79ok (k : Nat) : FnOk Tryz.prog 79 (f79con (spec_l4Read k)) := (f79rec k k)

def f51in : SS := ⟨[(0, (.ro (.list 5 (.int .u8)))), (1, (.ro (.int .i64)))], []⟩
def f51out : SS := ⟨[(0, (.h 100)), (1, (.ro (.int .i64))), (2, (.ro (.int .i64)))], [(100, (.sl 91 (.st (.cons (.int .i64) (.cons (.int .i64) (.cons (.int .i64) (.cons .str (.cons (.int .i64) .nil))))))))]⟩
def f51con (F : (List Int) → Int → Option ((Unit × Int × Int) × (List TNode))) : Con := ⟨f51in, f51out, 2, 3, fun x => F x.1 x.2⟩
def f51ctx (k : Nat) : Ctx := ⟨tyAt tys, conAt [(79, [f79con (spec_l4Read k)])], 34, fun _ => false⟩
theorem f51hc (k : Nat) : CtxOk Tryz.prog (f51ctx k) := ctxOk tys_ok mixed_ok (consOk_cons (f79ok k) (consOk_nil))
theorem f51ok (k : Nat) : FnOk Tryz.prog 51 (f51con (spec_TreeRead k)) :=
  let hc := f51hc k
  fnOk (fn := Tryz.f51) (code := bodyOf Tryz.f51) (res := [.tmp 4, .tmp 5, .tmp 6]) hc (by kernel_rfl) (by kernel_rfl) (by decide) (by kernel_rfl) (by kernel_rfl) (by kernel_rfl) (Nat.le_of_ble_eq_true (by kernel_rfl)) _
    (fun x => Snd.exec hc _ _ _ _)
    (fun x => by kernel_rfl)

def f57in : SS := ⟨[(0, (.ro (.int .i64)))], []⟩
def f57out : SS := ⟨[(0, (.ro .bool))], []⟩
def f57s7 : SS := ⟨[(4, (.ro .bool))], []⟩
def f57con (F : Int → Option Bool) : Con := ⟨f57in, f57out, 1, 1, fun x => F x⟩
def f57ctx (k : Nat) : Ctx := ⟨tyAt tys, conAt [], 10, fun _ => false⟩
theorem f57hc (k : Nat) : CtxOk Tryz.prog (f57ctx k) := ctxOk tys_ok mixed_ok (consOk_nil)
theorem f57ok (k : Nat) : FnOk Tryz.prog 57 (f57con (spec_l5Type k)) :=
  let hc := f57hc k
  fnOk (fn := Tryz.f57) (code := bodyOf Tryz.f57) (res := [.tmp 2]) hc (by kernel_rfl) (by kernel_rfl) (by decide) (by kernel_rfl) (by kernel_rfl) (by kernel_rfl) (Nat.le_of_ble_eq_true (by kernel_rfl)) _
    (fun x => Snd.seq (by kernel_rfl) (Snd.seq (by kernel_rfl) (Snd.exec hc _ _ _ _) (Snd.seq (by kernel_rfl) (Snd.block (id := 0) (by kernel_rfl) (Snd.seq (by kernel_rfl) (Snd.cut (Snd.exec hc _ _ _ _) ⟨f57s7, fun x => spec_l5Type.c7 k x⟩ (fun x => by kernel_rfl)) (Snd.exec hc _ _ _ _))) (Snd.exec hc _ _ _ _))) (Snd.exec hc _ _ _ _))
    (fun x => by kernel_rfl)

def f52in : SS := ⟨[(0, (.ro (.st (.cons (.int .i64) (.cons (.int .i64) (.cons (.int .i64) .nil))))))], []⟩
def f52out : SS := ⟨[(0, (.ro .bool))], []⟩
def f52con (F : TLeaf → Option Bool) : Con := ⟨f52in, f52out, 1, 1, fun x => F x⟩
def f52ctx (k : Nat) : Ctx := ⟨tyAt tys, conAt [(36, [f36con (spec_l1In k)]), (57, [f57con (spec_l5Type k)])], 18, fun _ => false⟩
theorem f52hc (k : Nat) : CtxOk Tryz.prog (f52ctx k) := ctxOk tys_ok mixed_ok (consOk_cons (f36ok k) (consOk_cons (f57ok k) (consOk_nil)))
theorem f52ok (k : Nat) : FnOk Tryz.prog 52 (f52con (spec_LeafOk k)) :=
  let hc := f52hc k
  fnOk (fn := Tryz.f52) (code := bodyOf Tryz.f52) (res := [.tmp 2]) hc (by kernel_rfl) (by kernel_rfl) (by decide) (by kernel_rfl) (by kernel_rfl) (by kernel_rfl) (Nat.le_of_ble_eq_true (by kernel_rfl)) _
    (fun x => Snd.exec hc _ _ _ _)
    (fun x => by kernel_rfl)

def f81in : SS := ⟨[(0, (.ro (.list 91 (.st (.cons (.int .i64) (.cons (.int .i64) (.cons (.int .i64) (.cons .str (.cons (.int .i64) .nil))))))))), (1, (.ro (.int .i64)))], []⟩
def f81out : SS := ⟨[(0, (.ro (.int .i64)))], []⟩
def f81s3 : SS := ⟨[(0, (.ro (.list 91 (.st (.cons (.int .i64) (.cons (.int .i64) (.cons (.int .i64) (.cons .str (.cons (.int .i64) .nil))))))))), (1, (.ro (.int .i64))), (5, (.ro (.int .i64))), (6, (.ro (.int .i64)))], []⟩
def f81con (F : (List TNode) → Int → Option Int) : Con := ⟨f81in, f81out, 2, 1, fun x => F x.1 x.2⟩
def f81ctx (k : Nat) (S81 : (List TNode) → Int → Option Int) : Ctx := ⟨tyAt tys, conAt [(81, [f81con S81])], 22, fun _ => false⟩
theorem f81hc (k : Nat) (S81 : (List TNode) → Int → Option Int) (h81 : FnOk Tryz.prog 81 (f81con S81)) : CtxOk Tryz.prog (f81ctx k S81) := ctxOk tys_ok mixed_ok (consOk_cons (h81) (consOk_nil))
theorem f81okb (k : Nat) (S81 : (List TNode) → Int → Option Int) (h81 : FnOk Tryz.prog 81 (f81con S81)) : FnOk Tryz.prog 81 (f81con (spec_l4After.b k S81)) :=
  let hc := f81hc k S81 h81
  fnOk (fn := Tryz.f81) (code := bodyOf Tryz.f81) (res := [.tmp 4]) hc (by kernel_rfl) (by kernel_rfl) (by decide) (by kernel_rfl) (by kernel_rfl) (by kernel_rfl) (Nat.le_of_ble_eq_true (by kernel_rfl)) _
    (fun x => Snd.seq (by kernel_rfl) (Snd.seq (by kernel_rfl) (Snd.seq (by kernel_rfl) (Snd.exec hc _ _ _ _) (Snd.seq (by kernel_rfl) (Snd.block (id := 0) (by kernel_rfl) (Snd.loop' (by kernel_rfl) f81s3 (fun n x => spec_l4After.l3 k S81 n x.1 x.2.1 x.2.2.1 x.2.2.2) _ (fun _ => rfl) (fun n3 => Snd.exec hc _ _ _ _) (fun n x => by kernel_rfl) k)) (Snd.exec hc _ _ _ _))) (Snd.exec hc _ _ _ _)) (Snd.exec hc _ _ _ _))
    (fun x => by kernel_rfl)
theorem f81rec (k : Nat) : ∀ d, FnOk Tryz.prog 81 (f81con (spec_l4After.d k d))
  | 0 => FnOk_none (fun _ => rfl)
  | d + 1 => let ih := f81rec k d
    f81okb k (spec_l4After.d k d) ih
theorem f81ok (k : Nat) : FnOk Tryz.prog 81 (f81con (spec_l4After k)) := (f81rec k k)

def f54in : SS := ⟨[(0, (.ro (.list 91 (.st (.cons (.int .i64) (.cons (.int .i64) (.cons (.int .i64) (.cons .str (.cons (.int .i64) .nil))))))))), (1, (.ro (.int .i64))), (2, (.ro (.int .i64)))], []⟩
def f54out : SS := ⟨[(0, (.ro (.int .i64)))], []⟩
def f54s5 : SS := ⟨[(0, (.ro (.list 91 (.st (.cons (.int .i64) (.cons (.int .i64) (.cons (.int .i64) (.cons .str (.cons (.int .i64) .nil))))))))), (1, (.ro (.int .i64))), (2, (.ro (.int .i64))), (7, (.ro (.int .i64))), (8, (.ro (.int .i64)))], []⟩
def f54con (F : (List TNode) → Int → Int → Option Int) : Con := ⟨f54in, f54out, 3, 1, fun x => F x.1 x.2.1 x.2.2⟩
def f54ctx (k : Nat) : Ctx := ⟨tyAt tys, conAt [(81, [f81con (spec_l4After k)])], 37, fun _ => false⟩
theorem f54hc (k : Nat) : CtxOk Tryz.prog (f54ctx k) := ctxOk tys_ok mixed_ok (consOk_cons (f81ok k) (consOk_nil))
theorem f54ok (k : Nat) : FnOk Tryz.prog 54 (f54con (spec_l4Find k)) :=
  let hc := f54hc k
  fnOk (fn := Tryz.f54) (code := bodyOf Tryz.f54) (res := [.tmp 6]) hc (by kernel_rfl) (by kernel_rfl) (by decide) (by kernel_rfl) (by kernel_rfl) (by kernel_rfl) (Nat.le_of_ble_eq_true (by kernel_rfl)) _
    (fun x => Snd.seq (by kernel_rfl) (Snd.seq (by kernel_rfl) (Snd.seq (by kernel_rfl) (Snd.seq (by kernel_rfl) (Snd.exec hc _ _ _ _) (Snd.seq (by kernel_rfl) (Snd.block (id := 0) (by kernel_rfl) (Snd.loop' (by kernel_rfl) f54s5 (fun n x => spec_l4Find.l5 k n x.1 x.2.1 x.2.2.1 x.2.2.2.1 x.2.2.2.2) _ (fun _ => rfl) (fun n5 => Snd.exec hc _ _ _ _) (fun n x => by kernel_rfl) k)) (Snd.exec hc _ _ _ _))) (Snd.exec hc _ _ _ _)) (Snd.exec hc _ _ _ _)) (Snd.exec hc _ _ _ _))
    (fun x => by kernel_rfl)

def f80in : SS := ⟨[(0, (.ro (.list 91 (.st (.cons (.int .i64) (.cons (.int .i64) (.cons (.int .i64) (.cons .str (.cons (.int .i64) .nil))))))))), (1, (.ro (.int .i64))), (2, (.ro (.int .i64)))], []⟩
def f80out : SS := ⟨[(0, (.ro (.int .i64))), (1, (.ro .bool))], []⟩
def f80con (F : (List TNode) → Int → Int → Option (Int × Bool)) : Con := ⟨f80in, f80out, 3, 2, fun x => F x.1 x.2.1 x.2.2⟩
def f80ctx (k : Nat) : Ctx := ⟨tyAt tys, conAt [(54, [f54con (spec_l4Find k)])], 36, fun _ => false⟩
theorem f80hc (k : Nat) : CtxOk Tryz.prog (f80ctx k) := ctxOk tys_ok mixed_ok (consOk_cons (f54ok k) (consOk_nil))
theorem f80ok (k : Nat) : FnOk Tryz.prog 80 (f80con (spec_l4NumOf k)) :=
  let hc := f80hc k
  fnOk (fn := Tryz.f80) (code := bodyOf Tryz.f80) (res := [.tmp 6, .tmp 7]) hc (by kernel_rfl) (by kernel_rfl) (by decide) (by kernel_rfl) (by kernel_rfl) (by kernel_rfl) (Nat.le_of_ble_eq_true (by kernel_rfl)) _
    (fun x => Snd.exec hc _ _ _ _)
    (fun x => by kernel_rfl)

def f53in : SS := ⟨[(0, (.ro (.list 91 (.st (.cons (.int .i64) (.cons (.int .i64) (.cons (.int .i64) (.cons .str (.cons (.int .i64) .nil))))))))), (1, (.ro (.int .i64))), (2, (.ro (.list 3 (.int .i64))))], []⟩
def f53out : SS := ⟨[(0, (.h 100)), (1, (.ro .bool))], [(100, (.sl 3 (.int .i64)))]⟩
def f53s3 : SS := ⟨[(0, (.ro (.list 91 (.st (.cons (.int .i64) (.cons (.int .i64) (.cons (.int .i64) (.cons .str (.cons (.int .i64) .nil))))))))), (1, (.ro (.int .i64))), (2, (.ro (.list 3 (.int .i64)))), (8, (.h 100)), (9, (.ro (.int .i64)))], [(100, (.sl 3 (.int .i64)))]⟩
def f53con (F : (List TNode) → Int → (List Int) → Option ((Unit × Bool) × (List Int))) : Con := ⟨f53in, f53out, 3, 2, fun x => F x.1 x.2.1 x.2.2⟩
def f53ctx (k : Nat) : Ctx := ⟨tyAt tys, conAt [(80, [f80con (spec_l4NumOf k)])], 37, fun _ => false⟩
theorem f53hc (k : Nat) : CtxOk Tryz.prog (f53ctx k) := ctxOk tys_ok mixed_ok (consOk_cons (f80ok k) (consOk_nil))
theorem f53ok (k : Nat) : FnOk Tryz.prog 53 (f53con (spec_l16Ids k)) :=
  let hc := f53hc k
  fnOk (fn := Tryz.f53) (code := bodyOf Tryz.f53) (res := [.tmp 6, .tmp 7]) hc (by kernel_rfl) (by kernel_rfl) (by decide) (by kernel_rfl) (by kernel_rfl) (by kernel_rfl) (Nat.le_of_ble_eq_true (by kernel_rfl)) _
    (fun x => Snd.seq (by kernel_rfl) (Snd.seq (by kernel_rfl) (Snd.seq (by kernel_rfl) (Snd.exec hc _ _ _ _) (Snd.seq (by kernel_rfl) (Snd.block (id := 0) (by kernel_rfl) (Snd.loop' (by kernel_rfl) f53s3 (fun n x => spec_l16Ids.l3 k n x.1.1 x.1.2.1 x.1.2.2.1 x.1.2.2.2.2 x.2) _ (fun _ => rfl) (fun n3 => Snd.exec hc _ _ _ _) (fun n x => by kernel_rfl) k)) (Snd.exec hc _ _ _ _))) (Snd.exec hc _ _ _ _)) (Snd.exec hc _ _ _ _))
    (fun x => by kernel_rfl)

def f82in : SS := ⟨[(0, (.ro (.list 91 (.st (.cons (.int .i64) (.cons (.int .i64) (.cons (.int .i64) (.cons .str (.cons (.int .i64) .nil))))))))), (1, (.ro (.int .i64)))], []⟩
def f82out : SS := ⟨[(0, (.ro (.int .i64)))], []⟩
def f82con (F : (List TNode) → Int → Option Int) : Con := ⟨f82in, f82out, 2, 1, fun x => F x.1 x.2⟩
def f82ctx (k : Nat) : Ctx := ⟨tyAt tys, conAt [(54, [f54con (spec_l4Find k)])], 20, fun _ => false⟩
theorem f82hc (k : Nat) : CtxOk Tryz.prog (f82ctx k) := ctxOk tys_ok mixed_ok (consOk_cons (f54ok k) (consOk_nil))
theorem f82ok (k : Nat) : FnOk Tryz.prog 82 (f82con (spec_l16Part k)) :=
  let hc := f82hc k
  fnOk (fn := Tryz.f82) (code := bodyOf Tryz.f82) (res := [.tmp 4]) hc (by kernel_rfl) (by kernel_rfl) (by decide) (by kernel_rfl) (by kernel_rfl) (by kernel_rfl) (Nat.le_of_ble_eq_true (by kernel_rfl)) _
    (fun x => Snd.exec hc _ _ _ _)
    (fun x => by kernel_rfl)

def f114in : SS := ⟨[(0, (.ro (.list 91 (.st (.cons (.int .i64) (.cons (.int .i64) (.cons (.int .i64) (.cons .str (.cons (.int .i64) .nil))))))))), (1, (.ro (.int .i64))), (2, (.ro (.int .i64)))], []⟩
def f114out : SS := ⟨[(0, (.ro .str)), (1, (.ro .bool))], []⟩
def f114con (F : (List TNode) → Int → Int → Option (ByteArray × Bool)) : Con := ⟨f114in, f114out, 3, 2, fun x => F x.1 x.2.1 x.2.2⟩
def f114ctx (k : Nat) : Ctx := ⟨tyAt tys, conAt [(54, [f54con (spec_l4Find k)])], 28, fun _ => false⟩
theorem f114hc (k : Nat) : CtxOk Tryz.prog (f114ctx k) := ctxOk tys_ok mixed_ok (consOk_cons (f54ok k) (consOk_nil))
theorem f114ok (k : Nat) : FnOk Tryz.prog 114 (f114con (spec_l4TextOf k)) :=
  let hc := f114hc k
  fnOk (fn := Tryz.f114) (code := bodyOf Tryz.f114) (res := [.tmp 6, .tmp 7]) hc (by kernel_rfl) (by kernel_rfl) (by decide) (by kernel_rfl) (by kernel_rfl) (by kernel_rfl) (Nat.le_of_ble_eq_true (by kernel_rfl)) _
    (fun x => Snd.exec hc _ _ _ _)
    (fun x => by kernel_rfl)

def f85in : SS := ⟨[(0, (.ro (.int .i64))), (1, (.ro (.int .i64)))], []⟩
def f85out : SS := ⟨[(0, (.ro (.int .i64)))], []⟩
def f85con (F : Int → Int → Option Int) : Con := ⟨f85in, f85out, 2, 1, fun x => F x.1 x.2⟩
def f85ctx (k : Nat) : Ctx := ⟨tyAt tys, conAt [(36, [f36con (spec_l1In k)])], 18, fun _ => false⟩
theorem f85hc (k : Nat) : CtxOk Tryz.prog (f85ctx k) := ctxOk tys_ok mixed_ok (consOk_cons (f36ok k) (consOk_nil))
theorem f85ok (k : Nat) : FnOk Tryz.prog 85 (f85con (spec_BitsSize k)) :=
  let hc := f85hc k
  fnOk (fn := Tryz.f85) (code := bodyOf Tryz.f85) (res := [.tmp 4]) hc (by kernel_rfl) (by kernel_rfl) (by decide) (by kernel_rfl) (by kernel_rfl) (by kernel_rfl) (Nat.le_of_ble_eq_true (by kernel_rfl)) _
    (fun x => Snd.exec hc _ _ _ _)
    (fun x => by kernel_rfl)

def f86in : SS := ⟨[(0, (.ro (.list 5 (.int .u8)))), (1, (.ro (.int .i64)))], []⟩
def f86out : SS := ⟨[(0, (.ro (.int .i64)))], []⟩
def f86con (F : (List Int) → Int → Option Int) : Con := ⟨f86in, f86out, 2, 1, fun x => F x.1 x.2⟩
def f86ctx (k : Nat) : Ctx := ⟨tyAt tys, conAt [], 15, fun _ => false⟩
theorem f86hc (k : Nat) : CtxOk Tryz.prog (f86ctx k) := ctxOk tys_ok mixed_ok (consOk_nil)
theorem f86ok (k : Nat) : FnOk Tryz.prog 86 (f86con (spec_l1Bit k)) :=
  let hc := f86hc k
  fnOk (fn := Tryz.f86) (code := bodyOf Tryz.f86) (res := [.tmp 4]) hc (by kernel_rfl) (by kernel_rfl) (by decide) (by kernel_rfl) (by kernel_rfl) (by kernel_rfl) (Nat.le_of_ble_eq_true (by kernel_rfl)) _
    (fun x => Snd.exec hc _ _ _ _)
    (fun x => by kernel_rfl)

def f58in : SS := ⟨[(0, (.ro (.list 5 (.int .u8)))), (1, (.ro (.int .i64))), (2, (.ro (.int .i64))), (3, (.ro (.int .i64)))], []⟩
def f58out : SS := ⟨[(0, (.h 100)), (1, (.ro (.int .i64))), (2, (.ro .bool))], [(100, (.sl 3 (.int .i64)))]⟩
def f58s10 : SS := ⟨[(0, (.ro (.list 5 (.int .u8)))), (1, (.ro (.int .i64))), (2, (.ro (.int .i64))), (3, (.ro (.int .i64))), (11, (.h 100)), (12, (.ro (.int .i64))), (13, (.ro (.int .i64))), (14, (.ro (.int .i64))), (15, (.ro (.int .i64)))], [(100, (.sl 3 (.int .i64)))]⟩
def f58s6 : SS := ⟨[(0, (.ro (.list 5 (.int .u8)))), (1, (.ro (.int .i64))), (2, (.ro (.int .i64))), (3, (.ro (.int .i64))), (11, (.h 100)), (12, (.ro (.int .i64))), (13, (.ro (.int .i64)))], [(100, (.sl 3 (.int .i64)))]⟩
def f58con (F : (List Int) → Int → Int → Int → Option ((Unit × Int × Bool) × (List Int))) : Con := ⟨f58in, f58out, 4, 3, fun x => F x.1 x.2.1 x.2.2.1 x.2.2.2⟩
def f58ctx (k : Nat) : Ctx := ⟨tyAt tys, conAt [(36, [f36con (spec_l1In k)]), (85, [f85con (spec_BitsSize k)]), (86, [f86con (spec_l1Bit k)])], 70, fun _ => false⟩
theorem f58hc (k : Nat) : CtxOk Tryz.prog (f58ctx k) := ctxOk tys_ok mixed_ok (consOk_cons (f36ok k) (consOk_cons (f85ok k) (consOk_cons (f86ok k) (consOk_nil))))
theorem f58ok (k : Nat) : FnOk Tryz.prog 58 (f58con (spec_BitsRead k)) :=
  let hc := f58hc k
  fnOk (fn := Tryz.f58) (code := bodyOf Tryz.f58) (res := [.tmp 8, .tmp 9, .tmp 10]) hc (by kernel_rfl) (by kernel_rfl) (by decide) (by kernel_rfl) (by kernel_rfl) (by kernel_rfl) (Nat.le_of_ble_eq_true (by kernel_rfl)) _
    (fun x => Snd.seq (by kernel_rfl) (Snd.seq (by kernel_rfl) (Snd.seq (by kernel_rfl) (Snd.seq (by kernel_rfl) (Snd.seq (by kernel_rfl) (Snd.exec hc _ _ _ _) (Snd.seq (by kernel_rfl) (Snd.block (id := 0) (by kernel_rfl) (Snd.loop' (by kernel_rfl) f58s6 (fun n x => spec_BitsRead.l6 k n x.1.1 x.1.2.1 x.1.2.2.1 x.1.2.2.2.1 x.1.2.2.2.2.2.1 x.1.2.2.2.2.2.2 x.2) _ (fun _ => rfl) (fun n6 => Snd.seq (by kernel_rfl) (Snd.seq (by kernel_rfl) (Snd.exec hc _ _ _ _) (Snd.block (id := 1) (by kernel_rfl) (Snd.seq (by kernel_rfl) (Snd.seq (by kernel_rfl) (Snd.exec hc _ _ _ _) (Snd.seq (by kernel_rfl) (Snd.block (id := 2) (by kernel_rfl) (Snd.loop' (by kernel_rfl) f58s10 (fun n x => spec_BitsRead.l10 k (spec_BitsRead.l6 k n6) n x.1.1 x.1.2.1 x.1.2.2.1 x.1.2.2.2.1 x.1.2.2.2.2.2.1 x.1.2.2.2.2.2.2.1 x.1.2.2.2.2.2.2.2.1 x.1.2.2.2.2.2.2.2.2 x.2) _ (fun _ => rfl) (fun n10 => Snd.exec hc _ _ _ _) (fun n x => by kernel_rfl) k)) (Snd.exec hc _ _ _ _))) (Snd.exec hc _ _ _ _)))) (Snd.exec hc _ _ _ _)) (fun n x => by kernel_rfl) k)) (Snd.exec hc _ _ _ _))) (Snd.exec hc _ _ _ _)) (Snd.exec hc _ _ _ _)) (Snd.exec hc _ _ _ _)) (Snd.exec hc _ _ _ _))
    (fun x => by kernel_rfl)

def f37in : SS := ⟨[(0, (.ro (.list 5 (.int .u8)))), (1, (.ro (.int .i64))), (2, (.ro (.int .i64)))], []⟩
def f37out : SS := ⟨[(0, (.ro (.int .i64))), (1, (.ro (.int .i64))), (2, (.ro .bool))], []⟩
def f37s5 : SS := ⟨[(0, (.ro (.list 5 (.int .u8)))), (1, (.ro (.int .i64))), (2, (.ro (.int .i64))), (9, (.ro (.int .i64))), (10, (.ro (.int .i64)))], []⟩
def f37con (F : (List Int) → Int → Int → Option (Int × Int × Bool)) : Con := ⟨f37in, f37out, 3, 3, fun x => F x.1 x.2.1 x.2.2⟩
def f37ctx (k : Nat) : Ctx := ⟨tyAt tys, conAt [(36, [f36con (spec_l1In k)])], 53, fun _ => false⟩
theorem f37hc (k : Nat) : CtxOk Tryz.prog (f37ctx k) := ctxOk tys_ok mixed_ok (consOk_cons (f36ok k) (consOk_nil))
theorem f37ok (k : Nat) : FnOk Tryz.prog 37 (f37con (spec_WordGet k)) :=
  let hc := f37hc k
  fnOk (fn := Tryz.f37) (code := bodyOf Tryz.f37) (res := [.tmp 6, .tmp 7, .tmp 8]) hc (by kernel_rfl) (by kernel_rfl) (by decide) (by kernel_rfl) (by kernel_rfl) (by kernel_rfl) (Nat.le_of_ble_eq_true (by kernel_rfl)) _
    (fun x => Snd.seq (by kernel_rfl) (Snd.seq (by kernel_rfl) (Snd.seq (by kernel_rfl) (Snd.seq (by kernel_rfl) (Snd.exec hc _ _ _ _) (Snd.seq (by kernel_rfl) (Snd.block (id := 0) (by kernel_rfl) (Snd.loop' (by kernel_rfl) f37s5 (fun n x => spec_WordGet.l5 k n x.1 x.2.1 x.2.2.1 x.2.2.2.1 x.2.2.2.2) _ (fun _ => rfl) (fun n5 => Snd.exec hc _ _ _ _) (fun n x => by kernel_rfl) k)) (Snd.exec hc _ _ _ _))) (Snd.exec hc _ _ _ _)) (Snd.exec hc _ _ _ _)) (Snd.exec hc _ _ _ _))
    (fun x => by kernel_rfl)

def f59in : SS := ⟨[(0, (.ro (.int .i64))), (1, (.ro (.list 5 (.int .u8)))), (2, (.ro (.int .i64)))], []⟩
def f59out : SS := ⟨[(0, (.agg (.cons (.ro (.int .i64)) (.cons (.ro .str) .nil)))), (1, (.ro (.int .i64))), (2, (.ro .bool))], []⟩
def f59s6 : SS := ⟨[(6, (.p 100)), (9, (.ro (.int .i64))), (10, (.ro (.int .i64))), (11, (.ro .bool))], [(100, (.box (.st (.cons (.int .i64) (.cons .str .nil))) (.agg (.cons (.ro (.int .i64)) (.cons (.ro .str) .nil)))))]⟩
def f59con (F : Int → (List Int) → Int → Option (TVal × Int × Bool)) : Con := ⟨f59in, f59out, 3, 3, fun x => F x.1 x.2.1 x.2.2⟩
def f59ctx (k : Nat) : Ctx := ⟨tyAt tys, conAt [(37, [f37con (spec_WordGet k)])], 82, fun _ => false⟩
theorem f59hc (k : Nat) : CtxOk Tryz.prog (f59ctx k) := ctxOk tys_ok mixed_ok (consOk_cons (f37ok k) (consOk_nil))
theorem f59ok (k : Nat) : FnOk Tryz.prog 59 (f59con (spec_l7One k)) :=
  let hc := f59hc k
  fnOk (fn := Tryz.f59) (code := bodyOf Tryz.f59) (res := [.cell 6 59, .tmp 7, .tmp 8]) hc (by kernel_rfl) (by kernel_rfl) (by decide) (by kernel_rfl) (by kernel_rfl) (by kernel_rfl) (Nat.le_of_ble_eq_true (by kernel_rfl)) _
    (fun x => Snd.seq (by kernel_rfl) (Snd.seq (by kernel_rfl) (Snd.exec hc _ _ _ _) (Snd.seq (by kernel_rfl) (Snd.block (id := 0) (by kernel_rfl) (Snd.seq (by kernel_rfl) (Snd.cond (x := .tmp 19) (by kernel_rfl) (Snd.seq (by kernel_rfl) (Snd.seq (by kernel_rfl) (Snd.cut (Snd.exec hc _ _ _ _) ⟨f59s6, fun x => spec_l7One.c6 k x.1.2.1 x.1.2.2.1 x.1.2.2.2 x.2⟩ (fun x => by kernel_rfl)) (Snd.exec hc _ _ _ _)) (Snd.exec hc _ _ _ _)) (Snd.exec hc _ _ _ _)) (Snd.exec hc _ _ _ _))) (Snd.exec hc _ _ _ _))) (Snd.exec hc _ _ _ _))
    (fun x => by kernel_rfl)

def f31in : SS := ⟨[(0, (.ro (.int .i64))), (1, (.ro (.list 5 (.int .u8)))), (2, (.ro (.int .i64))), (3, (.ro (.int .i64)))], []⟩
def f31out : SS := ⟨[(0, (.h 100)), (1, (.ro (.int .i64))), (2, (.ro .bool))], [(100, (.sl 59 (.st (.cons (.int .i64) (.cons .str .nil)))))]⟩
def f31s12 : SS := ⟨[(0, (.ro (.int .i64))), (1, (.ro (.list 5 (.int .u8)))), (2, (.ro (.int .i64))), (3, (.ro (.int .i64))), (11, (.h 100)), (16, (.ro (.int .i64)))], [(100, (.sl 59 (.st (.cons (.int .i64) (.cons .str .nil)))))]⟩
def f31s7 : SS := ⟨[(11, (.h 100)), (12, (.h 101)), (13, (.ro (.int .i64))), (14, (.ro .bool)), (15, (.ro (.int .i64)))], [(100, (.sl 59 (.st (.cons (.int .i64) (.cons .str .nil))))), (101, (.sl 3 (.int .i64)))]⟩
def f31con (F : Int → (List Int) → Int → Int → Option ((Unit × Int × Bool) × (List TVal))) : Con := ⟨f31in, f31out, 4, 3, fun x => F x.1 x.2.1 x.2.2.1 x.2.2.2⟩
def f31ctx (k : Nat) : Ctx := ⟨tyAt tys, conAt [(36, [f36con (spec_l1In k)]), (57, [f57con (spec_l5Type k)]), (58, [f58con (spec_BitsRead k)]), (59, [f59con (spec_l7One k)])], 87, fun _ => false⟩
theorem f31hc (k : Nat) : CtxOk Tryz.prog (f31ctx k) := ctxOk tys_ok mixed_ok (consOk_cons (f36ok k) (consOk_cons (f57ok k) (consOk_cons (f58ok k) (consOk_cons (f59ok k) (consOk_nil)))))
theorem f31ok (k : Nat) : FnOk Tryz.prog 31 (f31con (spec_PlainRead k)) :=
  let hc := f31hc k
  fnOk (fn := Tryz.f31) (code := bodyOf Tryz.f31) (res := [.tmp 8, .tmp 9, .tmp 10]) hc (by kernel_rfl) (by kernel_rfl) (by decide) (by kernel_rfl) (by kernel_rfl) (by kernel_rfl) (Nat.le_of_ble_eq_true (by kernel_rfl)) _
    (fun x => Snd.seq (by kernel_rfl) (Snd.seq (by kernel_rfl) (Snd.seq (by kernel_rfl) (Snd.seq (by kernel_rfl) (Snd.seq (by kernel_rfl) (Snd.exec hc _ _ _ _) (Snd.seq (by kernel_rfl) (Snd.block (id := 2) (by kernel_rfl) (Snd.loop' (by kernel_rfl) f31s12 (fun n x => spec_PlainRead.l12 k n x.1.1 x.1.2.1 x.1.2.2.1 x.1.2.2.2.1 x.1.2.2.2.2.2 x.2) _ (fun _ => rfl) (fun n12 => Snd.exec hc _ _ _ _) (fun n x => by kernel_rfl) k)) (Snd.exec hc _ _ _ _))) (Snd.seq (by kernel_rfl) (Snd.cond (x := .tmp 38) (by kernel_rfl) (Snd.seq (by kernel_rfl) (Snd.seq (by kernel_rfl) (Snd.exec hc _ _ _ _) (Snd.seq (by kernel_rfl) (Snd.block (id := 0) (by kernel_rfl) (Snd.loop' (by kernel_rfl) f31s7 (fun n x => spec_PlainRead.l7 k n x.1.2.2.1 x.1.2.2.2.1 x.1.2.2.2.2 x.2.1 x.2.2) _ (fun _ => rfl) (fun n7 => Snd.exec hc _ _ _ _) (fun n x => by kernel_rfl) k)) (Snd.exec hc _ _ _ _))) (Snd.exec hc _ _ _ _)) (Snd.exec hc _ _ _ _)) (Snd.exec hc _ _ _ _))) (Snd.exec hc _ _ _ _)) (Snd.exec hc _ _ _ _)) (Snd.exec hc _ _ _ _))
    (fun x => by kernel_rfl)

def f145in : SS := ⟨[(0, (.ro (.int .i64))), (1, (.ro (.st (.cons (.int .i64) (.cons .str .nil)))))], []⟩
def f145out : SS := ⟨[(0, (.ro .bool))], []⟩
def f145s8 : SS := ⟨[(3, (.p 100)), (5, (.ro (.int .i64))), (26, (.ro .bool))], [(100, (.box (.st (.cons (.int .i64) (.cons .str .nil))) (.agg (.cons (.ro (.int .i64)) (.cons (.ro .str) .nil)))))]⟩
def f145con (F : Int → TVal → Option Bool) : Con := ⟨f145in, f145out, 2, 1, fun x => F x.1 x.2⟩
def f145ctx (k : Nat) : Ctx := ⟨tyAt tys, conAt [(36, [f36con (spec_l1In k)]), (110, [f110con (spec_l4Int k)])], 43, fun _ => false⟩
theorem f145hc (k : Nat) : CtxOk Tryz.prog (f145ctx k) := ctxOk tys_ok mixed_ok (consOk_cons (f36ok k) (consOk_cons (f110ok k) (consOk_nil)))
theorem f145ok (k : Nat) : FnOk Tryz.prog 145 (f145con (spec_ValOk k)) :=
  let hc := f145hc k
  fnOk (fn := Tryz.f145) (code := bodyOf Tryz.f145) (res := [.tmp 4]) hc (by kernel_rfl) (by kernel_rfl) (by decide) (by kernel_rfl) (by kernel_rfl) (by kernel_rfl) (Nat.le_of_ble_eq_true (by kernel_rfl)) _
    (fun x => Snd.seq (by kernel_rfl) (Snd.seq (by kernel_rfl) (Snd.exec hc _ _ _ _) (Snd.seq (by kernel_rfl) (Snd.block (id := 0) (by kernel_rfl) (Snd.seq (by kernel_rfl) (Snd.cond (x := .tmp 6) (by kernel_rfl) (Snd.exec hc _ _ _ _) (Snd.seq (by kernel_rfl) (Snd.cond (x := .tmp 16) (by kernel_rfl) (Snd.exec hc _ _ _ _) (Snd.seq (by kernel_rfl) (Snd.cut (Snd.exec hc _ _ _ _) ⟨f145s8, fun x => spec_ValOk.c8 k x.1.2.1 x.1.2.2 x.2⟩ (fun x => by kernel_rfl)) (Snd.exec hc _ _ _ _))) (Snd.exec hc _ _ _ _))) (Snd.exec hc _ _ _ _))) (Snd.exec hc _ _ _ _))) (Snd.exec hc _ _ _ _))
    (fun x => by kernel_rfl)

def f175in : SS := ⟨[(0, (.ro (.int .i64))), (1, (.ro (.list 59 (.st (.cons (.int .i64) (.cons .str .nil))))))], []⟩
def f175out : SS := ⟨[(0, (.ro .bool))], []⟩
def f175s4 : SS := ⟨[(0, (.ro (.int .i64))), (1, (.ro (.list 59 (.st (.cons (.int .i64) (.cons .str .nil)))))), (5, (.ro (.int .i64)))], []⟩
def f175con (F : Int → (List TVal) → Option Bool) : Con := ⟨f175in, f175out, 2, 1, fun x => F x.1 x.2⟩
def f175ctx (k : Nat) : Ctx := ⟨tyAt tys, conAt [(57, [f57con (spec_l5Type k)]), (145, [f145con (spec_ValOk k)])], 27, fun _ => false⟩
theorem f175hc (k : Nat) : CtxOk Tryz.prog (f175ctx k) := ctxOk tys_ok mixed_ok (consOk_cons (f57ok k) (consOk_cons (f145ok k) (consOk_nil)))
theorem f175ok (k : Nat) : FnOk Tryz.prog 175 (f175con (spec_l6Vals k)) :=
  let hc := f175hc k
  fnOk (fn := Tryz.f175) (code := bodyOf Tryz.f175) (res := [.tmp 4]) hc (by kernel_rfl) (by kernel_rfl) (by decide) (by kernel_rfl) (by kernel_rfl) (by kernel_rfl) (Nat.le_of_ble_eq_true (by kernel_rfl)) _
    (fun x => Snd.seq (by kernel_rfl) (Snd.seq (by kernel_rfl) (Snd.seq (by kernel_rfl) (Snd.exec hc _ _ _ _) (Snd.seq (by kernel_rfl) (Snd.block (id := 0) (by kernel_rfl) (Snd.loop' (by kernel_rfl) f175s4 (fun n x => spec_l6Vals.l4 k n x.1 x.2.1 x.2.2) _ (fun _ => rfl) (fun n4 => Snd.exec hc _ _ _ _) (fun n x => by kernel_rfl) k)) (Snd.exec hc _ _ _ _))) (Snd.exec hc _ _ _ _)) (Snd.exec hc _ _ _ _))
    (fun x => by kernel_rfl)

def f176in : SS := ⟨[(0, (.ro (.int .i64))), (1, (.ro (.int .i64)))], []⟩
def f176out : SS := ⟨[(0, (.h 100))], [(100, (.sl 5 (.int .u8)))]⟩
def f176s3 : SS := ⟨[(0, (.ro (.int .i64))), (1, (.ro (.int .i64))), (5, (.h 100)), (6, (.ro (.int .i64)))], [(100, (.sl 5 (.int .u8)))]⟩
def f176con (F : Int → Int → Option (Unit × (List Int))) : Con := ⟨f176in, f176out, 2, 1, fun x => F x.1 x.2⟩
def f176ctx (k : Nat) : Ctx := ⟨tyAt tys, conAt [(36, [f36con (spec_l1In k)])], 26, fun _ => false⟩
theorem f176hc (k : Nat) : CtxOk Tryz.prog (f176ctx k) := ctxOk tys_ok mixed_ok (consOk_cons (f36ok k) (consOk_nil))
theorem f176ok (k : Nat) : FnOk Tryz.prog 176 (f176con (spec_WordPut k)) :=
  let hc := f176hc k
  fnOk (fn := Tryz.f176) (code := bodyOf Tryz.f176) (res := [.tmp 4]) hc (by kernel_rfl) (by kernel_rfl) (by decide) (by kernel_rfl) (by kernel_rfl) (by kernel_rfl) (Nat.le_of_ble_eq_true (by kernel_rfl)) _
    (fun x => Snd.seq (by kernel_rfl) (Snd.seq (by kernel_rfl) (Snd.seq (by kernel_rfl) (Snd.exec hc _ _ _ _) (Snd.seq (by kernel_rfl) (Snd.block (id := 0) (by kernel_rfl) (Snd.loop' (by kernel_rfl) f176s3 (fun n x => spec_WordPut.l3 k n x.1.1 x.1.2.1 x.1.2.2.2 x.2) _ (fun _ => rfl) (fun n3 => Snd.exec hc _ _ _ _) (fun n x => by kernel_rfl) k)) (Snd.exec hc _ _ _ _))) (Snd.exec hc _ _ _ _)) (Snd.exec hc _ _ _ _))
    (fun x => by kernel_rfl)

def f177in : SS := ⟨[(0, (.ro (.list 3 (.int .i64)))), (1, (.ro (.int .i64)))], []⟩
def f177out : SS := ⟨[(0, (.h 100)), (1, (.ro .bool))], [(100, (.sl 5 (.int .u8)))]⟩
def f177s12 : SS := ⟨[(0, (.ro (.list 3 (.int .i64)))), (1, (.ro (.int .i64))), (7, (.h 100)), (8, (.ro (.int .i64))), (9, (.ro (.int .i64)))], [(100, (.sl 5 (.int .u8)))]⟩
def f177s11 : SS := ⟨[(0, (.ro (.list 3 (.int .i64)))), (1, (.ro (.int .i64))), (7, (.h 100)), (8, (.ro (.int .i64))), (9, (.ro (.int .i64)))], [(100, (.sl 5 (.int .u8)))]⟩
def f177s6 : SS := ⟨[(0, (.ro (.list 3 (.int .i64)))), (1, (.ro (.int .i64))), (7, (.h 100)), (8, (.ro (.int .i64)))], [(100, (.sl 5 (.int .u8)))]⟩
def f177con (F : (List Int) → Int → Option ((Unit × Bool) × (List Int))) : Con := ⟨f177in, f177out, 2, 2, fun x => F x.1 x.2⟩
def f177ctx (k : Nat) : Ctx := ⟨tyAt tys, conAt [(85, [f85con (spec_BitsSize k)])], 73, fun _ => false⟩
theorem f177hc (k : Nat) : CtxOk Tryz.prog (f177ctx k) := ctxOk tys_ok mixed_ok (consOk_cons (f85ok k) (consOk_nil))
theorem f177ok (k : Nat) : FnOk Tryz.prog 177 (f177con (spec_BitsPack k)) :=
  let hc := f177hc k
  fnOk (fn := Tryz.f177) (code := bodyOf Tryz.f177) (res := [.tmp 4, .tmp 5]) hc (by kernel_rfl) (by kernel_rfl) (by decide) (by kernel_rfl) (by kernel_rfl) (by kernel_rfl) (Nat.le_of_ble_eq_true (by kernel_rfl)) _
    (fun x => Snd.seq (by kernel_rfl) (Snd.seq (by kernel_rfl) (Snd.seq (by kernel_rfl) (Snd.seq (by kernel_rfl) (Snd.seq (by kernel_rfl) (Snd.exec hc _ _ _ _) (Snd.seq (by kernel_rfl) (Snd.block (id := 0) (by kernel_rfl) (Snd.loop' (by kernel_rfl) f177s6 (fun n x => spec_BitsPack.l6 k n x.1.1 x.1.2.1 x.1.2.2.2 x.2) _ (fun _ => rfl) (fun n6 => Snd.seq (by kernel_rfl) (Snd.seq (by kernel_rfl) (Snd.exec hc _ _ _ _) (Snd.block (id := 1) (by kernel_rfl) (Snd.seq (by kernel_rfl) (Snd.seq (by kernel_rfl) (Snd.block (id := 2) (by kernel_rfl) (Snd.loop' (by kernel_rfl) f177s11 (fun n x => spec_BitsPack.l11 k (spec_BitsPack.l6 k n6) n x.1.1 x.1.2.1 x.1.2.2.2.1 x.1.2.2.2.2 x.2) _ (fun _ => rfl) (fun n11 => Snd.seq (by kernel_rfl) (Snd.seq (by kernel_rfl) (Snd.cut (Snd.exec hc _ _ _ _) ⟨f177s12, fun x => spec_BitsPack.c12 k (spec_BitsPack.l11 k (spec_BitsPack.l6 k n6) n11) x.1.1 x.1.2.1 x.1.2.2.2.1 x.1.2.2.2.2 x.2⟩ (fun x => by kernel_rfl)) (Snd.exec hc _ _ _ _)) (Snd.exec hc _ _ _ _)) (fun n x => by kernel_rfl) k)) (Snd.exec hc _ _ _ _)) (Snd.exec hc _ _ _ _)))) (Snd.exec hc _ _ _ _)) (fun n x => by kernel_rfl) k)) (Snd.exec hc _ _ _ _))) (Snd.exec hc _ _ _ _)) (Snd.exec hc _ _ _ _)) (Snd.exec hc _ _ _ _)) (Snd.exec hc _ _ _ _))
    (fun x => by kernel_rfl)

def f163in : SS := ⟨[(0, (.ro (.int .i64))), (1, (.ro (.list 59 (.st (.cons (.int .i64) (.cons .str .nil))))))], []⟩
def f163out : SS := ⟨[(0, (.h 100)), (1, (.ro .bool))], [(100, (.sl 5 (.int .u8)))]⟩
def f163s7 : SS := ⟨[(0, (.ro (.int .i64))), (1, (.ro (.list 59 (.st (.cons (.int .i64) (.cons .str .nil)))))), (6, (.h 100)), (7, (.h 101)), (8, (.ro (.int .i64)))], [(100, (.sl 5 (.int .u8))), (101, (.sl 3 (.int .i64)))]⟩
def f163s6 : SS := ⟨[(0, (.ro (.int .i64))), (1, (.ro (.list 59 (.st (.cons (.int .i64) (.cons .str .nil)))))), (6, (.h 100)), (7, (.h 101)), (8, (.ro (.int .i64)))], [(100, (.sl 5 (.int .u8))), (101, (.sl 3 (.int .i64)))]⟩
def f163con (F : Int → (List TVal) → Option ((Unit × Bool) × (List Int))) : Con := ⟨f163in, f163out, 2, 2, fun x => F x.1 x.2⟩
def f163ctx (k : Nat) : Ctx := ⟨tyAt tys, conAt [(175, [f175con (spec_l6Vals k)]), (176, [f176con (spec_WordPut k)]), (177, [f177con (spec_BitsPack k)])], 67, fun _ => false⟩
theorem f163hc (k : Nat) : CtxOk Tryz.prog (f163ctx k) := ctxOk tys_ok mixed_ok (consOk_cons (f175ok k) (consOk_cons (f176ok k) (consOk_cons (f177ok k) (consOk_nil))))
theorem f163ok (k : Nat) : FnOk Tryz.prog 163 (f163con (spec_PlainPack k)) :=
  let hc := f163hc k
  fnOk (fn := Tryz.f163) (code := bodyOf Tryz.f163) (res := [.tmp 4, .tmp 5]) hc (by kernel_rfl) (by kernel_rfl) (by decide) (by kernel_rfl) (by kernel_rfl) (by kernel_rfl) (Nat.le_of_ble_eq_true (by kernel_rfl)) _
    (fun x => Snd.seq (by kernel_rfl) (Snd.seq (by kernel_rfl) (Snd.seq (by kernel_rfl) (Snd.seq (by kernel_rfl) (Snd.seq (by kernel_rfl) (Snd.exec hc _ _ _ _) (Snd.seq (by kernel_rfl) (Snd.block (id := 0) (by kernel_rfl) (Snd.loop' (by kernel_rfl) f163s6 (fun n x => spec_PlainPack.l6 k n x.1.1 x.1.2.1 x.1.2.2.2.2 x.2.1 x.2.2) _ (fun _ => rfl) (fun n6 => Snd.seq (by kernel_rfl) (Snd.seq (by kernel_rfl) (Snd.cut (Snd.exec hc _ _ _ _) ⟨f163s7, fun x => spec_PlainPack.c7 k (spec_PlainPack.l6 k n6) x.1.1 x.1.2.1 x.1.2.2.2.2 x.2.1 x.2.2⟩ (fun x => by kernel_rfl)) (Snd.exec hc _ _ _ _)) (Snd.exec hc _ _ _ _)) (fun n x => by kernel_rfl) k)) (Snd.exec hc _ _ _ _))) (Snd.exec hc _ _ _ _)) (Snd.exec hc _ _ _ _)) (Snd.exec hc _ _ _ _)) (Snd.exec hc _ _ _ _))
    (fun x => by kernel_rfl)

def f146in : SS := ⟨[(0, (.ro (.int .i64))), (1, (.ro (.st (.cons (.int .i64) (.cons .str .nil)))))], []⟩
def f146out : SS := ⟨[(0, (.ro .str))], []⟩
def f146con (F : Int → TVal → Option ByteArray) : Con := ⟨f146in, f146out, 2, 1, fun x => F x.1 x.2⟩
def f146ctx (k : Nat) : Ctx := ⟨tyAt tys, conAt [(163, [f163con (spec_PlainPack k)])], 20, fun _ => false⟩
theorem f146hc (k : Nat) : CtxOk Tryz.prog (f146ctx k) := ctxOk tys_ok mixed_ok (consOk_cons (f163ok k) (consOk_nil))
theorem f146ok (k : Nat) : FnOk Tryz.prog 146 (f146con (spec_l15Text k)) :=
  let hc := f146hc k
  fnOk (fn := Tryz.f146) (code := bodyOf Tryz.f146) (res := [.tmp 4]) hc (by kernel_rfl) (by kernel_rfl) (by decide) (by kernel_rfl) (by kernel_rfl) (by kernel_rfl) (Nat.le_of_ble_eq_true (by kernel_rfl)) _
    (fun x => Snd.exec hc _ _ _ _)
    (fun x => by kernel_rfl)

def f115in : SS := ⟨[(0, (.ro (.int .i64))), (1, (.ro .str))], []⟩
def f115out : SS := ⟨[(0, (.agg (.cons (.ro (.int .i64)) (.cons (.ro .str) .nil)))), (1, (.ro .bool))], []⟩
def f115d7 : SS := ⟨[(0, (.ro (.int .i64))), (1, (.ro .str)), (4, (.p 100)), (6, (.p 101))], [(100, (.box (.st (.cons (.int .i64) (.cons .str .nil))) (.agg (.cons (.ro (.int .i64)) (.cons (.ro .str) .nil))))), (101, (.box (.st (.cons (.int .i64) (.cons .str .nil))) (.agg (.cons (.ro (.int .i64)) (.cons (.ro .str) .nil)))))]⟩
def f115s7 : SS := ⟨[(0, (.ro (.int .i64))), (1, (.ro .str)), (4, (.p 100)), (6, (.p 101))], [(100, (.box (.st (.cons (.int .i64) (.cons .str .nil))) (.agg (.cons (.ro (.int .i64)) (.cons (.ro .str) .nil))))), (101, (.box (.st (.cons (.int .i64) (.cons .str .nil))) (.agg (.cons (.ro (.int .i64)) (.cons (.ro .str) .nil)))))]⟩
def f115con (F : Int → ByteArray → Option (TVal × Bool)) : Con := ⟨f115in, f115out, 2, 2, fun x => F x.1 x.2⟩
def f115ctx (k : Nat) : Ctx := ⟨tyAt tys, conAt [(31, [f31con (spec_PlainRead k)]), (145, [f145con (spec_ValOk k)]), (146, [f146con (spec_l15Text k)])], 39, fun _ => false⟩
theorem f115hc (k : Nat) : CtxOk Tryz.prog (f115ctx k) := ctxOk tys_ok mixed_ok (consOk_cons (f31ok k) (consOk_cons (f145ok k) (consOk_cons (f146ok k) (consOk_nil))))
theorem f115ok (k : Nat) : FnOk Tryz.prog 115 (f115con (spec_l15Value k)) :=
  let hc := f115hc k
  fnOk (fn := Tryz.f115) (code := bodyOf Tryz.f115) (res := [.cell 4 59, .tmp 5]) hc (by kernel_rfl) (by kernel_rfl) (by decide) (by kernel_rfl) (by kernel_rfl) (by kernel_rfl) (Nat.le_of_ble_eq_true (by kernel_rfl)) _
    (fun x => Snd.seq (by kernel_rfl) (Snd.seq (by kernel_rfl) (Snd.seq (by kernel_rfl) (Snd.cut (Snd.seq (by kernel_rfl) (Snd.exec hc _ _ _ _) (Snd.fork hc (id := 7) (by kernel_rfl) ⟨f115d7, fun x => spec_l15Value.d7 k x.1.1 x.1.2.1 x.2.1 x.2.2⟩ [[1, 0, 2, 3, 4, 5, 8, 6, 7, 9, 10, 11, 12], [1, 2, 0, 3, 4, 5, 8, 6, 7, 9, 10, 11, 12], [1, 2, 3, 4, 5, 8, 0, 6, 7, 9, 10, 11, 12], [1, 2, 3, 4, 5, 8, 6, 0, 7, 9, 10, 11, 12], [1, 2, 3, 4, 5, 8, 6, 7, 0, 9, 10, 11, 12]] (by kernel_rfl) (ords_cons (fun x => by kernel_rfl) (ords_cons (fun x => by kernel_rfl) (ords_cons (fun x => by kernel_rfl) (ords_cons (fun x => by kernel_rfl) (ords_cons (fun x => by kernel_rfl) (ords_nil)))))))) ⟨f115s7, fun x => spec_l15Value.c7 k x.1.1 x.1.2.1 x.2.1 x.2.2⟩ (fun x => by kernel_rfl)) (Snd.exec hc _ _ _ _)) (Snd.exec hc _ _ _ _)) (Snd.exec hc _ _ _ _))
    (fun x => by kernel_rfl)

def f164in : SS := ⟨[(0, (.ro (.int .i64)))], []⟩
def f164out : SS := ⟨[(0, (.ro (.int .i64)))], []⟩
def f164con (F : Int → Option Int) : Con := ⟨f164in, f164out, 1, 1, fun x => F x⟩
def f164ctx (k : Nat) : Ctx := ⟨tyAt tys, conAt [], 8, fun _ => false⟩
theorem f164hc (k : Nat) : CtxOk Tryz.prog (f164ctx k) := ctxOk tys_ok mixed_ok (consOk_nil)
theorem f164ok (k : Nat) : FnOk Tryz.prog 164 (f164con (spec_FloatKey k)) :=
  let hc := f164hc k
  fnOk (fn := Tryz.f164) (code := bodyOf Tryz.f164) (res := [.tmp 2]) hc (by kernel_rfl) (by kernel_rfl) (by decide) (by kernel_rfl) (by kernel_rfl) (by kernel_rfl) (Nat.le_of_ble_eq_true (by kernel_rfl)) _
    (fun x => Snd.exec hc _ _ _ _)
    (fun x => by kernel_rfl)

def f147in : SS := ⟨[(0, (.ro (.int .i64))), (1, (.ro (.st (.cons (.int .i64) (.cons .str .nil))))), (2, (.ro (.st (.cons (.int .i64) (.cons .str .nil)))))], []⟩
def f147out : SS := ⟨[(0, (.ro .bool))], []⟩
def f147d5 : SS := ⟨[(4, (.p 100)), (5, (.p 101))], [(100, (.box (.st (.cons (.int .i64) (.cons .str .nil))) (.agg (.cons (.ro (.int .i64)) (.cons (.ro .str) .nil))))), (101, (.box (.st (.cons (.int .i64) (.cons .str .nil))) (.agg (.cons (.ro (.int .i64)) (.cons (.ro .str) .nil)))))]⟩
def f147s8 : SS := ⟨[(4, (.p 100)), (5, (.p 101)), (7, (.ro (.int .i64)))], [(100, (.box (.st (.cons (.int .i64) (.cons .str .nil))) (.agg (.cons (.ro (.int .i64)) (.cons (.ro .str) .nil))))), (101, (.box (.st (.cons (.int .i64) (.cons .str .nil))) (.agg (.cons (.ro (.int .i64)) (.cons (.ro .str) .nil)))))]⟩
def f147con (F : Int → TVal → TVal → Option Bool) : Con := ⟨f147in, f147out, 3, 1, fun x => F x.1 x.2.1 x.2.2⟩
def f147ctx (k : Nat) : Ctx := ⟨tyAt tys, conAt [(145, [f145con (spec_ValOk k)]), (164, [f164con (spec_FloatKey k)])], 74, fun _ => false⟩
theorem f147hc (k : Nat) : CtxOk Tryz.prog (f147ctx k) := ctxOk tys_ok mixed_ok (consOk_cons (f145ok k) (consOk_cons (f164ok k) (consOk_nil)))
theorem f147ok (k : Nat) : FnOk Tryz.prog 147 (f147con (spec_ValLess k)) :=
  let hc := f147hc k
  fnOk (fn := Tryz.f147) (code := bodyOf Tryz.f147) (res := [.tmp 6]) hc (by kernel_rfl) (by kernel_rfl) (by decide) (by kernel_rfl) (by kernel_rfl) (by kernel_rfl) (Nat.le_of_ble_eq_true (by kernel_rfl)) _
    (fun x => Snd.seq (by kernel_rfl) (Snd.seq (by kernel_rfl) (Snd.seq (by kernel_rfl) (Snd.exec hc _ _ _ _) (Snd.seq (by kernel_rfl) (Snd.block (id := 0) (by kernel_rfl) (Snd.seq (by kernel_rfl) (Snd.cond (x := .tmp 19) (by kernel_rfl) (Snd.seq (by kernel_rfl) (Snd.exec hc _ _ _ _) (Snd.fork hc (id := 5) (by kernel_rfl) ⟨f147d5, fun x => spec_ValLess.d5 k x.2.1 x.2.2⟩ [[0, 3, 1, 2, 4, 5, 6, 7], [0, 3, 1, 4, 2, 5, 6, 7], [0, 3, 4, 1, 2, 5, 6, 7]] (by kernel_rfl) (ords_cons (fun x => by kernel_rfl) (ords_cons (fun x => by kernel_rfl) (ords_cons (fun x => by kernel_rfl) (ords_nil)))))) (Snd.seq (by kernel_rfl) (Snd.cond (x := .tmp 28) (by kernel_rfl) (Snd.seq (by kernel_rfl) (Snd.exec hc _ _ _ _) (Snd.seq (by kernel_rfl) (Snd.block (id := 1) (by kernel_rfl) (Snd.loop' (by kernel_rfl) f147s8 (fun n x => spec_ValLess.l8 k n x.1.2.2 x.2.1 x.2.2) _ (fun _ => rfl) (fun n8 => Snd.exec hc _ _ _ _) (fun n x => by kernel_rfl) k)) (Snd.exec hc _ _ _ _))) (Snd.exec hc _ _ _ _)) (Snd.exec hc _ _ _ _))) (Snd.exec hc _ _ _ _))) (Snd.exec hc _ _ _ _))) (Snd.exec hc _ _ _ _)) (Snd.exec hc _ _ _ _))
    (fun x => by kernel_rfl)

def f116in : SS := ⟨[(0, (.ro (.st (.cons (.int .i64) (.cons (.int .i64) (.cons (.int .i64) .nil)))))), (1, (.ro (.st (.cons (.int .i64) (.cons .bool (.cons (.st (.cons (.int .i64) (.cons .str .nil))) (.cons (.st (.cons (.int .i64) (.cons .str .nil))) .nil)))))))], []⟩
def f116out : SS := ⟨[(0, (.ro .bool))], []⟩
def f116con (F : TLeaf → TStats → Option Bool) : Con := ⟨f116in, f116out, 2, 1, fun x => F x.1 x.2⟩
def f116ctx (k : Nat) : Ctx := ⟨tyAt tys, conAt [(36, [f36con (spec_l1In k)]), (52, [f52con (spec_LeafOk k)]), (145, [f145con (spec_ValOk k)]), (147, [f147con (spec_ValLess k)])], 51, fun _ => false⟩
theorem f116hc (k : Nat) : CtxOk Tryz.prog (f116ctx k) := ctxOk tys_ok mixed_ok (consOk_cons (f36ok k) (consOk_cons (f52ok k) (consOk_cons (f145ok k) (consOk_cons (f147ok k) (consOk_nil)))))
theorem f116ok (k : Nat) : FnOk Tryz.prog 116 (f116con (spec_l15Ok k)) :=
  let hc := f116hc k
  fnOk (fn := Tryz.f116) (code := bodyOf Tryz.f116) (res := [.tmp 4]) hc (by kernel_rfl) (by kernel_rfl) (by decide) (by kernel_rfl) (by kernel_rfl) (by kernel_rfl) (Nat.le_of_ble_eq_true (by kernel_rfl)) _
    (fun x => Snd.exec hc _ _ _ _)
    (fun x => by kernel_rfl)

def f83in : SS := ⟨[(0, (.ro (.st (.cons (.int .i64) (.cons (.int .i64) (.cons (.int .i64) .nil)))))), (1, (.ro (.list 91 (.st (.cons (.int .i64) (.cons (.int .i64) (.cons (.int .i64) (.cons .str (.cons (.int .i64) .nil))))))))), (2, (.ro (.int .i64)))], []⟩
def f83out : SS := ⟨[(0, (.agg (.cons (.ro (.int .i64)) (.cons (.ro .bool) (.cons (.agg (.cons (.ro (.int .i64)) (.cons (.ro .str) .nil))) (.cons (.agg (.cons (.ro (.int .i64)) (.cons (.ro .str) .nil))) .nil)))))), (1, (.ro .bool))], []⟩
def f83s15 : SS := ⟨[(3, (.p 100)), (6, (.p 101)), (8, (.p 102)), (15, (.p 103))], [(100, (.box (.st (.cons (.int .i64) (.cons (.int .i64) (.cons (.int .i64) .nil)))) (.agg (.cons (.ro (.int .i64)) (.cons (.ro (.int .i64)) (.cons (.ro (.int .i64)) .nil)))))), (101, (.box (.st (.cons (.int .i64) (.cons .bool (.cons (.st (.cons (.int .i64) (.cons .str .nil))) (.cons (.st (.cons (.int .i64) (.cons .str .nil))) .nil))))) (.agg (.cons (.ro (.int .i64)) (.cons (.ro .bool) (.cons (.agg (.cons (.ro (.int .i64)) (.cons (.ro .str) .nil))) (.cons (.agg (.cons (.ro (.int .i64)) (.cons (.ro .str) .nil))) .nil))))))), (102, (.box (.st (.cons (.int .i64) (.cons .bool (.cons (.st (.cons (.int .i64) (.cons .str .nil))) (.cons (.st (.cons (.int .i64) (.cons .str .nil))) .nil))))) (.agg (.cons (.ro (.int .i64)) (.cons (.ro .bool) (.cons (.agg (.cons (.ro (.int .i64)) (.cons (.ro .str) .nil))) (.cons (.agg (.cons (.ro (.int .i64)) (.cons (.ro .str) .nil))) .nil))))))), (103, (.box (.st (.cons (.int .i64) (.cons .bool (.cons (.st (.cons (.int .i64) (.cons .str .nil))) (.cons (.st (.cons (.int .i64) (.cons .str .nil))) .nil))))) (.agg (.cons (.ro (.int .i64)) (.cons (.ro .bool) (.cons (.agg (.cons (.ro (.int .i64)) (.cons (.ro .str) .nil))) (.cons (.agg (.cons (.ro (.int .i64)) (.cons (.ro .str) .nil))) .nil)))))))]⟩
def f83con (F : TLeaf → (List TNode) → Int → Option (TStats × Bool)) : Con := ⟨f83in, f83out, 3, 2, fun x => F x.1 x.2.1 x.2.2⟩
def f83ctx (k : Nat) : Ctx := ⟨tyAt tys, conAt [(54, [f54con (spec_l4Find k)]), (80, [f80con (spec_l4NumOf k)]), (114, [f114con (spec_l4TextOf k)]), (115, [f115con (spec_l15Value k)]), (116, [f116con (spec_l15Ok k)])], 98, fun _ => false⟩
theorem f83hc (k : Nat) : CtxOk Tryz.prog (f83ctx k) := ctxOk tys_ok mixed_ok (consOk_cons (f54ok k) (consOk_cons (f80ok k) (consOk_cons (f114ok k) (consOk_cons (f115ok k) (consOk_cons (f116ok k) (consOk_nil))))))
theorem f83ok (k : Nat) : FnOk Tryz.prog 83 (f83con (spec_l15From k)) :=
  let hc := f83hc k
  fnOk (fn := Tryz.f83) (code := bodyOf Tryz.f83) (res := [.cell 6 61, .tmp 7]) hc (by kernel_rfl) (by kernel_rfl) (by decide) (by kernel_rfl) (by kernel_rfl) (by kernel_rfl) (Nat.le_of_ble_eq_true (by kernel_rfl)) _
    (fun x => Snd.seq (by kernel_rfl) (Snd.seq (by kernel_rfl) (Snd.seq (by kernel_rfl) (Snd.seq (by kernel_rfl) (Snd.seq (by kernel_rfl) (Snd.seq (by kernel_rfl) (Snd.seq (by kernel_rfl) (Snd.seq (by kernel_rfl) (Snd.cut (Snd.exec hc _ _ _ _) ⟨f83s15, fun x => spec_l15From.c15 k x.2.1 x.2.2.1 x.2.2.2.1 x.2.2.2.2⟩ (fun x => by kernel_rfl)) (Snd.exec hc _ _ _ _)) (Snd.exec hc _ _ _ _)) (Snd.exec hc _ _ _ _)) (Snd.exec hc _ _ _ _)) (Snd.exec hc _ _ _ _)) (Snd.exec hc _ _ _ _)) (Snd.exec hc _ _ _ _)) (Snd.exec hc _ _ _ _))
    (fun x => by kernel_rfl)

def f55in : SS := ⟨[(0, (.ro (.st (.cons (.int .i64) (.cons (.int .i64) (.cons (.int .i64) .nil)))))), (1, (.ro (.list 91 (.st (.cons (.int .i64) (.cons (.int .i64) (.cons (.int .i64) (.cons .str (.cons (.int .i64) .nil))))))))), (2, (.ro (.st (.cons (.int .i64) (.cons (.int .i64) (.cons (.int .i64) (.cons (.int .i64) (.cons (.int .i64) (.cons (.int .i64) (.cons (.int .i64) (.cons (.int .i64) (.cons .bool (.cons (.int .i64) (.cons .bool (.cons (.st (.cons (.int .i64) (.cons .bool (.cons (.st (.cons (.int .i64) (.cons .str .nil))) (.cons (.st (.cons (.int .i64) (.cons .str .nil))) .nil))))) (.cons (.int .i64) .nil))))))))))))))))], []⟩
def f55out : SS := ⟨[(0, (.agg (.cons (.ro (.int .i64)) (.cons (.ro (.int .i64)) (.cons (.ro (.int .i64)) (.cons (.ro (.int .i64)) (.cons (.ro (.int .i64)) (.cons (.ro (.int .i64)) (.cons (.ro (.int .i64)) (.cons (.ro (.int .i64)) (.cons (.ro .bool) (.cons (.ro (.int .i64)) (.cons (.ro .bool) (.cons (.agg (.cons (.ro (.int .i64)) (.cons (.ro .bool) (.cons (.agg (.cons (.ro (.int .i64)) (.cons (.ro .str) .nil))) (.cons (.agg (.cons (.ro (.int .i64)) (.cons (.ro .str) .nil))) .nil))))) (.cons (.ro (.int .i64)) .nil))))))))))))))), (1, (.ro .bool))], []⟩
def f55s33 : SS := ⟨[(5, (.p 100)), (6, (.p 101))], [(100, (.box (.st (.cons (.int .i64) (.cons (.int .i64) (.cons (.int .i64) (.cons (.int .i64) (.cons (.int .i64) (.cons (.int .i64) (.cons (.int .i64) (.cons (.int .i64) (.cons .bool (.cons (.int .i64) (.cons .bool (.cons (.st (.cons (.int .i64) (.cons .bool (.cons (.st (.cons (.int .i64) (.cons .str .nil))) (.cons (.st (.cons (.int .i64) (.cons .str .nil))) .nil))))) (.cons (.int .i64) .nil)))))))))))))) (.agg (.cons (.ro (.int .i64)) (.cons (.ro (.int .i64)) (.cons (.ro (.int .i64)) (.cons (.ro (.int .i64)) (.cons (.ro (.int .i64)) (.cons (.ro (.int .i64)) (.cons (.ro (.int .i64)) (.cons (.ro (.int .i64)) (.cons (.ro .bool) (.cons (.ro (.int .i64)) (.cons (.ro .bool) (.cons (.agg (.cons (.ro (.int .i64)) (.cons (.ro .bool) (.cons (.agg (.cons (.ro (.int .i64)) (.cons (.ro .str) .nil))) (.cons (.agg (.cons (.ro (.int .i64)) (.cons (.ro .str) .nil))) .nil))))) (.cons (.ro (.int .i64)) .nil)))))))))))))))), (101, (.box (.st (.cons (.int .i64) (.cons (.int .i64) (.cons (.int .i64) (.cons (.int .i64) (.cons (.int .i64) (.cons (.int .i64) (.cons (.int .i64) (.cons (.int .i64) (.cons .bool (.cons (.int .i64) (.cons .bool (.cons (.st (.cons (.int .i64) (.cons .bool (.cons (.st (.cons (.int .i64) (.cons .str .nil))) (.cons (.st (.cons (.int .i64) (.cons .str .nil))) .nil))))) (.cons (.int .i64) .nil)))))))))))))) (.agg (.cons (.ro (.int .i64)) (.cons (.ro (.int .i64)) (.cons (.ro (.int .i64)) (.cons (.ro (.int .i64)) (.cons (.ro (.int .i64)) (.cons (.ro (.int .i64)) (.cons (.ro (.int .i64)) (.cons (.ro (.int .i64)) (.cons (.ro .bool) (.cons (.ro (.int .i64)) (.cons (.ro .bool) (.cons (.agg (.cons (.ro (.int .i64)) (.cons (.ro .bool) (.cons (.agg (.cons (.ro (.int .i64)) (.cons (.ro .str) .nil))) (.cons (.agg (.cons (.ro (.int .i64)) (.cons (.ro .str) .nil))) .nil))))) (.cons (.ro (.int .i64)) .nil))))))))))))))))]⟩
def f55s27 : SS := ⟨[(1, (.ro (.list 91 (.st (.cons (.int .i64) (.cons (.int .i64) (.cons (.int .i64) (.cons .str (.cons (.int .i64) .nil))))))))), (3, (.p 100)), (5, (.p 101)), (6, (.p 102)), (10, (.ro (.int .i64))), (11, (.ro (.int .i64)))], [(100, (.box (.st (.cons (.int .i64) (.cons (.int .i64) (.cons (.int .i64) .nil)))) (.agg (.cons (.ro (.int .i64)) (.cons (.ro (.int .i64)) (.cons (.ro (.int .i64)) .nil)))))), (101, (.box (.st (.cons (.int .i64) (.cons (.int .i64) (.cons (.int .i64) (.cons (.int .i64) (.cons (.int .i64) (.cons (.int .i64) (.cons (.int .i64) (.cons (.int .i64) (.cons .bool (.cons (.int .i64) (.cons .bool (.cons (.st (.cons (.int .i64) (.cons .bool (.cons (.st (.cons (.int .i64) (.cons .str .nil))) (.cons (.st (.cons (.int .i64) (.cons .str .nil))) .nil))))) (.cons (.int .i64) .nil)))))))))))))) (.agg (.cons (.ro (.int .i64)) (.cons (.ro (.int .i64)) (.cons (.ro (.int .i64)) (.cons (.ro (.int .i64)) (.cons (.ro (.int .i64)) (.cons (.ro (.int .i64)) (.cons (.ro (.int .i64)) (.cons (.ro (.int .i64)) (.cons (.ro .bool) (.cons (.ro (.int .i64)) (.cons (.ro .bool) (.cons (.agg (.cons (.ro (.int .i64)) (.cons (.ro .bool) (.cons (.agg (.cons (.ro (.int .i64)) (.cons (.ro .str) .nil))) (.cons (.agg (.cons (.ro (.int .i64)) (.cons (.ro .str) .nil))) .nil))))) (.cons (.ro (.int .i64)) .nil)))))))))))))))), (102, (.box (.st (.cons (.int .i64) (.cons (.int .i64) (.cons (.int .i64) (.cons (.int .i64) (.cons (.int .i64) (.cons (.int .i64) (.cons (.int .i64) (.cons (.int .i64) (.cons .bool (.cons (.int .i64) (.cons .bool (.cons (.st (.cons (.int .i64) (.cons .bool (.cons (.st (.cons (.int .i64) (.cons .str .nil))) (.cons (.st (.cons (.int .i64) (.cons .str .nil))) .nil))))) (.cons (.int .i64) .nil)))))))))))))) (.agg (.cons (.ro (.int .i64)) (.cons (.ro (.int .i64)) (.cons (.ro (.int .i64)) (.cons (.ro (.int .i64)) (.cons (.ro (.int .i64)) (.cons (.ro (.int .i64)) (.cons (.ro (.int .i64)) (.cons (.ro (.int .i64)) (.cons (.ro .bool) (.cons (.ro (.int .i64)) (.cons (.ro .bool) (.cons (.agg (.cons (.ro (.int .i64)) (.cons (.ro .bool) (.cons (.agg (.cons (.ro (.int .i64)) (.cons (.ro .str) .nil))) (.cons (.agg (.cons (.ro (.int .i64)) (.cons (.ro .str) .nil))) .nil))))) (.cons (.ro (.int .i64)) .nil))))))))))))))))]⟩
def f55s7 : SS := ⟨[(1, (.ro (.list 91 (.st (.cons (.int .i64) (.cons (.int .i64) (.cons (.int .i64) (.cons .str (.cons (.int .i64) .nil))))))))), (3, (.p 100)), (5, (.p 101)), (6, (.p 102)), (8, (.ro (.int .i64))), (9, (.h 103)), (10, (.ro (.int .i64)))], [(100, (.box (.st (.cons (.int .i64) (.cons (.int .i64) (.cons (.int .i64) .nil)))) (.agg (.cons (.ro (.int .i64)) (.cons (.ro (.int .i64)) (.cons (.ro (.int .i64)) .nil)))))), (101, (.box (.st (.cons (.int .i64) (.cons (.int .i64) (.cons (.int .i64) (.cons (.int .i64) (.cons (.int .i64) (.cons (.int .i64) (.cons (.int .i64) (.cons (.int .i64) (.cons .bool (.cons (.int .i64) (.cons .bool (.cons (.st (.cons (.int .i64) (.cons .bool (.cons (.st (.cons (.int .i64) (.cons .str .nil))) (.cons (.st (.cons (.int .i64) (.cons .str .nil))) .nil))))) (.cons (.int .i64) .nil)))))))))))))) (.agg (.cons (.ro (.int .i64)) (.cons (.ro (.int .i64)) (.cons (.ro (.int .i64)) (.cons (.ro (.int .i64)) (.cons (.ro (.int .i64)) (.cons (.ro (.int .i64)) (.cons (.ro (.int .i64)) (.cons (.ro (.int .i64)) (.cons (.ro .bool) (.cons (.ro (.int .i64)) (.cons (.ro .bool) (.cons (.agg (.cons (.ro (.int .i64)) (.cons (.ro .bool) (.cons (.agg (.cons (.ro (.int .i64)) (.cons (.ro .str) .nil))) (.cons (.agg (.cons (.ro (.int .i64)) (.cons (.ro .str) .nil))) .nil))))) (.cons (.ro (.int .i64)) .nil)))))))))))))))), (102, (.box (.st (.cons (.int .i64) (.cons (.int .i64) (.cons (.int .i64) (.cons (.int .i64) (.cons (.int .i64) (.cons (.int .i64) (.cons (.int .i64) (.cons (.int .i64) (.cons .bool (.cons (.int .i64) (.cons .bool (.cons (.st (.cons (.int .i64) (.cons .bool (.cons (.st (.cons (.int .i64) (.cons .str .nil))) (.cons (.st (.cons (.int .i64) (.cons .str .nil))) .nil))))) (.cons (.int .i64) .nil)))))))))))))) (.agg (.cons (.ro (.int .i64)) (.cons (.ro (.int .i64)) (.cons (.ro (.int .i64)) (.cons (.ro (.int .i64)) (.cons (.ro (.int .i64)) (.cons (.ro (.int .i64)) (.cons (.ro (.int .i64)) (.cons (.ro (.int .i64)) (.cons (.ro .bool) (.cons (.ro (.int .i64)) (.cons (.ro .bool) (.cons (.agg (.cons (.ro (.int .i64)) (.cons (.ro .bool) (.cons (.agg (.cons (.ro (.int .i64)) (.cons (.ro .str) .nil))) (.cons (.agg (.cons (.ro (.int .i64)) (.cons (.ro .str) .nil))) .nil))))) (.cons (.ro (.int .i64)) .nil)))))))))))))))), (103, (.sl 3 (.int .i64)))]⟩
def f55con (F : TLeaf → (List TNode) → THead → Option (THead × Bool)) : Con := ⟨f55in, f55out, 3, 2, fun x => F x.1 x.2.1 x.2.2⟩
def f55ctx (k : Nat) : Ctx := ⟨tyAt tys, conAt [(36, [f36con (spec_l1In k)]), (53, [f53con (spec_l16Ids k)]), (54, [f54con (spec_l4Find k)]), (82, [f82con (spec_l16Part k)]), (83, [f83con (spec_l15From k)])], 153, fun _ => false⟩
theorem f55hc (k : Nat) : CtxOk Tryz.prog (f55ctx k) := ctxOk tys_ok mixed_ok (consOk_cons (f36ok k) (consOk_cons (f53ok k) (consOk_cons (f54ok k) (consOk_cons (f82ok k) (consOk_cons (f83ok k) (consOk_nil))))))
theorem f55ok (k : Nat) : FnOk Tryz.prog 55 (f55con (spec_l16Kind k)) :=
  let hc := f55hc k
  fnOk (fn := Tryz.f55) (code := bodyOf Tryz.f55) (res := [.cell 6 63, .tmp 7]) hc (by kernel_rfl) (by kernel_rfl) (by decide) (by kernel_rfl) (by kernel_rfl) (by kernel_rfl) (Nat.le_of_ble_eq_true (by kernel_rfl)) _
    (fun x => Snd.seq (by kernel_rfl) (Snd.seq (by kernel_rfl) (Snd.seq (by kernel_rfl) (Snd.cut (Snd.seq (by kernel_rfl) (Snd.seq (by kernel_rfl) (Snd.seq (by kernel_rfl) (Snd.seq (by kernel_rfl) (Snd.seq (by kernel_rfl) (Snd.seq (by kernel_rfl) (Snd.seq (by kernel_rfl) (Snd.cut (Snd.seq (by kernel_rfl) (Snd.cut (Snd.exec hc _ _ _ _) ⟨f55s33, fun x => spec_l16Kind.c33 k x.2.1 x.2.2⟩ (fun x => by kernel_rfl)) (Snd.exec hc _ _ _ _)) ⟨f55s27, fun x => spec_l16Kind.c27 k x.1.1 x.1.2.2.2.2.1 x.1.2.2.2.2.2 x.2.1 x.2.2.1 x.2.2.2⟩ (fun x => by kernel_rfl)) (Snd.exec hc _ _ _ _)) (Snd.exec hc _ _ _ _)) (Snd.exec hc _ _ _ _)) (Snd.exec hc _ _ _ _)) (Snd.exec hc _ _ _ _)) (Snd.exec hc _ _ _ _)) (Snd.exec hc _ _ _ _)) ⟨f55s7, fun x => spec_l16Kind.c7 k x.1.1 x.1.2.2.2.2.1 x.1.2.2.2.2.2.2 x.2.1 x.2.2.1 x.2.2.2.1 x.2.2.2.2⟩ (fun x => by kernel_rfl)) (Snd.exec hc _ _ _ _)) (Snd.exec hc _ _ _ _)) (Snd.exec hc _ _ _ _))
    (fun x => by kernel_rfl)

def f29in : SS := ⟨[(0, (.ro (.st (.cons (.int .i64) (.cons (.int .i64) (.cons (.int .i64) .nil)))))), (1, (.ro (.list 5 (.int .u8)))), (2, (.ro (.int .i64)))], []⟩
def f29out : SS := ⟨[(0, (.agg (.cons (.ro (.int .i64)) (.cons (.ro (.int .i64)) (.cons (.ro (.int .i64)) (.cons (.ro (.int .i64)) (.cons (.ro (.int .i64)) (.cons (.ro (.int .i64)) (.cons (.ro (.int .i64)) (.cons (.ro (.int .i64)) (.cons (.ro .bool) (.cons (.ro (.int .i64)) (.cons (.ro .bool) (.cons (.agg (.cons (.ro (.int .i64)) (.cons (.ro .bool) (.cons (.agg (.cons (.ro (.int .i64)) (.cons (.ro .str) .nil))) (.cons (.agg (.cons (.ro (.int .i64)) (.cons (.ro .str) .nil))) .nil))))) (.cons (.ro (.int .i64)) .nil))))))))))))))), (1, (.ro (.int .i64)))], []⟩
def f29s17 : SS := ⟨[(1, (.ro (.list 5 (.int .u8)))), (3, (.p 100)), (6, (.p 101)), (8, (.p 102)), (9, (.h 103)), (10, (.ro (.int .i64))), (14, (.p 104))], [(100, (.box (.st (.cons (.int .i64) (.cons (.int .i64) (.cons (.int .i64) .nil)))) (.agg (.cons (.ro (.int .i64)) (.cons (.ro (.int .i64)) (.cons (.ro (.int .i64)) .nil)))))), (101, (.box (.st (.cons (.int .i64) (.cons (.int .i64) (.cons (.int .i64) (.cons (.int .i64) (.cons (.int .i64) (.cons (.int .i64) (.cons (.int .i64) (.cons (.int .i64) (.cons .bool (.cons (.int .i64) (.cons .bool (.cons (.st (.cons (.int .i64) (.cons .bool (.cons (.st (.cons (.int .i64) (.cons .str .nil))) (.cons (.st (.cons (.int .i64) (.cons .str .nil))) .nil))))) (.cons (.int .i64) .nil)))))))))))))) (.agg (.cons (.ro (.int .i64)) (.cons (.ro (.int .i64)) (.cons (.ro (.int .i64)) (.cons (.ro (.int .i64)) (.cons (.ro (.int .i64)) (.cons (.ro (.int .i64)) (.cons (.ro (.int .i64)) (.cons (.ro (.int .i64)) (.cons (.ro .bool) (.cons (.ro (.int .i64)) (.cons (.ro .bool) (.cons (.agg (.cons (.ro (.int .i64)) (.cons (.ro .bool) (.cons (.agg (.cons (.ro (.int .i64)) (.cons (.ro .str) .nil))) (.cons (.agg (.cons (.ro (.int .i64)) (.cons (.ro .str) .nil))) .nil))))) (.cons (.ro (.int .i64)) .nil)))))))))))))))), (102, (.box (.st (.cons (.int .i64) (.cons (.int .i64) (.cons (.int .i64) (.cons (.int .i64) (.cons (.int .i64) (.cons (.int .i64) (.cons (.int .i64) (.cons (.int .i64) (.cons .bool (.cons (.int .i64) (.cons .bool (.cons (.st (.cons (.int .i64) (.cons .bool (.cons (.st (.cons (.int .i64) (.cons .str .nil))) (.cons (.st (.cons (.int .i64) (.cons .str .nil))) .nil))))) (.cons (.int .i64) .nil)))))))))))))) (.agg (.cons (.ro (.int .i64)) (.cons (.ro (.int .i64)) (.cons (.ro (.int .i64)) (.cons (.ro (.int .i64)) (.cons (.ro (.int .i64)) (.cons (.ro (.int .i64)) (.cons (.ro (.int .i64)) (.cons (.ro (.int .i64)) (.cons (.ro .bool) (.cons (.ro (.int .i64)) (.cons (.ro .bool) (.cons (.agg (.cons (.ro (.int .i64)) (.cons (.ro .bool) (.cons (.agg (.cons (.ro (.int .i64)) (.cons (.ro .str) .nil))) (.cons (.agg (.cons (.ro (.int .i64)) (.cons (.ro .str) .nil))) .nil))))) (.cons (.ro (.int .i64)) .nil)))))))))))))))), (103, (.sl 91 (.st (.cons (.int .i64) (.cons (.int .i64) (.cons (.int .i64) (.cons .str (.cons (.int .i64) .nil)))))))), (104, (.box (.st (.cons (.int .i64) (.cons (.int .i64) (.cons (.int .i64) (.cons (.int .i64) (.cons (.int .i64) (.cons (.int .i64) (.cons (.int .i64) (.cons (.int .i64) (.cons .bool (.cons (.int .i64) (.cons .bool (.cons (.st (.cons (.int .i64) (.cons .bool (.cons (.st (.cons (.int .i64) (.cons .str .nil))) (.cons (.st (.cons (.int .i64) (.cons .str .nil))) .nil))))) (.cons (.int .i64) .nil)))))))))))))) (.agg (.cons (.ro (.int .i64)) (.cons (.ro (.int .i64)) (.cons (.ro (.int .i64)) (.cons (.ro (.int .i64)) (.cons (.ro (.int .i64)) (.cons (.ro (.int .i64)) (.cons (.ro (.int .i64)) (.cons (.ro (.int .i64)) (.cons (.ro .bool) (.cons (.ro (.int .i64)) (.cons (.ro .bool) (.cons (.agg (.cons (.ro (.int .i64)) (.cons (.ro .bool) (.cons (.agg (.cons (.ro (.int .i64)) (.cons (.ro .str) .nil))) (.cons (.agg (.cons (.ro (.int .i64)) (.cons (.ro .str) .nil))) .nil))))) (.cons (.ro (.int .i64)) .nil))))))))))))))))]⟩
def f29con (F : TLeaf → (List Int) → Int → Option (THead × Int)) : Con := ⟨f29in, f29out, 3, 2, fun x => F x.1 x.2.1 x.2.2⟩
def f29ctx (k : Nat) : Ctx := ⟨tyAt tys, conAt [(51, [f51con (spec_TreeRead k)]), (52, [f52con (spec_LeafOk k)]), (53, [f53con (spec_l16Ids k)]), (54, [f54con (spec_l4Find k)]), (55, [f55con (spec_l16Kind k)])], 130, fun _ => false⟩
theorem f29hc (k : Nat) : CtxOk Tryz.prog (f29ctx k) := ctxOk tys_ok mixed_ok (consOk_cons (f51ok k) (consOk_cons (f52ok k) (consOk_cons (f53ok k) (consOk_cons (f54ok k) (consOk_cons (f55ok k) (consOk_nil))))))
theorem f29ok (k : Nat) : FnOk Tryz.prog 29 (f29con (spec_HeadRead k)) :=
  let hc := f29hc k
  fnOk (fn := Tryz.f29) (code := bodyOf Tryz.f29) (res := [.cell 6 63, .tmp 7]) hc (by kernel_rfl) (by kernel_rfl) (by decide) (by kernel_rfl) (by kernel_rfl) (by kernel_rfl) (Nat.le_of_ble_eq_true (by kernel_rfl)) _
    (fun x => Snd.seq (by kernel_rfl) (Snd.seq (by kernel_rfl) (Snd.seq (by kernel_rfl) (Snd.seq (by kernel_rfl) (Snd.seq (by kernel_rfl) (Snd.seq (by kernel_rfl) (Snd.seq (by kernel_rfl) (Snd.seq (by kernel_rfl) (Snd.seq (by kernel_rfl) (Snd.cut (Snd.exec hc _ _ _ _) ⟨f29s17, fun x => spec_HeadRead.c17 k x.1.1 x.1.2.2.2.2.2.1 x.2.1 x.2.2.1 x.2.2.2.1 x.2.2.2.2.1 x.2.2.2.2.2⟩ (fun x => by kernel_rfl)) (Snd.exec hc _ _ _ _)) (Snd.exec hc _ _ _ _)) (Snd.exec hc _ _ _ _)) (Snd.exec hc _ _ _ _)) (Snd.exec hc _ _ _ _)) (Snd.exec hc _ _ _ _)) (Snd.exec hc _ _ _ _)) (Snd.exec hc _ _ _ _)) (Snd.exec hc _ _ _ _))
    (fun x => by kernel_rfl)

def f84in : SS := ⟨[(0, (.ro (.int .i64)))], []⟩
def f84out : SS := ⟨[(0, (.ro (.int .i64)))], []⟩
def f84s3 : SS := ⟨[(0, (.ro (.int .i64))), (3, (.ro (.int .i64)))], []⟩
def f84s2 : SS := ⟨[(0, (.ro (.int .i64))), (3, (.ro (.int .i64)))], []⟩
def f84con (F : Int → Option Int) : Con := ⟨f84in, f84out, 1, 1, fun x => F x⟩
def f84ctx (k : Nat) : Ctx := ⟨tyAt tys, conAt [], 18, fun _ => false⟩
theorem f84hc (k : Nat) : CtxOk Tryz.prog (f84ctx k) := ctxOk tys_ok mixed_ok (consOk_nil)
theorem f84ok (k : Nat) : FnOk Tryz.prog 84 (f84con (spec_l3Turn k)) :=
  let hc := f84hc k
  fnOk (fn := Tryz.f84) (code := bodyOf Tryz.f84) (res := [.tmp 2]) hc (by kernel_rfl) (by kernel_rfl) (by decide) (by kernel_rfl) (by kernel_rfl) (by kernel_rfl) (Nat.le_of_ble_eq_true (by kernel_rfl)) _
    (fun x => Snd.seq (by kernel_rfl) (Snd.seq (by kernel_rfl) (Snd.exec hc _ _ _ _) (Snd.seq (by kernel_rfl) (Snd.block (id := 0) (by kernel_rfl) (Snd.loop' (by kernel_rfl) f84s2 (fun n x => spec_l3Turn.l2 k n x.1 x.2) _ (fun _ => rfl) (fun n2 => Snd.seq (by kernel_rfl) (Snd.seq (by kernel_rfl) (Snd.cut (Snd.exec hc _ _ _ _) ⟨f84s3, fun x => spec_l3Turn.c3 k (spec_l3Turn.l2 k n2) x.1 x.2⟩ (fun x => by kernel_rfl)) (Snd.exec hc _ _ _ _)) (Snd.exec hc _ _ _ _)) (fun n x => by kernel_rfl) k)) (Snd.exec hc _ _ _ _))) (Snd.exec hc _ _ _ _))
    (fun x => by kernel_rfl)

def f56in : SS := ⟨[(0, (.ro (.int .i64))), (1, (.ro (.list 5 (.int .u8))))], []⟩
def f56out : SS := ⟨[(0, (.ro (.int .i64)))], []⟩
def f56s5 : SS := ⟨[(1, (.ro (.list 5 (.int .u8)))), (5, (.ro (.int .i64))), (6, (.ro (.int .i64)))], []⟩
def f56con (F : Int → (List Int) → Option Int) : Con := ⟨f56in, f56out, 2, 1, fun x => F x.1 x.2⟩
def f56ctx (k : Nat) : Ctx := ⟨tyAt tys, conAt [(36, [f36con (spec_l1In k)]), (84, [f84con (spec_l3Turn k)])], 32, fun _ => false⟩
theorem f56hc (k : Nat) : CtxOk Tryz.prog (f56ctx k) := ctxOk tys_ok mixed_ok (consOk_cons (f36ok k) (consOk_cons (f84ok k) (consOk_nil)))
theorem f56ok (k : Nat) : FnOk Tryz.prog 56 (f56con (spec_CrcMore k)) :=
  let hc := f56hc k
  fnOk (fn := Tryz.f56) (code := bodyOf Tryz.f56) (res := [.tmp 4]) hc (by kernel_rfl) (by kernel_rfl) (by decide) (by kernel_rfl) (by kernel_rfl) (by kernel_rfl) (Nat.le_of_ble_eq_true (by kernel_rfl)) _
    (fun x => Snd.seq (by kernel_rfl) (Snd.seq (by kernel_rfl) (Snd.seq (by kernel_rfl) (Snd.seq (by kernel_rfl) (Snd.exec hc _ _ _ _) (Snd.seq (by kernel_rfl) (Snd.block (id := 0) (by kernel_rfl) (Snd.loop' (by kernel_rfl) f56s5 (fun n x => spec_CrcMore.l5 k n x.1 x.2.1 x.2.2) _ (fun _ => rfl) (fun n5 => Snd.exec hc _ _ _ _) (fun n x => by kernel_rfl) k)) (Snd.exec hc _ _ _ _))) (Snd.exec hc _ _ _ _)) (Snd.exec hc _ _ _ _)) (Snd.exec hc _ _ _ _))
    (fun x => by kernel_rfl)

def f30in : SS := ⟨[(0, (.ro (.list 5 (.int .u8))))], []⟩
def f30out : SS := ⟨[(0, (.ro (.int .i64)))], []⟩
def f30con (F : (List Int) → Option Int) : Con := ⟨f30in, f30out, 1, 1, fun x => F x⟩
def f30ctx (k : Nat) : Ctx := ⟨tyAt tys, conAt [(56, [f56con (spec_CrcMore k)])], 5, fun _ => false⟩
theorem f30hc (k : Nat) : CtxOk Tryz.prog (f30ctx k) := ctxOk tys_ok mixed_ok (consOk_cons (f56ok k) (consOk_nil))
theorem f30ok (k : Nat) : FnOk Tryz.prog 30 (f30con (spec_CrcOf k)) :=
  let hc := f30hc k
  fnOk (fn := Tryz.f30) (code := bodyOf Tryz.f30) (res := [.tmp 2]) hc (by kernel_rfl) (by kernel_rfl) (by decide) (by kernel_rfl) (by kernel_rfl) (by kernel_rfl) (Nat.le_of_ble_eq_true (by kernel_rfl)) _
    (fun x => Snd.exec hc _ _ _ _)
    (fun x => by kernel_rfl)

def f6in : SS := ⟨[(0, (.ro (.int .i64))), (1, (.ro (.list 5 (.int .u8)))), (2, (.ro (.int .i64)))], []⟩
def f6out : SS := ⟨[(0, (.h 100)), (1, (.ro (.int .i64))), (2, (.ro (.int .i64)))], [(100, (.sl 59 (.st (.cons (.int .i64) (.cons .str .nil)))))]⟩
def f6d8 : SS := ⟨[(0, (.ro (.int .i64))), (9, (.h 100)), (10, (.p 101)), (12, (.ro (.list 5 (.int .u8))))], [(100, (.sl 59 (.st (.cons (.int .i64) (.cons .str .nil))))), (101, (.box (.st (.cons (.int .i64) (.cons (.int .i64) (.cons (.int .i64) (.cons (.int .i64) (.cons (.int .i64) (.cons (.int .i64) (.cons (.int .i64) (.cons (.int .i64) (.cons .bool (.cons (.int .i64) (.cons .bool (.cons (.st (.cons (.int .i64) (.cons .bool (.cons (.st (.cons (.int .i64) (.cons .str .nil))) (.cons (.st (.cons (.int .i64) (.cons .str .nil))) .nil))))) (.cons (.int .i64) .nil)))))))))))))) (.agg (.cons (.ro (.int .i64)) (.cons (.ro (.int .i64)) (.cons (.ro (.int .i64)) (.cons (.ro (.int .i64)) (.cons (.ro (.int .i64)) (.cons (.ro (.int .i64)) (.cons (.ro (.int .i64)) (.cons (.ro (.int .i64)) (.cons (.ro .bool) (.cons (.ro (.int .i64)) (.cons (.ro .bool) (.cons (.agg (.cons (.ro (.int .i64)) (.cons (.ro .bool) (.cons (.agg (.cons (.ro (.int .i64)) (.cons (.ro .str) .nil))) (.cons (.agg (.cons (.ro (.int .i64)) (.cons (.ro .str) .nil))) .nil))))) (.cons (.ro (.int .i64)) .nil))))))))))))))))]⟩
def f6con (F : Int → (List Int) → Int → Option ((Unit × Int × Int) × (List TVal))) : Con := ⟨f6in, f6out, 3, 3, fun x => F x.1 x.2.1 x.2.2⟩
def f6ctx (k : Nat) : Ctx := ⟨tyAt tys, conAt [(29, [f29con (spec_HeadRead k)]), (30, [f30con (spec_CrcOf k)]), (31, [f31con (spec_PlainRead k)])], 88, fun _ => false⟩
theorem f6hc (k : Nat) : CtxOk Tryz.prog (f6ctx k) := ctxOk tys_ok mixed_ok (consOk_cons (f29ok k) (consOk_cons (f30ok k) (consOk_cons (f31ok k) (consOk_nil))))
theorem f6ok (k : Nat) : FnOk Tryz.prog 6 (f6con (spec_DictRead k)) :=
  let hc := f6hc k
  fnOk (fn := Tryz.f6) (code := bodyOf Tryz.f6) (res := [.tmp 6, .tmp 7, .tmp 8]) hc (by kernel_rfl) (by kernel_rfl) (by decide) (by kernel_rfl) (by kernel_rfl) (by kernel_rfl) (Nat.le_of_ble_eq_true (by kernel_rfl)) _
    (fun x => Snd.seq (by kernel_rfl) (Snd.seq (by kernel_rfl) (Snd.seq (by kernel_rfl) (Snd.seq (by kernel_rfl) (Snd.seq (by kernel_rfl) (Snd.seq (by kernel_rfl) (Snd.exec hc _ _ _ _) (Snd.seq (by kernel_rfl) (Snd.exec hc _ _ _ _) (Snd.fork hc (id := 8) (by kernel_rfl) ⟨f6d8, fun x => spec_DictRead.d8 k x.1.1 x.1.2.2.2 x.2.1 x.2.2⟩ [[0, 1, 2, 3, 5, 4, 6, 7, 8], [0, 1, 2, 3, 5, 6, 4, 7, 8]] (by kernel_rfl) (ords_cons (fun x => by kernel_rfl) (ords_cons (fun x => by kernel_rfl) (ords_nil)))))) (Snd.exec hc _ _ _ _)) (Snd.exec hc _ _ _ _)) (Snd.exec hc _ _ _ _)) (Snd.exec hc _ _ _ _)) (Snd.exec hc _ _ _ _))
    (fun x => by kernel_rfl)

def f7in : SS := ⟨[(0, (.ro (.list 5 (.int .u8))))], []⟩
def f7out : SS := ⟨[(0, (.h 100))], [(100, (.sl 5 (.int .u8)))]⟩
def f7s3 : SS := ⟨[(0, (.ro (.list 5 (.int .u8)))), (3, (.h 100)), (4, (.ro (.int .i64)))], [(100, (.sl 5 (.int .u8)))]⟩
def f7con (F : (List Int) → Option (Unit × (List Int))) : Con := ⟨f7in, f7out, 1, 1, fun x => F x⟩
def f7ctx (k : Nat) : Ctx := ⟨tyAt tys, conAt [], 22, fun _ => false⟩
theorem f7hc (k : Nat) : CtxOk Tryz.prog (f7ctx k) := ctxOk tys_ok mixed_ok (consOk_nil)
theorem f7ok (k : Nat) : FnOk Tryz.prog 7 (f7con (laws_toByteS k)) :=
  let hc := f7hc k
  fnOk (fn := Tryz.f7) (code := bodyOf Tryz.f7) (res := [.tmp 2]) hc (by kernel_rfl) (by kernel_rfl) (by decide) (by kernel_rfl) (by kernel_rfl) (by kernel_rfl) (Nat.le_of_ble_eq_true (by kernel_rfl)) _
    (fun x => Snd.seq (by kernel_rfl) (Snd.seq (by kernel_rfl) (Snd.seq (by kernel_rfl) (Snd.exec hc _ _ _ _) (Snd.seq (by kernel_rfl) (Snd.block (id := 0) (by kernel_rfl) (Snd.loop' (by kernel_rfl) f7s3 (fun n x => laws_toByteS.l3 k n x.1.1 x.1.2.2 x.2) _ (fun _ => rfl) (fun n3 => Snd.exec hc _ _ _ _) (fun n x => by kernel_rfl) k)) (Snd.exec hc _ _ _ _))) (Snd.exec hc _ _ _ _)) (Snd.exec hc _ _ _ _))
    (fun x => by kernel_rfl)

def f39in : SS := ⟨[(0, (.ro (.int .i64))), (1, (.ro (.int .i64))), (2, (.ro (.int .i64)))], []⟩
def f39out : SS := ⟨[(0, (.ro .bool))], []⟩
def f39con (F : Int → Int → Int → Option Bool) : Con := ⟨f39in, f39out, 3, 1, fun x => F x.1 x.2.1 x.2.2⟩
def f39ctx (k : Nat) : Ctx := ⟨tyAt tys, conAt [], 15, fun _ => false⟩
theorem f39hc (k : Nat) : CtxOk Tryz.prog (f39ctx k) := ctxOk tys_ok mixed_ok (consOk_nil)
theorem f39ok (k : Nat) : FnOk Tryz.prog 39 (f39con (impl_within k)) :=
  let hc := f39hc k
  fnOk (fn := Tryz.f39) (code := bodyOf Tryz.f39) (res := [.tmp 6]) hc (by kernel_rfl) (by kernel_rfl) (by decide) (by kernel_rfl) (by kernel_rfl) (by kernel_rfl) (Nat.le_of_ble_eq_true (by kernel_rfl)) _
    (fun x => Snd.exec hc _ _ _ _)
    (fun x => by kernel_rfl)

def f129in : SS := ⟨[(0, (.p 0)), (1, (.ro (.int .i64)))], [(0, (.box (.st (.cons (.list 5 (.int .u8)) (.cons (.int .i64) (.cons (.list 91 (.st (.cons (.int .i64) (.cons (.int .i64) (.cons (.int .i64) (.cons .str (.cons (.int .i64) .nil))))))) (.cons (.int .i64) .nil))))) (.agg (.cons (.ro (.list 5 (.int .u8))) (.cons (.ro (.int .i64)) (.cons (.h 10) (.cons (.ro (.int .i64)) .nil))))))), (10, (.sl 91 (.st (.cons (.int .i64) (.cons (.int .i64) (.cons (.int .i64) (.cons .str (.cons (.int .i64) .nil))))))))]⟩
def f129out : SS := ⟨[], [(0, (.box (.st (.cons (.list 5 (.int .u8)) (.cons (.int .i64) (.cons (.list 91 (.st (.cons (.int .i64) (.cons (.int .i64) (.cons (.int .i64) (.cons .str (.cons (.int .i64) .nil))))))) (.cons (.int .i64) .nil))))) (.agg (.cons (.ro (.list 5 (.int .u8))) (.cons (.ro (.int .i64)) (.cons (.h 10) (.cons (.ro (.int .i64)) .nil))))))), (10, (.sl 91 (.st (.cons (.int .i64) (.cons (.int .i64) (.cons (.int .i64) (.cons .str (.cons (.int .i64) .nil))))))))]⟩
def f129con (F : Int → TTreeReaderB → (List TNode) → Option (Unit × TTreeReaderB × (List TNode))) : Con := ⟨f129in, f129out, 2, 0, fun x => F x.1.2 x.2.1 x.2.2⟩
def f129ctx (k : Nat) : Ctx := ⟨tyAt tys, conAt [], 13, fun _ => false⟩
theorem f129hc (k : Nat) : CtxOk Tryz.prog (f129ctx k) := ctxOk tys_ok mixed_ok (consOk_nil)
theorem f129ok (k : Nat) : FnOk Tryz.prog 129 (f129con (impl_treeReader_fail k)) :=
  let hc := f129hc k
  fnOk (fn := Tryz.f129) (code := bodyOf Tryz.f129) (res := []) hc (by kernel_rfl) (by kernel_rfl) (by decide) (by kernel_rfl) (by kernel_rfl) (by kernel_rfl) (Nat.le_of_ble_eq_true (by kernel_rfl)) _
    (fun x => Snd.exec hc _ _ _ _)
    (fun x => by kernel_rfl)

def f125in : SS := ⟨[(0, (.p 0)), (1, (.ro (.st (.cons (.int .i64) (.cons (.int .i64) (.cons (.int .i64) (.cons .str (.cons (.int .i64) .nil)))))))), (2, (.ro (.int .i64)))], [(0, (.box (.st (.cons (.list 5 (.int .u8)) (.cons (.int .i64) (.cons (.list 91 (.st (.cons (.int .i64) (.cons (.int .i64) (.cons (.int .i64) (.cons .str (.cons (.int .i64) .nil))))))) (.cons (.int .i64) .nil))))) (.agg (.cons (.ro (.list 5 (.int .u8))) (.cons (.ro (.int .i64)) (.cons (.h 10) (.cons (.ro (.int .i64)) .nil))))))), (10, (.sl 91 (.st (.cons (.int .i64) (.cons (.int .i64) (.cons (.int .i64) (.cons .str (.cons (.int .i64) .nil))))))))]⟩
def f125out : SS := ⟨[(0, (.ro (.int .i64)))], [(0, (.box (.st (.cons (.list 5 (.int .u8)) (.cons (.int .i64) (.cons (.list 91 (.st (.cons (.int .i64) (.cons (.int .i64) (.cons (.int .i64) (.cons .str (.cons (.int .i64) .nil))))))) (.cons (.int .i64) .nil))))) (.agg (.cons (.ro (.list 5 (.int .u8))) (.cons (.ro (.int .i64)) (.cons (.h 100) (.cons (.ro (.int .i64)) .nil))))))), (100, (.sl 91 (.st (.cons (.int .i64) (.cons (.int .i64) (.cons (.int .i64) (.cons .str (.cons (.int .i64) .nil))))))))]⟩
def f125s3 : SS := ⟨[(0, (.p 0)), (4, (.p 100))], [(0, (.box (.st (.cons (.list 5 (.int .u8)) (.cons (.int .i64) (.cons (.list 91 (.st (.cons (.int .i64) (.cons (.int .i64) (.cons (.int .i64) (.cons .str (.cons (.int .i64) .nil))))))) (.cons (.int .i64) .nil))))) (.agg (.cons (.ro (.list 5 (.int .u8))) (.cons (.ro (.int .i64)) (.cons (.h 10) (.cons (.ro (.int .i64)) .nil))))))), (10, (.sl 91 (.st (.cons (.int .i64) (.cons (.int .i64) (.cons (.int .i64) (.cons .str (.cons (.int .i64) .nil)))))))), (100, (.box (.st (.cons (.int .i64) (.cons (.int .i64) (.cons (.int .i64) (.cons .str (.cons (.int .i64) .nil)))))) (.agg (.cons (.ro (.int .i64)) (.cons (.ro (.int .i64)) (.cons (.ro (.int .i64)) (.cons (.ro .str) (.cons (.ro (.int .i64)) .nil))))))))]⟩
def f125con (F : TNode → Int → TTreeReaderB → (List TNode) → Option (Int × TTreeReaderB × (List TNode))) : Con := ⟨f125in, f125out, 3, 1, fun x => F x.1.2.1 x.1.2.2 x.2.1 x.2.2⟩
def f125ctx (k : Nat) : Ctx := ⟨tyAt tys, conAt [(129, [f129con (impl_treeReader_fail k)])], 40, fun _ => false⟩
theorem f125hc (k : Nat) : CtxOk Tryz.prog (f125ctx k) := ctxOk tys_ok mixed_ok (consOk_cons (f129ok k) (consOk_nil))
theorem f125ok (k : Nat) : FnOk Tryz.prog 125 (f125con (impl_treeReader_begin k)) :=
  let hc := f125hc k
  fnOk (fn := Tryz.f125) (code := bodyOf Tryz.f125) (res := [.tmp 6]) hc (by kernel_rfl) (by kernel_rfl) (by decide) (by kernel_rfl) (by kernel_rfl) (by kernel_rfl) (Nat.le_of_ble_eq_true (by kernel_rfl)) _
    (fun x => Snd.seq (by kernel_rfl) (Snd.seq (by kernel_rfl) (Snd.cut (Snd.exec hc _ _ _ _) ⟨f125s3, fun x => impl_treeReader_begin.c3 k x.2.1 x.2.2.1 x.2.2.2⟩ (fun x => by kernel_rfl)) (Snd.exec hc _ _ _ _)) (Snd.exec hc _ _ _ _))
    (fun x => by kernel_rfl)

def f126in : SS := ⟨[(0, (.ro (.int .i64)))], []⟩
def f126out : SS := ⟨[(0, (.ro (.int .i64)))], []⟩
def f126con (F : Int → Option Int) : Con := ⟨f126in, f126out, 1, 1, fun x => F x⟩
def f126ctx (k : Nat) : Ctx := ⟨tyAt tys, conAt [], 11, fun _ => false⟩
theorem f126hc (k : Nat) : CtxOk Tryz.prog (f126ctx k) := ctxOk tys_ok mixed_ok (consOk_nil)
theorem f126ok (k : Nat) : FnOk Tryz.prog 126 (f126con (impl_Zag k)) :=
  let hc := f126hc k
  fnOk (fn := Tryz.f126) (code := bodyOf Tryz.f126) (res := [.tmp 2]) hc (by kernel_rfl) (by kernel_rfl) (by decide) (by kernel_rfl) (by kernel_rfl) (by kernel_rfl) (Nat.le_of_ble_eq_true (by kernel_rfl)) _
    (fun x => Snd.exec hc _ _ _ _)
    (fun x => by kernel_rfl)

def f152in : SS := ⟨[(0, (.ro (.list 5 (.int .u8)))), (1, (.ro (.int .i64)))], []⟩
def f152out : SS := ⟨[(0, (.ro (.int .i64))), (1, (.ro (.int .i64))), (2, (.ro .bool))], []⟩
def f152s12 : SS := ⟨[], []⟩
def f152s5 : SS := ⟨[(0, (.ro (.list 5 (.int .u8)))), (1, (.ro (.int .i64))), (7, (.ro (.int .u64))), (8, (.ro (.int .i64)))], []⟩
def f152con (F : (List Int) → Int → Option (Int × Int × Bool)) : Con := ⟨f152in, f152out, 2, 3, fun x => F x.1 x.2⟩
def f152ctx (k : Nat) : Ctx := ⟨tyAt tys, conAt [], 52, fun _ => false⟩
theorem f152hc (k : Nat) : CtxOk Tryz.prog (f152ctx k) := ctxOk tys_ok mixed_ok (consOk_nil)
theorem f152ok (k : Nat) : FnOk Tryz.prog 152 (f152con (impl_UvarGet k)) :=
  let hc := f152hc k
  fnOk (fn := Tryz.f152) (code := bodyOf Tryz.f152) (res := [.tmp 4, .tmp 5, .tmp 6]) hc (by kernel_rfl) (by kernel_rfl) (by decide) (by kernel_rfl) (by kernel_rfl) (by kernel_rfl) (Nat.le_of_ble_eq_true (by kernel_rfl)) _
    (fun x => Snd.seq (by kernel_rfl) (Snd.seq (by kernel_rfl) (Snd.seq (by kernel_rfl) (Snd.seq (by kernel_rfl) (Snd.cut (Snd.exec hc _ _ _ _) ⟨f152s12, fun x => impl_UvarGet.c12 k⟩ (fun x => by kernel_rfl)) (Snd.seq (by kernel_rfl) (Snd.block (id := 0) (by kernel_rfl) (Snd.loop' (by kernel_rfl) f152s5 (fun n x => impl_UvarGet.l5 k n x.1 x.2.1 x.2.2.1 x.2.2.2) _ (fun _ => rfl) (fun n5 => Snd.exec hc _ _ _ _) (fun n x => by kernel_rfl) k)) (Snd.exec hc _ _ _ _))) (Snd.exec hc _ _ _ _)) (Snd.exec hc _ _ _ _)) (Snd.exec hc _ _ _ _))
    (fun x => by kernel_rfl)

def f127in : SS := ⟨[(0, (.p 0))], [(0, (.box (.st (.cons (.list 5 (.int .u8)) (.cons (.int .i64) (.cons (.list 91 (.st (.cons (.int .i64) (.cons (.int .i64) (.cons (.int .i64) (.cons .str (.cons (.int .i64) .nil))))))) (.cons (.int .i64) .nil))))) (.agg (.cons (.ro (.list 5 (.int .u8))) (.cons (.ro (.int .i64)) (.cons (.h 10) (.cons (.ro (.int .i64)) .nil))))))), (10, (.sl 91 (.st (.cons (.int .i64) (.cons (.int .i64) (.cons (.int .i64) (.cons .str (.cons (.int .i64) .nil))))))))]⟩
def f127out : SS := ⟨[(0, (.ro (.int .i64)))], [(0, (.box (.st (.cons (.list 5 (.int .u8)) (.cons (.int .i64) (.cons (.list 91 (.st (.cons (.int .i64) (.cons (.int .i64) (.cons (.int .i64) (.cons .str (.cons (.int .i64) .nil))))))) (.cons (.int .i64) .nil))))) (.agg (.cons (.ro (.list 5 (.int .u8))) (.cons (.ro (.int .i64)) (.cons (.h 10) (.cons (.ro (.int .i64)) .nil))))))), (10, (.sl 91 (.st (.cons (.int .i64) (.cons (.int .i64) (.cons (.int .i64) (.cons .str (.cons (.int .i64) .nil))))))))]⟩
def f127con (F : TTreeReaderB → (List TNode) → Option (Int × TTreeReaderB × (List TNode))) : Con := ⟨f127in, f127out, 1, 1, fun x => F x.2.1 x.2.2⟩
def f127ctx (k : Nat) : Ctx := ⟨tyAt tys, conAt [(129, [f129con (impl_treeReader_fail k)]), (152, [f152con (impl_UvarGet k)])], 35, fun _ => false⟩
theorem f127hc (k : Nat) : CtxOk Tryz.prog (f127ctx k) := ctxOk tys_ok mixed_ok (consOk_cons (f129ok k) (consOk_cons (f152ok k) (consOk_nil)))
theorem f127ok (k : Nat) : FnOk Tryz.prog 127 (f127con (impl_treeReader_uvar k)) :=
  let hc := f127hc k
  fnOk (fn := Tryz.f127) (code := bodyOf Tryz.f127) (res := [.tmp 2]) hc (by kernel_rfl) (by kernel_rfl) (by decide) (by kernel_rfl) (by kernel_rfl) (by kernel_rfl) (Nat.le_of_ble_eq_true (by kernel_rfl)) _
    (fun x => Snd.exec hc _ _ _ _)
    (fun x => by kernel_rfl)

def f128in : SS := ⟨[(0, (.ro (.int .i64)))], []⟩
def f128out : SS := ⟨[(0, (.ro .bool))], []⟩
def f128con (F : Int → Option Bool) : Con := ⟨f128in, f128out, 1, 1, fun x => F x⟩
def f128ctx (k : Nat) : Ctx := ⟨tyAt tys, conAt [(39, [f39con (impl_within k)])], 5, fun _ => false⟩
theorem f128hc (k : Nat) : CtxOk Tryz.prog (f128ctx k) := ctxOk tys_ok mixed_ok (consOk_cons (f39ok k) (consOk_nil))
theorem f128ok (k : Nat) : FnOk Tryz.prog 128 (f128con (impl_isInt32 k)) :=
  let hc := f128hc k
  fnOk (fn := Tryz.f128) (code := bodyOf Tryz.f128) (res := [.tmp 2]) hc (by kernel_rfl) (by kernel_rfl) (by decide) (by kernel_rfl) (by kernel_rfl) (by kernel_rfl) (Nat.le_of_ble_eq_true (by kernel_rfl)) _
    (fun x => Snd.exec hc _ _ _ _)
    (fun x => by kernel_rfl)

def f130in : SS := ⟨[(0, (.p 0))], [(0, (.box (.st (.cons (.list 5 (.int .u8)) (.cons (.int .i64) (.cons (.list 91 (.st (.cons (.int .i64) (.cons (.int .i64) (.cons (.int .i64) (.cons .str (.cons (.int .i64) .nil))))))) (.cons (.int .i64) .nil))))) (.agg (.cons (.ro (.list 5 (.int .u8))) (.cons (.ro (.int .i64)) (.cons (.h 10) (.cons (.ro (.int .i64)) .nil))))))), (10, (.sl 91 (.st (.cons (.int .i64) (.cons (.int .i64) (.cons (.int .i64) (.cons .str (.cons (.int .i64) .nil))))))))]⟩
def f130out : SS := ⟨[(0, (.ro .str))], [(0, (.box (.st (.cons (.list 5 (.int .u8)) (.cons (.int .i64) (.cons (.list 91 (.st (.cons (.int .i64) (.cons (.int .i64) (.cons (.int .i64) (.cons .str (.cons (.int .i64) .nil))))))) (.cons (.int .i64) .nil))))) (.agg (.cons (.ro (.list 5 (.int .u8))) (.cons (.ro (.int .i64)) (.cons (.h 10) (.cons (.ro (.int .i64)) .nil))))))), (10, (.sl 91 (.st (.cons (.int .i64) (.cons (.int .i64) (.cons (.int .i64) (.cons .str (.cons (.int .i64) .nil))))))))]⟩
def f130s6 : SS := ⟨[(0, (.p 0)), (3, (.ro (.int .i64)))], [(0, (.box (.st (.cons (.list 5 (.int .u8)) (.cons (.int .i64) (.cons (.list 91 (.st (.cons (.int .i64) (.cons (.int .i64) (.cons (.int .i64) (.cons .str (.cons (.int .i64) .nil))))))) (.cons (.int .i64) .nil))))) (.agg (.cons (.ro (.list 5 (.int .u8))) (.cons (.ro (.int .i64)) (.cons (.h 10) (.cons (.ro (.int .i64)) .nil))))))), (10, (.sl 91 (.st (.cons (.int .i64) (.cons (.int .i64) (.cons (.int .i64) (.cons .str (.cons (.int .i64) .nil))))))))]⟩
def f130s4 : SS := ⟨[(0, (.p 0)), (3, (.ro (.int .i64)))], [(0, (.box (.st (.cons (.list 5 (.int .u8)) (.cons (.int .i64) (.cons (.list 91 (.st (.cons (.int .i64) (.cons (.int .i64) (.cons (.int .i64) (.cons .str (.cons (.int .i64) .nil))))))) (.cons (.int .i64) .nil))))) (.agg (.cons (.ro (.list 5 (.int .u8))) (.cons (.ro (.int .i64)) (.cons (.h 10) (.cons (.ro (.int .i64)) .nil))))))), (10, (.sl 91 (.st (.cons (.int .i64) (.cons (.int .i64) (.cons (.int .i64) (.cons .str (.cons (.int .i64) .nil))))))))]⟩
def f130con (F : TTreeReaderB → (List TNode) → Option (ByteArray × TTreeReaderB × (List TNode))) : Con := ⟨f130in, f130out, 1, 1, fun x => F x.2.1 x.2.2⟩
def f130ctx (k : Nat) : Ctx := ⟨tyAt tys, conAt [(39, [f39con (impl_within k)]), (127, [f127con (impl_treeReader_uvar k)]), (129, [f129con (impl_treeReader_fail k)])], 68, fun _ => false⟩
theorem f130hc (k : Nat) : CtxOk Tryz.prog (f130ctx k) := ctxOk tys_ok mixed_ok (consOk_cons (f39ok k) (consOk_cons (f127ok k) (consOk_cons (f129ok k) (consOk_nil))))
theorem f130ok (k : Nat) : FnOk Tryz.prog 130 (f130con (impl_treeReader_text k)) :=
  let hc := f130hc k
  fnOk (fn := Tryz.f130) (code := bodyOf Tryz.f130) (res := [.tmp 2]) hc (by kernel_rfl) (by kernel_rfl) (by decide) (by kernel_rfl) (by kernel_rfl) (by kernel_rfl) (Nat.le_of_ble_eq_true (by kernel_rfl)) _
    (fun x => Snd.seq (by kernel_rfl) (Snd.seq (by kernel_rfl) (Snd.seq (by kernel_rfl) (Snd.cut (Snd.seq (by kernel_rfl) (Snd.cut (Snd.exec hc _ _ _ _) ⟨f130s6, fun x => impl_treeReader_text.c6 k x.1.2 x.2.1 x.2.2⟩ (fun x => by kernel_rfl)) (Snd.exec hc _ _ _ _)) ⟨f130s4, fun x => impl_treeReader_text.c4 k x.1.2 x.2.1 x.2.2⟩ (fun x => by kernel_rfl)) (Snd.exec hc _ _ _ _)) (Snd.exec hc _ _ _ _)) (Snd.exec hc _ _ _ _))
    (fun x => by kernel_rfl)

def f153in : SS := ⟨[(0, (.p 0))], [(0, (.box (.st (.cons (.list 5 (.int .u8)) (.cons (.int .i64) (.cons (.list 91 (.st (.cons (.int .i64) (.cons (.int .i64) (.cons (.int .i64) (.cons .str (.cons (.int .i64) .nil))))))) (.cons (.int .i64) .nil))))) (.agg (.cons (.ro (.list 5 (.int .u8))) (.cons (.ro (.int .i64)) (.cons (.h 10) (.cons (.ro (.int .i64)) .nil))))))), (10, (.sl 91 (.st (.cons (.int .i64) (.cons (.int .i64) (.cons (.int .i64) (.cons .str (.cons (.int .i64) .nil))))))))]⟩
def f153out : SS := ⟨[(0, (.ro (.int .i64)))], [(0, (.box (.st (.cons (.list 5 (.int .u8)) (.cons (.int .i64) (.cons (.list 91 (.st (.cons (.int .i64) (.cons (.int .i64) (.cons (.int .i64) (.cons .str (.cons (.int .i64) .nil))))))) (.cons (.int .i64) .nil))))) (.agg (.cons (.ro (.list 5 (.int .u8))) (.cons (.ro (.int .i64)) (.cons (.h 10) (.cons (.ro (.int .i64)) .nil))))))), (10, (.sl 91 (.st (.cons (.int .i64) (.cons (.int .i64) (.cons (.int .i64) (.cons .str (.cons (.int .i64) .nil))))))))]⟩
def f153con (F : TTreeReaderB → (List TNode) → Option (Int × TTreeReaderB × (List TNode))) : Con := ⟨f153in, f153out, 1, 1, fun x => F x.2.1 x.2.2⟩
def f153ctx (k : Nat) : Ctx := ⟨tyAt tys, conAt [(129, [f129con (impl_treeReader_fail k)])], 41, fun _ => false⟩
theorem f153hc (k : Nat) : CtxOk Tryz.prog (f153ctx k) := ctxOk tys_ok mixed_ok (consOk_cons (f129ok k) (consOk_nil))
theorem f153ok (k : Nat) : FnOk Tryz.prog 153 (f153con (impl_treeReader_one k)) :=
  let hc := f153hc k
  fnOk (fn := Tryz.f153) (code := bodyOf Tryz.f153) (res := [.tmp 2]) hc (by kernel_rfl) (by kernel_rfl) (by decide) (by kernel_rfl) (by kernel_rfl) (by kernel_rfl) (Nat.le_of_ble_eq_true (by kernel_rfl)) _
    (fun x => Snd.exec hc _ _ _ _)
    (fun x => by kernel_rfl)

def f154in : SS := ⟨[(0, (.ro (.int .i64))), (1, (.ro .bool))], []⟩
def f154out : SS := ⟨[(0, (.ro .bool))], []⟩
def f154s10 : SS := ⟨[(11, (.ro .bool))], []⟩
def f154s4 : SS := ⟨[(1, (.ro .bool)), (5, (.ro (.int .i64))), (6, (.ro .bool))], []⟩
def f154con (F : Int → Bool → Option Bool) : Con := ⟨f154in, f154out, 2, 1, fun x => F x.1 x.2⟩
def f154ctx (k : Nat) : Ctx := ⟨tyAt tys, conAt [], 17, fun _ => false⟩
theorem f154hc (k : Nat) : CtxOk Tryz.prog (f154ctx k) := ctxOk tys_ok mixed_ok (consOk_nil)
theorem f154ok (k : Nat) : FnOk Tryz.prog 154 (f154con (impl_isType k)) :=
  let hc := f154hc k
  fnOk (fn := Tryz.f154) (code := bodyOf Tryz.f154) (res := [.tmp 4]) hc (by kernel_rfl) (by kernel_rfl) (by decide) (by kernel_rfl) (by kernel_rfl) (by kernel_rfl) (Nat.le_of_ble_eq_true (by kernel_rfl)) _
    (fun x => Snd.seq (by kernel_rfl) (Snd.seq (by kernel_rfl) (Snd.exec hc _ _ _ _) (Snd.seq (by kernel_rfl) (Snd.block (id := 0) (by kernel_rfl) (Snd.seq (by kernel_rfl) (Snd.cut (Snd.cond (x := .tmp 6) (by kernel_rfl) (Snd.exec hc _ _ _ _) (Snd.seq (by kernel_rfl) (Snd.cut (Snd.exec hc _ _ _ _) ⟨f154s10, fun x => impl_isType.c10 k x⟩ (fun x => by kernel_rfl)) (Snd.exec hc _ _ _ _))) ⟨f154s4, fun x => impl_isType.c4 k x.1 x.2.1 x.2.2⟩ (fun x => by kernel_rfl)) (Snd.exec hc _ _ _ _))) (Snd.exec hc _ _ _ _))) (Snd.exec hc _ _ _ _))
    (fun x => by kernel_rfl)

def f98in : SS := ⟨[(0, (.p 0)), (1, (.ro (.int .i64))), (2, (.ro (.int .i64))), (3, (.ro (.int .i64)))], [(0, (.box (.st (.cons (.list 5 (.int .u8)) (.cons (.int .i64) (.cons (.list 91 (.st (.cons (.int .i64) (.cons (.int .i64) (.cons (.int .i64) (.cons .str (.cons (.int .i64) .nil))))))) (.cons (.int .i64) .nil))))) (.agg (.cons (.ro (.list 5 (.int .u8))) (.cons (.ro (.int .i64)) (.cons (.h 10) (.cons (.ro (.int .i64)) .nil))))))), (10, (.sl 91 (.st (.cons (.int .i64) (.cons (.int .i64) (.cons (.int .i64) (.cons .str (.cons (.int .i64) .nil))))))))]⟩
def f98out : SS := ⟨[], [(0, (.box (.st (.cons (.list 5 (.int .u8)) (.cons (.int .i64) (.cons (.list 91 (.st (.cons (.int .i64) (.cons (.int .i64) (.cons (.int .i64) (.cons .str (.cons (.int .i64) .nil))))))) (.cons (.int .i64) .nil))))) (.agg (.cons (.ro (.list 5 (.int .u8))) (.cons (.ro (.int .i64)) (.cons (.h 100) (.cons (.ro (.int .i64)) .nil))))))), (100, (.sl 91 (.st (.cons (.int .i64) (.cons (.int .i64) (.cons (.int .i64) (.cons .str (.cons (.int .i64) .nil))))))))]⟩
def f98s8 : SS := ⟨[(0, (.p 0)), (8, (.ro (.int .i64))), (9, (.ro (.int .i64)))], [(0, (.box (.st (.cons (.list 5 (.int .u8)) (.cons (.int .i64) (.cons (.list 91 (.st (.cons (.int .i64) (.cons (.int .i64) (.cons (.int .i64) (.cons .str (.cons (.int .i64) .nil))))))) (.cons (.int .i64) .nil))))) (.agg (.cons (.ro (.list 5 (.int .u8))) (.cons (.ro (.int .i64)) (.cons (.h 100) (.cons (.ro (.int .i64)) .nil))))))), (100, (.sl 91 (.st (.cons (.int .i64) (.cons (.int .i64) (.cons (.int .i64) (.cons .str (.cons (.int .i64) .nil))))))))]⟩
def f98d10 : SS := ⟨[(0, (.p 0)), (8, (.ro (.int .i64)))], [(0, (.box (.st (.cons (.list 5 (.int .u8)) (.cons (.int .i64) (.cons (.list 91 (.st (.cons (.int .i64) (.cons (.int .i64) (.cons (.int .i64) (.cons .str (.cons (.int .i64) .nil))))))) (.cons (.int .i64) .nil))))) (.agg (.cons (.ro (.list 5 (.int .u8))) (.cons (.ro (.int .i64)) (.cons (.h 100) (.cons (.ro (.int .i64)) .nil))))))), (100, (.sl 91 (.st (.cons (.int .i64) (.cons (.int .i64) (.cons (.int .i64) (.cons .str (.cons (.int .i64) .nil))))))))]⟩
def f98s5 : SS := ⟨[(0, (.p 0)), (1, (.ro (.int .i64))), (3, (.ro (.int .i64))), (8, (.ro (.int .i64))), (21, (.ro (.int .i64))), (22, (.ro .bool))], [(0, (.box (.st (.cons (.list 5 (.int .u8)) (.cons (.int .i64) (.cons (.list 91 (.st (.cons (.int .i64) (.cons (.int .i64) (.cons (.int .i64) (.cons .str (.cons (.int .i64) .nil))))))) (.cons (.int .i64) .nil))))) (.agg (.cons (.ro (.list 5 (.int .u8))) (.cons (.ro (.int .i64)) (.cons (.h 100) (.cons (.ro (.int .i64)) .nil))))))), (100, (.sl 91 (.st (.cons (.int .i64) (.cons (.int .i64) (.cons (.int .i64) (.cons .str (.cons (.int .i64) .nil))))))))]⟩
def f98con (F : Int → Int → Int → TTreeReaderB → (List TNode) → Option (Unit × TTreeReaderB × (List TNode))) : Con := ⟨f98in, f98out, 4, 0, fun x => F x.1.2.1 x.1.2.2.1 x.1.2.2.2 x.2.1 x.2.2⟩
def f131in : SS := ⟨[(0, (.p 0)), (1, (.ro (.int .i64))), (2, (.ro (.int .i64)))], [(0, (.box (.st (.cons (.list 5 (.int .u8)) (.cons (.int .i64) (.cons (.list 91 (.st (.cons (.int .i64) (.cons (.int .i64) (.cons (.int .i64) (.cons .str (.cons (.int .i64) .nil))))))) (.cons (.int .i64) .nil))))) (.agg (.cons (.ro (.list 5 (.int .u8))) (.cons (.ro (.int .i64)) (.cons (.h 10) (.cons (.ro (.int .i64)) .nil))))))), (10, (.sl 91 (.st (.cons (.int .i64) (.cons (.int .i64) (.cons (.int .i64) (.cons .str (.cons (.int .i64) .nil))))))))]⟩
def f131out : SS := ⟨[], [(0, (.box (.st (.cons (.list 5 (.int .u8)) (.cons (.int .i64) (.cons (.list 91 (.st (.cons (.int .i64) (.cons (.int .i64) (.cons (.int .i64) (.cons .str (.cons (.int .i64) .nil))))))) (.cons (.int .i64) .nil))))) (.agg (.cons (.ro (.list 5 (.int .u8))) (.cons (.ro (.int .i64)) (.cons (.h 100) (.cons (.ro (.int .i64)) .nil))))))), (100, (.sl 91 (.st (.cons (.int .i64) (.cons (.int .i64) (.cons (.int .i64) (.cons .str (.cons (.int .i64) .nil))))))))]⟩
def f131s11 : SS := ⟨[(0, (.p 0)), (2, (.ro (.int .i64))), (7, (.ro (.int .i64))), (8, (.ro (.int .i64))), (9, (.ro (.int .i64)))], [(0, (.box (.st (.cons (.list 5 (.int .u8)) (.cons (.int .i64) (.cons (.list 91 (.st (.cons (.int .i64) (.cons (.int .i64) (.cons (.int .i64) (.cons .str (.cons (.int .i64) .nil))))))) (.cons (.int .i64) .nil))))) (.agg (.cons (.ro (.list 5 (.int .u8))) (.cons (.ro (.int .i64)) (.cons (.h 100) (.cons (.ro (.int .i64)) .nil))))))), (100, (.sl 91 (.st (.cons (.int .i64) (.cons (.int .i64) (.cons (.int .i64) (.cons .str (.cons (.int .i64) .nil))))))))]⟩
def f131s9 : SS := ⟨[(0, (.p 0)), (1, (.ro (.int .i64))), (2, (.ro (.int .i64))), (7, (.ro (.int .i64))), (8, (.ro (.int .i64)))], [(0, (.box (.st (.cons (.list 5 (.int .u8)) (.cons (.int .i64) (.cons (.list 91 (.st (.cons (.int .i64) (.cons (.int .i64) (.cons (.int .i64) (.cons .str (.cons (.int .i64) .nil))))))) (.cons (.int .i64) .nil))))) (.agg (.cons (.ro (.list 5 (.int .u8))) (.cons (.ro (.int .i64)) (.cons (.h 10) (.cons (.ro (.int .i64)) .nil))))))), (10, (.sl 91 (.st (.cons (.int .i64) (.cons (.int .i64) (.cons (.int .i64) (.cons .str (.cons (.int .i64) .nil))))))))]⟩
def f131s7 : SS := ⟨[(0, (.p 0)), (1, (.ro (.int .i64))), (2, (.ro (.int .i64))), (7, (.ro (.int .i64))), (8, (.ro (.int .i64)))], [(0, (.box (.st (.cons (.list 5 (.int .u8)) (.cons (.int .i64) (.cons (.list 91 (.st (.cons (.int .i64) (.cons (.int .i64) (.cons (.int .i64) (.cons .str (.cons (.int .i64) .nil))))))) (.cons (.int .i64) .nil))))) (.agg (.cons (.ro (.list 5 (.int .u8))) (.cons (.ro (.int .i64)) (.cons (.h 10) (.cons (.ro (.int .i64)) .nil))))))), (10, (.sl 91 (.st (.cons (.int .i64) (.cons (.int .i64) (.cons (.int .i64) (.cons .str (.cons (.int .i64) .nil))))))))]⟩
def f131s4 : SS := ⟨[(0, (.p 0)), (1, (.ro (.int .i64))), (2, (.ro (.int .i64))), (7, (.ro (.int .i64))), (8, (.ro (.int .i64)))], [(0, (.box (.st (.cons (.list 5 (.int .u8)) (.cons (.int .i64) (.cons (.list 91 (.st (.cons (.int .i64) (.cons (.int .i64) (.cons (.int .i64) (.cons .str (.cons (.int .i64) .nil))))))) (.cons (.int .i64) .nil))))) (.agg (.cons (.ro (.list 5 (.int .u8))) (.cons (.ro (.int .i64)) (.cons (.h 10) (.cons (.ro (.int .i64)) .nil))))))), (10, (.sl 91 (.st (.cons (.int .i64) (.cons (.int .i64) (.cons (.int .i64) (.cons .str (.cons (.int .i64) .nil))))))))]⟩
def f131con (F : Int → Int → TTreeReaderB → (List TNode) → Option (Unit × TTreeReaderB × (List TNode))) : Con := ⟨f131in, f131out, 3, 0, fun x => F x.1.2.1 x.1.2.2 x.2.1 x.2.2⟩
def f132in : SS := ⟨[(0, (.p 0)), (1, (.ro (.int .i64))), (2, (.ro (.int .i64)))], [(0, (.box (.st (.cons (.list 5 (.int .u8)) (.cons (.int .i64) (.cons (.list 91 (.st (.cons (.int .i64) (.cons (.int .i64) (.cons (.int .i64) (.cons .str (.cons (.int .i64) .nil))))))) (.cons (.int .i64) .nil))))) (.agg (.cons (.ro (.list 5 (.int .u8))) (.cons (.ro (.int .i64)) (.cons (.h 10) (.cons (.ro (.int .i64)) .nil))))))), (10, (.sl 91 (.st (.cons (.int .i64) (.cons (.int .i64) (.cons (.int .i64) (.cons .str (.cons (.int .i64) .nil))))))))]⟩
def f132out : SS := ⟨[], [(0, (.box (.st (.cons (.list 5 (.int .u8)) (.cons (.int .i64) (.cons (.list 91 (.st (.cons (.int .i64) (.cons (.int .i64) (.cons (.int .i64) (.cons .str (.cons (.int .i64) .nil))))))) (.cons (.int .i64) .nil))))) (.agg (.cons (.ro (.list 5 (.int .u8))) (.cons (.ro (.int .i64)) (.cons (.h 100) (.cons (.ro (.int .i64)) .nil))))))), (100, (.sl 91 (.st (.cons (.int .i64) (.cons (.int .i64) (.cons (.int .i64) (.cons .str (.cons (.int .i64) .nil))))))))]⟩
def f132s12 : SS := ⟨[(0, (.p 0)), (1, (.ro (.int .i64))), (2, (.ro (.int .i64))), (8, (.ro (.int .i64))), (9, (.ro (.int .i64)))], [(0, (.box (.st (.cons (.list 5 (.int .u8)) (.cons (.int .i64) (.cons (.list 91 (.st (.cons (.int .i64) (.cons (.int .i64) (.cons (.int .i64) (.cons .str (.cons (.int .i64) .nil))))))) (.cons (.int .i64) .nil))))) (.agg (.cons (.ro (.list 5 (.int .u8))) (.cons (.ro (.int .i64)) (.cons (.h 100) (.cons (.ro (.int .i64)) .nil))))))), (100, (.sl 91 (.st (.cons (.int .i64) (.cons (.int .i64) (.cons (.int .i64) (.cons .str (.cons (.int .i64) .nil))))))))]⟩
def f132s10 : SS := ⟨[(0, (.p 0)), (1, (.ro (.int .i64))), (2, (.ro (.int .i64))), (6, (.ro (.int .i64))), (8, (.ro (.int .i64))), (9, (.ro (.int .i64)))], [(0, (.box (.st (.cons (.list 5 (.int .u8)) (.cons (.int .i64) (.cons (.list 91 (.st (.cons (.int .i64) (.cons (.int .i64) (.cons (.int .i64) (.cons .str (.cons (.int .i64) .nil))))))) (.cons (.int .i64) .nil))))) (.agg (.cons (.ro (.list 5 (.int .u8))) (.cons (.ro (.int .i64)) (.cons (.h 100) (.cons (.ro (.int .i64)) .nil))))))), (100, (.sl 91 (.st (.cons (.int .i64) (.cons (.int .i64) (.cons (.int .i64) (.cons .str (.cons (.int .i64) .nil))))))))]⟩
def f132s8 : SS := ⟨[(0, (.p 0)), (1, (.ro (.int .i64))), (2, (.ro (.int .i64))), (6, (.ro (.int .i64))), (8, (.ro (.int .i64))), (9, (.ro (.int .i64)))], [(0, (.box (.st (.cons (.list 5 (.int .u8)) (.cons (.int .i64) (.cons (.list 91 (.st (.cons (.int .i64) (.cons (.int .i64) (.cons (.int .i64) (.cons .str (.cons (.int .i64) .nil))))))) (.cons (.int .i64) .nil))))) (.agg (.cons (.ro (.list 5 (.int .u8))) (.cons (.ro (.int .i64)) (.cons (.h 100) (.cons (.ro (.int .i64)) .nil))))))), (100, (.sl 91 (.st (.cons (.int .i64) (.cons (.int .i64) (.cons (.int .i64) (.cons .str (.cons (.int .i64) .nil))))))))]⟩
def f132s6 : SS := ⟨[(0, (.p 0)), (1, (.ro (.int .i64))), (2, (.ro (.int .i64))), (6, (.ro (.int .i64))), (7, (.ro (.int .i64))), (8, (.ro (.int .i64))), (9, (.ro (.int .i64)))], [(0, (.box (.st (.cons (.list 5 (.int .u8)) (.cons (.int .i64) (.cons (.list 91 (.st (.cons (.int .i64) (.cons (.int .i64) (.cons (.int .i64) (.cons .str (.cons (.int .i64) .nil))))))) (.cons (.int .i64) .nil))))) (.agg (.cons (.ro (.list 5 (.int .u8))) (.cons (.ro (.int .i64)) (.cons (.h 100) (.cons (.ro (.int .i64)) .nil))))))), (100, (.sl 91 (.st (.cons (.int .i64) (.cons (.int .i64) (.cons (.int .i64) (.cons .str (.cons (.int .i64) .nil))))))))]⟩
def f132s1 : SS := ⟨[(0, (.p 0)), (1, (.ro (.int .i64))), (2, (.ro (.int .i64))), (6, (.ro (.int .i64)))], [(0, (.box (.st (.cons (.list 5 (.int .u8)) (.cons (.int .i64) (.cons (.list 91 (.st (.cons (.int .i64) (.cons (.int .i64) (.cons (.int .i64) (.cons .str (.cons (.int .i64) .nil))))))) (.cons (.int .i64) .nil))))) (.agg (.cons (.ro (.list 5 (.int .u8))) (.cons (.ro (.int .i64)) (.cons (.h 100) (.cons (.ro (.int .i64)) .nil))))))), (100, (.sl 91 (.st (.cons (.int .i64) (.cons (.int .i64) (.cons (.int .i64) (.cons .str (.cons (.int .i64) .nil))))))))]⟩
def f132con (F : Int → Int → TTreeReaderB → (List TNode) → Option (Unit × TTreeReaderB × (List TNode))) : Con := ⟨f132in, f132out, 3, 0, fun x => F x.1.2.1 x.1.2.2 x.2.1 x.2.2⟩
def f98ctx (k : Nat) (S98 : Int → Int → Int → TTreeReaderB → (List TNode) → Option (Unit × TTreeReaderB × (List TNode))) (S131 : Int → Int → TTreeReaderB → (List TNode) → Option (Unit × TTreeReaderB × (List TNode))) (S132 : Int → Int → TTreeReaderB → (List TNode) → Option (Unit × TTreeReaderB × (List TNode))) : Ctx := ⟨tyAt tys, conAt [(125, [f125con (impl_treeReader_begin k)]), (126, [f126con (impl_Zag k)]), (127, [f127con (impl_treeReader_uvar k)]), (128, [f128con (impl_isInt32 k)]), (129, [f129con (impl_treeReader_fail k)]), (130, [f130con (impl_treeReader_text k)]), (131, [f131con S131]), (132, [f132con S132])], 75, fun _ => false⟩
theorem f98hc (k : Nat) (S98 : Int → Int → Int → TTreeReaderB → (List TNode) → Option (Unit × TTreeReaderB × (List TNode))) (S131 : Int → Int → TTreeReaderB → (List TNode) → Option (Unit × TTreeReaderB × (List TNode))) (S132 : Int → Int → TTreeReaderB → (List TNode) → Option (Unit × TTreeReaderB × (List TNode))) (h98 : FnOk Tryz.prog 98 (f98con S98)) (h131 : FnOk Tryz.prog 131 (f131con S131)) (h132 : FnOk Tryz.prog 132 (f132con S132)) : CtxOk Tryz.prog (f98ctx k S98 S131 S132) := ctxOk tys_ok mixed_ok (consOk_cons (f125ok k) (consOk_cons (f126ok k) (consOk_cons (f127ok k) (consOk_cons (f128ok k) (consOk_cons (f129ok k) (consOk_cons (f130ok k) (consOk_cons (h131) (consOk_cons (h132) (consOk_nil)))))))))
theorem f98okb (k : Nat) (S98 : Int → Int → Int → TTreeReaderB → (List TNode) → Option (Unit × TTreeReaderB × (List TNode))) (S131 : Int → Int → TTreeReaderB → (List TNode) → Option (Unit × TTreeReaderB × (List TNode))) (S132 : Int → Int → TTreeReaderB → (List TNode) → Option (Unit × TTreeReaderB × (List TNode))) (h98 : FnOk Tryz.prog 98 (f98con S98)) (h131 : FnOk Tryz.prog 131 (f131con S131)) (h132 : FnOk Tryz.prog 132 (f132con S132)) : FnOk Tryz.prog 98 (f98con (impl_treeReader_node.b k S98 S131 S132)) :=
  let hc := f98hc k S98 S131 S132 h98 h131 h132
  fnOk (fn := Tryz.f98) (code := bodyOf Tryz.f98) (res := []) hc (by kernel_rfl) (by kernel_rfl) (by decide) (by kernel_rfl) (by kernel_rfl) (by kernel_rfl) (Nat.le_of_ble_eq_true (by kernel_rfl)) _
    (fun x => Snd.seq (by kernel_rfl) (Snd.seq (by kernel_rfl) (Snd.seq (by kernel_rfl) (Snd.block (id := 0) (by kernel_rfl) (Snd.seq (by kernel_rfl) (Snd.cut (Snd.cond (x := .tmp 22) (by kernel_rfl) (Snd.seq (by kernel_rfl) (Snd.seq (by kernel_rfl) (Snd.cut (Snd.exec hc _ _ _ _) ⟨f98s8, fun x => impl_treeReader_node.c8 k x.1.2.1 x.1.2.2 x.2.1 x.2.2⟩ (fun x => by kernel_rfl)) (Snd.exec hc _ _ _ _)) (Snd.exec hc _ _ _ _)) (Snd.seq (by kernel_rfl) (Snd.cond (x := .tmp 52) (by kernel_rfl) (Snd.fork hc (id := 10) (by kernel_rfl) ⟨f98d10, fun x => impl_treeReader_node.d10 k x.1.2 x.2.1 x.2.2⟩ [[0, 1, 2, 4, 5, 3, 6, 7, 8, 9], [0, 1, 2, 4, 5, 6, 3, 7, 8, 9]] (by kernel_rfl) (ords_cons (fun x => by kernel_rfl) (ords_cons (fun x => by kernel_rfl) (ords_nil)))) (Snd.exec hc _ _ _ _)) (Snd.exec hc _ _ _ _))) ⟨f98s5, fun x => impl_treeReader_node.c5 k S131 S132 x.1.2.1 x.1.2.2.1 x.1.2.2.2.1 x.1.2.2.2.2.1 x.1.2.2.2.2.2 x.2.1 x.2.2⟩ (fun x => by kernel_rfl)) (Snd.exec hc _ _ _ _))) (Snd.exec hc _ _ _ _)) (Snd.exec hc _ _ _ _)) (Snd.exec hc _ _ _ _))
    (fun x => by kernel_rfl)
def f131ctx (k : Nat) (S98 : Int → Int → Int → TTreeReaderB → (List TNode) → Option (Unit × TTreeReaderB × (List TNode))) (S131 : Int → Int → TTreeReaderB → (List TNode) → Option (Unit × TTreeReaderB × (List TNode))) (S132 : Int → Int → TTreeReaderB → (List TNode) → Option (Unit × TTreeReaderB × (List TNode))) : Ctx := ⟨tyAt tys, conAt [(39, [f39con (impl_within k)]), (98, [f98con S98]), (127, [f127con (impl_treeReader_uvar k)]), (129, [f129con (impl_treeReader_fail k)]), (153, [f153con (impl_treeReader_one k)]), (154, [f154con (impl_isType k)])], 72, fun _ => false⟩
theorem f131hc (k : Nat) (S98 : Int → Int → Int → TTreeReaderB → (List TNode) → Option (Unit × TTreeReaderB × (List TNode))) (S131 : Int → Int → TTreeReaderB → (List TNode) → Option (Unit × TTreeReaderB × (List TNode))) (S132 : Int → Int → TTreeReaderB → (List TNode) → Option (Unit × TTreeReaderB × (List TNode))) (h98 : FnOk Tryz.prog 98 (f98con S98)) (h131 : FnOk Tryz.prog 131 (f131con S131)) (h132 : FnOk Tryz.prog 132 (f132con S132)) : CtxOk Tryz.prog (f131ctx k S98 S131 S132) := ctxOk tys_ok mixed_ok (consOk_cons (f39ok k) (consOk_cons (h98) (consOk_cons (f127ok k) (consOk_cons (f129ok k) (consOk_cons (f153ok k) (consOk_cons (f154ok k) (consOk_nil)))))))
theorem f131okb (k : Nat) (S98 : Int → Int → Int → TTreeReaderB → (List TNode) → Option (Unit × TTreeReaderB × (List TNode))) (S131 : Int → Int → TTreeReaderB → (List TNode) → Option (Unit × TTreeReaderB × (List TNode))) (S132 : Int → Int → TTreeReaderB → (List TNode) → Option (Unit × TTreeReaderB × (List TNode))) (h98 : FnOk Tryz.prog 98 (f98con S98)) (h131 : FnOk Tryz.prog 131 (f131con S131)) (h132 : FnOk Tryz.prog 132 (f132con S132)) : FnOk Tryz.prog 131 (f131con (impl_treeReader_parts.b k S98 S131 S132)) :=
  let hc := f131hc k S98 S131 S132 h98 h131 h132
  fnOk (fn := Tryz.f131) (code := bodyOf Tryz.f131) (res := []) hc (by kernel_rfl) (by kernel_rfl) (by decide) (by kernel_rfl) (by kernel_rfl) (by kernel_rfl) (Nat.le_of_ble_eq_true (by kernel_rfl)) _
    (fun x => Snd.seq (by kernel_rfl) (Snd.seq (by kernel_rfl) (Snd.seq (by kernel_rfl) (Snd.cut (Snd.seq (by kernel_rfl) (Snd.seq (by kernel_rfl) (Snd.cut (Snd.seq (by kernel_rfl) (Snd.cut (Snd.seq (by kernel_rfl) (Snd.seq (by kernel_rfl) (Snd.block (id := 0) (by kernel_rfl) (Snd.loop' (by kernel_rfl) f131s11 (fun n x => impl_treeReader_parts.l11 k S98 n x.1.2.1 x.1.2.2.1 x.1.2.2.2.1 x.1.2.2.2.2 x.2.1 x.2.2) _ (fun _ => rfl) (fun n11 => Snd.exec hc _ _ _ _) (fun n x => by kernel_rfl) k)) (Snd.exec hc _ _ _ _)) (Snd.exec hc _ _ _ _)) ⟨f131s9, fun x => impl_treeReader_parts.c9 k S98 x.1.2.1 x.1.2.2.1 x.1.2.2.2.1 x.1.2.2.2.2 x.2.1 x.2.2⟩ (fun x => by kernel_rfl)) (Snd.exec hc _ _ _ _)) ⟨f131s7, fun x => impl_treeReader_parts.c7 k S98 x.1.2.1 x.1.2.2.1 x.1.2.2.2.1 x.1.2.2.2.2 x.2.1 x.2.2⟩ (fun x => by kernel_rfl)) (Snd.exec hc _ _ _ _)) (Snd.exec hc _ _ _ _)) ⟨f131s4, fun x => impl_treeReader_parts.c4 k S98 x.1.2.1 x.1.2.2.1 x.1.2.2.2.1 x.1.2.2.2.2 x.2.1 x.2.2⟩ (fun x => by kernel_rfl)) (Snd.exec hc _ _ _ _)) (Snd.exec hc _ _ _ _)) (Snd.exec hc _ _ _ _))
    (fun x => by kernel_rfl)
def f132ctx (k : Nat) (S98 : Int → Int → Int → TTreeReaderB → (List TNode) → Option (Unit × TTreeReaderB × (List TNode))) (S131 : Int → Int → TTreeReaderB → (List TNode) → Option (Unit × TTreeReaderB × (List TNode))) (S132 : Int → Int → TTreeReaderB → (List TNode) → Option (Unit × TTreeReaderB × (List TNode))) : Ctx := ⟨tyAt tys, conAt [(39, [f39con (impl_within k)]), (98, [f98con S98]), (126, [f126con (impl_Zag k)]), (127, [f127con (impl_treeReader_uvar k)]), (129, [f129con (impl_treeReader_fail k)]), (153, [f153con (impl_treeReader_one k)]), (154, [f154con (impl_isType k)])], 84, fun _ => false⟩
theorem f132hc (k : Nat) (S98 : Int → Int → Int → TTreeReaderB → (List TNode) → Option (Unit × TTreeReaderB × (List TNode))) (S131 : Int → Int → TTreeReaderB → (List TNode) → Option (Unit × TTreeReaderB × (List TNode))) (S132 : Int → Int → TTreeReaderB → (List TNode) → Option (Unit × TTreeReaderB × (List TNode))) (h98 : FnOk Tryz.prog 98 (f98con S98)) (h131 : FnOk Tryz.prog 131 (f131con S131)) (h132 : FnOk Tryz.prog 132 (f132con S132)) : CtxOk Tryz.prog (f132ctx k S98 S131 S132) := ctxOk tys_ok mixed_ok (consOk_cons (f39ok k) (consOk_cons (h98) (consOk_cons (f126ok k) (consOk_cons (f127ok k) (consOk_cons (f129ok k) (consOk_cons (f153ok k) (consOk_cons (f154ok k) (consOk_nil))))))))
theorem f132okb (k : Nat) (S98 : Int → Int → Int → TTreeReaderB → (List TNode) → Option (Unit × TTreeReaderB × (List TNode))) (S131 : Int → Int → TTreeReaderB → (List TNode) → Option (Unit × TTreeReaderB × (List TNode))) (S132 : Int → Int → TTreeReaderB → (List TNode) → Option (Unit × TTreeReaderB × (List TNode))) (h98 : FnOk Tryz.prog 98 (f98con S98)) (h131 : FnOk Tryz.prog 131 (f131con S131)) (h132 : FnOk Tryz.prog 132 (f132con S132)) : FnOk Tryz.prog 132 (f132con (impl_treeReader_fields.b k S98 S131 S132)) :=
  let hc := f132hc k S98 S131 S132 h98 h131 h132
  fnOk (fn := Tryz.f132) (code := bodyOf Tryz.f132) (res := []) hc (by kernel_rfl) (by kernel_rfl) (by decide) (by kernel_rfl) (by kernel_rfl) (by kernel_rfl) (Nat.le_of_ble_eq_true (by kernel_rfl)) _
    (fun x => Snd.seq (by kernel_rfl) (Snd.block (id := 0) (by kernel_rfl) (Snd.loop' (by kernel_rfl) f132s1 (fun n x => impl_treeReader_fields.l1 k S98 n x.1.2.1 x.1.2.2.1 x.1.2.2.2 x.2.1 x.2.2) _ (fun _ => rfl) (fun n1 => Snd.block (id := 1) (by kernel_rfl) (Snd.seq (by kernel_rfl) (Snd.seq (by kernel_rfl) (Snd.seq (by kernel_rfl) (Snd.seq (by kernel_rfl) (Snd.cut (Snd.seq (by kernel_rfl) (Snd.cut (Snd.seq (by kernel_rfl) (Snd.cut (Snd.seq (by kernel_rfl) (Snd.cut (Snd.exec hc _ _ _ _) ⟨f132s12, fun x => impl_treeReader_fields.c12 k S98 (impl_treeReader_fields.l1 k S98 n1) x.1.2.1 x.1.2.2.1 x.1.2.2.2.1 x.1.2.2.2.2 x.2.1 x.2.2⟩ (fun x => by kernel_rfl)) (Snd.exec hc _ _ _ _)) ⟨f132s10, fun x => impl_treeReader_fields.c10 k S98 (impl_treeReader_fields.l1 k S98 n1) x.1.2.1 x.1.2.2.1 x.1.2.2.2.1 x.1.2.2.2.2.1 x.1.2.2.2.2.2 x.2.1 x.2.2⟩ (fun x => by kernel_rfl)) (Snd.exec hc _ _ _ _)) ⟨f132s8, fun x => impl_treeReader_fields.c8 k S98 (impl_treeReader_fields.l1 k S98 n1) x.1.2.1 x.1.2.2.1 x.1.2.2.2.1 x.1.2.2.2.2.1 x.1.2.2.2.2.2 x.2.1 x.2.2⟩ (fun x => by kernel_rfl)) (Snd.exec hc _ _ _ _)) ⟨f132s6, fun x => impl_treeReader_fields.c6 k S98 (impl_treeReader_fields.l1 k S98 n1) x.1.2.1 x.1.2.2.1 x.1.2.2.2.1 x.1.2.2.2.2.1 x.1.2.2.2.2.2.1 x.1.2.2.2.2.2.2 x.2.1 x.2.2⟩ (fun x => by kernel_rfl)) (Snd.exec hc _ _ _ _)) (Snd.exec hc _ _ _ _)) (Snd.exec hc _ _ _ _)) (Snd.exec hc _ _ _ _))) (fun n x => by kernel_rfl) k)) (Snd.exec hc _ _ _ _))
    (fun x => by kernel_rfl)
theorem f98rec (k : Nat) : ∀ d, FnOk Tryz.prog 98 (f98con (impl_treeReader_node.d k d)) ∧ FnOk Tryz.prog 131 (f131con (impl_treeReader_parts.d k d)) ∧ FnOk Tryz.prog 132 (f132con (impl_treeReader_fields.d k d))
  | 0 => ⟨FnOk_none (fun _ => rfl), FnOk_none (fun _ => rfl), FnOk_none (fun _ => rfl)⟩
  | d + 1 => let ih := f98rec k d
    ⟨f98okb k (impl_treeReader_node.d k d) (impl_treeReader_parts.d k d) (impl_treeReader_fields.d k d) ih.1 ih.2.1 ih.2.2, f131okb k (impl_treeReader_node.d k d) (impl_treeReader_parts.d k d) (impl_treeReader_fields.d k d) ih.1 ih.2.1 ih.2.2, f132okb k (impl_treeReader_node.d k d) (impl_treeReader_parts.d k d) (impl_treeReader_fields.d k d) ih.1 ih.2.1 ih.2.2⟩
theorem f98ok (k : Nat) : FnOk Tryz.prog 98 (f98con (impl_treeReader_node k)) := (f98rec k k).1
theorem f131ok (k : Nat) : FnOk Tryz.prog 131 (f131con (impl_treeReader_parts k)) := (f98rec k k).2.1
theorem f132ok (k : Nat) : FnOk Tryz.prog 132 (f132con (impl_treeReader_fields k)) := (f98rec k k).2.2

def f66in : SS := ⟨[(0, (.ro (.list 5 (.int .u8)))), (1, (.ro (.int .i64)))], []⟩
def f66out : SS := ⟨[(0, (.h 100)), (1, (.ro (.int .i64))), (2, (.ro (.int .i64)))], [(100, (.sl 91 (.st (.cons (.int .i64) (.cons (.int .i64) (.cons (.int .i64) (.cons .str (.cons (.int .i64) .nil))))))))]⟩
def f66con (F : (List Int) → Int → Option ((Unit × Int × Int) × (List TNode))) : Con := ⟨f66in, f66out, 2, 3, fun x => F x.1 x.2⟩
def f66ctx (k : Nat) : Ctx := ⟨tyAt tys, conAt [(39, [f39con (impl_within k)]), (98, [f98con (impl_treeReader_node k)])], 37, fun _ => false⟩
theorem f66hc (k : Nat) : CtxOk Tryz.prog (f66ctx k) := ctxOk tys_ok mixed_ok (consOk_cons (f39ok k) (consOk_cons (f98ok k) (consOk_nil)))
theorem f66ok (k : Nat) : FnOk Tryz.prog 66 (f66con (impl_TreeRead k)) :=
  let hc := f66hc k
  fnOk (fn := Tryz.f66) (code := bodyOf Tryz.f66) (res := [.tmp 4, .tmp 5, .tmp 6]) hc (by kernel_rfl) (by kernel_rfl) (by decide) (by kernel_rfl) (by kernel_rfl) (by kernel_rfl) (Nat.le_of_ble_eq_true (by kernel_rfl)) _
    (fun x => Snd.exec hc _ _ _ _)
    (fun x => by kernel_rfl)

def f139in : SS := ⟨[(0, (.ro (.st (.cons (.int .i64) (.cons (.int .i64) (.cons (.int .i64) (.cons .str (.cons (.int .i64) .nil))))))))], []⟩
def f139out : SS := ⟨[(0, (.ro .bool))], []⟩
def f139con (F : TNode → Option Bool) : Con := ⟨f139in, f139out, 1, 1, fun x => F x⟩
def f139ctx (k : Nat) : Ctx := ⟨tyAt tys, conAt [(128, [f128con (impl_isInt32 k)]), (154, [f154con (impl_isType k)])], 109, fun _ => false⟩
theorem f139hc (k : Nat) : CtxOk Tryz.prog (f139ctx k) := ctxOk tys_ok mixed_ok (consOk_cons (f128ok k) (consOk_cons (f154ok k) (consOk_nil)))
theorem f139ok (k : Nat) : FnOk Tryz.prog 139 (f139con (impl_nodeOk k)) :=
  let hc := f139hc k
  fnOk (fn := Tryz.f139) (code := bodyOf Tryz.f139) (res := [.tmp 2]) hc (by kernel_rfl) (by kernel_rfl) (by decide) (by kernel_rfl) (by kernel_rfl) (by kernel_rfl) (Nat.le_of_ble_eq_true (by kernel_rfl)) _
    (fun x => Snd.exec hc _ _ _ _)
    (fun x => by kernel_rfl)

def f105in : SS := ⟨[(0, (.p 0)), (1, (.ro (.int .i64))), (2, (.ro (.int .i64)))], [(0, (.obox (.st (.cons (.list 91 (.st (.cons (.int .i64) (.cons (.int .i64) (.cons (.int .i64) (.cons .str (.cons (.int .i64) .nil))))))) (.cons (.list 3 (.int .i64)) .nil))) (.agg (.cons (.ro (.list 91 (.st (.cons (.int .i64) (.cons (.int .i64) (.cons (.int .i64) (.cons .str (.cons (.int .i64) .nil)))))))) (.cons (.h 10) .nil))))), (10, (.sl 3 (.int .i64)))]⟩
def f105out : SS := ⟨[(0, (.ro (.int .i64)))], [(0, (.box (.st (.cons (.list 91 (.st (.cons (.int .i64) (.cons (.int .i64) (.cons (.int .i64) (.cons .str (.cons (.int .i64) .nil))))))) (.cons (.list 3 (.int .i64)) .nil))) (.agg (.cons (.ro (.list 91 (.st (.cons (.int .i64) (.cons (.int .i64) (.cons (.int .i64) (.cons .str (.cons (.int .i64) .nil)))))))) (.cons (.h 10) .nil))))), (10, (.sl 3 (.int .i64)))]⟩
def f105s7 : SS := ⟨[(0, (.p 0)), (1, (.ro (.int .i64))), (2, (.ro (.int .i64))), (7, (.p 100)), (8, (.ro (.int .i64))), (9, (.ro (.int .i64))), (43, (.ro (.int .i64))), (44, (.ro (.int .i64)))], [(0, (.box (.st (.cons (.list 91 (.st (.cons (.int .i64) (.cons (.int .i64) (.cons (.int .i64) (.cons .str (.cons (.int .i64) .nil))))))) (.cons (.list 3 (.int .i64)) .nil))) (.agg (.cons (.ro (.list 91 (.st (.cons (.int .i64) (.cons (.int .i64) (.cons (.int .i64) (.cons .str (.cons (.int .i64) .nil)))))))) (.cons (.h 10) .nil))))), (10, (.sl 3 (.int .i64))), (100, (.box (.st (.cons (.int .i64) (.cons (.int .i64) (.cons (.int .i64) (.cons .str (.cons (.int .i64) .nil)))))) (.agg (.cons (.ro (.int .i64)) (.cons (.ro (.int .i64)) (.cons (.ro (.int .i64)) (.cons (.ro .str) (.cons (.ro (.int .i64)) .nil))))))))]⟩
def f105con (F : Int → Int → (Bool × TTreeB) → (List Int) → Option (Int × TTreeB × (List Int))) : Con := ⟨f105in, f105out, 3, 1, fun x => F x.1.2.1 x.1.2.2 x.2.1 x.2.2⟩
def f105ctx (k : Nat) (S105 : Int → Int → (Bool × TTreeB) → (List Int) → Option (Int × TTreeB × (List Int))) : Ctx := ⟨tyAt tys, conAt [(39, [f39con (impl_within k)]), (105, [f105con S105]), (139, [f139con (impl_nodeOk k)])], 104, fun _ => false⟩
theorem f105hc (k : Nat) (S105 : Int → Int → (Bool × TTreeB) → (List Int) → Option (Int × TTreeB × (List Int))) (h105 : FnOk Tryz.prog 105 (f105con S105)) : CtxOk Tryz.prog (f105ctx k S105) := ctxOk tys_ok mixed_ok (consOk_cons (f39ok k) (consOk_cons (h105) (consOk_cons (f139ok k) (consOk_nil))))
theorem f105okb (k : Nat) (S105 : Int → Int → (Bool × TTreeB) → (List Int) → Option (Int × TTreeB × (List Int))) (h105 : FnOk Tryz.prog 105 (f105con S105)) : FnOk Tryz.prog 105 (f105con (impl_tree_measure.b k S105)) :=
  let hc := f105hc k S105 h105
  fnOk (fn := Tryz.f105) (code := bodyOf Tryz.f105) (res := [.tmp 6]) hc (by kernel_rfl) (by kernel_rfl) (by decide) (by kernel_rfl) (by kernel_rfl) (by kernel_rfl) (Nat.le_of_ble_eq_true (by kernel_rfl)) _
    (fun x => Snd.seq (by kernel_rfl) (Snd.seq (by kernel_rfl) (Snd.seq (by kernel_rfl) (Snd.seq (by kernel_rfl) (Snd.seq (by kernel_rfl) (Snd.seq (by kernel_rfl) (Snd.exec hc _ _ _ _) (Snd.seq (by kernel_rfl) (Snd.block (id := 0) (by kernel_rfl) (Snd.loop' (by kernel_rfl) f105s7 (fun n x => impl_tree_measure.l7 k S105 n x.1.2.1 x.1.2.2.1 x.1.2.2.2.2.1 x.1.2.2.2.2.2.1 x.1.2.2.2.2.2.2.1 x.1.2.2.2.2.2.2.2 x.2.1 x.2.2.1 x.2.2.2) _ (fun _ => rfl) (fun n7 => Snd.exec hc _ _ _ _) (fun n x => by kernel_rfl) k)) (Snd.exec hc _ _ _ _))) (Snd.exec hc _ _ _ _)) (Snd.exec hc _ _ _ _)) (Snd.exec hc _ _ _ _)) (Snd.exec hc _ _ _ _)) (Snd.exec hc _ _ _ _))
    (fun x => by kernel_rfl)
theorem f105rec (k : Nat) : ∀ d, FnOk Tryz.prog 105 (f105con (impl_tree_measure.d k d))
  | 0 => FnOk_none (fun _ => rfl)
  | d + 1 => let ih := f105rec k d
    f105okb k (impl_tree_measure.d k d) ih
theorem f105ok (k : Nat) : FnOk Tryz.prog 105 (f105con (impl_tree_measure k)) := (f105rec k k)

def f72in : SS := ⟨[(0, (.ro (.list 91 (.st (.cons (.int .i64) (.cons (.int .i64) (.cons (.int .i64) (.cons .str (.cons (.int .i64) .nil)))))))))], []⟩
def f72out : SS := ⟨[(0, (.p 100)), (1, (.ro .bool))], [(100, (.obox (.st (.cons (.list 91 (.st (.cons (.int .i64) (.cons (.int .i64) (.cons (.int .i64) (.cons .str (.cons (.int .i64) .nil))))))) (.cons (.list 3 (.int .i64)) .nil))) (.agg (.cons (.ro (.list 91 (.st (.cons (.int .i64) (.cons (.int .i64) (.cons (.int .i64) (.cons .str (.cons (.int .i64) .nil)))))))) (.cons (.h 101) .nil))))), (101, (.sl 3 (.int .i64)))]⟩
def f72con (F : (List TNode) → Option ((Unit × Bool) × (Bool × TTreeB) × (List Int))) : Con := ⟨f72in, f72out, 1, 2, fun x => F x⟩
def f72ctx (k : Nat) : Ctx := ⟨tyAt tys, conAt [(39, [f39con (impl_within k)]), (105, [f105con (impl_tree_measure k)])], 35, fun s => Nat.beq s 27⟩
theorem f72hc (k : Nat) : CtxOk Tryz.prog (f72ctx k) := ctxOk tys_ok mixed_ok (consOk_cons (f39ok k) (consOk_cons (f105ok k) (consOk_nil)))
theorem f72ok (k : Nat) : FnOk Tryz.prog 72 (f72con (impl_treeOf k)) :=
  let hc := f72hc k
  fnOk (fn := Tryz.f72) (code := bodyOf Tryz.f72) (res := [.tmp 2, .tmp 3]) hc (by kernel_rfl) (by kernel_rfl) (by decide) (by kernel_rfl) (by kernel_rfl) (by kernel_rfl) (Nat.le_of_ble_eq_true (by kernel_rfl)) _
    (fun x => Snd.exec hc _ _ _ _)
    (fun x => by kernel_rfl)

def f61in : SS := ⟨[(0, (.ro (.int .i64)))], []⟩
def f61out : SS := ⟨[(0, (.ro .bool))], []⟩
def f61con (F : Int → Option Bool) : Con := ⟨f61in, f61out, 1, 1, fun x => F x⟩
def f61ctx (k : Nat) : Ctx := ⟨tyAt tys, conAt [(39, [f39con (impl_within k)])], 13, fun _ => false⟩
theorem f61hc (k : Nat) : CtxOk Tryz.prog (f61ctx k) := ctxOk tys_ok mixed_ok (consOk_cons (f39ok k) (consOk_nil))
theorem f61ok (k : Nat) : FnOk Tryz.prog 61 (f61con (impl_TypeOk k)) :=
  let hc := f61hc k
  fnOk (fn := Tryz.f61) (code := bodyOf Tryz.f61) (res := [.tmp 2]) hc (by kernel_rfl) (by kernel_rfl) (by decide) (by kernel_rfl) (by kernel_rfl) (by kernel_rfl) (Nat.le_of_ble_eq_true (by kernel_rfl)) _
    (fun x => Snd.exec hc _ _ _ _)
    (fun x => by kernel_rfl)

def f73in : SS := ⟨[(0, (.ro (.st (.cons (.int .i64) (.cons (.int .i64) (.cons (.int .i64) .nil))))))], []⟩
def f73out : SS := ⟨[(0, (.ro .bool))], []⟩
def f73con (F : TLeaf → Option Bool) : Con := ⟨f73in, f73out, 1, 1, fun x => F x⟩
def f73ctx (k : Nat) : Ctx := ⟨tyAt tys, conAt [(39, [f39con (impl_within k)]), (61, [f61con (impl_TypeOk k)])], 18, fun _ => false⟩
theorem f73hc (k : Nat) : CtxOk Tryz.prog (f73ctx k) := ctxOk tys_ok mixed_ok (consOk_cons (f39ok k) (consOk_cons (f61ok k) (consOk_nil)))
theorem f73ok (k : Nat) : FnOk Tryz.prog 73 (f73con (impl_LeafOk k)) :=
  let hc := f73hc k
  fnOk (fn := Tryz.f73) (code := bodyOf Tryz.f73) (res := [.tmp 2]) hc (by kernel_rfl) (by kernel_rfl) (by decide) (by kernel_rfl) (by kernel_rfl) (by kernel_rfl) (Nat.le_of_ble_eq_true (by kernel_rfl)) _
    (fun x => Snd.exec hc _ _ _ _)
    (fun x => by kernel_rfl)

def f77in : SS := ⟨[(0, (.p 0)), (1, (.ro (.int .i64))), (2, (.ro (.int .i64)))], [(0, (.obox (.st (.cons (.list 91 (.st (.cons (.int .i64) (.cons (.int .i64) (.cons (.int .i64) (.cons .str (.cons (.int .i64) .nil))))))) (.cons (.list 3 (.int .i64)) .nil))) (.agg (.cons (.ro (.list 91 (.st (.cons (.int .i64) (.cons (.int .i64) (.cons (.int .i64) (.cons .str (.cons (.int .i64) .nil)))))))) (.cons (.h 10) .nil))))), (10, (.sl 3 (.int .i64)))]⟩
def f77out : SS := ⟨[(0, (.ro (.int .i64)))], [(0, (.box (.st (.cons (.list 91 (.st (.cons (.int .i64) (.cons (.int .i64) (.cons (.int .i64) (.cons .str (.cons (.int .i64) .nil))))))) (.cons (.list 3 (.int .i64)) .nil))) (.agg (.cons (.ro (.list 91 (.st (.cons (.int .i64) (.cons (.int .i64) (.cons (.int .i64) (.cons .str (.cons (.int .i64) .nil)))))))) (.cons (.h 10) .nil))))), (10, (.sl 3 (.int .i64)))]⟩
def f77s5 : SS := ⟨[(0, (.p 0)), (2, (.ro (.int .i64))), (7, (.ro (.int .i64))), (37, (.ro (.int .i64))), (38, (.ro (.int .i64)))], [(0, (.box (.st (.cons (.list 91 (.st (.cons (.int .i64) (.cons (.int .i64) (.cons (.int .i64) (.cons .str (.cons (.int .i64) .nil))))))) (.cons (.list 3 (.int .i64)) .nil))) (.agg (.cons (.ro (.list 91 (.st (.cons (.int .i64) (.cons (.int .i64) (.cons (.int .i64) (.cons .str (.cons (.int .i64) .nil)))))))) (.cons (.h 10) .nil))))), (10, (.sl 3 (.int .i64)))]⟩
def f77con (F : Int → Int → (Bool × TTreeB) → (List Int) → Option (Int × TTreeB × (List Int))) : Con := ⟨f77in, f77out, 3, 1, fun x => F x.1.2.1 x.1.2.2 x.2.1 x.2.2⟩
def f77ctx (k : Nat) : Ctx := ⟨tyAt tys, conAt [(39, [f39con (impl_within k)])], 59, fun _ => false⟩
theorem f77hc (k : Nat) : CtxOk Tryz.prog (f77ctx k) := ctxOk tys_ok mixed_ok (consOk_cons (f39ok k) (consOk_nil))
theorem f77ok (k : Nat) : FnOk Tryz.prog 77 (f77con (impl_tree_find k)) :=
  let hc := f77hc k
  fnOk (fn := Tryz.f77) (code := bodyOf Tryz.f77) (res := [.tmp 6]) hc (by kernel_rfl) (by kernel_rfl) (by decide) (by kernel_rfl) (by kernel_rfl) (by kernel_rfl) (Nat.le_of_ble_eq_true (by kernel_rfl)) _
    (fun x => Snd.seq (by kernel_rfl) (Snd.seq (by kernel_rfl) (Snd.seq (by kernel_rfl) (Snd.seq (by kernel_rfl) (Snd.exec hc _ _ _ _) (Snd.seq (by kernel_rfl) (Snd.block (id := 0) (by kernel_rfl) (Snd.loop' (by kernel_rfl) f77s5 (fun n x => impl_tree_find.l5 k n x.1.2.1 x.1.2.2.1 x.1.2.2.2.1 x.1.2.2.2.2 x.2.1 x.2.2) _ (fun _ => rfl) (fun n5 => Snd.exec hc _ _ _ _) (fun n x => by kernel_rfl) k)) (Snd.exec hc _ _ _ _))) (Snd.exec hc _ _ _ _)) (Snd.exec hc _ _ _ _)) (Snd.exec hc _ _ _ _))
    (fun x => by kernel_rfl)

def f76in : SS := ⟨[(0, (.p 0)), (1, (.ro (.int .i64))), (2, (.ro (.int .i64))), (3, (.ro (.int .i64)))], [(0, (.obox (.st (.cons (.list 91 (.st (.cons (.int .i64) (.cons (.int .i64) (.cons (.int .i64) (.cons .str (.cons (.int .i64) .nil))))))) (.cons (.list 3 (.int .i64)) .nil))) (.agg (.cons (.ro (.list 91 (.st (.cons (.int .i64) (.cons (.int .i64) (.cons (.int .i64) (.cons .str (.cons (.int .i64) .nil)))))))) (.cons (.h 10) .nil))))), (10, (.sl 3 (.int .i64)))]⟩
def f76out : SS := ⟨[(0, (.agg (.cons (.ro (.int .i64)) (.cons (.ro (.int .i64)) (.cons (.ro (.int .i64)) (.cons (.ro .str) (.cons (.ro (.int .i64)) .nil))))))), (1, (.ro .bool))], [(0, (.box (.st (.cons (.list 91 (.st (.cons (.int .i64) (.cons (.int .i64) (.cons (.int .i64) (.cons .str (.cons (.int .i64) .nil))))))) (.cons (.list 3 (.int .i64)) .nil))) (.agg (.cons (.ro (.list 91 (.st (.cons (.int .i64) (.cons (.int .i64) (.cons (.int .i64) (.cons .str (.cons (.int .i64) .nil)))))))) (.cons (.h 10) .nil))))), (10, (.sl 3 (.int .i64)))]⟩
def f76con (F : Int → Int → Int → (Bool × TTreeB) → (List Int) → Option ((TNode × Bool) × TTreeB × (List Int))) : Con := ⟨f76in, f76out, 4, 2, fun x => F x.1.2.1 x.1.2.2.1 x.1.2.2.2 x.2.1 x.2.2⟩
def f76ctx (k : Nat) : Ctx := ⟨tyAt tys, conAt [(77, [f77con (impl_tree_find k)])], 37, fun _ => false⟩
theorem f76hc (k : Nat) : CtxOk Tryz.prog (f76ctx k) := ctxOk tys_ok mixed_ok (consOk_cons (f77ok k) (consOk_nil))
theorem f76ok (k : Nat) : FnOk Tryz.prog 76 (f76con (impl_tree_part k)) :=
  let hc := f76hc k
  fnOk (fn := Tryz.f76) (code := bodyOf Tryz.f76) (res := [.cell 8 91, .tmp 9]) hc (by kernel_rfl) (by kernel_rfl) (by decide) (by kernel_rfl) (by kernel_rfl) (by kernel_rfl) (Nat.le_of_ble_eq_true (by kernel_rfl)) _
    (fun x => Snd.exec hc _ _ _ _)
    (fun x => by kernel_rfl)

def f106in : SS := ⟨[(0, (.p 0)), (1, (.ro (.int .i64))), (2, (.ro (.int .i64)))], [(0, (.obox (.st (.cons (.list 91 (.st (.cons (.int .i64) (.cons (.int .i64) (.cons (.int .i64) (.cons .str (.cons (.int .i64) .nil))))))) (.cons (.list 3 (.int .i64)) .nil))) (.agg (.cons (.ro (.list 91 (.st (.cons (.int .i64) (.cons (.int .i64) (.cons (.int .i64) (.cons .str (.cons (.int .i64) .nil)))))))) (.cons (.h 10) .nil))))), (10, (.sl 3 (.int .i64)))]⟩
def f106out : SS := ⟨[(0, (.ro (.int .i64))), (1, (.ro .bool))], [(0, (.box (.st (.cons (.list 91 (.st (.cons (.int .i64) (.cons (.int .i64) (.cons (.int .i64) (.cons .str (.cons (.int .i64) .nil))))))) (.cons (.list 3 (.int .i64)) .nil))) (.agg (.cons (.ro (.list 91 (.st (.cons (.int .i64) (.cons (.int .i64) (.cons (.int .i64) (.cons .str (.cons (.int .i64) .nil)))))))) (.cons (.h 10) .nil))))), (10, (.sl 3 (.int .i64)))]⟩
def f106con (F : Int → Int → (Bool × TTreeB) → (List Int) → Option ((Int × Bool) × TTreeB × (List Int))) : Con := ⟨f106in, f106out, 3, 2, fun x => F x.1.2.1 x.1.2.2 x.2.1 x.2.2⟩
def f106ctx (k : Nat) : Ctx := ⟨tyAt tys, conAt [(77, [f77con (impl_tree_find k)])], 45, fun _ => false⟩
theorem f106hc (k : Nat) : CtxOk Tryz.prog (f106ctx k) := ctxOk tys_ok mixed_ok (consOk_cons (f77ok k) (consOk_nil))
theorem f106ok (k : Nat) : FnOk Tryz.prog 106 (f106con (impl_tree_num k)) :=
  let hc := f106hc k
  fnOk (fn := Tryz.f106) (code := bodyOf Tryz.f106) (res := [.tmp 6, .tmp 7]) hc (by kernel_rfl) (by kernel_rfl) (by decide) (by kernel_rfl) (by kernel_rfl) (by kernel_rfl) (Nat.le_of_ble_eq_true (by kernel_rfl)) _
    (fun x => Snd.exec hc _ _ _ _)
    (fun x => by kernel_rfl)

def f74i1in : SS := ⟨[(0, (.p 0)), (1, (.ro (.int .i64)))], [(0, (.box (.st (.cons .ptr (.cons (.int .i64) (.cons .bool .nil)))) (.agg (.cons (.p 10) (.cons (.ro (.int .i64)) (.cons (.ro .bool) .nil)))))), (10, (.obox (.st (.cons (.list 91 (.st (.cons (.int .i64) (.cons (.int .i64) (.cons (.int .i64) (.cons .str (.cons (.int .i64) .nil))))))) (.cons (.list 3 (.int .i64)) .nil))) (.agg (.cons (.ro (.list 91 (.st (.cons (.int .i64) (.cons (.int .i64) (.cons (.int .i64) (.cons .str (.cons (.int .i64) .nil)))))))) (.cons (.h 11) .nil))))), (11, (.sl 3 (.int .i64)))]⟩
def f74i1out : SS := ⟨[(0, (.ro (.int .i64)))], [(0, (.box (.st (.cons .ptr (.cons (.int .i64) (.cons .bool .nil)))) (.agg (.cons (.p 10) (.cons (.ro (.int .i64)) (.cons (.ro .bool) .nil)))))), (10, (.box (.st (.cons (.list 91 (.st (.cons (.int .i64) (.cons (.int .i64) (.cons (.int .i64) (.cons .str (.cons (.int .i64) .nil))))))) (.cons (.list 3 (.int .i64)) .nil))) (.agg (.cons (.ro (.list 91 (.st (.cons (.int .i64) (.cons (.int .i64) (.cons (.int .i64) (.cons .str (.cons (.int .i64) .nil)))))))) (.cons (.h 11) .nil))))), (11, (.sl 3 (.int .i64)))]⟩
def f74i1s4 : SS := ⟨[(5, (.ro (.int .i64)))], [(0, (.box (.st (.cons .ptr (.cons (.int .i64) (.cons .bool .nil)))) (.agg (.cons (.p 10) (.cons (.ro (.int .i64)) (.cons (.ro .bool) .nil)))))), (10, (.box (.st (.cons (.list 91 (.st (.cons (.int .i64) (.cons (.int .i64) (.cons (.int .i64) (.cons .str (.cons (.int .i64) .nil))))))) (.cons (.list 3 (.int .i64)) .nil))) (.agg (.cons (.ro (.list 91 (.st (.cons (.int .i64) (.cons (.int .i64) (.cons (.int .i64) (.cons .str (.cons (.int .i64) .nil)))))))) (.cons (.h 11) .nil))))), (11, (.sl 3 (.int .i64)))]⟩
def f74i1con (F : Int → THeadReader → (Bool × TTreeB) → (List Int) → Option (Int × THeadReader × TTreeB × (List Int))) : Con := ⟨f74i1in, f74i1out, 2, 1, fun x => F x.1.2 x.2.1 x.2.2.1 x.2.2.2⟩
def f74i1ctx (k : Nat) : Ctx := ⟨tyAt tys, conAt [(106, [f106con (impl_tree_num k)])], 26, fun _ => false⟩
theorem f74i1hc (k : Nat) : CtxOk Tryz.prog (f74i1ctx k) := ctxOk tys_ok mixed_ok (consOk_cons (f106ok k) (consOk_nil))
theorem f74i1ok (k : Nat) : FnOk Tryz.prog 74 (f74i1con (impl_headReader_any k)) :=
  let hc := f74i1hc k
  fnOk (fn := Tryz.f74) (code := bodyOf Tryz.f74) (res := [.tmp 4]) hc (by kernel_rfl) (by kernel_rfl) (by decide) (by kernel_rfl) (by kernel_rfl) (by kernel_rfl) (Nat.le_of_ble_eq_true (by kernel_rfl)) _
    (fun x => Snd.seq (by kernel_rfl) (Snd.seq (by kernel_rfl) (Snd.seq (by kernel_rfl) (Snd.cut (Snd.exec hc _ _ _ _) ⟨f74i1s4, fun x => impl_headReader_any.c4 k x.1 x.2.1 x.2.2.1 x.2.2.2⟩ (fun x => by kernel_rfl)) (Snd.exec hc _ _ _ _)) (Snd.exec hc _ _ _ _)) (Snd.exec hc _ _ _ _))
    (fun x => by kernel_rfl)

def f75i2in : SS := ⟨[(0, (.p 0)), (1, (.ro (.int .i64))), (2, (.ro (.int .i64)))], [(0, (.box (.st (.cons .ptr (.cons (.int .i64) (.cons .bool .nil)))) (.agg (.cons (.p 10) (.cons (.ro (.int .i64)) (.cons (.ro .bool) .nil)))))), (10, (.box (.st (.cons (.list 91 (.st (.cons (.int .i64) (.cons (.int .i64) (.cons (.int .i64) (.cons .str (.cons (.int .i64) .nil))))))) (.cons (.list 3 (.int .i64)) .nil))) (.agg (.cons (.ro (.list 91 (.st (.cons (.int .i64) (.cons (.int .i64) (.cons (.int .i64) (.cons .str (.cons (.int .i64) .nil)))))))) (.cons (.h 11) .nil))))), (11, (.sl 3 (.int .i64)))]⟩
def f75i2out : SS := ⟨[(0, (.ro (.int .i64)))], [(0, (.box (.st (.cons .ptr (.cons (.int .i64) (.cons .bool .nil)))) (.agg (.cons (.p 10) (.cons (.ro (.int .i64)) (.cons (.ro .bool) .nil)))))), (10, (.box (.st (.cons (.list 91 (.st (.cons (.int .i64) (.cons (.int .i64) (.cons (.int .i64) (.cons .str (.cons (.int .i64) .nil))))))) (.cons (.list 3 (.int .i64)) .nil))) (.agg (.cons (.ro (.list 91 (.st (.cons (.int .i64) (.cons (.int .i64) (.cons (.int .i64) (.cons .str (.cons (.int .i64) .nil)))))))) (.cons (.h 11) .nil))))), (11, (.sl 3 (.int .i64)))]⟩
def f75i2s4 : SS := ⟨[(7, (.ro (.int .i64)))], [(0, (.box (.st (.cons .ptr (.cons (.int .i64) (.cons .bool .nil)))) (.agg (.cons (.p 10) (.cons (.ro (.int .i64)) (.cons (.ro .bool) .nil)))))), (10, (.box (.st (.cons (.list 91 (.st (.cons (.int .i64) (.cons (.int .i64) (.cons (.int .i64) (.cons .str (.cons (.int .i64) .nil))))))) (.cons (.list 3 (.int .i64)) .nil))) (.agg (.cons (.ro (.list 91 (.st (.cons (.int .i64) (.cons (.int .i64) (.cons (.int .i64) (.cons .str (.cons (.int .i64) .nil)))))))) (.cons (.h 11) .nil))))), (11, (.sl 3 (.int .i64)))]⟩
def f75i2con (F : Int → Int → THeadReader → TTreeB → (List Int) → Option (Int × THeadReader × TTreeB × (List Int))) : Con := ⟨f75i2in, f75i2out, 3, 1, fun x => F x.1.2.1 x.1.2.2 x.2.1 x.2.2.1 x.2.2.2⟩
def f75i2ctx (k : Nat) : Ctx := ⟨tyAt tys, conAt [(106, [f106con (impl_tree_num k)])], 33, fun _ => false⟩
theorem f75i2hc (k : Nat) : CtxOk Tryz.prog (f75i2ctx k) := ctxOk tys_ok mixed_ok (consOk_cons (f106ok k) (consOk_nil))
theorem f75i2ok (k : Nat) : FnOk Tryz.prog 75 (f75i2con (impl_headReader_num k)) :=
  let hc := f75i2hc k
  fnOk (fn := Tryz.f75) (code := bodyOf Tryz.f75) (res := [.tmp 6]) hc (by kernel_rfl) (by kernel_rfl) (by decide) (by kernel_rfl) (by kernel_rfl) (by kernel_rfl) (Nat.le_of_ble_eq_true (by kernel_rfl)) _
    (fun x => Snd.seq (by kernel_rfl) (Snd.seq (by kernel_rfl) (Snd.seq (by kernel_rfl) (Snd.cut (Snd.exec hc _ _ _ _) ⟨f75i2s4, fun x => impl_headReader_num.c4 k x.1 x.2.1 x.2.2.1 x.2.2.2⟩ (fun x => by kernel_rfl)) (Snd.exec hc _ _ _ _)) (Snd.exec hc _ _ _ _)) (Snd.exec hc _ _ _ _))
    (fun x => by kernel_rfl)

def f107i4in : SS := ⟨[(0, (.p 0)), (1, (.ro (.int .i64)))], [(0, (.box (.st (.cons .ptr (.cons (.int .i64) (.cons .bool .nil)))) (.agg (.cons (.p 10) (.cons (.ro (.int .i64)) (.cons (.ro .bool) .nil)))))), (10, (.box (.st (.cons (.list 91 (.st (.cons (.int .i64) (.cons (.int .i64) (.cons (.int .i64) (.cons .str (.cons (.int .i64) .nil))))))) (.cons (.list 3 (.int .i64)) .nil))) (.agg (.cons (.ro (.list 91 (.st (.cons (.int .i64) (.cons (.int .i64) (.cons (.int .i64) (.cons .str (.cons (.int .i64) .nil)))))))) (.cons (.h 11) .nil))))), (11, (.sl 3 (.int .i64)))]⟩
def f107i4out : SS := ⟨[], [(0, (.box (.st (.cons .ptr (.cons (.int .i64) (.cons .bool .nil)))) (.agg (.cons (.p 10) (.cons (.ro (.int .i64)) (.cons (.ro .bool) .nil)))))), (10, (.box (.st (.cons (.list 91 (.st (.cons (.int .i64) (.cons (.int .i64) (.cons (.int .i64) (.cons .str (.cons (.int .i64) .nil))))))) (.cons (.list 3 (.int .i64)) .nil))) (.agg (.cons (.ro (.list 91 (.st (.cons (.int .i64) (.cons (.int .i64) (.cons (.int .i64) (.cons .str (.cons (.int .i64) .nil)))))))) (.cons (.h 11) .nil))))), (11, (.sl 3 (.int .i64)))]⟩
def f107i4con (F : Int → THeadReader → TTreeB → (List Int) → Option (Unit × THeadReader × TTreeB × (List Int))) : Con := ⟨f107i4in, f107i4out, 2, 0, fun x => F x.1.2 x.2.1 x.2.2.1 x.2.2.2⟩
def f107i4ctx (k : Nat) : Ctx := ⟨tyAt tys, conAt [(77, [f77con (impl_tree_find k)])], 38, fun _ => false⟩
theorem f107i4hc (k : Nat) : CtxOk Tryz.prog (f107i4ctx k) := ctxOk tys_ok mixed_ok (consOk_cons (f77ok k) (consOk_nil))
theorem f107i4ok (k : Nat) : FnOk Tryz.prog 107 (f107i4con (impl_headReader_enter k)) :=
  let hc := f107i4hc k
  fnOk (fn := Tryz.f107) (code := bodyOf Tryz.f107) (res := []) hc (by kernel_rfl) (by kernel_rfl) (by decide) (by kernel_rfl) (by kernel_rfl) (by kernel_rfl) (Nat.le_of_ble_eq_true (by kernel_rfl)) _
    (fun x => Snd.exec hc _ _ _ _)
    (fun x => by kernel_rfl)

def f88in : SS := ⟨[(0, (.ro (.int .i64))), (1, (.ro (.int .i64)))], []⟩
def f88out : SS := ⟨[(0, (.ro (.int .i64)))], []⟩
def f88con (F : Int → Int → Option Int) : Con := ⟨f88in, f88out, 2, 1, fun x => F x.1 x.2⟩
def f88ctx (k : Nat) : Ctx := ⟨tyAt tys, conAt [(39, [f39con (impl_within k)])], 18, fun _ => false⟩
theorem f88hc (k : Nat) : CtxOk Tryz.prog (f88ctx k) := ctxOk tys_ok mixed_ok (consOk_cons (f39ok k) (consOk_nil))
theorem f88ok (k : Nat) : FnOk Tryz.prog 88 (f88con (impl_BitsSize k)) :=
  let hc := f88hc k
  fnOk (fn := Tryz.f88) (code := bodyOf Tryz.f88) (res := [.tmp 4]) hc (by kernel_rfl) (by kernel_rfl) (by decide) (by kernel_rfl) (by kernel_rfl) (by kernel_rfl) (Nat.le_of_ble_eq_true (by kernel_rfl)) _
    (fun x => Snd.exec hc _ _ _ _)
    (fun x => by kernel_rfl)

def f118in : SS := ⟨[(0, (.ro (.list 5 (.int .u8)))), (1, (.ro (.int .i64)))], []⟩
def f118out : SS := ⟨[(0, (.ro (.int .i64)))], []⟩
def f118con (F : (List Int) → Int → Option Int) : Con := ⟨f118in, f118out, 2, 1, fun x => F x.1 x.2⟩
def f118ctx (k : Nat) : Ctx := ⟨tyAt tys, conAt [], 24, fun _ => false⟩
theorem f118hc (k : Nat) : CtxOk Tryz.prog (f118ctx k) := ctxOk tys_ok mixed_ok (consOk_nil)
theorem f118ok (k : Nat) : FnOk Tryz.prog 118 (f118con (impl_BitAt k)) :=
  let hc := f118hc k
  fnOk (fn := Tryz.f118) (code := bodyOf Tryz.f118) (res := [.tmp 4]) hc (by kernel_rfl) (by kernel_rfl) (by decide) (by kernel_rfl) (by kernel_rfl) (by kernel_rfl) (Nat.le_of_ble_eq_true (by kernel_rfl)) _
    (fun x => Snd.exec hc _ _ _ _)
    (fun x => by kernel_rfl)

def f89in : SS := ⟨[(0, (.ro (.list 5 (.int .u8)))), (1, (.ro (.int .i64))), (2, (.ro (.int .i64))), (3, (.ro (.int .i64)))], []⟩
def f89out : SS := ⟨[(0, (.h 100))], [(100, (.sl 3 (.int .i64)))]⟩
def f89s7 : SS := ⟨[(0, (.ro (.list 5 (.int .u8)))), (1, (.ro (.int .i64))), (3, (.ro (.int .i64))), (9, (.h 100)), (10, (.ro (.int .i64))), (11, (.ro (.int .i64))), (14, (.ro (.int .i64))), (15, (.ro (.int .i64))), (18, (.ro (.int .i64))), (19, (.ro (.int .i64)))], [(100, (.sl 3 (.int .i64)))]⟩
def f89s3 : SS := ⟨[(0, (.ro (.list 5 (.int .u8)))), (1, (.ro (.int .i64))), (3, (.ro (.int .i64))), (9, (.h 100)), (14, (.ro (.int .i64))), (15, (.ro (.int .i64)))], [(100, (.sl 3 (.int .i64)))]⟩
def f89con (F : (List Int) → Int → Int → Int → Option (Unit × (List Int))) : Con := ⟨f89in, f89out, 4, 1, fun x => F x.1 x.2.1 x.2.2.1 x.2.2.2⟩
def f89ctx (k : Nat) : Ctx := ⟨tyAt tys, conAt [(118, [f118con (impl_BitAt k)])], 43, fun _ => false⟩
theorem f89hc (k : Nat) : CtxOk Tryz.prog (f89ctx k) := ctxOk tys_ok mixed_ok (consOk_cons (f118ok k) (consOk_nil))
theorem f89ok (k : Nat) : FnOk Tryz.prog 89 (f89con (impl_unpacked k)) :=
  let hc := f89hc k
  fnOk (fn := Tryz.f89) (code := bodyOf Tryz.f89) (res := [.tmp 8]) hc (by kernel_rfl) (by kernel_rfl) (by decide) (by kernel_rfl) (by kernel_rfl) (by kernel_rfl) (Nat.le_of_ble_eq_true (by kernel_rfl)) _
    (fun x => Snd.seq (by kernel_rfl) (Snd.seq (by kernel_rfl) (Snd.seq (by kernel_rfl) (Snd.exec hc _ _ _ _) (Snd.seq (by kernel_rfl) (Snd.block (id := 0) (by kernel_rfl) (Snd.loop' (by kernel_rfl) f89s3 (fun n x => impl_unpacked.l3 k n x.1.1 x.1.2.1 x.1.2.2.1 x.1.2.2.2.2.1 x.1.2.2.2.2.2 x.2) _ (fun _ => rfl) (fun n3 => Snd.seq (by kernel_rfl) (Snd.seq (by kernel_rfl) (Snd.seq (by kernel_rfl) (Snd.exec hc _ _ _ _) (Snd.block (id := 1) (by kernel_rfl) (Snd.seq (by kernel_rfl) (Snd.seq (by kernel_rfl) (Snd.seq (by kernel_rfl) (Snd.exec hc _ _ _ _) (Snd.seq (by kernel_rfl) (Snd.block (id := 2) (by kernel_rfl) (Snd.loop' (by kernel_rfl) f89s7 (fun n x => impl_unpacked.l7 k (impl_unpacked.l3 k n3) n x.1.1 x.1.2.1 x.1.2.2.1 x.1.2.2.2.2.1 x.1.2.2.2.2.2.1 x.1.2.2.2.2.2.2.1 x.1.2.2.2.2.2.2.2.1 x.1.2.2.2.2.2.2.2.2.1 x.1.2.2.2.2.2.2.2.2.2 x.2) _ (fun _ => rfl) (fun n7 => Snd.exec hc _ _ _ _) (fun n x => by kernel_rfl) k)) (Snd.exec hc _ _ _ _))) (Snd.exec hc _ _ _ _)) (Snd.exec hc _ _ _ _)))) (Snd.exec hc _ _ _ _)) (Snd.exec hc _ _ _ _)) (fun n x => by kernel_rfl) k)) (Snd.exec hc _ _ _ _))) (Snd.exec hc _ _ _ _)) (Snd.exec hc _ _ _ _))
    (fun x => by kernel_rfl)

def f62in : SS := ⟨[(0, (.ro (.list 5 (.int .u8)))), (1, (.ro (.int .i64))), (2, (.ro (.int .i64))), (3, (.ro (.int .i64)))], []⟩
def f62out : SS := ⟨[(0, (.h 100)), (1, (.ro (.int .i64))), (2, (.ro .bool))], [(100, (.sl 3 (.int .i64)))]⟩
def f62con (F : (List Int) → Int → Int → Int → Option ((Unit × Int × Bool) × (List Int))) : Con := ⟨f62in, f62out, 4, 3, fun x => F x.1 x.2.1 x.2.2.1 x.2.2.2⟩
def f62ctx (k : Nat) : Ctx := ⟨tyAt tys, conAt [(39, [f39con (impl_within k)]), (88, [f88con (impl_BitsSize k)]), (89, [f89con (impl_unpacked k)])], 40, fun _ => false⟩
theorem f62hc (k : Nat) : CtxOk Tryz.prog (f62ctx k) := ctxOk tys_ok mixed_ok (consOk_cons (f39ok k) (consOk_cons (f88ok k) (consOk_cons (f89ok k) (consOk_nil))))
theorem f62ok (k : Nat) : FnOk Tryz.prog 62 (f62con (impl_BitsRead k)) :=
  let hc := f62hc k
  fnOk (fn := Tryz.f62) (code := bodyOf Tryz.f62) (res := [.tmp 8, .tmp 9, .tmp 10]) hc (by kernel_rfl) (by kernel_rfl) (by decide) (by kernel_rfl) (by kernel_rfl) (by kernel_rfl) (Nat.le_of_ble_eq_true (by kernel_rfl)) _
    (fun x => Snd.exec hc _ _ _ _)
    (fun x => by kernel_rfl)

def f63in : SS := ⟨[(0, (.ro (.list 3 (.int .i64))))], []⟩
def f63out : SS := ⟨[(0, (.h 100))], [(100, (.sl 59 (.st (.cons (.int .i64) (.cons .str .nil)))))]⟩
def f63s3 : SS := ⟨[(3, (.h 100)), (7, (.ro (.list 3 (.int .i64)))), (8, (.ro (.int .i64))), (9, (.ro (.int .i64)))], [(100, (.sl 59 (.st (.cons (.int .i64) (.cons .str .nil)))))]⟩
def f63con (F : (List Int) → Option (Unit × (List TVal))) : Con := ⟨f63in, f63out, 1, 1, fun x => F x⟩
def f63ctx (k : Nat) : Ctx := ⟨tyAt tys, conAt [], 20, fun _ => false⟩
theorem f63hc (k : Nat) : CtxOk Tryz.prog (f63ctx k) := ctxOk tys_ok mixed_ok (consOk_nil)
theorem f63ok (k : Nat) : FnOk Tryz.prog 63 (f63con (impl_valsOf k)) :=
  let hc := f63hc k
  fnOk (fn := Tryz.f63) (code := bodyOf Tryz.f63) (res := [.tmp 2]) hc (by kernel_rfl) (by kernel_rfl) (by decide) (by kernel_rfl) (by kernel_rfl) (by kernel_rfl) (Nat.le_of_ble_eq_true (by kernel_rfl)) _
    (fun x => Snd.seq (by kernel_rfl) (Snd.seq (by kernel_rfl) (Snd.seq (by kernel_rfl) (Snd.exec hc _ _ _ _) (Snd.seq (by kernel_rfl) (Snd.block (id := 0) (by kernel_rfl) (Snd.loop' (by kernel_rfl) f63s3 (fun n x => impl_valsOf.l3 k n x.1.2.1 x.1.2.2.1 x.1.2.2.2 x.2) _ (fun _ => rfl) (fun n3 => Snd.exec hc _ _ _ _) (fun n x => by kernel_rfl) k)) (Snd.exec hc _ _ _ _))) (Snd.exec hc _ _ _ _)) (Snd.exec hc _ _ _ _))
    (fun x => by kernel_rfl)

def f40in : SS := ⟨[(0, (.ro (.list 5 (.int .u8)))), (1, (.ro (.int .i64))), (2, (.ro (.int .i64)))], []⟩
def f40out : SS := ⟨[(0, (.ro (.int .i64))), (1, (.ro (.int .i64))), (2, (.ro .bool))], []⟩
def f40s5 : SS := ⟨[(0, (.ro (.list 5 (.int .u8)))), (1, (.ro (.int .i64))), (2, (.ro (.int .i64))), (9, (.ro (.int .i64))), (26, (.ro (.int .i64))), (27, (.ro (.int .i64)))], []⟩
def f40con (F : (List Int) → Int → Int → Option (Int × Int × Bool)) : Con := ⟨f40in, f40out, 3, 3, fun x => F x.1 x.2.1 x.2.2⟩
def f40ctx (k : Nat) : Ctx := ⟨tyAt tys, conAt [(39, [f39con (impl_within k)])], 47, fun _ => false⟩
theorem f40hc (k : Nat) : CtxOk Tryz.prog (f40ctx k) := ctxOk tys_ok mixed_ok (consOk_cons (f39ok k) (consOk_nil))
theorem f40ok (k : Nat) : FnOk Tryz.prog 40 (f40con (impl_WordGet k)) :=
  let hc := f40hc k
  fnOk (fn := Tryz.f40) (code := bodyOf Tryz.f40) (res := [.tmp 6, .tmp 7, .tmp 8]) hc (by kernel_rfl) (by kernel_rfl) (by decide) (by kernel_rfl) (by kernel_rfl) (by kernel_rfl) (Nat.le_of_ble_eq_true (by kernel_rfl)) _
    (fun x => Snd.seq (by kernel_rfl) (Snd.seq (by kernel_rfl) (Snd.seq (by kernel_rfl) (Snd.seq (by kernel_rfl) (Snd.exec hc _ _ _ _) (Snd.seq (by kernel_rfl) (Snd.block (id := 0) (by kernel_rfl) (Snd.loop' (by kernel_rfl) f40s5 (fun n x => impl_WordGet.l5 k n x.1 x.2.1 x.2.2.1 x.2.2.2.1 x.2.2.2.2.1 x.2.2.2.2.2) _ (fun _ => rfl) (fun n5 => Snd.exec hc _ _ _ _) (fun n x => by kernel_rfl) k)) (Snd.exec hc _ _ _ _))) (Snd.exec hc _ _ _ _)) (Snd.exec hc _ _ _ _)) (Snd.exec hc _ _ _ _))
    (fun x => by kernel_rfl)

def f90in : SS := ⟨[(0, (.ro (.int .i64)))], []⟩
def f90out : SS := ⟨[(0, (.ro (.int .i64)))], []⟩
def f90s6 : SS := ⟨[(6, (.ro .bool))], []⟩
def f90con (F : Int → Option Int) : Con := ⟨f90in, f90out, 1, 1, fun x => F x⟩
def f90ctx (k : Nat) : Ctx := ⟨tyAt tys, conAt [], 9, fun _ => false⟩
theorem f90hc (k : Nat) : CtxOk Tryz.prog (f90ctx k) := ctxOk tys_ok mixed_ok (consOk_nil)
theorem f90ok (k : Nat) : FnOk Tryz.prog 90 (f90con (impl_wideOf k)) :=
  let hc := f90hc k
  fnOk (fn := Tryz.f90) (code := bodyOf Tryz.f90) (res := [.tmp 2]) hc (by kernel_rfl) (by kernel_rfl) (by decide) (by kernel_rfl) (by kernel_rfl) (by kernel_rfl) (Nat.le_of_ble_eq_true (by kernel_rfl)) _
    (fun x => Snd.seq (by kernel_rfl) (Snd.seq (by kernel_rfl) (Snd.exec hc _ _ _ _) (Snd.seq (by kernel_rfl) (Snd.block (id := 0) (by kernel_rfl) (Snd.seq (by kernel_rfl) (Snd.cond (x := .tmp 4) (by kernel_rfl) (Snd.exec hc _ _ _ _) (Snd.seq (by kernel_rfl) (Snd.cut (Snd.exec hc _ _ _ _) ⟨f90s6, fun x => impl_wideOf.c6 k x⟩ (fun x => by kernel_rfl)) (Snd.exec hc _ _ _ _))) (Snd.exec hc _ _ _ _))) (Snd.exec hc _ _ _ _))) (Snd.exec hc _ _ _ _))
    (fun x => by kernel_rfl)

def f91in : SS := ⟨[(0, (.ro (.int .i64))), (1, (.ro (.int .i64)))], []⟩
def f91out : SS := ⟨[(0, (.ro (.int .i64)))], []⟩
def f91con (F : Int → Int → Option Int) : Con := ⟨f91in, f91out, 2, 1, fun x => F x.1 x.2⟩
def f91ctx (k : Nat) : Ctx := ⟨tyAt tys, conAt [], 11, fun _ => false⟩
theorem f91hc (k : Nat) : CtxOk Tryz.prog (f91ctx k) := ctxOk tys_ok mixed_ok (consOk_nil)
theorem f91ok (k : Nat) : FnOk Tryz.prog 91 (f91con (impl_signed k)) :=
  let hc := f91hc k
  fnOk (fn := Tryz.f91) (code := bodyOf Tryz.f91) (res := [.tmp 4]) hc (by kernel_rfl) (by kernel_rfl) (by decide) (by kernel_rfl) (by kernel_rfl) (by kernel_rfl) (Nat.le_of_ble_eq_true (by kernel_rfl)) _
    (fun x => Snd.exec hc _ _ _ _)
    (fun x => by kernel_rfl)

def f64in : SS := ⟨[(0, (.ro (.int .i64))), (1, (.ro (.list 5 (.int .u8)))), (2, (.ro (.int .i64)))], []⟩
def f64out : SS := ⟨[(0, (.agg (.cons (.ro (.int .i64)) (.cons (.ro .str) .nil)))), (1, (.ro (.int .i64))), (2, (.ro .bool))], []⟩
def f64con (F : Int → (List Int) → Int → Option (TVal × Int × Bool)) : Con := ⟨f64in, f64out, 3, 3, fun x => F x.1 x.2.1 x.2.2⟩
def f64ctx (k : Nat) : Ctx := ⟨tyAt tys, conAt [(40, [f40con (impl_WordGet k)]), (90, [f90con (impl_wideOf k)]), (91, [f91con (impl_signed k)])], 66, fun _ => false⟩
theorem f64hc (k : Nat) : CtxOk Tryz.prog (f64ctx k) := ctxOk tys_ok mixed_ok (consOk_cons (f40ok k) (consOk_cons (f90ok k) (consOk_cons (f91ok k) (consOk_nil))))
theorem f64ok (k : Nat) : FnOk Tryz.prog 64 (f64con (impl_plainOne k)) :=
  let hc := f64hc k
  fnOk (fn := Tryz.f64) (code := bodyOf Tryz.f64) (res := [.cell 6 59, .tmp 7, .tmp 8]) hc (by kernel_rfl) (by kernel_rfl) (by decide) (by kernel_rfl) (by kernel_rfl) (by kernel_rfl) (Nat.le_of_ble_eq_true (by kernel_rfl)) _
    (fun x => Snd.exec hc _ _ _ _)
    (fun x => by kernel_rfl)

def f33in : SS := ⟨[(0, (.ro (.int .i64))), (1, (.ro (.list 5 (.int .u8)))), (2, (.ro (.int .i64))), (3, (.ro (.int .i64)))], []⟩
def f33out : SS := ⟨[(0, (.h 100)), (1, (.ro (.int .i64))), (2, (.ro .bool))], [(100, (.sl 59 (.st (.cons (.int .i64) (.cons .str .nil)))))]⟩
def f33s8 : SS := ⟨[(0, (.ro (.int .i64))), (1, (.ro (.list 5 (.int .u8)))), (2, (.ro (.int .i64))), (14, (.h 100)), (48, (.ro (.int .i64))), (49, (.ro (.int .i64)))], [(100, (.sl 59 (.st (.cons (.int .i64) (.cons .str .nil)))))]⟩
def f33con (F : Int → (List Int) → Int → Int → Option ((Unit × Int × Bool) × (List TVal))) : Con := ⟨f33in, f33out, 4, 3, fun x => F x.1 x.2.1 x.2.2.1 x.2.2.2⟩
def f33ctx (k : Nat) : Ctx := ⟨tyAt tys, conAt [(39, [f39con (impl_within k)]), (61, [f61con (impl_TypeOk k)]), (62, [f62con (impl_BitsRead k)]), (63, [f63con (impl_valsOf k)]), (64, [f64con (impl_plainOne k)])], 69, fun _ => false⟩
theorem f33hc (k : Nat) : CtxOk Tryz.prog (f33ctx k) := ctxOk tys_ok mixed_ok (consOk_cons (f39ok k) (consOk_cons (f61ok k) (consOk_cons (f62ok k) (consOk_cons (f63ok k) (consOk_cons (f64ok k) (consOk_nil))))))
theorem f33ok (k : Nat) : FnOk Tryz.prog 33 (f33con (impl_PlainRead k)) :=
  let hc := f33hc k
  fnOk (fn := Tryz.f33) (code := bodyOf Tryz.f33) (res := [.tmp 8, .tmp 9, .tmp 10]) hc (by kernel_rfl) (by kernel_rfl) (by decide) (by kernel_rfl) (by kernel_rfl) (by kernel_rfl) (Nat.le_of_ble_eq_true (by kernel_rfl)) _
    (fun x => Snd.seq (by kernel_rfl) (Snd.seq (by kernel_rfl) (Snd.seq (by kernel_rfl) (Snd.seq (by kernel_rfl) (Snd.seq (by kernel_rfl) (Snd.exec hc _ _ _ _) (Snd.seq (by kernel_rfl) (Snd.block (id := 0) (by kernel_rfl) (Snd.loop' (by kernel_rfl) f33s8 (fun n x => impl_PlainRead.l8 k n x.1.1 x.1.2.1 x.1.2.2.1 x.1.2.2.2.2.1 x.1.2.2.2.2.2 x.2) _ (fun _ => rfl) (fun n8 => Snd.exec hc _ _ _ _) (fun n x => by kernel_rfl) k)) (Snd.exec hc _ _ _ _))) (Snd.exec hc _ _ _ _)) (Snd.exec hc _ _ _ _)) (Snd.exec hc _ _ _ _)) (Snd.exec hc _ _ _ _))
    (fun x => by kernel_rfl)

def f172in : SS := ⟨[(0, (.ro (.int .i64))), (1, (.ro (.st (.cons (.int .i64) (.cons .str .nil)))))], []⟩
def f172out : SS := ⟨[(0, (.ro .bool))], []⟩
def f172s8 : SS := ⟨[(0, (.ro (.int .i64))), (3, (.p 100)), (26, (.ro .bool))], [(100, (.box (.st (.cons (.int .i64) (.cons .str .nil))) (.agg (.cons (.ro (.int .i64)) (.cons (.ro .str) .nil)))))]⟩
def f172con (F : Int → TVal → Option Bool) : Con := ⟨f172in, f172out, 2, 1, fun x => F x.1 x.2⟩
def f172ctx (k : Nat) : Ctx := ⟨tyAt tys, conAt [(39, [f39con (impl_within k)]), (128, [f128con (impl_isInt32 k)])], 45, fun _ => false⟩
theorem f172hc (k : Nat) : CtxOk Tryz.prog (f172ctx k) := ctxOk tys_ok mixed_ok (consOk_cons (f39ok k) (consOk_cons (f128ok k) (consOk_nil)))
theorem f172ok (k : Nat) : FnOk Tryz.prog 172 (f172con (impl_ValOk k)) :=
  let hc := f172hc k
  fnOk (fn := Tryz.f172) (code := bodyOf Tryz.f172) (res := [.tmp 4]) hc (by kernel_rfl) (by kernel_rfl) (by decide) (by kernel_rfl) (by kernel_rfl) (by kernel_rfl) (Nat.le_of_ble_eq_true (by kernel_rfl)) _
    (fun x => Snd.seq (by kernel_rfl) (Snd.seq (by kernel_rfl) (Snd.exec hc _ _ _ _) (Snd.seq (by kernel_rfl) (Snd.block (id := 0) (by kernel_rfl) (Snd.seq (by kernel_rfl) (Snd.cond (x := .tmp 6) (by kernel_rfl) (Snd.exec hc _ _ _ _) (Snd.seq (by kernel_rfl) (Snd.cond (x := .tmp 16) (by kernel_rfl) (Snd.exec hc _ _ _ _) (Snd.seq (by kernel_rfl) (Snd.cut (Snd.exec hc _ _ _ _) ⟨f172s8, fun x => impl_ValOk.c8 k x.1.1 x.1.2.2 x.2⟩ (fun x => by kernel_rfl)) (Snd.exec hc _ _ _ _))) (Snd.exec hc _ _ _ _))) (Snd.exec hc _ _ _ _))) (Snd.exec hc _ _ _ _))) (Snd.exec hc _ _ _ _))
    (fun x => by kernel_rfl)

def f180in : SS := ⟨[(0, (.ro (.int .i64))), (1, (.ro (.list 59 (.st (.cons (.int .i64) (.cons .str .nil))))))], []⟩
def f180out : SS := ⟨[(0, (.ro .bool))], []⟩
def f180s2 : SS := ⟨[(0, (.ro (.int .i64))), (1, (.ro (.list 59 (.st (.cons (.int .i64) (.cons .str .nil)))))), (7, (.ro (.list 59 (.st (.cons (.int .i64) (.cons .str .nil)))))), (8, (.ro (.int .i64))), (9, (.ro (.int .i64)))], []⟩
def f180con (F : Int → (List TVal) → Option Bool) : Con := ⟨f180in, f180out, 2, 1, fun x => F x.1 x.2⟩
def f180ctx (k : Nat) : Ctx := ⟨tyAt tys, conAt [(61, [f61con (impl_TypeOk k)]), (172, [f172con (impl_ValOk k)])], 25, fun _ => false⟩
theorem f180hc (k : Nat) : CtxOk Tryz.prog (f180ctx k) := ctxOk tys_ok mixed_ok (consOk_cons (f61ok k) (consOk_cons (f172ok k) (consOk_nil)))
theorem f180ok (k : Nat) : FnOk Tryz.prog 180 (f180con (impl_valsOk k)) :=
  let hc := f180hc k
  fnOk (fn := Tryz.f180) (code := bodyOf Tryz.f180) (res := [.tmp 4]) hc (by kernel_rfl) (by kernel_rfl) (by decide) (by kernel_rfl) (by kernel_rfl) (by kernel_rfl) (Nat.le_of_ble_eq_true (by kernel_rfl)) _
    (fun x => Snd.seq (by kernel_rfl) (Snd.seq (by kernel_rfl) (Snd.exec hc _ _ _ _) (Snd.seq (by kernel_rfl) (Snd.block (id := 0) (by kernel_rfl) (Snd.loop' (by kernel_rfl) f180s2 (fun n x => impl_valsOk.l2 k n x.1 x.2.1 x.2.2.1 x.2.2.2.1 x.2.2.2.2) _ (fun _ => rfl) (fun n2 => Snd.exec hc _ _ _ _) (fun n x => by kernel_rfl) k)) (Snd.exec hc _ _ _ _))) (Snd.exec hc _ _ _ _))
    (fun x => by kernel_rfl)

def f181in : SS := ⟨[(0, (.ro (.list 3 (.int .i64)))), (1, (.ro (.int .i64)))], []⟩
def f181out : SS := ⟨[(0, (.h 100))], [(100, (.sl 5 (.int .u8)))]⟩
def f181s6 : SS := ⟨[(1, (.ro (.int .i64))), (5, (.h 100)), (6, (.ro (.int .i64))), (7, (.ro (.int .i64))), (17, (.ro (.list 3 (.int .i64)))), (18, (.ro (.int .i64))), (19, (.ro (.int .i64))), (24, (.ro (.int .i64))), (25, (.ro (.int .i64)))], [(100, (.sl 5 (.int .u8)))]⟩
def f181s3 : SS := ⟨[(1, (.ro (.int .i64))), (5, (.h 100)), (17, (.ro (.list 3 (.int .i64)))), (18, (.ro (.int .i64))), (19, (.ro (.int .i64)))], [(100, (.sl 5 (.int .u8)))]⟩
def f181con (F : (List Int) → Int → Option (Unit × (List Int))) : Con := ⟨f181in, f181out, 2, 1, fun x => F x.1 x.2⟩
def f181ctx (k : Nat) : Ctx := ⟨tyAt tys, conAt [], 51, fun _ => false⟩
theorem f181hc (k : Nat) : CtxOk Tryz.prog (f181ctx k) := ctxOk tys_ok mixed_ok (consOk_nil)
theorem f181ok (k : Nat) : FnOk Tryz.prog 181 (f181con (impl_packed k)) :=
  let hc := f181hc k
  fnOk (fn := Tryz.f181) (code := bodyOf Tryz.f181) (res := [.tmp 4]) hc (by kernel_rfl) (by kernel_rfl) (by decide) (by kernel_rfl) (by kernel_rfl) (by kernel_rfl) (Nat.le_of_ble_eq_true (by kernel_rfl)) _
    (fun x => Snd.seq (by kernel_rfl) (Snd.seq (by kernel_rfl) (Snd.seq (by kernel_rfl) (Snd.exec hc _ _ _ _) (Snd.seq (by kernel_rfl) (Snd.block (id := 0) (by kernel_rfl) (Snd.loop' (by kernel_rfl) f181s3 (fun n x => impl_packed.l3 k n x.1.1 x.1.2.2.1 x.1.2.2.2.1 x.1.2.2.2.2 x.2) _ (fun _ => rfl) (fun n3 => Snd.seq (by kernel_rfl) (Snd.seq (by kernel_rfl) (Snd.seq (by kernel_rfl) (Snd.exec hc _ _ _ _) (Snd.block (id := 1) (by kernel_rfl) (Snd.seq (by kernel_rfl) (Snd.seq (by kernel_rfl) (Snd.block (id := 2) (by kernel_rfl) (Snd.loop' (by kernel_rfl) f181s6 (fun n x => impl_packed.l6 k (impl_packed.l3 k n3) n x.1.1 x.1.2.2.1 x.1.2.2.2.1 x.1.2.2.2.2.1 x.1.2.2.2.2.2.1 x.1.2.2.2.2.2.2.1 x.1.2.2.2.2.2.2.2.1 x.1.2.2.2.2.2.2.2.2 x.2) _ (fun _ => rfl) (fun n6 => Snd.exec hc _ _ _ _) (fun n x => by kernel_rfl) k)) (Snd.exec hc _ _ _ _)) (Snd.exec hc _ _ _ _)))) (Snd.exec hc _ _ _ _)) (Snd.exec hc _ _ _ _)) (fun n x => by kernel_rfl) k)) (Snd.exec hc _ _ _ _))) (Snd.exec hc _ _ _ _)) (Snd.exec hc _ _ _ _))
    (fun x => by kernel_rfl)

def f182in : SS := ⟨[(0, (.ro (.list 59 (.st (.cons (.int .i64) (.cons .str .nil))))))], []⟩
def f182out : SS := ⟨[(0, (.h 100))], [(100, (.sl 3 (.int .i64)))]⟩
def f182s3 : SS := ⟨[(3, (.h 100)), (7, (.ro (.list 59 (.st (.cons (.int .i64) (.cons .str .nil)))))), (8, (.ro (.int .i64))), (9, (.ro (.int .i64)))], [(100, (.sl 3 (.int .i64)))]⟩
def f182con (F : (List TVal) → Option (Unit × (List Int))) : Con := ⟨f182in, f182out, 1, 1, fun x => F x⟩
def f182ctx (k : Nat) : Ctx := ⟨tyAt tys, conAt [], 20, fun _ => false⟩
theorem f182hc (k : Nat) : CtxOk Tryz.prog (f182ctx k) := ctxOk tys_ok mixed_ok (consOk_nil)
theorem f182ok (k : Nat) : FnOk Tryz.prog 182 (f182con (impl_numsOf k)) :=
  let hc := f182hc k
  fnOk (fn := Tryz.f182) (code := bodyOf Tryz.f182) (res := [.tmp 2]) hc (by kernel_rfl) (by kernel_rfl) (by decide) (by kernel_rfl) (by kernel_rfl) (by kernel_rfl) (Nat.le_of_ble_eq_true (by kernel_rfl)) _
    (fun x => Snd.seq (by kernel_rfl) (Snd.seq (by kernel_rfl) (Snd.seq (by kernel_rfl) (Snd.exec hc _ _ _ _) (Snd.seq (by kernel_rfl) (Snd.block (id := 0) (by kernel_rfl) (Snd.loop' (by kernel_rfl) f182s3 (fun n x => impl_numsOf.l3 k n x.1.2.1 x.1.2.2.1 x.1.2.2.2 x.2) _ (fun _ => rfl) (fun n3 => Snd.exec hc _ _ _ _) (fun n x => by kernel_rfl) k)) (Snd.exec hc _ _ _ _))) (Snd.exec hc _ _ _ _)) (Snd.exec hc _ _ _ _))
    (fun x => by kernel_rfl)

def f183in : SS := ⟨[(0, (.ro (.int .i64))), (1, (.ro (.int .i64)))], []⟩
def f183out : SS := ⟨[(0, (.h 100))], [(100, (.sl 5 (.int .u8)))]⟩
def f183s5 : SS := ⟨[(0, (.ro (.int .i64))), (5, (.h 100)), (11, (.ro (.int .i64))), (12, (.ro (.int .i64)))], [(100, (.sl 5 (.int .u8)))]⟩
def f183con (F : Int → Int → Option (Unit × (List Int))) : Con := ⟨f183in, f183out, 2, 1, fun x => F x.1 x.2⟩
def f183ctx (k : Nat) : Ctx := ⟨tyAt tys, conAt [(39, [f39con (impl_within k)])], 25, fun _ => false⟩
theorem f183hc (k : Nat) : CtxOk Tryz.prog (f183ctx k) := ctxOk tys_ok mixed_ok (consOk_cons (f39ok k) (consOk_nil))
theorem f183ok (k : Nat) : FnOk Tryz.prog 183 (f183con (impl_WordPut k)) :=
  let hc := f183hc k
  fnOk (fn := Tryz.f183) (code := bodyOf Tryz.f183) (res := [.tmp 4]) hc (by kernel_rfl) (by kernel_rfl) (by decide) (by kernel_rfl) (by kernel_rfl) (by kernel_rfl) (Nat.le_of_ble_eq_true (by kernel_rfl)) _
    (fun x => Snd.seq (by kernel_rfl) (Snd.seq (by kernel_rfl) (Snd.seq (by kernel_rfl) (Snd.seq (by kernel_rfl) (Snd.exec hc _ _ _ _) (Snd.seq (by kernel_rfl) (Snd.block (id := 0) (by kernel_rfl) (Snd.loop' (by kernel_rfl) f183s5 (fun n x => impl_WordPut.l5 k n x.1.1 x.1.2.2.1 x.1.2.2.2 x.2) _ (fun _ => rfl) (fun n5 => Snd.exec hc _ _ _ _) (fun n x => by kernel_rfl) k)) (Snd.exec hc _ _ _ _))) (Snd.exec hc _ _ _ _)) (Snd.exec hc _ _ _ _)) (Snd.exec hc _ _ _ _))
    (fun x => by kernel_rfl)

def f178in : SS := ⟨[(0, (.ro (.int .i64))), (1, (.ro (.list 59 (.st (.cons (.int .i64) (.cons .str .nil))))))], []⟩
def f178out : SS := ⟨[(0, (.h 100)), (1, (.ro .bool))], [(100, (.sl 5 (.int .u8)))]⟩
def f178s12 : SS := ⟨[(0, (.ro (.int .i64))), (6, (.h 100)), (19, (.ro (.list 59 (.st (.cons (.int .i64) (.cons .str .nil)))))), (20, (.ro (.int .i64))), (21, (.ro (.int .i64)))], [(100, (.sl 5 (.int .u8)))]⟩
def f178d10 : SS := ⟨[(0, (.ro (.int .i64))), (6, (.h 100)), (8, (.p 101)), (19, (.ro (.list 59 (.st (.cons (.int .i64) (.cons .str .nil)))))), (20, (.ro (.int .i64))), (21, (.ro (.int .i64)))], [(100, (.sl 5 (.int .u8))), (101, (.box (.st (.cons (.int .i64) (.cons .str .nil))) (.agg (.cons (.ro (.int .i64)) (.cons (.ro .str) .nil)))))]⟩
def f178d11 : SS := ⟨[(0, (.ro (.int .i64))), (6, (.h 100)), (8, (.p 101)), (19, (.ro (.list 59 (.st (.cons (.int .i64) (.cons .str .nil)))))), (20, (.ro (.int .i64))), (21, (.ro (.int .i64)))], [(100, (.sl 5 (.int .u8))), (101, (.box (.st (.cons (.int .i64) (.cons .str .nil))) (.agg (.cons (.ro (.int .i64)) (.cons (.ro .str) .nil)))))]⟩
def f178s7 : SS := ⟨[(0, (.ro (.int .i64))), (6, (.h 100)), (19, (.ro (.list 59 (.st (.cons (.int .i64) (.cons .str .nil)))))), (20, (.ro (.int .i64))), (21, (.ro (.int .i64)))], [(100, (.sl 5 (.int .u8)))]⟩
def f178con (F : Int → (List TVal) → Option ((Unit × Bool) × (List Int))) : Con := ⟨f178in, f178out, 2, 2, fun x => F x.1 x.2⟩
def f178ctx (k : Nat) : Ctx := ⟨tyAt tys, conAt [(90, [f90con (impl_wideOf k)]), (180, [f180con (impl_valsOk k)]), (181, [f181con (impl_packed k)]), (182, [f182con (impl_numsOf k)]), (183, [f183con (impl_WordPut k)])], 45, fun _ => false⟩
theorem f178hc (k : Nat) : CtxOk Tryz.prog (f178ctx k) := ctxOk tys_ok mixed_ok (consOk_cons (f90ok k) (consOk_cons (f180ok k) (consOk_cons (f181ok k) (consOk_cons (f182ok k) (consOk_cons (f183ok k) (consOk_nil))))))
theorem f178ok (k : Nat) : FnOk Tryz.prog 178 (f178con (impl_PlainPack k)) :=
  let hc := f178hc k
  fnOk (fn := Tryz.f178) (code := bodyOf Tryz.f178) (res := [.tmp 4, .tmp 5]) hc (by kernel_rfl) (by kernel_rfl) (by decide) (by kernel_rfl) (by kernel_rfl) (by kernel_rfl) (Nat.le_of_ble_eq_true (by kernel_rfl)) _
    (fun x => Snd.seq (by kernel_rfl) (Snd.seq (by kernel_rfl) (Snd.seq (by kernel_rfl) (Snd.seq (by kernel_rfl) (Snd.seq (by kernel_rfl) (Snd.exec hc _ _ _ _) (Snd.seq (by kernel_rfl) (Snd.block (id := 0) (by kernel_rfl) (Snd.loop' (by kernel_rfl) f178s7 (fun n x => impl_PlainPack.l7 k n x.1.1 x.1.2.2.1 x.1.2.2.2.1 x.1.2.2.2.2 x.2) _ (fun _ => rfl) (fun n7 => Snd.seq (by kernel_rfl) (Snd.seq (by kernel_rfl) (Snd.seq (by kernel_rfl) (Snd.cut (Snd.exec hc _ _ _ _) ⟨f178s12, fun x => impl_PlainPack.c12 k (impl_PlainPack.l7 k n7) x.1.1 x.1.2.2.1 x.1.2.2.2.1 x.1.2.2.2.2 x.2⟩ (fun x => by kernel_rfl)) (Snd.block (id := 1) (by kernel_rfl) (Snd.seq (by kernel_rfl) (Snd.seq (by kernel_rfl) (Snd.cond (x := .tmp 26) (by kernel_rfl) (Snd.fork hc (id := 10) (by kernel_rfl) ⟨f178d10, fun x => impl_PlainPack.d10 k (impl_PlainPack.l7 k n7) x.1.1 x.1.2.2.2.1 x.1.2.2.2.2.1 x.1.2.2.2.2.2 x.2.1 x.2.2⟩ [[0, 1, 6, 2, 3, 4, 5, 7, 8, 9], [0, 1, 6, 2, 3, 4, 7, 5, 8, 9], [0, 1, 6, 2, 3, 7, 4, 5, 8, 9], [0, 1, 6, 7, 2, 3, 4, 5, 8, 9]] (by kernel_rfl) (ords_cons (fun x => by kernel_rfl) (ords_cons (fun x => by kernel_rfl) (ords_cons (fun x => by kernel_rfl) (ords_cons (fun x => by kernel_rfl) (ords_nil)))))) (Snd.fork hc (id := 11) (by kernel_rfl) ⟨f178d11, fun x => impl_PlainPack.d11 k (impl_PlainPack.l7 k n7) x.1.1 x.1.2.2.2.1 x.1.2.2.2.2.1 x.1.2.2.2.2.2 x.2.1 x.2.2⟩ [[0, 1, 3, 2, 4, 5, 6, 7], [0, 1, 3, 4, 2, 5, 6, 7]] (by kernel_rfl) (ords_cons (fun x => by kernel_rfl) (ords_cons (fun x => by kernel_rfl) (ords_nil))))) (Snd.exec hc _ _ _ _)) (Snd.exec hc _ _ _ _)))) (Snd.exec hc _ _ _ _)) (Snd.exec hc _ _ _ _)) (fun n x => by kernel_rfl) k)) (Snd.exec hc _ _ _ _))) (Snd.exec hc _ _ _ _)) (Snd.exec hc _ _ _ _)) (Snd.exec hc _ _ _ _)) (Snd.exec hc _ _ _ _))
    (fun x => by kernel_rfl)

def f173in : SS := ⟨[(0, (.ro (.int .i64))), (1, (.ro (.st (.cons (.int .i64) (.cons .str .nil)))))], []⟩
def f173out : SS := ⟨[(0, (.ro .str))], []⟩
def f173con (F : Int → TVal → Option ByteArray) : Con := ⟨f173in, f173out, 2, 1, fun x => F x.1 x.2⟩
def f173ctx (k : Nat) : Ctx := ⟨tyAt tys, conAt [(178, [f178con (impl_PlainPack k)])], 20, fun _ => false⟩
theorem f173hc (k : Nat) : CtxOk Tryz.prog (f173ctx k) := ctxOk tys_ok mixed_ok (consOk_cons (f178ok k) (consOk_nil))
theorem f173ok (k : Nat) : FnOk Tryz.prog 173 (f173con (impl_statText k)) :=
  let hc := f173hc k
  fnOk (fn := Tryz.f173) (code := bodyOf Tryz.f173) (res := [.tmp 4]) hc (by kernel_rfl) (by kernel_rfl) (by decide) (by kernel_rfl) (by kernel_rfl) (by kernel_rfl) (Nat.le_of_ble_eq_true (by kernel_rfl)) _
    (fun x => Snd.exec hc _ _ _ _)
    (fun x => by kernel_rfl)

def f160in : SS := ⟨[(0, (.ro (.int .i64))), (1, (.ro .str))], []⟩
def f160out : SS := ⟨[(0, (.agg (.cons (.ro (.int .i64)) (.cons (.ro .str) .nil)))), (1, (.ro .bool))], []⟩
def f160con (F : Int → ByteArray → Option (TVal × Bool)) : Con := ⟨f160in, f160out, 2, 2, fun x => F x.1 x.2⟩
def f160ctx (k : Nat) : Ctx := ⟨tyAt tys, conAt [(33, [f33con (impl_PlainRead k)]), (172, [f172con (impl_ValOk k)]), (173, [f173con (impl_statText k)])], 46, fun _ => false⟩
theorem f160hc (k : Nat) : CtxOk Tryz.prog (f160ctx k) := ctxOk tys_ok mixed_ok (consOk_cons (f33ok k) (consOk_cons (f172ok k) (consOk_cons (f173ok k) (consOk_nil))))
theorem f160ok (k : Nat) : FnOk Tryz.prog 160 (f160con (impl_valueOf k)) :=
  let hc := f160hc k
  fnOk (fn := Tryz.f160) (code := bodyOf Tryz.f160) (res := [.cell 4 59, .tmp 5]) hc (by kernel_rfl) (by kernel_rfl) (by decide) (by kernel_rfl) (by kernel_rfl) (by kernel_rfl) (Nat.le_of_ble_eq_true (by kernel_rfl)) _
    (fun x => Snd.exec hc _ _ _ _)
    (fun x => by kernel_rfl)

def f179in : SS := ⟨[(0, (.ro (.int .i64)))], []⟩
def f179out : SS := ⟨[(0, (.ro (.int .i64)))], []⟩
def f179con (F : Int → Option Int) : Con := ⟨f179in, f179out, 1, 1, fun x => F x⟩
def f179ctx (k : Nat) : Ctx := ⟨tyAt tys, conAt [], 8, fun _ => false⟩
theorem f179hc (k : Nat) : CtxOk Tryz.prog (f179ctx k) := ctxOk tys_ok mixed_ok (consOk_nil)
theorem f179ok (k : Nat) : FnOk Tryz.prog 179 (f179con (impl_FloatKey k)) :=
  let hc := f179hc k
  fnOk (fn := Tryz.f179) (code := bodyOf Tryz.f179) (res := [.tmp 2]) hc (by kernel_rfl) (by kernel_rfl) (by decide) (by kernel_rfl) (by kernel_rfl) (by kernel_rfl) (Nat.le_of_ble_eq_true (by kernel_rfl)) _
    (fun x => Snd.exec hc _ _ _ _)
    (fun x => by kernel_rfl)

def f174in : SS := ⟨[(0, (.ro (.int .i64))), (1, (.ro (.st (.cons (.int .i64) (.cons .str .nil))))), (2, (.ro (.st (.cons (.int .i64) (.cons .str .nil)))))], []⟩
def f174out : SS := ⟨[(0, (.ro .bool))], []⟩
def f174d5 : SS := ⟨[(4, (.p 100)), (5, (.p 101))], [(100, (.box (.st (.cons (.int .i64) (.cons .str .nil))) (.agg (.cons (.ro (.int .i64)) (.cons (.ro .str) .nil))))), (101, (.box (.st (.cons (.int .i64) (.cons .str .nil))) (.agg (.cons (.ro (.int .i64)) (.cons (.ro .str) .nil)))))]⟩
def f174con (F : Int → TVal → TVal → Option Bool) : Con := ⟨f174in, f174out, 3, 1, fun x => F x.1 x.2.1 x.2.2⟩
def f174ctx (k : Nat) : Ctx := ⟨tyAt tys, conAt [(172, [f172con (impl_ValOk k)]), (179, [f179con (impl_FloatKey k)])], 39, fun _ => false⟩
theorem f174hc (k : Nat) : CtxOk Tryz.prog (f174ctx k) := ctxOk tys_ok mixed_ok (consOk_cons (f172ok k) (consOk_cons (f179ok k) (consOk_nil)))
theorem f174ok (k : Nat) : FnOk Tryz.prog 174 (f174con (impl_ValLess k)) :=
  let hc := f174hc k
  fnOk (fn := Tryz.f174) (code := bodyOf Tryz.f174) (res := [.tmp 6]) hc (by kernel_rfl) (by kernel_rfl) (by decide) (by kernel_rfl) (by kernel_rfl) (by kernel_rfl) (Nat.le_of_ble_eq_true (by kernel_rfl)) _
    (fun x => Snd.seq (by kernel_rfl) (Snd.seq (by kernel_rfl) (Snd.seq (by kernel_rfl) (Snd.exec hc _ _ _ _) (Snd.seq (by kernel_rfl) (Snd.block (id := 0) (by kernel_rfl) (Snd.seq (by kernel_rfl) (Snd.cond (x := .tmp 18) (by kernel_rfl) (Snd.seq (by kernel_rfl) (Snd.exec hc _ _ _ _) (Snd.fork hc (id := 5) (by kernel_rfl) ⟨f174d5, fun x => impl_ValLess.d5 k x.2.1 x.2.2⟩ [[0, 3, 1, 2, 4, 5, 6, 7], [0, 3, 1, 4, 2, 5, 6, 7], [0, 3, 4, 1, 2, 5, 6, 7]] (by kernel_rfl) (ords_cons (fun x => by kernel_rfl) (ords_cons (fun x => by kernel_rfl) (ords_cons (fun x => by kernel_rfl) (ords_nil)))))) (Snd.exec hc _ _ _ _)) (Snd.exec hc _ _ _ _))) (Snd.exec hc _ _ _ _))) (Snd.exec hc _ _ _ _)) (Snd.exec hc _ _ _ _))
    (fun x => by kernel_rfl)

def f161in : SS := ⟨[(0, (.ro (.st (.cons (.int .i64) (.cons (.int .i64) (.cons (.int .i64) .nil)))))), (1, (.ro (.st (.cons (.int .i64) (.cons .bool (.cons (.st (.cons (.int .i64) (.cons .str .nil))) (.cons (.st (.cons (.int .i64) (.cons .str .nil))) .nil)))))))], []⟩
def f161out : SS := ⟨[(0, (.ro .bool))], []⟩
def f161con (F : TLeaf → TStats → Option Bool) : Con := ⟨f161in, f161out, 2, 1, fun x => F x.1 x.2⟩
def f161ctx (k : Nat) : Ctx := ⟨tyAt tys, conAt [(39, [f39con (impl_within k)]), (73, [f73con (impl_LeafOk k)]), (172, [f172con (impl_ValOk k)]), (174, [f174con (impl_ValLess k)])], 49, fun _ => false⟩
theorem f161hc (k : Nat) : CtxOk Tryz.prog (f161ctx k) := ctxOk tys_ok mixed_ok (consOk_cons (f39ok k) (consOk_cons (f73ok k) (consOk_cons (f172ok k) (consOk_cons (f174ok k) (consOk_nil)))))
theorem f161ok (k : Nat) : FnOk Tryz.prog 161 (f161con (impl_statsOk k)) :=
  let hc := f161hc k
  fnOk (fn := Tryz.f161) (code := bodyOf Tryz.f161) (res := [.tmp 4]) hc (by kernel_rfl) (by kernel_rfl) (by decide) (by kernel_rfl) (by kernel_rfl) (by kernel_rfl) (Nat.le_of_ble_eq_true (by kernel_rfl)) _
    (fun x => Snd.exec hc _ _ _ _)
    (fun x => by kernel_rfl)

def f140in : SS := ⟨[(0, (.p 0)), (1, (.ro (.st (.cons (.int .i64) (.cons (.int .i64) (.cons (.int .i64) .nil)))))), (2, (.ro (.int .i64)))], [(0, (.obox (.st (.cons (.list 91 (.st (.cons (.int .i64) (.cons (.int .i64) (.cons (.int .i64) (.cons .str (.cons (.int .i64) .nil))))))) (.cons (.list 3 (.int .i64)) .nil))) (.agg (.cons (.ro (.list 91 (.st (.cons (.int .i64) (.cons (.int .i64) (.cons (.int .i64) (.cons .str (.cons (.int .i64) .nil)))))))) (.cons (.h 10) .nil))))), (10, (.sl 3 (.int .i64)))]⟩
def f140out : SS := ⟨[(0, (.agg (.cons (.ro (.int .i64)) (.cons (.ro .bool) (.cons (.agg (.cons (.ro (.int .i64)) (.cons (.ro .str) .nil))) (.cons (.agg (.cons (.ro (.int .i64)) (.cons (.ro .str) .nil))) .nil)))))), (1, (.ro .bool))], [(0, (.box (.st (.cons (.list 91 (.st (.cons (.int .i64) (.cons (.int .i64) (.cons (.int .i64) (.cons .str (.cons (.int .i64) .nil))))))) (.cons (.list 3 (.int .i64)) .nil))) (.agg (.cons (.ro (.list 91 (.st (.cons (.int .i64) (.cons (.int .i64) (.cons (.int .i64) (.cons .str (.cons (.int .i64) .nil)))))))) (.cons (.h 10) .nil))))), (10, (.sl 3 (.int .i64)))]⟩
def f140s13 : SS := ⟨[(4, (.p 100)), (6, (.p 101)), (10, (.p 102))], [(0, (.box (.st (.cons (.list 91 (.st (.cons (.int .i64) (.cons (.int .i64) (.cons (.int .i64) (.cons .str (.cons (.int .i64) .nil))))))) (.cons (.list 3 (.int .i64)) .nil))) (.agg (.cons (.ro (.list 91 (.st (.cons (.int .i64) (.cons (.int .i64) (.cons (.int .i64) (.cons .str (.cons (.int .i64) .nil)))))))) (.cons (.h 10) .nil))))), (10, (.sl 3 (.int .i64))), (100, (.box (.st (.cons (.int .i64) (.cons (.int .i64) (.cons (.int .i64) .nil)))) (.agg (.cons (.ro (.int .i64)) (.cons (.ro (.int .i64)) (.cons (.ro (.int .i64)) .nil)))))), (101, (.box (.st (.cons (.int .i64) (.cons .bool (.cons (.st (.cons (.int .i64) (.cons .str .nil))) (.cons (.st (.cons (.int .i64) (.cons .str .nil))) .nil))))) (.agg (.cons (.ro (.int .i64)) (.cons (.ro .bool) (.cons (.agg (.cons (.ro (.int .i64)) (.cons (.ro .str) .nil))) (.cons (.agg (.cons (.ro (.int .i64)) (.cons (.ro .str) .nil))) .nil))))))), (102, (.box (.st (.cons (.int .i64) (.cons .bool (.cons (.st (.cons (.int .i64) (.cons .str .nil))) (.cons (.st (.cons (.int .i64) (.cons .str .nil))) .nil))))) (.agg (.cons (.ro (.int .i64)) (.cons (.ro .bool) (.cons (.agg (.cons (.ro (.int .i64)) (.cons (.ro .str) .nil))) (.cons (.agg (.cons (.ro (.int .i64)) (.cons (.ro .str) .nil))) .nil)))))))]⟩
def f140d12 : SS := ⟨[(4, (.p 100)), (6, (.p 101)), (10, (.p 102)), (15, (.p 103)), (17, (.p 104))], [(0, (.box (.st (.cons (.list 91 (.st (.cons (.int .i64) (.cons (.int .i64) (.cons (.int .i64) (.cons .str (.cons (.int .i64) .nil))))))) (.cons (.list 3 (.int .i64)) .nil))) (.agg (.cons (.ro (.list 91 (.st (.cons (.int .i64) (.cons (.int .i64) (.cons (.int .i64) (.cons .str (.cons (.int .i64) .nil)))))))) (.cons (.h 10) .nil))))), (10, (.sl 3 (.int .i64))), (100, (.box (.st (.cons (.int .i64) (.cons (.int .i64) (.cons (.int .i64) .nil)))) (.agg (.cons (.ro (.int .i64)) (.cons (.ro (.int .i64)) (.cons (.ro (.int .i64)) .nil)))))), (101, (.box (.st (.cons (.int .i64) (.cons .bool (.cons (.st (.cons (.int .i64) (.cons .str .nil))) (.cons (.st (.cons (.int .i64) (.cons .str .nil))) .nil))))) (.agg (.cons (.ro (.int .i64)) (.cons (.ro .bool) (.cons (.agg (.cons (.ro (.int .i64)) (.cons (.ro .str) .nil))) (.cons (.agg (.cons (.ro (.int .i64)) (.cons (.ro .str) .nil))) .nil))))))), (102, (.box (.st (.cons (.int .i64) (.cons .bool (.cons (.st (.cons (.int .i64) (.cons .str .nil))) (.cons (.st (.cons (.int .i64) (.cons .str .nil))) .nil))))) (.agg (.cons (.ro (.int .i64)) (.cons (.ro .bool) (.cons (.agg (.cons (.ro (.int .i64)) (.cons (.ro .str) .nil))) (.cons (.agg (.cons (.ro (.int .i64)) (.cons (.ro .str) .nil))) .nil))))))), (103, (.box (.st (.cons (.int .i64) (.cons .str .nil))) (.agg (.cons (.ro (.int .i64)) (.cons (.ro .str) .nil))))), (104, (.box (.st (.cons (.int .i64) (.cons .str .nil))) (.agg (.cons (.ro (.int .i64)) (.cons (.ro .str) .nil)))))]⟩
def f140con (F : TLeaf → Int → (Bool × TTreeB) → (List Int) → Option ((TStats × Bool) × TTreeB × (List Int))) : Con := ⟨f140in, f140out, 3, 2, fun x => F x.1.2.1 x.1.2.2 x.2.1 x.2.2⟩
def f140ctx (k : Nat) : Ctx := ⟨tyAt tys, conAt [(73, [f73con (impl_LeafOk k)]), (76, [f76con (impl_tree_part k)]), (77, [f77con (impl_tree_find k)]), (106, [f106con (impl_tree_num k)]), (160, [f160con (impl_valueOf k)]), (161, [f161con (impl_statsOk k)])], 99, fun s => Nat.beq s 39⟩
theorem f140hc (k : Nat) : CtxOk Tryz.prog (f140ctx k) := ctxOk tys_ok mixed_ok (consOk_cons (f73ok k) (consOk_cons (f76ok k) (consOk_cons (f77ok k) (consOk_cons (f106ok k) (consOk_cons (f160ok k) (consOk_cons (f161ok k) (consOk_nil)))))))
theorem f140ok (k : Nat) : FnOk Tryz.prog 140 (f140con (impl_tree_stats k)) :=
  let hc := f140hc k
  fnOk (fn := Tryz.f140) (code := bodyOf Tryz.f140) (res := [.cell 6 61, .tmp 7]) hc (by kernel_rfl) (by kernel_rfl) (by decide) (by kernel_rfl) (by kernel_rfl) (by kernel_rfl) (Nat.le_of_ble_eq_true (by kernel_rfl)) _
    (fun x => Snd.seq (by kernel_rfl) (Snd.seq (by kernel_rfl) (Snd.seq (by kernel_rfl) (Snd.seq (by kernel_rfl) (Snd.seq (by kernel_rfl) (Snd.cut (Snd.exec hc _ _ _ _) ⟨f140s13, fun x => impl_tree_stats.c13 k x.2.1 x.2.2.1 x.2.2.2.1 x.2.2.2.2.1 x.2.2.2.2.2⟩ (fun x => by kernel_rfl)) (Snd.seq (by kernel_rfl) (Snd.cond (x := .tmp 44) (by kernel_rfl) (Snd.seq (by kernel_rfl) (Snd.seq (by kernel_rfl) (Snd.seq (by kernel_rfl) (Snd.seq (by kernel_rfl) (Snd.seq (by kernel_rfl) (Snd.fork hc (id := 12) (by kernel_rfl) ⟨f140d12, fun x => impl_tree_stats.d12 k x.2.1 x.2.2.1 x.2.2.2.1 x.2.2.2.2.1 x.2.2.2.2.2.1 x.2.2.2.2.2.2.1 x.2.2.2.2.2.2.2⟩ [[2, 0, 1, 3, 4, 5, 6, 7], [2, 0, 3, 4, 1, 5, 6, 7], [2, 0, 3, 4, 5, 1, 6, 7], [2, 1, 0, 3, 4, 5, 6, 7], [2, 1, 3, 0, 4, 5, 6, 7], [2, 3, 0, 4, 1, 5, 6, 7], [2, 3, 0, 4, 5, 1, 6, 7]] (by kernel_rfl) (ords_cons (fun x => by kernel_rfl) (ords_cons (fun x => by kernel_rfl) (ords_cons (fun x => by kernel_rfl) (ords_cons (fun x => by kernel_rfl) (ords_cons (fun x => by kernel_rfl) (ords_cons (fun x => by kernel_rfl) (ords_cons (fun x => by kernel_rfl) (ords_nil))))))))) (Snd.exec hc _ _ _ _)) (Snd.exec hc _ _ _ _)) (Snd.exec hc _ _ _ _)) (Snd.exec hc _ _ _ _)) (Snd.exec hc _ _ _ _)) (Snd.exec hc _ _ _ _)) (Snd.exec hc _ _ _ _))) (Snd.exec hc _ _ _ _)) (Snd.exec hc _ _ _ _)) (Snd.exec hc _ _ _ _)) (Snd.exec hc _ _ _ _))
    (fun x => by kernel_rfl)

def f108i5in : SS := ⟨[(0, (.p 0)), (1, (.ro (.st (.cons (.int .i64) (.cons (.int .i64) (.cons (.int .i64) .nil)))))), (2, (.ro (.int .i64))), (3, (.p 3))], [(0, (.box (.st (.cons .ptr (.cons (.int .i64) (.cons .bool .nil)))) (.agg (.cons (.p 10) (.cons (.ro (.int .i64)) (.cons (.ro .bool) .nil)))))), (3, (.box (.st (.cons (.int .i64) (.cons (.int .i64) (.cons (.int .i64) (.cons (.int .i64) (.cons (.int .i64) (.cons (.int .i64) (.cons (.int .i64) (.cons (.int .i64) (.cons .bool (.cons (.int .i64) (.cons .bool (.cons (.st (.cons (.int .i64) (.cons .bool (.cons (.st (.cons (.int .i64) (.cons .str .nil))) (.cons (.st (.cons (.int .i64) (.cons .str .nil))) .nil))))) (.cons (.int .i64) .nil)))))))))))))) (.agg (.cons (.ro (.int .i64)) (.cons (.ro (.int .i64)) (.cons (.ro (.int .i64)) (.cons (.ro (.int .i64)) (.cons (.ro (.int .i64)) (.cons (.ro (.int .i64)) (.cons (.ro (.int .i64)) (.cons (.ro (.int .i64)) (.cons (.ro .bool) (.cons (.ro (.int .i64)) (.cons (.ro .bool) (.cons (.agg (.cons (.ro (.int .i64)) (.cons (.ro .bool) (.cons (.agg (.cons (.ro (.int .i64)) (.cons (.ro .str) .nil))) (.cons (.agg (.cons (.ro (.int .i64)) (.cons (.ro .str) .nil))) .nil))))) (.cons (.ro (.int .i64)) .nil)))))))))))))))), (10, (.box (.st (.cons (.list 91 (.st (.cons (.int .i64) (.cons (.int .i64) (.cons (.int .i64) (.cons .str (.cons (.int .i64) .nil))))))) (.cons (.list 3 (.int .i64)) .nil))) (.agg (.cons (.ro (.list 91 (.st (.cons (.int .i64) (.cons (.int .i64) (.cons (.int .i64) (.cons .str (.cons (.int .i64) .nil)))))))) (.cons (.h 11) .nil))))), (11, (.sl 3 (.int .i64)))]⟩
def f108i5out : SS := ⟨[], [(0, (.box (.st (.cons .ptr (.cons (.int .i64) (.cons .bool .nil)))) (.agg (.cons (.p 10) (.cons (.ro (.int .i64)) (.cons (.ro .bool) .nil)))))), (3, (.box (.st (.cons (.int .i64) (.cons (.int .i64) (.cons (.int .i64) (.cons (.int .i64) (.cons (.int .i64) (.cons (.int .i64) (.cons (.int .i64) (.cons (.int .i64) (.cons .bool (.cons (.int .i64) (.cons .bool (.cons (.st (.cons (.int .i64) (.cons .bool (.cons (.st (.cons (.int .i64) (.cons .str .nil))) (.cons (.st (.cons (.int .i64) (.cons .str .nil))) .nil))))) (.cons (.int .i64) .nil)))))))))))))) (.agg (.cons (.ro (.int .i64)) (.cons (.ro (.int .i64)) (.cons (.ro (.int .i64)) (.cons (.ro (.int .i64)) (.cons (.ro (.int .i64)) (.cons (.ro (.int .i64)) (.cons (.ro (.int .i64)) (.cons (.ro (.int .i64)) (.cons (.ro .bool) (.cons (.ro (.int .i64)) (.cons (.ro .bool) (.cons (.agg (.cons (.ro (.int .i64)) (.cons (.ro .bool) (.cons (.agg (.cons (.ro (.int .i64)) (.cons (.ro .str) .nil))) (.cons (.agg (.cons (.ro (.int .i64)) (.cons (.ro .str) .nil))) .nil))))) (.cons (.ro (.int .i64)) .nil)))))))))))))))), (10, (.box (.st (.cons (.list 91 (.st (.cons (.int .i64) (.cons (.int .i64) (.cons (.int .i64) (.cons .str (.cons (.int .i64) .nil))))))) (.cons (.list 3 (.int .i64)) .nil))) (.agg (.cons (.ro (.list 91 (.st (.cons (.int .i64) (.cons (.int .i64) (.cons (.int .i64) (.cons .str (.cons (.int .i64) .nil)))))))) (.cons (.h 11) .nil))))), (11, (.sl 3 (.int .i64)))]⟩
def f108i5con (F : TLeaf → Int → THeadReader → THead → TTreeB → (List Int) → Option (Unit × THeadReader × THead × TTreeB × (List Int))) : Con := ⟨f108i5in, f108i5out, 4, 0, fun x => F x.1.2.1 x.1.2.2.1 x.2.1 x.2.2.1 x.2.2.2.1 x.2.2.2.2⟩
def f108i5ctx (k : Nat) : Ctx := ⟨tyAt tys, conAt [(77, [f77con (impl_tree_find k)]), (140, [f140con (impl_tree_stats k)])], 37, fun _ => false⟩
theorem f108i5hc (k : Nat) : CtxOk Tryz.prog (f108i5ctx k) := ctxOk tys_ok mixed_ok (consOk_cons (f77ok k) (consOk_cons (f140ok k) (consOk_nil)))
theorem f108i5ok (k : Nat) : FnOk Tryz.prog 108 (f108i5con (impl_headReader_statistics k)) :=
  let hc := f108i5hc k
  fnOk (fn := Tryz.f108) (code := bodyOf Tryz.f108) (res := []) hc (by kernel_rfl) (by kernel_rfl) (by decide) (by kernel_rfl) (by kernel_rfl) (by kernel_rfl) (Nat.le_of_ble_eq_true (by kernel_rfl)) _
    (fun x => Snd.exec hc _ _ _ _)
    (fun x => by kernel_rfl)

def f78i3in : SS := ⟨[(0, (.p 0)), (1, (.ro (.st (.cons (.int .i64) (.cons (.int .i64) (.cons (.int .i64) .nil)))))), (2, (.p 2))], [(0, (.box (.st (.cons .ptr (.cons (.int .i64) (.cons .bool .nil)))) (.agg (.cons (.p 10) (.cons (.ro (.int .i64)) (.cons (.ro .bool) .nil)))))), (2, (.box (.st (.cons (.int .i64) (.cons (.int .i64) (.cons (.int .i64) (.cons (.int .i64) (.cons (.int .i64) (.cons (.int .i64) (.cons (.int .i64) (.cons (.int .i64) (.cons .bool (.cons (.int .i64) (.cons .bool (.cons (.st (.cons (.int .i64) (.cons .bool (.cons (.st (.cons (.int .i64) (.cons .str .nil))) (.cons (.st (.cons (.int .i64) (.cons .str .nil))) .nil))))) (.cons (.int .i64) .nil)))))))))))))) (.agg (.cons (.ro (.int .i64)) (.cons (.ro (.int .i64)) (.cons (.ro (.int .i64)) (.cons (.ro (.int .i64)) (.cons (.ro (.int .i64)) (.cons (.ro (.int .i64)) (.cons (.ro (.int .i64)) (.cons (.ro (.int .i64)) (.cons (.ro .bool) (.cons (.ro (.int .i64)) (.cons (.ro .bool) (.cons (.agg (.cons (.ro (.int .i64)) (.cons (.ro .bool) (.cons (.agg (.cons (.ro (.int .i64)) (.cons (.ro .str) .nil))) (.cons (.agg (.cons (.ro (.int .i64)) (.cons (.ro .str) .nil))) .nil))))) (.cons (.ro (.int .i64)) .nil)))))))))))))))), (10, (.box (.st (.cons (.list 91 (.st (.cons (.int .i64) (.cons (.int .i64) (.cons (.int .i64) (.cons .str (.cons (.int .i64) .nil))))))) (.cons (.list 3 (.int .i64)) .nil))) (.agg (.cons (.ro (.list 91 (.st (.cons (.int .i64) (.cons (.int .i64) (.cons (.int .i64) (.cons .str (.cons (.int .i64) .nil)))))))) (.cons (.h 11) .nil))))), (11, (.sl 3 (.int .i64)))]⟩
def f78i3out : SS := ⟨[], [(0, (.box (.st (.cons .ptr (.cons (.int .i64) (.cons .bool .nil)))) (.agg (.cons (.p 10) (.cons (.ro (.int .i64)) (.cons (.ro .bool) .nil)))))), (2, (.box (.st (.cons (.int .i64) (.cons (.int .i64) (.cons (.int .i64) (.cons (.int .i64) (.cons (.int .i64) (.cons (.int .i64) (.cons (.int .i64) (.cons (.int .i64) (.cons .bool (.cons (.int .i64) (.cons .bool (.cons (.st (.cons (.int .i64) (.cons .bool (.cons (.st (.cons (.int .i64) (.cons .str .nil))) (.cons (.st (.cons (.int .i64) (.cons .str .nil))) .nil))))) (.cons (.int .i64) .nil)))))))))))))) (.agg (.cons (.ro (.int .i64)) (.cons (.ro (.int .i64)) (.cons (.ro (.int .i64)) (.cons (.ro (.int .i64)) (.cons (.ro (.int .i64)) (.cons (.ro (.int .i64)) (.cons (.ro (.int .i64)) (.cons (.ro (.int .i64)) (.cons (.ro .bool) (.cons (.ro (.int .i64)) (.cons (.ro .bool) (.cons (.agg (.cons (.ro (.int .i64)) (.cons (.ro .bool) (.cons (.agg (.cons (.ro (.int .i64)) (.cons (.ro .str) .nil))) (.cons (.agg (.cons (.ro (.int .i64)) (.cons (.ro .str) .nil))) .nil))))) (.cons (.ro (.int .i64)) .nil)))))))))))))))), (10, (.box (.st (.cons (.list 91 (.st (.cons (.int .i64) (.cons (.int .i64) (.cons (.int .i64) (.cons .str (.cons (.int .i64) .nil))))))) (.cons (.list 3 (.int .i64)) .nil))) (.agg (.cons (.ro (.list 91 (.st (.cons (.int .i64) (.cons (.int .i64) (.cons (.int .i64) (.cons .str (.cons (.int .i64) .nil)))))))) (.cons (.h 11) .nil))))), (11, (.sl 3 (.int .i64)))]⟩
def f78i3s23 : SS := ⟨[(0, (.p 0)), (2, (.p 2))], [(0, (.box (.st (.cons .ptr (.cons (.int .i64) (.cons .bool .nil)))) (.agg (.cons (.p 10) (.cons (.ro (.int .i64)) (.cons (.ro .bool) .nil)))))), (2, (.box (.st (.cons (.int .i64) (.cons (.int .i64) (.cons (.int .i64) (.cons (.int .i64) (.cons (.int .i64) (.cons (.int .i64) (.cons (.int .i64) (.cons (.int .i64) (.cons .bool (.cons (.int .i64) (.cons .bool (.cons (.st (.cons (.int .i64) (.cons .bool (.cons (.st (.cons (.int .i64) (.cons .str .nil))) (.cons (.st (.cons (.int .i64) (.cons .str .nil))) .nil))))) (.cons (.int .i64) .nil)))))))))))))) (.agg (.cons (.ro (.int .i64)) (.cons (.ro (.int .i64)) (.cons (.ro (.int .i64)) (.cons (.ro (.int .i64)) (.cons (.ro (.int .i64)) (.cons (.ro (.int .i64)) (.cons (.ro (.int .i64)) (.cons (.ro (.int .i64)) (.cons (.ro .bool) (.cons (.ro (.int .i64)) (.cons (.ro .bool) (.cons (.agg (.cons (.ro (.int .i64)) (.cons (.ro .bool) (.cons (.agg (.cons (.ro (.int .i64)) (.cons (.ro .str) .nil))) (.cons (.agg (.cons (.ro (.int .i64)) (.cons (.ro .str) .nil))) .nil))))) (.cons (.ro (.int .i64)) .nil)))))))))))))))), (10, (.box (.st (.cons (.list 91 (.st (.cons (.int .i64) (.cons (.int .i64) (.cons (.int .i64) (.cons .str (.cons (.int .i64) .nil))))))) (.cons (.list 3 (.int .i64)) .nil))) (.agg (.cons (.ro (.list 91 (.st (.cons (.int .i64) (.cons (.int .i64) (.cons (.int .i64) (.cons .str (.cons (.int .i64) .nil)))))))) (.cons (.h 11) .nil))))), (11, (.sl 3 (.int .i64)))]⟩
def f78i3s8 : SS := ⟨[(0, (.p 0)), (2, (.p 2)), (4, (.p 100))], [(0, (.box (.st (.cons .ptr (.cons (.int .i64) (.cons .bool .nil)))) (.agg (.cons (.p 10) (.cons (.ro (.int .i64)) (.cons (.ro .bool) .nil)))))), (2, (.box (.st (.cons (.int .i64) (.cons (.int .i64) (.cons (.int .i64) (.cons (.int .i64) (.cons (.int .i64) (.cons (.int .i64) (.cons (.int .i64) (.cons (.int .i64) (.cons .bool (.cons (.int .i64) (.cons .bool (.cons (.st (.cons (.int .i64) (.cons .bool (.cons (.st (.cons (.int .i64) (.cons .str .nil))) (.cons (.st (.cons (.int .i64) (.cons .str .nil))) .nil))))) (.cons (.int .i64) .nil)))))))))))))) (.agg (.cons (.ro (.int .i64)) (.cons (.ro (.int .i64)) (.cons (.ro (.int .i64)) (.cons (.ro (.int .i64)) (.cons (.ro (.int .i64)) (.cons (.ro (.int .i64)) (.cons (.ro (.int .i64)) (.cons (.ro (.int .i64)) (.cons (.ro .bool) (.cons (.ro (.int .i64)) (.cons (.ro .bool) (.cons (.agg (.cons (.ro (.int .i64)) (.cons (.ro .bool) (.cons (.agg (.cons (.ro (.int .i64)) (.cons (.ro .str) .nil))) (.cons (.agg (.cons (.ro (.int .i64)) (.cons (.ro .str) .nil))) .nil))))) (.cons (.ro (.int .i64)) .nil)))))))))))))))), (10, (.box (.st (.cons (.list 91 (.st (.cons (.int .i64) (.cons (.int .i64) (.cons (.int .i64) (.cons .str (.cons (.int .i64) .nil))))))) (.cons (.list 3 (.int .i64)) .nil))) (.agg (.cons (.ro (.list 91 (.st (.cons (.int .i64) (.cons (.int .i64) (.cons (.int .i64) (.cons .str (.cons (.int .i64) .nil)))))))) (.cons (.h 11) .nil))))), (11, (.sl 3 (.int .i64))), (100, (.box (.st (.cons (.int .i64) (.cons (.int .i64) (.cons (.int .i64) .nil)))) (.agg (.cons (.ro (.int .i64)) (.cons (.ro (.int .i64)) (.cons (.ro (.int .i64)) .nil))))))]⟩
def f78i3s19 : SS := ⟨[(0, (.p 0)), (2, (.p 2)), (4, (.p 100))], [(0, (.box (.st (.cons .ptr (.cons (.int .i64) (.cons .bool .nil)))) (.agg (.cons (.p 10) (.cons (.ro (.int .i64)) (.cons (.ro .bool) .nil)))))), (2, (.box (.st (.cons (.int .i64) (.cons (.int .i64) (.cons (.int .i64) (.cons (.int .i64) (.cons (.int .i64) (.cons (.int .i64) (.cons (.int .i64) (.cons (.int .i64) (.cons .bool (.cons (.int .i64) (.cons .bool (.cons (.st (.cons (.int .i64) (.cons .bool (.cons (.st (.cons (.int .i64) (.cons .str .nil))) (.cons (.st (.cons (.int .i64) (.cons .str .nil))) .nil))))) (.cons (.int .i64) .nil)))))))))))))) (.agg (.cons (.ro (.int .i64)) (.cons (.ro (.int .i64)) (.cons (.ro (.int .i64)) (.cons (.ro (.int .i64)) (.cons (.ro (.int .i64)) (.cons (.ro (.int .i64)) (.cons (.ro (.int .i64)) (.cons (.ro (.int .i64)) (.cons (.ro .bool) (.cons (.ro (.int .i64)) (.cons (.ro .bool) (.cons (.agg (.cons (.ro (.int .i64)) (.cons (.ro .bool) (.cons (.agg (.cons (.ro (.int .i64)) (.cons (.ro .str) .nil))) (.cons (.agg (.cons (.ro (.int .i64)) (.cons (.ro .str) .nil))) .nil))))) (.cons (.ro (.int .i64)) .nil)))))))))))))))), (10, (.box (.st (.cons (.list 91 (.st (.cons (.int .i64) (.cons (.int .i64) (.cons (.int .i64) (.cons .str (.cons (.int .i64) .nil))))))) (.cons (.list 3 (.int .i64)) .nil))) (.agg (.cons (.ro (.list 91 (.st (.cons (.int .i64) (.cons (.int .i64) (.cons (.int .i64) (.cons .str (.cons (.int .i64) .nil)))))))) (.cons (.h 11) .nil))))), (11, (.sl 3 (.int .i64))), (100, (.box (.st (.cons (.int .i64) (.cons (.int .i64) (.cons (.int .i64) .nil)))) (.agg (.cons (.ro (.int .i64)) (.cons (.ro (.int .i64)) (.cons (.ro (.int .i64)) .nil))))))]⟩
def f78i3con (F : TLeaf → THeadReader → THead → TTreeB → (List Int) → Option (Unit × THeadReader × THead × TTreeB × (List Int))) : Con := ⟨f78i3in, f78i3out, 3, 0, fun x => F x.1.2.1 x.2.1 x.2.2.1 x.2.2.2.1 x.2.2.2.2⟩
def f78i3ctx (k : Nat) : Ctx := ⟨tyAt tys, conAt [(74, [f74i1con (impl_headReader_any k)]), (75, [f75i2con (impl_headReader_num k)]), (77, [f77con (impl_tree_find k)]), (107, [f107i4con (impl_headReader_enter k)]), (108, [f108i5con (impl_headReader_statistics k)])], 127, fun s => Nat.beq s 26⟩
theorem f78i3hc (k : Nat) : CtxOk Tryz.prog (f78i3ctx k) := ctxOk tys_ok mixed_ok (consOk_cons (f74i1ok k) (consOk_cons (f75i2ok k) (consOk_cons (f77ok k) (consOk_cons (f107i4ok k) (consOk_cons (f108i5ok k) (consOk_nil))))))
theorem f78i3ok (k : Nat) : FnOk Tryz.prog 78 (f78i3con (impl_headReader_own k)) :=
  let hc := f78i3hc k
  fnOk (fn := Tryz.f78) (code := bodyOf Tryz.f78) (res := []) hc (by kernel_rfl) (by kernel_rfl) (by decide) (by kernel_rfl) (by kernel_rfl) (by kernel_rfl) (Nat.le_of_ble_eq_true (by kernel_rfl)) _
    (fun x => Snd.seq (by kernel_rfl) (Snd.seq (by kernel_rfl) (Snd.cut (Snd.exec hc _ _ _ _) ⟨f78i3s23, fun x => impl_headReader_own.c23 k x.2.1 x.2.2.1 x.2.2.2.1 x.2.2.2.2⟩ (fun x => by kernel_rfl)) (Snd.seq (by kernel_rfl) (Snd.block (id := 0) (by kernel_rfl) (Snd.seq (by kernel_rfl) (Snd.cond (x := .tmp 14) (by kernel_rfl) (Snd.seq (by kernel_rfl) (Snd.seq (by kernel_rfl) (Snd.seq (by kernel_rfl) (Snd.cut (Snd.exec hc _ _ _ _) ⟨f78i3s8, fun x => impl_headReader_own.c8 k x.2.1 x.2.2.1 x.2.2.2.1 x.2.2.2.2.1 x.2.2.2.2.2⟩ (fun x => by kernel_rfl)) (Snd.exec hc _ _ _ _)) (Snd.exec hc _ _ _ _)) (Snd.exec hc _ _ _ _)) (Snd.seq (by kernel_rfl) (Snd.cond (x := .tmp 38) (by kernel_rfl) (Snd.seq (by kernel_rfl) (Snd.seq (by kernel_rfl) (Snd.seq (by kernel_rfl) (Snd.seq (by kernel_rfl) (Snd.seq (by kernel_rfl) (Snd.seq (by kernel_rfl) (Snd.seq (by kernel_rfl) (Snd.seq (by kernel_rfl) (Snd.cut (Snd.exec hc _ _ _ _) ⟨f78i3s19, fun x => impl_headReader_own.c19 k x.2.1 x.2.2.1 x.2.2.2.1 x.2.2.2.2.1 x.2.2.2.2.2⟩ (fun x => by kernel_rfl)) (Snd.exec hc _ _ _ _)) (Snd.exec hc _ _ _ _)) (Snd.exec hc _ _ _ _)) (Snd.exec hc _ _ _ _)) (Snd.exec hc _ _ _ _)) (Snd.exec hc _ _ _ _)) (Snd.exec hc _ _ _ _)) (Snd.exec hc _ _ _ _)) (Snd.exec hc _ _ _ _)) (Snd.exec hc _ _ _ _))) (Snd.exec hc _ _ _ _))) (Snd.exec hc _ _ _ _))) (Snd.exec hc _ _ _ _))
    (fun x => by kernel_rfl)

def f50in : SS := ⟨[(0, (.ro (.st (.cons (.int .i64) (.cons (.int .i64) (.cons (.int .i64) .nil)))))), (1, (.ro (.list 5 (.int .u8)))), (2, (.ro (.int .i64)))], []⟩
def f50out : SS := ⟨[(0, (.agg (.cons (.ro (.int .i64)) (.cons (.ro (.int .i64)) (.cons (.ro (.int .i64)) (.cons (.ro (.int .i64)) (.cons (.ro (.int .i64)) (.cons (.ro (.int .i64)) (.cons (.ro (.int .i64)) (.cons (.ro (.int .i64)) (.cons (.ro .bool) (.cons (.ro (.int .i64)) (.cons (.ro .bool) (.cons (.agg (.cons (.ro (.int .i64)) (.cons (.ro .bool) (.cons (.agg (.cons (.ro (.int .i64)) (.cons (.ro .str) .nil))) (.cons (.agg (.cons (.ro (.int .i64)) (.cons (.ro .str) .nil))) .nil))))) (.cons (.ro (.int .i64)) .nil))))))))))))))), (1, (.ro (.int .i64)))], []⟩
def f50d14 : SS := ⟨[(1, (.ro (.list 5 (.int .u8)))), (3, (.p 100)), (6, (.p 101)), (9, (.ro (.int .i64))), (13, (.p 102)), (14, (.p 103)), (15, (.p 104)), (16, (.ro .bool))], [(100, (.box (.st (.cons (.int .i64) (.cons (.int .i64) (.cons (.int .i64) .nil)))) (.agg (.cons (.ro (.int .i64)) (.cons (.ro (.int .i64)) (.cons (.ro (.int .i64)) .nil)))))), (101, (.box (.st (.cons (.int .i64) (.cons (.int .i64) (.cons (.int .i64) (.cons (.int .i64) (.cons (.int .i64) (.cons (.int .i64) (.cons (.int .i64) (.cons (.int .i64) (.cons .bool (.cons (.int .i64) (.cons .bool (.cons (.st (.cons (.int .i64) (.cons .bool (.cons (.st (.cons (.int .i64) (.cons .str .nil))) (.cons (.st (.cons (.int .i64) (.cons .str .nil))) .nil))))) (.cons (.int .i64) .nil)))))))))))))) (.agg (.cons (.ro (.int .i64)) (.cons (.ro (.int .i64)) (.cons (.ro (.int .i64)) (.cons (.ro (.int .i64)) (.cons (.ro (.int .i64)) (.cons (.ro (.int .i64)) (.cons (.ro (.int .i64)) (.cons (.ro (.int .i64)) (.cons (.ro .bool) (.cons (.ro (.int .i64)) (.cons (.ro .bool) (.cons (.agg (.cons (.ro (.int .i64)) (.cons (.ro .bool) (.cons (.agg (.cons (.ro (.int .i64)) (.cons (.ro .str) .nil))) (.cons (.agg (.cons (.ro (.int .i64)) (.cons (.ro .str) .nil))) .nil))))) (.cons (.ro (.int .i64)) .nil)))))))))))))))), (102, (.box (.st (.cons .ptr (.cons (.int .i64) (.cons .bool .nil)))) (.agg (.cons (.p 105) (.cons (.ro (.int .i64)) (.cons (.ro .bool) .nil)))))), (103, (.box (.st (.cons (.int .i64) (.cons (.int .i64) (.cons (.int .i64) (.cons (.int .i64) (.cons (.int .i64) (.cons (.int .i64) (.cons (.int .i64) (.cons (.int .i64) (.cons .bool (.cons (.int .i64) (.cons .bool (.cons (.st (.cons (.int .i64) (.cons .bool (.cons (.st (.cons (.int .i64) (.cons .str .nil))) (.cons (.st (.cons (.int .i64) (.cons .str .nil))) .nil))))) (.cons (.int .i64) .nil)))))))))))))) (.agg (.cons (.ro (.int .i64)) (.cons (.ro (.int .i64)) (.cons (.ro (.int .i64)) (.cons (.ro (.int .i64)) (.cons (.ro (.int .i64)) (.cons (.ro (.int .i64)) (.cons (.ro (.int .i64)) (.cons (.ro (.int .i64)) (.cons (.ro .bool) (.cons (.ro (.int .i64)) (.cons (.ro .bool) (.cons (.agg (.cons (.ro (.int .i64)) (.cons (.ro .bool) (.cons (.agg (.cons (.ro (.int .i64)) (.cons (.ro .str) .nil))) (.cons (.agg (.cons (.ro (.int .i64)) (.cons (.ro .str) .nil))) .nil))))) (.cons (.ro (.int .i64)) .nil)))))))))))))))), (104, (.box (.st (.cons (.int .i64) (.cons (.int .i64) (.cons (.int .i64) (.cons .str (.cons (.int .i64) .nil)))))) (.agg (.cons (.ro (.int .i64)) (.cons (.ro (.int .i64)) (.cons (.ro (.int .i64)) (.cons (.ro .str) (.cons (.ro (.int .i64)) .nil)))))))), (105, (.box (.st (.cons (.list 91 (.st (.cons (.int .i64) (.cons (.int .i64) (.cons (.int .i64) (.cons .str (.cons (.int .i64) .nil))))))) (.cons (.list 3 (.int .i64)) .nil))) (.agg (.cons (.ro (.list 91 (.st (.cons (.int .i64) (.cons (.int .i64) (.cons (.int .i64) (.cons .str (.cons (.int .i64) .nil)))))))) (.cons (.h 106) .nil))))), (106, (.sl 3 (.int .i64)))]⟩
def f50s14 : SS := ⟨[(1, (.ro (.list 5 (.int .u8)))), (3, (.p 100)), (6, (.p 101)), (9, (.ro (.int .i64))), (13, (.p 102)), (14, (.p 103)), (15, (.p 104)), (16, (.ro .bool))], [(100, (.box (.st (.cons (.int .i64) (.cons (.int .i64) (.cons (.int .i64) .nil)))) (.agg (.cons (.ro (.int .i64)) (.cons (.ro (.int .i64)) (.cons (.ro (.int .i64)) .nil)))))), (101, (.box (.st (.cons (.int .i64) (.cons (.int .i64) (.cons (.int .i64) (.cons (.int .i64) (.cons (.int .i64) (.cons (.int .i64) (.cons (.int .i64) (.cons (.int .i64) (.cons .bool (.cons (.int .i64) (.cons .bool (.cons (.st (.cons (.int .i64) (.cons .bool (.cons (.st (.cons (.int .i64) (.cons .str .nil))) (.cons (.st (.cons (.int .i64) (.cons .str .nil))) .nil))))) (.cons (.int .i64) .nil)))))))))))))) (.agg (.cons (.ro (.int .i64)) (.cons (.ro (.int .i64)) (.cons (.ro (.int .i64)) (.cons (.ro (.int .i64)) (.cons (.ro (.int .i64)) (.cons (.ro (.int .i64)) (.cons (.ro (.int .i64)) (.cons (.ro (.int .i64)) (.cons (.ro .bool) (.cons (.ro (.int .i64)) (.cons (.ro .bool) (.cons (.agg (.cons (.ro (.int .i64)) (.cons (.ro .bool) (.cons (.agg (.cons (.ro (.int .i64)) (.cons (.ro .str) .nil))) (.cons (.agg (.cons (.ro (.int .i64)) (.cons (.ro .str) .nil))) .nil))))) (.cons (.ro (.int .i64)) .nil)))))))))))))))), (102, (.box (.st (.cons .ptr (.cons (.int .i64) (.cons .bool .nil)))) (.agg (.cons (.p 105) (.cons (.ro (.int .i64)) (.cons (.ro .bool) .nil)))))), (103, (.box (.st (.cons (.int .i64) (.cons (.int .i64) (.cons (.int .i64) (.cons (.int .i64) (.cons (.int .i64) (.cons (.int .i64) (.cons (.int .i64) (.cons (.int .i64) (.cons .bool (.cons (.int .i64) (.cons .bool (.cons (.st (.cons (.int .i64) (.cons .bool (.cons (.st (.cons (.int .i64) (.cons .str .nil))) (.cons (.st (.cons (.int .i64) (.cons .str .nil))) .nil))))) (.cons (.int .i64) .nil)))))))))))))) (.agg (.cons (.ro (.int .i64)) (.cons (.ro (.int .i64)) (.cons (.ro (.int .i64)) (.cons (.ro (.int .i64)) (.cons (.ro (.int .i64)) (.cons (.ro (.int .i64)) (.cons (.ro (.int .i64)) (.cons (.ro (.int .i64)) (.cons (.ro .bool) (.cons (.ro (.int .i64)) (.cons (.ro .bool) (.cons (.agg (.cons (.ro (.int .i64)) (.cons (.ro .bool) (.cons (.agg (.cons (.ro (.int .i64)) (.cons (.ro .str) .nil))) (.cons (.agg (.cons (.ro (.int .i64)) (.cons (.ro .str) .nil))) .nil))))) (.cons (.ro (.int .i64)) .nil)))))))))))))))), (104, (.box (.st (.cons (.int .i64) (.cons (.int .i64) (.cons (.int .i64) (.cons .str (.cons (.int .i64) .nil)))))) (.agg (.cons (.ro (.int .i64)) (.cons (.ro (.int .i64)) (.cons (.ro (.int .i64)) (.cons (.ro .str) (.cons (.ro (.int .i64)) .nil)))))))), (105, (.box (.st (.cons (.list 91 (.st (.cons (.int .i64) (.cons (.int .i64) (.cons (.int .i64) (.cons .str (.cons (.int .i64) .nil))))))) (.cons (.list 3 (.int .i64)) .nil))) (.agg (.cons (.ro (.list 91 (.st (.cons (.int .i64) (.cons (.int .i64) (.cons (.int .i64) (.cons .str (.cons (.int .i64) .nil)))))))) (.cons (.h 106) .nil))))), (106, (.sl 3 (.int .i64)))]⟩
def f50s11 : SS := ⟨[(1, (.ro (.list 5 (.int .u8)))), (3, (.p 100)), (6, (.p 101)), (9, (.ro (.int .i64))), (11, (.p 102)), (13, (.p 103)), (14, (.p 104))], [(100, (.box (.st (.cons (.int .i64) (.cons (.int .i64) (.cons (.int .i64) .nil)))) (.agg (.cons (.ro (.int .i64)) (.cons (.ro (.int .i64)) (.cons (.ro (.int .i64)) .nil)))))), (101, (.box (.st (.cons (.int .i64) (.cons (.int .i64) (.cons (.int .i64) (.cons (.int .i64) (.cons (.int .i64) (.cons (.int .i64) (.cons (.int .i64) (.cons (.int .i64) (.cons .bool (.cons (.int .i64) (.cons .bool (.cons (.st (.cons (.int .i64) (.cons .bool (.cons (.st (.cons (.int .i64) (.cons .str .nil))) (.cons (.st (.cons (.int .i64) (.cons .str .nil))) .nil))))) (.cons (.int .i64) .nil)))))))))))))) (.agg (.cons (.ro (.int .i64)) (.cons (.ro (.int .i64)) (.cons (.ro (.int .i64)) (.cons (.ro (.int .i64)) (.cons (.ro (.int .i64)) (.cons (.ro (.int .i64)) (.cons (.ro (.int .i64)) (.cons (.ro (.int .i64)) (.cons (.ro .bool) (.cons (.ro (.int .i64)) (.cons (.ro .bool) (.cons (.agg (.cons (.ro (.int .i64)) (.cons (.ro .bool) (.cons (.agg (.cons (.ro (.int .i64)) (.cons (.ro .str) .nil))) (.cons (.agg (.cons (.ro (.int .i64)) (.cons (.ro .str) .nil))) .nil))))) (.cons (.ro (.int .i64)) .nil)))))))))))))))), (102, (.box (.st (.cons (.list 91 (.st (.cons (.int .i64) (.cons (.int .i64) (.cons (.int .i64) (.cons .str (.cons (.int .i64) .nil))))))) (.cons (.list 3 (.int .i64)) .nil))) (.agg (.cons (.ro (.list 91 (.st (.cons (.int .i64) (.cons (.int .i64) (.cons (.int .i64) (.cons .str (.cons (.int .i64) .nil)))))))) (.cons (.h 105) .nil))))), (103, (.box (.st (.cons .ptr (.cons (.int .i64) (.cons .bool .nil)))) (.agg (.cons (.p 102) (.cons (.ro (.int .i64)) (.cons (.ro .bool) .nil)))))), (104, (.box (.st (.cons (.int .i64) (.cons (.int .i64) (.cons (.int .i64) (.cons (.int .i64) (.cons (.int .i64) (.cons (.int .i64) (.cons (.int .i64) (.cons (.int .i64) (.cons .bool (.cons (.int .i64) (.cons .bool (.cons (.st (.cons (.int .i64) (.cons .bool (.cons (.st (.cons (.int .i64) (.cons .str .nil))) (.cons (.st (.cons (.int .i64) (.cons .str .nil))) .nil))))) (.cons (.int .i64) .nil)))))))))))))) (.agg (.cons (.ro (.int .i64)) (.cons (.ro (.int .i64)) (.cons (.ro (.int .i64)) (.cons (.ro (.int .i64)) (.cons (.ro (.int .i64)) (.cons (.ro (.int .i64)) (.cons (.ro (.int .i64)) (.cons (.ro (.int .i64)) (.cons (.ro .bool) (.cons (.ro (.int .i64)) (.cons (.ro .bool) (.cons (.agg (.cons (.ro (.int .i64)) (.cons (.ro .bool) (.cons (.agg (.cons (.ro (.int .i64)) (.cons (.ro .str) .nil))) (.cons (.agg (.cons (.ro (.int .i64)) (.cons (.ro .str) .nil))) .nil))))) (.cons (.ro (.int .i64)) .nil)))))))))))))))), (105, (.sl 3 (.int .i64)))]⟩
def f50d9 : SS := ⟨[(1, (.ro (.list 5 (.int .u8)))), (3, (.p 100)), (6, (.p 101)), (9, (.ro (.int .i64))), (11, (.p 102)), (13, (.p 103)), (14, (.p 104))], [(100, (.box (.st (.cons (.int .i64) (.cons (.int .i64) (.cons (.int .i64) .nil)))) (.agg (.cons (.ro (.int .i64)) (.cons (.ro (.int .i64)) (.cons (.ro (.int .i64)) .nil)))))), (101, (.box (.st (.cons (.int .i64) (.cons (.int .i64) (.cons (.int .i64) (.cons (.int .i64) (.cons (.int .i64) (.cons (.int .i64) (.cons (.int .i64) (.cons (.int .i64) (.cons .bool (.cons (.int .i64) (.cons .bool (.cons (.st (.cons (.int .i64) (.cons .bool (.cons (.st (.cons (.int .i64) (.cons .str .nil))) (.cons (.st (.cons (.int .i64) (.cons .str .nil))) .nil))))) (.cons (.int .i64) .nil)))))))))))))) (.agg (.cons (.ro (.int .i64)) (.cons (.ro (.int .i64)) (.cons (.ro (.int .i64)) (.cons (.ro (.int .i64)) (.cons (.ro (.int .i64)) (.cons (.ro (.int .i64)) (.cons (.ro (.int .i64)) (.cons (.ro (.int .i64)) (.cons (.ro .bool) (.cons (.ro (.int .i64)) (.cons (.ro .bool) (.cons (.agg (.cons (.ro (.int .i64)) (.cons (.ro .bool) (.cons (.agg (.cons (.ro (.int .i64)) (.cons (.ro .str) .nil))) (.cons (.agg (.cons (.ro (.int .i64)) (.cons (.ro .str) .nil))) .nil))))) (.cons (.ro (.int .i64)) .nil)))))))))))))))), (102, (.box (.st (.cons (.list 91 (.st (.cons (.int .i64) (.cons (.int .i64) (.cons (.int .i64) (.cons .str (.cons (.int .i64) .nil))))))) (.cons (.list 3 (.int .i64)) .nil))) (.agg (.cons (.ro (.list 91 (.st (.cons (.int .i64) (.cons (.int .i64) (.cons (.int .i64) (.cons .str (.cons (.int .i64) .nil)))))))) (.cons (.h 105) .nil))))), (103, (.box (.st (.cons .ptr (.cons (.int .i64) (.cons .bool .nil)))) (.agg (.cons (.p 102) (.cons (.ro (.int .i64)) (.cons (.ro .bool) .nil)))))), (104, (.box (.st (.cons (.int .i64) (.cons (.int .i64) (.cons (.int .i64) (.cons (.int .i64) (.cons (.int .i64) (.cons (.int .i64) (.cons (.int .i64) (.cons (.int .i64) (.cons .bool (.cons (.int .i64) (.cons .bool (.cons (.st (.cons (.int .i64) (.cons .bool (.cons (.st (.cons (.int .i64) (.cons .str .nil))) (.cons (.st (.cons (.int .i64) (.cons .str .nil))) .nil))))) (.cons (.int .i64) .nil)))))))))))))) (.agg (.cons (.ro (.int .i64)) (.cons (.ro (.int .i64)) (.cons (.ro (.int .i64)) (.cons (.ro (.int .i64)) (.cons (.ro (.int .i64)) (.cons (.ro (.int .i64)) (.cons (.ro (.int .i64)) (.cons (.ro (.int .i64)) (.cons (.ro .bool) (.cons (.ro (.int .i64)) (.cons (.ro .bool) (.cons (.agg (.cons (.ro (.int .i64)) (.cons (.ro .bool) (.cons (.agg (.cons (.ro (.int .i64)) (.cons (.ro .str) .nil))) (.cons (.agg (.cons (.ro (.int .i64)) (.cons (.ro .str) .nil))) .nil))))) (.cons (.ro (.int .i64)) .nil)))))))))))))))), (105, (.sl 3 (.int .i64)))]⟩
def f50con (F : TLeaf → (List Int) → Int → Option (THead × Int)) : Con := ⟨f50in, f50out, 3, 2, fun x => F x.1 x.2.1 x.2.2⟩
def f50ctx (k : Nat) : Ctx := ⟨tyAt tys, conAt [(66, [f66con (impl_TreeRead k)]), (72, [f72con (impl_treeOf k)]), (73, [f73con (impl_LeafOk k)]), (74, [f74i1con (impl_headReader_any k)]), (75, [f75i2con (impl_headReader_num k)]), (76, [f76con (impl_tree_part k)]), (77, [f77con (impl_tree_find k)]), (78, [f78i3con (impl_headReader_own k)])], 100, fun _ => false⟩
theorem f50hc (k : Nat) : CtxOk Tryz.prog (f50ctx k) := ctxOk tys_ok mixed_ok (consOk_cons (f66ok k) (consOk_cons (f72ok k) (consOk_cons (f73ok k) (consOk_cons (f74i1ok k) (consOk_cons (f75i2ok k) (consOk_cons (f76ok k) (consOk_cons (f77ok k) (consOk_cons (f78i3ok k) (consOk_nil)))))))))
theorem f50ok (k : Nat) : FnOk Tryz.prog 50 (f50con (impl_HeadRead k)) :=
  let hc := f50hc k
  fnOk (fn := Tryz.f50) (code := bodyOf Tryz.f50) (res := [.cell 6 63, .tmp 7]) hc (by kernel_rfl) (by kernel_rfl) (by decide) (by kernel_rfl) (by kernel_rfl) (by kernel_rfl) (Nat.le_of_ble_eq_true (by kernel_rfl)) _
    (fun x => Snd.seq (by kernel_rfl) (Snd.seq (by kernel_rfl) (Snd.seq (by kernel_rfl) (Snd.seq (by kernel_rfl) (Snd.seq (by kernel_rfl) (Snd.seq (by kernel_rfl) (Snd.seq (by kernel_rfl) (Snd.seq (by kernel_rfl) (Snd.seq (by kernel_rfl) (Snd.cut (Snd.seq (by kernel_rfl) (Snd.seq (by kernel_rfl) (Snd.cut (Snd.seq (by kernel_rfl) (Snd.exec hc _ _ _ _) (Snd.fork hc (id := 14) (by kernel_rfl) ⟨f50d14, fun x => impl_HeadRead.d14 k x.1.1 x.1.2.2.2.1 x.1.2.2.2.2.2.2.2 x.2.1 x.2.2.1 x.2.2.2.1 x.2.2.2.2.1 x.2.2.2.2.2.1 x.2.2.2.2.2.2.1 x.2.2.2.2.2.2.2⟩ [[0, 1, 4, 2, 3, 5, 6, 7], [0, 1, 4, 5, 2, 3, 6, 7]] (by kernel_rfl) (ords_cons (fun x => by kernel_rfl) (ords_cons (fun x => by kernel_rfl) (ords_nil))))) ⟨f50s14, fun x => impl_HeadRead.c14 k x.1.1 x.1.2.2.2.1 x.1.2.2.2.2.2.2.2 x.2.1 x.2.2.1 x.2.2.2.1 x.2.2.2.2.1 x.2.2.2.2.2.1 x.2.2.2.2.2.2.1 x.2.2.2.2.2.2.2⟩ (fun x => by kernel_rfl)) (Snd.exec hc _ _ _ _)) (Snd.exec hc _ _ _ _)) ⟨f50s11, fun x => impl_HeadRead.c11 k x.1.1 x.1.2.2.2.1 x.2.1 x.2.2.1 x.2.2.2.1 x.2.2.2.2.1 x.2.2.2.2.2.1 x.2.2.2.2.2.2⟩ (fun x => by kernel_rfl)) (Snd.seq (by kernel_rfl) (Snd.exec hc _ _ _ _) (Snd.fork hc (id := 9) (by kernel_rfl) ⟨f50d9, fun x => impl_HeadRead.d9 k x.1.1 x.1.2.2.2.1 x.2.1 x.2.2.1 x.2.2.2.1 x.2.2.2.2.1 x.2.2.2.2.2.1 x.2.2.2.2.2.2⟩ [[0, 2, 1, 3, 4], [0, 2, 3, 1, 4]] (by kernel_rfl) (ords_cons (fun x => by kernel_rfl) (ords_cons (fun x => by kernel_rfl) (ords_nil)))))) (Snd.exec hc _ _ _ _)) (Snd.exec hc _ _ _ _)) (Snd.exec hc _ _ _ _)) (Snd.exec hc _ _ _ _)) (Snd.exec hc _ _ _ _)) (Snd.exec hc _ _ _ _)) (Snd.exec hc _ _ _ _)) (Snd.exec hc _ _ _ _))
    (fun x => by kernel_rfl)

def f148in : SS := ⟨[(0, (.ro (.int .i64)))], []⟩
def f148out : SS := ⟨[(0, (.ro (.int .i64)))], []⟩
def f148s7 : SS := ⟨[(0, (.ro (.int .i64))), (4, (.ro (.int .i64)))], []⟩
def f148s2 : SS := ⟨[(0, (.ro (.int .i64))), (4, (.ro (.int .i64)))], []⟩
def f148con (F : Int → Option Int) : Con := ⟨f148in, f148out, 1, 1, fun x => F x⟩
def f148ctx (k : Nat) : Ctx := ⟨tyAt tys, conAt [], 16, fun _ => false⟩
theorem f148hc (k : Nat) : CtxOk Tryz.prog (f148ctx k) := ctxOk tys_ok mixed_ok (consOk_nil)
theorem f148ok (k : Nat) : FnOk Tryz.prog 148 (f148con (impl_crcNumber k)) :=
  let hc := f148hc k
  fnOk (fn := Tryz.f148) (code := bodyOf Tryz.f148) (res := [.tmp 2]) hc (by kernel_rfl) (by kernel_rfl) (by decide) (by kernel_rfl) (by kernel_rfl) (by kernel_rfl) (Nat.le_of_ble_eq_true (by kernel_rfl)) _
    (fun x => Snd.seq (by kernel_rfl) (Snd.seq (by kernel_rfl) (Snd.exec hc _ _ _ _) (Snd.seq (by kernel_rfl) (Snd.block (id := 0) (by kernel_rfl) (Snd.loop' (by kernel_rfl) f148s2 (fun n x => impl_crcNumber.l2 k n x.1 x.2) _ (fun _ => rfl) (fun n2 => Snd.seq (by kernel_rfl) (Snd.seq (by kernel_rfl) (Snd.seq (by kernel_rfl) (Snd.cut (Snd.exec hc _ _ _ _) ⟨f148s7, fun x => impl_crcNumber.c7 k (impl_crcNumber.l2 k n2) x.1 x.2⟩ (fun x => by kernel_rfl)) (Snd.exec hc _ _ _ _)) (Snd.exec hc _ _ _ _)) (Snd.exec hc _ _ _ _)) (fun n x => by kernel_rfl) k)) (Snd.exec hc _ _ _ _))) (Snd.exec hc _ _ _ _))
    (fun x => by kernel_rfl)

def f117in : SS := ⟨[], []⟩
def f117out : SS := ⟨[(0, (.h 100))], [(100, (.sl 3 (.int .i64)))]⟩
def f117s3 : SS := ⟨[(1, (.h 100)), (4, (.ro (.int .i64)))], [(100, (.sl 3 (.int .i64)))]⟩
def f117con (F : Option (Unit × (List Int))) : Con := ⟨f117in, f117out, 0, 1, fun x => F⟩
def f117ctx (k : Nat) : Ctx := ⟨tyAt tys, conAt [(148, [f148con (impl_crcNumber k)])], 14, fun _ => false⟩
theorem f117hc (k : Nat) : CtxOk Tryz.prog (f117ctx k) := ctxOk tys_ok mixed_ok (consOk_cons (f148ok k) (consOk_nil))
theorem f117ok (k : Nat) : FnOk Tryz.prog 117 (f117con (impl_CrcTable k)) :=
  let hc := f117hc k
  fnOk (fn := Tryz.f117) (code := bodyOf Tryz.f117) (res := [.tmp 0]) hc (by kernel_rfl) (by kernel_rfl) (by decide) (by kernel_rfl) (by kernel_rfl) (by kernel_rfl) (Nat.le_of_ble_eq_true (by kernel_rfl)) _
    (fun x => Snd.seq (by kernel_rfl) (Snd.seq (by kernel_rfl) (Snd.seq (by kernel_rfl) (Snd.exec hc _ _ _ _) (Snd.seq (by kernel_rfl) (Snd.block (id := 0) (by kernel_rfl) (Snd.loop' (by kernel_rfl) f117s3 (fun n x => impl_CrcTable.l3 k n x.1.2 x.2) _ (fun _ => rfl) (fun n3 => Snd.exec hc _ _ _ _) (fun n x => by kernel_rfl) k)) (Snd.exec hc _ _ _ _))) (Snd.exec hc _ _ _ _)) (Snd.exec hc _ _ _ _))
    (fun x => by kernel_rfl)

def f87in : SS := ⟨[(0, (.ro (.int .i64))), (1, (.ro (.list 5 (.int .u8))))], []⟩
def f87out : SS := ⟨[(0, (.ro (.int .i64)))], []⟩
def f87s6 : SS := ⟨[(0, (.ro (.int .i64))), (5, (.h 100)), (14, (.ro (.list 5 (.int .u8)))), (15, (.ro (.int .i64))), (16, (.ro (.int .i64)))], [(100, (.sl 3 (.int .i64)))]⟩
def f87con (F : Int → (List Int) → Option Int) : Con := ⟨f87in, f87out, 2, 1, fun x => F x.1 x.2⟩
def f87ctx (k : Nat) : Ctx := ⟨tyAt tys, conAt [(39, [f39con (impl_within k)]), (117, [f117con (impl_CrcTable k)])], 34, fun _ => false⟩
theorem f87hc (k : Nat) : CtxOk Tryz.prog (f87ctx k) := ctxOk tys_ok mixed_ok (consOk_cons (f39ok k) (consOk_cons (f117ok k) (consOk_nil)))
theorem f87ok (k : Nat) : FnOk Tryz.prog 87 (f87con (impl_CrcMore k)) :=
  let hc := f87hc k
  fnOk (fn := Tryz.f87) (code := bodyOf Tryz.f87) (res := [.tmp 4]) hc (by kernel_rfl) (by kernel_rfl) (by decide) (by kernel_rfl) (by kernel_rfl) (by kernel_rfl) (Nat.le_of_ble_eq_true (by kernel_rfl)) _
    (fun x => Snd.seq (by kernel_rfl) (Snd.seq (by kernel_rfl) (Snd.seq (by kernel_rfl) (Snd.seq (by kernel_rfl) (Snd.seq (by kernel_rfl) (Snd.exec hc _ _ _ _) (Snd.seq (by kernel_rfl) (Snd.block (id := 0) (by kernel_rfl) (Snd.loop' (by kernel_rfl) f87s6 (fun n x => impl_CrcMore.l6 k n x.1.1 x.1.2.2.1 x.1.2.2.2.1 x.1.2.2.2.2 x.2) _ (fun _ => rfl) (fun n6 => Snd.exec hc _ _ _ _) (fun n x => by kernel_rfl) k)) (Snd.exec hc _ _ _ _))) (Snd.exec hc _ _ _ _)) (Snd.exec hc _ _ _ _)) (Snd.exec hc _ _ _ _)) (Snd.exec hc _ _ _ _))
    (fun x => by kernel_rfl)

def f60in : SS := ⟨[(0, (.ro (.list 5 (.int .u8))))], []⟩
def f60out : SS := ⟨[(0, (.ro (.int .i64)))], []⟩
def f60con (F : (List Int) → Option Int) : Con := ⟨f60in, f60out, 1, 1, fun x => F x⟩
def f60ctx (k : Nat) : Ctx := ⟨tyAt tys, conAt [(87, [f87con (impl_CrcMore k)])], 5, fun _ => false⟩
theorem f60hc (k : Nat) : CtxOk Tryz.prog (f60ctx k) := ctxOk tys_ok mixed_ok (consOk_cons (f87ok k) (consOk_nil))
theorem f60ok (k : Nat) : FnOk Tryz.prog 60 (f60con (impl_CrcOf k)) :=
  let hc := f60hc k
  fnOk (fn := Tryz.f60) (code := bodyOf Tryz.f60) (res := [.tmp 2]) hc (by kernel_rfl) (by kernel_rfl) (by decide) (by kernel_rfl) (by kernel_rfl) (by kernel_rfl) (Nat.le_of_ble_eq_true (by kernel_rfl)) _
    (fun x => Snd.exec hc _ _ _ _)
    (fun x => by kernel_rfl)

def f32in : SS := ⟨[(0, (.ro (.st (.cons (.int .i64) (.cons (.int .i64) (.cons (.int .i64) .nil)))))), (1, (.ro (.list 5 (.int .u8)))), (2, (.ro (.int .i64)))], []⟩
def f32out : SS := ⟨[(0, (.agg (.cons (.ro (.int .i64)) (.cons (.ro (.int .i64)) (.cons (.ro (.int .i64)) (.cons (.ro (.int .i64)) (.cons (.ro (.int .i64)) (.cons (.ro (.int .i64)) (.cons (.ro (.int .i64)) (.cons (.ro (.int .i64)) (.cons (.ro .bool) (.cons (.ro (.int .i64)) (.cons (.ro .bool) (.cons (.agg (.cons (.ro (.int .i64)) (.cons (.ro .bool) (.cons (.agg (.cons (.ro (.int .i64)) (.cons (.ro .str) .nil))) (.cons (.agg (.cons (.ro (.int .i64)) (.cons (.ro .str) .nil))) .nil))))) (.cons (.ro (.int .i64)) .nil))))))))))))))), (1, (.ro (.list 5 (.int .u8)))), (2, (.ro (.int .i64)))], []⟩
def f32d5 : SS := ⟨[(6, (.p 100)), (9, (.p 101)), (11, (.ro (.list 5 (.int .u8))))], [(100, (.box (.st (.cons (.int .i64) (.cons (.int .i64) (.cons (.int .i64) (.cons (.int .i64) (.cons (.int .i64) (.cons (.int .i64) (.cons (.int .i64) (.cons (.int .i64) (.cons .bool (.cons (.int .i64) (.cons .bool (.cons (.st (.cons (.int .i64) (.cons .bool (.cons (.st (.cons (.int .i64) (.cons .str .nil))) (.cons (.st (.cons (.int .i64) (.cons .str .nil))) .nil))))) (.cons (.int .i64) .nil)))))))))))))) (.agg (.cons (.ro (.int .i64)) (.cons (.ro (.int .i64)) (.cons (.ro (.int .i64)) (.cons (.ro (.int .i64)) (.cons (.ro (.int .i64)) (.cons (.ro (.int .i64)) (.cons (.ro (.int .i64)) (.cons (.ro (.int .i64)) (.cons (.ro .bool) (.cons (.ro (.int .i64)) (.cons (.ro .bool) (.cons (.agg (.cons (.ro (.int .i64)) (.cons (.ro .bool) (.cons (.agg (.cons (.ro (.int .i64)) (.cons (.ro .str) .nil))) (.cons (.agg (.cons (.ro (.int .i64)) (.cons (.ro .str) .nil))) .nil))))) (.cons (.ro (.int .i64)) .nil)))))))))))))))), (101, (.box (.st (.cons (.int .i64) (.cons (.int .i64) (.cons (.int .i64) (.cons (.int .i64) (.cons (.int .i64) (.cons (.int .i64) (.cons (.int .i64) (.cons (.int .i64) (.cons .bool (.cons (.int .i64) (.cons .bool (.cons (.st (.cons (.int .i64) (.cons .bool (.cons (.st (.cons (.int .i64) (.cons .str .nil))) (.cons (.st (.cons (.int .i64) (.cons .str .nil))) .nil))))) (.cons (.int .i64) .nil)))))))))))))) (.agg (.cons (.ro (.int .i64)) (.cons (.ro (.int .i64)) (.cons (.ro (.int .i64)) (.cons (.ro (.int .i64)) (.cons (.ro (.int .i64)) (.cons (.ro (.int .i64)) (.cons (.ro (.int .i64)) (.cons (.ro (.int .i64)) (.cons (.ro .bool) (.cons (.ro (.int .i64)) (.cons (.ro .bool) (.cons (.agg (.cons (.ro (.int .i64)) (.cons (.ro .bool) (.cons (.agg (.cons (.ro (.int .i64)) (.cons (.ro .str) .nil))) (.cons (.agg (.cons (.ro (.int .i64)) (.cons (.ro .str) .nil))) .nil))))) (.cons (.ro (.int .i64)) .nil))))))))))))))))]⟩
def f32con (F : TLeaf → (List Int) → Int → Option (THead × (List Int) × Int)) : Con := ⟨f32in, f32out, 3, 3, fun x => F x.1 x.2.1 x.2.2⟩
def f32ctx (k : Nat) : Ctx := ⟨tyAt tys, conAt [(50, [f50con (impl_HeadRead k)]), (60, [f60con (impl_CrcOf k)])], 44, fun _ => false⟩
theorem f32hc (k : Nat) : CtxOk Tryz.prog (f32ctx k) := ctxOk tys_ok mixed_ok (consOk_cons (f50ok k) (consOk_cons (f60ok k) (consOk_nil)))
theorem f32ok (k : Nat) : FnOk Tryz.prog 32 (f32con (impl_checked k)) :=
  let hc := f32hc k
  fnOk (fn := Tryz.f32) (code := bodyOf Tryz.f32) (res := [.cell 6 63, .tmp 7, .tmp 8]) hc (by kernel_rfl) (by kernel_rfl) (by decide) (by kernel_rfl) (by kernel_rfl) (by kernel_rfl) (Nat.le_of_ble_eq_true (by kernel_rfl)) _
    (fun x => Snd.seq (by kernel_rfl) (Snd.seq (by kernel_rfl) (Snd.seq (by kernel_rfl) (Snd.seq (by kernel_rfl) (Snd.seq (by kernel_rfl) (Snd.exec hc _ _ _ _) (Snd.seq (by kernel_rfl) (Snd.exec hc _ _ _ _) (Snd.fork hc (id := 5) (by kernel_rfl) ⟨f32d5, fun x => impl_checked.d5 k x.1.2.2 x.2.1 x.2.2⟩ [[0, 1, 2, 3, 5, 4, 6, 7, 8], [0, 1, 2, 3, 5, 6, 4, 7, 8]] (by kernel_rfl) (ords_cons (fun x => by kernel_rfl) (ords_cons (fun x => by kernel_rfl) (ords_nil)))))) (Snd.exec hc _ _ _ _)) (Snd.exec hc _ _ _ _)) (Snd.exec hc _ _ _ _)) (Snd.exec hc _ _ _ _))
    (fun x => by kernel_rfl)

def f8in : SS := ⟨[(0, (.ro (.int .i64))), (1, (.ro (.list 5 (.int .u8)))), (2, (.ro (.int .i64)))], []⟩
def f8out : SS := ⟨[(0, (.h 100)), (1, (.ro (.int .i64))), (2, (.ro (.int .i64)))], [(100, (.sl 59 (.st (.cons (.int .i64) (.cons .str .nil)))))]⟩
def f8con (F : Int → (List Int) → Int → Option ((Unit × Int × Int) × (List TVal))) : Con := ⟨f8in, f8out, 3, 3, fun x => F x.1 x.2.1 x.2.2⟩
def f8ctx (k : Nat) : Ctx := ⟨tyAt tys, conAt [(32, [f32con (impl_checked k)]), (33, [f33con (impl_PlainRead k)])], 75, fun _ => false⟩
theorem f8hc (k : Nat) : CtxOk Tryz.prog (f8ctx k) := ctxOk tys_ok mixed_ok (consOk_cons (f32ok k) (consOk_cons (f33ok k) (consOk_nil)))
theorem f8ok (k : Nat) : FnOk Tryz.prog 8 (f8con (impl_DictRead k)) :=
  let hc := f8hc k
  fnOk (fn := Tryz.f8) (code := bodyOf Tryz.f8) (res := [.tmp 6, .tmp 7, .tmp 8]) hc (by kernel_rfl) (by kernel_rfl) (by decide) (by kernel_rfl) (by kernel_rfl) (by kernel_rfl) (Nat.le_of_ble_eq_true (by kernel_rfl)) _
    (fun x => Snd.exec hc _ _ _ _)
    (fun x => by kernel_rfl)

def f34in : SS := ⟨[(0, (.ro (.st (.cons (.int .i64) (.cons .str .nil))))), (1, (.ro (.st (.cons (.int .i64) (.cons .str .nil)))))], []⟩
def f34out : SS := ⟨[(0, (.ro .bool))], []⟩
def f34con (F : TVal → TVal → Option Bool) : Con := ⟨f34in, f34out, 2, 1, fun x => F x.1 x.2⟩
def f34ctx (k : Nat) : Ctx := ⟨tyAt tys, conAt [], 15, fun _ => false⟩
theorem f34hc (k : Nat) : CtxOk Tryz.prog (f34ctx k) := ctxOk tys_ok mixed_ok (consOk_nil)
theorem f34ok (k : Nat) : FnOk Tryz.prog 34 (f34con (laws_eqVal k)) :=
  let hc := f34hc k
  fnOk (fn := Tryz.f34) (code := bodyOf Tryz.f34) (res := [.tmp 4]) hc (by kernel_rfl) (by kernel_rfl) (by decide) (by kernel_rfl) (by kernel_rfl) (by kernel_rfl) (Nat.le_of_ble_eq_true (by kernel_rfl)) _
    (fun x => Snd.exec hc _ _ _ _)
    (fun x => by kernel_rfl)

def f9in : SS := ⟨[(0, (.ro (.list 59 (.st (.cons (.int .i64) (.cons .str .nil)))))), (1, (.ro (.list 59 (.st (.cons (.int .i64) (.cons .str .nil))))))], []⟩
def f9out : SS := ⟨[(0, (.ro .bool))], []⟩
def f9s4 : SS := ⟨[(0, (.ro (.list 59 (.st (.cons (.int .i64) (.cons .str .nil)))))), (1, (.ro (.list 59 (.st (.cons (.int .i64) (.cons .str .nil)))))), (5, (.ro (.int .i64)))], []⟩
def f9con (F : (List TVal) → (List TVal) → Option Bool) : Con := ⟨f9in, f9out, 2, 1, fun x => F x.1 x.2⟩
def f9ctx (k : Nat) : Ctx := ⟨tyAt tys, conAt [(34, [f34con (laws_eqVal k)])], 27, fun _ => false⟩
theorem f9hc (k : Nat) : CtxOk Tryz.prog (f9ctx k) := ctxOk tys_ok mixed_ok (consOk_cons (f34ok k) (consOk_nil))
theorem f9ok (k : Nat) : FnOk Tryz.prog 9 (f9con (laws_eqValS k)) :=
  let hc := f9hc k
  fnOk (fn := Tryz.f9) (code := bodyOf Tryz.f9) (res := [.tmp 4]) hc (by kernel_rfl) (by kernel_rfl) (by decide) (by kernel_rfl) (by kernel_rfl) (by kernel_rfl) (Nat.le_of_ble_eq_true (by kernel_rfl)) _
    (fun x => Snd.seq (by kernel_rfl) (Snd.seq (by kernel_rfl) (Snd.seq (by kernel_rfl) (Snd.exec hc _ _ _ _) (Snd.seq (by kernel_rfl) (Snd.block (id := 0) (by kernel_rfl) (Snd.loop' (by kernel_rfl) f9s4 (fun n x => laws_eqValS.l4 k n x.1 x.2.1 x.2.2) _ (fun _ => rfl) (fun n4 => Snd.exec hc _ _ _ _) (fun n x => by kernel_rfl) k)) (Snd.exec hc _ _ _ _))) (Snd.exec hc _ _ _ _)) (Snd.exec hc _ _ _ _))
    (fun x => by kernel_rfl)

def f10in : SS := ⟨[(0, (.ro (.list 5 (.int .u8)))), (1, (.ro (.list 5 (.int .u8))))], []⟩
def f10out : SS := ⟨[(0, (.ro .bool))], []⟩
def f10s4 : SS := ⟨[(0, (.ro (.list 5 (.int .u8)))), (1, (.ro (.list 5 (.int .u8)))), (5, (.ro (.int .i64)))], []⟩
def f10con (F : (List Int) → (List Int) → Option Bool) : Con := ⟨f10in, f10out, 2, 1, fun x => F x.1 x.2⟩
def f10ctx (k : Nat) : Ctx := ⟨tyAt tys, conAt [], 26, fun _ => false⟩
theorem f10hc (k : Nat) : CtxOk Tryz.prog (f10ctx k) := ctxOk tys_ok mixed_ok (consOk_nil)
theorem f10ok (k : Nat) : FnOk Tryz.prog 10 (f10con (laws_eqByteS k)) :=
  let hc := f10hc k
  fnOk (fn := Tryz.f10) (code := bodyOf Tryz.f10) (res := [.tmp 4]) hc (by kernel_rfl) (by kernel_rfl) (by decide) (by kernel_rfl) (by kernel_rfl) (by kernel_rfl) (Nat.le_of_ble_eq_true (by kernel_rfl)) _
    (fun x => Snd.seq (by kernel_rfl) (Snd.seq (by kernel_rfl) (Snd.seq (by kernel_rfl) (Snd.exec hc _ _ _ _) (Snd.seq (by kernel_rfl) (Snd.block (id := 0) (by kernel_rfl) (Snd.loop' (by kernel_rfl) f10s4 (fun n x => laws_eqByteS.l4 k n x.1 x.2.1 x.2.2) _ (fun _ => rfl) (fun n4 => Snd.exec hc _ _ _ _) (fun n x => by kernel_rfl) k)) (Snd.exec hc _ _ _ _))) (Snd.exec hc _ _ _ _)) (Snd.exec hc _ _ _ _))
    (fun x => by kernel_rfl)

def f11in : SS := ⟨[(0, (.h 10)), (1, (.ro (.int .i64)))], [(10, (.sl 5 (.int .u8)))]⟩
def f11out : SS := ⟨[(0, (.ro (.int .i64)))], [(10, (.sl 5 (.int .u8)))]⟩
def f11s2 : SS := ⟨[(0, (.h 10)), (1, (.ro (.int .i64))), (5, (.ro (.int .i64)))], [(10, (.sl 5 (.int .u8)))]⟩
def f11con (F : Int → (List Int) → Option (Int × (List Int))) : Con := ⟨f11in, f11out, 2, 1, fun x => F x.1.2 x.2⟩
def f11ctx (k : Nat) : Ctx := ⟨tyAt tys, conAt [], 20, fun _ => false⟩
theorem f11hc (k : Nat) : CtxOk Tryz.prog (f11ctx k) := ctxOk tys_ok mixed_ok (consOk_nil)
theorem f11ok (k : Nat) : FnOk Tryz.prog 11 (f11con (laws_markByteS k)) :=
  let hc := f11hc k
  fnOk (fn := Tryz.f11) (code := bodyOf Tryz.f11) (res := [.tmp 4]) hc (by kernel_rfl) (by kernel_rfl) (by decide) (by kernel_rfl) (by kernel_rfl) (by kernel_rfl) (Nat.le_of_ble_eq_true (by kernel_rfl)) _
    (fun x => Snd.seq (by kernel_rfl) (Snd.seq (by kernel_rfl) (Snd.exec hc _ _ _ _) (Snd.seq (by kernel_rfl) (Snd.block (id := 0) (by kernel_rfl) (Snd.loop' (by kernel_rfl) f11s2 (fun n x => laws_markByteS.l2 k n x.1.2.1 x.1.2.2 x.2) _ (fun _ => rfl) (fun n2 => Snd.exec hc _ _ _ _) (fun n x => by kernel_rfl) k)) (Snd.exec hc _ _ _ _))) (Snd.exec hc _ _ _ _))
    (fun x => by kernel_rfl)

def f35in : SS := ⟨[(0, (.ro (.int .i64)))], []⟩
def f35out : SS := ⟨[(0, (.ro .str))], []⟩
def f35s4 : SS := ⟨[(0, (.ro (.int .i64))), (3, (.ro .str))], []⟩
def f35con (F : Int → Option ByteArray) : Con := ⟨f35in, f35out, 1, 1, fun x => F x⟩
def f35ctx (k : Nat) : Ctx := ⟨tyAt tys, conAt [], 20, fun _ => false⟩
theorem f35hc (k : Nat) : CtxOk Tryz.prog (f35ctx k) := ctxOk tys_ok mixed_ok (consOk_nil)
theorem f35ok (k : Nat) : FnOk Tryz.prog 35 (f35con (laws_markText k)) :=
  let hc := f35hc k
  fnOk (fn := Tryz.f35) (code := bodyOf Tryz.f35) (res := [.tmp 2]) hc (by kernel_rfl) (by kernel_rfl) (by decide) (by kernel_rfl) (by kernel_rfl) (by kernel_rfl) (Nat.le_of_ble_eq_true (by kernel_rfl)) _
    (fun x => Snd.seq (by kernel_rfl) (Snd.seq (by kernel_rfl) (Snd.seq (by kernel_rfl) (Snd.seq (by kernel_rfl) (Snd.exec hc _ _ _ _) (Snd.block (id := 0) (by kernel_rfl) (Snd.loop' (by kernel_rfl) f35s4 (fun n x => laws_markText.l4 k n x.1 x.2) _ (fun _ => rfl) (fun n4 => Snd.exec hc _ _ _ _) (fun n x => by kernel_rfl) k))) (Snd.exec hc _ _ _ _)) (Snd.exec hc _ _ _ _)) (Snd.exec hc _ _ _ _))
    (fun x => by kernel_rfl)

def f12in : SS := ⟨[(0, (.h 10)), (1, (.ro (.int .i64)))], [(10, (.sl 59 (.st (.cons (.int .i64) (.cons .str .nil)))))]⟩
def f12out : SS := ⟨[(0, (.ro (.int .i64)))], [(10, (.sl 59 (.st (.cons (.int .i64) (.cons .str .nil)))))]⟩
def f12s2 : SS := ⟨[(0, (.h 10)), (1, (.ro (.int .i64))), (5, (.ro (.int .i64)))], [(10, (.sl 59 (.st (.cons (.int .i64) (.cons .str .nil)))))]⟩
def f12con (F : Int → (List TVal) → Option (Int × (List TVal))) : Con := ⟨f12in, f12out, 2, 1, fun x => F x.1.2 x.2⟩
def f12ctx (k : Nat) : Ctx := ⟨tyAt tys, conAt [(35, [f35con (laws_markText k)])], 28, fun _ => false⟩
theorem f12hc (k : Nat) : CtxOk Tryz.prog (f12ctx k) := ctxOk tys_ok mixed_ok (consOk_cons (f35ok k) (consOk_nil))
theorem f12ok (k : Nat) : FnOk Tryz.prog 12 (f12con (laws_markValS k)) :=
  let hc := f12hc k
  fnOk (fn := Tryz.f12) (code := bodyOf Tryz.f12) (res := [.tmp 4]) hc (by kernel_rfl) (by kernel_rfl) (by decide) (by kernel_rfl) (by kernel_rfl) (by kernel_rfl) (Nat.le_of_ble_eq_true (by kernel_rfl)) _
    (fun x => Snd.seq (by kernel_rfl) (Snd.seq (by kernel_rfl) (Snd.exec hc _ _ _ _) (Snd.seq (by kernel_rfl) (Snd.block (id := 0) (by kernel_rfl) (Snd.loop' (by kernel_rfl) f12s2 (fun n x => laws_markValS.l2 k n x.1.2.1 x.1.2.2 x.2) _ (fun _ => rfl) (fun n2 => Snd.exec hc _ _ _ _) (fun n x => by kernel_rfl) k)) (Snd.exec hc _ _ _ _))) (Snd.exec hc _ _ _ _))
    (fun x => by kernel_rfl)

def f13in : SS := ⟨[(0, (.ro (.list 59 (.st (.cons (.int .i64) (.cons .str .nil)))))), (1, (.ro (.int .i64)))], []⟩
def f13out : SS := ⟨[(0, (.ro (.int .i64)))], []⟩
def f13d7 : SS := ⟨[(0, (.ro (.list 59 (.st (.cons (.int .i64) (.cons .str .nil)))))), (1, (.ro (.int .i64))), (5, (.ro (.int .i64)))], []⟩
def f13s2 : SS := ⟨[(0, (.ro (.list 59 (.st (.cons (.int .i64) (.cons .str .nil)))))), (1, (.ro (.int .i64))), (5, (.ro (.int .i64)))], []⟩
def f13con (F : (List TVal) → Int → Option Int) : Con := ⟨f13in, f13out, 2, 1, fun x => F x.1 x.2⟩
def f13ctx (k : Nat) : Ctx := ⟨tyAt tys, conAt [(35, [f35con (laws_markText k)])], 32, fun _ => false⟩
theorem f13hc (k : Nat) : CtxOk Tryz.prog (f13ctx k) := ctxOk tys_ok mixed_ok (consOk_cons (f35ok k) (consOk_nil))
theorem f13ok (k : Nat) : FnOk Tryz.prog 13 (f13con (laws_heldValS k)) :=
  let hc := f13hc k
  fnOk (fn := Tryz.f13) (code := bodyOf Tryz.f13) (res := [.tmp 4]) hc (by kernel_rfl) (by kernel_rfl) (by decide) (by kernel_rfl) (by kernel_rfl) (by kernel_rfl) (Nat.le_of_ble_eq_true (by kernel_rfl)) _
    (fun x => Snd.seq (by kernel_rfl) (Snd.seq (by kernel_rfl) (Snd.exec hc _ _ _ _) (Snd.seq (by kernel_rfl) (Snd.block (id := 0) (by kernel_rfl) (Snd.loop' (by kernel_rfl) f13s2 (fun n x => laws_heldValS.l2 k n x.1 x.2.1 x.2.2) _ (fun _ => rfl) (fun n2 => Snd.seq (by kernel_rfl) (Snd.seq (by kernel_rfl) (Snd.exec hc _ _ _ _) (Snd.block (id := 1) (by kernel_rfl) (Snd.seq (by kernel_rfl) (Snd.seq (by kernel_rfl) (Snd.seq (by kernel_rfl) (Snd.exec hc _ _ _ _) (Snd.seq (by kernel_rfl) (Snd.exec hc _ _ _ _) (Snd.fork hc (id := 7) (by kernel_rfl) ⟨f13d7, fun x => laws_heldValS.d7 k (laws_heldValS.l2 k n2) x.1 x.2.1 x.2.2⟩ [[0, 1, 2, 3, 5, 4, 6, 7], [0, 1, 2, 3, 5, 6, 4, 7]] (by kernel_rfl) (ords_cons (fun x => by kernel_rfl) (ords_cons (fun x => by kernel_rfl) (ords_nil)))))) (Snd.exec hc _ _ _ _)) (Snd.exec hc _ _ _ _)))) (Snd.exec hc _ _ _ _)) (fun n x => by kernel_rfl) k)) (Snd.exec hc _ _ _ _))) (Snd.exec hc _ _ _ _))
    (fun x => by kernel_rfl)

def f3in : SS := ⟨[(0, (.ro (.int .i64))), (1, (.ro (.list 5 (.int .u8)))), (2, (.ro (.int .i64)))], []⟩
def f3out : SS := ⟨[(0, (.ro .bool))], []⟩
def f3con (F : Int → (List Int) → Int → Option Bool) : Con := ⟨f3in, f3out, 3, 1, fun x => F x.1 x.2.1 x.2.2⟩
def f3ctx (k : Nat) : Ctx := ⟨tyAt tys, conAt [(6, [f6con (spec_DictRead k)]), (7, [f7con (laws_toByteS k)]), (8, [f8con (impl_DictRead k)]), (9, [f9con (laws_eqValS k)]), (10, [f10con (laws_eqByteS k)]), (11, [f11con (laws_markByteS k)]), (12, [f12con (laws_markValS k)]), (13, [f13con (laws_heldValS k)])], 124, fun _ => false⟩
theorem f3hc (k : Nat) : CtxOk Tryz.prog (f3ctx k) := ctxOk tys_ok mixed_ok (consOk_cons (f6ok k) (consOk_cons (f7ok k) (consOk_cons (f8ok k) (consOk_cons (f9ok k) (consOk_cons (f10ok k) (consOk_cons (f11ok k) (consOk_cons (f12ok k) (consOk_cons (f13ok k) (consOk_nil)))))))))
theorem f3ok (k : Nat) : FnOk Tryz.prog 3 (f3con (laws_FnExactDictRead k)) :=
  let hc := f3hc k
  fnOk (fn := Tryz.f3) (code := bodyOf Tryz.f3) (res := [.tmp 6]) hc (by kernel_rfl) (by kernel_rfl) (by decide) (by kernel_rfl) (by kernel_rfl) (by kernel_rfl) (Nat.le_of_ble_eq_true (by kernel_rfl)) _
    (fun x => Snd.exec hc _ _ _ _)
    (fun x => by kernel_rfl)

end Go.Proofs.YtkngohdjlondgaaGreat
