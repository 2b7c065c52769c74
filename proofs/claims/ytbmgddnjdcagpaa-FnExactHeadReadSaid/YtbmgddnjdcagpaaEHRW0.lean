/- The walks, printed by program. -/
import Derived.Test.YtbmgddnjdcagpaaBase
import Derived.Test.YtbmgddnjdcagpaaEHRF0
set_option linter.unusedVariables false
set_option maxRecDepth 100000
namespace Go.Proofs.Ytbmgddnjdcagpaa
open Go.Am Go.Fn

def f46in : SS := ⟨[(0, (.ro (.list 5 (.int .u8))))], []⟩
def f46out : SS := ⟨[(0, (.h 100))], [(100, (.sl 5 (.int .u8)))]⟩
def f46s3 : SS := ⟨[(0, (.ro (.list 5 (.int .u8)))), (3, (.h 100)), (4, (.ro (.int .i64)))], [(100, (.sl 5 (.int .u8)))]⟩
def f46con (F : (List Int) → Option (Unit × (List Int))) : Con := ⟨f46in, f46out, 1, 1, fun x => F x⟩
def f46ctx (k : Nat) : Ctx := ⟨tyAt tys, conAt [], 22, fun _ => false⟩
theorem f46hc (k : Nat) : CtxOk Try.prog (f46ctx k) := ctxOk tys_ok mixed_ok (consOk_nil)
theorem f46ok (k : Nat) : FnOk Try.prog 46 (f46con (laws_toByteS k)) :=
  let hc := f46hc k
  fnOk (fn := Try.f46) (code := bodyOf Try.f46) (res := [.tmp 2]) hc (by kernel_rfl) (by kernel_rfl) (by decide) (by kernel_rfl) (by kernel_rfl) (by kernel_rfl) (Nat.le_of_ble_eq_true (by kernel_rfl)) _
    (fun x => Snd.seq (by kernel_rfl) (Snd.seq (by kernel_rfl) (Snd.seq (by kernel_rfl) (Snd.exec hc _ _ _ _) (Snd.seq (by kernel_rfl) (Snd.block (id := 0) (by kernel_rfl) (Snd.loop' (by kernel_rfl) f46s3 (fun n x => laws_toByteS.l3 k n x.1.1 x.1.2.2 x.2) _ (fun _ => rfl) (fun n3 => Snd.exec hc _ _ _ _) (fun n x => by kernel_rfl) k)) (Snd.exec hc _ _ _ _))) (Snd.exec hc _ _ _ _)) (Snd.exec hc _ _ _ _))
    (fun x => by kernel_rfl)

def f50in : SS := ⟨[(0, (.ro (.list 5 (.int .u8)))), (1, (.ro (.list 5 (.int .u8))))], []⟩
def f50out : SS := ⟨[(0, (.ro .bool))], []⟩
def f50s4 : SS := ⟨[(0, (.ro (.list 5 (.int .u8)))), (1, (.ro (.list 5 (.int .u8)))), (5, (.ro (.int .i64)))], []⟩
def f50con (F : (List Int) → (List Int) → Option Bool) : Con := ⟨f50in, f50out, 2, 1, fun x => F x.1 x.2⟩
def f50ctx (k : Nat) : Ctx := ⟨tyAt tys, conAt [], 26, fun _ => false⟩
theorem f50hc (k : Nat) : CtxOk Try.prog (f50ctx k) := ctxOk tys_ok mixed_ok (consOk_nil)
theorem f50ok (k : Nat) : FnOk Try.prog 50 (f50con (laws_eqByteS k)) :=
  let hc := f50hc k
  fnOk (fn := Try.f50) (code := bodyOf Try.f50) (res := [.tmp 4]) hc (by kernel_rfl) (by kernel_rfl) (by decide) (by kernel_rfl) (by kernel_rfl) (by kernel_rfl) (Nat.le_of_ble_eq_true (by kernel_rfl)) _
    (fun x => Snd.seq (by kernel_rfl) (Snd.seq (by kernel_rfl) (Snd.seq (by kernel_rfl) (Snd.exec hc _ _ _ _) (Snd.seq (by kernel_rfl) (Snd.block (id := 0) (by kernel_rfl) (Snd.loop' (by kernel_rfl) f50s4 (fun n x => laws_eqByteS.l4 k n x.1 x.2.1 x.2.2) _ (fun _ => rfl) (fun n4 => Snd.exec hc _ _ _ _) (fun n x => by kernel_rfl) k)) (Snd.exec hc _ _ _ _))) (Snd.exec hc _ _ _ _)) (Snd.exec hc _ _ _ _))
    (fun x => by kernel_rfl)

def f306in : SS := ⟨[(0, (.ro (.list 5 (.int .u8)))), (1, (.ro (.int .i64)))], []⟩
def f306out : SS := ⟨[(0, (.ro (.int .i64))), (1, (.ro (.int .i64))), (2, (.ro .bool))], []⟩
def f306s5 : SS := ⟨[(0, (.ro (.list 5 (.int .u8)))), (1, (.ro (.int .i64))), (7, (.ro (.int .i64))), (8, (.ro (.int .i64)))], []⟩
def f306con (F : (List Int) → Int → Option (Int × Int × Bool)) : Con := ⟨f306in, f306out, 2, 3, fun x => F x.1 x.2⟩
def f306ctx (k : Nat) : Ctx := ⟨tyAt tys, conAt [], 57, fun _ => false⟩
theorem f306hc (k : Nat) : CtxOk Try.prog (f306ctx k) := ctxOk tys_ok mixed_ok (consOk_nil)
theorem f306ok (k : Nat) : FnOk Try.prog 306 (f306con (spec_UvarGet k)) :=
  let hc := f306hc k
  fnOk (fn := Try.f306) (code := bodyOf Try.f306) (res := [.tmp 4, .tmp 5, .tmp 6]) hc (by kernel_rfl) (by kernel_rfl) (by decide) (by kernel_rfl) (by kernel_rfl) (by kernel_rfl) (Nat.le_of_ble_eq_true (by kernel_rfl)) _
    (fun x => Snd.seq (by kernel_rfl) (Snd.seq (by kernel_rfl) (Snd.seq (by kernel_rfl) (Snd.seq (by kernel_rfl) (Snd.exec hc _ _ _ _) (Snd.seq (by kernel_rfl) (Snd.block (id := 0) (by kernel_rfl) (Snd.loop' (by kernel_rfl) f306s5 (fun n x => spec_UvarGet.l5 k n x.1 x.2.1 x.2.2.1 x.2.2.2) _ (fun _ => rfl) (fun n5 => Snd.exec hc _ _ _ _) (fun n x => by kernel_rfl) k)) (Snd.exec hc _ _ _ _))) (Snd.exec hc _ _ _ _)) (Snd.exec hc _ _ _ _)) (Snd.exec hc _ _ _ _))
    (fun x => by kernel_rfl)

def f316in : SS := ⟨[(0, (.ro (.int .i64))), (1, (.ro (.int .i64)))], []⟩
def f316out : SS := ⟨[(0, (.ro (.int .i64)))], []⟩
def f316con (F : Int → Int → Option Int) : Con := ⟨f316in, f316out, 2, 1, fun x => F x.1 x.2⟩
def f316ctx (k : Nat) : Ctx := ⟨tyAt tys, conAt [], 16, fun _ => false⟩
theorem f316hc (k : Nat) : CtxOk Try.prog (f316ctx k) := ctxOk tys_ok mixed_ok (consOk_nil)
theorem f316ok (k : Nat) : FnOk Try.prog 316 (f316con (spec_l2Down k)) :=
  let hc := f316hc k
  fnOk (fn := Try.f316) (code := bodyOf Try.f316) (res := [.tmp 4]) hc (by kernel_rfl) (by kernel_rfl) (by decide) (by kernel_rfl) (by kernel_rfl) (by kernel_rfl) (Nat.le_of_ble_eq_true (by kernel_rfl)) _
    (fun x => Snd.exec hc _ _ _ _)
    (fun x => by kernel_rfl)

def f307in : SS := ⟨[(0, (.ro (.int .i64)))], []⟩
def f307out : SS := ⟨[(0, (.ro (.int .i64)))], []⟩
def f307con (F : Int → Option Int) : Con := ⟨f307in, f307out, 1, 1, fun x => F x⟩
def f307ctx (k : Nat) : Ctx := ⟨tyAt tys, conAt [(316, [f316con (spec_l2Down k)])], 11, fun _ => false⟩
theorem f307hc (k : Nat) : CtxOk Try.prog (f307ctx k) := ctxOk tys_ok mixed_ok (consOk_cons (f316ok k) (consOk_nil))
theorem f307ok (k : Nat) : FnOk Try.prog 307 (f307con (spec_Zag k)) :=
  let hc := f307hc k
  fnOk (fn := Try.f307) (code := bodyOf Try.f307) (res := [.tmp 2]) hc (by kernel_rfl) (by kernel_rfl) (by decide) (by kernel_rfl) (by kernel_rfl) (by kernel_rfl) (Nat.le_of_ble_eq_true (by kernel_rfl)) _
    (fun x => Snd.exec hc _ _ _ _)
    (fun x => by kernel_rfl)

def f216in : SS := ⟨[(0, (.ro (.list 5 (.int .u8)))), (1, (.ro (.int .i64)))], []⟩
def f216out : SS := ⟨[(0, (.ro (.int .i64))), (1, (.ro (.int .i64))), (2, (.ro .bool))], []⟩
def f216con (F : (List Int) → Int → Option (Int × Int × Bool)) : Con := ⟨f216in, f216out, 2, 3, fun x => F x.1 x.2⟩
def f216ctx (k : Nat) : Ctx := ⟨tyAt tys, conAt [(306, [f306con (spec_UvarGet k)]), (307, [f307con (spec_Zag k)])], 22, fun _ => false⟩
theorem f216hc (k : Nat) : CtxOk Try.prog (f216ctx k) := ctxOk tys_ok mixed_ok (consOk_cons (f306ok k) (consOk_cons (f307ok k) (consOk_nil)))
theorem f216ok (k : Nat) : FnOk Try.prog 216 (f216con (spec_ZigGet k)) :=
  let hc := f216hc k
  fnOk (fn := Try.f216) (code := bodyOf Try.f216) (res := [.tmp 4, .tmp 5, .tmp 6]) hc (by kernel_rfl) (by kernel_rfl) (by decide) (by kernel_rfl) (by kernel_rfl) (by kernel_rfl) (Nat.le_of_ble_eq_true (by kernel_rfl)) _
    (fun x => Snd.exec hc _ _ _ _)
    (fun x => by kernel_rfl)

def f101in : SS := ⟨[(0, (.ro (.int .i64))), (1, (.ro (.int .i64))), (2, (.ro (.int .i64)))], []⟩
def f101out : SS := ⟨[(0, (.ro .bool))], []⟩
def f101con (F : Int → Int → Int → Option Bool) : Con := ⟨f101in, f101out, 3, 1, fun x => F x.1 x.2.1 x.2.2⟩
def f101ctx (k : Nat) : Ctx := ⟨tyAt tys, conAt [], 15, fun _ => false⟩
theorem f101hc (k : Nat) : CtxOk Try.prog (f101ctx k) := ctxOk tys_ok mixed_ok (consOk_nil)
theorem f101ok (k : Nat) : FnOk Try.prog 101 (f101con (spec_l1In k)) :=
  let hc := f101hc k
  fnOk (fn := Try.f101) (code := bodyOf Try.f101) (res := [.tmp 6]) hc (by kernel_rfl) (by kernel_rfl) (by decide) (by kernel_rfl) (by kernel_rfl) (by kernel_rfl) (Nat.le_of_ble_eq_true (by kernel_rfl)) _
    (fun x => Snd.exec hc _ _ _ _)
    (fun x => by kernel_rfl)

def f217in : SS := ⟨[(0, (.ro (.int .i64)))], []⟩
def f217out : SS := ⟨[(0, (.ro .bool))], []⟩
def f217con (F : Int → Option Bool) : Con := ⟨f217in, f217out, 1, 1, fun x => F x⟩
def f217ctx (k : Nat) : Ctx := ⟨tyAt tys, conAt [(101, [f101con (spec_l1In k)])], 5, fun _ => false⟩
theorem f217hc (k : Nat) : CtxOk Try.prog (f217ctx k) := ctxOk tys_ok mixed_ok (consOk_cons (f101ok k) (consOk_nil))
theorem f217ok (k : Nat) : FnOk Try.prog 217 (f217con (spec_l4Int k)) :=
  let hc := f217hc k
  fnOk (fn := Try.f217) (code := bodyOf Try.f217) (res := [.tmp 2]) hc (by kernel_rfl) (by kernel_rfl) (by decide) (by kernel_rfl) (by kernel_rfl) (by kernel_rfl) (Nat.le_of_ble_eq_true (by kernel_rfl)) _
    (fun x => Snd.exec hc _ _ _ _)
    (fun x => by kernel_rfl)

def f218in : SS := ⟨[(0, (.ro (.list 5 (.int .u8)))), (1, (.ro (.int .i64)))], []⟩
def f218out : SS := ⟨[(0, (.ro .str)), (1, (.ro (.int .i64))), (2, (.ro (.int .i64)))], []⟩
def f218con (F : (List Int) → Int → Option (ByteArray × Int × Int)) : Con := ⟨f218in, f218out, 2, 3, fun x => F x.1 x.2⟩
def f218ctx (k : Nat) : Ctx := ⟨tyAt tys, conAt [(306, [f306con (spec_UvarGet k)])], 44, fun _ => false⟩
theorem f218hc (k : Nat) : CtxOk Try.prog (f218ctx k) := ctxOk tys_ok mixed_ok (consOk_cons (f306ok k) (consOk_nil))
theorem f218ok (k : Nat) : FnOk Try.prog 218 (f218con (spec_l4Text k)) :=
  let hc := f218hc k
  fnOk (fn := Try.f218) (code := bodyOf Try.f218) (res := [.tmp 4, .tmp 5, .tmp 6]) hc (by kernel_rfl) (by kernel_rfl) (by decide) (by kernel_rfl) (by kernel_rfl) (by kernel_rfl) (Nat.le_of_ble_eq_true (by kernel_rfl)) _
    (fun x => Snd.exec hc _ _ _ _)
    (fun x => by kernel_rfl)

def f309in : SS := ⟨[(0, (.ro (.int .i64)))], []⟩
def f309out : SS := ⟨[(0, (.ro .bool))], []⟩
def f309s9 : SS := ⟨[(4, (.ro .bool))], []⟩
def f309con (F : Int → Option Bool) : Con := ⟨f309in, f309out, 1, 1, fun x => F x⟩
def f309ctx (k : Nat) : Ctx := ⟨tyAt tys, conAt [], 12, fun _ => false⟩
theorem f309hc (k : Nat) : CtxOk Try.prog (f309ctx k) := ctxOk tys_ok mixed_ok (consOk_nil)
theorem f309ok (k : Nat) : FnOk Try.prog 309 (f309con (spec_l4Kind k)) :=
  let hc := f309hc k
  fnOk (fn := Try.f309) (code := bodyOf Try.f309) (res := [.tmp 2]) hc (by kernel_rfl) (by kernel_rfl) (by decide) (by kernel_rfl) (by kernel_rfl) (by kernel_rfl) (Nat.le_of_ble_eq_true (by kernel_rfl)) _
    (fun x => Snd.seq (by kernel_rfl) (Snd.seq (by kernel_rfl) (Snd.exec hc _ _ _ _) (Snd.seq (by kernel_rfl) (Snd.block (id := 0) (by kernel_rfl) (Snd.seq (by kernel_rfl) (Snd.cut (Snd.exec hc _ _ _ _) ⟨f309s9, fun x => spec_l4Kind.c9 k x⟩ (fun x => by kernel_rfl)) (Snd.exec hc _ _ _ _))) (Snd.exec hc _ _ _ _))) (Snd.exec hc _ _ _ _))
    (fun x => by kernel_rfl)

def f308in : SS := ⟨[(0, (.ro (.int .i64)))], []⟩
def f308out : SS := ⟨[(0, (.ro .bool))], []⟩
def f308con (F : Int → Option Bool) : Con := ⟨f308in, f308out, 1, 1, fun x => F x⟩
def f308ctx (k : Nat) : Ctx := ⟨tyAt tys, conAt [(309, [f309con (spec_l4Kind k)])], 13, fun _ => false⟩
theorem f308hc (k : Nat) : CtxOk Try.prog (f308ctx k) := ctxOk tys_ok mixed_ok (consOk_cons (f309ok k) (consOk_nil))
theorem f308ok (k : Nat) : FnOk Try.prog 308 (f308con (spec_l4Item k)) :=
  let hc := f308hc k
  fnOk (fn := Try.f308) (code := bodyOf Try.f308) (res := [.tmp 2]) hc (by kernel_rfl) (by kernel_rfl) (by decide) (by kernel_rfl) (by kernel_rfl) (by kernel_rfl) (Nat.le_of_ble_eq_true (by kernel_rfl)) _
    (fun x => Snd.exec hc _ _ _ _)
    (fun x => by kernel_rfl)

def f219in : SS := ⟨[(0, (.ro (.list 5 (.int .u8)))), (1, (.ro (.int .i64)))], []⟩
def f219out : SS := ⟨[(0, (.ro (.int .i64))), (1, (.ro (.int .i64))), (2, (.ro (.int .i64))), (3, (.ro (.int .i64)))], []⟩
def f219s11 : SS := ⟨[(1, (.ro (.int .i64))), (8, (.ro (.int .i64))), (9, (.ro (.int .i64)))], []⟩
def f219con (F : (List Int) → Int → Option (Int × Int × Int × Int)) : Con := ⟨f219in, f219out, 2, 4, fun x => F x.1 x.2⟩
def f219ctx (k : Nat) : Ctx := ⟨tyAt tys, conAt [(306, [f306con (spec_UvarGet k)]), (308, [f308con (spec_l4Item k)])], 62, fun _ => false⟩
theorem f219hc (k : Nat) : CtxOk Try.prog (f219ctx k) := ctxOk tys_ok mixed_ok (consOk_cons (f306ok k) (consOk_cons (f308ok k) (consOk_nil)))
theorem f219ok (k : Nat) : FnOk Try.prog 219 (f219con (spec_l4Many k)) :=
  let hc := f219hc k
  fnOk (fn := Try.f219) (code := bodyOf Try.f219) (res := [.tmp 4, .tmp 5, .tmp 6, .tmp 7]) hc (by kernel_rfl) (by kernel_rfl) (by decide) (by kernel_rfl) (by kernel_rfl) (by kernel_rfl) (Nat.le_of_ble_eq_true (by kernel_rfl)) _
    (fun x => Snd.seq (by kernel_rfl) (Snd.seq (by kernel_rfl) (Snd.seq (by kernel_rfl) (Snd.seq (by kernel_rfl) (Snd.seq (by kernel_rfl) (Snd.cut (Snd.exec hc _ _ _ _) ⟨f219s11, fun x => spec_l4Many.c11 k x.1 x.2.1 x.2.2⟩ (fun x => by kernel_rfl)) (Snd.exec hc _ _ _ _)) (Snd.exec hc _ _ _ _)) (Snd.exec hc _ _ _ _)) (Snd.exec hc _ _ _ _)) (Snd.exec hc _ _ _ _))
    (fun x => by kernel_rfl)

def f220in : SS := ⟨[(0, (.ro (.list 5 (.int .u8)))), (1, (.ro (.int .i64))), (2, (.ro (.int .i64)))], []⟩
def f220out : SS := ⟨[(0, (.ro (.int .i64))), (1, (.ro (.int .i64))), (2, (.ro (.int .i64))), (3, (.ro (.int .i64)))], []⟩
def f220s16 : SS := ⟨[(1, (.ro (.int .i64))), (2, (.ro (.int .i64))), (10, (.ro (.int .i64))), (12, (.ro (.int .i64)))], []⟩
def f220con (F : (List Int) → Int → Int → Option (Int × Int × Int × Int)) : Con := ⟨f220in, f220out, 3, 4, fun x => F x.1 x.2.1 x.2.2⟩
def f220ctx (k : Nat) : Ctx := ⟨tyAt tys, conAt [(101, [f101con (spec_l1In k)]), (216, [f216con (spec_ZigGet k)]), (309, [f309con (spec_l4Kind k)])], 71, fun _ => false⟩
theorem f220hc (k : Nat) : CtxOk Try.prog (f220ctx k) := ctxOk tys_ok mixed_ok (consOk_cons (f101ok k) (consOk_cons (f216ok k) (consOk_cons (f309ok k) (consOk_nil))))
theorem f220ok (k : Nat) : FnOk Try.prog 220 (f220con (spec_l4Head k)) :=
  let hc := f220hc k
  fnOk (fn := Try.f220) (code := bodyOf Try.f220) (res := [.tmp 6, .tmp 7, .tmp 8, .tmp 9]) hc (by kernel_rfl) (by kernel_rfl) (by decide) (by kernel_rfl) (by kernel_rfl) (by kernel_rfl) (Nat.le_of_ble_eq_true (by kernel_rfl)) _
    (fun x => Snd.seq (by kernel_rfl) (Snd.seq (by kernel_rfl) (Snd.seq (by kernel_rfl) (Snd.seq (by kernel_rfl) (Snd.seq (by kernel_rfl) (Snd.seq (by kernel_rfl) (Snd.seq (by kernel_rfl) (Snd.seq (by kernel_rfl) (Snd.cut (Snd.exec hc _ _ _ _) ⟨f220s16, fun x => spec_l4Head.c16 k x.1 x.2.1 x.2.2.1 x.2.2.2⟩ (fun x => by kernel_rfl)) (Snd.exec hc _ _ _ _)) (Snd.exec hc _ _ _ _)) (Snd.exec hc _ _ _ _)) (Snd.exec hc _ _ _ _)) (Snd.exec hc _ _ _ _)) (Snd.exec hc _ _ _ _)) (Snd.exec hc _ _ _ _)) (Snd.exec hc _ _ _ _))
    (fun x => by kernel_rfl)

def f112in : SS := ⟨[(0, (.ro (.list 5 (.int .u8)))), (1, (.ro (.int .i64))), (2, (.ro (.int .i64))), (3, (.ro (.int .i64))), (4, (.ro (.int .i64))), (5, (.h 10))], [(10, (.sl 170 (.st (.cons (.int .i64) (.cons (.int .i64) (.cons (.int .i64) (.cons .str (.cons (.int .i64) .nil))))))))]⟩
def f112out : SS := ⟨[(0, (.h 100)), (1, (.ro (.int .i64))), (2, (.ro (.int .i64)))], [(100, (.sl 170 (.st (.cons (.int .i64) (.cons (.int .i64) (.cons (.int .i64) (.cons .str (.cons (.int .i64) .nil))))))))]⟩
def f112s24 : SS := ⟨[(0, (.ro (.list 5 (.int .u8)))), (4, (.ro (.int .i64))), (5, (.h 100)), (22, (.ro (.int .i64))), (23, (.ro (.int .i64))), (24, (.ro (.int .i64))), (25, (.ro (.int .i64))), (26, (.ro (.int .i64)))], [(100, (.sl 170 (.st (.cons (.int .i64) (.cons (.int .i64) (.cons (.int .i64) (.cons .str (.cons (.int .i64) .nil))))))))]⟩
def f112s30 : SS := ⟨[(0, (.ro (.list 5 (.int .u8)))), (1, (.ro (.int .i64))), (4, (.ro (.int .i64))), (5, (.h 100)), (15, (.ro (.int .i64))), (27, (.ro (.int .i64))), (28, (.ro (.int .i64)))], [(100, (.sl 170 (.st (.cons (.int .i64) (.cons (.int .i64) (.cons (.int .i64) (.cons .str (.cons (.int .i64) .nil))))))))]⟩
def f112s8 : SS := ⟨[(0, (.ro (.list 5 (.int .u8)))), (1, (.ro (.int .i64))), (2, (.ro (.int .i64))), (4, (.ro (.int .i64))), (5, (.h 100)), (15, (.ro (.int .i64))), (49, (.ro (.int .i64))), (50, (.ro .bool))], [(100, (.sl 170 (.st (.cons (.int .i64) (.cons (.int .i64) (.cons (.int .i64) (.cons .str (.cons (.int .i64) .nil))))))))]⟩
def f112con (F : (List Int) → Int → Int → Int → Int → (List TNode) → Option ((Unit × Int × Int) × (List TNode))) : Con := ⟨f112in, f112out, 6, 3, fun x => F x.1.1 x.1.2.1 x.1.2.2.1 x.1.2.2.2.1 x.1.2.2.2.2.1 x.2⟩
def f112ctx (k : Nat) (S112 : (List Int) → Int → Int → Int → Int → (List TNode) → Option ((Unit × Int × Int) × (List TNode))) : Ctx := ⟨tyAt tys, conAt [(112, [f112con S112]), (216, [f216con (spec_ZigGet k)]), (217, [f217con (spec_l4Int k)]), (218, [f218con (spec_l4Text k)]), (219, [f219con (spec_l4Many k)]), (220, [f220con (spec_l4Head k)])], 183, fun _ => false⟩
theorem f112hc (k : Nat) (S112 : (List Int) → Int → Int → Int → Int → (List TNode) → Option ((Unit × Int × Int) × (List TNode))) (h112 : FnOk Try.prog 112 (f112con S112)) : CtxOk Try.prog (f112ctx k S112) := ctxOk tys_ok mixed_ok (consOk_cons (h112) (consOk_cons (f216ok k) (consOk_cons (f217ok k) (consOk_cons (f218ok k) (consOk_cons (f219ok k) (consOk_cons (f220ok k) (consOk_nil)))))))
theorem f112okb (k : Nat) (S112 : (List Int) → Int → Int → Int → Int → (List TNode) → Option ((Unit × Int × Int) × (List TNode))) (h112 : FnOk Try.prog 112 (f112con S112)) : FnOk Try.prog 112 (f112con (spec_l4Read.b k S112)) :=
  let hc := f112hc k S112 h112
  fnOk (fn := Try.f112) (code := bodyOf Try.f112) (res := [.tmp 12, .tmp 13, .tmp 14]) hc (by kernel_rfl) (by kernel_rfl) (by decide) (by kernel_rfl) (by kernel_rfl) (by kernel_rfl) (Nat.le_of_ble_eq_true (by kernel_rfl)) _
    (fun x => Snd.seq (by kernel_rfl) (Snd.seq (by kernel_rfl) (Snd.seq (by kernel_rfl) (Snd.seq (by kernel_rfl) (Snd.seq (by kernel_rfl) (Snd.exec hc _ _ _ _) (Snd.seq (by kernel_rfl) (Snd.block (id := 0) (by kernel_rfl) (Snd.seq (by kernel_rfl) (Snd.cut (Snd.cond (x := .tmp 50) (by kernel_rfl) (Snd.exec hc _ _ _ _) (Snd.seq (by kernel_rfl) (Snd.cond (x := .tmp 78) (by kernel_rfl) (Snd.exec hc _ _ _ _) (Snd.seq (by kernel_rfl) (Snd.cond (x := .tmp 95) (by kernel_rfl) (Snd.seq (by kernel_rfl) (Snd.seq (by kernel_rfl) (Snd.seq (by kernel_rfl) (Snd.seq (by kernel_rfl) (Snd.exec hc _ _ _ _) (Snd.seq (by kernel_rfl) (Snd.block (id := 1) (by kernel_rfl) (Snd.loop' (by kernel_rfl) f112s24 (fun n x => spec_l4Read.l24 k S112 n x.1.1 x.1.2.1 x.1.2.2.2.1 x.1.2.2.2.2.1 x.1.2.2.2.2.2.1 x.1.2.2.2.2.2.2.1 x.1.2.2.2.2.2.2.2 x.2) _ (fun _ => rfl) (fun n24 => Snd.exec hc _ _ _ _) (fun n x => by kernel_rfl) k)) (Snd.exec hc _ _ _ _))) (Snd.exec hc _ _ _ _)) (Snd.exec hc _ _ _ _)) (Snd.exec hc _ _ _ _)) (Snd.seq (by kernel_rfl) (Snd.cond (x := .tmp 138) (by kernel_rfl) (Snd.seq (by kernel_rfl) (Snd.block (id := 3) (by kernel_rfl) (Snd.loop' (by kernel_rfl) f112s30 (fun n x => spec_l4Read.l30 k S112 n x.1.1 x.1.2.1 x.1.2.2.1 x.1.2.2.2.2.1 x.1.2.2.2.2.2.1 x.1.2.2.2.2.2.2 x.2) _ (fun _ => rfl) (fun n30 => Snd.exec hc _ _ _ _) (fun n x => by kernel_rfl) k)) (Snd.exec hc _ _ _ _)) (Snd.exec hc _ _ _ _)) (Snd.exec hc _ _ _ _))) (Snd.exec hc _ _ _ _))) (Snd.exec hc _ _ _ _))) ⟨f112s8, fun x => spec_l4Read.c8 k S112 x.1.1 x.1.2.1 x.1.2.2.1 x.1.2.2.2.1 x.1.2.2.2.2.2.1 x.1.2.2.2.2.2.2.1 x.1.2.2.2.2.2.2.2 x.2⟩ (fun x => by kernel_rfl)) (Snd.exec hc _ _ _ _))) (Snd.exec hc _ _ _ _))) (Snd.exec hc _ _ _ _)) (Snd.exec hc _ _ _ _)) (Snd.exec hc _ _ _ _)) (Snd.exec hc _ _ _ _))
    (fun x => by kernel_rfl)
theorem f112rec (k : Nat) : ∀ d, FnOk Try.prog 112 (f112con (spec_l4Read.d k d))
  | 0 => FnOk_none (fun _ => rfl)
  | d + 1 => let ih := f112rec k d
    f112okb k (spec_l4Read.d k d) ih
theorem f112ok (k : Nat) : FnOk Try.prog 112 (f112con (spec_l4Read k)) := (f112rec k k)

def f32in : SS := ⟨[(0, (.ro (.list 5 (.int .u8)))), (1, (.ro (.int .i64)))], []⟩
def f32out : SS := ⟨[(0, (.h 100)), (1, (.ro (.int .i64))), (2, (.ro (.int .i64)))], [(100, (.sl 170 (.st (.cons (.int .i64) (.cons (.int .i64) (.cons (.int .i64) (.cons .str (.cons (.int .i64) .nil))))))))]⟩
def f32con (F : (List Int) → Int → Option ((Unit × Int × Int) × (List TNode))) : Con := ⟨f32in, f32out, 2, 3, fun x => F x.1 x.2⟩
def f32ctx (k : Nat) : Ctx := ⟨tyAt tys, conAt [(112, [f112con (spec_l4Read k)])], 34, fun _ => false⟩
theorem f32hc (k : Nat) : CtxOk Try.prog (f32ctx k) := ctxOk tys_ok mixed_ok (consOk_cons (f112ok k) (consOk_nil))
theorem f32ok (k : Nat) : FnOk Try.prog 32 (f32con (spec_TreeRead k)) :=
  let hc := f32hc k
  fnOk (fn := Try.f32) (code := bodyOf Try.f32) (res := [.tmp 4, .tmp 5, .tmp 6]) hc (by kernel_rfl) (by kernel_rfl) (by decide) (by kernel_rfl) (by kernel_rfl) (by kernel_rfl) (Nat.le_of_ble_eq_true (by kernel_rfl)) _
    (fun x => Snd.exec hc _ _ _ _)
    (fun x => by kernel_rfl)

def f233in : SS := ⟨[(0, (.ro (.int .i64)))], []⟩
def f233out : SS := ⟨[(0, (.ro .bool))], []⟩
def f233s7 : SS := ⟨[(4, (.ro .bool))], []⟩
def f233con (F : Int → Option Bool) : Con := ⟨f233in, f233out, 1, 1, fun x => F x⟩
def f233ctx (k : Nat) : Ctx := ⟨tyAt tys, conAt [], 10, fun _ => false⟩
theorem f233hc (k : Nat) : CtxOk Try.prog (f233ctx k) := ctxOk tys_ok mixed_ok (consOk_nil)
theorem f233ok (k : Nat) : FnOk Try.prog 233 (f233con (spec_l5Type k)) :=
  let hc := f233hc k
  fnOk (fn := Try.f233) (code := bodyOf Try.f233) (res := [.tmp 2]) hc (by kernel_rfl) (by kernel_rfl) (by decide) (by kernel_rfl) (by kernel_rfl) (by kernel_rfl) (Nat.le_of_ble_eq_true (by kernel_rfl)) _
    (fun x => Snd.seq (by kernel_rfl) (Snd.seq (by kernel_rfl) (Snd.exec hc _ _ _ _) (Snd.seq (by kernel_rfl) (Snd.block (id := 0) (by kernel_rfl) (Snd.seq (by kernel_rfl) (Snd.cut (Snd.exec hc _ _ _ _) ⟨f233s7, fun x => spec_l5Type.c7 k x⟩ (fun x => by kernel_rfl)) (Snd.exec hc _ _ _ _))) (Snd.exec hc _ _ _ _))) (Snd.exec hc _ _ _ _))
    (fun x => by kernel_rfl)

def f171in : SS := ⟨[(0, (.ro (.st (.cons (.int .i64) (.cons (.int .i64) (.cons (.int .i64) .nil))))))], []⟩
def f171out : SS := ⟨[(0, (.ro .bool))], []⟩
def f171con (F : TLeaf → Option Bool) : Con := ⟨f171in, f171out, 1, 1, fun x => F x⟩
def f171ctx (k : Nat) : Ctx := ⟨tyAt tys, conAt [(101, [f101con (spec_l1In k)]), (233, [f233con (spec_l5Type k)])], 18, fun _ => false⟩
theorem f171hc (k : Nat) : CtxOk Try.prog (f171ctx k) := ctxOk tys_ok mixed_ok (consOk_cons (f101ok k) (consOk_cons (f233ok k) (consOk_nil)))
theorem f171ok (k : Nat) : FnOk Try.prog 171 (f171con (spec_LeafOk k)) :=
  let hc := f171hc k
  fnOk (fn := Try.f171) (code := bodyOf Try.f171) (res := [.tmp 2]) hc (by kernel_rfl) (by kernel_rfl) (by decide) (by kernel_rfl) (by kernel_rfl) (by kernel_rfl) (Nat.le_of_ble_eq_true (by kernel_rfl)) _
    (fun x => Snd.exec hc _ _ _ _)
    (fun x => by kernel_rfl)

def f259in : SS := ⟨[(0, (.ro (.list 170 (.st (.cons (.int .i64) (.cons (.int .i64) (.cons (.int .i64) (.cons .str (.cons (.int .i64) .nil))))))))), (1, (.ro (.int .i64)))], []⟩
def f259out : SS := ⟨[(0, (.ro (.int .i64)))], []⟩
def f259s3 : SS := ⟨[(0, (.ro (.list 170 (.st (.cons (.int .i64) (.cons (.int .i64) (.cons (.int .i64) (.cons .str (.cons (.int .i64) .nil))))))))), (1, (.ro (.int .i64))), (5, (.ro (.int .i64))), (6, (.ro (.int .i64)))], []⟩
def f259con (F : (List TNode) → Int → Option Int) : Con := ⟨f259in, f259out, 2, 1, fun x => F x.1 x.2⟩
def f259ctx (k : Nat) (S259 : (List TNode) → Int → Option Int) : Ctx := ⟨tyAt tys, conAt [(259, [f259con S259])], 22, fun _ => false⟩
theorem f259hc (k : Nat) (S259 : (List TNode) → Int → Option Int) (h259 : FnOk Try.prog 259 (f259con S259)) : CtxOk Try.prog (f259ctx k S259) := ctxOk tys_ok mixed_ok (consOk_cons (h259) (consOk_nil))
theorem f259okb (k : Nat) (S259 : (List TNode) → Int → Option Int) (h259 : FnOk Try.prog 259 (f259con S259)) : FnOk Try.prog 259 (f259con (spec_l4After.b k S259)) :=
  let hc := f259hc k S259 h259
  fnOk (fn := Try.f259) (code := bodyOf Try.f259) (res := [.tmp 4]) hc (by kernel_rfl) (by kernel_rfl) (by decide) (by kernel_rfl) (by kernel_rfl) (by kernel_rfl) (Nat.le_of_ble_eq_true (by kernel_rfl)) _
    (fun x => Snd.seq (by kernel_rfl) (Snd.seq (by kernel_rfl) (Snd.seq (by kernel_rfl) (Snd.exec hc _ _ _ _) (Snd.seq (by kernel_rfl) (Snd.block (id := 0) (by kernel_rfl) (Snd.loop' (by kernel_rfl) f259s3 (fun n x => spec_l4After.l3 k S259 n x.1 x.2.1 x.2.2.1 x.2.2.2) _ (fun _ => rfl) (fun n3 => Snd.exec hc _ _ _ _) (fun n x => by kernel_rfl) k)) (Snd.exec hc _ _ _ _))) (Snd.exec hc _ _ _ _)) (Snd.exec hc _ _ _ _))
    (fun x => by kernel_rfl)
theorem f259rec (k : Nat) : ∀ d, FnOk Try.prog 259 (f259con (spec_l4After.d k d))
  | 0 => FnOk_none (fun _ => rfl)
  | d + 1 => let ih := f259rec k d
    f259okb k (spec_l4After.d k d) ih
theorem f259ok (k : Nat) : FnOk Try.prog 259 (f259con (spec_l4After k)) := (f259rec k k)

def f173in : SS := ⟨[(0, (.ro (.list 170 (.st (.cons (.int .i64) (.cons (.int .i64) (.cons (.int .i64) (.cons .str (.cons (.int .i64) .nil))))))))), (1, (.ro (.int .i64))), (2, (.ro (.int .i64)))], []⟩
def f173out : SS := ⟨[(0, (.ro (.int .i64)))], []⟩
def f173s5 : SS := ⟨[(0, (.ro (.list 170 (.st (.cons (.int .i64) (.cons (.int .i64) (.cons (.int .i64) (.cons .str (.cons (.int .i64) .nil))))))))), (1, (.ro (.int .i64))), (2, (.ro (.int .i64))), (7, (.ro (.int .i64))), (8, (.ro (.int .i64)))], []⟩
def f173con (F : (List TNode) → Int → Int → Option Int) : Con := ⟨f173in, f173out, 3, 1, fun x => F x.1 x.2.1 x.2.2⟩
def f173ctx (k : Nat) : Ctx := ⟨tyAt tys, conAt [(259, [f259con (spec_l4After k)])], 37, fun _ => false⟩
theorem f173hc (k : Nat) : CtxOk Try.prog (f173ctx k) := ctxOk tys_ok mixed_ok (consOk_cons (f259ok k) (consOk_nil))
theorem f173ok (k : Nat) : FnOk Try.prog 173 (f173con (spec_l4Find k)) :=
  let hc := f173hc k
  fnOk (fn := Try.f173) (code := bodyOf Try.f173) (res := [.tmp 6]) hc (by kernel_rfl) (by kernel_rfl) (by decide) (by kernel_rfl) (by kernel_rfl) (by kernel_rfl) (Nat.le_of_ble_eq_true (by kernel_rfl)) _
    (fun x => Snd.seq (by kernel_rfl) (Snd.seq (by kernel_rfl) (Snd.seq (by kernel_rfl) (Snd.seq (by kernel_rfl) (Snd.exec hc _ _ _ _) (Snd.seq (by kernel_rfl) (Snd.block (id := 0) (by kernel_rfl) (Snd.loop' (by kernel_rfl) f173s5 (fun n x => spec_l4Find.l5 k n x.1 x.2.1 x.2.2.1 x.2.2.2.1 x.2.2.2.2) _ (fun _ => rfl) (fun n5 => Snd.exec hc _ _ _ _) (fun n x => by kernel_rfl) k)) (Snd.exec hc _ _ _ _))) (Snd.exec hc _ _ _ _)) (Snd.exec hc _ _ _ _)) (Snd.exec hc _ _ _ _))
    (fun x => by kernel_rfl)

def f141in : SS := ⟨[(0, (.ro (.list 170 (.st (.cons (.int .i64) (.cons (.int .i64) (.cons (.int .i64) (.cons .str (.cons (.int .i64) .nil))))))))), (1, (.ro (.int .i64))), (2, (.ro (.int .i64)))], []⟩
def f141out : SS := ⟨[(0, (.ro (.int .i64))), (1, (.ro .bool))], []⟩
def f141con (F : (List TNode) → Int → Int → Option (Int × Bool)) : Con := ⟨f141in, f141out, 3, 2, fun x => F x.1 x.2.1 x.2.2⟩
def f141ctx (k : Nat) : Ctx := ⟨tyAt tys, conAt [(173, [f173con (spec_l4Find k)])], 36, fun _ => false⟩
theorem f141hc (k : Nat) : CtxOk Try.prog (f141ctx k) := ctxOk tys_ok mixed_ok (consOk_cons (f173ok k) (consOk_nil))
theorem f141ok (k : Nat) : FnOk Try.prog 141 (f141con (spec_l4NumOf k)) :=
  let hc := f141hc k
  fnOk (fn := Try.f141) (code := bodyOf Try.f141) (res := [.tmp 6, .tmp 7]) hc (by kernel_rfl) (by kernel_rfl) (by decide) (by kernel_rfl) (by kernel_rfl) (by kernel_rfl) (Nat.le_of_ble_eq_true (by kernel_rfl)) _
    (fun x => Snd.exec hc _ _ _ _)
    (fun x => by kernel_rfl)

def f172in : SS := ⟨[(0, (.ro (.list 170 (.st (.cons (.int .i64) (.cons (.int .i64) (.cons (.int .i64) (.cons .str (.cons (.int .i64) .nil))))))))), (1, (.ro (.int .i64))), (2, (.ro (.list 3 (.int .i64))))], []⟩
def f172out : SS := ⟨[(0, (.h 100)), (1, (.ro .bool))], [(100, (.sl 3 (.int .i64)))]⟩
def f172s3 : SS := ⟨[(0, (.ro (.list 170 (.st (.cons (.int .i64) (.cons (.int .i64) (.cons (.int .i64) (.cons .str (.cons (.int .i64) .nil))))))))), (1, (.ro (.int .i64))), (2, (.ro (.list 3 (.int .i64)))), (8, (.h 100)), (9, (.ro (.int .i64)))], [(100, (.sl 3 (.int .i64)))]⟩
def f172con (F : (List TNode) → Int → (List Int) → Option ((Unit × Bool) × (List Int))) : Con := ⟨f172in, f172out, 3, 2, fun x => F x.1 x.2.1 x.2.2⟩
def f172ctx (k : Nat) : Ctx := ⟨tyAt tys, conAt [(141, [f141con (spec_l4NumOf k)])], 37, fun _ => false⟩
theorem f172hc (k : Nat) : CtxOk Try.prog (f172ctx k) := ctxOk tys_ok mixed_ok (consOk_cons (f141ok k) (consOk_nil))
theorem f172ok (k : Nat) : FnOk Try.prog 172 (f172con (spec_l16Ids k)) :=
  let hc := f172hc k
  fnOk (fn := Try.f172) (code := bodyOf Try.f172) (res := [.tmp 6, .tmp 7]) hc (by kernel_rfl) (by kernel_rfl) (by decide) (by kernel_rfl) (by kernel_rfl) (by kernel_rfl) (Nat.le_of_ble_eq_true (by kernel_rfl)) _
    (fun x => Snd.seq (by kernel_rfl) (Snd.seq (by kernel_rfl) (Snd.seq (by kernel_rfl) (Snd.exec hc _ _ _ _) (Snd.seq (by kernel_rfl) (Snd.block (id := 0) (by kernel_rfl) (Snd.loop' (by kernel_rfl) f172s3 (fun n x => spec_l16Ids.l3 k n x.1.1 x.1.2.1 x.1.2.2.1 x.1.2.2.2.2 x.2) _ (fun _ => rfl) (fun n3 => Snd.exec hc _ _ _ _) (fun n x => by kernel_rfl) k)) (Snd.exec hc _ _ _ _))) (Snd.exec hc _ _ _ _)) (Snd.exec hc _ _ _ _))
    (fun x => by kernel_rfl)

def f280in : SS := ⟨[(0, (.ro (.list 170 (.st (.cons (.int .i64) (.cons (.int .i64) (.cons (.int .i64) (.cons .str (.cons (.int .i64) .nil))))))))), (1, (.ro (.int .i64)))], []⟩
def f280out : SS := ⟨[(0, (.ro (.int .i64)))], []⟩
def f280con (F : (List TNode) → Int → Option Int) : Con := ⟨f280in, f280out, 2, 1, fun x => F x.1 x.2⟩
def f280ctx (k : Nat) : Ctx := ⟨tyAt tys, conAt [(173, [f173con (spec_l4Find k)])], 20, fun _ => false⟩
theorem f280hc (k : Nat) : CtxOk Try.prog (f280ctx k) := ctxOk tys_ok mixed_ok (consOk_cons (f173ok k) (consOk_nil))
theorem f280ok (k : Nat) : FnOk Try.prog 280 (f280con (spec_l16Part k)) :=
  let hc := f280hc k
  fnOk (fn := Try.f280) (code := bodyOf Try.f280) (res := [.tmp 4]) hc (by kernel_rfl) (by kernel_rfl) (by decide) (by kernel_rfl) (by kernel_rfl) (by kernel_rfl) (Nat.le_of_ble_eq_true (by kernel_rfl)) _
    (fun x => Snd.exec hc _ _ _ _)
    (fun x => by kernel_rfl)

def f330in : SS := ⟨[(0, (.ro (.list 170 (.st (.cons (.int .i64) (.cons (.int .i64) (.cons (.int .i64) (.cons .str (.cons (.int .i64) .nil))))))))), (1, (.ro (.int .i64))), (2, (.ro (.int .i64)))], []⟩
def f330out : SS := ⟨[(0, (.ro .str)), (1, (.ro .bool))], []⟩
def f330con (F : (List TNode) → Int → Int → Option (ByteArray × Bool)) : Con := ⟨f330in, f330out, 3, 2, fun x => F x.1 x.2.1 x.2.2⟩
def f330ctx (k : Nat) : Ctx := ⟨tyAt tys, conAt [(173, [f173con (spec_l4Find k)])], 28, fun _ => false⟩
theorem f330hc (k : Nat) : CtxOk Try.prog (f330ctx k) := ctxOk tys_ok mixed_ok (consOk_cons (f173ok k) (consOk_nil))
theorem f330ok (k : Nat) : FnOk Try.prog 330 (f330con (spec_l4TextOf k)) :=
  let hc := f330hc k
  fnOk (fn := Try.f330) (code := bodyOf Try.f330) (res := [.tmp 6, .tmp 7]) hc (by kernel_rfl) (by kernel_rfl) (by decide) (by kernel_rfl) (by kernel_rfl) (by kernel_rfl) (Nat.le_of_ble_eq_true (by kernel_rfl)) _
    (fun x => Snd.exec hc _ _ _ _)
    (fun x => by kernel_rfl)

def f203in : SS := ⟨[(0, (.ro (.int .i64))), (1, (.ro (.st (.cons (.int .i64) (.cons .str .nil)))))], []⟩
def f203out : SS := ⟨[(0, (.ro .bool))], []⟩
def f203s8 : SS := ⟨[(3, (.p 100)), (5, (.ro (.int .i64))), (26, (.ro .bool))], [(100, (.box (.st (.cons (.int .i64) (.cons .str .nil))) (.agg (.cons (.ro (.int .i64)) (.cons (.ro .str) .nil)))))]⟩
def f203con (F : Int → TVal → Option Bool) : Con := ⟨f203in, f203out, 2, 1, fun x => F x.1 x.2⟩
def f203ctx (k : Nat) : Ctx := ⟨tyAt tys, conAt [(101, [f101con (spec_l1In k)]), (217, [f217con (spec_l4Int k)])], 43, fun _ => false⟩
theorem f203hc (k : Nat) : CtxOk Try.prog (f203ctx k) := ctxOk tys_ok mixed_ok (consOk_cons (f101ok k) (consOk_cons (f217ok k) (consOk_nil)))
theorem f203ok (k : Nat) : FnOk Try.prog 203 (f203con (spec_ValOk k)) :=
  let hc := f203hc k
  fnOk (fn := Try.f203) (code := bodyOf Try.f203) (res := [.tmp 4]) hc (by kernel_rfl) (by kernel_rfl) (by decide) (by kernel_rfl) (by kernel_rfl) (by kernel_rfl) (Nat.le_of_ble_eq_true (by kernel_rfl)) _
    (fun x => Snd.seq (by kernel_rfl) (Snd.seq (by kernel_rfl) (Snd.exec hc _ _ _ _) (Snd.seq (by kernel_rfl) (Snd.block (id := 0) (by kernel_rfl) (Snd.seq (by kernel_rfl) (Snd.cond (x := .tmp 6) (by kernel_rfl) (Snd.exec hc _ _ _ _) (Snd.seq (by kernel_rfl) (Snd.cond (x := .tmp 16) (by kernel_rfl) (Snd.exec hc _ _ _ _) (Snd.seq (by kernel_rfl) (Snd.cut (Snd.exec hc _ _ _ _) ⟨f203s8, fun x => spec_ValOk.c8 k x.1.2.1 x.1.2.2 x.2⟩ (fun x => by kernel_rfl)) (Snd.exec hc _ _ _ _))) (Snd.exec hc _ _ _ _))) (Snd.exec hc _ _ _ _))) (Snd.exec hc _ _ _ _))) (Snd.exec hc _ _ _ _))
    (fun x => by kernel_rfl)

def f317in : SS := ⟨[(0, (.ro (.int .i64))), (1, (.ro (.int .i64)))], []⟩
def f317out : SS := ⟨[(0, (.ro (.int .i64)))], []⟩
def f317con (F : Int → Int → Option Int) : Con := ⟨f317in, f317out, 2, 1, fun x => F x.1 x.2⟩
def f317ctx (k : Nat) : Ctx := ⟨tyAt tys, conAt [(101, [f101con (spec_l1In k)])], 18, fun _ => false⟩
theorem f317hc (k : Nat) : CtxOk Try.prog (f317ctx k) := ctxOk tys_ok mixed_ok (consOk_cons (f101ok k) (consOk_nil))
theorem f317ok (k : Nat) : FnOk Try.prog 317 (f317con (spec_BitsSize k)) :=
  let hc := f317hc k
  fnOk (fn := Try.f317) (code := bodyOf Try.f317) (res := [.tmp 4]) hc (by kernel_rfl) (by kernel_rfl) (by decide) (by kernel_rfl) (by kernel_rfl) (by kernel_rfl) (Nat.le_of_ble_eq_true (by kernel_rfl)) _
    (fun x => Snd.exec hc _ _ _ _)
    (fun x => by kernel_rfl)

def f318in : SS := ⟨[(0, (.ro (.list 5 (.int .u8)))), (1, (.ro (.int .i64)))], []⟩
def f318out : SS := ⟨[(0, (.ro (.int .i64)))], []⟩
def f318con (F : (List Int) → Int → Option Int) : Con := ⟨f318in, f318out, 2, 1, fun x => F x.1 x.2⟩
def f318ctx (k : Nat) : Ctx := ⟨tyAt tys, conAt [], 15, fun _ => false⟩
theorem f318hc (k : Nat) : CtxOk Try.prog (f318ctx k) := ctxOk tys_ok mixed_ok (consOk_nil)
theorem f318ok (k : Nat) : FnOk Try.prog 318 (f318con (spec_l1Bit k)) :=
  let hc := f318hc k
  fnOk (fn := Try.f318) (code := bodyOf Try.f318) (res := [.tmp 4]) hc (by kernel_rfl) (by kernel_rfl) (by decide) (by kernel_rfl) (by kernel_rfl) (by kernel_rfl) (Nat.le_of_ble_eq_true (by kernel_rfl)) _
    (fun x => Snd.exec hc _ _ _ _)
    (fun x => by kernel_rfl)

def f313in : SS := ⟨[(0, (.ro (.list 5 (.int .u8)))), (1, (.ro (.int .i64))), (2, (.ro (.int .i64))), (3, (.ro (.int .i64)))], []⟩
def f313out : SS := ⟨[(0, (.h 100)), (1, (.ro (.int .i64))), (2, (.ro .bool))], [(100, (.sl 3 (.int .i64)))]⟩
def f313s10 : SS := ⟨[(0, (.ro (.list 5 (.int .u8)))), (1, (.ro (.int .i64))), (2, (.ro (.int .i64))), (3, (.ro (.int .i64))), (11, (.h 100)), (12, (.ro (.int .i64))), (13, (.ro (.int .i64))), (14, (.ro (.int .i64))), (15, (.ro (.int .i64)))], [(100, (.sl 3 (.int .i64)))]⟩
def f313s6 : SS := ⟨[(0, (.ro (.list 5 (.int .u8)))), (1, (.ro (.int .i64))), (2, (.ro (.int .i64))), (3, (.ro (.int .i64))), (11, (.h 100)), (12, (.ro (.int .i64))), (13, (.ro (.int .i64)))], [(100, (.sl 3 (.int .i64)))]⟩
def f313con (F : (List Int) → Int → Int → Int → Option ((Unit × Int × Bool) × (List Int))) : Con := ⟨f313in, f313out, 4, 3, fun x => F x.1 x.2.1 x.2.2.1 x.2.2.2⟩
def f313ctx (k : Nat) : Ctx := ⟨tyAt tys, conAt [(101, [f101con (spec_l1In k)]), (317, [f317con (spec_BitsSize k)]), (318, [f318con (spec_l1Bit k)])], 70, fun _ => false⟩
theorem f313hc (k : Nat) : CtxOk Try.prog (f313ctx k) := ctxOk tys_ok mixed_ok (consOk_cons (f101ok k) (consOk_cons (f317ok k) (consOk_cons (f318ok k) (consOk_nil))))
theorem f313ok (k : Nat) : FnOk Try.prog 313 (f313con (spec_BitsRead k)) :=
  let hc := f313hc k
  fnOk (fn := Try.f313) (code := bodyOf Try.f313) (res := [.tmp 8, .tmp 9, .tmp 10]) hc (by kernel_rfl) (by kernel_rfl) (by decide) (by kernel_rfl) (by kernel_rfl) (by kernel_rfl) (Nat.le_of_ble_eq_true (by kernel_rfl)) _
    (fun x => Snd.seq (by kernel_rfl) (Snd.seq (by kernel_rfl) (Snd.seq (by kernel_rfl) (Snd.seq (by kernel_rfl) (Snd.seq (by kernel_rfl) (Snd.exec hc _ _ _ _) (Snd.seq (by kernel_rfl) (Snd.block (id := 0) (by kernel_rfl) (Snd.loop' (by kernel_rfl) f313s6 (fun n x => spec_BitsRead.l6 k n x.1.1 x.1.2.1 x.1.2.2.1 x.1.2.2.2.1 x.1.2.2.2.2.2.1 x.1.2.2.2.2.2.2 x.2) _ (fun _ => rfl) (fun n6 => Snd.seq (by kernel_rfl) (Snd.seq (by kernel_rfl) (Snd.exec hc _ _ _ _) (Snd.block (id := 1) (by kernel_rfl) (Snd.seq (by kernel_rfl) (Snd.seq (by kernel_rfl) (Snd.exec hc _ _ _ _) (Snd.seq (by kernel_rfl) (Snd.block (id := 2) (by kernel_rfl) (Snd.loop' (by kernel_rfl) f313s10 (fun n x => spec_BitsRead.l10 k (spec_BitsRead.l6 k n6) n x.1.1 x.1.2.1 x.1.2.2.1 x.1.2.2.2.1 x.1.2.2.2.2.2.1 x.1.2.2.2.2.2.2.1 x.1.2.2.2.2.2.2.2.1 x.1.2.2.2.2.2.2.2.2 x.2) _ (fun _ => rfl) (fun n10 => Snd.exec hc _ _ _ _) (fun n x => by kernel_rfl) k)) (Snd.exec hc _ _ _ _))) (Snd.exec hc _ _ _ _)))) (Snd.exec hc _ _ _ _)) (fun n x => by kernel_rfl) k)) (Snd.exec hc _ _ _ _))) (Snd.exec hc _ _ _ _)) (Snd.exec hc _ _ _ _)) (Snd.exec hc _ _ _ _)) (Snd.exec hc _ _ _ _))
    (fun x => by kernel_rfl)

def f236in : SS := ⟨[(0, (.ro (.list 5 (.int .u8)))), (1, (.ro (.int .i64))), (2, (.ro (.int .i64)))], []⟩
def f236out : SS := ⟨[(0, (.ro (.int .i64))), (1, (.ro (.int .i64))), (2, (.ro .bool))], []⟩
def f236s5 : SS := ⟨[(0, (.ro (.list 5 (.int .u8)))), (1, (.ro (.int .i64))), (2, (.ro (.int .i64))), (9, (.ro (.int .i64))), (10, (.ro (.int .i64)))], []⟩
def f236con (F : (List Int) → Int → Int → Option (Int × Int × Bool)) : Con := ⟨f236in, f236out, 3, 3, fun x => F x.1 x.2.1 x.2.2⟩
def f236ctx (k : Nat) : Ctx := ⟨tyAt tys, conAt [(101, [f101con (spec_l1In k)])], 53, fun _ => false⟩
theorem f236hc (k : Nat) : CtxOk Try.prog (f236ctx k) := ctxOk tys_ok mixed_ok (consOk_cons (f101ok k) (consOk_nil))
theorem f236ok (k : Nat) : FnOk Try.prog 236 (f236con (spec_WordGet k)) :=
  let hc := f236hc k
  fnOk (fn := Try.f236) (code := bodyOf Try.f236) (res := [.tmp 6, .tmp 7, .tmp 8]) hc (by kernel_rfl) (by kernel_rfl) (by decide) (by kernel_rfl) (by kernel_rfl) (by kernel_rfl) (Nat.le_of_ble_eq_true (by kernel_rfl)) _
    (fun x => Snd.seq (by kernel_rfl) (Snd.seq (by kernel_rfl) (Snd.seq (by kernel_rfl) (Snd.seq (by kernel_rfl) (Snd.exec hc _ _ _ _) (Snd.seq (by kernel_rfl) (Snd.block (id := 0) (by kernel_rfl) (Snd.loop' (by kernel_rfl) f236s5 (fun n x => spec_WordGet.l5 k n x.1 x.2.1 x.2.2.1 x.2.2.2.1 x.2.2.2.2) _ (fun _ => rfl) (fun n5 => Snd.exec hc _ _ _ _) (fun n x => by kernel_rfl) k)) (Snd.exec hc _ _ _ _))) (Snd.exec hc _ _ _ _)) (Snd.exec hc _ _ _ _)) (Snd.exec hc _ _ _ _))
    (fun x => by kernel_rfl)

def f314in : SS := ⟨[(0, (.ro (.int .i64))), (1, (.ro (.list 5 (.int .u8)))), (2, (.ro (.int .i64)))], []⟩
def f314out : SS := ⟨[(0, (.agg (.cons (.ro (.int .i64)) (.cons (.ro .str) .nil)))), (1, (.ro (.int .i64))), (2, (.ro .bool))], []⟩
def f314s6 : SS := ⟨[(6, (.p 100)), (9, (.ro (.int .i64))), (10, (.ro (.int .i64))), (11, (.ro .bool))], [(100, (.box (.st (.cons (.int .i64) (.cons .str .nil))) (.agg (.cons (.ro (.int .i64)) (.cons (.ro .str) .nil)))))]⟩
def f314con (F : Int → (List Int) → Int → Option (TVal × Int × Bool)) : Con := ⟨f314in, f314out, 3, 3, fun x => F x.1 x.2.1 x.2.2⟩
def f314ctx (k : Nat) : Ctx := ⟨tyAt tys, conAt [(236, [f236con (spec_WordGet k)])], 82, fun _ => false⟩
theorem f314hc (k : Nat) : CtxOk Try.prog (f314ctx k) := ctxOk tys_ok mixed_ok (consOk_cons (f236ok k) (consOk_nil))
theorem f314ok (k : Nat) : FnOk Try.prog 314 (f314con (spec_l7One k)) :=
  let hc := f314hc k
  fnOk (fn := Try.f314) (code := bodyOf Try.f314) (res := [.cell 6 75, .tmp 7, .tmp 8]) hc (by kernel_rfl) (by kernel_rfl) (by decide) (by kernel_rfl) (by kernel_rfl) (by kernel_rfl) (Nat.le_of_ble_eq_true (by kernel_rfl)) _
    (fun x => Snd.seq (by kernel_rfl) (Snd.seq (by kernel_rfl) (Snd.exec hc _ _ _ _) (Snd.seq (by kernel_rfl) (Snd.block (id := 0) (by kernel_rfl) (Snd.seq (by kernel_rfl) (Snd.cond (x := .tmp 19) (by kernel_rfl) (Snd.seq (by kernel_rfl) (Snd.seq (by kernel_rfl) (Snd.cut (Snd.exec hc _ _ _ _) ⟨f314s6, fun x => spec_l7One.c6 k x.1.2.1 x.1.2.2.1 x.1.2.2.2 x.2⟩ (fun x => by kernel_rfl)) (Snd.exec hc _ _ _ _)) (Snd.exec hc _ _ _ _)) (Snd.exec hc _ _ _ _)) (Snd.exec hc _ _ _ _))) (Snd.exec hc _ _ _ _))) (Snd.exec hc _ _ _ _))
    (fun x => by kernel_rfl)

def f235in : SS := ⟨[(0, (.ro (.int .i64))), (1, (.ro (.list 5 (.int .u8)))), (2, (.ro (.int .i64))), (3, (.ro (.int .i64)))], []⟩
def f235out : SS := ⟨[(0, (.h 100)), (1, (.ro (.int .i64))), (2, (.ro .bool))], [(100, (.sl 75 (.st (.cons (.int .i64) (.cons .str .nil)))))]⟩
def f235s12 : SS := ⟨[(0, (.ro (.int .i64))), (1, (.ro (.list 5 (.int .u8)))), (2, (.ro (.int .i64))), (3, (.ro (.int .i64))), (11, (.h 100)), (16, (.ro (.int .i64)))], [(100, (.sl 75 (.st (.cons (.int .i64) (.cons .str .nil)))))]⟩
def f235s7 : SS := ⟨[(11, (.h 100)), (12, (.h 101)), (13, (.ro (.int .i64))), (14, (.ro .bool)), (15, (.ro (.int .i64)))], [(100, (.sl 75 (.st (.cons (.int .i64) (.cons .str .nil))))), (101, (.sl 3 (.int .i64)))]⟩
def f235con (F : Int → (List Int) → Int → Int → Option ((Unit × Int × Bool) × (List TVal))) : Con := ⟨f235in, f235out, 4, 3, fun x => F x.1 x.2.1 x.2.2.1 x.2.2.2⟩
def f235ctx (k : Nat) : Ctx := ⟨tyAt tys, conAt [(101, [f101con (spec_l1In k)]), (233, [f233con (spec_l5Type k)]), (313, [f313con (spec_BitsRead k)]), (314, [f314con (spec_l7One k)])], 87, fun _ => false⟩
theorem f235hc (k : Nat) : CtxOk Try.prog (f235ctx k) := ctxOk tys_ok mixed_ok (consOk_cons (f101ok k) (consOk_cons (f233ok k) (consOk_cons (f313ok k) (consOk_cons (f314ok k) (consOk_nil)))))
theorem f235ok (k : Nat) : FnOk Try.prog 235 (f235con (spec_PlainRead k)) :=
  let hc := f235hc k
  fnOk (fn := Try.f235) (code := bodyOf Try.f235) (res := [.tmp 8, .tmp 9, .tmp 10]) hc (by kernel_rfl) (by kernel_rfl) (by decide) (by kernel_rfl) (by kernel_rfl) (by kernel_rfl) (Nat.le_of_ble_eq_true (by kernel_rfl)) _
    (fun x => Snd.seq (by kernel_rfl) (Snd.seq (by kernel_rfl) (Snd.seq (by kernel_rfl) (Snd.seq (by kernel_rfl) (Snd.seq (by kernel_rfl) (Snd.exec hc _ _ _ _) (Snd.seq (by kernel_rfl) (Snd.block (id := 2) (by kernel_rfl) (Snd.loop' (by kernel_rfl) f235s12 (fun n x => spec_PlainRead.l12 k n x.1.1 x.1.2.1 x.1.2.2.1 x.1.2.2.2.1 x.1.2.2.2.2.2 x.2) _ (fun _ => rfl) (fun n12 => Snd.exec hc _ _ _ _) (fun n x => by kernel_rfl) k)) (Snd.exec hc _ _ _ _))) (Snd.seq (by kernel_rfl) (Snd.cond (x := .tmp 38) (by kernel_rfl) (Snd.seq (by kernel_rfl) (Snd.seq (by kernel_rfl) (Snd.exec hc _ _ _ _) (Snd.seq (by kernel_rfl) (Snd.block (id := 0) (by kernel_rfl) (Snd.loop' (by kernel_rfl) f235s7 (fun n x => spec_PlainRead.l7 k n x.1.2.2.1 x.1.2.2.2.1 x.1.2.2.2.2 x.2.1 x.2.2) _ (fun _ => rfl) (fun n7 => Snd.exec hc _ _ _ _) (fun n x => by kernel_rfl) k)) (Snd.exec hc _ _ _ _))) (Snd.exec hc _ _ _ _)) (Snd.exec hc _ _ _ _)) (Snd.exec hc _ _ _ _))) (Snd.exec hc _ _ _ _)) (Snd.exec hc _ _ _ _)) (Snd.exec hc _ _ _ _))
    (fun x => by kernel_rfl)

def f131in : SS := ⟨[(0, (.ro (.int .i64))), (1, (.ro (.list 75 (.st (.cons (.int .i64) (.cons .str .nil))))))], []⟩
def f131out : SS := ⟨[(0, (.ro .bool))], []⟩
def f131s4 : SS := ⟨[(0, (.ro (.int .i64))), (1, (.ro (.list 75 (.st (.cons (.int .i64) (.cons .str .nil)))))), (5, (.ro (.int .i64)))], []⟩
def f131con (F : Int → (List TVal) → Option Bool) : Con := ⟨f131in, f131out, 2, 1, fun x => F x.1 x.2⟩
def f131ctx (k : Nat) : Ctx := ⟨tyAt tys, conAt [(203, [f203con (spec_ValOk k)]), (233, [f233con (spec_l5Type k)])], 27, fun _ => false⟩
theorem f131hc (k : Nat) : CtxOk Try.prog (f131ctx k) := ctxOk tys_ok mixed_ok (consOk_cons (f203ok k) (consOk_cons (f233ok k) (consOk_nil)))
theorem f131ok (k : Nat) : FnOk Try.prog 131 (f131con (spec_l6Vals k)) :=
  let hc := f131hc k
  fnOk (fn := Try.f131) (code := bodyOf Try.f131) (res := [.tmp 4]) hc (by kernel_rfl) (by kernel_rfl) (by decide) (by kernel_rfl) (by kernel_rfl) (by kernel_rfl) (Nat.le_of_ble_eq_true (by kernel_rfl)) _
    (fun x => Snd.seq (by kernel_rfl) (Snd.seq (by kernel_rfl) (Snd.seq (by kernel_rfl) (Snd.exec hc _ _ _ _) (Snd.seq (by kernel_rfl) (Snd.block (id := 0) (by kernel_rfl) (Snd.loop' (by kernel_rfl) f131s4 (fun n x => spec_l6Vals.l4 k n x.1 x.2.1 x.2.2) _ (fun _ => rfl) (fun n4 => Snd.exec hc _ _ _ _) (fun n x => by kernel_rfl) k)) (Snd.exec hc _ _ _ _))) (Snd.exec hc _ _ _ _)) (Snd.exec hc _ _ _ _))
    (fun x => by kernel_rfl)

def f352in : SS := ⟨[(0, (.ro (.int .i64))), (1, (.ro (.int .i64)))], []⟩
def f352out : SS := ⟨[(0, (.h 100))], [(100, (.sl 5 (.int .u8)))]⟩
def f352s3 : SS := ⟨[(0, (.ro (.int .i64))), (1, (.ro (.int .i64))), (5, (.h 100)), (6, (.ro (.int .i64)))], [(100, (.sl 5 (.int .u8)))]⟩
def f352con (F : Int → Int → Option (Unit × (List Int))) : Con := ⟨f352in, f352out, 2, 1, fun x => F x.1 x.2⟩
def f352ctx (k : Nat) : Ctx := ⟨tyAt tys, conAt [(101, [f101con (spec_l1In k)])], 26, fun _ => false⟩
theorem f352hc (k : Nat) : CtxOk Try.prog (f352ctx k) := ctxOk tys_ok mixed_ok (consOk_cons (f101ok k) (consOk_nil))
theorem f352ok (k : Nat) : FnOk Try.prog 352 (f352con (spec_WordPut k)) :=
  let hc := f352hc k
  fnOk (fn := Try.f352) (code := bodyOf Try.f352) (res := [.tmp 4]) hc (by kernel_rfl) (by kernel_rfl) (by decide) (by kernel_rfl) (by kernel_rfl) (by kernel_rfl) (Nat.le_of_ble_eq_true (by kernel_rfl)) _
    (fun x => Snd.seq (by kernel_rfl) (Snd.seq (by kernel_rfl) (Snd.seq (by kernel_rfl) (Snd.exec hc _ _ _ _) (Snd.seq (by kernel_rfl) (Snd.block (id := 0) (by kernel_rfl) (Snd.loop' (by kernel_rfl) f352s3 (fun n x => spec_WordPut.l3 k n x.1.1 x.1.2.1 x.1.2.2.2 x.2) _ (fun _ => rfl) (fun n3 => Snd.exec hc _ _ _ _) (fun n x => by kernel_rfl) k)) (Snd.exec hc _ _ _ _))) (Snd.exec hc _ _ _ _)) (Snd.exec hc _ _ _ _))
    (fun x => by kernel_rfl)

def f353in : SS := ⟨[(0, (.ro (.list 3 (.int .i64)))), (1, (.ro (.int .i64)))], []⟩
def f353out : SS := ⟨[(0, (.h 100)), (1, (.ro .bool))], [(100, (.sl 5 (.int .u8)))]⟩
def f353s12 : SS := ⟨[(0, (.ro (.list 3 (.int .i64)))), (1, (.ro (.int .i64))), (7, (.h 100)), (8, (.ro (.int .i64))), (9, (.ro (.int .i64)))], [(100, (.sl 5 (.int .u8)))]⟩
def f353s11 : SS := ⟨[(0, (.ro (.list 3 (.int .i64)))), (1, (.ro (.int .i64))), (7, (.h 100)), (8, (.ro (.int .i64))), (9, (.ro (.int .i64)))], [(100, (.sl 5 (.int .u8)))]⟩
def f353s6 : SS := ⟨[(0, (.ro (.list 3 (.int .i64)))), (1, (.ro (.int .i64))), (7, (.h 100)), (8, (.ro (.int .i64)))], [(100, (.sl 5 (.int .u8)))]⟩
def f353con (F : (List Int) → Int → Option ((Unit × Bool) × (List Int))) : Con := ⟨f353in, f353out, 2, 2, fun x => F x.1 x.2⟩
def f353ctx (k : Nat) : Ctx := ⟨tyAt tys, conAt [(317, [f317con (spec_BitsSize k)])], 73, fun _ => false⟩
theorem f353hc (k : Nat) : CtxOk Try.prog (f353ctx k) := ctxOk tys_ok mixed_ok (consOk_cons (f317ok k) (consOk_nil))
theorem f353ok (k : Nat) : FnOk Try.prog 353 (f353con (spec_BitsPack k)) :=
  let hc := f353hc k
  fnOk (fn := Try.f353) (code := bodyOf Try.f353) (res := [.tmp 4, .tmp 5]) hc (by kernel_rfl) (by kernel_rfl) (by decide) (by kernel_rfl) (by kernel_rfl) (by kernel_rfl) (Nat.le_of_ble_eq_true (by kernel_rfl)) _
    (fun x => Snd.seq (by kernel_rfl) (Snd.seq (by kernel_rfl) (Snd.seq (by kernel_rfl) (Snd.seq (by kernel_rfl) (Snd.seq (by kernel_rfl) (Snd.exec hc _ _ _ _) (Snd.seq (by kernel_rfl) (Snd.block (id := 0) (by kernel_rfl) (Snd.loop' (by kernel_rfl) f353s6 (fun n x => spec_BitsPack.l6 k n x.1.1 x.1.2.1 x.1.2.2.2 x.2) _ (fun _ => rfl) (fun n6 => Snd.seq (by kernel_rfl) (Snd.seq (by kernel_rfl) (Snd.exec hc _ _ _ _) (Snd.block (id := 1) (by kernel_rfl) (Snd.seq (by kernel_rfl) (Snd.seq (by kernel_rfl) (Snd.block (id := 2) (by kernel_rfl) (Snd.loop' (by kernel_rfl) f353s11 (fun n x => spec_BitsPack.l11 k (spec_BitsPack.l6 k n6) n x.1.1 x.1.2.1 x.1.2.2.2.1 x.1.2.2.2.2 x.2) _ (fun _ => rfl) (fun n11 => Snd.seq (by kernel_rfl) (Snd.seq (by kernel_rfl) (Snd.cut (Snd.exec hc _ _ _ _) ⟨f353s12, fun x => spec_BitsPack.c12 k (spec_BitsPack.l11 k (spec_BitsPack.l6 k n6) n11) x.1.1 x.1.2.1 x.1.2.2.2.1 x.1.2.2.2.2 x.2⟩ (fun x => by kernel_rfl)) (Snd.exec hc _ _ _ _)) (Snd.exec hc _ _ _ _)) (fun n x => by kernel_rfl) k)) (Snd.exec hc _ _ _ _)) (Snd.exec hc _ _ _ _)))) (Snd.exec hc _ _ _ _)) (fun n x => by kernel_rfl) k)) (Snd.exec hc _ _ _ _))) (Snd.exec hc _ _ _ _)) (Snd.exec hc _ _ _ _)) (Snd.exec hc _ _ _ _)) (Snd.exec hc _ _ _ _))
    (fun x => by kernel_rfl)

def f350in : SS := ⟨[(0, (.ro (.int .i64))), (1, (.ro (.list 75 (.st (.cons (.int .i64) (.cons .str .nil))))))], []⟩
def f350out : SS := ⟨[(0, (.h 100)), (1, (.ro .bool))], [(100, (.sl 5 (.int .u8)))]⟩
def f350s7 : SS := ⟨[(0, (.ro (.int .i64))), (1, (.ro (.list 75 (.st (.cons (.int .i64) (.cons .str .nil)))))), (6, (.h 100)), (7, (.h 101)), (8, (.ro (.int .i64)))], [(100, (.sl 5 (.int .u8))), (101, (.sl 3 (.int .i64)))]⟩
def f350s6 : SS := ⟨[(0, (.ro (.int .i64))), (1, (.ro (.list 75 (.st (.cons (.int .i64) (.cons .str .nil)))))), (6, (.h 100)), (7, (.h 101)), (8, (.ro (.int .i64)))], [(100, (.sl 5 (.int .u8))), (101, (.sl 3 (.int .i64)))]⟩
def f350con (F : Int → (List TVal) → Option ((Unit × Bool) × (List Int))) : Con := ⟨f350in, f350out, 2, 2, fun x => F x.1 x.2⟩
def f350ctx (k : Nat) : Ctx := ⟨tyAt tys, conAt [(131, [f131con (spec_l6Vals k)]), (352, [f352con (spec_WordPut k)]), (353, [f353con (spec_BitsPack k)])], 67, fun _ => false⟩
theorem f350hc (k : Nat) : CtxOk Try.prog (f350ctx k) := ctxOk tys_ok mixed_ok (consOk_cons (f131ok k) (consOk_cons (f352ok k) (consOk_cons (f353ok k) (consOk_nil))))
theorem f350ok (k : Nat) : FnOk Try.prog 350 (f350con (spec_PlainPack k)) :=
  let hc := f350hc k
  fnOk (fn := Try.f350) (code := bodyOf Try.f350) (res := [.tmp 4, .tmp 5]) hc (by kernel_rfl) (by kernel_rfl) (by decide) (by kernel_rfl) (by kernel_rfl) (by kernel_rfl) (Nat.le_of_ble_eq_true (by kernel_rfl)) _
    (fun x => Snd.seq (by kernel_rfl) (Snd.seq (by kernel_rfl) (Snd.seq (by kernel_rfl) (Snd.seq (by kernel_rfl) (Snd.seq (by kernel_rfl) (Snd.exec hc _ _ _ _) (Snd.seq (by kernel_rfl) (Snd.block (id := 0) (by kernel_rfl) (Snd.loop' (by kernel_rfl) f350s6 (fun n x => spec_PlainPack.l6 k n x.1.1 x.1.2.1 x.1.2.2.2.2 x.2.1 x.2.2) _ (fun _ => rfl) (fun n6 => Snd.seq (by kernel_rfl) (Snd.seq (by kernel_rfl) (Snd.cut (Snd.exec hc _ _ _ _) ⟨f350s7, fun x => spec_PlainPack.c7 k (spec_PlainPack.l6 k n6) x.1.1 x.1.2.1 x.1.2.2.2.2 x.2.1 x.2.2⟩ (fun x => by kernel_rfl)) (Snd.exec hc _ _ _ _)) (Snd.exec hc _ _ _ _)) (fun n x => by kernel_rfl) k)) (Snd.exec hc _ _ _ _))) (Snd.exec hc _ _ _ _)) (Snd.exec hc _ _ _ _)) (Snd.exec hc _ _ _ _)) (Snd.exec hc _ _ _ _))
    (fun x => by kernel_rfl)

def f345in : SS := ⟨[(0, (.ro (.int .i64))), (1, (.ro (.st (.cons (.int .i64) (.cons .str .nil)))))], []⟩
def f345out : SS := ⟨[(0, (.ro .str))], []⟩
def f345con (F : Int → TVal → Option ByteArray) : Con := ⟨f345in, f345out, 2, 1, fun x => F x.1 x.2⟩
def f345ctx (k : Nat) : Ctx := ⟨tyAt tys, conAt [(350, [f350con (spec_PlainPack k)])], 20, fun _ => false⟩
theorem f345hc (k : Nat) : CtxOk Try.prog (f345ctx k) := ctxOk tys_ok mixed_ok (consOk_cons (f350ok k) (consOk_nil))
theorem f345ok (k : Nat) : FnOk Try.prog 345 (f345con (spec_l15Text k)) :=
  let hc := f345hc k
  fnOk (fn := Try.f345) (code := bodyOf Try.f345) (res := [.tmp 4]) hc (by kernel_rfl) (by kernel_rfl) (by decide) (by kernel_rfl) (by kernel_rfl) (by kernel_rfl) (Nat.le_of_ble_eq_true (by kernel_rfl)) _
    (fun x => Snd.exec hc _ _ _ _)
    (fun x => by kernel_rfl)

def f335in : SS := ⟨[(0, (.ro (.int .i64))), (1, (.ro .str))], []⟩
def f335out : SS := ⟨[(0, (.agg (.cons (.ro (.int .i64)) (.cons (.ro .str) .nil)))), (1, (.ro .bool))], []⟩
def f335d7 : SS := ⟨[(0, (.ro (.int .i64))), (1, (.ro .str)), (4, (.p 100)), (6, (.p 101))], [(100, (.box (.st (.cons (.int .i64) (.cons .str .nil))) (.agg (.cons (.ro (.int .i64)) (.cons (.ro .str) .nil))))), (101, (.box (.st (.cons (.int .i64) (.cons .str .nil))) (.agg (.cons (.ro (.int .i64)) (.cons (.ro .str) .nil)))))]⟩
def f335s7 : SS := ⟨[(0, (.ro (.int .i64))), (1, (.ro .str)), (4, (.p 100)), (6, (.p 101))], [(100, (.box (.st (.cons (.int .i64) (.cons .str .nil))) (.agg (.cons (.ro (.int .i64)) (.cons (.ro .str) .nil))))), (101, (.box (.st (.cons (.int .i64) (.cons .str .nil))) (.agg (.cons (.ro (.int .i64)) (.cons (.ro .str) .nil)))))]⟩
def f335con (F : Int → ByteArray → Option (TVal × Bool)) : Con := ⟨f335in, f335out, 2, 2, fun x => F x.1 x.2⟩
def f335ctx (k : Nat) : Ctx := ⟨tyAt tys, conAt [(203, [f203con (spec_ValOk k)]), (235, [f235con (spec_PlainRead k)]), (345, [f345con (spec_l15Text k)])], 39, fun _ => false⟩
theorem f335hc (k : Nat) : CtxOk Try.prog (f335ctx k) := ctxOk tys_ok mixed_ok (consOk_cons (f203ok k) (consOk_cons (f235ok k) (consOk_cons (f345ok k) (consOk_nil))))
theorem f335ok (k : Nat) : FnOk Try.prog 335 (f335con (spec_l15Value k)) :=
  let hc := f335hc k
  fnOk (fn := Try.f335) (code := bodyOf Try.f335) (res := [.cell 4 75, .tmp 5]) hc (by kernel_rfl) (by kernel_rfl) (by decide) (by kernel_rfl) (by kernel_rfl) (by kernel_rfl) (Nat.le_of_ble_eq_true (by kernel_rfl)) _
    (fun x => Snd.seq (by kernel_rfl) (Snd.seq (by kernel_rfl) (Snd.seq (by kernel_rfl) (Snd.cut (Snd.seq (by kernel_rfl) (Snd.exec hc _ _ _ _) (Snd.fork hc (id := 7) (by kernel_rfl) ⟨f335d7, fun x => spec_l15Value.d7 k x.1.1 x.1.2.1 x.2.1 x.2.2⟩ [[1, 0, 2, 3, 4, 5, 8, 6, 7, 9, 10, 11, 12], [1, 2, 0, 3, 4, 5, 8, 6, 7, 9, 10, 11, 12], [1, 2, 3, 4, 5, 8, 0, 6, 7, 9, 10, 11, 12], [1, 2, 3, 4, 5, 8, 6, 0, 7, 9, 10, 11, 12], [1, 2, 3, 4, 5, 8, 6, 7, 0, 9, 10, 11, 12]] (by kernel_rfl) (ords_cons (fun x => by kernel_rfl) (ords_cons (fun x => by kernel_rfl) (ords_cons (fun x => by kernel_rfl) (ords_cons (fun x => by kernel_rfl) (ords_cons (fun x => by kernel_rfl) (ords_nil)))))))) ⟨f335s7, fun x => spec_l15Value.c7 k x.1.1 x.1.2.1 x.2.1 x.2.2⟩ (fun x => by kernel_rfl)) (Snd.exec hc _ _ _ _)) (Snd.exec hc _ _ _ _)) (Snd.exec hc _ _ _ _))
    (fun x => by kernel_rfl)

def f232in : SS := ⟨[(0, (.ro (.int .i64)))], []⟩
def f232out : SS := ⟨[(0, (.ro (.int .i64)))], []⟩
def f232con (F : Int → Option Int) : Con := ⟨f232in, f232out, 1, 1, fun x => F x⟩
def f232ctx (k : Nat) : Ctx := ⟨tyAt tys, conAt [], 8, fun _ => false⟩
theorem f232hc (k : Nat) : CtxOk Try.prog (f232ctx k) := ctxOk tys_ok mixed_ok (consOk_nil)
theorem f232ok (k : Nat) : FnOk Try.prog 232 (f232con (spec_FloatKey k)) :=
  let hc := f232hc k
  fnOk (fn := Try.f232) (code := bodyOf Try.f232) (res := [.tmp 2]) hc (by kernel_rfl) (by kernel_rfl) (by decide) (by kernel_rfl) (by kernel_rfl) (by kernel_rfl) (Nat.le_of_ble_eq_true (by kernel_rfl)) _
    (fun x => Snd.exec hc _ _ _ _)
    (fun x => by kernel_rfl)

def f126in : SS := ⟨[(0, (.ro (.int .i64))), (1, (.ro (.st (.cons (.int .i64) (.cons .str .nil))))), (2, (.ro (.st (.cons (.int .i64) (.cons .str .nil)))))], []⟩
def f126out : SS := ⟨[(0, (.ro .bool))], []⟩
def f126d5 : SS := ⟨[(4, (.p 100)), (5, (.p 101))], [(100, (.box (.st (.cons (.int .i64) (.cons .str .nil))) (.agg (.cons (.ro (.int .i64)) (.cons (.ro .str) .nil))))), (101, (.box (.st (.cons (.int .i64) (.cons .str .nil))) (.agg (.cons (.ro (.int .i64)) (.cons (.ro .str) .nil)))))]⟩
def f126s8 : SS := ⟨[(4, (.p 100)), (5, (.p 101)), (7, (.ro (.int .i64)))], [(100, (.box (.st (.cons (.int .i64) (.cons .str .nil))) (.agg (.cons (.ro (.int .i64)) (.cons (.ro .str) .nil))))), (101, (.box (.st (.cons (.int .i64) (.cons .str .nil))) (.agg (.cons (.ro (.int .i64)) (.cons (.ro .str) .nil)))))]⟩
def f126con (F : Int → TVal → TVal → Option Bool) : Con := ⟨f126in, f126out, 3, 1, fun x => F x.1 x.2.1 x.2.2⟩
def f126ctx (k : Nat) : Ctx := ⟨tyAt tys, conAt [(203, [f203con (spec_ValOk k)]), (232, [f232con (spec_FloatKey k)])], 74, fun _ => false⟩
theorem f126hc (k : Nat) : CtxOk Try.prog (f126ctx k) := ctxOk tys_ok mixed_ok (consOk_cons (f203ok k) (consOk_cons (f232ok k) (consOk_nil)))
theorem f126ok (k : Nat) : FnOk Try.prog 126 (f126con (spec_ValLess k)) :=
  let hc := f126hc k
  fnOk (fn := Try.f126) (code := bodyOf Try.f126) (res := [.tmp 6]) hc (by kernel_rfl) (by kernel_rfl) (by decide) (by kernel_rfl) (by kernel_rfl) (by kernel_rfl) (Nat.le_of_ble_eq_true (by kernel_rfl)) _
    (fun x => Snd.seq (by kernel_rfl) (Snd.seq (by kernel_rfl) (Snd.seq (by kernel_rfl) (Snd.exec hc _ _ _ _) (Snd.seq (by kernel_rfl) (Snd.block (id := 0) (by kernel_rfl) (Snd.seq (by kernel_rfl) (Snd.cond (x := .tmp 19) (by kernel_rfl) (Snd.seq (by kernel_rfl) (Snd.exec hc _ _ _ _) (Snd.fork hc (id := 5) (by kernel_rfl) ⟨f126d5, fun x => spec_ValLess.d5 k x.2.1 x.2.2⟩ [[0, 3, 1, 2, 4, 5, 6, 7], [0, 3, 1, 4, 2, 5, 6, 7], [0, 3, 4, 1, 2, 5, 6, 7]] (by kernel_rfl) (ords_cons (fun x => by kernel_rfl) (ords_cons (fun x => by kernel_rfl) (ords_cons (fun x => by kernel_rfl) (ords_nil)))))) (Snd.seq (by kernel_rfl) (Snd.cond (x := .tmp 28) (by kernel_rfl) (Snd.seq (by kernel_rfl) (Snd.exec hc _ _ _ _) (Snd.seq (by kernel_rfl) (Snd.block (id := 1) (by kernel_rfl) (Snd.loop' (by kernel_rfl) f126s8 (fun n x => spec_ValLess.l8 k n x.1.2.2 x.2.1 x.2.2) _ (fun _ => rfl) (fun n8 => Snd.exec hc _ _ _ _) (fun n x => by kernel_rfl) k)) (Snd.exec hc _ _ _ _))) (Snd.exec hc _ _ _ _)) (Snd.exec hc _ _ _ _))) (Snd.exec hc _ _ _ _))) (Snd.exec hc _ _ _ _))) (Snd.exec hc _ _ _ _)) (Snd.exec hc _ _ _ _))
    (fun x => by kernel_rfl)

def f336in : SS := ⟨[(0, (.ro (.st (.cons (.int .i64) (.cons (.int .i64) (.cons (.int .i64) .nil)))))), (1, (.ro (.st (.cons (.int .i64) (.cons .bool (.cons (.st (.cons (.int .i64) (.cons .str .nil))) (.cons (.st (.cons (.int .i64) (.cons .str .nil))) .nil)))))))], []⟩
def f336out : SS := ⟨[(0, (.ro .bool))], []⟩
def f336con (F : TLeaf → TStats → Option Bool) : Con := ⟨f336in, f336out, 2, 1, fun x => F x.1 x.2⟩
def f336ctx (k : Nat) : Ctx := ⟨tyAt tys, conAt [(101, [f101con (spec_l1In k)]), (126, [f126con (spec_ValLess k)]), (171, [f171con (spec_LeafOk k)]), (203, [f203con (spec_ValOk k)])], 51, fun _ => false⟩
theorem f336hc (k : Nat) : CtxOk Try.prog (f336ctx k) := ctxOk tys_ok mixed_ok (consOk_cons (f101ok k) (consOk_cons (f126ok k) (consOk_cons (f171ok k) (consOk_cons (f203ok k) (consOk_nil)))))
theorem f336ok (k : Nat) : FnOk Try.prog 336 (f336con (spec_l15Ok k)) :=
  let hc := f336hc k
  fnOk (fn := Try.f336) (code := bodyOf Try.f336) (res := [.tmp 4]) hc (by kernel_rfl) (by kernel_rfl) (by decide) (by kernel_rfl) (by kernel_rfl) (by kernel_rfl) (Nat.le_of_ble_eq_true (by kernel_rfl)) _
    (fun x => Snd.exec hc _ _ _ _)
    (fun x => by kernel_rfl)

def f281in : SS := ⟨[(0, (.ro (.st (.cons (.int .i64) (.cons (.int .i64) (.cons (.int .i64) .nil)))))), (1, (.ro (.list 170 (.st (.cons (.int .i64) (.cons (.int .i64) (.cons (.int .i64) (.cons .str (.cons (.int .i64) .nil))))))))), (2, (.ro (.int .i64)))], []⟩
def f281out : SS := ⟨[(0, (.agg (.cons (.ro (.int .i64)) (.cons (.ro .bool) (.cons (.agg (.cons (.ro (.int .i64)) (.cons (.ro .str) .nil))) (.cons (.agg (.cons (.ro (.int .i64)) (.cons (.ro .str) .nil))) .nil)))))), (1, (.ro .bool))], []⟩
def f281s15 : SS := ⟨[(3, (.p 100)), (6, (.p 101)), (8, (.p 102)), (15, (.p 103))], [(100, (.box (.st (.cons (.int .i64) (.cons (.int .i64) (.cons (.int .i64) .nil)))) (.agg (.cons (.ro (.int .i64)) (.cons (.ro (.int .i64)) (.cons (.ro (.int .i64)) .nil)))))), (101, (.box (.st (.cons (.int .i64) (.cons .bool (.cons (.st (.cons (.int .i64) (.cons .str .nil))) (.cons (.st (.cons (.int .i64) (.cons .str .nil))) .nil))))) (.agg (.cons (.ro (.int .i64)) (.cons (.ro .bool) (.cons (.agg (.cons (.ro (.int .i64)) (.cons (.ro .str) .nil))) (.cons (.agg (.cons (.ro (.int .i64)) (.cons (.ro .str) .nil))) .nil))))))), (102, (.box (.st (.cons (.int .i64) (.cons .bool (.cons (.st (.cons (.int .i64) (.cons .str .nil))) (.cons (.st (.cons (.int .i64) (.cons .str .nil))) .nil))))) (.agg (.cons (.ro (.int .i64)) (.cons (.ro .bool) (.cons (.agg (.cons (.ro (.int .i64)) (.cons (.ro .str) .nil))) (.cons (.agg (.cons (.ro (.int .i64)) (.cons (.ro .str) .nil))) .nil))))))), (103, (.box (.st (.cons (.int .i64) (.cons .bool (.cons (.st (.cons (.int .i64) (.cons .str .nil))) (.cons (.st (.cons (.int .i64) (.cons .str .nil))) .nil))))) (.agg (.cons (.ro (.int .i64)) (.cons (.ro .bool) (.cons (.agg (.cons (.ro (.int .i64)) (.cons (.ro .str) .nil))) (.cons (.agg (.cons (.ro (.int .i64)) (.cons (.ro .str) .nil))) .nil)))))))]⟩
def f281con (F : TLeaf → (List TNode) → Int → Option (TStats × Bool)) : Con := ⟨f281in, f281out, 3, 2, fun x => F x.1 x.2.1 x.2.2⟩
def f281ctx (k : Nat) : Ctx := ⟨tyAt tys, conAt [(141, [f141con (spec_l4NumOf k)]), (173, [f173con (spec_l4Find k)]), (330, [f330con (spec_l4TextOf k)]), (335, [f335con (spec_l15Value k)]), (336, [f336con (spec_l15Ok k)])], 98, fun _ => false⟩
theorem f281hc (k : Nat) : CtxOk Try.prog (f281ctx k) := ctxOk tys_ok mixed_ok (consOk_cons (f141ok k) (consOk_cons (f173ok k) (consOk_cons (f330ok k) (consOk_cons (f335ok k) (consOk_cons (f336ok k) (consOk_nil))))))
theorem f281ok (k : Nat) : FnOk Try.prog 281 (f281con (spec_l15From k)) :=
  let hc := f281hc k
  fnOk (fn := Try.f281) (code := bodyOf Try.f281) (res := [.cell 6 77, .tmp 7]) hc (by kernel_rfl) (by kernel_rfl) (by decide) (by kernel_rfl) (by kernel_rfl) (by kernel_rfl) (Nat.le_of_ble_eq_true (by kernel_rfl)) _
    (fun x => Snd.seq (by kernel_rfl) (Snd.seq (by kernel_rfl) (Snd.seq (by kernel_rfl) (Snd.seq (by kernel_rfl) (Snd.seq (by kernel_rfl) (Snd.seq (by kernel_rfl) (Snd.seq (by kernel_rfl) (Snd.seq (by kernel_rfl) (Snd.cut (Snd.exec hc _ _ _ _) ⟨f281s15, fun x => spec_l15From.c15 k x.2.1 x.2.2.1 x.2.2.2.1 x.2.2.2.2⟩ (fun x => by kernel_rfl)) (Snd.exec hc _ _ _ _)) (Snd.exec hc _ _ _ _)) (Snd.exec hc _ _ _ _)) (Snd.exec hc _ _ _ _)) (Snd.exec hc _ _ _ _)) (Snd.exec hc _ _ _ _)) (Snd.exec hc _ _ _ _)) (Snd.exec hc _ _ _ _))
    (fun x => by kernel_rfl)

def f174in : SS := ⟨[(0, (.ro (.st (.cons (.int .i64) (.cons (.int .i64) (.cons (.int .i64) .nil)))))), (1, (.ro (.list 170 (.st (.cons (.int .i64) (.cons (.int .i64) (.cons (.int .i64) (.cons .str (.cons (.int .i64) .nil))))))))), (2, (.ro (.st (.cons (.int .i64) (.cons (.int .i64) (.cons (.int .i64) (.cons (.int .i64) (.cons (.int .i64) (.cons (.int .i64) (.cons (.int .i64) (.cons (.int .i64) (.cons .bool (.cons (.int .i64) (.cons .bool (.cons (.st (.cons (.int .i64) (.cons .bool (.cons (.st (.cons (.int .i64) (.cons .str .nil))) (.cons (.st (.cons (.int .i64) (.cons .str .nil))) .nil))))) (.cons (.int .i64) .nil))))))))))))))))], []⟩
def f174out : SS := ⟨[(0, (.agg (.cons (.ro (.int .i64)) (.cons (.ro (.int .i64)) (.cons (.ro (.int .i64)) (.cons (.ro (.int .i64)) (.cons (.ro (.int .i64)) (.cons (.ro (.int .i64)) (.cons (.ro (.int .i64)) (.cons (.ro (.int .i64)) (.cons (.ro .bool) (.cons (.ro (.int .i64)) (.cons (.ro .bool) (.cons (.agg (.cons (.ro (.int .i64)) (.cons (.ro .bool) (.cons (.agg (.cons (.ro (.int .i64)) (.cons (.ro .str) .nil))) (.cons (.agg (.cons (.ro (.int .i64)) (.cons (.ro .str) .nil))) .nil))))) (.cons (.ro (.int .i64)) .nil))))))))))))))), (1, (.ro .bool))], []⟩
def f174s33 : SS := ⟨[(5, (.p 100)), (6, (.p 101))], [(100, (.box (.st (.cons (.int .i64) (.cons (.int .i64) (.cons (.int .i64) (.cons (.int .i64) (.cons (.int .i64) (.cons (.int .i64) (.cons (.int .i64) (.cons (.int .i64) (.cons .bool (.cons (.int .i64) (.cons .bool (.cons (.st (.cons (.int .i64) (.cons .bool (.cons (.st (.cons (.int .i64) (.cons .str .nil))) (.cons (.st (.cons (.int .i64) (.cons .str .nil))) .nil))))) (.cons (.int .i64) .nil)))))))))))))) (.agg (.cons (.ro (.int .i64)) (.cons (.ro (.int .i64)) (.cons (.ro (.int .i64)) (.cons (.ro (.int .i64)) (.cons (.ro (.int .i64)) (.cons (.ro (.int .i64)) (.cons (.ro (.int .i64)) (.cons (.ro (.int .i64)) (.cons (.ro .bool) (.cons (.ro (.int .i64)) (.cons (.ro .bool) (.cons (.agg (.cons (.ro (.int .i64)) (.cons (.ro .bool) (.cons (.agg (.cons (.ro (.int .i64)) (.cons (.ro .str) .nil))) (.cons (.agg (.cons (.ro (.int .i64)) (.cons (.ro .str) .nil))) .nil))))) (.cons (.ro (.int .i64)) .nil)))))))))))))))), (101, (.box (.st (.cons (.int .i64) (.cons (.int .i64) (.cons (.int .i64) (.cons (.int .i64) (.cons (.int .i64) (.cons (.int .i64) (.cons (.int .i64) (.cons (.int .i64) (.cons .bool (.cons (.int .i64) (.cons .bool (.cons (.st (.cons (.int .i64) (.cons .bool (.cons (.st (.cons (.int .i64) (.cons .str .nil))) (.cons (.st (.cons (.int .i64) (.cons .str .nil))) .nil))))) (.cons (.int .i64) .nil)))))))))))))) (.agg (.cons (.ro (.int .i64)) (.cons (.ro (.int .i64)) (.cons (.ro (.int .i64)) (.cons (.ro (.int .i64)) (.cons (.ro (.int .i64)) (.cons (.ro (.int .i64)) (.cons (.ro (.int .i64)) (.cons (.ro (.int .i64)) (.cons (.ro .bool) (.cons (.ro (.int .i64)) (.cons (.ro .bool) (.cons (.agg (.cons (.ro (.int .i64)) (.cons (.ro .bool) (.cons (.agg (.cons (.ro (.int .i64)) (.cons (.ro .str) .nil))) (.cons (.agg (.cons (.ro (.int .i64)) (.cons (.ro .str) .nil))) .nil))))) (.cons (.ro (.int .i64)) .nil))))))))))))))))]⟩
def f174s27 : SS := ⟨[(1, (.ro (.list 170 (.st (.cons (.int .i64) (.cons (.int .i64) (.cons (.int .i64) (.cons .str (.cons (.int .i64) .nil))))))))), (3, (.p 100)), (5, (.p 101)), (6, (.p 102)), (10, (.ro (.int .i64))), (11, (.ro (.int .i64)))], [(100, (.box (.st (.cons (.int .i64) (.cons (.int .i64) (.cons (.int .i64) .nil)))) (.agg (.cons (.ro (.int .i64)) (.cons (.ro (.int .i64)) (.cons (.ro (.int .i64)) .nil)))))), (101, (.box (.st (.cons (.int .i64) (.cons (.int .i64) (.cons (.int .i64) (.cons (.int .i64) (.cons (.int .i64) (.cons (.int .i64) (.cons (.int .i64) (.cons (.int .i64) (.cons .bool (.cons (.int .i64) (.cons .bool (.cons (.st (.cons (.int .i64) (.cons .bool (.cons (.st (.cons (.int .i64) (.cons .str .nil))) (.cons (.st (.cons (.int .i64) (.cons .str .nil))) .nil))))) (.cons (.int .i64) .nil)))))))))))))) (.agg (.cons (.ro (.int .i64)) (.cons (.ro (.int .i64)) (.cons (.ro (.int .i64)) (.cons (.ro (.int .i64)) (.cons (.ro (.int .i64)) (.cons (.ro (.int .i64)) (.cons (.ro (.int .i64)) (.cons (.ro (.int .i64)) (.cons (.ro .bool) (.cons (.ro (.int .i64)) (.cons (.ro .bool) (.cons (.agg (.cons (.ro (.int .i64)) (.cons (.ro .bool) (.cons (.agg (.cons (.ro (.int .i64)) (.cons (.ro .str) .nil))) (.cons (.agg (.cons (.ro (.int .i64)) (.cons (.ro .str) .nil))) .nil))))) (.cons (.ro (.int .i64)) .nil)))))))))))))))), (102, (.box (.st (.cons (.int .i64) (.cons (.int .i64) (.cons (.int .i64) (.cons (.int .i64) (.cons (.int .i64) (.cons (.int .i64) (.cons (.int .i64) (.cons (.int .i64) (.cons .bool (.cons (.int .i64) (.cons .bool (.cons (.st (.cons (.int .i64) (.cons .bool (.cons (.st (.cons (.int .i64) (.cons .str .nil))) (.cons (.st (.cons (.int .i64) (.cons .str .nil))) .nil))))) (.cons (.int .i64) .nil)))))))))))))) (.agg (.cons (.ro (.int .i64)) (.cons (.ro (.int .i64)) (.cons (.ro (.int .i64)) (.cons (.ro (.int .i64)) (.cons (.ro (.int .i64)) (.cons (.ro (.int .i64)) (.cons (.ro (.int .i64)) (.cons (.ro (.int .i64)) (.cons (.ro .bool) (.cons (.ro (.int .i64)) (.cons (.ro .bool) (.cons (.agg (.cons (.ro (.int .i64)) (.cons (.ro .bool) (.cons (.agg (.cons (.ro (.int .i64)) (.cons (.ro .str) .nil))) (.cons (.agg (.cons (.ro (.int .i64)) (.cons (.ro .str) .nil))) .nil))))) (.cons (.ro (.int .i64)) .nil))))))))))))))))]⟩
def f174s7 : SS := ⟨[(1, (.ro (.list 170 (.st (.cons (.int .i64) (.cons (.int .i64) (.cons (.int .i64) (.cons .str (.cons (.int .i64) .nil))))))))), (3, (.p 100)), (5, (.p 101)), (6, (.p 102)), (8, (.ro (.int .i64))), (9, (.h 103)), (10, (.ro (.int .i64)))], [(100, (.box (.st (.cons (.int .i64) (.cons (.int .i64) (.cons (.int .i64) .nil)))) (.agg (.cons (.ro (.int .i64)) (.cons (.ro (.int .i64)) (.cons (.ro (.int .i64)) .nil)))))), (101, (.box (.st (.cons (.int .i64) (.cons (.int .i64) (.cons (.int .i64) (.cons (.int .i64) (.cons (.int .i64) (.cons (.int .i64) (.cons (.int .i64) (.cons (.int .i64) (.cons .bool (.cons (.int .i64) (.cons .bool (.cons (.st (.cons (.int .i64) (.cons .bool (.cons (.st (.cons (.int .i64) (.cons .str .nil))) (.cons (.st (.cons (.int .i64) (.cons .str .nil))) .nil))))) (.cons (.int .i64) .nil)))))))))))))) (.agg (.cons (.ro (.int .i64)) (.cons (.ro (.int .i64)) (.cons (.ro (.int .i64)) (.cons (.ro (.int .i64)) (.cons (.ro (.int .i64)) (.cons (.ro (.int .i64)) (.cons (.ro (.int .i64)) (.cons (.ro (.int .i64)) (.cons (.ro .bool) (.cons (.ro (.int .i64)) (.cons (.ro .bool) (.cons (.agg (.cons (.ro (.int .i64)) (.cons (.ro .bool) (.cons (.agg (.cons (.ro (.int .i64)) (.cons (.ro .str) .nil))) (.cons (.agg (.cons (.ro (.int .i64)) (.cons (.ro .str) .nil))) .nil))))) (.cons (.ro (.int .i64)) .nil)))))))))))))))), (102, (.box (.st (.cons (.int .i64) (.cons (.int .i64) (.cons (.int .i64) (.cons (.int .i64) (.cons (.int .i64) (.cons (.int .i64) (.cons (.int .i64) (.cons (.int .i64) (.cons .bool (.cons (.int .i64) (.cons .bool (.cons (.st (.cons (.int .i64) (.cons .bool (.cons (.st (.cons (.int .i64) (.cons .str .nil))) (.cons (.st (.cons (.int .i64) (.cons .str .nil))) .nil))))) (.cons (.int .i64) .nil)))))))))))))) (.agg (.cons (.ro (.int .i64)) (.cons (.ro (.int .i64)) (.cons (.ro (.int .i64)) (.cons (.ro (.int .i64)) (.cons (.ro (.int .i64)) (.cons (.ro (.int .i64)) (.cons (.ro (.int .i64)) (.cons (.ro (.int .i64)) (.cons (.ro .bool) (.cons (.ro (.int .i64)) (.cons (.ro .bool) (.cons (.agg (.cons (.ro (.int .i64)) (.cons (.ro .bool) (.cons (.agg (.cons (.ro (.int .i64)) (.cons (.ro .str) .nil))) (.cons (.agg (.cons (.ro (.int .i64)) (.cons (.ro .str) .nil))) .nil))))) (.cons (.ro (.int .i64)) .nil)))))))))))))))), (103, (.sl 3 (.int .i64)))]⟩
def f174con (F : TLeaf → (List TNode) → THead → Option (THead × Bool)) : Con := ⟨f174in, f174out, 3, 2, fun x => F x.1 x.2.1 x.2.2⟩
def f174ctx (k : Nat) : Ctx := ⟨tyAt tys, conAt [(101, [f101con (spec_l1In k)]), (172, [f172con (spec_l16Ids k)]), (173, [f173con (spec_l4Find k)]), (280, [f280con (spec_l16Part k)]), (281, [f281con (spec_l15From k)])], 153, fun _ => false⟩
theorem f174hc (k : Nat) : CtxOk Try.prog (f174ctx k) := ctxOk tys_ok mixed_ok (consOk_cons (f101ok k) (consOk_cons (f172ok k) (consOk_cons (f173ok k) (consOk_cons (f280ok k) (consOk_cons (f281ok k) (consOk_nil))))))
theorem f174ok (k : Nat) : FnOk Try.prog 174 (f174con (spec_l16Kind k)) :=
  let hc := f174hc k
  fnOk (fn := Try.f174) (code := bodyOf Try.f174) (res := [.cell 6 114, .tmp 7]) hc (by kernel_rfl) (by kernel_rfl) (by decide) (by kernel_rfl) (by kernel_rfl) (by kernel_rfl) (Nat.le_of_ble_eq_true (by kernel_rfl)) _
    (fun x => Snd.seq (by kernel_rfl) (Snd.seq (by kernel_rfl) (Snd.seq (by kernel_rfl) (Snd.cut (Snd.seq (by kernel_rfl) (Snd.seq (by kernel_rfl) (Snd.seq (by kernel_rfl) (Snd.seq (by kernel_rfl) (Snd.seq (by kernel_rfl) (Snd.seq (by kernel_rfl) (Snd.seq (by kernel_rfl) (Snd.cut (Snd.seq (by kernel_rfl) (Snd.cut (Snd.exec hc _ _ _ _) ⟨f174s33, fun x => spec_l16Kind.c33 k x.2.1 x.2.2⟩ (fun x => by kernel_rfl)) (Snd.exec hc _ _ _ _)) ⟨f174s27, fun x => spec_l16Kind.c27 k x.1.1 x.1.2.2.2.2.1 x.1.2.2.2.2.2 x.2.1 x.2.2.1 x.2.2.2⟩ (fun x => by kernel_rfl)) (Snd.exec hc _ _ _ _)) (Snd.exec hc _ _ _ _)) (Snd.exec hc _ _ _ _)) (Snd.exec hc _ _ _ _)) (Snd.exec hc _ _ _ _)) (Snd.exec hc _ _ _ _)) (Snd.exec hc _ _ _ _)) ⟨f174s7, fun x => spec_l16Kind.c7 k x.1.1 x.1.2.2.2.2.1 x.1.2.2.2.2.2.2 x.2.1 x.2.2.1 x.2.2.2.1 x.2.2.2.2⟩ (fun x => by kernel_rfl)) (Snd.exec hc _ _ _ _)) (Snd.exec hc _ _ _ _)) (Snd.exec hc _ _ _ _))
    (fun x => by kernel_rfl)

def f69in : SS := ⟨[(0, (.ro (.st (.cons (.int .i64) (.cons (.int .i64) (.cons (.int .i64) .nil)))))), (1, (.ro (.list 5 (.int .u8)))), (2, (.ro (.int .i64)))], []⟩
def f69out : SS := ⟨[(0, (.agg (.cons (.ro (.int .i64)) (.cons (.ro (.int .i64)) (.cons (.ro (.int .i64)) (.cons (.ro (.int .i64)) (.cons (.ro (.int .i64)) (.cons (.ro (.int .i64)) (.cons (.ro (.int .i64)) (.cons (.ro (.int .i64)) (.cons (.ro .bool) (.cons (.ro (.int .i64)) (.cons (.ro .bool) (.cons (.agg (.cons (.ro (.int .i64)) (.cons (.ro .bool) (.cons (.agg (.cons (.ro (.int .i64)) (.cons (.ro .str) .nil))) (.cons (.agg (.cons (.ro (.int .i64)) (.cons (.ro .str) .nil))) .nil))))) (.cons (.ro (.int .i64)) .nil))))))))))))))), (1, (.ro (.int .i64)))], []⟩
def f69s17 : SS := ⟨[(1, (.ro (.list 5 (.int .u8)))), (3, (.p 100)), (6, (.p 101)), (8, (.p 102)), (9, (.h 103)), (10, (.ro (.int .i64))), (14, (.p 104))], [(100, (.box (.st (.cons (.int .i64) (.cons (.int .i64) (.cons (.int .i64) .nil)))) (.agg (.cons (.ro (.int .i64)) (.cons (.ro (.int .i64)) (.cons (.ro (.int .i64)) .nil)))))), (101, (.box (.st (.cons (.int .i64) (.cons (.int .i64) (.cons (.int .i64) (.cons (.int .i64) (.cons (.int .i64) (.cons (.int .i64) (.cons (.int .i64) (.cons (.int .i64) (.cons .bool (.cons (.int .i64) (.cons .bool (.cons (.st (.cons (.int .i64) (.cons .bool (.cons (.st (.cons (.int .i64) (.cons .str .nil))) (.cons (.st (.cons (.int .i64) (.cons .str .nil))) .nil))))) (.cons (.int .i64) .nil)))))))))))))) (.agg (.cons (.ro (.int .i64)) (.cons (.ro (.int .i64)) (.cons (.ro (.int .i64)) (.cons (.ro (.int .i64)) (.cons (.ro (.int .i64)) (.cons (.ro (.int .i64)) (.cons (.ro (.int .i64)) (.cons (.ro (.int .i64)) (.cons (.ro .bool) (.cons (.ro (.int .i64)) (.cons (.ro .bool) (.cons (.agg (.cons (.ro (.int .i64)) (.cons (.ro .bool) (.cons (.agg (.cons (.ro (.int .i64)) (.cons (.ro .str) .nil))) (.cons (.agg (.cons (.ro (.int .i64)) (.cons (.ro .str) .nil))) .nil))))) (.cons (.ro (.int .i64)) .nil)))))))))))))))), (102, (.box (.st (.cons (.int .i64) (.cons (.int .i64) (.cons (.int .i64) (.cons (.int .i64) (.cons (.int .i64) (.cons (.int .i64) (.cons (.int .i64) (.cons (.int .i64) (.cons .bool (.cons (.int .i64) (.cons .bool (.cons (.st (.cons (.int .i64) (.cons .bool (.cons (.st (.cons (.int .i64) (.cons .str .nil))) (.cons (.st (.cons (.int .i64) (.cons .str .nil))) .nil))))) (.cons (.int .i64) .nil)))))))))))))) (.agg (.cons (.ro (.int .i64)) (.cons (.ro (.int .i64)) (.cons (.ro (.int .i64)) (.cons (.ro (.int .i64)) (.cons (.ro (.int .i64)) (.cons (.ro (.int .i64)) (.cons (.ro (.int .i64)) (.cons (.ro (.int .i64)) (.cons (.ro .bool) (.cons (.ro (.int .i64)) (.cons (.ro .bool) (.cons (.agg (.cons (.ro (.int .i64)) (.cons (.ro .bool) (.cons (.agg (.cons (.ro (.int .i64)) (.cons (.ro .str) .nil))) (.cons (.agg (.cons (.ro (.int .i64)) (.cons (.ro .str) .nil))) .nil))))) (.cons (.ro (.int .i64)) .nil)))))))))))))))), (103, (.sl 170 (.st (.cons (.int .i64) (.cons (.int .i64) (.cons (.int .i64) (.cons .str (.cons (.int .i64) .nil)))))))), (104, (.box (.st (.cons (.int .i64) (.cons (.int .i64) (.cons (.int .i64) (.cons (.int .i64) (.cons (.int .i64) (.cons (.int .i64) (.cons (.int .i64) (.cons (.int .i64) (.cons .bool (.cons (.int .i64) (.cons .bool (.cons (.st (.cons (.int .i64) (.cons .bool (.cons (.st (.cons (.int .i64) (.cons .str .nil))) (.cons (.st (.cons (.int .i64) (.cons .str .nil))) .nil))))) (.cons (.int .i64) .nil)))))))))))))) (.agg (.cons (.ro (.int .i64)) (.cons (.ro (.int .i64)) (.cons (.ro (.int .i64)) (.cons (.ro (.int .i64)) (.cons (.ro (.int .i64)) (.cons (.ro (.int .i64)) (.cons (.ro (.int .i64)) (.cons (.ro (.int .i64)) (.cons (.ro .bool) (.cons (.ro (.int .i64)) (.cons (.ro .bool) (.cons (.agg (.cons (.ro (.int .i64)) (.cons (.ro .bool) (.cons (.agg (.cons (.ro (.int .i64)) (.cons (.ro .str) .nil))) (.cons (.agg (.cons (.ro (.int .i64)) (.cons (.ro .str) .nil))) .nil))))) (.cons (.ro (.int .i64)) .nil))))))))))))))))]⟩
def f69con (F : TLeaf → (List Int) → Int → Option (THead × Int)) : Con := ⟨f69in, f69out, 3, 2, fun x => F x.1 x.2.1 x.2.2⟩
def f69ctx (k : Nat) : Ctx := ⟨tyAt tys, conAt [(32, [f32con (spec_TreeRead k)]), (171, [f171con (spec_LeafOk k)]), (172, [f172con (spec_l16Ids k)]), (173, [f173con (spec_l4Find k)]), (174, [f174con (spec_l16Kind k)])], 130, fun _ => false⟩
theorem f69hc (k : Nat) : CtxOk Try.prog (f69ctx k) := ctxOk tys_ok mixed_ok (consOk_cons (f32ok k) (consOk_cons (f171ok k) (consOk_cons (f172ok k) (consOk_cons (f173ok k) (consOk_cons (f174ok k) (consOk_nil))))))
theorem f69ok (k : Nat) : FnOk Try.prog 69 (f69con (spec_HeadRead k)) :=
  let hc := f69hc k
  fnOk (fn := Try.f69) (code := bodyOf Try.f69) (res := [.cell 6 114, .tmp 7]) hc (by kernel_rfl) (by kernel_rfl) (by decide) (by kernel_rfl) (by kernel_rfl) (by kernel_rfl) (Nat.le_of_ble_eq_true (by kernel_rfl)) _
    (fun x => Snd.seq (by kernel_rfl) (Snd.seq (by kernel_rfl) (Snd.seq (by kernel_rfl) (Snd.seq (by kernel_rfl) (Snd.seq (by kernel_rfl) (Snd.seq (by kernel_rfl) (Snd.seq (by kernel_rfl) (Snd.seq (by kernel_rfl) (Snd.seq (by kernel_rfl) (Snd.cut (Snd.exec hc _ _ _ _) ⟨f69s17, fun x => spec_HeadRead.c17 k x.1.1 x.1.2.2.2.2.2.1 x.2.1 x.2.2.1 x.2.2.2.1 x.2.2.2.2.1 x.2.2.2.2.2⟩ (fun x => by kernel_rfl)) (Snd.exec hc _ _ _ _)) (Snd.exec hc _ _ _ _)) (Snd.exec hc _ _ _ _)) (Snd.exec hc _ _ _ _)) (Snd.exec hc _ _ _ _)) (Snd.exec hc _ _ _ _)) (Snd.exec hc _ _ _ _)) (Snd.exec hc _ _ _ _)) (Snd.exec hc _ _ _ _))
    (fun x => by kernel_rfl)

def f70in : SS := ⟨[(0, (.ro (.st (.cons (.int .i64) (.cons (.int .i64) (.cons (.int .i64) .nil))))))], []⟩
def f70out : SS := ⟨[(0, (.agg (.cons (.ro (.int .i64)) (.cons (.ro (.int .i64)) (.cons (.ro (.int .i64)) .nil)))))], []⟩
def f70con (F : TLeaf → Option (TLeaf)) : Con := ⟨f70in, f70out, 1, 1, fun x => F x⟩
def f70ctx (k : Nat) : Ctx := ⟨tyAt tys, conAt [], 14, fun _ => false⟩
theorem f70hc (k : Nat) : CtxOk Try.prog (f70ctx k) := ctxOk tys_ok mixed_ok (consOk_nil)
theorem f70ok (k : Nat) : FnOk Try.prog 70 (f70con (laws_toLeaf k)) :=
  let hc := f70hc k
  fnOk (fn := Try.f70) (code := bodyOf Try.f70) (res := [.cell 2 71]) hc (by kernel_rfl) (by kernel_rfl) (by decide) (by kernel_rfl) (by kernel_rfl) (by kernel_rfl) (Nat.le_of_ble_eq_true (by kernel_rfl)) _
    (fun x => Snd.exec hc _ _ _ _)
    (fun x => by kernel_rfl)

def f105in : SS := ⟨[(0, (.ro (.int .i64))), (1, (.ro (.int .i64))), (2, (.ro (.int .i64)))], []⟩
def f105out : SS := ⟨[(0, (.ro .bool))], []⟩
def f105con (F : Int → Int → Int → Option Bool) : Con := ⟨f105in, f105out, 3, 1, fun x => F x.1 x.2.1 x.2.2⟩
def f105ctx (k : Nat) : Ctx := ⟨tyAt tys, conAt [], 15, fun _ => false⟩
theorem f105hc (k : Nat) : CtxOk Try.prog (f105ctx k) := ctxOk tys_ok mixed_ok (consOk_nil)
theorem f105ok (k : Nat) : FnOk Try.prog 105 (f105con (impl_within k)) :=
  let hc := f105hc k
  fnOk (fn := Try.f105) (code := bodyOf Try.f105) (res := [.tmp 6]) hc (by kernel_rfl) (by kernel_rfl) (by decide) (by kernel_rfl) (by kernel_rfl) (by kernel_rfl) (Nat.le_of_ble_eq_true (by kernel_rfl)) _
    (fun x => Snd.exec hc _ _ _ _)
    (fun x => by kernel_rfl)

def f212in : SS := ⟨[(0, (.p 0)), (1, (.ro (.int .i64)))], [(0, (.box (.st (.cons (.list 5 (.int .u8)) (.cons (.int .i64) (.cons (.list 170 (.st (.cons (.int .i64) (.cons (.int .i64) (.cons (.int .i64) (.cons .str (.cons (.int .i64) .nil))))))) (.cons (.int .i64) .nil))))) (.agg (.cons (.ro (.list 5 (.int .u8))) (.cons (.ro (.int .i64)) (.cons (.h 10) (.cons (.ro (.int .i64)) .nil))))))), (10, (.sl 170 (.st (.cons (.int .i64) (.cons (.int .i64) (.cons (.int .i64) (.cons .str (.cons (.int .i64) .nil))))))))]⟩
def f212out : SS := ⟨[], [(0, (.box (.st (.cons (.list 5 (.int .u8)) (.cons (.int .i64) (.cons (.list 170 (.st (.cons (.int .i64) (.cons (.int .i64) (.cons (.int .i64) (.cons .str (.cons (.int .i64) .nil))))))) (.cons (.int .i64) .nil))))) (.agg (.cons (.ro (.list 5 (.int .u8))) (.cons (.ro (.int .i64)) (.cons (.h 10) (.cons (.ro (.int .i64)) .nil))))))), (10, (.sl 170 (.st (.cons (.int .i64) (.cons (.int .i64) (.cons (.int .i64) (.cons .str (.cons (.int .i64) .nil))))))))]⟩
def f212con (F : Int → TTreeReaderB → (List TNode) → Option (Unit × TTreeReaderB × (List TNode))) : Con := ⟨f212in, f212out, 2, 0, fun x => F x.1.2 x.2.1 x.2.2⟩
def f212ctx (k : Nat) : Ctx := ⟨tyAt tys, conAt [], 13, fun _ => false⟩
theorem f212hc (k : Nat) : CtxOk Try.prog (f212ctx k) := ctxOk tys_ok mixed_ok (consOk_nil)
theorem f212ok (k : Nat) : FnOk Try.prog 212 (f212con (impl_treeReader_fail k)) :=
  let hc := f212hc k
  fnOk (fn := Try.f212) (code := bodyOf Try.f212) (res := []) hc (by kernel_rfl) (by kernel_rfl) (by decide) (by kernel_rfl) (by kernel_rfl) (by kernel_rfl) (Nat.le_of_ble_eq_true (by kernel_rfl)) _
    (fun x => Snd.exec hc _ _ _ _)
    (fun x => by kernel_rfl)

def f208in : SS := ⟨[(0, (.p 0)), (1, (.ro (.st (.cons (.int .i64) (.cons (.int .i64) (.cons (.int .i64) (.cons .str (.cons (.int .i64) .nil)))))))), (2, (.ro (.int .i64)))], [(0, (.box (.st (.cons (.list 5 (.int .u8)) (.cons (.int .i64) (.cons (.list 170 (.st (.cons (.int .i64) (.cons (.int .i64) (.cons (.int .i64) (.cons .str (.cons (.int .i64) .nil))))))) (.cons (.int .i64) .nil))))) (.agg (.cons (.ro (.list 5 (.int .u8))) (.cons (.ro (.int .i64)) (.cons (.h 10) (.cons (.ro (.int .i64)) .nil))))))), (10, (.sl 170 (.st (.cons (.int .i64) (.cons (.int .i64) (.cons (.int .i64) (.cons .str (.cons (.int .i64) .nil))))))))]⟩
def f208out : SS := ⟨[(0, (.ro (.int .i64)))], [(0, (.box (.st (.cons (.list 5 (.int .u8)) (.cons (.int .i64) (.cons (.list 170 (.st (.cons (.int .i64) (.cons (.int .i64) (.cons (.int .i64) (.cons .str (.cons (.int .i64) .nil))))))) (.cons (.int .i64) .nil))))) (.agg (.cons (.ro (.list 5 (.int .u8))) (.cons (.ro (.int .i64)) (.cons (.h 100) (.cons (.ro (.int .i64)) .nil))))))), (100, (.sl 170 (.st (.cons (.int .i64) (.cons (.int .i64) (.cons (.int .i64) (.cons .str (.cons (.int .i64) .nil))))))))]⟩
def f208s3 : SS := ⟨[(0, (.p 0)), (4, (.p 100))], [(0, (.box (.st (.cons (.list 5 (.int .u8)) (.cons (.int .i64) (.cons (.list 170 (.st (.cons (.int .i64) (.cons (.int .i64) (.cons (.int .i64) (.cons .str (.cons (.int .i64) .nil))))))) (.cons (.int .i64) .nil))))) (.agg (.cons (.ro (.list 5 (.int .u8))) (.cons (.ro (.int .i64)) (.cons (.h 10) (.cons (.ro (.int .i64)) .nil))))))), (10, (.sl 170 (.st (.cons (.int .i64) (.cons (.int .i64) (.cons (.int .i64) (.cons .str (.cons (.int .i64) .nil)))))))), (100, (.box (.st (.cons (.int .i64) (.cons (.int .i64) (.cons (.int .i64) (.cons .str (.cons (.int .i64) .nil)))))) (.agg (.cons (.ro (.int .i64)) (.cons (.ro (.int .i64)) (.cons (.ro (.int .i64)) (.cons (.ro .str) (.cons (.ro (.int .i64)) .nil))))))))]⟩
def f208con (F : TNode → Int → TTreeReaderB → (List TNode) → Option (Int × TTreeReaderB × (List TNode))) : Con := ⟨f208in, f208out, 3, 1, fun x => F x.1.2.1 x.1.2.2 x.2.1 x.2.2⟩
def f208ctx (k : Nat) : Ctx := ⟨tyAt tys, conAt [(212, [f212con (impl_treeReader_fail k)])], 40, fun _ => false⟩
theorem f208hc (k : Nat) : CtxOk Try.prog (f208ctx k) := ctxOk tys_ok mixed_ok (consOk_cons (f212ok k) (consOk_nil))
theorem f208ok (k : Nat) : FnOk Try.prog 208 (f208con (impl_treeReader_begin k)) :=
  let hc := f208hc k
  fnOk (fn := Try.f208) (code := bodyOf Try.f208) (res := [.tmp 6]) hc (by kernel_rfl) (by kernel_rfl) (by decide) (by kernel_rfl) (by kernel_rfl) (by kernel_rfl) (Nat.le_of_ble_eq_true (by kernel_rfl)) _
    (fun x => Snd.seq (by kernel_rfl) (Snd.seq (by kernel_rfl) (Snd.cut (Snd.exec hc _ _ _ _) ⟨f208s3, fun x => impl_treeReader_begin.c3 k x.2.1 x.2.2.1 x.2.2.2⟩ (fun x => by kernel_rfl)) (Snd.exec hc _ _ _ _)) (Snd.exec hc _ _ _ _))
    (fun x => by kernel_rfl)

def f209in : SS := ⟨[(0, (.ro (.int .i64)))], []⟩
def f209out : SS := ⟨[(0, (.ro (.int .i64)))], []⟩
def f209con (F : Int → Option Int) : Con := ⟨f209in, f209out, 1, 1, fun x => F x⟩
def f209ctx (k : Nat) : Ctx := ⟨tyAt tys, conAt [], 11, fun _ => false⟩
theorem f209hc (k : Nat) : CtxOk Try.prog (f209ctx k) := ctxOk tys_ok mixed_ok (consOk_nil)
theorem f209ok (k : Nat) : FnOk Try.prog 209 (f209con (impl_Zag k)) :=
  let hc := f209hc k
  fnOk (fn := Try.f209) (code := bodyOf Try.f209) (res := [.tmp 2]) hc (by kernel_rfl) (by kernel_rfl) (by decide) (by kernel_rfl) (by kernel_rfl) (by kernel_rfl) (Nat.le_of_ble_eq_true (by kernel_rfl)) _
    (fun x => Snd.exec hc _ _ _ _)
    (fun x => by kernel_rfl)

def f303in : SS := ⟨[(0, (.ro (.list 5 (.int .u8)))), (1, (.ro (.int .i64)))], []⟩
def f303out : SS := ⟨[(0, (.ro (.int .i64))), (1, (.ro (.int .i64))), (2, (.ro .bool))], []⟩
def f303s12 : SS := ⟨[], []⟩
def f303s5 : SS := ⟨[(0, (.ro (.list 5 (.int .u8)))), (1, (.ro (.int .i64))), (7, (.ro (.int .u64))), (8, (.ro (.int .i64)))], []⟩
def f303con (F : (List Int) → Int → Option (Int × Int × Bool)) : Con := ⟨f303in, f303out, 2, 3, fun x => F x.1 x.2⟩
def f303ctx (k : Nat) : Ctx := ⟨tyAt tys, conAt [], 52, fun _ => false⟩
theorem f303hc (k : Nat) : CtxOk Try.prog (f303ctx k) := ctxOk tys_ok mixed_ok (consOk_nil)
theorem f303ok (k : Nat) : FnOk Try.prog 303 (f303con (impl_UvarGet k)) :=
  let hc := f303hc k
  fnOk (fn := Try.f303) (code := bodyOf Try.f303) (res := [.tmp 4, .tmp 5, .tmp 6]) hc (by kernel_rfl) (by kernel_rfl) (by decide) (by kernel_rfl) (by kernel_rfl) (by kernel_rfl) (Nat.le_of_ble_eq_true (by kernel_rfl)) _
    (fun x => Snd.seq (by kernel_rfl) (Snd.seq (by kernel_rfl) (Snd.seq (by kernel_rfl) (Snd.seq (by kernel_rfl) (Snd.cut (Snd.exec hc _ _ _ _) ⟨f303s12, fun x => impl_UvarGet.c12 k⟩ (fun x => by kernel_rfl)) (Snd.seq (by kernel_rfl) (Snd.block (id := 0) (by kernel_rfl) (Snd.loop' (by kernel_rfl) f303s5 (fun n x => impl_UvarGet.l5 k n x.1 x.2.1 x.2.2.1 x.2.2.2) _ (fun _ => rfl) (fun n5 => Snd.exec hc _ _ _ _) (fun n x => by kernel_rfl) k)) (Snd.exec hc _ _ _ _))) (Snd.exec hc _ _ _ _)) (Snd.exec hc _ _ _ _)) (Snd.exec hc _ _ _ _))
    (fun x => by kernel_rfl)

def f210in : SS := ⟨[(0, (.p 0))], [(0, (.box (.st (.cons (.list 5 (.int .u8)) (.cons (.int .i64) (.cons (.list 170 (.st (.cons (.int .i64) (.cons (.int .i64) (.cons (.int .i64) (.cons .str (.cons (.int .i64) .nil))))))) (.cons (.int .i64) .nil))))) (.agg (.cons (.ro (.list 5 (.int .u8))) (.cons (.ro (.int .i64)) (.cons (.h 10) (.cons (.ro (.int .i64)) .nil))))))), (10, (.sl 170 (.st (.cons (.int .i64) (.cons (.int .i64) (.cons (.int .i64) (.cons .str (.cons (.int .i64) .nil))))))))]⟩
def f210out : SS := ⟨[(0, (.ro (.int .i64)))], [(0, (.box (.st (.cons (.list 5 (.int .u8)) (.cons (.int .i64) (.cons (.list 170 (.st (.cons (.int .i64) (.cons (.int .i64) (.cons (.int .i64) (.cons .str (.cons (.int .i64) .nil))))))) (.cons (.int .i64) .nil))))) (.agg (.cons (.ro (.list 5 (.int .u8))) (.cons (.ro (.int .i64)) (.cons (.h 10) (.cons (.ro (.int .i64)) .nil))))))), (10, (.sl 170 (.st (.cons (.int .i64) (.cons (.int .i64) (.cons (.int .i64) (.cons .str (.cons (.int .i64) .nil))))))))]⟩
def f210con (F : TTreeReaderB → (List TNode) → Option (Int × TTreeReaderB × (List TNode))) : Con := ⟨f210in, f210out, 1, 1, fun x => F x.2.1 x.2.2⟩
def f210ctx (k : Nat) : Ctx := ⟨tyAt tys, conAt [(212, [f212con (impl_treeReader_fail k)]), (303, [f303con (impl_UvarGet k)])], 35, fun _ => false⟩
theorem f210hc (k : Nat) : CtxOk Try.prog (f210ctx k) := ctxOk tys_ok mixed_ok (consOk_cons (f212ok k) (consOk_cons (f303ok k) (consOk_nil)))
theorem f210ok (k : Nat) : FnOk Try.prog 210 (f210con (impl_treeReader_uvar k)) :=
  let hc := f210hc k
  fnOk (fn := Try.f210) (code := bodyOf Try.f210) (res := [.tmp 2]) hc (by kernel_rfl) (by kernel_rfl) (by decide) (by kernel_rfl) (by kernel_rfl) (by kernel_rfl) (Nat.le_of_ble_eq_true (by kernel_rfl)) _
    (fun x => Snd.exec hc _ _ _ _)
    (fun x => by kernel_rfl)

def f211in : SS := ⟨[(0, (.ro (.int .i64)))], []⟩
def f211out : SS := ⟨[(0, (.ro .bool))], []⟩
def f211con (F : Int → Option Bool) : Con := ⟨f211in, f211out, 1, 1, fun x => F x⟩
def f211ctx (k : Nat) : Ctx := ⟨tyAt tys, conAt [(105, [f105con (impl_within k)])], 5, fun _ => false⟩
theorem f211hc (k : Nat) : CtxOk Try.prog (f211ctx k) := ctxOk tys_ok mixed_ok (consOk_cons (f105ok k) (consOk_nil))
theorem f211ok (k : Nat) : FnOk Try.prog 211 (f211con (impl_isInt32 k)) :=
  let hc := f211hc k
  fnOk (fn := Try.f211) (code := bodyOf Try.f211) (res := [.tmp 2]) hc (by kernel_rfl) (by kernel_rfl) (by decide) (by kernel_rfl) (by kernel_rfl) (by kernel_rfl) (Nat.le_of_ble_eq_true (by kernel_rfl)) _
    (fun x => Snd.exec hc _ _ _ _)
    (fun x => by kernel_rfl)

def f213in : SS := ⟨[(0, (.p 0))], [(0, (.box (.st (.cons (.list 5 (.int .u8)) (.cons (.int .i64) (.cons (.list 170 (.st (.cons (.int .i64) (.cons (.int .i64) (.cons (.int .i64) (.cons .str (.cons (.int .i64) .nil))))))) (.cons (.int .i64) .nil))))) (.agg (.cons (.ro (.list 5 (.int .u8))) (.cons (.ro (.int .i64)) (.cons (.h 10) (.cons (.ro (.int .i64)) .nil))))))), (10, (.sl 170 (.st (.cons (.int .i64) (.cons (.int .i64) (.cons (.int .i64) (.cons .str (.cons (.int .i64) .nil))))))))]⟩
def f213out : SS := ⟨[(0, (.ro .str))], [(0, (.box (.st (.cons (.list 5 (.int .u8)) (.cons (.int .i64) (.cons (.list 170 (.st (.cons (.int .i64) (.cons (.int .i64) (.cons (.int .i64) (.cons .str (.cons (.int .i64) .nil))))))) (.cons (.int .i64) .nil))))) (.agg (.cons (.ro (.list 5 (.int .u8))) (.cons (.ro (.int .i64)) (.cons (.h 10) (.cons (.ro (.int .i64)) .nil))))))), (10, (.sl 170 (.st (.cons (.int .i64) (.cons (.int .i64) (.cons (.int .i64) (.cons .str (.cons (.int .i64) .nil))))))))]⟩
def f213s6 : SS := ⟨[(0, (.p 0)), (3, (.ro (.int .i64)))], [(0, (.box (.st (.cons (.list 5 (.int .u8)) (.cons (.int .i64) (.cons (.list 170 (.st (.cons (.int .i64) (.cons (.int .i64) (.cons (.int .i64) (.cons .str (.cons (.int .i64) .nil))))))) (.cons (.int .i64) .nil))))) (.agg (.cons (.ro (.list 5 (.int .u8))) (.cons (.ro (.int .i64)) (.cons (.h 10) (.cons (.ro (.int .i64)) .nil))))))), (10, (.sl 170 (.st (.cons (.int .i64) (.cons (.int .i64) (.cons (.int .i64) (.cons .str (.cons (.int .i64) .nil))))))))]⟩
def f213s4 : SS := ⟨[(0, (.p 0)), (3, (.ro (.int .i64)))], [(0, (.box (.st (.cons (.list 5 (.int .u8)) (.cons (.int .i64) (.cons (.list 170 (.st (.cons (.int .i64) (.cons (.int .i64) (.cons (.int .i64) (.cons .str (.cons (.int .i64) .nil))))))) (.cons (.int .i64) .nil))))) (.agg (.cons (.ro (.list 5 (.int .u8))) (.cons (.ro (.int .i64)) (.cons (.h 10) (.cons (.ro (.int .i64)) .nil))))))), (10, (.sl 170 (.st (.cons (.int .i64) (.cons (.int .i64) (.cons (.int .i64) (.cons .str (.cons (.int .i64) .nil))))))))]⟩
def f213con (F : TTreeReaderB → (List TNode) → Option (ByteArray × TTreeReaderB × (List TNode))) : Con := ⟨f213in, f213out, 1, 1, fun x => F x.2.1 x.2.2⟩
def f213ctx (k : Nat) : Ctx := ⟨tyAt tys, conAt [(105, [f105con (impl_within k)]), (210, [f210con (impl_treeReader_uvar k)]), (212, [f212con (impl_treeReader_fail k)])], 68, fun _ => false⟩
theorem f213hc (k : Nat) : CtxOk Try.prog (f213ctx k) := ctxOk tys_ok mixed_ok (consOk_cons (f105ok k) (consOk_cons (f210ok k) (consOk_cons (f212ok k) (consOk_nil))))
theorem f213ok (k : Nat) : FnOk Try.prog 213 (f213con (impl_treeReader_text k)) :=
  let hc := f213hc k
  fnOk (fn := Try.f213) (code := bodyOf Try.f213) (res := [.tmp 2]) hc (by kernel_rfl) (by kernel_rfl) (by decide) (by kernel_rfl) (by kernel_rfl) (by kernel_rfl) (Nat.le_of_ble_eq_true (by kernel_rfl)) _
    (fun x => Snd.seq (by kernel_rfl) (Snd.seq (by kernel_rfl) (Snd.seq (by kernel_rfl) (Snd.cut (Snd.seq (by kernel_rfl) (Snd.cut (Snd.exec hc _ _ _ _) ⟨f213s6, fun x => impl_treeReader_text.c6 k x.1.2 x.2.1 x.2.2⟩ (fun x => by kernel_rfl)) (Snd.exec hc _ _ _ _)) ⟨f213s4, fun x => impl_treeReader_text.c4 k x.1.2 x.2.1 x.2.2⟩ (fun x => by kernel_rfl)) (Snd.exec hc _ _ _ _)) (Snd.exec hc _ _ _ _)) (Snd.exec hc _ _ _ _))
    (fun x => by kernel_rfl)

def f304in : SS := ⟨[(0, (.p 0))], [(0, (.box (.st (.cons (.list 5 (.int .u8)) (.cons (.int .i64) (.cons (.list 170 (.st (.cons (.int .i64) (.cons (.int .i64) (.cons (.int .i64) (.cons .str (.cons (.int .i64) .nil))))))) (.cons (.int .i64) .nil))))) (.agg (.cons (.ro (.list 5 (.int .u8))) (.cons (.ro (.int .i64)) (.cons (.h 10) (.cons (.ro (.int .i64)) .nil))))))), (10, (.sl 170 (.st (.cons (.int .i64) (.cons (.int .i64) (.cons (.int .i64) (.cons .str (.cons (.int .i64) .nil))))))))]⟩
def f304out : SS := ⟨[(0, (.ro (.int .i64)))], [(0, (.box (.st (.cons (.list 5 (.int .u8)) (.cons (.int .i64) (.cons (.list 170 (.st (.cons (.int .i64) (.cons (.int .i64) (.cons (.int .i64) (.cons .str (.cons (.int .i64) .nil))))))) (.cons (.int .i64) .nil))))) (.agg (.cons (.ro (.list 5 (.int .u8))) (.cons (.ro (.int .i64)) (.cons (.h 10) (.cons (.ro (.int .i64)) .nil))))))), (10, (.sl 170 (.st (.cons (.int .i64) (.cons (.int .i64) (.cons (.int .i64) (.cons .str (.cons (.int .i64) .nil))))))))]⟩
def f304con (F : TTreeReaderB → (List TNode) → Option (Int × TTreeReaderB × (List TNode))) : Con := ⟨f304in, f304out, 1, 1, fun x => F x.2.1 x.2.2⟩
def f304ctx (k : Nat) : Ctx := ⟨tyAt tys, conAt [(212, [f212con (impl_treeReader_fail k)])], 41, fun _ => false⟩
theorem f304hc (k : Nat) : CtxOk Try.prog (f304ctx k) := ctxOk tys_ok mixed_ok (consOk_cons (f212ok k) (consOk_nil))
theorem f304ok (k : Nat) : FnOk Try.prog 304 (f304con (impl_treeReader_one k)) :=
  let hc := f304hc k
  fnOk (fn := Try.f304) (code := bodyOf Try.f304) (res := [.tmp 2]) hc (by kernel_rfl) (by kernel_rfl) (by decide) (by kernel_rfl) (by kernel_rfl) (by kernel_rfl) (Nat.le_of_ble_eq_true (by kernel_rfl)) _
    (fun x => Snd.exec hc _ _ _ _)
    (fun x => by kernel_rfl)

def f305in : SS := ⟨[(0, (.ro (.int .i64))), (1, (.ro .bool))], []⟩
def f305out : SS := ⟨[(0, (.ro .bool))], []⟩
def f305s10 : SS := ⟨[(11, (.ro .bool))], []⟩
def f305s4 : SS := ⟨[(1, (.ro .bool)), (5, (.ro (.int .i64))), (6, (.ro .bool))], []⟩
def f305con (F : Int → Bool → Option Bool) : Con := ⟨f305in, f305out, 2, 1, fun x => F x.1 x.2⟩
def f305ctx (k : Nat) : Ctx := ⟨tyAt tys, conAt [], 17, fun _ => false⟩
theorem f305hc (k : Nat) : CtxOk Try.prog (f305ctx k) := ctxOk tys_ok mixed_ok (consOk_nil)
theorem f305ok (k : Nat) : FnOk Try.prog 305 (f305con (impl_isType k)) :=
  let hc := f305hc k
  fnOk (fn := Try.f305) (code := bodyOf Try.f305) (res := [.tmp 4]) hc (by kernel_rfl) (by kernel_rfl) (by decide) (by kernel_rfl) (by kernel_rfl) (by kernel_rfl) (Nat.le_of_ble_eq_true (by kernel_rfl)) _
    (fun x => Snd.seq (by kernel_rfl) (Snd.seq (by kernel_rfl) (Snd.exec hc _ _ _ _) (Snd.seq (by kernel_rfl) (Snd.block (id := 0) (by kernel_rfl) (Snd.seq (by kernel_rfl) (Snd.cut (Snd.cond (x := .tmp 6) (by kernel_rfl) (Snd.exec hc _ _ _ _) (Snd.seq (by kernel_rfl) (Snd.cut (Snd.exec hc _ _ _ _) ⟨f305s10, fun x => impl_isType.c10 k x⟩ (fun x => by kernel_rfl)) (Snd.exec hc _ _ _ _))) ⟨f305s4, fun x => impl_isType.c4 k x.1 x.2.1 x.2.2⟩ (fun x => by kernel_rfl)) (Snd.exec hc _ _ _ _))) (Snd.exec hc _ _ _ _))) (Snd.exec hc _ _ _ _))
    (fun x => by kernel_rfl)

def f111in : SS := ⟨[(0, (.p 0)), (1, (.ro (.int .i64))), (2, (.ro (.int .i64))), (3, (.ro (.int .i64)))], [(0, (.box (.st (.cons (.list 5 (.int .u8)) (.cons (.int .i64) (.cons (.list 170 (.st (.cons (.int .i64) (.cons (.int .i64) (.cons (.int .i64) (.cons .str (.cons (.int .i64) .nil))))))) (.cons (.int .i64) .nil))))) (.agg (.cons (.ro (.list 5 (.int .u8))) (.cons (.ro (.int .i64)) (.cons (.h 10) (.cons (.ro (.int .i64)) .nil))))))), (10, (.sl 170 (.st (.cons (.int .i64) (.cons (.int .i64) (.cons (.int .i64) (.cons .str (.cons (.int .i64) .nil))))))))]⟩
def f111out : SS := ⟨[], [(0, (.box (.st (.cons (.list 5 (.int .u8)) (.cons (.int .i64) (.cons (.list 170 (.st (.cons (.int .i64) (.cons (.int .i64) (.cons (.int .i64) (.cons .str (.cons (.int .i64) .nil))))))) (.cons (.int .i64) .nil))))) (.agg (.cons (.ro (.list 5 (.int .u8))) (.cons (.ro (.int .i64)) (.cons (.h 100) (.cons (.ro (.int .i64)) .nil))))))), (100, (.sl 170 (.st (.cons (.int .i64) (.cons (.int .i64) (.cons (.int .i64) (.cons .str (.cons (.int .i64) .nil))))))))]⟩
def f111s8 : SS := ⟨[(0, (.p 0)), (8, (.ro (.int .i64))), (9, (.ro (.int .i64)))], [(0, (.box (.st (.cons (.list 5 (.int .u8)) (.cons (.int .i64) (.cons (.list 170 (.st (.cons (.int .i64) (.cons (.int .i64) (.cons (.int .i64) (.cons .str (.cons (.int .i64) .nil))))))) (.cons (.int .i64) .nil))))) (.agg (.cons (.ro (.list 5 (.int .u8))) (.cons (.ro (.int .i64)) (.cons (.h 100) (.cons (.ro (.int .i64)) .nil))))))), (100, (.sl 170 (.st (.cons (.int .i64) (.cons (.int .i64) (.cons (.int .i64) (.cons .str (.cons (.int .i64) .nil))))))))]⟩
def f111d10 : SS := ⟨[(0, (.p 0)), (8, (.ro (.int .i64)))], [(0, (.box (.st (.cons (.list 5 (.int .u8)) (.cons (.int .i64) (.cons (.list 170 (.st (.cons (.int .i64) (.cons (.int .i64) (.cons (.int .i64) (.cons .str (.cons (.int .i64) .nil))))))) (.cons (.int .i64) .nil))))) (.agg (.cons (.ro (.list 5 (.int .u8))) (.cons (.ro (.int .i64)) (.cons (.h 100) (.cons (.ro (.int .i64)) .nil))))))), (100, (.sl 170 (.st (.cons (.int .i64) (.cons (.int .i64) (.cons (.int .i64) (.cons .str (.cons (.int .i64) .nil))))))))]⟩
def f111s5 : SS := ⟨[(0, (.p 0)), (1, (.ro (.int .i64))), (3, (.ro (.int .i64))), (8, (.ro (.int .i64))), (21, (.ro (.int .i64))), (22, (.ro .bool))], [(0, (.box (.st (.cons (.list 5 (.int .u8)) (.cons (.int .i64) (.cons (.list 170 (.st (.cons (.int .i64) (.cons (.int .i64) (.cons (.int .i64) (.cons .str (.cons (.int .i64) .nil))))))) (.cons (.int .i64) .nil))))) (.agg (.cons (.ro (.list 5 (.int .u8))) (.cons (.ro (.int .i64)) (.cons (.h 100) (.cons (.ro (.int .i64)) .nil))))))), (100, (.sl 170 (.st (.cons (.int .i64) (.cons (.int .i64) (.cons (.int .i64) (.cons .str (.cons (.int .i64) .nil))))))))]⟩
def f111con (F : Int → Int → Int → TTreeReaderB → (List TNode) → Option (Unit × TTreeReaderB × (List TNode))) : Con := ⟨f111in, f111out, 4, 0, fun x => F x.1.2.1 x.1.2.2.1 x.1.2.2.2 x.2.1 x.2.2⟩
def f214in : SS := ⟨[(0, (.p 0)), (1, (.ro (.int .i64))), (2, (.ro (.int .i64)))], [(0, (.box (.st (.cons (.list 5 (.int .u8)) (.cons (.int .i64) (.cons (.list 170 (.st (.cons (.int .i64) (.cons (.int .i64) (.cons (.int .i64) (.cons .str (.cons (.int .i64) .nil))))))) (.cons (.int .i64) .nil))))) (.agg (.cons (.ro (.list 5 (.int .u8))) (.cons (.ro (.int .i64)) (.cons (.h 10) (.cons (.ro (.int .i64)) .nil))))))), (10, (.sl 170 (.st (.cons (.int .i64) (.cons (.int .i64) (.cons (.int .i64) (.cons .str (.cons (.int .i64) .nil))))))))]⟩
def f214out : SS := ⟨[], [(0, (.box (.st (.cons (.list 5 (.int .u8)) (.cons (.int .i64) (.cons (.list 170 (.st (.cons (.int .i64) (.cons (.int .i64) (.cons (.int .i64) (.cons .str (.cons (.int .i64) .nil))))))) (.cons (.int .i64) .nil))))) (.agg (.cons (.ro (.list 5 (.int .u8))) (.cons (.ro (.int .i64)) (.cons (.h 100) (.cons (.ro (.int .i64)) .nil))))))), (100, (.sl 170 (.st (.cons (.int .i64) (.cons (.int .i64) (.cons (.int .i64) (.cons .str (.cons (.int .i64) .nil))))))))]⟩
def f214s11 : SS := ⟨[(0, (.p 0)), (2, (.ro (.int .i64))), (7, (.ro (.int .i64))), (8, (.ro (.int .i64))), (9, (.ro (.int .i64)))], [(0, (.box (.st (.cons (.list 5 (.int .u8)) (.cons (.int .i64) (.cons (.list 170 (.st (.cons (.int .i64) (.cons (.int .i64) (.cons (.int .i64) (.cons .str (.cons (.int .i64) .nil))))))) (.cons (.int .i64) .nil))))) (.agg (.cons (.ro (.list 5 (.int .u8))) (.cons (.ro (.int .i64)) (.cons (.h 100) (.cons (.ro (.int .i64)) .nil))))))), (100, (.sl 170 (.st (.cons (.int .i64) (.cons (.int .i64) (.cons (.int .i64) (.cons .str (.cons (.int .i64) .nil))))))))]⟩
def f214s9 : SS := ⟨[(0, (.p 0)), (1, (.ro (.int .i64))), (2, (.ro (.int .i64))), (7, (.ro (.int .i64))), (8, (.ro (.int .i64)))], [(0, (.box (.st (.cons (.list 5 (.int .u8)) (.cons (.int .i64) (.cons (.list 170 (.st (.cons (.int .i64) (.cons (.int .i64) (.cons (.int .i64) (.cons .str (.cons (.int .i64) .nil))))))) (.cons (.int .i64) .nil))))) (.agg (.cons (.ro (.list 5 (.int .u8))) (.cons (.ro (.int .i64)) (.cons (.h 10) (.cons (.ro (.int .i64)) .nil))))))), (10, (.sl 170 (.st (.cons (.int .i64) (.cons (.int .i64) (.cons (.int .i64) (.cons .str (.cons (.int .i64) .nil))))))))]⟩
def f214s7 : SS := ⟨[(0, (.p 0)), (1, (.ro (.int .i64))), (2, (.ro (.int .i64))), (7, (.ro (.int .i64))), (8, (.ro (.int .i64)))], [(0, (.box (.st (.cons (.list 5 (.int .u8)) (.cons (.int .i64) (.cons (.list 170 (.st (.cons (.int .i64) (.cons (.int .i64) (.cons (.int .i64) (.cons .str (.cons (.int .i64) .nil))))))) (.cons (.int .i64) .nil))))) (.agg (.cons (.ro (.list 5 (.int .u8))) (.cons (.ro (.int .i64)) (.cons (.h 10) (.cons (.ro (.int .i64)) .nil))))))), (10, (.sl 170 (.st (.cons (.int .i64) (.cons (.int .i64) (.cons (.int .i64) (.cons .str (.cons (.int .i64) .nil))))))))]⟩
def f214s4 : SS := ⟨[(0, (.p 0)), (1, (.ro (.int .i64))), (2, (.ro (.int .i64))), (7, (.ro (.int .i64))), (8, (.ro (.int .i64)))], [(0, (.box (.st (.cons (.list 5 (.int .u8)) (.cons (.int .i64) (.cons (.list 170 (.st (.cons (.int .i64) (.cons (.int .i64) (.cons (.int .i64) (.cons .str (.cons (.int .i64) .nil))))))) (.cons (.int .i64) .nil))))) (.agg (.cons (.ro (.list 5 (.int .u8))) (.cons (.ro (.int .i64)) (.cons (.h 10) (.cons (.ro (.int .i64)) .nil))))))), (10, (.sl 170 (.st (.cons (.int .i64) (.cons (.int .i64) (.cons (.int .i64) (.cons .str (.cons (.int .i64) .nil))))))))]⟩
def f214con (F : Int → Int → TTreeReaderB → (List TNode) → Option (Unit × TTreeReaderB × (List TNode))) : Con := ⟨f214in, f214out, 3, 0, fun x => F x.1.2.1 x.1.2.2 x.2.1 x.2.2⟩
def f215in : SS := ⟨[(0, (.p 0)), (1, (.ro (.int .i64))), (2, (.ro (.int .i64)))], [(0, (.box (.st (.cons (.list 5 (.int .u8)) (.cons (.int .i64) (.cons (.list 170 (.st (.cons (.int .i64) (.cons (.int .i64) (.cons (.int .i64) (.cons .str (.cons (.int .i64) .nil))))))) (.cons (.int .i64) .nil))))) (.agg (.cons (.ro (.list 5 (.int .u8))) (.cons (.ro (.int .i64)) (.cons (.h 10) (.cons (.ro (.int .i64)) .nil))))))), (10, (.sl 170 (.st (.cons (.int .i64) (.cons (.int .i64) (.cons (.int .i64) (.cons .str (.cons (.int .i64) .nil))))))))]⟩
def f215out : SS := ⟨[], [(0, (.box (.st (.cons (.list 5 (.int .u8)) (.cons (.int .i64) (.cons (.list 170 (.st (.cons (.int .i64) (.cons (.int .i64) (.cons (.int .i64) (.cons .str (.cons (.int .i64) .nil))))))) (.cons (.int .i64) .nil))))) (.agg (.cons (.ro (.list 5 (.int .u8))) (.cons (.ro (.int .i64)) (.cons (.h 100) (.cons (.ro (.int .i64)) .nil))))))), (100, (.sl 170 (.st (.cons (.int .i64) (.cons (.int .i64) (.cons (.int .i64) (.cons .str (.cons (.int .i64) .nil))))))))]⟩
def f215s12 : SS := ⟨[(0, (.p 0)), (1, (.ro (.int .i64))), (2, (.ro (.int .i64))), (8, (.ro (.int .i64))), (9, (.ro (.int .i64)))], [(0, (.box (.st (.cons (.list 5 (.int .u8)) (.cons (.int .i64) (.cons (.list 170 (.st (.cons (.int .i64) (.cons (.int .i64) (.cons (.int .i64) (.cons .str (.cons (.int .i64) .nil))))))) (.cons (.int .i64) .nil))))) (.agg (.cons (.ro (.list 5 (.int .u8))) (.cons (.ro (.int .i64)) (.cons (.h 100) (.cons (.ro (.int .i64)) .nil))))))), (100, (.sl 170 (.st (.cons (.int .i64) (.cons (.int .i64) (.cons (.int .i64) (.cons .str (.cons (.int .i64) .nil))))))))]⟩
def f215s10 : SS := ⟨[(0, (.p 0)), (1, (.ro (.int .i64))), (2, (.ro (.int .i64))), (6, (.ro (.int .i64))), (8, (.ro (.int .i64))), (9, (.ro (.int .i64)))], [(0, (.box (.st (.cons (.list 5 (.int .u8)) (.cons (.int .i64) (.cons (.list 170 (.st (.cons (.int .i64) (.cons (.int .i64) (.cons (.int .i64) (.cons .str (.cons (.int .i64) .nil))))))) (.cons (.int .i64) .nil))))) (.agg (.cons (.ro (.list 5 (.int .u8))) (.cons (.ro (.int .i64)) (.cons (.h 100) (.cons (.ro (.int .i64)) .nil))))))), (100, (.sl 170 (.st (.cons (.int .i64) (.cons (.int .i64) (.cons (.int .i64) (.cons .str (.cons (.int .i64) .nil))))))))]⟩
def f215s8 : SS := ⟨[(0, (.p 0)), (1, (.ro (.int .i64))), (2, (.ro (.int .i64))), (6, (.ro (.int .i64))), (8, (.ro (.int .i64))), (9, (.ro (.int .i64)))], [(0, (.box (.st (.cons (.list 5 (.int .u8)) (.cons (.int .i64) (.cons (.list 170 (.st (.cons (.int .i64) (.cons (.int .i64) (.cons (.int .i64) (.cons .str (.cons (.int .i64) .nil))))))) (.cons (.int .i64) .nil))))) (.agg (.cons (.ro (.list 5 (.int .u8))) (.cons (.ro (.int .i64)) (.cons (.h 100) (.cons (.ro (.int .i64)) .nil))))))), (100, (.sl 170 (.st (.cons (.int .i64) (.cons (.int .i64) (.cons (.int .i64) (.cons .str (.cons (.int .i64) .nil))))))))]⟩
def f215s6 : SS := ⟨[(0, (.p 0)), (1, (.ro (.int .i64))), (2, (.ro (.int .i64))), (6, (.ro (.int .i64))), (7, (.ro (.int .i64))), (8, (.ro (.int .i64))), (9, (.ro (.int .i64)))], [(0, (.box (.st (.cons (.list 5 (.int .u8)) (.cons (.int .i64) (.cons (.list 170 (.st (.cons (.int .i64) (.cons (.int .i64) (.cons (.int .i64) (.cons .str (.cons (.int .i64) .nil))))))) (.cons (.int .i64) .nil))))) (.agg (.cons (.ro (.list 5 (.int .u8))) (.cons (.ro (.int .i64)) (.cons (.h 100) (.cons (.ro (.int .i64)) .nil))))))), (100, (.sl 170 (.st (.cons (.int .i64) (.cons (.int .i64) (.cons (.int .i64) (.cons .str (.cons (.int .i64) .nil))))))))]⟩
def f215s1 : SS := ⟨[(0, (.p 0)), (1, (.ro (.int .i64))), (2, (.ro (.int .i64))), (6, (.ro (.int .i64)))], [(0, (.box (.st (.cons (.list 5 (.int .u8)) (.cons (.int .i64) (.cons (.list 170 (.st (.cons (.int .i64) (.cons (.int .i64) (.cons (.int .i64) (.cons .str (.cons (.int .i64) .nil))))))) (.cons (.int .i64) .nil))))) (.agg (.cons (.ro (.list 5 (.int .u8))) (.cons (.ro (.int .i64)) (.cons (.h 100) (.cons (.ro (.int .i64)) .nil))))))), (100, (.sl 170 (.st (.cons (.int .i64) (.cons (.int .i64) (.cons (.int .i64) (.cons .str (.cons (.int .i64) .nil))))))))]⟩
def f215con (F : Int → Int → TTreeReaderB → (List TNode) → Option (Unit × TTreeReaderB × (List TNode))) : Con := ⟨f215in, f215out, 3, 0, fun x => F x.1.2.1 x.1.2.2 x.2.1 x.2.2⟩
def f111ctx (k : Nat) (S111 : Int → Int → Int → TTreeReaderB → (List TNode) → Option (Unit × TTreeReaderB × (List TNode))) (S214 : Int → Int → TTreeReaderB → (List TNode) → Option (Unit × TTreeReaderB × (List TNode))) (S215 : Int → Int → TTreeReaderB → (List TNode) → Option (Unit × TTreeReaderB × (List TNode))) : Ctx := ⟨tyAt tys, conAt [(208, [f208con (impl_treeReader_begin k)]), (209, [f209con (impl_Zag k)]), (210, [f210con (impl_treeReader_uvar k)]), (211, [f211con (impl_isInt32 k)]), (212, [f212con (impl_treeReader_fail k)]), (213, [f213con (impl_treeReader_text k)]), (214, [f214con S214]), (215, [f215con S215])], 75, fun _ => false⟩
theorem f111hc (k : Nat) (S111 : Int → Int → Int → TTreeReaderB → (List TNode) → Option (Unit × TTreeReaderB × (List TNode))) (S214 : Int → Int → TTreeReaderB → (List TNode) → Option (Unit × TTreeReaderB × (List TNode))) (S215 : Int → Int → TTreeReaderB → (List TNode) → Option (Unit × TTreeReaderB × (List TNode))) (h111 : FnOk Try.prog 111 (f111con S111)) (h214 : FnOk Try.prog 214 (f214con S214)) (h215 : FnOk Try.prog 215 (f215con S215)) : CtxOk Try.prog (f111ctx k S111 S214 S215) := ctxOk tys_ok mixed_ok (consOk_cons (f208ok k) (consOk_cons (f209ok k) (consOk_cons (f210ok k) (consOk_cons (f211ok k) (consOk_cons (f212ok k) (consOk_cons (f213ok k) (consOk_cons (h214) (consOk_cons (h215) (consOk_nil)))))))))
theorem f111okb (k : Nat) (S111 : Int → Int → Int → TTreeReaderB → (List TNode) → Option (Unit × TTreeReaderB × (List TNode))) (S214 : Int → Int → TTreeReaderB → (List TNode) → Option (Unit × TTreeReaderB × (List TNode))) (S215 : Int → Int → TTreeReaderB → (List TNode) → Option (Unit × TTreeReaderB × (List TNode))) (h111 : FnOk Try.prog 111 (f111con S111)) (h214 : FnOk Try.prog 214 (f214con S214)) (h215 : FnOk Try.prog 215 (f215con S215)) : FnOk Try.prog 111 (f111con (impl_treeReader_node.b k S111 S214 S215)) :=
  let hc := f111hc k S111 S214 S215 h111 h214 h215
  fnOk (fn := Try.f111) (code := bodyOf Try.f111) (res := []) hc (by kernel_rfl) (by kernel_rfl) (by decide) (by kernel_rfl) (by kernel_rfl) (by kernel_rfl) (Nat.le_of_ble_eq_true (by kernel_rfl)) _
    (fun x => Snd.seq (by kernel_rfl) (Snd.seq (by kernel_rfl) (Snd.seq (by kernel_rfl) (Snd.block (id := 0) (by kernel_rfl) (Snd.seq (by kernel_rfl) (Snd.cut (Snd.cond (x := .tmp 22) (by kernel_rfl) (Snd.seq (by kernel_rfl) (Snd.seq (by kernel_rfl) (Snd.cut (Snd.exec hc _ _ _ _) ⟨f111s8, fun x => impl_treeReader_node.c8 k x.1.2.1 x.1.2.2 x.2.1 x.2.2⟩ (fun x => by kernel_rfl)) (Snd.exec hc _ _ _ _)) (Snd.exec hc _ _ _ _)) (Snd.seq (by kernel_rfl) (Snd.cond (x := .tmp 52) (by kernel_rfl) (Snd.fork hc (id := 10) (by kernel_rfl) ⟨f111d10, fun x => impl_treeReader_node.d10 k x.1.2 x.2.1 x.2.2⟩ [[0, 1, 2, 4, 5, 3, 6, 7, 8, 9], [0, 1, 2, 4, 5, 6, 3, 7, 8, 9]] (by kernel_rfl) (ords_cons (fun x => by kernel_rfl) (ords_cons (fun x => by kernel_rfl) (ords_nil)))) (Snd.exec hc _ _ _ _)) (Snd.exec hc _ _ _ _))) ⟨f111s5, fun x => impl_treeReader_node.c5 k S214 S215 x.1.2.1 x.1.2.2.1 x.1.2.2.2.1 x.1.2.2.2.2.1 x.1.2.2.2.2.2 x.2.1 x.2.2⟩ (fun x => by kernel_rfl)) (Snd.exec hc _ _ _ _))) (Snd.exec hc _ _ _ _)) (Snd.exec hc _ _ _ _)) (Snd.exec hc _ _ _ _))
    (fun x => by kernel_rfl)
def f214ctx (k : Nat) (S111 : Int → Int → Int → TTreeReaderB → (List TNode) → Option (Unit × TTreeReaderB × (List TNode))) (S214 : Int → Int → TTreeReaderB → (List TNode) → Option (Unit × TTreeReaderB × (List TNode))) (S215 : Int → Int → TTreeReaderB → (List TNode) → Option (Unit × TTreeReaderB × (List TNode))) : Ctx := ⟨tyAt tys, conAt [(105, [f105con (impl_within k)]), (111, [f111con S111]), (210, [f210con (impl_treeReader_uvar k)]), (212, [f212con (impl_treeReader_fail k)]), (304, [f304con (impl_treeReader_one k)]), (305, [f305con (impl_isType k)])], 72, fun _ => false⟩
theorem f214hc (k : Nat) (S111 : Int → Int → Int → TTreeReaderB → (List TNode) → Option (Unit × TTreeReaderB × (List TNode))) (S214 : Int → Int → TTreeReaderB → (List TNode) → Option (Unit × TTreeReaderB × (List TNode))) (S215 : Int → Int → TTreeReaderB → (List TNode) → Option (Unit × TTreeReaderB × (List TNode))) (h111 : FnOk Try.prog 111 (f111con S111)) (h214 : FnOk Try.prog 214 (f214con S214)) (h215 : FnOk Try.prog 215 (f215con S215)) : CtxOk Try.prog (f214ctx k S111 S214 S215) := ctxOk tys_ok mixed_ok (consOk_cons (f105ok k) (consOk_cons (h111) (consOk_cons (f210ok k) (consOk_cons (f212ok k) (consOk_cons (f304ok k) (consOk_cons (f305ok k) (consOk_nil)))))))
theorem f214okb (k : Nat) (S111 : Int → Int → Int → TTreeReaderB → (List TNode) → Option (Unit × TTreeReaderB × (List TNode))) (S214 : Int → Int → TTreeReaderB → (List TNode) → Option (Unit × TTreeReaderB × (List TNode))) (S215 : Int → Int → TTreeReaderB → (List TNode) → Option (Unit × TTreeReaderB × (List TNode))) (h111 : FnOk Try.prog 111 (f111con S111)) (h214 : FnOk Try.prog 214 (f214con S214)) (h215 : FnOk Try.prog 215 (f215con S215)) : FnOk Try.prog 214 (f214con (impl_treeReader_parts.b k S111 S214 S215)) :=
  let hc := f214hc k S111 S214 S215 h111 h214 h215
  fnOk (fn := Try.f214) (code := bodyOf Try.f214) (res := []) hc (by kernel_rfl) (by kernel_rfl) (by decide) (by kernel_rfl) (by kernel_rfl) (by kernel_rfl) (Nat.le_of_ble_eq_true (by kernel_rfl)) _
    (fun x => Snd.seq (by kernel_rfl) (Snd.seq (by kernel_rfl) (Snd.seq (by kernel_rfl) (Snd.cut (Snd.seq (by kernel_rfl) (Snd.seq (by kernel_rfl) (Snd.cut (Snd.seq (by kernel_rfl) (Snd.cut (Snd.seq (by kernel_rfl) (Snd.seq (by kernel_rfl) (Snd.block (id := 0) (by kernel_rfl) (Snd.loop' (by kernel_rfl) f214s11 (fun n x => impl_treeReader_parts.l11 k S111 n x.1.2.1 x.1.2.2.1 x.1.2.2.2.1 x.1.2.2.2.2 x.2.1 x.2.2) _ (fun _ => rfl) (fun n11 => Snd.exec hc _ _ _ _) (fun n x => by kernel_rfl) k)) (Snd.exec hc _ _ _ _)) (Snd.exec hc _ _ _ _)) ⟨f214s9, fun x => impl_treeReader_parts.c9 k S111 x.1.2.1 x.1.2.2.1 x.1.2.2.2.1 x.1.2.2.2.2 x.2.1 x.2.2⟩ (fun x => by kernel_rfl)) (Snd.exec hc _ _ _ _)) ⟨f214s7, fun x => impl_treeReader_parts.c7 k S111 x.1.2.1 x.1.2.2.1 x.1.2.2.2.1 x.1.2.2.2.2 x.2.1 x.2.2⟩ (fun x => by kernel_rfl)) (Snd.exec hc _ _ _ _)) (Snd.exec hc _ _ _ _)) ⟨f214s4, fun x => impl_treeReader_parts.c4 k S111 x.1.2.1 x.1.2.2.1 x.1.2.2.2.1 x.1.2.2.2.2 x.2.1 x.2.2⟩ (fun x => by kernel_rfl)) (Snd.exec hc _ _ _ _)) (Snd.exec hc _ _ _ _)) (Snd.exec hc _ _ _ _))
    (fun x => by kernel_rfl)
def f215ctx (k : Nat) (S111 : Int → Int → Int → TTreeReaderB → (List TNode) → Option (Unit × TTreeReaderB × (List TNode))) (S214 : Int → Int → TTreeReaderB → (List TNode) → Option (Unit × TTreeReaderB × (List TNode))) (S215 : Int → Int → TTreeReaderB → (List TNode) → Option (Unit × TTreeReaderB × (List TNode))) : Ctx := ⟨tyAt tys, conAt [(105, [f105con (impl_within k)]), (111, [f111con S111]), (209, [f209con (impl_Zag k)]), (210, [f210con (impl_treeReader_uvar k)]), (212, [f212con (impl_treeReader_fail k)]), (304, [f304con (impl_treeReader_one k)]), (305, [f305con (impl_isType k)])], 84, fun _ => false⟩
theorem f215hc (k : Nat) (S111 : Int → Int → Int → TTreeReaderB → (List TNode) → Option (Unit × TTreeReaderB × (List TNode))) (S214 : Int → Int → TTreeReaderB → (List TNode) → Option (Unit × TTreeReaderB × (List TNode))) (S215 : Int → Int → TTreeReaderB → (List TNode) → Option (Unit × TTreeReaderB × (List TNode))) (h111 : FnOk Try.prog 111 (f111con S111)) (h214 : FnOk Try.prog 214 (f214con S214)) (h215 : FnOk Try.prog 215 (f215con S215)) : CtxOk Try.prog (f215ctx k S111 S214 S215) := ctxOk tys_ok mixed_ok (consOk_cons (f105ok k) (consOk_cons (h111) (consOk_cons (f209ok k) (consOk_cons (f210ok k) (consOk_cons (f212ok k) (consOk_cons (f304ok k) (consOk_cons (f305ok k) (consOk_nil))))))))
theorem f215okb (k : Nat) (S111 : Int → Int → Int → TTreeReaderB → (List TNode) → Option (Unit × TTreeReaderB × (List TNode))) (S214 : Int → Int → TTreeReaderB → (List TNode) → Option (Unit × TTreeReaderB × (List TNode))) (S215 : Int → Int → TTreeReaderB → (List TNode) → Option (Unit × TTreeReaderB × (List TNode))) (h111 : FnOk Try.prog 111 (f111con S111)) (h214 : FnOk Try.prog 214 (f214con S214)) (h215 : FnOk Try.prog 215 (f215con S215)) : FnOk Try.prog 215 (f215con (impl_treeReader_fields.b k S111 S214 S215)) :=
  let hc := f215hc k S111 S214 S215 h111 h214 h215
  fnOk (fn := Try.f215) (code := bodyOf Try.f215) (res := []) hc (by kernel_rfl) (by kernel_rfl) (by decide) (by kernel_rfl) (by kernel_rfl) (by kernel_rfl) (Nat.le_of_ble_eq_true (by kernel_rfl)) _
    (fun x => Snd.seq (by kernel_rfl) (Snd.block (id := 0) (by kernel_rfl) (Snd.loop' (by kernel_rfl) f215s1 (fun n x => impl_treeReader_fields.l1 k S111 n x.1.2.1 x.1.2.2.1 x.1.2.2.2 x.2.1 x.2.2) _ (fun _ => rfl) (fun n1 => Snd.block (id := 1) (by kernel_rfl) (Snd.seq (by kernel_rfl) (Snd.seq (by kernel_rfl) (Snd.seq (by kernel_rfl) (Snd.seq (by kernel_rfl) (Snd.cut (Snd.seq (by kernel_rfl) (Snd.cut (Snd.seq (by kernel_rfl) (Snd.cut (Snd.seq (by kernel_rfl) (Snd.cut (Snd.exec hc _ _ _ _) ⟨f215s12, fun x => impl_treeReader_fields.c12 k S111 (impl_treeReader_fields.l1 k S111 n1) x.1.2.1 x.1.2.2.1 x.1.2.2.2.1 x.1.2.2.2.2 x.2.1 x.2.2⟩ (fun x => by kernel_rfl)) (Snd.exec hc _ _ _ _)) ⟨f215s10, fun x => impl_treeReader_fields.c10 k S111 (impl_treeReader_fields.l1 k S111 n1) x.1.2.1 x.1.2.2.1 x.1.2.2.2.1 x.1.2.2.2.2.1 x.1.2.2.2.2.2 x.2.1 x.2.2⟩ (fun x => by kernel_rfl)) (Snd.exec hc _ _ _ _)) ⟨f215s8, fun x => impl_treeReader_fields.c8 k S111 (impl_treeReader_fields.l1 k S111 n1) x.1.2.1 x.1.2.2.1 x.1.2.2.2.1 x.1.2.2.2.2.1 x.1.2.2.2.2.2 x.2.1 x.2.2⟩ (fun x => by kernel_rfl)) (Snd.exec hc _ _ _ _)) ⟨f215s6, fun x => impl_treeReader_fields.c6 k S111 (impl_treeReader_fields.l1 k S111 n1) x.1.2.1 x.1.2.2.1 x.1.2.2.2.1 x.1.2.2.2.2.1 x.1.2.2.2.2.2.1 x.1.2.2.2.2.2.2 x.2.1 x.2.2⟩ (fun x => by kernel_rfl)) (Snd.exec hc _ _ _ _)) (Snd.exec hc _ _ _ _)) (Snd.exec hc _ _ _ _)) (Snd.exec hc _ _ _ _))) (fun n x => by kernel_rfl) k)) (Snd.exec hc _ _ _ _))
    (fun x => by kernel_rfl)
theorem f111rec (k : Nat) : ∀ d, FnOk Try.prog 111 (f111con (impl_treeReader_node.d k d)) ∧ FnOk Try.prog 214 (f214con (impl_treeReader_parts.d k d)) ∧ FnOk Try.prog 215 (f215con (impl_treeReader_fields.d k d))
  | 0 => ⟨FnOk_none (fun _ => rfl), FnOk_none (fun _ => rfl), FnOk_none (fun _ => rfl)⟩
  | d + 1 => let ih := f111rec k d
    ⟨f111okb k (impl_treeReader_node.d k d) (impl_treeReader_parts.d k d) (impl_treeReader_fields.d k d) ih.1 ih.2.1 ih.2.2, f214okb k (impl_treeReader_node.d k d) (impl_treeReader_parts.d k d) (impl_treeReader_fields.d k d) ih.1 ih.2.1 ih.2.2, f215okb k (impl_treeReader_node.d k d) (impl_treeReader_parts.d k d) (impl_treeReader_fields.d k d) ih.1 ih.2.1 ih.2.2⟩
theorem f111ok (k : Nat) : FnOk Try.prog 111 (f111con (impl_treeReader_node k)) := (f111rec k k).1
theorem f214ok (k : Nat) : FnOk Try.prog 214 (f214con (impl_treeReader_parts k)) := (f111rec k k).2.1
theorem f215ok (k : Nat) : FnOk Try.prog 215 (f215con (impl_treeReader_fields k)) := (f111rec k k).2.2

def f31in : SS := ⟨[(0, (.ro (.list 5 (.int .u8)))), (1, (.ro (.int .i64)))], []⟩
def f31out : SS := ⟨[(0, (.h 100)), (1, (.ro (.int .i64))), (2, (.ro (.int .i64)))], [(100, (.sl 170 (.st (.cons (.int .i64) (.cons (.int .i64) (.cons (.int .i64) (.cons .str (.cons (.int .i64) .nil))))))))]⟩
def f31con (F : (List Int) → Int → Option ((Unit × Int × Int) × (List TNode))) : Con := ⟨f31in, f31out, 2, 3, fun x => F x.1 x.2⟩
def f31ctx (k : Nat) : Ctx := ⟨tyAt tys, conAt [(105, [f105con (impl_within k)]), (111, [f111con (impl_treeReader_node k)])], 37, fun _ => false⟩
theorem f31hc (k : Nat) : CtxOk Try.prog (f31ctx k) := ctxOk tys_ok mixed_ok (consOk_cons (f105ok k) (consOk_cons (f111ok k) (consOk_nil)))
theorem f31ok (k : Nat) : FnOk Try.prog 31 (f31con (impl_TreeRead k)) :=
  let hc := f31hc k
  fnOk (fn := Try.f31) (code := bodyOf Try.f31) (res := [.tmp 4, .tmp 5, .tmp 6]) hc (by kernel_rfl) (by kernel_rfl) (by decide) (by kernel_rfl) (by kernel_rfl) (by kernel_rfl) (Nat.le_of_ble_eq_true (by kernel_rfl)) _
    (fun x => Snd.exec hc _ _ _ _)
    (fun x => by kernel_rfl)

def f310in : SS := ⟨[(0, (.ro (.st (.cons (.int .i64) (.cons (.int .i64) (.cons (.int .i64) (.cons .str (.cons (.int .i64) .nil))))))))], []⟩
def f310out : SS := ⟨[(0, (.ro .bool))], []⟩
def f310con (F : TNode → Option Bool) : Con := ⟨f310in, f310out, 1, 1, fun x => F x⟩
def f310ctx (k : Nat) : Ctx := ⟨tyAt tys, conAt [(211, [f211con (impl_isInt32 k)]), (305, [f305con (impl_isType k)])], 109, fun _ => false⟩
theorem f310hc (k : Nat) : CtxOk Try.prog (f310ctx k) := ctxOk tys_ok mixed_ok (consOk_cons (f211ok k) (consOk_cons (f305ok k) (consOk_nil)))
theorem f310ok (k : Nat) : FnOk Try.prog 310 (f310con (impl_nodeOk k)) :=
  let hc := f310hc k
  fnOk (fn := Try.f310) (code := bodyOf Try.f310) (res := [.tmp 2]) hc (by kernel_rfl) (by kernel_rfl) (by decide) (by kernel_rfl) (by kernel_rfl) (by kernel_rfl) (Nat.le_of_ble_eq_true (by kernel_rfl)) _
    (fun x => Snd.exec hc _ _ _ _)
    (fun x => by kernel_rfl)

def f221in : SS := ⟨[(0, (.p 0)), (1, (.ro (.int .i64))), (2, (.ro (.int .i64)))], [(0, (.obox (.st (.cons (.list 170 (.st (.cons (.int .i64) (.cons (.int .i64) (.cons (.int .i64) (.cons .str (.cons (.int .i64) .nil))))))) (.cons (.list 3 (.int .i64)) .nil))) (.agg (.cons (.ro (.list 170 (.st (.cons (.int .i64) (.cons (.int .i64) (.cons (.int .i64) (.cons .str (.cons (.int .i64) .nil)))))))) (.cons (.h 10) .nil))))), (10, (.sl 3 (.int .i64)))]⟩
def f221out : SS := ⟨[(0, (.ro (.int .i64)))], [(0, (.box (.st (.cons (.list 170 (.st (.cons (.int .i64) (.cons (.int .i64) (.cons (.int .i64) (.cons .str (.cons (.int .i64) .nil))))))) (.cons (.list 3 (.int .i64)) .nil))) (.agg (.cons (.ro (.list 170 (.st (.cons (.int .i64) (.cons (.int .i64) (.cons (.int .i64) (.cons .str (.cons (.int .i64) .nil)))))))) (.cons (.h 10) .nil))))), (10, (.sl 3 (.int .i64)))]⟩
def f221s7 : SS := ⟨[(0, (.p 0)), (1, (.ro (.int .i64))), (2, (.ro (.int .i64))), (7, (.p 100)), (8, (.ro (.int .i64))), (9, (.ro (.int .i64))), (43, (.ro (.int .i64))), (44, (.ro (.int .i64)))], [(0, (.box (.st (.cons (.list 170 (.st (.cons (.int .i64) (.cons (.int .i64) (.cons (.int .i64) (.cons .str (.cons (.int .i64) .nil))))))) (.cons (.list 3 (.int .i64)) .nil))) (.agg (.cons (.ro (.list 170 (.st (.cons (.int .i64) (.cons (.int .i64) (.cons (.int .i64) (.cons .str (.cons (.int .i64) .nil)))))))) (.cons (.h 10) .nil))))), (10, (.sl 3 (.int .i64))), (100, (.box (.st (.cons (.int .i64) (.cons (.int .i64) (.cons (.int .i64) (.cons .str (.cons (.int .i64) .nil)))))) (.agg (.cons (.ro (.int .i64)) (.cons (.ro (.int .i64)) (.cons (.ro (.int .i64)) (.cons (.ro .str) (.cons (.ro (.int .i64)) .nil))))))))]⟩
def f221con (F : Int → Int → (Bool × TTreeB) → (List Int) → Option (Int × TTreeB × (List Int))) : Con := ⟨f221in, f221out, 3, 1, fun x => F x.1.2.1 x.1.2.2 x.2.1 x.2.2⟩
def f221ctx (k : Nat) (S221 : Int → Int → (Bool × TTreeB) → (List Int) → Option (Int × TTreeB × (List Int))) : Ctx := ⟨tyAt tys, conAt [(105, [f105con (impl_within k)]), (221, [f221con S221]), (310, [f310con (impl_nodeOk k)])], 104, fun _ => false⟩
theorem f221hc (k : Nat) (S221 : Int → Int → (Bool × TTreeB) → (List Int) → Option (Int × TTreeB × (List Int))) (h221 : FnOk Try.prog 221 (f221con S221)) : CtxOk Try.prog (f221ctx k S221) := ctxOk tys_ok mixed_ok (consOk_cons (f105ok k) (consOk_cons (h221) (consOk_cons (f310ok k) (consOk_nil))))
theorem f221okb (k : Nat) (S221 : Int → Int → (Bool × TTreeB) → (List Int) → Option (Int × TTreeB × (List Int))) (h221 : FnOk Try.prog 221 (f221con S221)) : FnOk Try.prog 221 (f221con (impl_tree_measure.b k S221)) :=
  let hc := f221hc k S221 h221
  fnOk (fn := Try.f221) (code := bodyOf Try.f221) (res := [.tmp 6]) hc (by kernel_rfl) (by kernel_rfl) (by decide) (by kernel_rfl) (by kernel_rfl) (by kernel_rfl) (Nat.le_of_ble_eq_true (by kernel_rfl)) _
    (fun x => Snd.seq (by kernel_rfl) (Snd.seq (by kernel_rfl) (Snd.seq (by kernel_rfl) (Snd.seq (by kernel_rfl) (Snd.seq (by kernel_rfl) (Snd.seq (by kernel_rfl) (Snd.exec hc _ _ _ _) (Snd.seq (by kernel_rfl) (Snd.block (id := 0) (by kernel_rfl) (Snd.loop' (by kernel_rfl) f221s7 (fun n x => impl_tree_measure.l7 k S221 n x.1.2.1 x.1.2.2.1 x.1.2.2.2.2.1 x.1.2.2.2.2.2.1 x.1.2.2.2.2.2.2.1 x.1.2.2.2.2.2.2.2 x.2.1 x.2.2.1 x.2.2.2) _ (fun _ => rfl) (fun n7 => Snd.exec hc _ _ _ _) (fun n x => by kernel_rfl) k)) (Snd.exec hc _ _ _ _))) (Snd.exec hc _ _ _ _)) (Snd.exec hc _ _ _ _)) (Snd.exec hc _ _ _ _)) (Snd.exec hc _ _ _ _)) (Snd.exec hc _ _ _ _))
    (fun x => by kernel_rfl)
theorem f221rec (k : Nat) : ∀ d, FnOk Try.prog 221 (f221con (impl_tree_measure.d k d))
  | 0 => FnOk_none (fun _ => rfl)
  | d + 1 => let ih := f221rec k d
    f221okb k (impl_tree_measure.d k d) ih
theorem f221ok (k : Nat) : FnOk Try.prog 221 (f221con (impl_tree_measure k)) := (f221rec k k)

def f113in : SS := ⟨[(0, (.ro (.list 170 (.st (.cons (.int .i64) (.cons (.int .i64) (.cons (.int .i64) (.cons .str (.cons (.int .i64) .nil)))))))))], []⟩
def f113out : SS := ⟨[(0, (.p 100)), (1, (.ro .bool))], [(100, (.obox (.st (.cons (.list 170 (.st (.cons (.int .i64) (.cons (.int .i64) (.cons (.int .i64) (.cons .str (.cons (.int .i64) .nil))))))) (.cons (.list 3 (.int .i64)) .nil))) (.agg (.cons (.ro (.list 170 (.st (.cons (.int .i64) (.cons (.int .i64) (.cons (.int .i64) (.cons .str (.cons (.int .i64) .nil)))))))) (.cons (.h 101) .nil))))), (101, (.sl 3 (.int .i64)))]⟩
def f113con (F : (List TNode) → Option ((Unit × Bool) × (Bool × TTreeB) × (List Int))) : Con := ⟨f113in, f113out, 1, 2, fun x => F x⟩
def f113ctx (k : Nat) : Ctx := ⟨tyAt tys, conAt [(105, [f105con (impl_within k)]), (221, [f221con (impl_tree_measure k)])], 35, fun s => Nat.beq s 27⟩
theorem f113hc (k : Nat) : CtxOk Try.prog (f113ctx k) := ctxOk tys_ok mixed_ok (consOk_cons (f105ok k) (consOk_cons (f221ok k) (consOk_nil)))
theorem f113ok (k : Nat) : FnOk Try.prog 113 (f113con (impl_treeOf k)) :=
  let hc := f113hc k
  fnOk (fn := Try.f113) (code := bodyOf Try.f113) (res := [.tmp 2, .tmp 3]) hc (by kernel_rfl) (by kernel_rfl) (by decide) (by kernel_rfl) (by kernel_rfl) (by kernel_rfl) (Nat.le_of_ble_eq_true (by kernel_rfl)) _
    (fun x => Snd.exec hc _ _ _ _)
    (fun x => by kernel_rfl)

def f245in : SS := ⟨[(0, (.ro (.int .i64)))], []⟩
def f245out : SS := ⟨[(0, (.ro .bool))], []⟩
def f245con (F : Int → Option Bool) : Con := ⟨f245in, f245out, 1, 1, fun x => F x⟩
def f245ctx (k : Nat) : Ctx := ⟨tyAt tys, conAt [(105, [f105con (impl_within k)])], 13, fun _ => false⟩
theorem f245hc (k : Nat) : CtxOk Try.prog (f245ctx k) := ctxOk tys_ok mixed_ok (consOk_cons (f105ok k) (consOk_nil))
theorem f245ok (k : Nat) : FnOk Try.prog 245 (f245con (impl_TypeOk k)) :=
  let hc := f245hc k
  fnOk (fn := Try.f245) (code := bodyOf Try.f245) (res := [.tmp 2]) hc (by kernel_rfl) (by kernel_rfl) (by decide) (by kernel_rfl) (by kernel_rfl) (by kernel_rfl) (Nat.le_of_ble_eq_true (by kernel_rfl)) _
    (fun x => Snd.exec hc _ _ _ _)
    (fun x => by kernel_rfl)

def f175in : SS := ⟨[(0, (.ro (.st (.cons (.int .i64) (.cons (.int .i64) (.cons (.int .i64) .nil))))))], []⟩
def f175out : SS := ⟨[(0, (.ro .bool))], []⟩
def f175con (F : TLeaf → Option Bool) : Con := ⟨f175in, f175out, 1, 1, fun x => F x⟩
def f175ctx (k : Nat) : Ctx := ⟨tyAt tys, conAt [(105, [f105con (impl_within k)]), (245, [f245con (impl_TypeOk k)])], 18, fun _ => false⟩
theorem f175hc (k : Nat) : CtxOk Try.prog (f175ctx k) := ctxOk tys_ok mixed_ok (consOk_cons (f105ok k) (consOk_cons (f245ok k) (consOk_nil)))
theorem f175ok (k : Nat) : FnOk Try.prog 175 (f175con (impl_LeafOk k)) :=
  let hc := f175hc k
  fnOk (fn := Try.f175) (code := bodyOf Try.f175) (res := [.tmp 2]) hc (by kernel_rfl) (by kernel_rfl) (by decide) (by kernel_rfl) (by kernel_rfl) (by kernel_rfl) (Nat.le_of_ble_eq_true (by kernel_rfl)) _
    (fun x => Snd.exec hc _ _ _ _)
    (fun x => by kernel_rfl)

def f179in : SS := ⟨[(0, (.p 0)), (1, (.ro (.int .i64))), (2, (.ro (.int .i64)))], [(0, (.obox (.st (.cons (.list 170 (.st (.cons (.int .i64) (.cons (.int .i64) (.cons (.int .i64) (.cons .str (.cons (.int .i64) .nil))))))) (.cons (.list 3 (.int .i64)) .nil))) (.agg (.cons (.ro (.list 170 (.st (.cons (.int .i64) (.cons (.int .i64) (.cons (.int .i64) (.cons .str (.cons (.int .i64) .nil)))))))) (.cons (.h 10) .nil))))), (10, (.sl 3 (.int .i64)))]⟩
def f179out : SS := ⟨[(0, (.ro (.int .i64)))], [(0, (.box (.st (.cons (.list 170 (.st (.cons (.int .i64) (.cons (.int .i64) (.cons (.int .i64) (.cons .str (.cons (.int .i64) .nil))))))) (.cons (.list 3 (.int .i64)) .nil))) (.agg (.cons (.ro (.list 170 (.st (.cons (.int .i64) (.cons (.int .i64) (.cons (.int .i64) (.cons .str (.cons (.int .i64) .nil)))))))) (.cons (.h 10) .nil))))), (10, (.sl 3 (.int .i64)))]⟩
def f179s5 : SS := ⟨[(0, (.p 0)), (2, (.ro (.int .i64))), (7, (.ro (.int .i64))), (37, (.ro (.int .i64))), (38, (.ro (.int .i64)))], [(0, (.box (.st (.cons (.list 170 (.st (.cons (.int .i64) (.cons (.int .i64) (.cons (.int .i64) (.cons .str (.cons (.int .i64) .nil))))))) (.cons (.list 3 (.int .i64)) .nil))) (.agg (.cons (.ro (.list 170 (.st (.cons (.int .i64) (.cons (.int .i64) (.cons (.int .i64) (.cons .str (.cons (.int .i64) .nil)))))))) (.cons (.h 10) .nil))))), (10, (.sl 3 (.int .i64)))]⟩
def f179con (F : Int → Int → (Bool × TTreeB) → (List Int) → Option (Int × TTreeB × (List Int))) : Con := ⟨f179in, f179out, 3, 1, fun x => F x.1.2.1 x.1.2.2 x.2.1 x.2.2⟩
def f179ctx (k : Nat) : Ctx := ⟨tyAt tys, conAt [(105, [f105con (impl_within k)])], 59, fun _ => false⟩
theorem f179hc (k : Nat) : CtxOk Try.prog (f179ctx k) := ctxOk tys_ok mixed_ok (consOk_cons (f105ok k) (consOk_nil))
theorem f179ok (k : Nat) : FnOk Try.prog 179 (f179con (impl_tree_find k)) :=
  let hc := f179hc k
  fnOk (fn := Try.f179) (code := bodyOf Try.f179) (res := [.tmp 6]) hc (by kernel_rfl) (by kernel_rfl) (by decide) (by kernel_rfl) (by kernel_rfl) (by kernel_rfl) (Nat.le_of_ble_eq_true (by kernel_rfl)) _
    (fun x => Snd.seq (by kernel_rfl) (Snd.seq (by kernel_rfl) (Snd.seq (by kernel_rfl) (Snd.seq (by kernel_rfl) (Snd.exec hc _ _ _ _) (Snd.seq (by kernel_rfl) (Snd.block (id := 0) (by kernel_rfl) (Snd.loop' (by kernel_rfl) f179s5 (fun n x => impl_tree_find.l5 k n x.1.2.1 x.1.2.2.1 x.1.2.2.2.1 x.1.2.2.2.2 x.2.1 x.2.2) _ (fun _ => rfl) (fun n5 => Snd.exec hc _ _ _ _) (fun n x => by kernel_rfl) k)) (Snd.exec hc _ _ _ _))) (Snd.exec hc _ _ _ _)) (Snd.exec hc _ _ _ _)) (Snd.exec hc _ _ _ _))
    (fun x => by kernel_rfl)

def f178in : SS := ⟨[(0, (.p 0)), (1, (.ro (.int .i64))), (2, (.ro (.int .i64))), (3, (.ro (.int .i64)))], [(0, (.obox (.st (.cons (.list 170 (.st (.cons (.int .i64) (.cons (.int .i64) (.cons (.int .i64) (.cons .str (.cons (.int .i64) .nil))))))) (.cons (.list 3 (.int .i64)) .nil))) (.agg (.cons (.ro (.list 170 (.st (.cons (.int .i64) (.cons (.int .i64) (.cons (.int .i64) (.cons .str (.cons (.int .i64) .nil)))))))) (.cons (.h 10) .nil))))), (10, (.sl 3 (.int .i64)))]⟩
def f178out : SS := ⟨[(0, (.agg (.cons (.ro (.int .i64)) (.cons (.ro (.int .i64)) (.cons (.ro (.int .i64)) (.cons (.ro .str) (.cons (.ro (.int .i64)) .nil))))))), (1, (.ro .bool))], [(0, (.box (.st (.cons (.list 170 (.st (.cons (.int .i64) (.cons (.int .i64) (.cons (.int .i64) (.cons .str (.cons (.int .i64) .nil))))))) (.cons (.list 3 (.int .i64)) .nil))) (.agg (.cons (.ro (.list 170 (.st (.cons (.int .i64) (.cons (.int .i64) (.cons (.int .i64) (.cons .str (.cons (.int .i64) .nil)))))))) (.cons (.h 10) .nil))))), (10, (.sl 3 (.int .i64)))]⟩
def f178con (F : Int → Int → Int → (Bool × TTreeB) → (List Int) → Option ((TNode × Bool) × TTreeB × (List Int))) : Con := ⟨f178in, f178out, 4, 2, fun x => F x.1.2.1 x.1.2.2.1 x.1.2.2.2 x.2.1 x.2.2⟩
def f178ctx (k : Nat) : Ctx := ⟨tyAt tys, conAt [(179, [f179con (impl_tree_find k)])], 37, fun _ => false⟩
theorem f178hc (k : Nat) : CtxOk Try.prog (f178ctx k) := ctxOk tys_ok mixed_ok (consOk_cons (f179ok k) (consOk_nil))
theorem f178ok (k : Nat) : FnOk Try.prog 178 (f178con (impl_tree_part k)) :=
  let hc := f178hc k
  fnOk (fn := Try.f178) (code := bodyOf Try.f178) (res := [.cell 8 170, .tmp 9]) hc (by kernel_rfl) (by kernel_rfl) (by decide) (by kernel_rfl) (by kernel_rfl) (by kernel_rfl) (Nat.le_of_ble_eq_true (by kernel_rfl)) _
    (fun x => Snd.exec hc _ _ _ _)
    (fun x => by kernel_rfl)

def f264in : SS := ⟨[(0, (.p 0)), (1, (.ro (.int .i64))), (2, (.ro (.int .i64)))], [(0, (.obox (.st (.cons (.list 170 (.st (.cons (.int .i64) (.cons (.int .i64) (.cons (.int .i64) (.cons .str (.cons (.int .i64) .nil))))))) (.cons (.list 3 (.int .i64)) .nil))) (.agg (.cons (.ro (.list 170 (.st (.cons (.int .i64) (.cons (.int .i64) (.cons (.int .i64) (.cons .str (.cons (.int .i64) .nil)))))))) (.cons (.h 10) .nil))))), (10, (.sl 3 (.int .i64)))]⟩
def f264out : SS := ⟨[(0, (.ro (.int .i64))), (1, (.ro .bool))], [(0, (.box (.st (.cons (.list 170 (.st (.cons (.int .i64) (.cons (.int .i64) (.cons (.int .i64) (.cons .str (.cons (.int .i64) .nil))))))) (.cons (.list 3 (.int .i64)) .nil))) (.agg (.cons (.ro (.list 170 (.st (.cons (.int .i64) (.cons (.int .i64) (.cons (.int .i64) (.cons .str (.cons (.int .i64) .nil)))))))) (.cons (.h 10) .nil))))), (10, (.sl 3 (.int .i64)))]⟩
def f264con (F : Int → Int → (Bool × TTreeB) → (List Int) → Option ((Int × Bool) × TTreeB × (List Int))) : Con := ⟨f264in, f264out, 3, 2, fun x => F x.1.2.1 x.1.2.2 x.2.1 x.2.2⟩
def f264ctx (k : Nat) : Ctx := ⟨tyAt tys, conAt [(179, [f179con (impl_tree_find k)])], 45, fun _ => false⟩
theorem f264hc (k : Nat) : CtxOk Try.prog (f264ctx k) := ctxOk tys_ok mixed_ok (consOk_cons (f179ok k) (consOk_nil))
theorem f264ok (k : Nat) : FnOk Try.prog 264 (f264con (impl_tree_num k)) :=
  let hc := f264hc k
  fnOk (fn := Try.f264) (code := bodyOf Try.f264) (res := [.tmp 6, .tmp 7]) hc (by kernel_rfl) (by kernel_rfl) (by decide) (by kernel_rfl) (by kernel_rfl) (by kernel_rfl) (Nat.le_of_ble_eq_true (by kernel_rfl)) _
    (fun x => Snd.exec hc _ _ _ _)
    (fun x => by kernel_rfl)

def f176i1in : SS := ⟨[(0, (.p 0)), (1, (.ro (.int .i64)))], [(0, (.box (.st (.cons .ptr (.cons (.int .i64) (.cons .bool .nil)))) (.agg (.cons (.p 10) (.cons (.ro (.int .i64)) (.cons (.ro .bool) .nil)))))), (10, (.obox (.st (.cons (.list 170 (.st (.cons (.int .i64) (.cons (.int .i64) (.cons (.int .i64) (.cons .str (.cons (.int .i64) .nil))))))) (.cons (.list 3 (.int .i64)) .nil))) (.agg (.cons (.ro (.list 170 (.st (.cons (.int .i64) (.cons (.int .i64) (.cons (.int .i64) (.cons .str (.cons (.int .i64) .nil)))))))) (.cons (.h 11) .nil))))), (11, (.sl 3 (.int .i64)))]⟩
def f176i1out : SS := ⟨[(0, (.ro (.int .i64)))], [(0, (.box (.st (.cons .ptr (.cons (.int .i64) (.cons .bool .nil)))) (.agg (.cons (.p 10) (.cons (.ro (.int .i64)) (.cons (.ro .bool) .nil)))))), (10, (.box (.st (.cons (.list 170 (.st (.cons (.int .i64) (.cons (.int .i64) (.cons (.int .i64) (.cons .str (.cons (.int .i64) .nil))))))) (.cons (.list 3 (.int .i64)) .nil))) (.agg (.cons (.ro (.list 170 (.st (.cons (.int .i64) (.cons (.int .i64) (.cons (.int .i64) (.cons .str (.cons (.int .i64) .nil)))))))) (.cons (.h 11) .nil))))), (11, (.sl 3 (.int .i64)))]⟩
def f176i1s4 : SS := ⟨[(5, (.ro (.int .i64)))], [(0, (.box (.st (.cons .ptr (.cons (.int .i64) (.cons .bool .nil)))) (.agg (.cons (.p 10) (.cons (.ro (.int .i64)) (.cons (.ro .bool) .nil)))))), (10, (.box (.st (.cons (.list 170 (.st (.cons (.int .i64) (.cons (.int .i64) (.cons (.int .i64) (.cons .str (.cons (.int .i64) .nil))))))) (.cons (.list 3 (.int .i64)) .nil))) (.agg (.cons (.ro (.list 170 (.st (.cons (.int .i64) (.cons (.int .i64) (.cons (.int .i64) (.cons .str (.cons (.int .i64) .nil)))))))) (.cons (.h 11) .nil))))), (11, (.sl 3 (.int .i64)))]⟩
def f176i1con (F : Int → THeadReader → (Bool × TTreeB) → (List Int) → Option (Int × THeadReader × TTreeB × (List Int))) : Con := ⟨f176i1in, f176i1out, 2, 1, fun x => F x.1.2 x.2.1 x.2.2.1 x.2.2.2⟩
def f176i1ctx (k : Nat) : Ctx := ⟨tyAt tys, conAt [(264, [f264con (impl_tree_num k)])], 26, fun _ => false⟩
theorem f176i1hc (k : Nat) : CtxOk Try.prog (f176i1ctx k) := ctxOk tys_ok mixed_ok (consOk_cons (f264ok k) (consOk_nil))
theorem f176i1ok (k : Nat) : FnOk Try.prog 176 (f176i1con (impl_headReader_any k)) :=
  let hc := f176i1hc k
  fnOk (fn := Try.f176) (code := bodyOf Try.f176) (res := [.tmp 4]) hc (by kernel_rfl) (by kernel_rfl) (by decide) (by kernel_rfl) (by kernel_rfl) (by kernel_rfl) (Nat.le_of_ble_eq_true (by kernel_rfl)) _
    (fun x => Snd.seq (by kernel_rfl) (Snd.seq (by kernel_rfl) (Snd.seq (by kernel_rfl) (Snd.cut (Snd.exec hc _ _ _ _) ⟨f176i1s4, fun x => impl_headReader_any.c4 k x.1 x.2.1 x.2.2.1 x.2.2.2⟩ (fun x => by kernel_rfl)) (Snd.exec hc _ _ _ _)) (Snd.exec hc _ _ _ _)) (Snd.exec hc _ _ _ _))
    (fun x => by kernel_rfl)

def f177i2in : SS := ⟨[(0, (.p 0)), (1, (.ro (.int .i64))), (2, (.ro (.int .i64)))], [(0, (.box (.st (.cons .ptr (.cons (.int .i64) (.cons .bool .nil)))) (.agg (.cons (.p 10) (.cons (.ro (.int .i64)) (.cons (.ro .bool) .nil)))))), (10, (.box (.st (.cons (.list 170 (.st (.cons (.int .i64) (.cons (.int .i64) (.cons (.int .i64) (.cons .str (.cons (.int .i64) .nil))))))) (.cons (.list 3 (.int .i64)) .nil))) (.agg (.cons (.ro (.list 170 (.st (.cons (.int .i64) (.cons (.int .i64) (.cons (.int .i64) (.cons .str (.cons (.int .i64) .nil)))))))) (.cons (.h 11) .nil))))), (11, (.sl 3 (.int .i64)))]⟩
def f177i2out : SS := ⟨[(0, (.ro (.int .i64)))], [(0, (.box (.st (.cons .ptr (.cons (.int .i64) (.cons .bool .nil)))) (.agg (.cons (.p 10) (.cons (.ro (.int .i64)) (.cons (.ro .bool) .nil)))))), (10, (.box (.st (.cons (.list 170 (.st (.cons (.int .i64) (.cons (.int .i64) (.cons (.int .i64) (.cons .str (.cons (.int .i64) .nil))))))) (.cons (.list 3 (.int .i64)) .nil))) (.agg (.cons (.ro (.list 170 (.st (.cons (.int .i64) (.cons (.int .i64) (.cons (.int .i64) (.cons .str (.cons (.int .i64) .nil)))))))) (.cons (.h 11) .nil))))), (11, (.sl 3 (.int .i64)))]⟩
def f177i2s4 : SS := ⟨[(7, (.ro (.int .i64)))], [(0, (.box (.st (.cons .ptr (.cons (.int .i64) (.cons .bool .nil)))) (.agg (.cons (.p 10) (.cons (.ro (.int .i64)) (.cons (.ro .bool) .nil)))))), (10, (.box (.st (.cons (.list 170 (.st (.cons (.int .i64) (.cons (.int .i64) (.cons (.int .i64) (.cons .str (.cons (.int .i64) .nil))))))) (.cons (.list 3 (.int .i64)) .nil))) (.agg (.cons (.ro (.list 170 (.st (.cons (.int .i64) (.cons (.int .i64) (.cons (.int .i64) (.cons .str (.cons (.int .i64) .nil)))))))) (.cons (.h 11) .nil))))), (11, (.sl 3 (.int .i64)))]⟩
def f177i2con (F : Int → Int → THeadReader → TTreeB → (List Int) → Option (Int × THeadReader × TTreeB × (List Int))) : Con := ⟨f177i2in, f177i2out, 3, 1, fun x => F x.1.2.1 x.1.2.2 x.2.1 x.2.2.1 x.2.2.2⟩
def f177i2ctx (k : Nat) : Ctx := ⟨tyAt tys, conAt [(264, [f264con (impl_tree_num k)])], 33, fun _ => false⟩
theorem f177i2hc (k : Nat) : CtxOk Try.prog (f177i2ctx k) := ctxOk tys_ok mixed_ok (consOk_cons (f264ok k) (consOk_nil))
theorem f177i2ok (k : Nat) : FnOk Try.prog 177 (f177i2con (impl_headReader_num k)) :=
  let hc := f177i2hc k
  fnOk (fn := Try.f177) (code := bodyOf Try.f177) (res := [.tmp 6]) hc (by kernel_rfl) (by kernel_rfl) (by decide) (by kernel_rfl) (by kernel_rfl) (by kernel_rfl) (Nat.le_of_ble_eq_true (by kernel_rfl)) _
    (fun x => Snd.seq (by kernel_rfl) (Snd.seq (by kernel_rfl) (Snd.seq (by kernel_rfl) (Snd.cut (Snd.exec hc _ _ _ _) ⟨f177i2s4, fun x => impl_headReader_num.c4 k x.1 x.2.1 x.2.2.1 x.2.2.2⟩ (fun x => by kernel_rfl)) (Snd.exec hc _ _ _ _)) (Snd.exec hc _ _ _ _)) (Snd.exec hc _ _ _ _))
    (fun x => by kernel_rfl)

def f282i4in : SS := ⟨[(0, (.p 0)), (1, (.ro (.int .i64)))], [(0, (.box (.st (.cons .ptr (.cons (.int .i64) (.cons .bool .nil)))) (.agg (.cons (.p 10) (.cons (.ro (.int .i64)) (.cons (.ro .bool) .nil)))))), (10, (.box (.st (.cons (.list 170 (.st (.cons (.int .i64) (.cons (.int .i64) (.cons (.int .i64) (.cons .str (.cons (.int .i64) .nil))))))) (.cons (.list 3 (.int .i64)) .nil))) (.agg (.cons (.ro (.list 170 (.st (.cons (.int .i64) (.cons (.int .i64) (.cons (.int .i64) (.cons .str (.cons (.int .i64) .nil)))))))) (.cons (.h 11) .nil))))), (11, (.sl 3 (.int .i64)))]⟩
def f282i4out : SS := ⟨[], [(0, (.box (.st (.cons .ptr (.cons (.int .i64) (.cons .bool .nil)))) (.agg (.cons (.p 10) (.cons (.ro (.int .i64)) (.cons (.ro .bool) .nil)))))), (10, (.box (.st (.cons (.list 170 (.st (.cons (.int .i64) (.cons (.int .i64) (.cons (.int .i64) (.cons .str (.cons (.int .i64) .nil))))))) (.cons (.list 3 (.int .i64)) .nil))) (.agg (.cons (.ro (.list 170 (.st (.cons (.int .i64) (.cons (.int .i64) (.cons (.int .i64) (.cons .str (.cons (.int .i64) .nil)))))))) (.cons (.h 11) .nil))))), (11, (.sl 3 (.int .i64)))]⟩
def f282i4con (F : Int → THeadReader → TTreeB → (List Int) → Option (Unit × THeadReader × TTreeB × (List Int))) : Con := ⟨f282i4in, f282i4out, 2, 0, fun x => F x.1.2 x.2.1 x.2.2.1 x.2.2.2⟩
def f282i4ctx (k : Nat) : Ctx := ⟨tyAt tys, conAt [(179, [f179con (impl_tree_find k)])], 38, fun _ => false⟩
theorem f282i4hc (k : Nat) : CtxOk Try.prog (f282i4ctx k) := ctxOk tys_ok mixed_ok (consOk_cons (f179ok k) (consOk_nil))
theorem f282i4ok (k : Nat) : FnOk Try.prog 282 (f282i4con (impl_headReader_enter k)) :=
  let hc := f282i4hc k
  fnOk (fn := Try.f282) (code := bodyOf Try.f282) (res := []) hc (by kernel_rfl) (by kernel_rfl) (by decide) (by kernel_rfl) (by kernel_rfl) (by kernel_rfl) (Nat.le_of_ble_eq_true (by kernel_rfl)) _
    (fun x => Snd.exec hc _ _ _ _)
    (fun x => by kernel_rfl)

def f205in : SS := ⟨[(0, (.ro (.int .i64))), (1, (.ro (.st (.cons (.int .i64) (.cons .str .nil)))))], []⟩
def f205out : SS := ⟨[(0, (.ro .bool))], []⟩
def f205s8 : SS := ⟨[(0, (.ro (.int .i64))), (3, (.p 100)), (26, (.ro .bool))], [(100, (.box (.st (.cons (.int .i64) (.cons .str .nil))) (.agg (.cons (.ro (.int .i64)) (.cons (.ro .str) .nil)))))]⟩
def f205con (F : Int → TVal → Option Bool) : Con := ⟨f205in, f205out, 2, 1, fun x => F x.1 x.2⟩
def f205ctx (k : Nat) : Ctx := ⟨tyAt tys, conAt [(105, [f105con (impl_within k)]), (211, [f211con (impl_isInt32 k)])], 45, fun _ => false⟩
theorem f205hc (k : Nat) : CtxOk Try.prog (f205ctx k) := ctxOk tys_ok mixed_ok (consOk_cons (f105ok k) (consOk_cons (f211ok k) (consOk_nil)))
theorem f205ok (k : Nat) : FnOk Try.prog 205 (f205con (impl_ValOk k)) :=
  let hc := f205hc k
  fnOk (fn := Try.f205) (code := bodyOf Try.f205) (res := [.tmp 4]) hc (by kernel_rfl) (by kernel_rfl) (by decide) (by kernel_rfl) (by kernel_rfl) (by kernel_rfl) (Nat.le_of_ble_eq_true (by kernel_rfl)) _
    (fun x => Snd.seq (by kernel_rfl) (Snd.seq (by kernel_rfl) (Snd.exec hc _ _ _ _) (Snd.seq (by kernel_rfl) (Snd.block (id := 0) (by kernel_rfl) (Snd.seq (by kernel_rfl) (Snd.cond (x := .tmp 6) (by kernel_rfl) (Snd.exec hc _ _ _ _) (Snd.seq (by kernel_rfl) (Snd.cond (x := .tmp 16) (by kernel_rfl) (Snd.exec hc _ _ _ _) (Snd.seq (by kernel_rfl) (Snd.cut (Snd.exec hc _ _ _ _) ⟨f205s8, fun x => impl_ValOk.c8 k x.1.1 x.1.2.2 x.2⟩ (fun x => by kernel_rfl)) (Snd.exec hc _ _ _ _))) (Snd.exec hc _ _ _ _))) (Snd.exec hc _ _ _ _))) (Snd.exec hc _ _ _ _))) (Snd.exec hc _ _ _ _))
    (fun x => by kernel_rfl)

def f249in : SS := ⟨[(0, (.ro (.list 3 (.int .i64))))], []⟩
def f249out : SS := ⟨[(0, (.h 100))], [(100, (.sl 75 (.st (.cons (.int .i64) (.cons .str .nil)))))]⟩
def f249s3 : SS := ⟨[(3, (.h 100)), (7, (.ro (.list 3 (.int .i64)))), (8, (.ro (.int .i64))), (9, (.ro (.int .i64)))], [(100, (.sl 75 (.st (.cons (.int .i64) (.cons .str .nil)))))]⟩
def f249con (F : (List Int) → Option (Unit × (List TVal))) : Con := ⟨f249in, f249out, 1, 1, fun x => F x⟩
def f249ctx (k : Nat) : Ctx := ⟨tyAt tys, conAt [], 20, fun _ => false⟩
theorem f249hc (k : Nat) : CtxOk Try.prog (f249ctx k) := ctxOk tys_ok mixed_ok (consOk_nil)
theorem f249ok (k : Nat) : FnOk Try.prog 249 (f249con (impl_valsOf k)) :=
  let hc := f249hc k
  fnOk (fn := Try.f249) (code := bodyOf Try.f249) (res := [.tmp 2]) hc (by kernel_rfl) (by kernel_rfl) (by decide) (by kernel_rfl) (by kernel_rfl) (by kernel_rfl) (Nat.le_of_ble_eq_true (by kernel_rfl)) _
    (fun x => Snd.seq (by kernel_rfl) (Snd.seq (by kernel_rfl) (Snd.seq (by kernel_rfl) (Snd.exec hc _ _ _ _) (Snd.seq (by kernel_rfl) (Snd.block (id := 0) (by kernel_rfl) (Snd.loop' (by kernel_rfl) f249s3 (fun n x => impl_valsOf.l3 k n x.1.2.1 x.1.2.2.1 x.1.2.2.2 x.2) _ (fun _ => rfl) (fun n3 => Snd.exec hc _ _ _ _) (fun n x => by kernel_rfl) k)) (Snd.exec hc _ _ _ _))) (Snd.exec hc _ _ _ _)) (Snd.exec hc _ _ _ _))
    (fun x => by kernel_rfl)

def f343in : SS := ⟨[(0, (.ro (.list 5 (.int .u8)))), (1, (.ro (.int .i64)))], []⟩
def f343out : SS := ⟨[(0, (.ro (.int .i64)))], []⟩
def f343con (F : (List Int) → Int → Option Int) : Con := ⟨f343in, f343out, 2, 1, fun x => F x.1 x.2⟩
def f343ctx (k : Nat) : Ctx := ⟨tyAt tys, conAt [], 24, fun _ => false⟩
theorem f343hc (k : Nat) : CtxOk Try.prog (f343ctx k) := ctxOk tys_ok mixed_ok (consOk_nil)
theorem f343ok (k : Nat) : FnOk Try.prog 343 (f343con (impl_BitAt k)) :=
  let hc := f343hc k
  fnOk (fn := Try.f343) (code := bodyOf Try.f343) (res := [.tmp 4]) hc (by kernel_rfl) (by kernel_rfl) (by decide) (by kernel_rfl) (by kernel_rfl) (by kernel_rfl) (Nat.le_of_ble_eq_true (by kernel_rfl)) _
    (fun x => Snd.exec hc _ _ _ _)
    (fun x => by kernel_rfl)

def f328in : SS := ⟨[(0, (.ro (.list 5 (.int .u8)))), (1, (.ro (.int .i64))), (2, (.ro (.int .i64))), (3, (.ro (.int .i64)))], []⟩
def f328out : SS := ⟨[(0, (.h 100))], [(100, (.sl 3 (.int .i64)))]⟩
def f328s7 : SS := ⟨[(0, (.ro (.list 5 (.int .u8)))), (1, (.ro (.int .i64))), (3, (.ro (.int .i64))), (9, (.h 100)), (10, (.ro (.int .i64))), (11, (.ro (.int .i64))), (14, (.ro (.int .i64))), (15, (.ro (.int .i64))), (18, (.ro (.int .i64))), (19, (.ro (.int .i64)))], [(100, (.sl 3 (.int .i64)))]⟩
def f328s3 : SS := ⟨[(0, (.ro (.list 5 (.int .u8)))), (1, (.ro (.int .i64))), (3, (.ro (.int .i64))), (9, (.h 100)), (14, (.ro (.int .i64))), (15, (.ro (.int .i64)))], [(100, (.sl 3 (.int .i64)))]⟩
def f328con (F : (List Int) → Int → Int → Int → Option (Unit × (List Int))) : Con := ⟨f328in, f328out, 4, 1, fun x => F x.1 x.2.1 x.2.2.1 x.2.2.2⟩
def f328ctx (k : Nat) : Ctx := ⟨tyAt tys, conAt [(343, [f343con (impl_BitAt k)])], 43, fun _ => false⟩
theorem f328hc (k : Nat) : CtxOk Try.prog (f328ctx k) := ctxOk tys_ok mixed_ok (consOk_cons (f343ok k) (consOk_nil))
theorem f328ok (k : Nat) : FnOk Try.prog 328 (f328con (impl_unpacked k)) :=
  let hc := f328hc k
  fnOk (fn := Try.f328) (code := bodyOf Try.f328) (res := [.tmp 8]) hc (by kernel_rfl) (by kernel_rfl) (by decide) (by kernel_rfl) (by kernel_rfl) (by kernel_rfl) (Nat.le_of_ble_eq_true (by kernel_rfl)) _
    (fun x => Snd.seq (by kernel_rfl) (Snd.seq (by kernel_rfl) (Snd.seq (by kernel_rfl) (Snd.exec hc _ _ _ _) (Snd.seq (by kernel_rfl) (Snd.block (id := 0) (by kernel_rfl) (Snd.loop' (by kernel_rfl) f328s3 (fun n x => impl_unpacked.l3 k n x.1.1 x.1.2.1 x.1.2.2.1 x.1.2.2.2.2.1 x.1.2.2.2.2.2 x.2) _ (fun _ => rfl) (fun n3 => Snd.seq (by kernel_rfl) (Snd.seq (by kernel_rfl) (Snd.seq (by kernel_rfl) (Snd.exec hc _ _ _ _) (Snd.block (id := 1) (by kernel_rfl) (Snd.seq (by kernel_rfl) (Snd.seq (by kernel_rfl) (Snd.seq (by kernel_rfl) (Snd.exec hc _ _ _ _) (Snd.seq (by kernel_rfl) (Snd.block (id := 2) (by kernel_rfl) (Snd.loop' (by kernel_rfl) f328s7 (fun n x => impl_unpacked.l7 k (impl_unpacked.l3 k n3) n x.1.1 x.1.2.1 x.1.2.2.1 x.1.2.2.2.2.1 x.1.2.2.2.2.2.1 x.1.2.2.2.2.2.2.1 x.1.2.2.2.2.2.2.2.1 x.1.2.2.2.2.2.2.2.2.1 x.1.2.2.2.2.2.2.2.2.2 x.2) _ (fun _ => rfl) (fun n7 => Snd.exec hc _ _ _ _) (fun n x => by kernel_rfl) k)) (Snd.exec hc _ _ _ _))) (Snd.exec hc _ _ _ _)) (Snd.exec hc _ _ _ _)))) (Snd.exec hc _ _ _ _)) (Snd.exec hc _ _ _ _)) (fun n x => by kernel_rfl) k)) (Snd.exec hc _ _ _ _))) (Snd.exec hc _ _ _ _)) (Snd.exec hc _ _ _ _))
    (fun x => by kernel_rfl)

def f341in : SS := ⟨[(0, (.ro (.int .i64))), (1, (.ro (.int .i64)))], []⟩
def f341out : SS := ⟨[(0, (.ro (.int .i64)))], []⟩
def f341con (F : Int → Int → Option Int) : Con := ⟨f341in, f341out, 2, 1, fun x => F x.1 x.2⟩
def f341ctx (k : Nat) : Ctx := ⟨tyAt tys, conAt [(105, [f105con (impl_within k)])], 18, fun _ => false⟩
theorem f341hc (k : Nat) : CtxOk Try.prog (f341ctx k) := ctxOk tys_ok mixed_ok (consOk_cons (f105ok k) (consOk_nil))
theorem f341ok (k : Nat) : FnOk Try.prog 341 (f341con (impl_BitsSize k)) :=
  let hc := f341hc k
  fnOk (fn := Try.f341) (code := bodyOf Try.f341) (res := [.tmp 4]) hc (by kernel_rfl) (by kernel_rfl) (by decide) (by kernel_rfl) (by kernel_rfl) (by kernel_rfl) (Nat.le_of_ble_eq_true (by kernel_rfl)) _
    (fun x => Snd.exec hc _ _ _ _)
    (fun x => by kernel_rfl)

def f320in : SS := ⟨[(0, (.ro (.list 5 (.int .u8)))), (1, (.ro (.int .i64))), (2, (.ro (.int .i64))), (3, (.ro (.int .i64)))], []⟩
def f320out : SS := ⟨[(0, (.h 100)), (1, (.ro (.int .i64))), (2, (.ro .bool))], [(100, (.sl 3 (.int .i64)))]⟩
def f320con (F : (List Int) → Int → Int → Int → Option ((Unit × Int × Bool) × (List Int))) : Con := ⟨f320in, f320out, 4, 3, fun x => F x.1 x.2.1 x.2.2.1 x.2.2.2⟩
def f320ctx (k : Nat) : Ctx := ⟨tyAt tys, conAt [(105, [f105con (impl_within k)]), (328, [f328con (impl_unpacked k)]), (341, [f341con (impl_BitsSize k)])], 40, fun _ => false⟩
theorem f320hc (k : Nat) : CtxOk Try.prog (f320ctx k) := ctxOk tys_ok mixed_ok (consOk_cons (f105ok k) (consOk_cons (f328ok k) (consOk_cons (f341ok k) (consOk_nil))))
theorem f320ok (k : Nat) : FnOk Try.prog 320 (f320con (impl_BitsRead k)) :=
  let hc := f320hc k
  fnOk (fn := Try.f320) (code := bodyOf Try.f320) (res := [.tmp 8, .tmp 9, .tmp 10]) hc (by kernel_rfl) (by kernel_rfl) (by decide) (by kernel_rfl) (by kernel_rfl) (by kernel_rfl) (Nat.le_of_ble_eq_true (by kernel_rfl)) _
    (fun x => Snd.exec hc _ _ _ _)
    (fun x => by kernel_rfl)

def f246in : SS := ⟨[(0, (.ro (.int .i64)))], []⟩
def f246out : SS := ⟨[(0, (.ro (.int .i64)))], []⟩
def f246s6 : SS := ⟨[(6, (.ro .bool))], []⟩
def f246con (F : Int → Option Int) : Con := ⟨f246in, f246out, 1, 1, fun x => F x⟩
def f246ctx (k : Nat) : Ctx := ⟨tyAt tys, conAt [], 9, fun _ => false⟩
theorem f246hc (k : Nat) : CtxOk Try.prog (f246ctx k) := ctxOk tys_ok mixed_ok (consOk_nil)
theorem f246ok (k : Nat) : FnOk Try.prog 246 (f246con (impl_wideOf k)) :=
  let hc := f246hc k
  fnOk (fn := Try.f246) (code := bodyOf Try.f246) (res := [.tmp 2]) hc (by kernel_rfl) (by kernel_rfl) (by decide) (by kernel_rfl) (by kernel_rfl) (by kernel_rfl) (Nat.le_of_ble_eq_true (by kernel_rfl)) _
    (fun x => Snd.seq (by kernel_rfl) (Snd.seq (by kernel_rfl) (Snd.exec hc _ _ _ _) (Snd.seq (by kernel_rfl) (Snd.block (id := 0) (by kernel_rfl) (Snd.seq (by kernel_rfl) (Snd.cond (x := .tmp 4) (by kernel_rfl) (Snd.exec hc _ _ _ _) (Snd.seq (by kernel_rfl) (Snd.cut (Snd.exec hc _ _ _ _) ⟨f246s6, fun x => impl_wideOf.c6 k x⟩ (fun x => by kernel_rfl)) (Snd.exec hc _ _ _ _))) (Snd.exec hc _ _ _ _))) (Snd.exec hc _ _ _ _))) (Snd.exec hc _ _ _ _))
    (fun x => by kernel_rfl)

def f255in : SS := ⟨[(0, (.ro (.list 5 (.int .u8)))), (1, (.ro (.int .i64))), (2, (.ro (.int .i64)))], []⟩
def f255out : SS := ⟨[(0, (.ro (.int .i64))), (1, (.ro (.int .i64))), (2, (.ro .bool))], []⟩
def f255s5 : SS := ⟨[(0, (.ro (.list 5 (.int .u8)))), (1, (.ro (.int .i64))), (2, (.ro (.int .i64))), (9, (.ro (.int .i64))), (26, (.ro (.int .i64))), (27, (.ro (.int .i64)))], []⟩
def f255con (F : (List Int) → Int → Int → Option (Int × Int × Bool)) : Con := ⟨f255in, f255out, 3, 3, fun x => F x.1 x.2.1 x.2.2⟩
def f255ctx (k : Nat) : Ctx := ⟨tyAt tys, conAt [(105, [f105con (impl_within k)])], 47, fun _ => false⟩
theorem f255hc (k : Nat) : CtxOk Try.prog (f255ctx k) := ctxOk tys_ok mixed_ok (consOk_cons (f105ok k) (consOk_nil))
theorem f255ok (k : Nat) : FnOk Try.prog 255 (f255con (impl_WordGet k)) :=
  let hc := f255hc k
  fnOk (fn := Try.f255) (code := bodyOf Try.f255) (res := [.tmp 6, .tmp 7, .tmp 8]) hc (by kernel_rfl) (by kernel_rfl) (by decide) (by kernel_rfl) (by kernel_rfl) (by kernel_rfl) (Nat.le_of_ble_eq_true (by kernel_rfl)) _
    (fun x => Snd.seq (by kernel_rfl) (Snd.seq (by kernel_rfl) (Snd.seq (by kernel_rfl) (Snd.seq (by kernel_rfl) (Snd.exec hc _ _ _ _) (Snd.seq (by kernel_rfl) (Snd.block (id := 0) (by kernel_rfl) (Snd.loop' (by kernel_rfl) f255s5 (fun n x => impl_WordGet.l5 k n x.1 x.2.1 x.2.2.1 x.2.2.2.1 x.2.2.2.2.1 x.2.2.2.2.2) _ (fun _ => rfl) (fun n5 => Snd.exec hc _ _ _ _) (fun n x => by kernel_rfl) k)) (Snd.exec hc _ _ _ _))) (Snd.exec hc _ _ _ _)) (Snd.exec hc _ _ _ _)) (Snd.exec hc _ _ _ _))
    (fun x => by kernel_rfl)

def f326in : SS := ⟨[(0, (.ro (.int .i64))), (1, (.ro (.int .i64)))], []⟩
def f326out : SS := ⟨[(0, (.ro (.int .i64)))], []⟩
def f326con (F : Int → Int → Option Int) : Con := ⟨f326in, f326out, 2, 1, fun x => F x.1 x.2⟩
def f326ctx (k : Nat) : Ctx := ⟨tyAt tys, conAt [], 11, fun _ => false⟩
theorem f326hc (k : Nat) : CtxOk Try.prog (f326ctx k) := ctxOk tys_ok mixed_ok (consOk_nil)
theorem f326ok (k : Nat) : FnOk Try.prog 326 (f326con (impl_signed k)) :=
  let hc := f326hc k
  fnOk (fn := Try.f326) (code := bodyOf Try.f326) (res := [.tmp 4]) hc (by kernel_rfl) (by kernel_rfl) (by decide) (by kernel_rfl) (by kernel_rfl) (by kernel_rfl) (Nat.le_of_ble_eq_true (by kernel_rfl)) _
    (fun x => Snd.exec hc _ _ _ _)
    (fun x => by kernel_rfl)

def f321in : SS := ⟨[(0, (.ro (.int .i64))), (1, (.ro (.list 5 (.int .u8)))), (2, (.ro (.int .i64)))], []⟩
def f321out : SS := ⟨[(0, (.agg (.cons (.ro (.int .i64)) (.cons (.ro .str) .nil)))), (1, (.ro (.int .i64))), (2, (.ro .bool))], []⟩
def f321con (F : Int → (List Int) → Int → Option (TVal × Int × Bool)) : Con := ⟨f321in, f321out, 3, 3, fun x => F x.1 x.2.1 x.2.2⟩
def f321ctx (k : Nat) : Ctx := ⟨tyAt tys, conAt [(246, [f246con (impl_wideOf k)]), (255, [f255con (impl_WordGet k)]), (326, [f326con (impl_signed k)])], 66, fun _ => false⟩
theorem f321hc (k : Nat) : CtxOk Try.prog (f321ctx k) := ctxOk tys_ok mixed_ok (consOk_cons (f246ok k) (consOk_cons (f255ok k) (consOk_cons (f326ok k) (consOk_nil))))
theorem f321ok (k : Nat) : FnOk Try.prog 321 (f321con (impl_plainOne k)) :=
  let hc := f321hc k
  fnOk (fn := Try.f321) (code := bodyOf Try.f321) (res := [.cell 6 75, .tmp 7, .tmp 8]) hc (by kernel_rfl) (by kernel_rfl) (by decide) (by kernel_rfl) (by kernel_rfl) (by kernel_rfl) (Nat.le_of_ble_eq_true (by kernel_rfl)) _
    (fun x => Snd.exec hc _ _ _ _)
    (fun x => by kernel_rfl)

def f247in : SS := ⟨[(0, (.ro (.int .i64))), (1, (.ro (.list 5 (.int .u8)))), (2, (.ro (.int .i64))), (3, (.ro (.int .i64)))], []⟩
def f247out : SS := ⟨[(0, (.h 100)), (1, (.ro (.int .i64))), (2, (.ro .bool))], [(100, (.sl 75 (.st (.cons (.int .i64) (.cons .str .nil)))))]⟩
def f247s8 : SS := ⟨[(0, (.ro (.int .i64))), (1, (.ro (.list 5 (.int .u8)))), (2, (.ro (.int .i64))), (14, (.h 100)), (48, (.ro (.int .i64))), (49, (.ro (.int .i64)))], [(100, (.sl 75 (.st (.cons (.int .i64) (.cons .str .nil)))))]⟩
def f247con (F : Int → (List Int) → Int → Int → Option ((Unit × Int × Bool) × (List TVal))) : Con := ⟨f247in, f247out, 4, 3, fun x => F x.1 x.2.1 x.2.2.1 x.2.2.2⟩
def f247ctx (k : Nat) : Ctx := ⟨tyAt tys, conAt [(105, [f105con (impl_within k)]), (245, [f245con (impl_TypeOk k)]), (249, [f249con (impl_valsOf k)]), (320, [f320con (impl_BitsRead k)]), (321, [f321con (impl_plainOne k)])], 69, fun _ => false⟩
theorem f247hc (k : Nat) : CtxOk Try.prog (f247ctx k) := ctxOk tys_ok mixed_ok (consOk_cons (f105ok k) (consOk_cons (f245ok k) (consOk_cons (f249ok k) (consOk_cons (f320ok k) (consOk_cons (f321ok k) (consOk_nil))))))
theorem f247ok (k : Nat) : FnOk Try.prog 247 (f247con (impl_PlainRead k)) :=
  let hc := f247hc k
  fnOk (fn := Try.f247) (code := bodyOf Try.f247) (res := [.tmp 8, .tmp 9, .tmp 10]) hc (by kernel_rfl) (by kernel_rfl) (by decide) (by kernel_rfl) (by kernel_rfl) (by kernel_rfl) (Nat.le_of_ble_eq_true (by kernel_rfl)) _
    (fun x => Snd.seq (by kernel_rfl) (Snd.seq (by kernel_rfl) (Snd.seq (by kernel_rfl) (Snd.seq (by kernel_rfl) (Snd.seq (by kernel_rfl) (Snd.exec hc _ _ _ _) (Snd.seq (by kernel_rfl) (Snd.block (id := 0) (by kernel_rfl) (Snd.loop' (by kernel_rfl) f247s8 (fun n x => impl_PlainRead.l8 k n x.1.1 x.1.2.1 x.1.2.2.1 x.1.2.2.2.2.1 x.1.2.2.2.2.2 x.2) _ (fun _ => rfl) (fun n8 => Snd.exec hc _ _ _ _) (fun n x => by kernel_rfl) k)) (Snd.exec hc _ _ _ _))) (Snd.exec hc _ _ _ _)) (Snd.exec hc _ _ _ _)) (Snd.exec hc _ _ _ _)) (Snd.exec hc _ _ _ _))
    (fun x => by kernel_rfl)

def f135in : SS := ⟨[(0, (.ro (.int .i64))), (1, (.ro (.list 75 (.st (.cons (.int .i64) (.cons .str .nil))))))], []⟩
def f135out : SS := ⟨[(0, (.ro .bool))], []⟩
def f135s2 : SS := ⟨[(0, (.ro (.int .i64))), (1, (.ro (.list 75 (.st (.cons (.int .i64) (.cons .str .nil)))))), (7, (.ro (.list 75 (.st (.cons (.int .i64) (.cons .str .nil)))))), (8, (.ro (.int .i64))), (9, (.ro (.int .i64)))], []⟩
def f135con (F : Int → (List TVal) → Option Bool) : Con := ⟨f135in, f135out, 2, 1, fun x => F x.1 x.2⟩
def f135ctx (k : Nat) : Ctx := ⟨tyAt tys, conAt [(205, [f205con (impl_ValOk k)]), (245, [f245con (impl_TypeOk k)])], 25, fun _ => false⟩
theorem f135hc (k : Nat) : CtxOk Try.prog (f135ctx k) := ctxOk tys_ok mixed_ok (consOk_cons (f205ok k) (consOk_cons (f245ok k) (consOk_nil)))
theorem f135ok (k : Nat) : FnOk Try.prog 135 (f135con (impl_valsOk k)) :=
  let hc := f135hc k
  fnOk (fn := Try.f135) (code := bodyOf Try.f135) (res := [.tmp 4]) hc (by kernel_rfl) (by kernel_rfl) (by decide) (by kernel_rfl) (by kernel_rfl) (by kernel_rfl) (Nat.le_of_ble_eq_true (by kernel_rfl)) _
    (fun x => Snd.seq (by kernel_rfl) (Snd.seq (by kernel_rfl) (Snd.exec hc _ _ _ _) (Snd.seq (by kernel_rfl) (Snd.block (id := 0) (by kernel_rfl) (Snd.loop' (by kernel_rfl) f135s2 (fun n x => impl_valsOk.l2 k n x.1 x.2.1 x.2.2.1 x.2.2.2.1 x.2.2.2.2) _ (fun _ => rfl) (fun n2 => Snd.exec hc _ _ _ _) (fun n x => by kernel_rfl) k)) (Snd.exec hc _ _ _ _))) (Snd.exec hc _ _ _ _))
    (fun x => by kernel_rfl)

def f355in : SS := ⟨[(0, (.ro (.list 3 (.int .i64)))), (1, (.ro (.int .i64)))], []⟩
def f355out : SS := ⟨[(0, (.h 100))], [(100, (.sl 5 (.int .u8)))]⟩
def f355s6 : SS := ⟨[(1, (.ro (.int .i64))), (5, (.h 100)), (6, (.ro (.int .i64))), (7, (.ro (.int .i64))), (17, (.ro (.list 3 (.int .i64)))), (18, (.ro (.int .i64))), (19, (.ro (.int .i64))), (24, (.ro (.int .i64))), (25, (.ro (.int .i64)))], [(100, (.sl 5 (.int .u8)))]⟩
def f355s3 : SS := ⟨[(1, (.ro (.int .i64))), (5, (.h 100)), (17, (.ro (.list 3 (.int .i64)))), (18, (.ro (.int .i64))), (19, (.ro (.int .i64)))], [(100, (.sl 5 (.int .u8)))]⟩
def f355con (F : (List Int) → Int → Option (Unit × (List Int))) : Con := ⟨f355in, f355out, 2, 1, fun x => F x.1 x.2⟩
def f355ctx (k : Nat) : Ctx := ⟨tyAt tys, conAt [], 51, fun _ => false⟩
theorem f355hc (k : Nat) : CtxOk Try.prog (f355ctx k) := ctxOk tys_ok mixed_ok (consOk_nil)
theorem f355ok (k : Nat) : FnOk Try.prog 355 (f355con (impl_packed k)) :=
  let hc := f355hc k
  fnOk (fn := Try.f355) (code := bodyOf Try.f355) (res := [.tmp 4]) hc (by kernel_rfl) (by kernel_rfl) (by decide) (by kernel_rfl) (by kernel_rfl) (by kernel_rfl) (Nat.le_of_ble_eq_true (by kernel_rfl)) _
    (fun x => Snd.seq (by kernel_rfl) (Snd.seq (by kernel_rfl) (Snd.seq (by kernel_rfl) (Snd.exec hc _ _ _ _) (Snd.seq (by kernel_rfl) (Snd.block (id := 0) (by kernel_rfl) (Snd.loop' (by kernel_rfl) f355s3 (fun n x => impl_packed.l3 k n x.1.1 x.1.2.2.1 x.1.2.2.2.1 x.1.2.2.2.2 x.2) _ (fun _ => rfl) (fun n3 => Snd.seq (by kernel_rfl) (Snd.seq (by kernel_rfl) (Snd.seq (by kernel_rfl) (Snd.exec hc _ _ _ _) (Snd.block (id := 1) (by kernel_rfl) (Snd.seq (by kernel_rfl) (Snd.seq (by kernel_rfl) (Snd.block (id := 2) (by kernel_rfl) (Snd.loop' (by kernel_rfl) f355s6 (fun n x => impl_packed.l6 k (impl_packed.l3 k n3) n x.1.1 x.1.2.2.1 x.1.2.2.2.1 x.1.2.2.2.2.1 x.1.2.2.2.2.2.1 x.1.2.2.2.2.2.2.1 x.1.2.2.2.2.2.2.2.1 x.1.2.2.2.2.2.2.2.2 x.2) _ (fun _ => rfl) (fun n6 => Snd.exec hc _ _ _ _) (fun n x => by kernel_rfl) k)) (Snd.exec hc _ _ _ _)) (Snd.exec hc _ _ _ _)))) (Snd.exec hc _ _ _ _)) (Snd.exec hc _ _ _ _)) (fun n x => by kernel_rfl) k)) (Snd.exec hc _ _ _ _))) (Snd.exec hc _ _ _ _)) (Snd.exec hc _ _ _ _))
    (fun x => by kernel_rfl)

def f356in : SS := ⟨[(0, (.ro (.list 75 (.st (.cons (.int .i64) (.cons .str .nil))))))], []⟩
def f356out : SS := ⟨[(0, (.h 100))], [(100, (.sl 3 (.int .i64)))]⟩
def f356s3 : SS := ⟨[(3, (.h 100)), (7, (.ro (.list 75 (.st (.cons (.int .i64) (.cons .str .nil)))))), (8, (.ro (.int .i64))), (9, (.ro (.int .i64)))], [(100, (.sl 3 (.int .i64)))]⟩
def f356con (F : (List TVal) → Option (Unit × (List Int))) : Con := ⟨f356in, f356out, 1, 1, fun x => F x⟩
def f356ctx (k : Nat) : Ctx := ⟨tyAt tys, conAt [], 20, fun _ => false⟩
theorem f356hc (k : Nat) : CtxOk Try.prog (f356ctx k) := ctxOk tys_ok mixed_ok (consOk_nil)
theorem f356ok (k : Nat) : FnOk Try.prog 356 (f356con (impl_numsOf k)) :=
  let hc := f356hc k
  fnOk (fn := Try.f356) (code := bodyOf Try.f356) (res := [.tmp 2]) hc (by kernel_rfl) (by kernel_rfl) (by decide) (by kernel_rfl) (by kernel_rfl) (by kernel_rfl) (Nat.le_of_ble_eq_true (by kernel_rfl)) _
    (fun x => Snd.seq (by kernel_rfl) (Snd.seq (by kernel_rfl) (Snd.seq (by kernel_rfl) (Snd.exec hc _ _ _ _) (Snd.seq (by kernel_rfl) (Snd.block (id := 0) (by kernel_rfl) (Snd.loop' (by kernel_rfl) f356s3 (fun n x => impl_numsOf.l3 k n x.1.2.1 x.1.2.2.1 x.1.2.2.2 x.2) _ (fun _ => rfl) (fun n3 => Snd.exec hc _ _ _ _) (fun n x => by kernel_rfl) k)) (Snd.exec hc _ _ _ _))) (Snd.exec hc _ _ _ _)) (Snd.exec hc _ _ _ _))
    (fun x => by kernel_rfl)

def f357in : SS := ⟨[(0, (.ro (.int .i64))), (1, (.ro (.int .i64)))], []⟩
def f357out : SS := ⟨[(0, (.h 100))], [(100, (.sl 5 (.int .u8)))]⟩
def f357s5 : SS := ⟨[(0, (.ro (.int .i64))), (5, (.h 100)), (11, (.ro (.int .i64))), (12, (.ro (.int .i64)))], [(100, (.sl 5 (.int .u8)))]⟩
def f357con (F : Int → Int → Option (Unit × (List Int))) : Con := ⟨f357in, f357out, 2, 1, fun x => F x.1 x.2⟩
def f357ctx (k : Nat) : Ctx := ⟨tyAt tys, conAt [(105, [f105con (impl_within k)])], 25, fun _ => false⟩
theorem f357hc (k : Nat) : CtxOk Try.prog (f357ctx k) := ctxOk tys_ok mixed_ok (consOk_cons (f105ok k) (consOk_nil))
theorem f357ok (k : Nat) : FnOk Try.prog 357 (f357con (impl_WordPut k)) :=
  let hc := f357hc k
  fnOk (fn := Try.f357) (code := bodyOf Try.f357) (res := [.tmp 4]) hc (by kernel_rfl) (by kernel_rfl) (by decide) (by kernel_rfl) (by kernel_rfl) (by kernel_rfl) (Nat.le_of_ble_eq_true (by kernel_rfl)) _
    (fun x => Snd.seq (by kernel_rfl) (Snd.seq (by kernel_rfl) (Snd.seq (by kernel_rfl) (Snd.seq (by kernel_rfl) (Snd.exec hc _ _ _ _) (Snd.seq (by kernel_rfl) (Snd.block (id := 0) (by kernel_rfl) (Snd.loop' (by kernel_rfl) f357s5 (fun n x => impl_WordPut.l5 k n x.1.1 x.1.2.2.1 x.1.2.2.2 x.2) _ (fun _ => rfl) (fun n5 => Snd.exec hc _ _ _ _) (fun n x => by kernel_rfl) k)) (Snd.exec hc _ _ _ _))) (Snd.exec hc _ _ _ _)) (Snd.exec hc _ _ _ _)) (Snd.exec hc _ _ _ _))
    (fun x => by kernel_rfl)

def f354in : SS := ⟨[(0, (.ro (.int .i64))), (1, (.ro (.list 75 (.st (.cons (.int .i64) (.cons .str .nil))))))], []⟩
def f354out : SS := ⟨[(0, (.h 100)), (1, (.ro .bool))], [(100, (.sl 5 (.int .u8)))]⟩
def f354s12 : SS := ⟨[(0, (.ro (.int .i64))), (6, (.h 100)), (19, (.ro (.list 75 (.st (.cons (.int .i64) (.cons .str .nil)))))), (20, (.ro (.int .i64))), (21, (.ro (.int .i64)))], [(100, (.sl 5 (.int .u8)))]⟩
def f354d10 : SS := ⟨[(0, (.ro (.int .i64))), (6, (.h 100)), (8, (.p 101)), (19, (.ro (.list 75 (.st (.cons (.int .i64) (.cons .str .nil)))))), (20, (.ro (.int .i64))), (21, (.ro (.int .i64)))], [(100, (.sl 5 (.int .u8))), (101, (.box (.st (.cons (.int .i64) (.cons .str .nil))) (.agg (.cons (.ro (.int .i64)) (.cons (.ro .str) .nil)))))]⟩
def f354d11 : SS := ⟨[(0, (.ro (.int .i64))), (6, (.h 100)), (8, (.p 101)), (19, (.ro (.list 75 (.st (.cons (.int .i64) (.cons .str .nil)))))), (20, (.ro (.int .i64))), (21, (.ro (.int .i64)))], [(100, (.sl 5 (.int .u8))), (101, (.box (.st (.cons (.int .i64) (.cons .str .nil))) (.agg (.cons (.ro (.int .i64)) (.cons (.ro .str) .nil)))))]⟩
def f354s7 : SS := ⟨[(0, (.ro (.int .i64))), (6, (.h 100)), (19, (.ro (.list 75 (.st (.cons (.int .i64) (.cons .str .nil)))))), (20, (.ro (.int .i64))), (21, (.ro (.int .i64)))], [(100, (.sl 5 (.int .u8)))]⟩
def f354con (F : Int → (List TVal) → Option ((Unit × Bool) × (List Int))) : Con := ⟨f354in, f354out, 2, 2, fun x => F x.1 x.2⟩
def f354ctx (k : Nat) : Ctx := ⟨tyAt tys, conAt [(135, [f135con (impl_valsOk k)]), (246, [f246con (impl_wideOf k)]), (355, [f355con (impl_packed k)]), (356, [f356con (impl_numsOf k)]), (357, [f357con (impl_WordPut k)])], 45, fun _ => false⟩
theorem f354hc (k : Nat) : CtxOk Try.prog (f354ctx k) := ctxOk tys_ok mixed_ok (consOk_cons (f135ok k) (consOk_cons (f246ok k) (consOk_cons (f355ok k) (consOk_cons (f356ok k) (consOk_cons (f357ok k) (consOk_nil))))))
theorem f354ok (k : Nat) : FnOk Try.prog 354 (f354con (impl_PlainPack k)) :=
  let hc := f354hc k
  fnOk (fn := Try.f354) (code := bodyOf Try.f354) (res := [.tmp 4, .tmp 5]) hc (by kernel_rfl) (by kernel_rfl) (by decide) (by kernel_rfl) (by kernel_rfl) (by kernel_rfl) (Nat.le_of_ble_eq_true (by kernel_rfl)) _
    (fun x => Snd.seq (by kernel_rfl) (Snd.seq (by kernel_rfl) (Snd.seq (by kernel_rfl) (Snd.seq (by kernel_rfl) (Snd.seq (by kernel_rfl) (Snd.exec hc _ _ _ _) (Snd.seq (by kernel_rfl) (Snd.block (id := 0) (by kernel_rfl) (Snd.loop' (by kernel_rfl) f354s7 (fun n x => impl_PlainPack.l7 k n x.1.1 x.1.2.2.1 x.1.2.2.2.1 x.1.2.2.2.2 x.2) _ (fun _ => rfl) (fun n7 => Snd.seq (by kernel_rfl) (Snd.seq (by kernel_rfl) (Snd.seq (by kernel_rfl) (Snd.cut (Snd.exec hc _ _ _ _) ⟨f354s12, fun x => impl_PlainPack.c12 k (impl_PlainPack.l7 k n7) x.1.1 x.1.2.2.1 x.1.2.2.2.1 x.1.2.2.2.2 x.2⟩ (fun x => by kernel_rfl)) (Snd.block (id := 1) (by kernel_rfl) (Snd.seq (by kernel_rfl) (Snd.seq (by kernel_rfl) (Snd.cond (x := .tmp 26) (by kernel_rfl) (Snd.fork hc (id := 10) (by kernel_rfl) ⟨f354d10, fun x => impl_PlainPack.d10 k (impl_PlainPack.l7 k n7) x.1.1 x.1.2.2.2.1 x.1.2.2.2.2.1 x.1.2.2.2.2.2 x.2.1 x.2.2⟩ [[0, 1, 6, 2, 3, 4, 5, 7, 8, 9], [0, 1, 6, 2, 3, 4, 7, 5, 8, 9], [0, 1, 6, 2, 3, 7, 4, 5, 8, 9], [0, 1, 6, 7, 2, 3, 4, 5, 8, 9]] (by kernel_rfl) (ords_cons (fun x => by kernel_rfl) (ords_cons (fun x => by kernel_rfl) (ords_cons (fun x => by kernel_rfl) (ords_cons (fun x => by kernel_rfl) (ords_nil)))))) (Snd.fork hc (id := 11) (by kernel_rfl) ⟨f354d11, fun x => impl_PlainPack.d11 k (impl_PlainPack.l7 k n7) x.1.1 x.1.2.2.2.1 x.1.2.2.2.2.1 x.1.2.2.2.2.2 x.2.1 x.2.2⟩ [[0, 1, 3, 2, 4, 5, 6, 7], [0, 1, 3, 4, 2, 5, 6, 7]] (by kernel_rfl) (ords_cons (fun x => by kernel_rfl) (ords_cons (fun x => by kernel_rfl) (ords_nil))))) (Snd.exec hc _ _ _ _)) (Snd.exec hc _ _ _ _)))) (Snd.exec hc _ _ _ _)) (Snd.exec hc _ _ _ _)) (fun n x => by kernel_rfl) k)) (Snd.exec hc _ _ _ _))) (Snd.exec hc _ _ _ _)) (Snd.exec hc _ _ _ _)) (Snd.exec hc _ _ _ _)) (Snd.exec hc _ _ _ _))
    (fun x => by kernel_rfl)

def f351in : SS := ⟨[(0, (.ro (.int .i64))), (1, (.ro (.st (.cons (.int .i64) (.cons .str .nil)))))], []⟩
def f351out : SS := ⟨[(0, (.ro .str))], []⟩
def f351con (F : Int → TVal → Option ByteArray) : Con := ⟨f351in, f351out, 2, 1, fun x => F x.1 x.2⟩
def f351ctx (k : Nat) : Ctx := ⟨tyAt tys, conAt [(354, [f354con (impl_PlainPack k)])], 20, fun _ => false⟩
theorem f351hc (k : Nat) : CtxOk Try.prog (f351ctx k) := ctxOk tys_ok mixed_ok (consOk_cons (f354ok k) (consOk_nil))
theorem f351ok (k : Nat) : FnOk Try.prog 351 (f351con (impl_statText k)) :=
  let hc := f351hc k
  fnOk (fn := Try.f351) (code := bodyOf Try.f351) (res := [.tmp 4]) hc (by kernel_rfl) (by kernel_rfl) (by decide) (by kernel_rfl) (by kernel_rfl) (by kernel_rfl) (Nat.le_of_ble_eq_true (by kernel_rfl)) _
    (fun x => Snd.exec hc _ _ _ _)
    (fun x => by kernel_rfl)

def f346in : SS := ⟨[(0, (.ro (.int .i64))), (1, (.ro .str))], []⟩
def f346out : SS := ⟨[(0, (.agg (.cons (.ro (.int .i64)) (.cons (.ro .str) .nil)))), (1, (.ro .bool))], []⟩
def f346con (F : Int → ByteArray → Option (TVal × Bool)) : Con := ⟨f346in, f346out, 2, 2, fun x => F x.1 x.2⟩
def f346ctx (k : Nat) : Ctx := ⟨tyAt tys, conAt [(205, [f205con (impl_ValOk k)]), (247, [f247con (impl_PlainRead k)]), (351, [f351con (impl_statText k)])], 46, fun _ => false⟩
theorem f346hc (k : Nat) : CtxOk Try.prog (f346ctx k) := ctxOk tys_ok mixed_ok (consOk_cons (f205ok k) (consOk_cons (f247ok k) (consOk_cons (f351ok k) (consOk_nil))))
theorem f346ok (k : Nat) : FnOk Try.prog 346 (f346con (impl_valueOf k)) :=
  let hc := f346hc k
  fnOk (fn := Try.f346) (code := bodyOf Try.f346) (res := [.cell 4 75, .tmp 5]) hc (by kernel_rfl) (by kernel_rfl) (by decide) (by kernel_rfl) (by kernel_rfl) (by kernel_rfl) (Nat.le_of_ble_eq_true (by kernel_rfl)) _
    (fun x => Snd.exec hc _ _ _ _)
    (fun x => by kernel_rfl)

def f297in : SS := ⟨[(0, (.ro (.int .i64)))], []⟩
def f297out : SS := ⟨[(0, (.ro (.int .i64)))], []⟩
def f297con (F : Int → Option Int) : Con := ⟨f297in, f297out, 1, 1, fun x => F x⟩
def f297ctx (k : Nat) : Ctx := ⟨tyAt tys, conAt [], 8, fun _ => false⟩
theorem f297hc (k : Nat) : CtxOk Try.prog (f297ctx k) := ctxOk tys_ok mixed_ok (consOk_nil)
theorem f297ok (k : Nat) : FnOk Try.prog 297 (f297con (impl_FloatKey k)) :=
  let hc := f297hc k
  fnOk (fn := Try.f297) (code := bodyOf Try.f297) (res := [.tmp 2]) hc (by kernel_rfl) (by kernel_rfl) (by decide) (by kernel_rfl) (by kernel_rfl) (by kernel_rfl) (Nat.le_of_ble_eq_true (by kernel_rfl)) _
    (fun x => Snd.exec hc _ _ _ _)
    (fun x => by kernel_rfl)

def f201in : SS := ⟨[(0, (.ro (.int .i64))), (1, (.ro (.st (.cons (.int .i64) (.cons .str .nil))))), (2, (.ro (.st (.cons (.int .i64) (.cons .str .nil)))))], []⟩
def f201out : SS := ⟨[(0, (.ro .bool))], []⟩
def f201d5 : SS := ⟨[(4, (.p 100)), (5, (.p 101))], [(100, (.box (.st (.cons (.int .i64) (.cons .str .nil))) (.agg (.cons (.ro (.int .i64)) (.cons (.ro .str) .nil))))), (101, (.box (.st (.cons (.int .i64) (.cons .str .nil))) (.agg (.cons (.ro (.int .i64)) (.cons (.ro .str) .nil)))))]⟩
def f201con (F : Int → TVal → TVal → Option Bool) : Con := ⟨f201in, f201out, 3, 1, fun x => F x.1 x.2.1 x.2.2⟩
def f201ctx (k : Nat) : Ctx := ⟨tyAt tys, conAt [(205, [f205con (impl_ValOk k)]), (297, [f297con (impl_FloatKey k)])], 39, fun _ => false⟩
theorem f201hc (k : Nat) : CtxOk Try.prog (f201ctx k) := ctxOk tys_ok mixed_ok (consOk_cons (f205ok k) (consOk_cons (f297ok k) (consOk_nil)))
theorem f201ok (k : Nat) : FnOk Try.prog 201 (f201con (impl_ValLess k)) :=
  let hc := f201hc k
  fnOk (fn := Try.f201) (code := bodyOf Try.f201) (res := [.tmp 6]) hc (by kernel_rfl) (by kernel_rfl) (by decide) (by kernel_rfl) (by kernel_rfl) (by kernel_rfl) (Nat.le_of_ble_eq_true (by kernel_rfl)) _
    (fun x => Snd.seq (by kernel_rfl) (Snd.seq (by kernel_rfl) (Snd.seq (by kernel_rfl) (Snd.exec hc _ _ _ _) (Snd.seq (by kernel_rfl) (Snd.block (id := 0) (by kernel_rfl) (Snd.seq (by kernel_rfl) (Snd.cond (x := .tmp 18) (by kernel_rfl) (Snd.seq (by kernel_rfl) (Snd.exec hc _ _ _ _) (Snd.fork hc (id := 5) (by kernel_rfl) ⟨f201d5, fun x => impl_ValLess.d5 k x.2.1 x.2.2⟩ [[0, 3, 1, 2, 4, 5, 6, 7], [0, 3, 1, 4, 2, 5, 6, 7], [0, 3, 4, 1, 2, 5, 6, 7]] (by kernel_rfl) (ords_cons (fun x => by kernel_rfl) (ords_cons (fun x => by kernel_rfl) (ords_cons (fun x => by kernel_rfl) (ords_nil)))))) (Snd.exec hc _ _ _ _)) (Snd.exec hc _ _ _ _))) (Snd.exec hc _ _ _ _))) (Snd.exec hc _ _ _ _)) (Snd.exec hc _ _ _ _))
    (fun x => by kernel_rfl)

def f347in : SS := ⟨[(0, (.ro (.st (.cons (.int .i64) (.cons (.int .i64) (.cons (.int .i64) .nil)))))), (1, (.ro (.st (.cons (.int .i64) (.cons .bool (.cons (.st (.cons (.int .i64) (.cons .str .nil))) (.cons (.st (.cons (.int .i64) (.cons .str .nil))) .nil)))))))], []⟩
def f347out : SS := ⟨[(0, (.ro .bool))], []⟩
def f347con (F : TLeaf → TStats → Option Bool) : Con := ⟨f347in, f347out, 2, 1, fun x => F x.1 x.2⟩
def f347ctx (k : Nat) : Ctx := ⟨tyAt tys, conAt [(105, [f105con (impl_within k)]), (175, [f175con (impl_LeafOk k)]), (201, [f201con (impl_ValLess k)]), (205, [f205con (impl_ValOk k)])], 49, fun _ => false⟩
theorem f347hc (k : Nat) : CtxOk Try.prog (f347ctx k) := ctxOk tys_ok mixed_ok (consOk_cons (f105ok k) (consOk_cons (f175ok k) (consOk_cons (f201ok k) (consOk_cons (f205ok k) (consOk_nil)))))
theorem f347ok (k : Nat) : FnOk Try.prog 347 (f347con (impl_statsOk k)) :=
  let hc := f347hc k
  fnOk (fn := Try.f347) (code := bodyOf Try.f347) (res := [.tmp 4]) hc (by kernel_rfl) (by kernel_rfl) (by decide) (by kernel_rfl) (by kernel_rfl) (by kernel_rfl) (Nat.le_of_ble_eq_true (by kernel_rfl)) _
    (fun x => Snd.exec hc _ _ _ _)
    (fun x => by kernel_rfl)

def f337in : SS := ⟨[(0, (.p 0)), (1, (.ro (.st (.cons (.int .i64) (.cons (.int .i64) (.cons (.int .i64) .nil)))))), (2, (.ro (.int .i64)))], [(0, (.obox (.st (.cons (.list 170 (.st (.cons (.int .i64) (.cons (.int .i64) (.cons (.int .i64) (.cons .str (.cons (.int .i64) .nil))))))) (.cons (.list 3 (.int .i64)) .nil))) (.agg (.cons (.ro (.list 170 (.st (.cons (.int .i64) (.cons (.int .i64) (.cons (.int .i64) (.cons .str (.cons (.int .i64) .nil)))))))) (.cons (.h 10) .nil))))), (10, (.sl 3 (.int .i64)))]⟩
def f337out : SS := ⟨[(0, (.agg (.cons (.ro (.int .i64)) (.cons (.ro .bool) (.cons (.agg (.cons (.ro (.int .i64)) (.cons (.ro .str) .nil))) (.cons (.agg (.cons (.ro (.int .i64)) (.cons (.ro .str) .nil))) .nil)))))), (1, (.ro .bool))], [(0, (.box (.st (.cons (.list 170 (.st (.cons (.int .i64) (.cons (.int .i64) (.cons (.int .i64) (.cons .str (.cons (.int .i64) .nil))))))) (.cons (.list 3 (.int .i64)) .nil))) (.agg (.cons (.ro (.list 170 (.st (.cons (.int .i64) (.cons (.int .i64) (.cons (.int .i64) (.cons .str (.cons (.int .i64) .nil)))))))) (.cons (.h 10) .nil))))), (10, (.sl 3 (.int .i64)))]⟩
def f337s13 : SS := ⟨[(4, (.p 100)), (6, (.p 101)), (10, (.p 102))], [(0, (.box (.st (.cons (.list 170 (.st (.cons (.int .i64) (.cons (.int .i64) (.cons (.int .i64) (.cons .str (.cons (.int .i64) .nil))))))) (.cons (.list 3 (.int .i64)) .nil))) (.agg (.cons (.ro (.list 170 (.st (.cons (.int .i64) (.cons (.int .i64) (.cons (.int .i64) (.cons .str (.cons (.int .i64) .nil)))))))) (.cons (.h 10) .nil))))), (10, (.sl 3 (.int .i64))), (100, (.box (.st (.cons (.int .i64) (.cons (.int .i64) (.cons (.int .i64) .nil)))) (.agg (.cons (.ro (.int .i64)) (.cons (.ro (.int .i64)) (.cons (.ro (.int .i64)) .nil)))))), (101, (.box (.st (.cons (.int .i64) (.cons .bool (.cons (.st (.cons (.int .i64) (.cons .str .nil))) (.cons (.st (.cons (.int .i64) (.cons .str .nil))) .nil))))) (.agg (.cons (.ro (.int .i64)) (.cons (.ro .bool) (.cons (.agg (.cons (.ro (.int .i64)) (.cons (.ro .str) .nil))) (.cons (.agg (.cons (.ro (.int .i64)) (.cons (.ro .str) .nil))) .nil))))))), (102, (.box (.st (.cons (.int .i64) (.cons .bool (.cons (.st (.cons (.int .i64) (.cons .str .nil))) (.cons (.st (.cons (.int .i64) (.cons .str .nil))) .nil))))) (.agg (.cons (.ro (.int .i64)) (.cons (.ro .bool) (.cons (.agg (.cons (.ro (.int .i64)) (.cons (.ro .str) .nil))) (.cons (.agg (.cons (.ro (.int .i64)) (.cons (.ro .str) .nil))) .nil)))))))]⟩
def f337d12 : SS := ⟨[(4, (.p 100)), (6, (.p 101)), (10, (.p 102)), (15, (.p 103)), (17, (.p 104))], [(0, (.box (.st (.cons (.list 170 (.st (.cons (.int .i64) (.cons (.int .i64) (.cons (.int .i64) (.cons .str (.cons (.int .i64) .nil))))))) (.cons (.list 3 (.int .i64)) .nil))) (.agg (.cons (.ro (.list 170 (.st (.cons (.int .i64) (.cons (.int .i64) (.cons (.int .i64) (.cons .str (.cons (.int .i64) .nil)))))))) (.cons (.h 10) .nil))))), (10, (.sl 3 (.int .i64))), (100, (.box (.st (.cons (.int .i64) (.cons (.int .i64) (.cons (.int .i64) .nil)))) (.agg (.cons (.ro (.int .i64)) (.cons (.ro (.int .i64)) (.cons (.ro (.int .i64)) .nil)))))), (101, (.box (.st (.cons (.int .i64) (.cons .bool (.cons (.st (.cons (.int .i64) (.cons .str .nil))) (.cons (.st (.cons (.int .i64) (.cons .str .nil))) .nil))))) (.agg (.cons (.ro (.int .i64)) (.cons (.ro .bool) (.cons (.agg (.cons (.ro (.int .i64)) (.cons (.ro .str) .nil))) (.cons (.agg (.cons (.ro (.int .i64)) (.cons (.ro .str) .nil))) .nil))))))), (102, (.box (.st (.cons (.int .i64) (.cons .bool (.cons (.st (.cons (.int .i64) (.cons .str .nil))) (.cons (.st (.cons (.int .i64) (.cons .str .nil))) .nil))))) (.agg (.cons (.ro (.int .i64)) (.cons (.ro .bool) (.cons (.agg (.cons (.ro (.int .i64)) (.cons (.ro .str) .nil))) (.cons (.agg (.cons (.ro (.int .i64)) (.cons (.ro .str) .nil))) .nil))))))), (103, (.box (.st (.cons (.int .i64) (.cons .str .nil))) (.agg (.cons (.ro (.int .i64)) (.cons (.ro .str) .nil))))), (104, (.box (.st (.cons (.int .i64) (.cons .str .nil))) (.agg (.cons (.ro (.int .i64)) (.cons (.ro .str) .nil)))))]⟩
def f337con (F : TLeaf → Int → (Bool × TTreeB) → (List Int) → Option ((TStats × Bool) × TTreeB × (List Int))) : Con := ⟨f337in, f337out, 3, 2, fun x => F x.1.2.1 x.1.2.2 x.2.1 x.2.2⟩
def f337ctx (k : Nat) : Ctx := ⟨tyAt tys, conAt [(175, [f175con (impl_LeafOk k)]), (178, [f178con (impl_tree_part k)]), (179, [f179con (impl_tree_find k)]), (264, [f264con (impl_tree_num k)]), (346, [f346con (impl_valueOf k)]), (347, [f347con (impl_statsOk k)])], 99, fun s => Nat.beq s 39⟩
theorem f337hc (k : Nat) : CtxOk Try.prog (f337ctx k) := ctxOk tys_ok mixed_ok (consOk_cons (f175ok k) (consOk_cons (f178ok k) (consOk_cons (f179ok k) (consOk_cons (f264ok k) (consOk_cons (f346ok k) (consOk_cons (f347ok k) (consOk_nil)))))))
theorem f337ok (k : Nat) : FnOk Try.prog 337 (f337con (impl_tree_stats k)) :=
  let hc := f337hc k
  fnOk (fn := Try.f337) (code := bodyOf Try.f337) (res := [.cell 6 77, .tmp 7]) hc (by kernel_rfl) (by kernel_rfl) (by decide) (by kernel_rfl) (by kernel_rfl) (by kernel_rfl) (Nat.le_of_ble_eq_true (by kernel_rfl)) _
    (fun x => Snd.seq (by kernel_rfl) (Snd.seq (by kernel_rfl) (Snd.seq (by kernel_rfl) (Snd.seq (by kernel_rfl) (Snd.seq (by kernel_rfl) (Snd.cut (Snd.exec hc _ _ _ _) ⟨f337s13, fun x => impl_tree_stats.c13 k x.2.1 x.2.2.1 x.2.2.2.1 x.2.2.2.2.1 x.2.2.2.2.2⟩ (fun x => by kernel_rfl)) (Snd.seq (by kernel_rfl) (Snd.cond (x := .tmp 44) (by kernel_rfl) (Snd.seq (by kernel_rfl) (Snd.seq (by kernel_rfl) (Snd.seq (by kernel_rfl) (Snd.seq (by kernel_rfl) (Snd.seq (by kernel_rfl) (Snd.fork hc (id := 12) (by kernel_rfl) ⟨f337d12, fun x => impl_tree_stats.d12 k x.2.1 x.2.2.1 x.2.2.2.1 x.2.2.2.2.1 x.2.2.2.2.2.1 x.2.2.2.2.2.2.1 x.2.2.2.2.2.2.2⟩ [[2, 0, 1, 3, 4, 5, 6, 7], [2, 0, 3, 4, 1, 5, 6, 7], [2, 0, 3, 4, 5, 1, 6, 7], [2, 1, 0, 3, 4, 5, 6, 7], [2, 1, 3, 0, 4, 5, 6, 7], [2, 3, 0, 4, 1, 5, 6, 7], [2, 3, 0, 4, 5, 1, 6, 7]] (by kernel_rfl) (ords_cons (fun x => by kernel_rfl) (ords_cons (fun x => by kernel_rfl) (ords_cons (fun x => by kernel_rfl) (ords_cons (fun x => by kernel_rfl) (ords_cons (fun x => by kernel_rfl) (ords_cons (fun x => by kernel_rfl) (ords_cons (fun x => by kernel_rfl) (ords_nil))))))))) (Snd.exec hc _ _ _ _)) (Snd.exec hc _ _ _ _)) (Snd.exec hc _ _ _ _)) (Snd.exec hc _ _ _ _)) (Snd.exec hc _ _ _ _)) (Snd.exec hc _ _ _ _)) (Snd.exec hc _ _ _ _))) (Snd.exec hc _ _ _ _)) (Snd.exec hc _ _ _ _)) (Snd.exec hc _ _ _ _)) (Snd.exec hc _ _ _ _))
    (fun x => by kernel_rfl)

def f283i5in : SS := ⟨[(0, (.p 0)), (1, (.ro (.st (.cons (.int .i64) (.cons (.int .i64) (.cons (.int .i64) .nil)))))), (2, (.ro (.int .i64))), (3, (.p 3))], [(0, (.box (.st (.cons .ptr (.cons (.int .i64) (.cons .bool .nil)))) (.agg (.cons (.p 10) (.cons (.ro (.int .i64)) (.cons (.ro .bool) .nil)))))), (3, (.box (.st (.cons (.int .i64) (.cons (.int .i64) (.cons (.int .i64) (.cons (.int .i64) (.cons (.int .i64) (.cons (.int .i64) (.cons (.int .i64) (.cons (.int .i64) (.cons .bool (.cons (.int .i64) (.cons .bool (.cons (.st (.cons (.int .i64) (.cons .bool (.cons (.st (.cons (.int .i64) (.cons .str .nil))) (.cons (.st (.cons (.int .i64) (.cons .str .nil))) .nil))))) (.cons (.int .i64) .nil)))))))))))))) (.agg (.cons (.ro (.int .i64)) (.cons (.ro (.int .i64)) (.cons (.ro (.int .i64)) (.cons (.ro (.int .i64)) (.cons (.ro (.int .i64)) (.cons (.ro (.int .i64)) (.cons (.ro (.int .i64)) (.cons (.ro (.int .i64)) (.cons (.ro .bool) (.cons (.ro (.int .i64)) (.cons (.ro .bool) (.cons (.agg (.cons (.ro (.int .i64)) (.cons (.ro .bool) (.cons (.agg (.cons (.ro (.int .i64)) (.cons (.ro .str) .nil))) (.cons (.agg (.cons (.ro (.int .i64)) (.cons (.ro .str) .nil))) .nil))))) (.cons (.ro (.int .i64)) .nil)))))))))))))))), (10, (.box (.st (.cons (.list 170 (.st (.cons (.int .i64) (.cons (.int .i64) (.cons (.int .i64) (.cons .str (.cons (.int .i64) .nil))))))) (.cons (.list 3 (.int .i64)) .nil))) (.agg (.cons (.ro (.list 170 (.st (.cons (.int .i64) (.cons (.int .i64) (.cons (.int .i64) (.cons .str (.cons (.int .i64) .nil)))))))) (.cons (.h 11) .nil))))), (11, (.sl 3 (.int .i64)))]⟩
def f283i5out : SS := ⟨[], [(0, (.box (.st (.cons .ptr (.cons (.int .i64) (.cons .bool .nil)))) (.agg (.cons (.p 10) (.cons (.ro (.int .i64)) (.cons (.ro .bool) .nil)))))), (3, (.box (.st (.cons (.int .i64) (.cons (.int .i64) (.cons (.int .i64) (.cons (.int .i64) (.cons (.int .i64) (.cons (.int .i64) (.cons (.int .i64) (.cons (.int .i64) (.cons .bool (.cons (.int .i64) (.cons .bool (.cons (.st (.cons (.int .i64) (.cons .bool (.cons (.st (.cons (.int .i64) (.cons .str .nil))) (.cons (.st (.cons (.int .i64) (.cons .str .nil))) .nil))))) (.cons (.int .i64) .nil)))))))))))))) (.agg (.cons (.ro (.int .i64)) (.cons (.ro (.int .i64)) (.cons (.ro (.int .i64)) (.cons (.ro (.int .i64)) (.cons (.ro (.int .i64)) (.cons (.ro (.int .i64)) (.cons (.ro (.int .i64)) (.cons (.ro (.int .i64)) (.cons (.ro .bool) (.cons (.ro (.int .i64)) (.cons (.ro .bool) (.cons (.agg (.cons (.ro (.int .i64)) (.cons (.ro .bool) (.cons (.agg (.cons (.ro (.int .i64)) (.cons (.ro .str) .nil))) (.cons (.agg (.cons (.ro (.int .i64)) (.cons (.ro .str) .nil))) .nil))))) (.cons (.ro (.int .i64)) .nil)))))))))))))))), (10, (.box (.st (.cons (.list 170 (.st (.cons (.int .i64) (.cons (.int .i64) (.cons (.int .i64) (.cons .str (.cons (.int .i64) .nil))))))) (.cons (.list 3 (.int .i64)) .nil))) (.agg (.cons (.ro (.list 170 (.st (.cons (.int .i64) (.cons (.int .i64) (.cons (.int .i64) (.cons .str (.cons (.int .i64) .nil)))))))) (.cons (.h 11) .nil))))), (11, (.sl 3 (.int .i64)))]⟩
def f283i5con (F : TLeaf → Int → THeadReader → THead → TTreeB → (List Int) → Option (Unit × THeadReader × THead × TTreeB × (List Int))) : Con := ⟨f283i5in, f283i5out, 4, 0, fun x => F x.1.2.1 x.1.2.2.1 x.2.1 x.2.2.1 x.2.2.2.1 x.2.2.2.2⟩
def f283i5ctx (k : Nat) : Ctx := ⟨tyAt tys, conAt [(179, [f179con (impl_tree_find k)]), (337, [f337con (impl_tree_stats k)])], 37, fun _ => false⟩
theorem f283i5hc (k : Nat) : CtxOk Try.prog (f283i5ctx k) := ctxOk tys_ok mixed_ok (consOk_cons (f179ok k) (consOk_cons (f337ok k) (consOk_nil)))
theorem f283i5ok (k : Nat) : FnOk Try.prog 283 (f283i5con (impl_headReader_statistics k)) :=
  let hc := f283i5hc k
  fnOk (fn := Try.f283) (code := bodyOf Try.f283) (res := []) hc (by kernel_rfl) (by kernel_rfl) (by decide) (by kernel_rfl) (by kernel_rfl) (by kernel_rfl) (Nat.le_of_ble_eq_true (by kernel_rfl)) _
    (fun x => Snd.exec hc _ _ _ _)
    (fun x => by kernel_rfl)

def f180i3in : SS := ⟨[(0, (.p 0)), (1, (.ro (.st (.cons (.int .i64) (.cons (.int .i64) (.cons (.int .i64) .nil)))))), (2, (.p 2))], [(0, (.box (.st (.cons .ptr (.cons (.int .i64) (.cons .bool .nil)))) (.agg (.cons (.p 10) (.cons (.ro (.int .i64)) (.cons (.ro .bool) .nil)))))), (2, (.box (.st (.cons (.int .i64) (.cons (.int .i64) (.cons (.int .i64) (.cons (.int .i64) (.cons (.int .i64) (.cons (.int .i64) (.cons (.int .i64) (.cons (.int .i64) (.cons .bool (.cons (.int .i64) (.cons .bool (.cons (.st (.cons (.int .i64) (.cons .bool (.cons (.st (.cons (.int .i64) (.cons .str .nil))) (.cons (.st (.cons (.int .i64) (.cons .str .nil))) .nil))))) (.cons (.int .i64) .nil)))))))))))))) (.agg (.cons (.ro (.int .i64)) (.cons (.ro (.int .i64)) (.cons (.ro (.int .i64)) (.cons (.ro (.int .i64)) (.cons (.ro (.int .i64)) (.cons (.ro (.int .i64)) (.cons (.ro (.int .i64)) (.cons (.ro (.int .i64)) (.cons (.ro .bool) (.cons (.ro (.int .i64)) (.cons (.ro .bool) (.cons (.agg (.cons (.ro (.int .i64)) (.cons (.ro .bool) (.cons (.agg (.cons (.ro (.int .i64)) (.cons (.ro .str) .nil))) (.cons (.agg (.cons (.ro (.int .i64)) (.cons (.ro .str) .nil))) .nil))))) (.cons (.ro (.int .i64)) .nil)))))))))))))))), (10, (.box (.st (.cons (.list 170 (.st (.cons (.int .i64) (.cons (.int .i64) (.cons (.int .i64) (.cons .str (.cons (.int .i64) .nil))))))) (.cons (.list 3 (.int .i64)) .nil))) (.agg (.cons (.ro (.list 170 (.st (.cons (.int .i64) (.cons (.int .i64) (.cons (.int .i64) (.cons .str (.cons (.int .i64) .nil)))))))) (.cons (.h 11) .nil))))), (11, (.sl 3 (.int .i64)))]⟩
def f180i3out : SS := ⟨[], [(0, (.box (.st (.cons .ptr (.cons (.int .i64) (.cons .bool .nil)))) (.agg (.cons (.p 10) (.cons (.ro (.int .i64)) (.cons (.ro .bool) .nil)))))), (2, (.box (.st (.cons (.int .i64) (.cons (.int .i64) (.cons (.int .i64) (.cons (.int .i64) (.cons (.int .i64) (.cons (.int .i64) (.cons (.int .i64) (.cons (.int .i64) (.cons .bool (.cons (.int .i64) (.cons .bool (.cons (.st (.cons (.int .i64) (.cons .bool (.cons (.st (.cons (.int .i64) (.cons .str .nil))) (.cons (.st (.cons (.int .i64) (.cons .str .nil))) .nil))))) (.cons (.int .i64) .nil)))))))))))))) (.agg (.cons (.ro (.int .i64)) (.cons (.ro (.int .i64)) (.cons (.ro (.int .i64)) (.cons (.ro (.int .i64)) (.cons (.ro (.int .i64)) (.cons (.ro (.int .i64)) (.cons (.ro (.int .i64)) (.cons (.ro (.int .i64)) (.cons (.ro .bool) (.cons (.ro (.int .i64)) (.cons (.ro .bool) (.cons (.agg (.cons (.ro (.int .i64)) (.cons (.ro .bool) (.cons (.agg (.cons (.ro (.int .i64)) (.cons (.ro .str) .nil))) (.cons (.agg (.cons (.ro (.int .i64)) (.cons (.ro .str) .nil))) .nil))))) (.cons (.ro (.int .i64)) .nil)))))))))))))))), (10, (.box (.st (.cons (.list 170 (.st (.cons (.int .i64) (.cons (.int .i64) (.cons (.int .i64) (.cons .str (.cons (.int .i64) .nil))))))) (.cons (.list 3 (.int .i64)) .nil))) (.agg (.cons (.ro (.list 170 (.st (.cons (.int .i64) (.cons (.int .i64) (.cons (.int .i64) (.cons .str (.cons (.int .i64) .nil)))))))) (.cons (.h 11) .nil))))), (11, (.sl 3 (.int .i64)))]⟩
def f180i3s23 : SS := ⟨[(0, (.p 0)), (2, (.p 2))], [(0, (.box (.st (.cons .ptr (.cons (.int .i64) (.cons .bool .nil)))) (.agg (.cons (.p 10) (.cons (.ro (.int .i64)) (.cons (.ro .bool) .nil)))))), (2, (.box (.st (.cons (.int .i64) (.cons (.int .i64) (.cons (.int .i64) (.cons (.int .i64) (.cons (.int .i64) (.cons (.int .i64) (.cons (.int .i64) (.cons (.int .i64) (.cons .bool (.cons (.int .i64) (.cons .bool (.cons (.st (.cons (.int .i64) (.cons .bool (.cons (.st (.cons (.int .i64) (.cons .str .nil))) (.cons (.st (.cons (.int .i64) (.cons .str .nil))) .nil))))) (.cons (.int .i64) .nil)))))))))))))) (.agg (.cons (.ro (.int .i64)) (.cons (.ro (.int .i64)) (.cons (.ro (.int .i64)) (.cons (.ro (.int .i64)) (.cons (.ro (.int .i64)) (.cons (.ro (.int .i64)) (.cons (.ro (.int .i64)) (.cons (.ro (.int .i64)) (.cons (.ro .bool) (.cons (.ro (.int .i64)) (.cons (.ro .bool) (.cons (.agg (.cons (.ro (.int .i64)) (.cons (.ro .bool) (.cons (.agg (.cons (.ro (.int .i64)) (.cons (.ro .str) .nil))) (.cons (.agg (.cons (.ro (.int .i64)) (.cons (.ro .str) .nil))) .nil))))) (.cons (.ro (.int .i64)) .nil)))))))))))))))), (10, (.box (.st (.cons (.list 170 (.st (.cons (.int .i64) (.cons (.int .i64) (.cons (.int .i64) (.cons .str (.cons (.int .i64) .nil))))))) (.cons (.list 3 (.int .i64)) .nil))) (.agg (.cons (.ro (.list 170 (.st (.cons (.int .i64) (.cons (.int .i64) (.cons (.int .i64) (.cons .str (.cons (.int .i64) .nil)))))))) (.cons (.h 11) .nil))))), (11, (.sl 3 (.int .i64)))]⟩
def f180i3s8 : SS := ⟨[(0, (.p 0)), (2, (.p 2)), (4, (.p 100))], [(0, (.box (.st (.cons .ptr (.cons (.int .i64) (.cons .bool .nil)))) (.agg (.cons (.p 10) (.cons (.ro (.int .i64)) (.cons (.ro .bool) .nil)))))), (2, (.box (.st (.cons (.int .i64) (.cons (.int .i64) (.cons (.int .i64) (.cons (.int .i64) (.cons (.int .i64) (.cons (.int .i64) (.cons (.int .i64) (.cons (.int .i64) (.cons .bool (.cons (.int .i64) (.cons .bool (.cons (.st (.cons (.int .i64) (.cons .bool (.cons (.st (.cons (.int .i64) (.cons .str .nil))) (.cons (.st (.cons (.int .i64) (.cons .str .nil))) .nil))))) (.cons (.int .i64) .nil)))))))))))))) (.agg (.cons (.ro (.int .i64)) (.cons (.ro (.int .i64)) (.cons (.ro (.int .i64)) (.cons (.ro (.int .i64)) (.cons (.ro (.int .i64)) (.cons (.ro (.int .i64)) (.cons (.ro (.int .i64)) (.cons (.ro (.int .i64)) (.cons (.ro .bool) (.cons (.ro (.int .i64)) (.cons (.ro .bool) (.cons (.agg (.cons (.ro (.int .i64)) (.cons (.ro .bool) (.cons (.agg (.cons (.ro (.int .i64)) (.cons (.ro .str) .nil))) (.cons (.agg (.cons (.ro (.int .i64)) (.cons (.ro .str) .nil))) .nil))))) (.cons (.ro (.int .i64)) .nil)))))))))))))))), (10, (.box (.st (.cons (.list 170 (.st (.cons (.int .i64) (.cons (.int .i64) (.cons (.int .i64) (.cons .str (.cons (.int .i64) .nil))))))) (.cons (.list 3 (.int .i64)) .nil))) (.agg (.cons (.ro (.list 170 (.st (.cons (.int .i64) (.cons (.int .i64) (.cons (.int .i64) (.cons .str (.cons (.int .i64) .nil)))))))) (.cons (.h 11) .nil))))), (11, (.sl 3 (.int .i64))), (100, (.box (.st (.cons (.int .i64) (.cons (.int .i64) (.cons (.int .i64) .nil)))) (.agg (.cons (.ro (.int .i64)) (.cons (.ro (.int .i64)) (.cons (.ro (.int .i64)) .nil))))))]⟩
def f180i3s19 : SS := ⟨[(0, (.p 0)), (2, (.p 2)), (4, (.p 100))], [(0, (.box (.st (.cons .ptr (.cons (.int .i64) (.cons .bool .nil)))) (.agg (.cons (.p 10) (.cons (.ro (.int .i64)) (.cons (.ro .bool) .nil)))))), (2, (.box (.st (.cons (.int .i64) (.cons (.int .i64) (.cons (.int .i64) (.cons (.int .i64) (.cons (.int .i64) (.cons (.int .i64) (.cons (.int .i64) (.cons (.int .i64) (.cons .bool (.cons (.int .i64) (.cons .bool (.cons (.st (.cons (.int .i64) (.cons .bool (.cons (.st (.cons (.int .i64) (.cons .str .nil))) (.cons (.st (.cons (.int .i64) (.cons .str .nil))) .nil))))) (.cons (.int .i64) .nil)))))))))))))) (.agg (.cons (.ro (.int .i64)) (.cons (.ro (.int .i64)) (.cons (.ro (.int .i64)) (.cons (.ro (.int .i64)) (.cons (.ro (.int .i64)) (.cons (.ro (.int .i64)) (.cons (.ro (.int .i64)) (.cons (.ro (.int .i64)) (.cons (.ro .bool) (.cons (.ro (.int .i64)) (.cons (.ro .bool) (.cons (.agg (.cons (.ro (.int .i64)) (.cons (.ro .bool) (.cons (.agg (.cons (.ro (.int .i64)) (.cons (.ro .str) .nil))) (.cons (.agg (.cons (.ro (.int .i64)) (.cons (.ro .str) .nil))) .nil))))) (.cons (.ro (.int .i64)) .nil)))))))))))))))), (10, (.box (.st (.cons (.list 170 (.st (.cons (.int .i64) (.cons (.int .i64) (.cons (.int .i64) (.cons .str (.cons (.int .i64) .nil))))))) (.cons (.list 3 (.int .i64)) .nil))) (.agg (.cons (.ro (.list 170 (.st (.cons (.int .i64) (.cons (.int .i64) (.cons (.int .i64) (.cons .str (.cons (.int .i64) .nil)))))))) (.cons (.h 11) .nil))))), (11, (.sl 3 (.int .i64))), (100, (.box (.st (.cons (.int .i64) (.cons (.int .i64) (.cons (.int .i64) .nil)))) (.agg (.cons (.ro (.int .i64)) (.cons (.ro (.int .i64)) (.cons (.ro (.int .i64)) .nil))))))]⟩
def f180i3con (F : TLeaf → THeadReader → THead → TTreeB → (List Int) → Option (Unit × THeadReader × THead × TTreeB × (List Int))) : Con := ⟨f180i3in, f180i3out, 3, 0, fun x => F x.1.2.1 x.2.1 x.2.2.1 x.2.2.2.1 x.2.2.2.2⟩
def f180i3ctx (k : Nat) : Ctx := ⟨tyAt tys, conAt [(176, [f176i1con (impl_headReader_any k)]), (177, [f177i2con (impl_headReader_num k)]), (179, [f179con (impl_tree_find k)]), (282, [f282i4con (impl_headReader_enter k)]), (283, [f283i5con (impl_headReader_statistics k)])], 127, fun s => Nat.beq s 26⟩
theorem f180i3hc (k : Nat) : CtxOk Try.prog (f180i3ctx k) := ctxOk tys_ok mixed_ok (consOk_cons (f176i1ok k) (consOk_cons (f177i2ok k) (consOk_cons (f179ok k) (consOk_cons (f282i4ok k) (consOk_cons (f283i5ok k) (consOk_nil))))))
theorem f180i3ok (k : Nat) : FnOk Try.prog 180 (f180i3con (impl_headReader_own k)) :=
  let hc := f180i3hc k
  fnOk (fn := Try.f180) (code := bodyOf Try.f180) (res := []) hc (by kernel_rfl) (by kernel_rfl) (by decide) (by kernel_rfl) (by kernel_rfl) (by kernel_rfl) (Nat.le_of_ble_eq_true (by kernel_rfl)) _
    (fun x => Snd.seq (by kernel_rfl) (Snd.seq (by kernel_rfl) (Snd.cut (Snd.exec hc _ _ _ _) ⟨f180i3s23, fun x => impl_headReader_own.c23 k x.2.1 x.2.2.1 x.2.2.2.1 x.2.2.2.2⟩ (fun x => by kernel_rfl)) (Snd.seq (by kernel_rfl) (Snd.block (id := 0) (by kernel_rfl) (Snd.seq (by kernel_rfl) (Snd.cond (x := .tmp 14) (by kernel_rfl) (Snd.seq (by kernel_rfl) (Snd.seq (by kernel_rfl) (Snd.seq (by kernel_rfl) (Snd.cut (Snd.exec hc _ _ _ _) ⟨f180i3s8, fun x => impl_headReader_own.c8 k x.2.1 x.2.2.1 x.2.2.2.1 x.2.2.2.2.1 x.2.2.2.2.2⟩ (fun x => by kernel_rfl)) (Snd.exec hc _ _ _ _)) (Snd.exec hc _ _ _ _)) (Snd.exec hc _ _ _ _)) (Snd.seq (by kernel_rfl) (Snd.cond (x := .tmp 38) (by kernel_rfl) (Snd.seq (by kernel_rfl) (Snd.seq (by kernel_rfl) (Snd.seq (by kernel_rfl) (Snd.seq (by kernel_rfl) (Snd.seq (by kernel_rfl) (Snd.seq (by kernel_rfl) (Snd.seq (by kernel_rfl) (Snd.seq (by kernel_rfl) (Snd.cut (Snd.exec hc _ _ _ _) ⟨f180i3s19, fun x => impl_headReader_own.c19 k x.2.1 x.2.2.1 x.2.2.2.1 x.2.2.2.2.1 x.2.2.2.2.2⟩ (fun x => by kernel_rfl)) (Snd.exec hc _ _ _ _)) (Snd.exec hc _ _ _ _)) (Snd.exec hc _ _ _ _)) (Snd.exec hc _ _ _ _)) (Snd.exec hc _ _ _ _)) (Snd.exec hc _ _ _ _)) (Snd.exec hc _ _ _ _)) (Snd.exec hc _ _ _ _)) (Snd.exec hc _ _ _ _)) (Snd.exec hc _ _ _ _))) (Snd.exec hc _ _ _ _))) (Snd.exec hc _ _ _ _))) (Snd.exec hc _ _ _ _))
    (fun x => by kernel_rfl)

def f71in : SS := ⟨[(0, (.ro (.st (.cons (.int .i64) (.cons (.int .i64) (.cons (.int .i64) .nil)))))), (1, (.ro (.list 5 (.int .u8)))), (2, (.ro (.int .i64)))], []⟩
def f71out : SS := ⟨[(0, (.agg (.cons (.ro (.int .i64)) (.cons (.ro (.int .i64)) (.cons (.ro (.int .i64)) (.cons (.ro (.int .i64)) (.cons (.ro (.int .i64)) (.cons (.ro (.int .i64)) (.cons (.ro (.int .i64)) (.cons (.ro (.int .i64)) (.cons (.ro .bool) (.cons (.ro (.int .i64)) (.cons (.ro .bool) (.cons (.agg (.cons (.ro (.int .i64)) (.cons (.ro .bool) (.cons (.agg (.cons (.ro (.int .i64)) (.cons (.ro .str) .nil))) (.cons (.agg (.cons (.ro (.int .i64)) (.cons (.ro .str) .nil))) .nil))))) (.cons (.ro (.int .i64)) .nil))))))))))))))), (1, (.ro (.int .i64)))], []⟩
def f71d14 : SS := ⟨[(1, (.ro (.list 5 (.int .u8)))), (3, (.p 100)), (6, (.p 101)), (9, (.ro (.int .i64))), (13, (.p 102)), (14, (.p 103)), (15, (.p 104)), (16, (.ro .bool))], [(100, (.box (.st (.cons (.int .i64) (.cons (.int .i64) (.cons (.int .i64) .nil)))) (.agg (.cons (.ro (.int .i64)) (.cons (.ro (.int .i64)) (.cons (.ro (.int .i64)) .nil)))))), (101, (.box (.st (.cons (.int .i64) (.cons (.int .i64) (.cons (.int .i64) (.cons (.int .i64) (.cons (.int .i64) (.cons (.int .i64) (.cons (.int .i64) (.cons (.int .i64) (.cons .bool (.cons (.int .i64) (.cons .bool (.cons (.st (.cons (.int .i64) (.cons .bool (.cons (.st (.cons (.int .i64) (.cons .str .nil))) (.cons (.st (.cons (.int .i64) (.cons .str .nil))) .nil))))) (.cons (.int .i64) .nil)))))))))))))) (.agg (.cons (.ro (.int .i64)) (.cons (.ro (.int .i64)) (.cons (.ro (.int .i64)) (.cons (.ro (.int .i64)) (.cons (.ro (.int .i64)) (.cons (.ro (.int .i64)) (.cons (.ro (.int .i64)) (.cons (.ro (.int .i64)) (.cons (.ro .bool) (.cons (.ro (.int .i64)) (.cons (.ro .bool) (.cons (.agg (.cons (.ro (.int .i64)) (.cons (.ro .bool) (.cons (.agg (.cons (.ro (.int .i64)) (.cons (.ro .str) .nil))) (.cons (.agg (.cons (.ro (.int .i64)) (.cons (.ro .str) .nil))) .nil))))) (.cons (.ro (.int .i64)) .nil)))))))))))))))), (102, (.box (.st (.cons .ptr (.cons (.int .i64) (.cons .bool .nil)))) (.agg (.cons (.p 105) (.cons (.ro (.int .i64)) (.cons (.ro .bool) .nil)))))), (103, (.box (.st (.cons (.int .i64) (.cons (.int .i64) (.cons (.int .i64) (.cons (.int .i64) (.cons (.int .i64) (.cons (.int .i64) (.cons (.int .i64) (.cons (.int .i64) (.cons .bool (.cons (.int .i64) (.cons .bool (.cons (.st (.cons (.int .i64) (.cons .bool (.cons (.st (.cons (.int .i64) (.cons .str .nil))) (.cons (.st (.cons (.int .i64) (.cons .str .nil))) .nil))))) (.cons (.int .i64) .nil)))))))))))))) (.agg (.cons (.ro (.int .i64)) (.cons (.ro (.int .i64)) (.cons (.ro (.int .i64)) (.cons (.ro (.int .i64)) (.cons (.ro (.int .i64)) (.cons (.ro (.int .i64)) (.cons (.ro (.int .i64)) (.cons (.ro (.int .i64)) (.cons (.ro .bool) (.cons (.ro (.int .i64)) (.cons (.ro .bool) (.cons (.agg (.cons (.ro (.int .i64)) (.cons (.ro .bool) (.cons (.agg (.cons (.ro (.int .i64)) (.cons (.ro .str) .nil))) (.cons (.agg (.cons (.ro (.int .i64)) (.cons (.ro .str) .nil))) .nil))))) (.cons (.ro (.int .i64)) .nil)))))))))))))))), (104, (.box (.st (.cons (.int .i64) (.cons (.int .i64) (.cons (.int .i64) (.cons .str (.cons (.int .i64) .nil)))))) (.agg (.cons (.ro (.int .i64)) (.cons (.ro (.int .i64)) (.cons (.ro (.int .i64)) (.cons (.ro .str) (.cons (.ro (.int .i64)) .nil)))))))), (105, (.box (.st (.cons (.list 170 (.st (.cons (.int .i64) (.cons (.int .i64) (.cons (.int .i64) (.cons .str (.cons (.int .i64) .nil))))))) (.cons (.list 3 (.int .i64)) .nil))) (.agg (.cons (.ro (.list 170 (.st (.cons (.int .i64) (.cons (.int .i64) (.cons (.int .i64) (.cons .str (.cons (.int .i64) .nil)))))))) (.cons (.h 106) .nil))))), (106, (.sl 3 (.int .i64)))]⟩
def f71s14 : SS := ⟨[(1, (.ro (.list 5 (.int .u8)))), (3, (.p 100)), (6, (.p 101)), (9, (.ro (.int .i64))), (13, (.p 102)), (14, (.p 103)), (15, (.p 104)), (16, (.ro .bool))], [(100, (.box (.st (.cons (.int .i64) (.cons (.int .i64) (.cons (.int .i64) .nil)))) (.agg (.cons (.ro (.int .i64)) (.cons (.ro (.int .i64)) (.cons (.ro (.int .i64)) .nil)))))), (101, (.box (.st (.cons (.int .i64) (.cons (.int .i64) (.cons (.int .i64) (.cons (.int .i64) (.cons (.int .i64) (.cons (.int .i64) (.cons (.int .i64) (.cons (.int .i64) (.cons .bool (.cons (.int .i64) (.cons .bool (.cons (.st (.cons (.int .i64) (.cons .bool (.cons (.st (.cons (.int .i64) (.cons .str .nil))) (.cons (.st (.cons (.int .i64) (.cons .str .nil))) .nil))))) (.cons (.int .i64) .nil)))))))))))))) (.agg (.cons (.ro (.int .i64)) (.cons (.ro (.int .i64)) (.cons (.ro (.int .i64)) (.cons (.ro (.int .i64)) (.cons (.ro (.int .i64)) (.cons (.ro (.int .i64)) (.cons (.ro (.int .i64)) (.cons (.ro (.int .i64)) (.cons (.ro .bool) (.cons (.ro (.int .i64)) (.cons (.ro .bool) (.cons (.agg (.cons (.ro (.int .i64)) (.cons (.ro .bool) (.cons (.agg (.cons (.ro (.int .i64)) (.cons (.ro .str) .nil))) (.cons (.agg (.cons (.ro (.int .i64)) (.cons (.ro .str) .nil))) .nil))))) (.cons (.ro (.int .i64)) .nil)))))))))))))))), (102, (.box (.st (.cons .ptr (.cons (.int .i64) (.cons .bool .nil)))) (.agg (.cons (.p 105) (.cons (.ro (.int .i64)) (.cons (.ro .bool) .nil)))))), (103, (.box (.st (.cons (.int .i64) (.cons (.int .i64) (.cons (.int .i64) (.cons (.int .i64) (.cons (.int .i64) (.cons (.int .i64) (.cons (.int .i64) (.cons (.int .i64) (.cons .bool (.cons (.int .i64) (.cons .bool (.cons (.st (.cons (.int .i64) (.cons .bool (.cons (.st (.cons (.int .i64) (.cons .str .nil))) (.cons (.st (.cons (.int .i64) (.cons .str .nil))) .nil))))) (.cons (.int .i64) .nil)))))))))))))) (.agg (.cons (.ro (.int .i64)) (.cons (.ro (.int .i64)) (.cons (.ro (.int .i64)) (.cons (.ro (.int .i64)) (.cons (.ro (.int .i64)) (.cons (.ro (.int .i64)) (.cons (.ro (.int .i64)) (.cons (.ro (.int .i64)) (.cons (.ro .bool) (.cons (.ro (.int .i64)) (.cons (.ro .bool) (.cons (.agg (.cons (.ro (.int .i64)) (.cons (.ro .bool) (.cons (.agg (.cons (.ro (.int .i64)) (.cons (.ro .str) .nil))) (.cons (.agg (.cons (.ro (.int .i64)) (.cons (.ro .str) .nil))) .nil))))) (.cons (.ro (.int .i64)) .nil)))))))))))))))), (104, (.box (.st (.cons (.int .i64) (.cons (.int .i64) (.cons (.int .i64) (.cons .str (.cons (.int .i64) .nil)))))) (.agg (.cons (.ro (.int .i64)) (.cons (.ro (.int .i64)) (.cons (.ro (.int .i64)) (.cons (.ro .str) (.cons (.ro (.int .i64)) .nil)))))))), (105, (.box (.st (.cons (.list 170 (.st (.cons (.int .i64) (.cons (.int .i64) (.cons (.int .i64) (.cons .str (.cons (.int .i64) .nil))))))) (.cons (.list 3 (.int .i64)) .nil))) (.agg (.cons (.ro (.list 170 (.st (.cons (.int .i64) (.cons (.int .i64) (.cons (.int .i64) (.cons .str (.cons (.int .i64) .nil)))))))) (.cons (.h 106) .nil))))), (106, (.sl 3 (.int .i64)))]⟩
def f71s11 : SS := ⟨[(1, (.ro (.list 5 (.int .u8)))), (3, (.p 100)), (6, (.p 101)), (9, (.ro (.int .i64))), (11, (.p 102)), (13, (.p 103)), (14, (.p 104))], [(100, (.box (.st (.cons (.int .i64) (.cons (.int .i64) (.cons (.int .i64) .nil)))) (.agg (.cons (.ro (.int .i64)) (.cons (.ro (.int .i64)) (.cons (.ro (.int .i64)) .nil)))))), (101, (.box (.st (.cons (.int .i64) (.cons (.int .i64) (.cons (.int .i64) (.cons (.int .i64) (.cons (.int .i64) (.cons (.int .i64) (.cons (.int .i64) (.cons (.int .i64) (.cons .bool (.cons (.int .i64) (.cons .bool (.cons (.st (.cons (.int .i64) (.cons .bool (.cons (.st (.cons (.int .i64) (.cons .str .nil))) (.cons (.st (.cons (.int .i64) (.cons .str .nil))) .nil))))) (.cons (.int .i64) .nil)))))))))))))) (.agg (.cons (.ro (.int .i64)) (.cons (.ro (.int .i64)) (.cons (.ro (.int .i64)) (.cons (.ro (.int .i64)) (.cons (.ro (.int .i64)) (.cons (.ro (.int .i64)) (.cons (.ro (.int .i64)) (.cons (.ro (.int .i64)) (.cons (.ro .bool) (.cons (.ro (.int .i64)) (.cons (.ro .bool) (.cons (.agg (.cons (.ro (.int .i64)) (.cons (.ro .bool) (.cons (.agg (.cons (.ro (.int .i64)) (.cons (.ro .str) .nil))) (.cons (.agg (.cons (.ro (.int .i64)) (.cons (.ro .str) .nil))) .nil))))) (.cons (.ro (.int .i64)) .nil)))))))))))))))), (102, (.box (.st (.cons (.list 170 (.st (.cons (.int .i64) (.cons (.int .i64) (.cons (.int .i64) (.cons .str (.cons (.int .i64) .nil))))))) (.cons (.list 3 (.int .i64)) .nil))) (.agg (.cons (.ro (.list 170 (.st (.cons (.int .i64) (.cons (.int .i64) (.cons (.int .i64) (.cons .str (.cons (.int .i64) .nil)))))))) (.cons (.h 105) .nil))))), (103, (.box (.st (.cons .ptr (.cons (.int .i64) (.cons .bool .nil)))) (.agg (.cons (.p 102) (.cons (.ro (.int .i64)) (.cons (.ro .bool) .nil)))))), (104, (.box (.st (.cons (.int .i64) (.cons (.int .i64) (.cons (.int .i64) (.cons (.int .i64) (.cons (.int .i64) (.cons (.int .i64) (.cons (.int .i64) (.cons (.int .i64) (.cons .bool (.cons (.int .i64) (.cons .bool (.cons (.st (.cons (.int .i64) (.cons .bool (.cons (.st (.cons (.int .i64) (.cons .str .nil))) (.cons (.st (.cons (.int .i64) (.cons .str .nil))) .nil))))) (.cons (.int .i64) .nil)))))))))))))) (.agg (.cons (.ro (.int .i64)) (.cons (.ro (.int .i64)) (.cons (.ro (.int .i64)) (.cons (.ro (.int .i64)) (.cons (.ro (.int .i64)) (.cons (.ro (.int .i64)) (.cons (.ro (.int .i64)) (.cons (.ro (.int .i64)) (.cons (.ro .bool) (.cons (.ro (.int .i64)) (.cons (.ro .bool) (.cons (.agg (.cons (.ro (.int .i64)) (.cons (.ro .bool) (.cons (.agg (.cons (.ro (.int .i64)) (.cons (.ro .str) .nil))) (.cons (.agg (.cons (.ro (.int .i64)) (.cons (.ro .str) .nil))) .nil))))) (.cons (.ro (.int .i64)) .nil)))))))))))))))), (105, (.sl 3 (.int .i64)))]⟩
def f71d9 : SS := ⟨[(1, (.ro (.list 5 (.int .u8)))), (3, (.p 100)), (6, (.p 101)), (9, (.ro (.int .i64))), (11, (.p 102)), (13, (.p 103)), (14, (.p 104))], [(100, (.box (.st (.cons (.int .i64) (.cons (.int .i64) (.cons (.int .i64) .nil)))) (.agg (.cons (.ro (.int .i64)) (.cons (.ro (.int .i64)) (.cons (.ro (.int .i64)) .nil)))))), (101, (.box (.st (.cons (.int .i64) (.cons (.int .i64) (.cons (.int .i64) (.cons (.int .i64) (.cons (.int .i64) (.cons (.int .i64) (.cons (.int .i64) (.cons (.int .i64) (.cons .bool (.cons (.int .i64) (.cons .bool (.cons (.st (.cons (.int .i64) (.cons .bool (.cons (.st (.cons (.int .i64) (.cons .str .nil))) (.cons (.st (.cons (.int .i64) (.cons .str .nil))) .nil))))) (.cons (.int .i64) .nil)))))))))))))) (.agg (.cons (.ro (.int .i64)) (.cons (.ro (.int .i64)) (.cons (.ro (.int .i64)) (.cons (.ro (.int .i64)) (.cons (.ro (.int .i64)) (.cons (.ro (.int .i64)) (.cons (.ro (.int .i64)) (.cons (.ro (.int .i64)) (.cons (.ro .bool) (.cons (.ro (.int .i64)) (.cons (.ro .bool) (.cons (.agg (.cons (.ro (.int .i64)) (.cons (.ro .bool) (.cons (.agg (.cons (.ro (.int .i64)) (.cons (.ro .str) .nil))) (.cons (.agg (.cons (.ro (.int .i64)) (.cons (.ro .str) .nil))) .nil))))) (.cons (.ro (.int .i64)) .nil)))))))))))))))), (102, (.box (.st (.cons (.list 170 (.st (.cons (.int .i64) (.cons (.int .i64) (.cons (.int .i64) (.cons .str (.cons (.int .i64) .nil))))))) (.cons (.list 3 (.int .i64)) .nil))) (.agg (.cons (.ro (.list 170 (.st (.cons (.int .i64) (.cons (.int .i64) (.cons (.int .i64) (.cons .str (.cons (.int .i64) .nil)))))))) (.cons (.h 105) .nil))))), (103, (.box (.st (.cons .ptr (.cons (.int .i64) (.cons .bool .nil)))) (.agg (.cons (.p 102) (.cons (.ro (.int .i64)) (.cons (.ro .bool) .nil)))))), (104, (.box (.st (.cons (.int .i64) (.cons (.int .i64) (.cons (.int .i64) (.cons (.int .i64) (.cons (.int .i64) (.cons (.int .i64) (.cons (.int .i64) (.cons (.int .i64) (.cons .bool (.cons (.int .i64) (.cons .bool (.cons (.st (.cons (.int .i64) (.cons .bool (.cons (.st (.cons (.int .i64) (.cons .str .nil))) (.cons (.st (.cons (.int .i64) (.cons .str .nil))) .nil))))) (.cons (.int .i64) .nil)))))))))))))) (.agg (.cons (.ro (.int .i64)) (.cons (.ro (.int .i64)) (.cons (.ro (.int .i64)) (.cons (.ro (.int .i64)) (.cons (.ro (.int .i64)) (.cons (.ro (.int .i64)) (.cons (.ro (.int .i64)) (.cons (.ro (.int .i64)) (.cons (.ro .bool) (.cons (.ro (.int .i64)) (.cons (.ro .bool) (.cons (.agg (.cons (.ro (.int .i64)) (.cons (.ro .bool) (.cons (.agg (.cons (.ro (.int .i64)) (.cons (.ro .str) .nil))) (.cons (.agg (.cons (.ro (.int .i64)) (.cons (.ro .str) .nil))) .nil))))) (.cons (.ro (.int .i64)) .nil)))))))))))))))), (105, (.sl 3 (.int .i64)))]⟩
def f71con (F : TLeaf → (List Int) → Int → Option (THead × Int)) : Con := ⟨f71in, f71out, 3, 2, fun x => F x.1 x.2.1 x.2.2⟩
def f71ctx (k : Nat) : Ctx := ⟨tyAt tys, conAt [(31, [f31con (impl_TreeRead k)]), (113, [f113con (impl_treeOf k)]), (175, [f175con (impl_LeafOk k)]), (176, [f176i1con (impl_headReader_any k)]), (177, [f177i2con (impl_headReader_num k)]), (178, [f178con (impl_tree_part k)]), (179, [f179con (impl_tree_find k)]), (180, [f180i3con (impl_headReader_own k)])], 100, fun _ => false⟩
theorem f71hc (k : Nat) : CtxOk Try.prog (f71ctx k) := ctxOk tys_ok mixed_ok (consOk_cons (f31ok k) (consOk_cons (f113ok k) (consOk_cons (f175ok k) (consOk_cons (f176i1ok k) (consOk_cons (f177i2ok k) (consOk_cons (f178ok k) (consOk_cons (f179ok k) (consOk_cons (f180i3ok k) (consOk_nil)))))))))
theorem f71ok (k : Nat) : FnOk Try.prog 71 (f71con (impl_HeadRead k)) :=
  let hc := f71hc k
  fnOk (fn := Try.f71) (code := bodyOf Try.f71) (res := [.cell 6 114, .tmp 7]) hc (by kernel_rfl) (by kernel_rfl) (by decide) (by kernel_rfl) (by kernel_rfl) (by kernel_rfl) (Nat.le_of_ble_eq_true (by kernel_rfl)) _
    (fun x => Snd.seq (by kernel_rfl) (Snd.seq (by kernel_rfl) (Snd.seq (by kernel_rfl) (Snd.seq (by kernel_rfl) (Snd.seq (by kernel_rfl) (Snd.seq (by kernel_rfl) (Snd.seq (by kernel_rfl) (Snd.seq (by kernel_rfl) (Snd.seq (by kernel_rfl) (Snd.cut (Snd.seq (by kernel_rfl) (Snd.seq (by kernel_rfl) (Snd.cut (Snd.seq (by kernel_rfl) (Snd.exec hc _ _ _ _) (Snd.fork hc (id := 14) (by kernel_rfl) ⟨f71d14, fun x => impl_HeadRead.d14 k x.1.1 x.1.2.2.2.1 x.1.2.2.2.2.2.2.2 x.2.1 x.2.2.1 x.2.2.2.1 x.2.2.2.2.1 x.2.2.2.2.2.1 x.2.2.2.2.2.2.1 x.2.2.2.2.2.2.2⟩ [[0, 1, 4, 2, 3, 5, 6, 7], [0, 1, 4, 5, 2, 3, 6, 7]] (by kernel_rfl) (ords_cons (fun x => by kernel_rfl) (ords_cons (fun x => by kernel_rfl) (ords_nil))))) ⟨f71s14, fun x => impl_HeadRead.c14 k x.1.1 x.1.2.2.2.1 x.1.2.2.2.2.2.2.2 x.2.1 x.2.2.1 x.2.2.2.1 x.2.2.2.2.1 x.2.2.2.2.2.1 x.2.2.2.2.2.2.1 x.2.2.2.2.2.2.2⟩ (fun x => by kernel_rfl)) (Snd.exec hc _ _ _ _)) (Snd.exec hc _ _ _ _)) ⟨f71s11, fun x => impl_HeadRead.c11 k x.1.1 x.1.2.2.2.1 x.2.1 x.2.2.1 x.2.2.2.1 x.2.2.2.2.1 x.2.2.2.2.2.1 x.2.2.2.2.2.2⟩ (fun x => by kernel_rfl)) (Snd.seq (by kernel_rfl) (Snd.exec hc _ _ _ _) (Snd.fork hc (id := 9) (by kernel_rfl) ⟨f71d9, fun x => impl_HeadRead.d9 k x.1.1 x.1.2.2.2.1 x.2.1 x.2.2.1 x.2.2.2.1 x.2.2.2.2.1 x.2.2.2.2.2.1 x.2.2.2.2.2.2⟩ [[0, 2, 1, 3, 4], [0, 2, 3, 1, 4]] (by kernel_rfl) (ords_cons (fun x => by kernel_rfl) (ords_cons (fun x => by kernel_rfl) (ords_nil)))))) (Snd.exec hc _ _ _ _)) (Snd.exec hc _ _ _ _)) (Snd.exec hc _ _ _ _)) (Snd.exec hc _ _ _ _)) (Snd.exec hc _ _ _ _)) (Snd.exec hc _ _ _ _)) (Snd.exec hc _ _ _ _)) (Snd.exec hc _ _ _ _))
    (fun x => by kernel_rfl)

def f136in : SS := ⟨[(0, (.ro (.st (.cons (.int .i64) (.cons .str .nil))))), (1, (.ro (.st (.cons (.int .i64) (.cons .str .nil)))))], []⟩
def f136out : SS := ⟨[(0, (.ro .bool))], []⟩
def f136con (F : TVal → TVal → Option Bool) : Con := ⟨f136in, f136out, 2, 1, fun x => F x.1 x.2⟩
def f136ctx (k : Nat) : Ctx := ⟨tyAt tys, conAt [], 15, fun _ => false⟩
theorem f136hc (k : Nat) : CtxOk Try.prog (f136ctx k) := ctxOk tys_ok mixed_ok (consOk_nil)
theorem f136ok (k : Nat) : FnOk Try.prog 136 (f136con (laws_eqVal k)) :=
  let hc := f136hc k
  fnOk (fn := Try.f136) (code := bodyOf Try.f136) (res := [.tmp 4]) hc (by kernel_rfl) (by kernel_rfl) (by decide) (by kernel_rfl) (by kernel_rfl) (by kernel_rfl) (Nat.le_of_ble_eq_true (by kernel_rfl)) _
    (fun x => Snd.exec hc _ _ _ _)
    (fun x => by kernel_rfl)

def f181in : SS := ⟨[(0, (.ro (.st (.cons (.int .i64) (.cons .bool (.cons (.st (.cons (.int .i64) (.cons .str .nil))) (.cons (.st (.cons (.int .i64) (.cons .str .nil))) .nil))))))), (1, (.ro (.st (.cons (.int .i64) (.cons .bool (.cons (.st (.cons (.int .i64) (.cons .str .nil))) (.cons (.st (.cons (.int .i64) (.cons .str .nil))) .nil)))))))], []⟩
def f181out : SS := ⟨[(0, (.ro .bool))], []⟩
def f181con (F : TStats → TStats → Option Bool) : Con := ⟨f181in, f181out, 2, 1, fun x => F x.1 x.2⟩
def f181ctx (k : Nat) : Ctx := ⟨tyAt tys, conAt [(136, [f136con (laws_eqVal k)])], 27, fun _ => false⟩
theorem f181hc (k : Nat) : CtxOk Try.prog (f181ctx k) := ctxOk tys_ok mixed_ok (consOk_cons (f136ok k) (consOk_nil))
theorem f181ok (k : Nat) : FnOk Try.prog 181 (f181con (laws_eqStats k)) :=
  let hc := f181hc k
  fnOk (fn := Try.f181) (code := bodyOf Try.f181) (res := [.tmp 4]) hc (by kernel_rfl) (by kernel_rfl) (by decide) (by kernel_rfl) (by kernel_rfl) (by kernel_rfl) (Nat.le_of_ble_eq_true (by kernel_rfl)) _
    (fun x => Snd.exec hc _ _ _ _)
    (fun x => by kernel_rfl)

def f72in : SS := ⟨[(0, (.ro (.st (.cons (.int .i64) (.cons (.int .i64) (.cons (.int .i64) (.cons (.int .i64) (.cons (.int .i64) (.cons (.int .i64) (.cons (.int .i64) (.cons (.int .i64) (.cons .bool (.cons (.int .i64) (.cons .bool (.cons (.st (.cons (.int .i64) (.cons .bool (.cons (.st (.cons (.int .i64) (.cons .str .nil))) (.cons (.st (.cons (.int .i64) (.cons .str .nil))) .nil))))) (.cons (.int .i64) .nil)))))))))))))))), (1, (.ro (.st (.cons (.int .i64) (.cons (.int .i64) (.cons (.int .i64) (.cons (.int .i64) (.cons (.int .i64) (.cons (.int .i64) (.cons (.int .i64) (.cons (.int .i64) (.cons .bool (.cons (.int .i64) (.cons .bool (.cons (.st (.cons (.int .i64) (.cons .bool (.cons (.st (.cons (.int .i64) (.cons .str .nil))) (.cons (.st (.cons (.int .i64) (.cons .str .nil))) .nil))))) (.cons (.int .i64) .nil))))))))))))))))], []⟩
def f72out : SS := ⟨[(0, (.ro .bool))], []⟩
def f72con (F : THead → THead → Option Bool) : Con := ⟨f72in, f72out, 2, 1, fun x => F x.1 x.2⟩
def f72ctx (k : Nat) : Ctx := ⟨tyAt tys, conAt [(181, [f181con (laws_eqStats k)])], 71, fun _ => false⟩
theorem f72hc (k : Nat) : CtxOk Try.prog (f72ctx k) := ctxOk tys_ok mixed_ok (consOk_cons (f181ok k) (consOk_nil))
theorem f72ok (k : Nat) : FnOk Try.prog 72 (f72con (laws_eqHead k)) :=
  let hc := f72hc k
  fnOk (fn := Try.f72) (code := bodyOf Try.f72) (res := [.tmp 4]) hc (by kernel_rfl) (by kernel_rfl) (by decide) (by kernel_rfl) (by kernel_rfl) (by kernel_rfl) (Nat.le_of_ble_eq_true (by kernel_rfl)) _
    (fun x => Snd.exec hc _ _ _ _)
    (fun x => by kernel_rfl)

def f12in : SS := ⟨[(0, (.ro (.st (.cons (.int .i64) (.cons (.int .i64) (.cons (.int .i64) .nil)))))), (1, (.ro (.list 5 (.int .u8)))), (2, (.ro (.int .i64)))], []⟩
def f12out : SS := ⟨[(0, (.ro .bool))], []⟩
def f12con (F : TLeaf → (List Int) → Int → Option Bool) : Con := ⟨f12in, f12out, 3, 1, fun x => F x.1 x.2.1 x.2.2⟩
def f12ctx (k : Nat) : Ctx := ⟨tyAt tys, conAt [(46, [f46con (laws_toByteS k)]), (50, [f50con (laws_eqByteS k)]), (69, [f69con (spec_HeadRead k)]), (70, [f70con (laws_toLeaf k)]), (71, [f71con (impl_HeadRead k)]), (72, [f72con (laws_eqHead k)])], 48, fun _ => false⟩
theorem f12hc (k : Nat) : CtxOk Try.prog (f12ctx k) := ctxOk tys_ok mixed_ok (consOk_cons (f46ok k) (consOk_cons (f50ok k) (consOk_cons (f69ok k) (consOk_cons (f70ok k) (consOk_cons (f71ok k) (consOk_cons (f72ok k) (consOk_nil)))))))
theorem f12ok (k : Nat) : FnOk Try.prog 12 (f12con (laws_FnExactHeadRead k)) :=
  let hc := f12hc k
  fnOk (fn := Try.f12) (code := bodyOf Try.f12) (res := [.tmp 6]) hc (by kernel_rfl) (by kernel_rfl) (by decide) (by kernel_rfl) (by kernel_rfl) (by kernel_rfl) (Nat.le_of_ble_eq_true (by kernel_rfl)) _
    (fun x => Snd.exec hc _ _ _ _)
    (fun x => by kernel_rfl)

end Go.Proofs.Ytbmgddnjdcagpaa
