/- The walks, printed by program. -/
import Derived.Test.YtbmgddnjdcagpaaBase
import Derived.Test.YtbmgddnjdcagpaaEFLF0
set_option linter.unusedVariables false
set_option maxRecDepth 100000
namespace Go.Proofs.Ytbmgddnjdcagpaa
open Go.Am Go.Fn

def f46in : SS := ⟨[(0, (.ro (.list 5 (.int .u8))))], []⟩
def f46out : SS := ⟨[(0, (.h 100))], [(100, (.sl 5 (.int .u8)))]⟩
def f46s3 : SS := ⟨[(0, (.ro (.list 5 (.int .u8)))), (3, (.h 100)), (4, (.ro (.int .i64)))], [(100, (.sl 5 (.int .u8)))]⟩
def f46con (F : (List Int) → Option (Unit × (List Int))) : Con := ⟨f46in, f46out, 1, 1, fun x => F x⟩
def f46ctx (k : Nat) : Ctx := ⟨tyAt tys, conAt [], 22, fun _ => false⟩
theorem f46hc (k : Nat) : CtxOk Try.prog (f46ctx k) := ctxOk tys_ok mixed_ok (consOk_nil)
theorem f46ok (k : Nat) : FnOk Try.prog 46 (f46con (laws_toByteS k)) :=
  let hc := f46hc k
  fnOk (fn := Try.f46) (code := bodyOf Try.f46) (res := [.tmp 2]) hc (by kernel_rfl) (by kernel_rfl) (by decide) (by kernel_rfl) (by kernel_rfl) (by kernel_rfl) (Nat.le_of_ble_eq_true (by kernel_rfl)) _
    (fun x => Snd.seq (by kernel_rfl) (Snd.seq (by kernel_rfl) (Snd.seq (by kernel_rfl) (Snd.exec hc _ _ _ _) (Snd.seq (by kernel_rfl) (Snd.block (id := 0) (by kernel_rfl) (Snd.loop' (by kernel_rfl) f46s3 (fun n x => laws_toByteS.l3 k n x.1.1 x.1.2.2 x.2) _ (fun _ => rfl) (fun n3 => Snd.exec hc _ _ _ _) (fun n x => by kernel_rfl) k)) (Snd.exec hc _ _ _ _))) (Snd.exec hc _ _ _ _)) (Snd.exec hc _ _ _ _))
    (fun x => by kernel_rfl)

def f50in : SS := ⟨[(0, (.ro (.list 5 (.int .u8)))), (1, (.ro (.list 5 (.int .u8))))], []⟩
def f50out : SS := ⟨[(0, (.ro .bool))], []⟩
def f50s4 : SS := ⟨[(0, (.ro (.list 5 (.int .u8)))), (1, (.ro (.list 5 (.int .u8)))), (5, (.ro (.int .i64)))], []⟩
def f50con (F : (List Int) → (List Int) → Option Bool) : Con := ⟨f50in, f50out, 2, 1, fun x => F x.1 x.2⟩
def f50ctx (k : Nat) : Ctx := ⟨tyAt tys, conAt [], 26, fun _ => false⟩
theorem f50hc (k : Nat) : CtxOk Try.prog (f50ctx k) := ctxOk tys_ok mixed_ok (consOk_nil)
theorem f50ok (k : Nat) : FnOk Try.prog 50 (f50con (laws_eqByteS k)) :=
  let hc := f50hc k
  fnOk (fn := Try.f50) (code := bodyOf Try.f50) (res := [.tmp 4]) hc (by kernel_rfl) (by kernel_rfl) (by decide) (by kernel_rfl) (by kernel_rfl) (by kernel_rfl) (Nat.le_of_ble_eq_true (by kernel_rfl)) _
    (fun x => Snd.seq (by kernel_rfl) (Snd.seq (by kernel_rfl) (Snd.seq (by kernel_rfl) (Snd.exec hc _ _ _ _) (Snd.seq (by kernel_rfl) (Snd.block (id := 0) (by kernel_rfl) (Snd.loop' (by kernel_rfl) f50s4 (fun n x => laws_eqByteS.l4 k n x.1 x.2.1 x.2.2) _ (fun _ => rfl) (fun n4 => Snd.exec hc _ _ _ _) (fun n x => by kernel_rfl) k)) (Snd.exec hc _ _ _ _))) (Snd.exec hc _ _ _ _)) (Snd.exec hc _ _ _ _))
    (fun x => by kernel_rfl)

def f101in : SS := ⟨[(0, (.ro (.int .i64))), (1, (.ro (.int .i64))), (2, (.ro (.int .i64)))], []⟩
def f101out : SS := ⟨[(0, (.ro .bool))], []⟩
def f101con (F : Int → Int → Int → Option Bool) : Con := ⟨f101in, f101out, 3, 1, fun x => F x.1 x.2.1 x.2.2⟩
def f101ctx (k : Nat) : Ctx := ⟨tyAt tys, conAt [], 15, fun _ => false⟩
theorem f101hc (k : Nat) : CtxOk Try.prog (f101ctx k) := ctxOk tys_ok mixed_ok (consOk_nil)
theorem f101ok (k : Nat) : FnOk Try.prog 101 (f101con (spec_l1In k)) :=
  let hc := f101hc k
  fnOk (fn := Try.f101) (code := bodyOf Try.f101) (res := [.tmp 6]) hc (by kernel_rfl) (by kernel_rfl) (by decide) (by kernel_rfl) (by kernel_rfl) (by kernel_rfl) (Nat.le_of_ble_eq_true (by kernel_rfl)) _
    (fun x => Snd.exec hc _ _ _ _)
    (fun x => by kernel_rfl)

def f236in : SS := ⟨[(0, (.ro (.list 5 (.int .u8)))), (1, (.ro (.int .i64))), (2, (.ro (.int .i64)))], []⟩
def f236out : SS := ⟨[(0, (.ro (.int .i64))), (1, (.ro (.int .i64))), (2, (.ro .bool))], []⟩
def f236s5 : SS := ⟨[(0, (.ro (.list 5 (.int .u8)))), (1, (.ro (.int .i64))), (2, (.ro (.int .i64))), (9, (.ro (.int .i64))), (10, (.ro (.int .i64)))], []⟩
def f236con (F : (List Int) → Int → Int → Option (Int × Int × Bool)) : Con := ⟨f236in, f236out, 3, 3, fun x => F x.1 x.2.1 x.2.2⟩
def f236ctx (k : Nat) : Ctx := ⟨tyAt tys, conAt [(101, [f101con (spec_l1In k)])], 53, fun _ => false⟩
theorem f236hc (k : Nat) : CtxOk Try.prog (f236ctx k) := ctxOk tys_ok mixed_ok (consOk_cons (f101ok k) (consOk_nil))
theorem f236ok (k : Nat) : FnOk Try.prog 236 (f236con (spec_WordGet k)) :=
  let hc := f236hc k
  fnOk (fn := Try.f236) (code := bodyOf Try.f236) (res := [.tmp 6, .tmp 7, .tmp 8]) hc (by kernel_rfl) (by kernel_rfl) (by decide) (by kernel_rfl) (by kernel_rfl) (by kernel_rfl) (Nat.le_of_ble_eq_true (by kernel_rfl)) _
    (fun x => Snd.seq (by kernel_rfl) (Snd.seq (by kernel_rfl) (Snd.seq (by kernel_rfl) (Snd.seq (by kernel_rfl) (Snd.exec hc _ _ _ _) (Snd.seq (by kernel_rfl) (Snd.block (id := 0) (by kernel_rfl) (Snd.loop' (by kernel_rfl) f236s5 (fun n x => spec_WordGet.l5 k n x.1 x.2.1 x.2.2.1 x.2.2.2.1 x.2.2.2.2) _ (fun _ => rfl) (fun n5 => Snd.exec hc _ _ _ _) (fun n x => by kernel_rfl) k)) (Snd.exec hc _ _ _ _))) (Snd.exec hc _ _ _ _)) (Snd.exec hc _ _ _ _)) (Snd.exec hc _ _ _ _))
    (fun x => by kernel_rfl)

def f306in : SS := ⟨[(0, (.ro (.list 5 (.int .u8)))), (1, (.ro (.int .i64)))], []⟩
def f306out : SS := ⟨[(0, (.ro (.int .i64))), (1, (.ro (.int .i64))), (2, (.ro .bool))], []⟩
def f306s5 : SS := ⟨[(0, (.ro (.list 5 (.int .u8)))), (1, (.ro (.int .i64))), (7, (.ro (.int .i64))), (8, (.ro (.int .i64)))], []⟩
def f306con (F : (List Int) → Int → Option (Int × Int × Bool)) : Con := ⟨f306in, f306out, 2, 3, fun x => F x.1 x.2⟩
def f306ctx (k : Nat) : Ctx := ⟨tyAt tys, conAt [], 57, fun _ => false⟩
theorem f306hc (k : Nat) : CtxOk Try.prog (f306ctx k) := ctxOk tys_ok mixed_ok (consOk_nil)
theorem f306ok (k : Nat) : FnOk Try.prog 306 (f306con (spec_UvarGet k)) :=
  let hc := f306hc k
  fnOk (fn := Try.f306) (code := bodyOf Try.f306) (res := [.tmp 4, .tmp 5, .tmp 6]) hc (by kernel_rfl) (by kernel_rfl) (by decide) (by kernel_rfl) (by kernel_rfl) (by kernel_rfl) (Nat.le_of_ble_eq_true (by kernel_rfl)) _
    (fun x => Snd.seq (by kernel_rfl) (Snd.seq (by kernel_rfl) (Snd.seq (by kernel_rfl) (Snd.seq (by kernel_rfl) (Snd.exec hc _ _ _ _) (Snd.seq (by kernel_rfl) (Snd.block (id := 0) (by kernel_rfl) (Snd.loop' (by kernel_rfl) f306s5 (fun n x => spec_UvarGet.l5 k n x.1 x.2.1 x.2.2.1 x.2.2.2) _ (fun _ => rfl) (fun n5 => Snd.exec hc _ _ _ _) (fun n x => by kernel_rfl) k)) (Snd.exec hc _ _ _ _))) (Snd.exec hc _ _ _ _)) (Snd.exec hc _ _ _ _)) (Snd.exec hc _ _ _ _))
    (fun x => by kernel_rfl)

def f316in : SS := ⟨[(0, (.ro (.int .i64))), (1, (.ro (.int .i64)))], []⟩
def f316out : SS := ⟨[(0, (.ro (.int .i64)))], []⟩
def f316con (F : Int → Int → Option Int) : Con := ⟨f316in, f316out, 2, 1, fun x => F x.1 x.2⟩
def f316ctx (k : Nat) : Ctx := ⟨tyAt tys, conAt [], 16, fun _ => false⟩
theorem f316hc (k : Nat) : CtxOk Try.prog (f316ctx k) := ctxOk tys_ok mixed_ok (consOk_nil)
theorem f316ok (k : Nat) : FnOk Try.prog 316 (f316con (spec_l2Down k)) :=
  let hc := f316hc k
  fnOk (fn := Try.f316) (code := bodyOf Try.f316) (res := [.tmp 4]) hc (by kernel_rfl) (by kernel_rfl) (by decide) (by kernel_rfl) (by kernel_rfl) (by kernel_rfl) (Nat.le_of_ble_eq_true (by kernel_rfl)) _
    (fun x => Snd.exec hc _ _ _ _)
    (fun x => by kernel_rfl)

def f307in : SS := ⟨[(0, (.ro (.int .i64)))], []⟩
def f307out : SS := ⟨[(0, (.ro (.int .i64)))], []⟩
def f307con (F : Int → Option Int) : Con := ⟨f307in, f307out, 1, 1, fun x => F x⟩
def f307ctx (k : Nat) : Ctx := ⟨tyAt tys, conAt [(316, [f316con (spec_l2Down k)])], 11, fun _ => false⟩
theorem f307hc (k : Nat) : CtxOk Try.prog (f307ctx k) := ctxOk tys_ok mixed_ok (consOk_cons (f316ok k) (consOk_nil))
theorem f307ok (k : Nat) : FnOk Try.prog 307 (f307con (spec_Zag k)) :=
  let hc := f307hc k
  fnOk (fn := Try.f307) (code := bodyOf Try.f307) (res := [.tmp 2]) hc (by kernel_rfl) (by kernel_rfl) (by decide) (by kernel_rfl) (by kernel_rfl) (by kernel_rfl) (Nat.le_of_ble_eq_true (by kernel_rfl)) _
    (fun x => Snd.exec hc _ _ _ _)
    (fun x => by kernel_rfl)

def f216in : SS := ⟨[(0, (.ro (.list 5 (.int .u8)))), (1, (.ro (.int .i64)))], []⟩
def f216out : SS := ⟨[(0, (.ro (.int .i64))), (1, (.ro (.int .i64))), (2, (.ro .bool))], []⟩
def f216con (F : (List Int) → Int → Option (Int × Int × Bool)) : Con := ⟨f216in, f216out, 2, 3, fun x => F x.1 x.2⟩
def f216ctx (k : Nat) : Ctx := ⟨tyAt tys, conAt [(306, [f306con (spec_UvarGet k)]), (307, [f307con (spec_Zag k)])], 22, fun _ => false⟩
theorem f216hc (k : Nat) : CtxOk Try.prog (f216ctx k) := ctxOk tys_ok mixed_ok (consOk_cons (f306ok k) (consOk_cons (f307ok k) (consOk_nil)))
theorem f216ok (k : Nat) : FnOk Try.prog 216 (f216con (spec_ZigGet k)) :=
  let hc := f216hc k
  fnOk (fn := Try.f216) (code := bodyOf Try.f216) (res := [.tmp 4, .tmp 5, .tmp 6]) hc (by kernel_rfl) (by kernel_rfl) (by decide) (by kernel_rfl) (by kernel_rfl) (by kernel_rfl) (Nat.le_of_ble_eq_true (by kernel_rfl)) _
    (fun x => Snd.exec hc _ _ _ _)
    (fun x => by kernel_rfl)

def f217in : SS := ⟨[(0, (.ro (.int .i64)))], []⟩
def f217out : SS := ⟨[(0, (.ro .bool))], []⟩
def f217con (F : Int → Option Bool) : Con := ⟨f217in, f217out, 1, 1, fun x => F x⟩
def f217ctx (k : Nat) : Ctx := ⟨tyAt tys, conAt [(101, [f101con (spec_l1In k)])], 5, fun _ => false⟩
theorem f217hc (k : Nat) : CtxOk Try.prog (f217ctx k) := ctxOk tys_ok mixed_ok (consOk_cons (f101ok k) (consOk_nil))
theorem f217ok (k : Nat) : FnOk Try.prog 217 (f217con (spec_l4Int k)) :=
  let hc := f217hc k
  fnOk (fn := Try.f217) (code := bodyOf Try.f217) (res := [.tmp 2]) hc (by kernel_rfl) (by kernel_rfl) (by decide) (by kernel_rfl) (by kernel_rfl) (by kernel_rfl) (Nat.le_of_ble_eq_true (by kernel_rfl)) _
    (fun x => Snd.exec hc _ _ _ _)
    (fun x => by kernel_rfl)

def f218in : SS := ⟨[(0, (.ro (.list 5 (.int .u8)))), (1, (.ro (.int .i64)))], []⟩
def f218out : SS := ⟨[(0, (.ro .str)), (1, (.ro (.int .i64))), (2, (.ro (.int .i64)))], []⟩
def f218con (F : (List Int) → Int → Option (ByteArray × Int × Int)) : Con := ⟨f218in, f218out, 2, 3, fun x => F x.1 x.2⟩
def f218ctx (k : Nat) : Ctx := ⟨tyAt tys, conAt [(306, [f306con (spec_UvarGet k)])], 44, fun _ => false⟩
theorem f218hc (k : Nat) : CtxOk Try.prog (f218ctx k) := ctxOk tys_ok mixed_ok (consOk_cons (f306ok k) (consOk_nil))
theorem f218ok (k : Nat) : FnOk Try.prog 218 (f218con (spec_l4Text k)) :=
  let hc := f218hc k
  fnOk (fn := Try.f218) (code := bodyOf Try.f218) (res := [.tmp 4, .tmp 5, .tmp 6]) hc (by kernel_rfl) (by kernel_rfl) (by decide) (by kernel_rfl) (by kernel_rfl) (by kernel_rfl) (Nat.le_of_ble_eq_true (by kernel_rfl)) _
    (fun x => Snd.exec hc _ _ _ _)
    (fun x => by kernel_rfl)

def f309in : SS := ⟨[(0, (.ro (.int .i64)))], []⟩
def f309out : SS := ⟨[(0, (.ro .bool))], []⟩
def f309s9 : SS := ⟨[(4, (.ro .bool))], []⟩
def f309con (F : Int → Option Bool) : Con := ⟨f309in, f309out, 1, 1, fun x => F x⟩
def f309ctx (k : Nat) : Ctx := ⟨tyAt tys, conAt [], 12, fun _ => false⟩
theorem f309hc (k : Nat) : CtxOk Try.prog (f309ctx k) := ctxOk tys_ok mixed_ok (consOk_nil)
theorem f309ok (k : Nat) : FnOk Try.prog 309 (f309con (spec_l4Kind k)) :=
  let hc := f309hc k
  fnOk (fn := Try.f309) (code := bodyOf Try.f309) (res := [.tmp 2]) hc (by kernel_rfl) (by kernel_rfl) (by decide) (by kernel_rfl) (by kernel_rfl) (by kernel_rfl) (Nat.le_of_ble_eq_true (by kernel_rfl)) _
    (fun x => Snd.seq (by kernel_rfl) (Snd.seq (by kernel_rfl) (Snd.exec hc _ _ _ _) (Snd.seq (by kernel_rfl) (Snd.block (id := 0) (by kernel_rfl) (Snd.seq (by kernel_rfl) (Snd.cut (Snd.exec hc _ _ _ _) ⟨f309s9, fun x => spec_l4Kind.c9 k x⟩ (fun x => by kernel_rfl)) (Snd.exec hc _ _ _ _))) (Snd.exec hc _ _ _ _))) (Snd.exec hc _ _ _ _))
    (fun x => by kernel_rfl)

def f308in : SS := ⟨[(0, (.ro (.int .i64)))], []⟩
def f308out : SS := ⟨[(0, (.ro .bool))], []⟩
def f308con (F : Int → Option Bool) : Con := ⟨f308in, f308out, 1, 1, fun x => F x⟩
def f308ctx (k : Nat) : Ctx := ⟨tyAt tys, conAt [(309, [f309con (spec_l4Kind k)])], 13, fun _ => false⟩
theorem f308hc (k : Nat) : CtxOk Try.prog (f308ctx k) := ctxOk tys_ok mixed_ok (consOk_cons (f309ok k) (consOk_nil))
theorem f308ok (k : Nat) : FnOk Try.prog 308 (f308con (spec_l4Item k)) :=
  let hc := f308hc k
  fnOk (fn := Try.f308) (code := bodyOf Try.f308) (res := [.tmp 2]) hc (by kernel_rfl) (by kernel_rfl) (by decide) (by kernel_rfl) (by kernel_rfl) (by kernel_rfl) (Nat.le_of_ble_eq_true (by kernel_rfl)) _
    (fun x => Snd.exec hc _ _ _ _)
    (fun x => by kernel_rfl)

def f219in : SS := ⟨[(0, (.ro (.list 5 (.int .u8)))), (1, (.ro (.int .i64)))], []⟩
def f219out : SS := ⟨[(0, (.ro (.int .i64))), (1, (.ro (.int .i64))), (2, (.ro (.int .i64))), (3, (.ro (.int .i64)))], []⟩
def f219s11 : SS := ⟨[(1, (.ro (.int .i64))), (8, (.ro (.int .i64))), (9, (.ro (.int .i64)))], []⟩
def f219con (F : (List Int) → Int → Option (Int × Int × Int × Int)) : Con := ⟨f219in, f219out, 2, 4, fun x => F x.1 x.2⟩
def f219ctx (k : Nat) : Ctx := ⟨tyAt tys, conAt [(306, [f306con (spec_UvarGet k)]), (308, [f308con (spec_l4Item k)])], 62, fun _ => false⟩
theorem f219hc (k : Nat) : CtxOk Try.prog (f219ctx k) := ctxOk tys_ok mixed_ok (consOk_cons (f306ok k) (consOk_cons (f308ok k) (consOk_nil)))
theorem f219ok (k : Nat) : FnOk Try.prog 219 (f219con (spec_l4Many k)) :=
  let hc := f219hc k
  fnOk (fn := Try.f219) (code := bodyOf Try.f219) (res := [.tmp 4, .tmp 5, .tmp 6, .tmp 7]) hc (by kernel_rfl) (by kernel_rfl) (by decide) (by kernel_rfl) (by kernel_rfl) (by kernel_rfl) (Nat.le_of_ble_eq_true (by kernel_rfl)) _
    (fun x => Snd.seq (by kernel_rfl) (Snd.seq (by kernel_rfl) (Snd.seq (by kernel_rfl) (Snd.seq (by kernel_rfl) (Snd.seq (by kernel_rfl) (Snd.cut (Snd.exec hc _ _ _ _) ⟨f219s11, fun x => spec_l4Many.c11 k x.1 x.2.1 x.2.2⟩ (fun x => by kernel_rfl)) (Snd.exec hc _ _ _ _)) (Snd.exec hc _ _ _ _)) (Snd.exec hc _ _ _ _)) (Snd.exec hc _ _ _ _)) (Snd.exec hc _ _ _ _))
    (fun x => by kernel_rfl)

def f220in : SS := ⟨[(0, (.ro (.list 5 (.int .u8)))), (1, (.ro (.int .i64))), (2, (.ro (.int .i64)))], []⟩
def f220out : SS := ⟨[(0, (.ro (.int .i64))), (1, (.ro (.int .i64))), (2, (.ro (.int .i64))), (3, (.ro (.int .i64)))], []⟩
def f220s16 : SS := ⟨[(1, (.ro (.int .i64))), (2, (.ro (.int .i64))), (10, (.ro (.int .i64))), (12, (.ro (.int .i64)))], []⟩
def f220con (F : (List Int) → Int → Int → Option (Int × Int × Int × Int)) : Con := ⟨f220in, f220out, 3, 4, fun x => F x.1 x.2.1 x.2.2⟩
def f220ctx (k : Nat) : Ctx := ⟨tyAt tys, conAt [(101, [f101con (spec_l1In k)]), (216, [f216con (spec_ZigGet k)]), (309, [f309con (spec_l4Kind k)])], 71, fun _ => false⟩
theorem f220hc (k : Nat) : CtxOk Try.prog (f220ctx k) := ctxOk tys_ok mixed_ok (consOk_cons (f101ok k) (consOk_cons (f216ok k) (consOk_cons (f309ok k) (consOk_nil))))
theorem f220ok (k : Nat) : FnOk Try.prog 220 (f220con (spec_l4Head k)) :=
  let hc := f220hc k
  fnOk (fn := Try.f220) (code := bodyOf Try.f220) (res := [.tmp 6, .tmp 7, .tmp 8, .tmp 9]) hc (by kernel_rfl) (by kernel_rfl) (by decide) (by kernel_rfl) (by kernel_rfl) (by kernel_rfl) (Nat.le_of_ble_eq_true (by kernel_rfl)) _
    (fun x => Snd.seq (by kernel_rfl) (Snd.seq (by kernel_rfl) (Snd.seq (by kernel_rfl) (Snd.seq (by kernel_rfl) (Snd.seq (by kernel_rfl) (Snd.seq (by kernel_rfl) (Snd.seq (by kernel_rfl) (Snd.seq (by kernel_rfl) (Snd.cut (Snd.exec hc _ _ _ _) ⟨f220s16, fun x => spec_l4Head.c16 k x.1 x.2.1 x.2.2.1 x.2.2.2⟩ (fun x => by kernel_rfl)) (Snd.exec hc _ _ _ _)) (Snd.exec hc _ _ _ _)) (Snd.exec hc _ _ _ _)) (Snd.exec hc _ _ _ _)) (Snd.exec hc _ _ _ _)) (Snd.exec hc _ _ _ _)) (Snd.exec hc _ _ _ _)) (Snd.exec hc _ _ _ _))
    (fun x => by kernel_rfl)

def f112in : SS := ⟨[(0, (.ro (.list 5 (.int .u8)))), (1, (.ro (.int .i64))), (2, (.ro (.int .i64))), (3, (.ro (.int .i64))), (4, (.ro (.int .i64))), (5, (.h 10))], [(10, (.sl 170 (.st (.cons (.int .i64) (.cons (.int .i64) (.cons (.int .i64) (.cons .str (.cons (.int .i64) .nil))))))))]⟩
def f112out : SS := ⟨[(0, (.h 100)), (1, (.ro (.int .i64))), (2, (.ro (.int .i64)))], [(100, (.sl 170 (.st (.cons (.int .i64) (.cons (.int .i64) (.cons (.int .i64) (.cons .str (.cons (.int .i64) .nil))))))))]⟩
def f112s24 : SS := ⟨[(0, (.ro (.list 5 (.int .u8)))), (4, (.ro (.int .i64))), (5, (.h 100)), (22, (.ro (.int .i64))), (23, (.ro (.int .i64))), (24, (.ro (.int .i64))), (25, (.ro (.int .i64))), (26, (.ro (.int .i64)))], [(100, (.sl 170 (.st (.cons (.int .i64) (.cons (.int .i64) (.cons (.int .i64) (.cons .str (.cons (.int .i64) .nil))))))))]⟩
def f112s30 : SS := ⟨[(0, (.ro (.list 5 (.int .u8)))), (1, (.ro (.int .i64))), (4, (.ro (.int .i64))), (5, (.h 100)), (15, (.ro (.int .i64))), (27, (.ro (.int .i64))), (28, (.ro (.int .i64)))], [(100, (.sl 170 (.st (.cons (.int .i64) (.cons (.int .i64) (.cons (.int .i64) (.cons .str (.cons (.int .i64) .nil))))))))]⟩
def f112s8 : SS := ⟨[(0, (.ro (.list 5 (.int .u8)))), (1, (.ro (.int .i64))), (2, (.ro (.int .i64))), (4, (.ro (.int .i64))), (5, (.h 100)), (15, (.ro (.int .i64))), (49, (.ro (.int .i64))), (50, (.ro .bool))], [(100, (.sl 170 (.st (.cons (.int .i64) (.cons (.int .i64) (.cons (.int .i64) (.cons .str (.cons (.int .i64) .nil))))))))]⟩
def f112con (F : (List Int) → Int → Int → Int → Int → (List TNode) → Option ((Unit × Int × Int) × (List TNode))) : Con := ⟨f112in, f112out, 6, 3, fun x => F x.1.1 x.1.2.1 x.1.2.2.1 x.1.2.2.2.1 x.1.2.2.2.2.1 x.2⟩
def f112ctx (k : Nat) (S112 : (List Int) → Int → Int → Int → Int → (List TNode) → Option ((Unit × Int × Int) × (List TNode))) : Ctx := ⟨tyAt tys, conAt [(112, [f112con S112]), (216, [f216con (spec_ZigGet k)]), (217, [f217con (spec_l4Int k)]), (218, [f218con (spec_l4Text k)]), (219, [f219con (spec_l4Many k)]), (220, [f220con (spec_l4Head k)])], 183, fun _ => false⟩
theorem f112hc (k : Nat) (S112 : (List Int) → Int → Int → Int → Int → (List TNode) → Option ((Unit × Int × Int) × (List TNode))) (h112 : FnOk Try.prog 112 (f112con S112)) : CtxOk Try.prog (f112ctx k S112) := ctxOk tys_ok mixed_ok (consOk_cons (h112) (consOk_cons (f216ok k) (consOk_cons (f217ok k) (consOk_cons (f218ok k) (consOk_cons (f219ok k) (consOk_cons (f220ok k) (consOk_nil)))))))
theorem f112okb (k : Nat) (S112 : (List Int) → Int → Int → Int → Int → (List TNode) → Option ((Unit × Int × Int) × (List TNode))) (h112 : FnOk Try.prog 112 (f112con S112)) : FnOk Try.prog 112 (f112con (spec_l4Read.b k S112)) :=
  let hc := f112hc k S112 h112
  fnOk (fn := Try.f112) (code := bodyOf Try.f112) (res := [.tmp 12, .tmp 13, .tmp 14]) hc (by kernel_rfl) (by kernel_rfl) (by decide) (by kernel_rfl) (by kernel_rfl) (by kernel_rfl) (Nat.le_of_ble_eq_true (by kernel_rfl)) _
    (fun x => Snd.seq (by kernel_rfl) (Snd.seq (by kernel_rfl) (Snd.seq (by kernel_rfl) (Snd.seq (by kernel_rfl) (Snd.seq (by kernel_rfl) (Snd.exec hc _ _ _ _) (Snd.seq (by kernel_rfl) (Snd.block (id := 0) (by kernel_rfl) (Snd.seq (by kernel_rfl) (Snd.cut (Snd.cond (x := .tmp 50) (by kernel_rfl) (Snd.exec hc _ _ _ _) (Snd.seq (by kernel_rfl) (Snd.cond (x := .tmp 78) (by kernel_rfl) (Snd.exec hc _ _ _ _) (Snd.seq (by kernel_rfl) (Snd.cond (x := .tmp 95) (by kernel_rfl) (Snd.seq (by kernel_rfl) (Snd.seq (by kernel_rfl) (Snd.seq (by kernel_rfl) (Snd.seq (by kernel_rfl) (Snd.exec hc _ _ _ _) (Snd.seq (by kernel_rfl) (Snd.block (id := 1) (by kernel_rfl) (Snd.loop' (by kernel_rfl) f112s24 (fun n x => spec_l4Read.l24 k S112 n x.1.1 x.1.2.1 x.1.2.2.2.1 x.1.2.2.2.2.1 x.1.2.2.2.2.2.1 x.1.2.2.2.2.2.2.1 x.1.2.2.2.2.2.2.2 x.2) _ (fun _ => rfl) (fun n24 => Snd.exec hc _ _ _ _) (fun n x => by kernel_rfl) k)) (Snd.exec hc _ _ _ _))) (Snd.exec hc _ _ _ _)) (Snd.exec hc _ _ _ _)) (Snd.exec hc _ _ _ _)) (Snd.seq (by kernel_rfl) (Snd.cond (x := .tmp 138) (by kernel_rfl) (Snd.seq (by kernel_rfl) (Snd.block (id := 3) (by kernel_rfl) (Snd.loop' (by kernel_rfl) f112s30 (fun n x => spec_l4Read.l30 k S112 n x.1.1 x.1.2.1 x.1.2.2.1 x.1.2.2.2.2.1 x.1.2.2.2.2.2.1 x.1.2.2.2.2.2.2 x.2) _ (fun _ => rfl) (fun n30 => Snd.exec hc _ _ _ _) (fun n x => by kernel_rfl) k)) (Snd.exec hc _ _ _ _)) (Snd.exec hc _ _ _ _)) (Snd.exec hc _ _ _ _))) (Snd.exec hc _ _ _ _))) (Snd.exec hc _ _ _ _))) ⟨f112s8, fun x => spec_l4Read.c8 k S112 x.1.1 x.1.2.1 x.1.2.2.1 x.1.2.2.2.1 x.1.2.2.2.2.2.1 x.1.2.2.2.2.2.2.1 x.1.2.2.2.2.2.2.2 x.2⟩ (fun x => by kernel_rfl)) (Snd.exec hc _ _ _ _))) (Snd.exec hc _ _ _ _))) (Snd.exec hc _ _ _ _)) (Snd.exec hc _ _ _ _)) (Snd.exec hc _ _ _ _)) (Snd.exec hc _ _ _ _))
    (fun x => by kernel_rfl)
theorem f112rec (k : Nat) : ∀ d, FnOk Try.prog 112 (f112con (spec_l4Read.d k d))
  | 0 => FnOk_none (fun _ => rfl)
  | d + 1 => let ih := f112rec k d
    f112okb k (spec_l4Read.d k d) ih
theorem f112ok (k : Nat) : FnOk Try.prog 112 (f112con (spec_l4Read k)) := (f112rec k k)

def f32in : SS := ⟨[(0, (.ro (.list 5 (.int .u8)))), (1, (.ro (.int .i64)))], []⟩
def f32out : SS := ⟨[(0, (.h 100)), (1, (.ro (.int .i64))), (2, (.ro (.int .i64)))], [(100, (.sl 170 (.st (.cons (.int .i64) (.cons (.int .i64) (.cons (.int .i64) (.cons .str (.cons (.int .i64) .nil))))))))]⟩
def f32con (F : (List Int) → Int → Option ((Unit × Int × Int) × (List TNode))) : Con := ⟨f32in, f32out, 2, 3, fun x => F x.1 x.2⟩
def f32ctx (k : Nat) : Ctx := ⟨tyAt tys, conAt [(112, [f112con (spec_l4Read k)])], 34, fun _ => false⟩
theorem f32hc (k : Nat) : CtxOk Try.prog (f32ctx k) := ctxOk tys_ok mixed_ok (consOk_cons (f112ok k) (consOk_nil))
theorem f32ok (k : Nat) : FnOk Try.prog 32 (f32con (spec_TreeRead k)) :=
  let hc := f32hc k
  fnOk (fn := Try.f32) (code := bodyOf Try.f32) (res := [.tmp 4, .tmp 5, .tmp 6]) hc (by kernel_rfl) (by kernel_rfl) (by decide) (by kernel_rfl) (by kernel_rfl) (by kernel_rfl) (Nat.le_of_ble_eq_true (by kernel_rfl)) _
    (fun x => Snd.exec hc _ _ _ _)
    (fun x => by kernel_rfl)

def f86in : SS := ⟨[(0, (.ro (.list 174 (.st (.cons .str (.cons (.int .i64) (.cons (.int .i64) (.cons (.int .i64) .nil))))))))], []⟩
def f86out : SS := ⟨[(0, (.h 100))], [(100, (.sl 3 (.int .i64)))]⟩
def f86s4 : SS := ⟨[(0, (.ro (.list 174 (.st (.cons .str (.cons (.int .i64) (.cons (.int .i64) (.cons (.int .i64) .nil)))))))), (3, (.h 100)), (4, (.ro (.int .i64)))], [(100, (.sl 3 (.int .i64)))]⟩
def f86s3 : SS := ⟨[(0, (.ro (.list 174 (.st (.cons .str (.cons (.int .i64) (.cons (.int .i64) (.cons (.int .i64) .nil)))))))), (3, (.h 100)), (4, (.ro (.int .i64)))], [(100, (.sl 3 (.int .i64)))]⟩
def f86con (F : (List TCol) → Option (Unit × (List Int))) : Con := ⟨f86in, f86out, 1, 1, fun x => F x⟩
def f86ctx (k : Nat) : Ctx := ⟨tyAt tys, conAt [], 23, fun _ => false⟩
theorem f86hc (k : Nat) : CtxOk Try.prog (f86ctx k) := ctxOk tys_ok mixed_ok (consOk_nil)
theorem f86ok (k : Nat) : FnOk Try.prog 86 (f86con (spec_l5Leaves k)) :=
  let hc := f86hc k
  fnOk (fn := Try.f86) (code := bodyOf Try.f86) (res := [.tmp 2]) hc (by kernel_rfl) (by kernel_rfl) (by decide) (by kernel_rfl) (by kernel_rfl) (by kernel_rfl) (Nat.le_of_ble_eq_true (by kernel_rfl)) _
    (fun x => Snd.seq (by kernel_rfl) (Snd.seq (by kernel_rfl) (Snd.seq (by kernel_rfl) (Snd.exec hc _ _ _ _) (Snd.seq (by kernel_rfl) (Snd.block (id := 0) (by kernel_rfl) (Snd.loop' (by kernel_rfl) f86s3 (fun n x => spec_l5Leaves.l3 k n x.1.1 x.1.2.2 x.2) _ (fun _ => rfl) (fun n3 => Snd.seq (by kernel_rfl) (Snd.seq (by kernel_rfl) (Snd.cut (Snd.exec hc _ _ _ _) ⟨f86s4, fun x => spec_l5Leaves.c4 k (spec_l5Leaves.l3 k n3) x.1.1 x.1.2.2 x.2⟩ (fun x => by kernel_rfl)) (Snd.exec hc _ _ _ _)) (Snd.exec hc _ _ _ _)) (fun n x => by kernel_rfl) k)) (Snd.exec hc _ _ _ _))) (Snd.exec hc _ _ _ _)) (Snd.exec hc _ _ _ _))
    (fun x => by kernel_rfl)

def f329in : SS := ⟨[(0, (.ro (.st (.cons (.int .i64) (.cons (.int .i64) (.cons (.int .i64) (.cons .str (.cons (.int .i64) .nil))))))))], []⟩
def f329out : SS := ⟨[(0, (.ro .bool))], []⟩
def f329s4 : SS := ⟨[(1, (.p 100)), (4, (.ro (.int .i64))), (5, (.ro .bool))], [(100, (.box (.st (.cons (.int .i64) (.cons (.int .i64) (.cons (.int .i64) (.cons .str (.cons (.int .i64) .nil)))))) (.agg (.cons (.ro (.int .i64)) (.cons (.ro (.int .i64)) (.cons (.ro (.int .i64)) (.cons (.ro .str) (.cons (.ro (.int .i64)) .nil))))))))]⟩
def f329con (F : TNode → Option Bool) : Con := ⟨f329in, f329out, 1, 1, fun x => F x⟩
def f329ctx (k : Nat) : Ctx := ⟨tyAt tys, conAt [(217, [f217con (spec_l4Int k)]), (308, [f308con (spec_l4Item k)])], 107, fun _ => false⟩
theorem f329hc (k : Nat) : CtxOk Try.prog (f329ctx k) := ctxOk tys_ok mixed_ok (consOk_cons (f217ok k) (consOk_cons (f308ok k) (consOk_nil)))
theorem f329ok (k : Nat) : FnOk Try.prog 329 (f329con (spec_l4Plain k)) :=
  let hc := f329hc k
  fnOk (fn := Try.f329) (code := bodyOf Try.f329) (res := [.tmp 2]) hc (by kernel_rfl) (by kernel_rfl) (by decide) (by kernel_rfl) (by kernel_rfl) (by kernel_rfl) (Nat.le_of_ble_eq_true (by kernel_rfl)) _
    (fun x => Snd.seq (by kernel_rfl) (Snd.seq (by kernel_rfl) (Snd.exec hc _ _ _ _) (Snd.seq (by kernel_rfl) (Snd.block (id := 0) (by kernel_rfl) (Snd.seq (by kernel_rfl) (Snd.cut (Snd.exec hc _ _ _ _) ⟨f329s4, fun x => spec_l4Plain.c4 k x.1.2.1 x.1.2.2 x.2⟩ (fun x => by kernel_rfl)) (Snd.exec hc _ _ _ _))) (Snd.exec hc _ _ _ _))) (Snd.exec hc _ _ _ _))
    (fun x => by kernel_rfl)

def f257in : SS := ⟨[(0, (.ro (.list 170 (.st (.cons (.int .i64) (.cons (.int .i64) (.cons (.int .i64) (.cons .str (.cons (.int .i64) .nil))))))))), (1, (.ro (.int .i64))), (2, (.ro (.int .i64)))], []⟩
def f257out : SS := ⟨[(0, (.ro (.int .i64)))], []⟩
def f257s7 : SS := ⟨[(0, (.ro (.list 170 (.st (.cons (.int .i64) (.cons (.int .i64) (.cons (.int .i64) (.cons .str (.cons (.int .i64) .nil))))))))), (2, (.ro (.int .i64))), (7, (.p 100)), (8, (.ro (.int .i64))), (9, (.ro (.int .i64))), (10, (.ro (.int .i64)))], [(100, (.box (.st (.cons (.int .i64) (.cons (.int .i64) (.cons (.int .i64) (.cons .str (.cons (.int .i64) .nil)))))) (.agg (.cons (.ro (.int .i64)) (.cons (.ro (.int .i64)) (.cons (.ro (.int .i64)) (.cons (.ro .str) (.cons (.ro (.int .i64)) .nil))))))))]⟩
def f257con (F : (List TNode) → Int → Int → Option Int) : Con := ⟨f257in, f257out, 3, 1, fun x => F x.1 x.2.1 x.2.2⟩
def f257ctx (k : Nat) (S257 : (List TNode) → Int → Int → Option Int) : Ctx := ⟨tyAt tys, conAt [(257, [f257con S257]), (329, [f329con (spec_l4Plain k)])], 89, fun _ => false⟩
theorem f257hc (k : Nat) (S257 : (List TNode) → Int → Int → Option Int) (h257 : FnOk Try.prog 257 (f257con S257)) : CtxOk Try.prog (f257ctx k S257) := ctxOk tys_ok mixed_ok (consOk_cons (h257) (consOk_cons (f329ok k) (consOk_nil)))
theorem f257okb (k : Nat) (S257 : (List TNode) → Int → Int → Option Int) (h257 : FnOk Try.prog 257 (f257con S257)) : FnOk Try.prog 257 (f257con (spec_l4Check.b k S257)) :=
  let hc := f257hc k S257 h257
  fnOk (fn := Try.f257) (code := bodyOf Try.f257) (res := [.tmp 6]) hc (by kernel_rfl) (by kernel_rfl) (by decide) (by kernel_rfl) (by kernel_rfl) (by kernel_rfl) (Nat.le_of_ble_eq_true (by kernel_rfl)) _
    (fun x => Snd.seq (by kernel_rfl) (Snd.seq (by kernel_rfl) (Snd.seq (by kernel_rfl) (Snd.seq (by kernel_rfl) (Snd.seq (by kernel_rfl) (Snd.seq (by kernel_rfl) (Snd.exec hc _ _ _ _) (Snd.seq (by kernel_rfl) (Snd.block (id := 0) (by kernel_rfl) (Snd.loop' (by kernel_rfl) f257s7 (fun n x => spec_l4Check.l7 k S257 n x.1.1 x.1.2.1 x.1.2.2.2.1 x.1.2.2.2.2.1 x.1.2.2.2.2.2 x.2) _ (fun _ => rfl) (fun n7 => Snd.exec hc _ _ _ _) (fun n x => by kernel_rfl) k)) (Snd.exec hc _ _ _ _))) (Snd.exec hc _ _ _ _)) (Snd.exec hc _ _ _ _)) (Snd.exec hc _ _ _ _)) (Snd.exec hc _ _ _ _)) (Snd.exec hc _ _ _ _))
    (fun x => by kernel_rfl)
theorem f257rec (k : Nat) : ∀ d, FnOk Try.prog 257 (f257con (spec_l4Check.d k d))
  | 0 => FnOk_none (fun _ => rfl)
  | d + 1 => let ih := f257rec k d
    f257okb k (spec_l4Check.d k d) ih
theorem f257ok (k : Nat) : FnOk Try.prog 257 (f257con (spec_l4Check k)) := (f257rec k k)

def f139in : SS := ⟨[(0, (.ro (.list 170 (.st (.cons (.int .i64) (.cons (.int .i64) (.cons (.int .i64) (.cons .str (.cons (.int .i64) .nil)))))))))], []⟩
def f139out : SS := ⟨[(0, (.ro .bool))], []⟩
def f139con (F : (List TNode) → Option Bool) : Con := ⟨f139in, f139out, 1, 1, fun x => F x⟩
def f139ctx (k : Nat) : Ctx := ⟨tyAt tys, conAt [(101, [f101con (spec_l1In k)]), (257, [f257con (spec_l4Check k)])], 26, fun _ => false⟩
theorem f139hc (k : Nat) : CtxOk Try.prog (f139ctx k) := ctxOk tys_ok mixed_ok (consOk_cons (f101ok k) (consOk_cons (f257ok k) (consOk_nil)))
theorem f139ok (k : Nat) : FnOk Try.prog 139 (f139con (spec_TreeOk k)) :=
  let hc := f139hc k
  fnOk (fn := Try.f139) (code := bodyOf Try.f139) (res := [.tmp 2]) hc (by kernel_rfl) (by kernel_rfl) (by decide) (by kernel_rfl) (by kernel_rfl) (by kernel_rfl) (Nat.le_of_ble_eq_true (by kernel_rfl)) _
    (fun x => Snd.exec hc _ _ _ _)
    (fun x => by kernel_rfl)

def f233in : SS := ⟨[(0, (.ro (.int .i64)))], []⟩
def f233out : SS := ⟨[(0, (.ro .bool))], []⟩
def f233s7 : SS := ⟨[(4, (.ro .bool))], []⟩
def f233con (F : Int → Option Bool) : Con := ⟨f233in, f233out, 1, 1, fun x => F x⟩
def f233ctx (k : Nat) : Ctx := ⟨tyAt tys, conAt [], 10, fun _ => false⟩
theorem f233hc (k : Nat) : CtxOk Try.prog (f233ctx k) := ctxOk tys_ok mixed_ok (consOk_nil)
theorem f233ok (k : Nat) : FnOk Try.prog 233 (f233con (spec_l5Type k)) :=
  let hc := f233hc k
  fnOk (fn := Try.f233) (code := bodyOf Try.f233) (res := [.tmp 2]) hc (by kernel_rfl) (by kernel_rfl) (by decide) (by kernel_rfl) (by kernel_rfl) (by kernel_rfl) (Nat.le_of_ble_eq_true (by kernel_rfl)) _
    (fun x => Snd.seq (by kernel_rfl) (Snd.seq (by kernel_rfl) (Snd.exec hc _ _ _ _) (Snd.seq (by kernel_rfl) (Snd.block (id := 0) (by kernel_rfl) (Snd.seq (by kernel_rfl) (Snd.cut (Snd.exec hc _ _ _ _) ⟨f233s7, fun x => spec_l5Type.c7 k x⟩ (fun x => by kernel_rfl)) (Snd.exec hc _ _ _ _))) (Snd.exec hc _ _ _ _))) (Snd.exec hc _ _ _ _))
    (fun x => by kernel_rfl)

def f288in : SS := ⟨[(0, (.ro .str))], []⟩
def f288out : SS := ⟨[(0, (.ro .bool))], []⟩
def f288s4 : SS := ⟨[(0, (.ro .str)), (3, (.ro (.int .i64)))], []⟩
def f288con (F : ByteArray → Option Bool) : Con := ⟨f288in, f288out, 1, 1, fun x => F x⟩
def f288ctx (k : Nat) : Ctx := ⟨tyAt tys, conAt [(101, [f101con (spec_l1In k)])], 24, fun _ => false⟩
theorem f288hc (k : Nat) : CtxOk Try.prog (f288ctx k) := ctxOk tys_ok mixed_ok (consOk_cons (f101ok k) (consOk_nil))
theorem f288ok (k : Nat) : FnOk Try.prog 288 (f288con (spec_l5Name k)) :=
  let hc := f288hc k
  fnOk (fn := Try.f288) (code := bodyOf Try.f288) (res := [.tmp 2]) hc (by kernel_rfl) (by kernel_rfl) (by decide) (by kernel_rfl) (by kernel_rfl) (by kernel_rfl) (Nat.le_of_ble_eq_true (by kernel_rfl)) _
    (fun x => Snd.seq (by kernel_rfl) (Snd.seq (by kernel_rfl) (Snd.seq (by kernel_rfl) (Snd.exec hc _ _ _ _) (Snd.seq (by kernel_rfl) (Snd.block (id := 0) (by kernel_rfl) (Snd.loop' (by kernel_rfl) f288s4 (fun n x => spec_l5Name.l4 k n x.1 x.2) _ (fun _ => rfl) (fun n4 => Snd.exec hc _ _ _ _) (fun n x => by kernel_rfl) k)) (Snd.exec hc _ _ _ _))) (Snd.exec hc _ _ _ _)) (Snd.exec hc _ _ _ _))
    (fun x => by kernel_rfl)

def f186in : SS := ⟨[(0, (.ro (.list 174 (.st (.cons .str (.cons (.int .i64) (.cons (.int .i64) (.cons (.int .i64) .nil)))))))), (1, (.ro (.int .i64))), (2, (.ro (.int .i64)))], []⟩
def f186out : SS := ⟨[(0, (.ro (.int .i64)))], []⟩
def f186s20 : SS := ⟨[(0, (.ro (.list 174 (.st (.cons .str (.cons (.int .i64) (.cons (.int .i64) (.cons (.int .i64) .nil)))))))), (2, (.ro (.int .i64))), (7, (.p 100)), (8, (.ro (.int .i64))), (9, (.h 101)), (10, (.ro (.int .i64))), (11, (.ro (.int .i64)))], [(100, (.box (.st (.cons .str (.cons (.int .i64) (.cons (.int .i64) (.cons (.int .i64) .nil))))) (.agg (.cons (.ro .str) (.cons (.ro (.int .i64)) (.cons (.ro (.int .i64)) (.cons (.ro (.int .i64)) .nil))))))), (101, (.sl 9 .str))]⟩
def f186s15 : SS := ⟨[(0, (.ro (.list 174 (.st (.cons .str (.cons (.int .i64) (.cons (.int .i64) (.cons (.int .i64) .nil)))))))), (2, (.ro (.int .i64))), (7, (.p 100)), (8, (.ro (.int .i64))), (9, (.h 101)), (10, (.ro (.int .i64)))], [(100, (.box (.st (.cons .str (.cons (.int .i64) (.cons (.int .i64) (.cons (.int .i64) .nil))))) (.agg (.cons (.ro .str) (.cons (.ro (.int .i64)) (.cons (.ro (.int .i64)) (.cons (.ro (.int .i64)) .nil))))))), (101, (.sl 9 .str))]⟩
def f186con (F : (List TCol) → Int → Int → Option Int) : Con := ⟨f186in, f186out, 3, 1, fun x => F x.1 x.2.1 x.2.2⟩
def f186ctx (k : Nat) (S186 : (List TCol) → Int → Int → Option Int) : Ctx := ⟨tyAt tys, conAt [(101, [f101con (spec_l1In k)]), (186, [f186con S186]), (233, [f233con (spec_l5Type k)]), (288, [f288con (spec_l5Name k)])], 119, fun _ => false⟩
theorem f186hc (k : Nat) (S186 : (List TCol) → Int → Int → Option Int) (h186 : FnOk Try.prog 186 (f186con S186)) : CtxOk Try.prog (f186ctx k S186) := ctxOk tys_ok mixed_ok (consOk_cons (f101ok k) (consOk_cons (h186) (consOk_cons (f233ok k) (consOk_cons (f288ok k) (consOk_nil)))))
theorem f186okb (k : Nat) (S186 : (List TCol) → Int → Int → Option Int) (h186 : FnOk Try.prog 186 (f186con S186)) : FnOk Try.prog 186 (f186con (spec_l5Check.b k S186)) :=
  let hc := f186hc k S186 h186
  fnOk (fn := Try.f186) (code := bodyOf Try.f186) (res := [.tmp 6]) hc (by kernel_rfl) (by kernel_rfl) (by decide) (by kernel_rfl) (by kernel_rfl) (by kernel_rfl) (Nat.le_of_ble_eq_true (by kernel_rfl)) _
    (fun x => Snd.seq (by kernel_rfl) (Snd.seq (by kernel_rfl) (Snd.seq (by kernel_rfl) (Snd.seq (by kernel_rfl) (Snd.seq (by kernel_rfl) (Snd.seq (by kernel_rfl) (Snd.seq (by kernel_rfl) (Snd.seq (by kernel_rfl) (Snd.seq (by kernel_rfl) (Snd.exec hc _ _ _ _) (Snd.seq (by kernel_rfl) (Snd.block (id := 0) (by kernel_rfl) (Snd.loop' (by kernel_rfl) f186s15 (fun n x => spec_l5Check.l15 k S186 n x.1.1 x.1.2.1 x.1.2.2.2.1 x.1.2.2.2.2.2 x.2.1 x.2.2) _ (fun _ => rfl) (fun n15 => Snd.seq (by kernel_rfl) (Snd.seq (by kernel_rfl) (Snd.exec hc _ _ _ _) (Snd.block (id := 1) (by kernel_rfl) (Snd.seq (by kernel_rfl) (Snd.seq (by kernel_rfl) (Snd.exec hc _ _ _ _) (Snd.seq (by kernel_rfl) (Snd.block (id := 2) (by kernel_rfl) (Snd.loop' (by kernel_rfl) f186s20 (fun n x => spec_l5Check.l20 k S186 (spec_l5Check.l15 k S186 n15) n x.1.1 x.1.2.1 x.1.2.2.2.1 x.1.2.2.2.2.2.1 x.1.2.2.2.2.2.2 x.2.1 x.2.2) _ (fun _ => rfl) (fun n20 => Snd.exec hc _ _ _ _) (fun n x => by kernel_rfl) k)) (Snd.exec hc _ _ _ _))) (Snd.exec hc _ _ _ _)))) (Snd.exec hc _ _ _ _)) (fun n x => by kernel_rfl) k)) (Snd.exec hc _ _ _ _))) (Snd.exec hc _ _ _ _)) (Snd.exec hc _ _ _ _)) (Snd.exec hc _ _ _ _)) (Snd.exec hc _ _ _ _)) (Snd.exec hc _ _ _ _)) (Snd.exec hc _ _ _ _)) (Snd.exec hc _ _ _ _)) (Snd.exec hc _ _ _ _))
    (fun x => by kernel_rfl)
theorem f186rec (k : Nat) : ∀ d, FnOk Try.prog 186 (f186con (spec_l5Check.d k d))
  | 0 => FnOk_none (fun _ => rfl)
  | d + 1 => let ih := f186rec k d
    f186okb k (spec_l5Check.d k d) ih
theorem f186ok (k : Nat) : FnOk Try.prog 186 (f186con (spec_l5Check k)) := (f186rec k k)

def f85in : SS := ⟨[(0, (.ro (.list 174 (.st (.cons .str (.cons (.int .i64) (.cons (.int .i64) (.cons (.int .i64) .nil))))))))], []⟩
def f85out : SS := ⟨[(0, (.ro .bool))], []⟩
def f85con (F : (List TCol) → Option Bool) : Con := ⟨f85in, f85out, 1, 1, fun x => F x⟩
def f85ctx (k : Nat) : Ctx := ⟨tyAt tys, conAt [(101, [f101con (spec_l1In k)]), (186, [f186con (spec_l5Check k)])], 13, fun _ => false⟩
theorem f85hc (k : Nat) : CtxOk Try.prog (f85ctx k) := ctxOk tys_ok mixed_ok (consOk_cons (f101ok k) (consOk_cons (f186ok k) (consOk_nil)))
theorem f85ok (k : Nat) : FnOk Try.prog 85 (f85con (spec_SchemaOk k)) :=
  let hc := f85hc k
  fnOk (fn := Try.f85) (code := bodyOf Try.f85) (res := [.tmp 2]) hc (by kernel_rfl) (by kernel_rfl) (by decide) (by kernel_rfl) (by kernel_rfl) (by kernel_rfl) (Nat.le_of_ble_eq_true (by kernel_rfl)) _
    (fun x => Snd.exec hc _ _ _ _)
    (fun x => by kernel_rfl)

def f259in : SS := ⟨[(0, (.ro (.list 170 (.st (.cons (.int .i64) (.cons (.int .i64) (.cons (.int .i64) (.cons .str (.cons (.int .i64) .nil))))))))), (1, (.ro (.int .i64)))], []⟩
def f259out : SS := ⟨[(0, (.ro (.int .i64)))], []⟩
def f259s3 : SS := ⟨[(0, (.ro (.list 170 (.st (.cons (.int .i64) (.cons (.int .i64) (.cons (.int .i64) (.cons .str (.cons (.int .i64) .nil))))))))), (1, (.ro (.int .i64))), (5, (.ro (.int .i64))), (6, (.ro (.int .i64)))], []⟩
def f259con (F : (List TNode) → Int → Option Int) : Con := ⟨f259in, f259out, 2, 1, fun x => F x.1 x.2⟩
def f259ctx (k : Nat) (S259 : (List TNode) → Int → Option Int) : Ctx := ⟨tyAt tys, conAt [(259, [f259con S259])], 22, fun _ => false⟩
theorem f259hc (k : Nat) (S259 : (List TNode) → Int → Option Int) (h259 : FnOk Try.prog 259 (f259con S259)) : CtxOk Try.prog (f259ctx k S259) := ctxOk tys_ok mixed_ok (consOk_cons (h259) (consOk_nil))
theorem f259okb (k : Nat) (S259 : (List TNode) → Int → Option Int) (h259 : FnOk Try.prog 259 (f259con S259)) : FnOk Try.prog 259 (f259con (spec_l4After.b k S259)) :=
  let hc := f259hc k S259 h259
  fnOk (fn := Try.f259) (code := bodyOf Try.f259) (res := [.tmp 4]) hc (by kernel_rfl) (by kernel_rfl) (by decide) (by kernel_rfl) (by kernel_rfl) (by kernel_rfl) (Nat.le_of_ble_eq_true (by kernel_rfl)) _
    (fun x => Snd.seq (by kernel_rfl) (Snd.seq (by kernel_rfl) (Snd.seq (by kernel_rfl) (Snd.exec hc _ _ _ _) (Snd.seq (by kernel_rfl) (Snd.block (id := 0) (by kernel_rfl) (Snd.loop' (by kernel_rfl) f259s3 (fun n x => spec_l4After.l3 k S259 n x.1 x.2.1 x.2.2.1 x.2.2.2) _ (fun _ => rfl) (fun n3 => Snd.exec hc _ _ _ _) (fun n x => by kernel_rfl) k)) (Snd.exec hc _ _ _ _))) (Snd.exec hc _ _ _ _)) (Snd.exec hc _ _ _ _))
    (fun x => by kernel_rfl)
theorem f259rec (k : Nat) : ∀ d, FnOk Try.prog 259 (f259con (spec_l4After.d k d))
  | 0 => FnOk_none (fun _ => rfl)
  | d + 1 => let ih := f259rec k d
    f259okb k (spec_l4After.d k d) ih
theorem f259ok (k : Nat) : FnOk Try.prog 259 (f259con (spec_l4After k)) := (f259rec k k)

def f173in : SS := ⟨[(0, (.ro (.list 170 (.st (.cons (.int .i64) (.cons (.int .i64) (.cons (.int .i64) (.cons .str (.cons (.int .i64) .nil))))))))), (1, (.ro (.int .i64))), (2, (.ro (.int .i64)))], []⟩
def f173out : SS := ⟨[(0, (.ro (.int .i64)))], []⟩
def f173s5 : SS := ⟨[(0, (.ro (.list 170 (.st (.cons (.int .i64) (.cons (.int .i64) (.cons (.int .i64) (.cons .str (.cons (.int .i64) .nil))))))))), (1, (.ro (.int .i64))), (2, (.ro (.int .i64))), (7, (.ro (.int .i64))), (8, (.ro (.int .i64)))], []⟩
def f173con (F : (List TNode) → Int → Int → Option Int) : Con := ⟨f173in, f173out, 3, 1, fun x => F x.1 x.2.1 x.2.2⟩
def f173ctx (k : Nat) : Ctx := ⟨tyAt tys, conAt [(259, [f259con (spec_l4After k)])], 37, fun _ => false⟩
theorem f173hc (k : Nat) : CtxOk Try.prog (f173ctx k) := ctxOk tys_ok mixed_ok (consOk_cons (f259ok k) (consOk_nil))
theorem f173ok (k : Nat) : FnOk Try.prog 173 (f173con (spec_l4Find k)) :=
  let hc := f173hc k
  fnOk (fn := Try.f173) (code := bodyOf Try.f173) (res := [.tmp 6]) hc (by kernel_rfl) (by kernel_rfl) (by decide) (by kernel_rfl) (by kernel_rfl) (by kernel_rfl) (Nat.le_of_ble_eq_true (by kernel_rfl)) _
    (fun x => Snd.seq (by kernel_rfl) (Snd.seq (by kernel_rfl) (Snd.seq (by kernel_rfl) (Snd.seq (by kernel_rfl) (Snd.exec hc _ _ _ _) (Snd.seq (by kernel_rfl) (Snd.block (id := 0) (by kernel_rfl) (Snd.loop' (by kernel_rfl) f173s5 (fun n x => spec_l4Find.l5 k n x.1 x.2.1 x.2.2.1 x.2.2.2.1 x.2.2.2.2) _ (fun _ => rfl) (fun n5 => Snd.exec hc _ _ _ _) (fun n x => by kernel_rfl) k)) (Snd.exec hc _ _ _ _))) (Snd.exec hc _ _ _ _)) (Snd.exec hc _ _ _ _)) (Snd.exec hc _ _ _ _))
    (fun x => by kernel_rfl)

def f141in : SS := ⟨[(0, (.ro (.list 170 (.st (.cons (.int .i64) (.cons (.int .i64) (.cons (.int .i64) (.cons .str (.cons (.int .i64) .nil))))))))), (1, (.ro (.int .i64))), (2, (.ro (.int .i64)))], []⟩
def f141out : SS := ⟨[(0, (.ro (.int .i64))), (1, (.ro .bool))], []⟩
def f141con (F : (List TNode) → Int → Int → Option (Int × Bool)) : Con := ⟨f141in, f141out, 3, 2, fun x => F x.1 x.2.1 x.2.2⟩
def f141ctx (k : Nat) : Ctx := ⟨tyAt tys, conAt [(173, [f173con (spec_l4Find k)])], 36, fun _ => false⟩
theorem f141hc (k : Nat) : CtxOk Try.prog (f141ctx k) := ctxOk tys_ok mixed_ok (consOk_cons (f173ok k) (consOk_nil))
theorem f141ok (k : Nat) : FnOk Try.prog 141 (f141con (spec_l4NumOf k)) :=
  let hc := f141hc k
  fnOk (fn := Try.f141) (code := bodyOf Try.f141) (res := [.tmp 6, .tmp 7]) hc (by kernel_rfl) (by kernel_rfl) (by decide) (by kernel_rfl) (by kernel_rfl) (by kernel_rfl) (Nat.le_of_ble_eq_true (by kernel_rfl)) _
    (fun x => Snd.exec hc _ _ _ _)
    (fun x => by kernel_rfl)

def f330in : SS := ⟨[(0, (.ro (.list 170 (.st (.cons (.int .i64) (.cons (.int .i64) (.cons (.int .i64) (.cons .str (.cons (.int .i64) .nil))))))))), (1, (.ro (.int .i64))), (2, (.ro (.int .i64)))], []⟩
def f330out : SS := ⟨[(0, (.ro .str)), (1, (.ro .bool))], []⟩
def f330con (F : (List TNode) → Int → Int → Option (ByteArray × Bool)) : Con := ⟨f330in, f330out, 3, 2, fun x => F x.1 x.2.1 x.2.2⟩
def f330ctx (k : Nat) : Ctx := ⟨tyAt tys, conAt [(173, [f173con (spec_l4Find k)])], 28, fun _ => false⟩
theorem f330hc (k : Nat) : CtxOk Try.prog (f330ctx k) := ctxOk tys_ok mixed_ok (consOk_cons (f173ok k) (consOk_nil))
theorem f330ok (k : Nat) : FnOk Try.prog 330 (f330con (spec_l4TextOf k)) :=
  let hc := f330hc k
  fnOk (fn := Try.f330) (code := bodyOf Try.f330) (res := [.tmp 6, .tmp 7]) hc (by kernel_rfl) (by kernel_rfl) (by decide) (by kernel_rfl) (by kernel_rfl) (by kernel_rfl) (Nat.le_of_ble_eq_true (by kernel_rfl)) _
    (fun x => Snd.exec hc _ _ _ _)
    (fun x => by kernel_rfl)

def f258in : SS := ⟨[(0, (.ro (.list 170 (.st (.cons (.int .i64) (.cons (.int .i64) (.cons (.int .i64) (.cons .str (.cons (.int .i64) .nil))))))))), (1, (.ro (.int .i64))), (2, (.ro .bool))], []⟩
def f258out : SS := ⟨[(0, (.agg (.cons (.ro .str) (.cons (.ro (.int .i64)) (.cons (.ro (.int .i64)) (.cons (.ro (.int .i64)) .nil)))))), (1, (.ro .bool))], []⟩
def f258s12 : SS := ⟨[(0, (.ro (.list 170 (.st (.cons (.int .i64) (.cons (.int .i64) (.cons (.int .i64) (.cons .str (.cons (.int .i64) .nil))))))))), (1, (.ro (.int .i64))), (6, (.p 100)), (9, (.ro .bool)), (11, (.ro .bool)), (13, (.ro .bool)), (15, (.ro .bool)), (16, (.p 101))], [(100, (.box (.st (.cons .str (.cons (.int .i64) (.cons (.int .i64) (.cons (.int .i64) .nil))))) (.agg (.cons (.ro .str) (.cons (.ro (.int .i64)) (.cons (.ro (.int .i64)) (.cons (.ro (.int .i64)) .nil))))))), (101, (.box (.st (.cons .str (.cons (.int .i64) (.cons (.int .i64) (.cons (.int .i64) .nil))))) (.agg (.cons (.ro .str) (.cons (.ro (.int .i64)) (.cons (.ro (.int .i64)) (.cons (.ro (.int .i64)) .nil)))))))]⟩
def f258s9 : SS := ⟨[(0, (.ro (.list 170 (.st (.cons (.int .i64) (.cons (.int .i64) (.cons (.int .i64) (.cons .str (.cons (.int .i64) .nil))))))))), (1, (.ro (.int .i64))), (6, (.p 100)), (9, (.ro .bool)), (11, (.ro .bool)), (12, (.ro (.int .i64))), (13, (.ro .bool)), (15, (.ro .bool)), (16, (.p 101))], [(100, (.box (.st (.cons .str (.cons (.int .i64) (.cons (.int .i64) (.cons (.int .i64) .nil))))) (.agg (.cons (.ro .str) (.cons (.ro (.int .i64)) (.cons (.ro (.int .i64)) (.cons (.ro (.int .i64)) .nil))))))), (101, (.box (.st (.cons .str (.cons (.int .i64) (.cons (.int .i64) (.cons (.int .i64) .nil))))) (.agg (.cons (.ro .str) (.cons (.ro (.int .i64)) (.cons (.ro (.int .i64)) (.cons (.ro (.int .i64)) .nil)))))))]⟩
def f258con (F : (List TNode) → Int → Bool → Option (TCol × Bool)) : Con := ⟨f258in, f258out, 3, 2, fun x => F x.1 x.2.1 x.2.2⟩
def f258ctx (k : Nat) : Ctx := ⟨tyAt tys, conAt [(141, [f141con (spec_l4NumOf k)]), (173, [f173con (spec_l4Find k)]), (330, [f330con (spec_l4TextOf k)])], 82, fun _ => false⟩
theorem f258hc (k : Nat) : CtxOk Try.prog (f258ctx k) := ctxOk tys_ok mixed_ok (consOk_cons (f141ok k) (consOk_cons (f173ok k) (consOk_cons (f330ok k) (consOk_nil))))
theorem f258ok (k : Nat) : FnOk Try.prog 258 (f258con (spec_l5Col k)) :=
  let hc := f258hc k
  fnOk (fn := Try.f258) (code := bodyOf Try.f258) (res := [.cell 6 174, .tmp 7]) hc (by kernel_rfl) (by kernel_rfl) (by decide) (by kernel_rfl) (by kernel_rfl) (by kernel_rfl) (Nat.le_of_ble_eq_true (by kernel_rfl)) _
    (fun x => Snd.seq (by kernel_rfl) (Snd.seq (by kernel_rfl) (Snd.seq (by kernel_rfl) (Snd.seq (by kernel_rfl) (Snd.seq (by kernel_rfl) (Snd.seq (by kernel_rfl) (Snd.seq (by kernel_rfl) (Snd.cut (Snd.seq (by kernel_rfl) (Snd.cut (Snd.exec hc _ _ _ _) ⟨f258s12, fun x => spec_l5Col.c12 k x.1.1 x.1.2.1 x.1.2.2.2.1 x.1.2.2.2.2.1 x.1.2.2.2.2.2.1 x.1.2.2.2.2.2.2.1 x.2.1 x.2.2⟩ (fun x => by kernel_rfl)) (Snd.exec hc _ _ _ _)) ⟨f258s9, fun x => spec_l5Col.c9 k x.1.1 x.1.2.1 x.1.2.2.2.1 x.1.2.2.2.2.1 x.1.2.2.2.2.2.1 x.1.2.2.2.2.2.2.1 x.1.2.2.2.2.2.2.2.1 x.2.1 x.2.2⟩ (fun x => by kernel_rfl)) (Snd.exec hc _ _ _ _)) (Snd.exec hc _ _ _ _)) (Snd.exec hc _ _ _ _)) (Snd.exec hc _ _ _ _)) (Snd.exec hc _ _ _ _)) (Snd.exec hc _ _ _ _)) (Snd.exec hc _ _ _ _))
    (fun x => by kernel_rfl)

def f140in : SS := ⟨[(0, (.ro (.list 170 (.st (.cons (.int .i64) (.cons (.int .i64) (.cons (.int .i64) (.cons .str (.cons (.int .i64) .nil))))))))), (1, (.ro (.int .i64))), (2, (.ro (.int .i64)))], []⟩
def f140out : SS := ⟨[(0, (.h 100)), (1, (.ro .bool))], [(100, (.sl 174 (.st (.cons .str (.cons (.int .i64) (.cons (.int .i64) (.cons (.int .i64) .nil)))))))]⟩
def f140s8 : SS := ⟨[(0, (.ro (.list 170 (.st (.cons (.int .i64) (.cons (.int .i64) (.cons (.int .i64) (.cons .str (.cons (.int .i64) .nil))))))))), (8, (.h 100)), (9, (.ro (.int .i64))), (10, (.h 101)), (11, (.ro (.int .i64))), (12, (.ro (.int .i64)))], [(100, (.sl 174 (.st (.cons .str (.cons (.int .i64) (.cons (.int .i64) (.cons (.int .i64) .nil))))))), (101, (.sl 174 (.st (.cons .str (.cons (.int .i64) (.cons (.int .i64) (.cons (.int .i64) .nil)))))))]⟩
def f140con (F : (List TNode) → Int → Int → Option ((Unit × Bool) × (List TCol))) : Con := ⟨f140in, f140out, 3, 2, fun x => F x.1 x.2.1 x.2.2⟩
def f140ctx (k : Nat) : Ctx := ⟨tyAt tys, conAt [(85, [f85con (spec_SchemaOk k)]), (173, [f173con (spec_l4Find k)]), (258, [f258con (spec_l5Col k)]), (259, [f259con (spec_l4After k)])], 74, fun _ => false⟩
theorem f140hc (k : Nat) : CtxOk Try.prog (f140ctx k) := ctxOk tys_ok mixed_ok (consOk_cons (f85ok k) (consOk_cons (f173ok k) (consOk_cons (f258ok k) (consOk_cons (f259ok k) (consOk_nil)))))
theorem f140ok (k : Nat) : FnOk Try.prog 140 (f140con (spec_l5Of k)) :=
  let hc := f140hc k
  fnOk (fn := Try.f140) (code := bodyOf Try.f140) (res := [.tmp 6, .tmp 7]) hc (by kernel_rfl) (by kernel_rfl) (by decide) (by kernel_rfl) (by kernel_rfl) (by kernel_rfl) (Nat.le_of_ble_eq_true (by kernel_rfl)) _
    (fun x => Snd.seq (by kernel_rfl) (Snd.seq (by kernel_rfl) (Snd.seq (by kernel_rfl) (Snd.seq (by kernel_rfl) (Snd.seq (by kernel_rfl) (Snd.seq (by kernel_rfl) (Snd.seq (by kernel_rfl) (Snd.exec hc _ _ _ _) (Snd.seq (by kernel_rfl) (Snd.block (id := 0) (by kernel_rfl) (Snd.loop' (by kernel_rfl) f140s8 (fun n x => spec_l5Of.l8 k n x.1.1 x.1.2.2.1 x.1.2.2.2.2.1 x.1.2.2.2.2.2 x.2.1 x.2.2) _ (fun _ => rfl) (fun n8 => Snd.exec hc _ _ _ _) (fun n x => by kernel_rfl) k)) (Snd.exec hc _ _ _ _))) (Snd.exec hc _ _ _ _)) (Snd.exec hc _ _ _ _)) (Snd.exec hc _ _ _ _)) (Snd.exec hc _ _ _ _)) (Snd.exec hc _ _ _ _)) (Snd.exec hc _ _ _ _))
    (fun x => by kernel_rfl)

def f142in : SS := ⟨[(0, (.ro (.list 170 (.st (.cons (.int .i64) (.cons (.int .i64) (.cons (.int .i64) (.cons .str (.cons (.int .i64) .nil))))))))), (1, (.ro (.int .i64))), (2, (.ro (.int .i64))), (3, (.ro (.int .i64)))], []⟩
def f142out : SS := ⟨[(0, (.h 100)), (1, (.ro .bool))], [(100, (.sl 3 (.int .i64)))]⟩
def f142s7 : SS := ⟨[(0, (.ro (.list 170 (.st (.cons (.int .i64) (.cons (.int .i64) (.cons (.int .i64) (.cons .str (.cons (.int .i64) .nil))))))))), (10, (.h 100)), (11, (.ro (.int .i64))), (12, (.ro (.int .i64))), (13, (.ro (.int .i64)))], [(100, (.sl 3 (.int .i64)))]⟩
def f142con (F : (List TNode) → Int → Int → Int → Option ((Unit × Bool) × (List Int))) : Con := ⟨f142in, f142out, 4, 2, fun x => F x.1 x.2.1 x.2.2.1 x.2.2.2⟩
def f142ctx (k : Nat) : Ctx := ⟨tyAt tys, conAt [(173, [f173con (spec_l4Find k)]), (259, [f259con (spec_l4After k)])], 66, fun _ => false⟩
theorem f142hc (k : Nat) : CtxOk Try.prog (f142ctx k) := ctxOk tys_ok mixed_ok (consOk_cons (f173ok k) (consOk_cons (f259ok k) (consOk_nil)))
theorem f142ok (k : Nat) : FnOk Try.prog 142 (f142con (spec_l18List k)) :=
  let hc := f142hc k
  fnOk (fn := Try.f142) (code := bodyOf Try.f142) (res := [.tmp 8, .tmp 9]) hc (by kernel_rfl) (by kernel_rfl) (by decide) (by kernel_rfl) (by kernel_rfl) (by kernel_rfl) (Nat.le_of_ble_eq_true (by kernel_rfl)) _
    (fun x => Snd.seq (by kernel_rfl) (Snd.seq (by kernel_rfl) (Snd.seq (by kernel_rfl) (Snd.seq (by kernel_rfl) (Snd.seq (by kernel_rfl) (Snd.seq (by kernel_rfl) (Snd.exec hc _ _ _ _) (Snd.seq (by kernel_rfl) (Snd.block (id := 0) (by kernel_rfl) (Snd.loop' (by kernel_rfl) f142s7 (fun n x => spec_l18List.l7 k n x.1.1 x.1.2.2.1 x.1.2.2.2.1 x.1.2.2.2.2 x.2) _ (fun _ => rfl) (fun n7 => Snd.exec hc _ _ _ _) (fun n x => by kernel_rfl) k)) (Snd.exec hc _ _ _ _))) (Snd.exec hc _ _ _ _)) (Snd.exec hc _ _ _ _)) (Snd.exec hc _ _ _ _)) (Snd.exec hc _ _ _ _)) (Snd.exec hc _ _ _ _))
    (fun x => by kernel_rfl)

def f172in : SS := ⟨[(0, (.ro (.list 170 (.st (.cons (.int .i64) (.cons (.int .i64) (.cons (.int .i64) (.cons .str (.cons (.int .i64) .nil))))))))), (1, (.ro (.int .i64))), (2, (.ro (.list 3 (.int .i64))))], []⟩
def f172out : SS := ⟨[(0, (.h 100)), (1, (.ro .bool))], [(100, (.sl 3 (.int .i64)))]⟩
def f172s3 : SS := ⟨[(0, (.ro (.list 170 (.st (.cons (.int .i64) (.cons (.int .i64) (.cons (.int .i64) (.cons .str (.cons (.int .i64) .nil))))))))), (1, (.ro (.int .i64))), (2, (.ro (.list 3 (.int .i64)))), (8, (.h 100)), (9, (.ro (.int .i64)))], [(100, (.sl 3 (.int .i64)))]⟩
def f172con (F : (List TNode) → Int → (List Int) → Option ((Unit × Bool) × (List Int))) : Con := ⟨f172in, f172out, 3, 2, fun x => F x.1 x.2.1 x.2.2⟩
def f172ctx (k : Nat) : Ctx := ⟨tyAt tys, conAt [(141, [f141con (spec_l4NumOf k)])], 37, fun _ => false⟩
theorem f172hc (k : Nat) : CtxOk Try.prog (f172ctx k) := ctxOk tys_ok mixed_ok (consOk_cons (f141ok k) (consOk_nil))
theorem f172ok (k : Nat) : FnOk Try.prog 172 (f172con (spec_l16Ids k)) :=
  let hc := f172hc k
  fnOk (fn := Try.f172) (code := bodyOf Try.f172) (res := [.tmp 6, .tmp 7]) hc (by kernel_rfl) (by kernel_rfl) (by decide) (by kernel_rfl) (by kernel_rfl) (by kernel_rfl) (Nat.le_of_ble_eq_true (by kernel_rfl)) _
    (fun x => Snd.seq (by kernel_rfl) (Snd.seq (by kernel_rfl) (Snd.seq (by kernel_rfl) (Snd.exec hc _ _ _ _) (Snd.seq (by kernel_rfl) (Snd.block (id := 0) (by kernel_rfl) (Snd.loop' (by kernel_rfl) f172s3 (fun n x => spec_l16Ids.l3 k n x.1.1 x.1.2.1 x.1.2.2.1 x.1.2.2.2.2 x.2) _ (fun _ => rfl) (fun n3 => Snd.exec hc _ _ _ _) (fun n x => by kernel_rfl) k)) (Snd.exec hc _ _ _ _))) (Snd.exec hc _ _ _ _)) (Snd.exec hc _ _ _ _))
    (fun x => by kernel_rfl)

def f123in : SS := ⟨[(0, (.ro (.list 174 (.st (.cons .str (.cons (.int .i64) (.cons (.int .i64) (.cons (.int .i64) .nil))))))))], []⟩
def f123out : SS := ⟨[(0, (.h 100))], [(100, (.sl 3 (.int .i64)))]⟩
def f123con (F : (List TCol) → Option (Unit × (List Int))) : Con := ⟨f123in, f123out, 1, 1, fun x => F x⟩
def f123ctx (k : Nat) : Ctx := ⟨tyAt tys, conAt [(85, [f85con (spec_SchemaOk k)]), (86, [f86con (spec_l5Leaves k)])], 9, fun _ => false⟩
theorem f123hc (k : Nat) : CtxOk Try.prog (f123ctx k) := ctxOk tys_ok mixed_ok (consOk_cons (f85ok k) (consOk_cons (f86ok k) (consOk_nil)))
theorem f123ok (k : Nat) : FnOk Try.prog 123 (f123con (spec_SchemaLeaves k)) :=
  let hc := f123hc k
  fnOk (fn := Try.f123) (code := bodyOf Try.f123) (res := [.tmp 2]) hc (by kernel_rfl) (by kernel_rfl) (by decide) (by kernel_rfl) (by kernel_rfl) (by kernel_rfl) (Nat.le_of_ble_eq_true (by kernel_rfl)) _
    (fun x => Snd.exec hc _ _ _ _)
    (fun x => by kernel_rfl)

def f189in : SS := ⟨[(0, (.ro (.list 174 (.st (.cons .str (.cons (.int .i64) (.cons (.int .i64) (.cons (.int .i64) .nil)))))))), (1, (.ro (.int .i64)))], []⟩
def f189out : SS := ⟨[(0, (.ro (.int .i64)))], []⟩
def f189s3 : SS := ⟨[(0, (.ro (.list 174 (.st (.cons .str (.cons (.int .i64) (.cons (.int .i64) (.cons (.int .i64) .nil)))))))), (1, (.ro (.int .i64))), (5, (.ro (.int .i64))), (6, (.ro (.int .i64)))], []⟩
def f189con (F : (List TCol) → Int → Option Int) : Con := ⟨f189in, f189out, 2, 1, fun x => F x.1 x.2⟩
def f189ctx (k : Nat) (S189 : (List TCol) → Int → Option Int) : Ctx := ⟨tyAt tys, conAt [(189, [f189con S189])], 22, fun _ => false⟩
theorem f189hc (k : Nat) (S189 : (List TCol) → Int → Option Int) (h189 : FnOk Try.prog 189 (f189con S189)) : CtxOk Try.prog (f189ctx k S189) := ctxOk tys_ok mixed_ok (consOk_cons (h189) (consOk_nil))
theorem f189okb (k : Nat) (S189 : (List TCol) → Int → Option Int) (h189 : FnOk Try.prog 189 (f189con S189)) : FnOk Try.prog 189 (f189con (spec_l5After.b k S189)) :=
  let hc := f189hc k S189 h189
  fnOk (fn := Try.f189) (code := bodyOf Try.f189) (res := [.tmp 4]) hc (by kernel_rfl) (by kernel_rfl) (by decide) (by kernel_rfl) (by kernel_rfl) (by kernel_rfl) (Nat.le_of_ble_eq_true (by kernel_rfl)) _
    (fun x => Snd.seq (by kernel_rfl) (Snd.seq (by kernel_rfl) (Snd.seq (by kernel_rfl) (Snd.exec hc _ _ _ _) (Snd.seq (by kernel_rfl) (Snd.block (id := 0) (by kernel_rfl) (Snd.loop' (by kernel_rfl) f189s3 (fun n x => spec_l5After.l3 k S189 n x.1 x.2.1 x.2.2.1 x.2.2.2) _ (fun _ => rfl) (fun n3 => Snd.exec hc _ _ _ _) (fun n x => by kernel_rfl) k)) (Snd.exec hc _ _ _ _))) (Snd.exec hc _ _ _ _)) (Snd.exec hc _ _ _ _))
    (fun x => by kernel_rfl)
theorem f189rec (k : Nat) : ∀ d, FnOk Try.prog 189 (f189con (spec_l5After.d k d))
  | 0 => FnOk_none (fun _ => rfl)
  | d + 1 => let ih := f189rec k d
    f189okb k (spec_l5After.d k d) ih
theorem f189ok (k : Nat) : FnOk Try.prog 189 (f189con (spec_l5After k)) := (f189rec k k)

def f231in : SS := ⟨[(0, (.ro (.list 174 (.st (.cons .str (.cons (.int .i64) (.cons (.int .i64) (.cons (.int .i64) .nil)))))))), (1, (.ro (.int .i64)))], []⟩
def f231out : SS := ⟨[(0, (.h 100))], [(100, (.sl 3 (.int .i64)))]⟩
def f231s4 : SS := ⟨[(0, (.ro (.list 174 (.st (.cons .str (.cons (.int .i64) (.cons (.int .i64) (.cons (.int .i64) .nil)))))))), (1, (.ro (.int .i64))), (5, (.h 100)), (6, (.ro (.int .i64)))], [(100, (.sl 3 (.int .i64)))]⟩
def f231s3 : SS := ⟨[(0, (.ro (.list 174 (.st (.cons .str (.cons (.int .i64) (.cons (.int .i64) (.cons (.int .i64) .nil)))))))), (1, (.ro (.int .i64))), (5, (.h 100)), (6, (.ro (.int .i64)))], [(100, (.sl 3 (.int .i64)))]⟩
def f231con (F : (List TCol) → Int → Option (Unit × (List Int))) : Con := ⟨f231in, f231out, 2, 1, fun x => F x.1 x.2⟩
def f231ctx (k : Nat) : Ctx := ⟨tyAt tys, conAt [(189, [f189con (spec_l5After k)])], 23, fun _ => false⟩
theorem f231hc (k : Nat) : CtxOk Try.prog (f231ctx k) := ctxOk tys_ok mixed_ok (consOk_cons (f189ok k) (consOk_nil))
theorem f231ok (k : Nat) : FnOk Try.prog 231 (f231con (spec_l5Way k)) :=
  let hc := f231hc k
  fnOk (fn := Try.f231) (code := bodyOf Try.f231) (res := [.tmp 4]) hc (by kernel_rfl) (by kernel_rfl) (by decide) (by kernel_rfl) (by kernel_rfl) (by kernel_rfl) (Nat.le_of_ble_eq_true (by kernel_rfl)) _
    (fun x => Snd.seq (by kernel_rfl) (Snd.seq (by kernel_rfl) (Snd.seq (by kernel_rfl) (Snd.exec hc _ _ _ _) (Snd.seq (by kernel_rfl) (Snd.block (id := 0) (by kernel_rfl) (Snd.loop' (by kernel_rfl) f231s3 (fun n x => spec_l5Way.l3 k n x.1.1 x.1.2.1 x.1.2.2.2 x.2) _ (fun _ => rfl) (fun n3 => Snd.seq (by kernel_rfl) (Snd.seq (by kernel_rfl) (Snd.cut (Snd.exec hc _ _ _ _) ⟨f231s4, fun x => spec_l5Way.c4 k (spec_l5Way.l3 k n3) x.1.1 x.1.2.1 x.1.2.2.2 x.2⟩ (fun x => by kernel_rfl)) (Snd.exec hc _ _ _ _)) (Snd.exec hc _ _ _ _)) (fun n x => by kernel_rfl) k)) (Snd.exec hc _ _ _ _))) (Snd.exec hc _ _ _ _)) (Snd.exec hc _ _ _ _))
    (fun x => by kernel_rfl)

def f260in : SS := ⟨[(0, (.ro (.list 174 (.st (.cons .str (.cons (.int .i64) (.cons (.int .i64) (.cons (.int .i64) .nil)))))))), (1, (.ro (.int .i64)))], []⟩
def f260out : SS := ⟨[(0, (.h 100))], [(100, (.sl 9 .str))]⟩
def f260s7 : SS := ⟨[(0, (.ro (.list 174 (.st (.cons .str (.cons (.int .i64) (.cons (.int .i64) (.cons (.int .i64) .nil)))))))), (5, (.h 100)), (7, (.h 101)), (8, (.ro (.int .i64)))], [(100, (.sl 9 .str)), (101, (.sl 3 (.int .i64)))]⟩
def f260con (F : (List TCol) → Int → Option (Unit × (List ByteArray))) : Con := ⟨f260in, f260out, 2, 1, fun x => F x.1 x.2⟩
def f260ctx (k : Nat) : Ctx := ⟨tyAt tys, conAt [(101, [f101con (spec_l1In k)]), (123, [f123con (spec_SchemaLeaves k)]), (231, [f231con (spec_l5Way k)])], 43, fun _ => false⟩
theorem f260hc (k : Nat) : CtxOk Try.prog (f260ctx k) := ctxOk tys_ok mixed_ok (consOk_cons (f101ok k) (consOk_cons (f123ok k) (consOk_cons (f231ok k) (consOk_nil))))
theorem f260ok (k : Nat) : FnOk Try.prog 260 (f260con (spec_LeafPath k)) :=
  let hc := f260hc k
  fnOk (fn := Try.f260) (code := bodyOf Try.f260) (res := [.tmp 4]) hc (by kernel_rfl) (by kernel_rfl) (by decide) (by kernel_rfl) (by kernel_rfl) (by kernel_rfl) (Nat.le_of_ble_eq_true (by kernel_rfl)) _
    (fun x => Snd.seq (by kernel_rfl) (Snd.seq (by kernel_rfl) (Snd.seq (by kernel_rfl) (Snd.seq (by kernel_rfl) (Snd.seq (by kernel_rfl) (Snd.seq (by kernel_rfl) (Snd.exec hc _ _ _ _) (Snd.seq (by kernel_rfl) (Snd.block (id := 0) (by kernel_rfl) (Snd.loop' (by kernel_rfl) f260s7 (fun n x => spec_LeafPath.l7 k n x.1.1 x.1.2.2.2 x.2.1 x.2.2) _ (fun _ => rfl) (fun n7 => Snd.exec hc _ _ _ _) (fun n x => by kernel_rfl) k)) (Snd.exec hc _ _ _ _))) (Snd.exec hc _ _ _ _)) (Snd.exec hc _ _ _ _)) (Snd.exec hc _ _ _ _)) (Snd.exec hc _ _ _ _)) (Snd.exec hc _ _ _ _))
    (fun x => by kernel_rfl)

def f143in : SS := ⟨[(0, (.ro (.list 170 (.st (.cons (.int .i64) (.cons (.int .i64) (.cons (.int .i64) (.cons .str (.cons (.int .i64) .nil))))))))), (1, (.ro (.int .i64))), (2, (.ro (.list 174 (.st (.cons .str (.cons (.int .i64) (.cons (.int .i64) (.cons (.int .i64) .nil)))))))), (3, (.ro (.int .i64)))], []⟩
def f143out : SS := ⟨[(0, (.agg (.cons (.ro (.int .i64)) (.cons (.ro (.int .i64)) (.cons (.ro (.int .i64)) (.cons (.ro (.int .i64)) (.cons (.ro (.int .i64)) (.cons (.h 100) .nil)))))))), (1, (.ro .bool))], [(100, (.sl 3 (.int .i64)))]⟩
def f143s26 : SS := ⟨[(8, (.p 100)), (20, (.p 101))], [(100, (.box (.st (.cons (.int .i64) (.cons (.int .i64) (.cons (.int .i64) (.cons (.int .i64) (.cons (.int .i64) (.cons (.list 3 (.int .i64)) .nil))))))) (.agg (.cons (.ro (.int .i64)) (.cons (.ro (.int .i64)) (.cons (.ro (.int .i64)) (.cons (.ro (.int .i64)) (.cons (.ro (.int .i64)) (.cons (.h 102) .nil))))))))), (101, (.box (.st (.cons (.int .i64) (.cons (.int .i64) (.cons (.int .i64) (.cons (.int .i64) (.cons (.int .i64) (.cons (.list 3 (.int .i64)) .nil))))))) (.agg (.cons (.ro (.int .i64)) (.cons (.ro (.int .i64)) (.cons (.ro (.int .i64)) (.cons (.ro (.int .i64)) (.cons (.ro (.int .i64)) (.cons (.h 103) .nil))))))))), (102, (.sl 3 (.int .i64))), (103, (.sl 3 (.int .i64)))]⟩
def f143s18 : SS := ⟨[(0, (.ro (.list 170 (.st (.cons (.int .i64) (.cons (.int .i64) (.cons (.int .i64) (.cons .str (.cons (.int .i64) .nil))))))))), (8, (.p 100)), (10, (.p 101)), (11, (.ro (.int .i64))), (14, (.h 102)), (20, (.p 103)), (21, (.ro (.int .i64)))], [(100, (.box (.st (.cons (.int .i64) (.cons (.int .i64) (.cons (.int .i64) (.cons (.int .i64) (.cons (.int .i64) (.cons (.list 3 (.int .i64)) .nil))))))) (.agg (.cons (.ro (.int .i64)) (.cons (.ro (.int .i64)) (.cons (.ro (.int .i64)) (.cons (.ro (.int .i64)) (.cons (.ro (.int .i64)) (.cons (.h 104) .nil))))))))), (101, (.box (.st (.cons (.int .i64) (.cons (.int .i64) (.cons (.int .i64) (.cons (.int .i64) (.cons (.int .i64) (.cons (.list 3 (.int .i64)) .nil))))))) (.agg (.cons (.ro (.int .i64)) (.cons (.ro (.int .i64)) (.cons (.ro (.int .i64)) (.cons (.ro (.int .i64)) (.cons (.ro (.int .i64)) (.cons (.h 105) .nil))))))))), (102, (.sl 3 (.int .i64))), (103, (.box (.st (.cons (.int .i64) (.cons (.int .i64) (.cons (.int .i64) (.cons (.int .i64) (.cons (.int .i64) (.cons (.list 3 (.int .i64)) .nil))))))) (.agg (.cons (.ro (.int .i64)) (.cons (.ro (.int .i64)) (.cons (.ro (.int .i64)) (.cons (.ro (.int .i64)) (.cons (.ro (.int .i64)) (.cons (.h 106) .nil))))))))), (104, (.sl 3 (.int .i64))), (105, (.sl 3 (.int .i64))), (106, (.sl 3 (.int .i64)))]⟩
def f143s12 : SS := ⟨[(0, (.ro (.list 170 (.st (.cons (.int .i64) (.cons (.int .i64) (.cons (.int .i64) (.cons .str (.cons (.int .i64) .nil))))))))), (3, (.ro (.int .i64))), (8, (.p 100)), (10, (.p 101)), (11, (.ro (.int .i64))), (12, (.h 102)), (14, (.h 103)), (16, (.h 104)), (18, (.h 105)), (19, (.ro (.int .i64)))], [(100, (.box (.st (.cons (.int .i64) (.cons (.int .i64) (.cons (.int .i64) (.cons (.int .i64) (.cons (.int .i64) (.cons (.list 3 (.int .i64)) .nil))))))) (.agg (.cons (.ro (.int .i64)) (.cons (.ro (.int .i64)) (.cons (.ro (.int .i64)) (.cons (.ro (.int .i64)) (.cons (.ro (.int .i64)) (.cons (.h 106) .nil))))))))), (101, (.box (.st (.cons (.int .i64) (.cons (.int .i64) (.cons (.int .i64) (.cons (.int .i64) (.cons (.int .i64) (.cons (.list 3 (.int .i64)) .nil))))))) (.agg (.cons (.ro (.int .i64)) (.cons (.ro (.int .i64)) (.cons (.ro (.int .i64)) (.cons (.ro (.int .i64)) (.cons (.ro (.int .i64)) (.cons (.h 107) .nil))))))))), (102, (.sl 3 (.int .i64))), (103, (.sl 3 (.int .i64))), (104, (.sl 3 (.int .i64))), (105, (.sl 9 .str)), (106, (.sl 3 (.int .i64))), (107, (.sl 3 (.int .i64)))]⟩
def f143d9 : SS := ⟨[(0, (.ro (.list 170 (.st (.cons (.int .i64) (.cons (.int .i64) (.cons (.int .i64) (.cons .str (.cons (.int .i64) .nil))))))))), (2, (.ro (.list 174 (.st (.cons .str (.cons (.int .i64) (.cons (.int .i64) (.cons (.int .i64) .nil)))))))), (3, (.ro (.int .i64))), (8, (.p 100)), (10, (.p 101)), (11, (.ro (.int .i64))), (12, (.h 102)), (13, (.ro .bool)), (14, (.h 103)), (15, (.ro .bool)), (16, (.h 104)), (17, (.ro .bool)), (18, (.h 105))], [(100, (.box (.st (.cons (.int .i64) (.cons (.int .i64) (.cons (.int .i64) (.cons (.int .i64) (.cons (.int .i64) (.cons (.list 3 (.int .i64)) .nil))))))) (.agg (.cons (.ro (.int .i64)) (.cons (.ro (.int .i64)) (.cons (.ro (.int .i64)) (.cons (.ro (.int .i64)) (.cons (.ro (.int .i64)) (.cons (.h 106) .nil))))))))), (101, (.box (.st (.cons (.int .i64) (.cons (.int .i64) (.cons (.int .i64) (.cons (.int .i64) (.cons (.int .i64) (.cons (.list 3 (.int .i64)) .nil))))))) (.agg (.cons (.ro (.int .i64)) (.cons (.ro (.int .i64)) (.cons (.ro (.int .i64)) (.cons (.ro (.int .i64)) (.cons (.ro (.int .i64)) (.cons (.h 107) .nil))))))))), (102, (.sl 3 (.int .i64))), (103, (.sl 3 (.int .i64))), (104, (.sl 3 (.int .i64))), (105, (.sl 9 .str)), (106, (.sl 3 (.int .i64))), (107, (.sl 3 (.int .i64)))]⟩
def f143con (F : (List TNode) → Int → (List TCol) → Int → Option (((Int × Int × Int × Int × Int × Unit × Unit) × Bool) × (List Int))) : Con := ⟨f143in, f143out, 4, 2, fun x => F x.1 x.2.1 x.2.2.1 x.2.2.2⟩
def f143ctx (k : Nat) : Ctx := ⟨tyAt tys, conAt [(86, [f86con (spec_l5Leaves k)]), (141, [f141con (spec_l4NumOf k)]), (142, [f142con (spec_l18List k)]), (172, [f172con (spec_l16Ids k)]), (173, [f173con (spec_l4Find k)]), (260, [f260con (spec_LeafPath k)])], 179, fun _ => false⟩
theorem f143hc (k : Nat) : CtxOk Try.prog (f143ctx k) := ctxOk tys_ok mixed_ok (consOk_cons (f86ok k) (consOk_cons (f141ok k) (consOk_cons (f142ok k) (consOk_cons (f172ok k) (consOk_cons (f173ok k) (consOk_cons (f260ok k) (consOk_nil)))))))
theorem f143ok (k : Nat) : FnOk Try.prog 143 (f143con (spec_l18From k)) :=
  let hc := f143hc k
  fnOk (fn := Try.f143) (code := bodyOf Try.f143) (res := [.cell 8 204, .tmp 9]) hc (by kernel_rfl) (by kernel_rfl) (by decide) (by kernel_rfl) (by kernel_rfl) (by kernel_rfl) (Nat.le_of_ble_eq_true (by kernel_rfl)) _
    (fun x => Snd.seq (by kernel_rfl) (Snd.seq (by kernel_rfl) (Snd.seq (by kernel_rfl) (Snd.seq (by kernel_rfl) (Snd.seq (by kernel_rfl) (Snd.seq (by kernel_rfl) (Snd.seq (by kernel_rfl) (Snd.seq (by kernel_rfl) (Snd.seq (by kernel_rfl) (Snd.seq (by kernel_rfl) (Snd.seq (by kernel_rfl) (Snd.seq (by kernel_rfl) (Snd.seq (by kernel_rfl) (Snd.cut (Snd.exec hc _ _ _ _) ⟨f143s26, fun x => spec_l18From.c26 k x.2.1 x.2.2.1 x.2.2.2.1 x.2.2.2.2⟩ (fun x => by kernel_rfl)) (Snd.exec hc _ _ _ _)) (Snd.seq (by kernel_rfl) (Snd.block (id := 2) (by kernel_rfl) (Snd.loop' (by kernel_rfl) f143s18 (fun n x => spec_l18From.l18 k n x.1.1 x.1.2.2.2.1 x.1.2.2.2.2.2.2 x.2.1 x.2.2.1 x.2.2.2.1 x.2.2.2.2.1 x.2.2.2.2.2.1 x.2.2.2.2.2.2.1 x.2.2.2.2.2.2.2) _ (fun _ => rfl) (fun n18 => Snd.exec hc _ _ _ _) (fun n x => by kernel_rfl) k)) (Snd.exec hc _ _ _ _))) (Snd.exec hc _ _ _ _)) (Snd.seq (by kernel_rfl) (Snd.block (id := 0) (by kernel_rfl) (Snd.loop' (by kernel_rfl) f143s12 (fun n x => spec_l18From.l12 k n x.1.1 x.1.2.1 x.1.2.2.2.2.1 x.1.2.2.2.2.2.2.2.2.2 x.2.1 x.2.2.1 x.2.2.2.1 x.2.2.2.2.1 x.2.2.2.2.2.1 x.2.2.2.2.2.2.1 x.2.2.2.2.2.2.2.1 x.2.2.2.2.2.2.2.2) _ (fun _ => rfl) (fun n12 => Snd.exec hc _ _ _ _) (fun n x => by kernel_rfl) k)) (Snd.exec hc _ _ _ _))) (Snd.seq (by kernel_rfl) (Snd.exec hc _ _ _ _) (Snd.fork hc (id := 9) (by kernel_rfl) ⟨f143d9, fun x => spec_l18From.d9 k x.1.1 x.1.2.1 x.1.2.2.1 x.1.2.2.2.2.2.1 x.1.2.2.2.2.2.2.2.1 x.1.2.2.2.2.2.2.2.2.2.1 x.1.2.2.2.2.2.2.2.2.2.2.2.1 x.2.1 x.2.2.1 x.2.2.2.1 x.2.2.2.2.1 x.2.2.2.2.2.1 x.2.2.2.2.2.2.1 x.2.2.2.2.2.2.2.1 x.2.2.2.2.2.2.2.2⟩ [[0, 1, 2, 3, 4, 5, 6, 7, 8, 9, 10, 11, 12, 13, 14, 15, 16, 17, 18, 19, 21, 22, 24, 20, 23, 25, 26, 27, 28, 29, 30, 31, 32, 33, 34, 35, 36, 37, 38, 39, 40, 41, 42, 43, 44, 45, 46], [0, 1, 2, 3, 4, 5, 6, 7, 8, 9, 10, 11, 12, 13, 14, 15, 16, 17, 18, 19, 21, 22, 24, 23, 20, 25, 26, 27, 28, 29, 30, 31, 32, 33, 34, 35, 36, 37, 38, 39, 40, 41, 42, 43, 44, 45, 46]] (by kernel_rfl) (ords_cons (fun x => by kernel_rfl) (ords_cons (fun x => by kernel_rfl) (ords_nil)))))) (Snd.exec hc _ _ _ _)) (Snd.exec hc _ _ _ _)) (Snd.exec hc _ _ _ _)) (Snd.exec hc _ _ _ _)) (Snd.exec hc _ _ _ _)) (Snd.exec hc _ _ _ _)) (Snd.exec hc _ _ _ _)) (Snd.exec hc _ _ _ _))
    (fun x => by kernel_rfl)

def f261in : SS := ⟨[(0, (.ro (.st (.cons (.int .i64) (.cons (.int .i64) (.cons (.int .i64) (.cons (.int .i64) (.cons (.int .i64) (.cons (.list 3 (.int .i64)) .nil))))))))), (1, (.ro (.int .i64)))], []⟩
def f261out : SS := ⟨[(0, (.ro .bool))], []⟩
def f261d6 : SS := ⟨[(2, (.p 100)), (5, (.ro (.int .i64)))], [(100, (.box (.st (.cons (.int .i64) (.cons (.int .i64) (.cons (.int .i64) (.cons (.int .i64) (.cons (.int .i64) (.cons (.list 3 (.int .i64)) .nil))))))) (.agg (.cons (.ro (.int .i64)) (.cons (.ro (.int .i64)) (.cons (.ro (.int .i64)) (.cons (.ro (.int .i64)) (.cons (.ro (.int .i64)) (.cons (.ro (.list 3 (.int .i64))) .nil)))))))))]⟩
def f261s4 : SS := ⟨[(2, (.p 100)), (5, (.ro (.int .i64)))], [(100, (.box (.st (.cons (.int .i64) (.cons (.int .i64) (.cons (.int .i64) (.cons (.int .i64) (.cons (.int .i64) (.cons (.list 3 (.int .i64)) .nil))))))) (.agg (.cons (.ro (.int .i64)) (.cons (.ro (.int .i64)) (.cons (.ro (.int .i64)) (.cons (.ro (.int .i64)) (.cons (.ro (.int .i64)) (.cons (.ro (.list 3 (.int .i64))) .nil)))))))))]⟩
def f261con (F : TChunk → Int → Option Bool) : Con := ⟨f261in, f261out, 2, 1, fun x => F x.1 x.2⟩
def f261ctx (k : Nat) : Ctx := ⟨tyAt tys, conAt [(101, [f101con (spec_l1In k)])], 73, fun _ => false⟩
theorem f261hc (k : Nat) : CtxOk Try.prog (f261ctx k) := ctxOk tys_ok mixed_ok (consOk_cons (f101ok k) (consOk_nil))
theorem f261ok (k : Nat) : FnOk Try.prog 261 (f261con (spec_l18Chunk k)) :=
  let hc := f261hc k
  fnOk (fn := Try.f261) (code := bodyOf Try.f261) (res := [.tmp 4]) hc (by kernel_rfl) (by kernel_rfl) (by decide) (by kernel_rfl) (by kernel_rfl) (by kernel_rfl) (Nat.le_of_ble_eq_true (by kernel_rfl)) _
    (fun x => Snd.seq (by kernel_rfl) (Snd.seq (by kernel_rfl) (Snd.seq (by kernel_rfl) (Snd.exec hc _ _ _ _) (Snd.seq (by kernel_rfl) (Snd.block (id := 0) (by kernel_rfl) (Snd.loop' (by kernel_rfl) f261s4 (fun n x => spec_l18Chunk.l4 k n x.1.2 x.2) _ (fun _ => rfl) (fun n4 => Snd.seq (by kernel_rfl) (Snd.seq (by kernel_rfl) (Snd.exec hc _ _ _ _) (Snd.block (id := 1) (by kernel_rfl) (Snd.seq (by kernel_rfl) (Snd.exec hc _ _ _ _) (Snd.fork hc (id := 6) (by kernel_rfl) ⟨f261d6, fun x => spec_l18Chunk.d6 k (spec_l18Chunk.l4 k n4) x.1.2 x.2⟩ [[0, 2, 1, 3, 4, 5, 6, 7, 8, 9, 10, 11, 12, 13, 14, 15, 16, 17, 18, 19, 20, 21, 22, 23, 24]] (by kernel_rfl) (ords_cons (fun x => by kernel_rfl) (ords_nil)))))) (Snd.exec hc _ _ _ _)) (fun n x => by kernel_rfl) k)) (Snd.exec hc _ _ _ _))) (Snd.exec hc _ _ _ _)) (Snd.exec hc _ _ _ _))
    (fun x => by kernel_rfl)

def f144in : SS := ⟨[(0, (.ro (.st (.cons (.list 174 (.st (.cons .str (.cons (.int .i64) (.cons (.int .i64) (.cons (.int .i64) .nil)))))) (.cons (.int .i64) (.cons (.list 202 (.st (.cons (.int .i64) (.cons (.list 204 (.st (.cons (.int .i64) (.cons (.int .i64) (.cons (.int .i64) (.cons (.int .i64) (.cons (.int .i64) (.cons (.list 3 (.int .i64)) .nil)))))))) .nil)))) .nil))))))], []⟩
def f144out : SS := ⟨[(0, (.ro .bool))], []⟩
def f144s13 : SS := ⟨[(1, (.p 100)), (3, (.h 101)), (4, (.ro (.int .i64))), (5, (.ro (.int .i64))), (6, (.p 102)), (7, (.ro (.int .i64)))], [(100, (.box (.st (.cons (.list 174 (.st (.cons .str (.cons (.int .i64) (.cons (.int .i64) (.cons (.int .i64) .nil)))))) (.cons (.int .i64) (.cons (.list 202 (.st (.cons (.int .i64) (.cons (.list 204 (.st (.cons (.int .i64) (.cons (.int .i64) (.cons (.int .i64) (.cons (.int .i64) (.cons (.int .i64) (.cons (.list 3 (.int .i64)) .nil)))))))) .nil)))) .nil)))) (.agg (.cons (.ro (.list 174 (.st (.cons .str (.cons (.int .i64) (.cons (.int .i64) (.cons (.int .i64) .nil))))))) (.cons (.ro (.int .i64)) (.cons (.ro (.list 202 (.st (.cons (.int .i64) (.cons (.list 204 (.st (.cons (.int .i64) (.cons (.int .i64) (.cons (.int .i64) (.cons (.int .i64) (.cons (.int .i64) (.cons (.list 3 (.int .i64)) .nil)))))))) .nil))))) .nil)))))), (101, (.sl 3 (.int .i64))), (102, (.box (.st (.cons (.int .i64) (.cons (.list 204 (.st (.cons (.int .i64) (.cons (.int .i64) (.cons (.int .i64) (.cons (.int .i64) (.cons (.int .i64) (.cons (.list 3 (.int .i64)) .nil)))))))) .nil))) (.agg (.cons (.ro (.int .i64)) (.cons (.ro (.list 204 (.st (.cons (.int .i64) (.cons (.int .i64) (.cons (.int .i64) (.cons (.int .i64) (.cons (.int .i64) (.cons (.list 3 (.int .i64)) .nil))))))))) .nil)))))]⟩
def f144s6 : SS := ⟨[(1, (.p 100)), (3, (.h 101)), (4, (.ro (.int .i64))), (5, (.ro (.int .i64)))], [(100, (.box (.st (.cons (.list 174 (.st (.cons .str (.cons (.int .i64) (.cons (.int .i64) (.cons (.int .i64) .nil)))))) (.cons (.int .i64) (.cons (.list 202 (.st (.cons (.int .i64) (.cons (.list 204 (.st (.cons (.int .i64) (.cons (.int .i64) (.cons (.int .i64) (.cons (.int .i64) (.cons (.int .i64) (.cons (.list 3 (.int .i64)) .nil)))))))) .nil)))) .nil)))) (.agg (.cons (.ro (.list 174 (.st (.cons .str (.cons (.int .i64) (.cons (.int .i64) (.cons (.int .i64) .nil))))))) (.cons (.ro (.int .i64)) (.cons (.ro (.list 202 (.st (.cons (.int .i64) (.cons (.list 204 (.st (.cons (.int .i64) (.cons (.int .i64) (.cons (.int .i64) (.cons (.int .i64) (.cons (.int .i64) (.cons (.list 3 (.int .i64)) .nil)))))))) .nil))))) .nil)))))), (101, (.sl 3 (.int .i64)))]⟩
def f144con (F : TMeta → Option Bool) : Con := ⟨f144in, f144out, 1, 1, fun x => F x⟩
def f144ctx (k : Nat) : Ctx := ⟨tyAt tys, conAt [(85, [f85con (spec_SchemaOk k)]), (101, [f101con (spec_l1In k)]), (123, [f123con (spec_SchemaLeaves k)]), (261, [f261con (spec_l18Chunk k)])], 74, fun _ => false⟩
theorem f144hc (k : Nat) : CtxOk Try.prog (f144ctx k) := ctxOk tys_ok mixed_ok (consOk_cons (f85ok k) (consOk_cons (f101ok k) (consOk_cons (f123ok k) (consOk_cons (f261ok k) (consOk_nil)))))
theorem f144ok (k : Nat) : FnOk Try.prog 144 (f144con (spec_MetaOk k)) :=
  let hc := f144hc k
  fnOk (fn := Try.f144) (code := bodyOf Try.f144) (res := [.tmp 2]) hc (by kernel_rfl) (by kernel_rfl) (by decide) (by kernel_rfl) (by kernel_rfl) (by kernel_rfl) (Nat.le_of_ble_eq_true (by kernel_rfl)) _
    (fun x => Snd.seq (by kernel_rfl) (Snd.seq (by kernel_rfl) (Snd.seq (by kernel_rfl) (Snd.seq (by kernel_rfl) (Snd.seq (by kernel_rfl) (Snd.exec hc _ _ _ _) (Snd.seq (by kernel_rfl) (Snd.block (id := 0) (by kernel_rfl) (Snd.loop' (by kernel_rfl) f144s6 (fun n x => spec_MetaOk.l6 k n x.1.2.2.1 x.1.2.2.2 x.2.1 x.2.2) _ (fun _ => rfl) (fun n6 => Snd.seq (by kernel_rfl) (Snd.seq (by kernel_rfl) (Snd.exec hc _ _ _ _) (Snd.block (id := 1) (by kernel_rfl) (Snd.seq (by kernel_rfl) (Snd.seq (by kernel_rfl) (Snd.seq (by kernel_rfl) (Snd.seq (by kernel_rfl) (Snd.block (id := 2) (by kernel_rfl) (Snd.loop' (by kernel_rfl) f144s13 (fun n x => spec_MetaOk.l13 k (spec_MetaOk.l6 k n6) n x.1.2.2.1 x.1.2.2.2.1 x.1.2.2.2.2.2 x.2.1 x.2.2.1 x.2.2.2) _ (fun _ => rfl) (fun n13 => Snd.exec hc _ _ _ _) (fun n x => by kernel_rfl) k)) (Snd.exec hc _ _ _ _)) (Snd.exec hc _ _ _ _)) (Snd.exec hc _ _ _ _)) (Snd.exec hc _ _ _ _)))) (Snd.exec hc _ _ _ _)) (fun n x => by kernel_rfl) k)) (Snd.exec hc _ _ _ _))) (Snd.exec hc _ _ _ _)) (Snd.exec hc _ _ _ _)) (Snd.exec hc _ _ _ _)) (Snd.exec hc _ _ _ _))
    (fun x => by kernel_rfl)

def f55in : SS := ⟨[(0, (.ro (.list 170 (.st (.cons (.int .i64) (.cons (.int .i64) (.cons (.int .i64) (.cons .str (.cons (.int .i64) .nil)))))))))], []⟩
def f55out : SS := ⟨[(0, (.agg (.cons (.h 100) (.cons (.ro (.int .i64)) (.cons (.h 101) .nil))))), (1, (.ro .bool))], [(100, (.sl 174 (.st (.cons .str (.cons (.int .i64) (.cons (.int .i64) (.cons (.int .i64) .nil))))))), (101, (.sl 202 (.st (.cons (.int .i64) (.cons (.list 204 (.st (.cons (.int .i64) (.cons (.int .i64) (.cons (.int .i64) (.cons (.int .i64) (.cons (.int .i64) (.cons (.list 3 (.int .i64)) .nil)))))))) .nil)))))]⟩
def f55s19 : SS := ⟨[(0, (.ro (.list 170 (.st (.cons (.int .i64) (.cons (.int .i64) (.cons (.int .i64) (.cons .str (.cons (.int .i64) .nil))))))))), (2, (.p 100)), (4, (.p 101)), (5, (.h 102)), (9, (.h 103)), (11, (.p 104)), (12, (.ro (.int .i64))), (15, (.h 105)), (17, (.p 106)), (18, (.ro (.int .i64)))], [(100, (.box (.st (.cons (.list 174 (.st (.cons .str (.cons (.int .i64) (.cons (.int .i64) (.cons (.int .i64) .nil)))))) (.cons (.int .i64) (.cons (.list 202 (.st (.cons (.int .i64) (.cons (.list 204 (.st (.cons (.int .i64) (.cons (.int .i64) (.cons (.int .i64) (.cons (.int .i64) (.cons (.int .i64) (.cons (.list 3 (.int .i64)) .nil)))))))) .nil)))) .nil)))) (.agg (.cons (.h 107) (.cons (.ro (.int .i64)) (.cons (.h 108) .nil)))))), (101, (.box (.st (.cons (.list 174 (.st (.cons .str (.cons (.int .i64) (.cons (.int .i64) (.cons (.int .i64) .nil)))))) (.cons (.int .i64) (.cons (.list 202 (.st (.cons (.int .i64) (.cons (.list 204 (.st (.cons (.int .i64) (.cons (.int .i64) (.cons (.int .i64) (.cons (.int .i64) (.cons (.int .i64) (.cons (.list 3 (.int .i64)) .nil)))))))) .nil)))) .nil)))) (.agg (.cons (.h 109) (.cons (.ro (.int .i64)) (.cons (.h 110) .nil)))))), (102, (.sl 174 (.st (.cons .str (.cons (.int .i64) (.cons (.int .i64) (.cons (.int .i64) .nil))))))), (103, (.sl 3 (.int .i64))), (104, (.box (.st (.cons (.list 174 (.st (.cons .str (.cons (.int .i64) (.cons (.int .i64) (.cons (.int .i64) .nil)))))) (.cons (.int .i64) (.cons (.list 202 (.st (.cons (.int .i64) (.cons (.list 204 (.st (.cons (.int .i64) (.cons (.int .i64) (.cons (.int .i64) (.cons (.int .i64) (.cons (.int .i64) (.cons (.list 3 (.int .i64)) .nil)))))))) .nil)))) .nil)))) (.agg (.cons (.h 102) (.cons (.ro (.int .i64)) (.cons (.h 111) .nil)))))), (105, (.sl 3 (.int .i64))), (106, (.box (.st (.cons (.int .i64) (.cons (.list 204 (.st (.cons (.int .i64) (.cons (.int .i64) (.cons (.int .i64) (.cons (.int .i64) (.cons (.int .i64) (.cons (.list 3 (.int .i64)) .nil)))))))) .nil))) (.agg (.cons (.ro (.int .i64)) (.cons (.h 112) .nil))))), (107, (.sl 174 (.st (.cons .str (.cons (.int .i64) (.cons (.int .i64) (.cons (.int .i64) .nil))))))), (108, (.sl 202 (.st (.cons (.int .i64) (.cons (.list 204 (.st (.cons (.int .i64) (.cons (.int .i64) (.cons (.int .i64) (.cons (.int .i64) (.cons (.int .i64) (.cons (.list 3 (.int .i64)) .nil)))))))) .nil))))), (109, (.sl 174 (.st (.cons .str (.cons (.int .i64) (.cons (.int .i64) (.cons (.int .i64) .nil))))))), (110, (.sl 202 (.st (.cons (.int .i64) (.cons (.list 204 (.st (.cons (.int .i64) (.cons (.int .i64) (.cons (.int .i64) (.cons (.int .i64) (.cons (.int .i64) (.cons (.list 3 (.int .i64)) .nil)))))))) .nil))))), (111, (.sl 202 (.st (.cons (.int .i64) (.cons (.list 204 (.st (.cons (.int .i64) (.cons (.int .i64) (.cons (.int .i64) (.cons (.int .i64) (.cons (.int .i64) (.cons (.list 3 (.int .i64)) .nil)))))))) .nil))))), (112, (.sl 204 (.st (.cons (.int .i64) (.cons (.int .i64) (.cons (.int .i64) (.cons (.int .i64) (.cons (.int .i64) (.cons (.list 3 (.int .i64)) .nil)))))))))]⟩
def f55s11 : SS := ⟨[(0, (.ro (.list 170 (.st (.cons (.int .i64) (.cons (.int .i64) (.cons (.int .i64) (.cons .str (.cons (.int .i64) .nil))))))))), (2, (.p 100)), (4, (.p 101)), (5, (.h 102)), (9, (.h 103)), (11, (.p 104)), (12, (.ro (.int .i64)))], [(100, (.box (.st (.cons (.list 174 (.st (.cons .str (.cons (.int .i64) (.cons (.int .i64) (.cons (.int .i64) .nil)))))) (.cons (.int .i64) (.cons (.list 202 (.st (.cons (.int .i64) (.cons (.list 204 (.st (.cons (.int .i64) (.cons (.int .i64) (.cons (.int .i64) (.cons (.int .i64) (.cons (.int .i64) (.cons (.list 3 (.int .i64)) .nil)))))))) .nil)))) .nil)))) (.agg (.cons (.h 105) (.cons (.ro (.int .i64)) (.cons (.h 106) .nil)))))), (101, (.box (.st (.cons (.list 174 (.st (.cons .str (.cons (.int .i64) (.cons (.int .i64) (.cons (.int .i64) .nil)))))) (.cons (.int .i64) (.cons (.list 202 (.st (.cons (.int .i64) (.cons (.list 204 (.st (.cons (.int .i64) (.cons (.int .i64) (.cons (.int .i64) (.cons (.int .i64) (.cons (.int .i64) (.cons (.list 3 (.int .i64)) .nil)))))))) .nil)))) .nil)))) (.agg (.cons (.h 107) (.cons (.ro (.int .i64)) (.cons (.h 108) .nil)))))), (102, (.sl 174 (.st (.cons .str (.cons (.int .i64) (.cons (.int .i64) (.cons (.int .i64) .nil))))))), (103, (.sl 3 (.int .i64))), (104, (.box (.st (.cons (.list 174 (.st (.cons .str (.cons (.int .i64) (.cons (.int .i64) (.cons (.int .i64) .nil)))))) (.cons (.int .i64) (.cons (.list 202 (.st (.cons (.int .i64) (.cons (.list 204 (.st (.cons (.int .i64) (.cons (.int .i64) (.cons (.int .i64) (.cons (.int .i64) (.cons (.int .i64) (.cons (.list 3 (.int .i64)) .nil)))))))) .nil)))) .nil)))) (.agg (.cons (.h 102) (.cons (.ro (.int .i64)) (.cons (.h 109) .nil)))))), (105, (.sl 174 (.st (.cons .str (.cons (.int .i64) (.cons (.int .i64) (.cons (.int .i64) .nil))))))), (106, (.sl 202 (.st (.cons (.int .i64) (.cons (.list 204 (.st (.cons (.int .i64) (.cons (.int .i64) (.cons (.int .i64) (.cons (.int .i64) (.cons (.int .i64) (.cons (.list 3 (.int .i64)) .nil)))))))) .nil))))), (107, (.sl 174 (.st (.cons .str (.cons (.int .i64) (.cons (.int .i64) (.cons (.int .i64) .nil))))))), (108, (.sl 202 (.st (.cons (.int .i64) (.cons (.list 204 (.st (.cons (.int .i64) (.cons (.int .i64) (.cons (.int .i64) (.cons (.int .i64) (.cons (.int .i64) (.cons (.list 3 (.int .i64)) .nil)))))))) .nil))))), (109, (.sl 202 (.st (.cons (.int .i64) (.cons (.list 204 (.st (.cons (.int .i64) (.cons (.int .i64) (.cons (.int .i64) (.cons (.int .i64) (.cons (.int .i64) (.cons (.list 3 (.int .i64)) .nil)))))))) .nil)))))]⟩
def f55con (F : (List TNode) → Option (((Unit × Int × Unit × Unit) × Bool) × (List TCol) × (List TGroupMeta))) : Con := ⟨f55in, f55out, 1, 2, fun x => F x⟩
def f55ctx (k : Nat) : Ctx := ⟨tyAt tys, conAt [(86, [f86con (spec_l5Leaves k)]), (139, [f139con (spec_TreeOk k)]), (140, [f140con (spec_l5Of k)]), (141, [f141con (spec_l4NumOf k)]), (142, [f142con (spec_l18List k)]), (143, [f143con (spec_l18From k)]), (144, [f144con (spec_MetaOk k)])], 133, fun _ => false⟩
theorem f55hc (k : Nat) : CtxOk Try.prog (f55ctx k) := ctxOk tys_ok mixed_ok (consOk_cons (f86ok k) (consOk_cons (f139ok k) (consOk_cons (f140ok k) (consOk_cons (f141ok k) (consOk_cons (f142ok k) (consOk_cons (f143ok k) (consOk_cons (f144ok k) (consOk_nil))))))))
theorem f55ok (k : Nat) : FnOk Try.prog 55 (f55con (spec_MetaFrom k)) :=
  let hc := f55hc k
  fnOk (fn := Try.f55) (code := bodyOf Try.f55) (res := [.cell 2 97, .tmp 3]) hc (by kernel_rfl) (by kernel_rfl) (by decide) (by kernel_rfl) (by kernel_rfl) (by kernel_rfl) (Nat.le_of_ble_eq_true (by kernel_rfl)) _
    (fun x => Snd.seq (by kernel_rfl) (Snd.seq (by kernel_rfl) (Snd.seq (by kernel_rfl) (Snd.seq (by kernel_rfl) (Snd.seq (by kernel_rfl) (Snd.seq (by kernel_rfl) (Snd.seq (by kernel_rfl) (Snd.seq (by kernel_rfl) (Snd.seq (by kernel_rfl) (Snd.exec hc _ _ _ _) (Snd.seq (by kernel_rfl) (Snd.block (id := 0) (by kernel_rfl) (Snd.loop' (by kernel_rfl) f55s11 (fun n x => spec_MetaFrom.l11 k n x.1.1 x.1.2.2.2.2.2.2 x.2.1 x.2.2.1 x.2.2.2.1 x.2.2.2.2.1 x.2.2.2.2.2.1 x.2.2.2.2.2.2.1 x.2.2.2.2.2.2.2.1 x.2.2.2.2.2.2.2.2.1 x.2.2.2.2.2.2.2.2.2.1 x.2.2.2.2.2.2.2.2.2.2) _ (fun _ => rfl) (fun n11 => Snd.seq (by kernel_rfl) (Snd.seq (by kernel_rfl) (Snd.exec hc _ _ _ _) (Snd.block (id := 1) (by kernel_rfl) (Snd.seq (by kernel_rfl) (Snd.seq (by kernel_rfl) (Snd.seq (by kernel_rfl) (Snd.seq (by kernel_rfl) (Snd.seq (by kernel_rfl) (Snd.exec hc _ _ _ _) (Snd.seq (by kernel_rfl) (Snd.block (id := 2) (by kernel_rfl) (Snd.loop' (by kernel_rfl) f55s19 (fun n x => spec_MetaFrom.l19 k (spec_MetaFrom.l11 k n11) n x.1.1 x.1.2.2.2.2.2.2.1 x.1.2.2.2.2.2.2.2.2.2 x.2.1 x.2.2.1 x.2.2.2.1 x.2.2.2.2.1 x.2.2.2.2.2.1 x.2.2.2.2.2.2.1 x.2.2.2.2.2.2.2.1 x.2.2.2.2.2.2.2.2.1 x.2.2.2.2.2.2.2.2.2.1 x.2.2.2.2.2.2.2.2.2.2.1 x.2.2.2.2.2.2.2.2.2.2.2.1 x.2.2.2.2.2.2.2.2.2.2.2.2.1 x.2.2.2.2.2.2.2.2.2.2.2.2.2) _ (fun _ => rfl) (fun n19 => Snd.exec hc _ _ _ _) (fun n x => by kernel_rfl) k)) (Snd.exec hc _ _ _ _))) (Snd.exec hc _ _ _ _)) (Snd.exec hc _ _ _ _)) (Snd.exec hc _ _ _ _)) (Snd.exec hc _ _ _ _)))) (Snd.exec hc _ _ _ _)) (fun n x => by kernel_rfl) k)) (Snd.exec hc _ _ _ _))) (Snd.exec hc _ _ _ _)) (Snd.exec hc _ _ _ _)) (Snd.exec hc _ _ _ _)) (Snd.exec hc _ _ _ _)) (Snd.exec hc _ _ _ _)) (Snd.exec hc _ _ _ _)) (Snd.exec hc _ _ _ _)) (Snd.exec hc _ _ _ _))
    (fun x => by kernel_rfl)

def f278in : SS := ⟨[(0, (.ro (.list 5 (.int .u8)))), (1, (.ro (.int .i64)))], []⟩
def f278out : SS := ⟨[(0, (.agg (.cons (.h 100) (.cons (.ro (.int .i64)) (.cons (.h 101) .nil))))), (1, (.ro (.int .i64))), (2, (.ro .bool))], [(100, (.sl 174 (.st (.cons .str (.cons (.int .i64) (.cons (.int .i64) (.cons (.int .i64) .nil))))))), (101, (.sl 202 (.st (.cons (.int .i64) (.cons (.list 204 (.st (.cons (.int .i64) (.cons (.int .i64) (.cons (.int .i64) (.cons (.int .i64) (.cons (.int .i64) (.cons (.list 3 (.int .i64)) .nil)))))))) .nil)))))]⟩
def f278con (F : (List Int) → Int → Option (((Unit × Int × Unit × Unit) × Int × Bool) × (List TCol) × (List TGroupMeta))) : Con := ⟨f278in, f278out, 2, 3, fun x => F x.1 x.2⟩
def f278ctx (k : Nat) : Ctx := ⟨tyAt tys, conAt [(32, [f32con (spec_TreeRead k)]), (55, [f55con (spec_MetaFrom k)])], 32, fun _ => false⟩
theorem f278hc (k : Nat) : CtxOk Try.prog (f278ctx k) := ctxOk tys_ok mixed_ok (consOk_cons (f32ok k) (consOk_cons (f55ok k) (consOk_nil)))
theorem f278ok (k : Nat) : FnOk Try.prog 278 (f278con (spec_MetaRead k)) :=
  let hc := f278hc k
  fnOk (fn := Try.f278) (code := bodyOf Try.f278) (res := [.cell 4 97, .tmp 5, .tmp 6]) hc (by kernel_rfl) (by kernel_rfl) (by decide) (by kernel_rfl) (by kernel_rfl) (by kernel_rfl) (Nat.le_of_ble_eq_true (by kernel_rfl)) _
    (fun x => Snd.exec hc _ _ _ _)
    (fun x => by kernel_rfl)

def f169in : SS := ⟨[(0, (.ro (.list 5 (.int .u8))))], []⟩
def f169out : SS := ⟨[(0, (.agg (.cons (.h 100) (.cons (.ro (.int .i64)) (.cons (.h 101) .nil))))), (1, (.ro (.int .i64)))], [(100, (.sl 174 (.st (.cons .str (.cons (.int .i64) (.cons (.int .i64) (.cons (.int .i64) .nil))))))), (101, (.sl 202 (.st (.cons (.int .i64) (.cons (.list 204 (.st (.cons (.int .i64) (.cons (.int .i64) (.cons (.int .i64) (.cons (.int .i64) (.cons (.int .i64) (.cons (.list 3 (.int .i64)) .nil)))))))) .nil)))))]⟩
def f169con (F : (List Int) → Option (((Unit × Int × Unit × Unit) × Int) × (List TCol) × (List TGroupMeta))) : Con := ⟨f169in, f169out, 1, 2, fun x => F x⟩
def f169ctx (k : Nat) : Ctx := ⟨tyAt tys, conAt [(101, [f101con (spec_l1In k)]), (236, [f236con (spec_WordGet k)]), (278, [f278con (spec_MetaRead k)])], 67, fun _ => false⟩
theorem f169hc (k : Nat) : CtxOk Try.prog (f169ctx k) := ctxOk tys_ok mixed_ok (consOk_cons (f101ok k) (consOk_cons (f236ok k) (consOk_cons (f278ok k) (consOk_nil))))
theorem f169ok (k : Nat) : FnOk Try.prog 169 (f169con (spec_FileMeta k)) :=
  let hc := f169hc k
  fnOk (fn := Try.f169) (code := bodyOf Try.f169) (res := [.cell 2 97, .tmp 3]) hc (by kernel_rfl) (by kernel_rfl) (by decide) (by kernel_rfl) (by kernel_rfl) (by kernel_rfl) (Nat.le_of_ble_eq_true (by kernel_rfl)) _
    (fun x => Snd.exec hc _ _ _ _)
    (fun x => by kernel_rfl)

def f67in : SS := ⟨[(0, (.ro (.list 5 (.int .u8))))], []⟩
def f67out : SS := ⟨[(0, (.ro (.int .i64))), (1, (.ro (.int .i64))), (2, (.ro (.int .i64)))], []⟩
def f67con (F : (List Int) → Option (Int × Int × Int)) : Con := ⟨f67in, f67out, 1, 3, fun x => F x⟩
def f67ctx (k : Nat) : Ctx := ⟨tyAt tys, conAt [(169, [f169con (spec_FileMeta k)])], 18, fun _ => false⟩
theorem f67hc (k : Nat) : CtxOk Try.prog (f67ctx k) := ctxOk tys_ok mixed_ok (consOk_cons (f169ok k) (consOk_nil))
theorem f67ok (k : Nat) : FnOk Try.prog 67 (f67con (spec_FileLook k)) :=
  let hc := f67hc k
  fnOk (fn := Try.f67) (code := bodyOf Try.f67) (res := [.tmp 2, .tmp 3, .tmp 4]) hc (by kernel_rfl) (by kernel_rfl) (by decide) (by kernel_rfl) (by kernel_rfl) (by kernel_rfl) (Nat.le_of_ble_eq_true (by kernel_rfl)) _
    (fun x => Snd.exec hc _ _ _ _)
    (fun x => by kernel_rfl)

def f105in : SS := ⟨[(0, (.ro (.int .i64))), (1, (.ro (.int .i64))), (2, (.ro (.int .i64)))], []⟩
def f105out : SS := ⟨[(0, (.ro .bool))], []⟩
def f105con (F : Int → Int → Int → Option Bool) : Con := ⟨f105in, f105out, 3, 1, fun x => F x.1 x.2.1 x.2.2⟩
def f105ctx (k : Nat) : Ctx := ⟨tyAt tys, conAt [], 15, fun _ => false⟩
theorem f105hc (k : Nat) : CtxOk Try.prog (f105ctx k) := ctxOk tys_ok mixed_ok (consOk_nil)
theorem f105ok (k : Nat) : FnOk Try.prog 105 (f105con (impl_within k)) :=
  let hc := f105hc k
  fnOk (fn := Try.f105) (code := bodyOf Try.f105) (res := [.tmp 6]) hc (by kernel_rfl) (by kernel_rfl) (by decide) (by kernel_rfl) (by kernel_rfl) (by kernel_rfl) (Nat.le_of_ble_eq_true (by kernel_rfl)) _
    (fun x => Snd.exec hc _ _ _ _)
    (fun x => by kernel_rfl)

def f255in : SS := ⟨[(0, (.ro (.list 5 (.int .u8)))), (1, (.ro (.int .i64))), (2, (.ro (.int .i64)))], []⟩
def f255out : SS := ⟨[(0, (.ro (.int .i64))), (1, (.ro (.int .i64))), (2, (.ro .bool))], []⟩
def f255s5 : SS := ⟨[(0, (.ro (.list 5 (.int .u8)))), (1, (.ro (.int .i64))), (2, (.ro (.int .i64))), (9, (.ro (.int .i64))), (26, (.ro (.int .i64))), (27, (.ro (.int .i64)))], []⟩
def f255con (F : (List Int) → Int → Int → Option (Int × Int × Bool)) : Con := ⟨f255in, f255out, 3, 3, fun x => F x.1 x.2.1 x.2.2⟩
def f255ctx (k : Nat) : Ctx := ⟨tyAt tys, conAt [(105, [f105con (impl_within k)])], 47, fun _ => false⟩
theorem f255hc (k : Nat) : CtxOk Try.prog (f255ctx k) := ctxOk tys_ok mixed_ok (consOk_cons (f105ok k) (consOk_nil))
theorem f255ok (k : Nat) : FnOk Try.prog 255 (f255con (impl_WordGet k)) :=
  let hc := f255hc k
  fnOk (fn := Try.f255) (code := bodyOf Try.f255) (res := [.tmp 6, .tmp 7, .tmp 8]) hc (by kernel_rfl) (by kernel_rfl) (by decide) (by kernel_rfl) (by kernel_rfl) (by kernel_rfl) (Nat.le_of_ble_eq_true (by kernel_rfl)) _
    (fun x => Snd.seq (by kernel_rfl) (Snd.seq (by kernel_rfl) (Snd.seq (by kernel_rfl) (Snd.seq (by kernel_rfl) (Snd.exec hc _ _ _ _) (Snd.seq (by kernel_rfl) (Snd.block (id := 0) (by kernel_rfl) (Snd.loop' (by kernel_rfl) f255s5 (fun n x => impl_WordGet.l5 k n x.1 x.2.1 x.2.2.1 x.2.2.2.1 x.2.2.2.2.1 x.2.2.2.2.2) _ (fun _ => rfl) (fun n5 => Snd.exec hc _ _ _ _) (fun n x => by kernel_rfl) k)) (Snd.exec hc _ _ _ _))) (Snd.exec hc _ _ _ _)) (Snd.exec hc _ _ _ _)) (Snd.exec hc _ _ _ _))
    (fun x => by kernel_rfl)

def f212in : SS := ⟨[(0, (.p 0)), (1, (.ro (.int .i64)))], [(0, (.box (.st (.cons (.list 5 (.int .u8)) (.cons (.int .i64) (.cons (.list 170 (.st (.cons (.int .i64) (.cons (.int .i64) (.cons (.int .i64) (.cons .str (.cons (.int .i64) .nil))))))) (.cons (.int .i64) .nil))))) (.agg (.cons (.ro (.list 5 (.int .u8))) (.cons (.ro (.int .i64)) (.cons (.h 10) (.cons (.ro (.int .i64)) .nil))))))), (10, (.sl 170 (.st (.cons (.int .i64) (.cons (.int .i64) (.cons (.int .i64) (.cons .str (.cons (.int .i64) .nil))))))))]⟩
def f212out : SS := ⟨[], [(0, (.box (.st (.cons (.list 5 (.int .u8)) (.cons (.int .i64) (.cons (.list 170 (.st (.cons (.int .i64) (.cons (.int .i64) (.cons (.int .i64) (.cons .str (.cons (.int .i64) .nil))))))) (.cons (.int .i64) .nil))))) (.agg (.cons (.ro (.list 5 (.int .u8))) (.cons (.ro (.int .i64)) (.cons (.h 10) (.cons (.ro (.int .i64)) .nil))))))), (10, (.sl 170 (.st (.cons (.int .i64) (.cons (.int .i64) (.cons (.int .i64) (.cons .str (.cons (.int .i64) .nil))))))))]⟩
def f212con (F : Int → TTreeReaderB → (List TNode) → Option (Unit × TTreeReaderB × (List TNode))) : Con := ⟨f212in, f212out, 2, 0, fun x => F x.1.2 x.2.1 x.2.2⟩
def f212ctx (k : Nat) : Ctx := ⟨tyAt tys, conAt [], 13, fun _ => false⟩
theorem f212hc (k : Nat) : CtxOk Try.prog (f212ctx k) := ctxOk tys_ok mixed_ok (consOk_nil)
theorem f212ok (k : Nat) : FnOk Try.prog 212 (f212con (impl_treeReader_fail k)) :=
  let hc := f212hc k
  fnOk (fn := Try.f212) (code := bodyOf Try.f212) (res := []) hc (by kernel_rfl) (by kernel_rfl) (by decide) (by kernel_rfl) (by kernel_rfl) (by kernel_rfl) (Nat.le_of_ble_eq_true (by kernel_rfl)) _
    (fun x => Snd.exec hc _ _ _ _)
    (fun x => by kernel_rfl)

def f208in : SS := ⟨[(0, (.p 0)), (1, (.ro (.st (.cons (.int .i64) (.cons (.int .i64) (.cons (.int .i64) (.cons .str (.cons (.int .i64) .nil)))))))), (2, (.ro (.int .i64)))], [(0, (.box (.st (.cons (.list 5 (.int .u8)) (.cons (.int .i64) (.cons (.list 170 (.st (.cons (.int .i64) (.cons (.int .i64) (.cons (.int .i64) (.cons .str (.cons (.int .i64) .nil))))))) (.cons (.int .i64) .nil))))) (.agg (.cons (.ro (.list 5 (.int .u8))) (.cons (.ro (.int .i64)) (.cons (.h 10) (.cons (.ro (.int .i64)) .nil))))))), (10, (.sl 170 (.st (.cons (.int .i64) (.cons (.int .i64) (.cons (.int .i64) (.cons .str (.cons (.int .i64) .nil))))))))]⟩
def f208out : SS := ⟨[(0, (.ro (.int .i64)))], [(0, (.box (.st (.cons (.list 5 (.int .u8)) (.cons (.int .i64) (.cons (.list 170 (.st (.cons (.int .i64) (.cons (.int .i64) (.cons (.int .i64) (.cons .str (.cons (.int .i64) .nil))))))) (.cons (.int .i64) .nil))))) (.agg (.cons (.ro (.list 5 (.int .u8))) (.cons (.ro (.int .i64)) (.cons (.h 100) (.cons (.ro (.int .i64)) .nil))))))), (100, (.sl 170 (.st (.cons (.int .i64) (.cons (.int .i64) (.cons (.int .i64) (.cons .str (.cons (.int .i64) .nil))))))))]⟩
def f208s3 : SS := ⟨[(0, (.p 0)), (4, (.p 100))], [(0, (.box (.st (.cons (.list 5 (.int .u8)) (.cons (.int .i64) (.cons (.list 170 (.st (.cons (.int .i64) (.cons (.int .i64) (.cons (.int .i64) (.cons .str (.cons (.int .i64) .nil))))))) (.cons (.int .i64) .nil))))) (.agg (.cons (.ro (.list 5 (.int .u8))) (.cons (.ro (.int .i64)) (.cons (.h 10) (.cons (.ro (.int .i64)) .nil))))))), (10, (.sl 170 (.st (.cons (.int .i64) (.cons (.int .i64) (.cons (.int .i64) (.cons .str (.cons (.int .i64) .nil)))))))), (100, (.box (.st (.cons (.int .i64) (.cons (.int .i64) (.cons (.int .i64) (.cons .str (.cons (.int .i64) .nil)))))) (.agg (.cons (.ro (.int .i64)) (.cons (.ro (.int .i64)) (.cons (.ro (.int .i64)) (.cons (.ro .str) (.cons (.ro (.int .i64)) .nil))))))))]⟩
def f208con (F : TNode → Int → TTreeReaderB → (List TNode) → Option (Int × TTreeReaderB × (List TNode))) : Con := ⟨f208in, f208out, 3, 1, fun x => F x.1.2.1 x.1.2.2 x.2.1 x.2.2⟩
def f208ctx (k : Nat) : Ctx := ⟨tyAt tys, conAt [(212, [f212con (impl_treeReader_fail k)])], 40, fun _ => false⟩
theorem f208hc (k : Nat) : CtxOk Try.prog (f208ctx k) := ctxOk tys_ok mixed_ok (consOk_cons (f212ok k) (consOk_nil))
theorem f208ok (k : Nat) : FnOk Try.prog 208 (f208con (impl_treeReader_begin k)) :=
  let hc := f208hc k
  fnOk (fn := Try.f208) (code := bodyOf Try.f208) (res := [.tmp 6]) hc (by kernel_rfl) (by kernel_rfl) (by decide) (by kernel_rfl) (by kernel_rfl) (by kernel_rfl) (Nat.le_of_ble_eq_true (by kernel_rfl)) _
    (fun x => Snd.seq (by kernel_rfl) (Snd.seq (by kernel_rfl) (Snd.cut (Snd.exec hc _ _ _ _) ⟨f208s3, fun x => impl_treeReader_begin.c3 k x.2.1 x.2.2.1 x.2.2.2⟩ (fun x => by kernel_rfl)) (Snd.exec hc _ _ _ _)) (Snd.exec hc _ _ _ _))
    (fun x => by kernel_rfl)

def f209in : SS := ⟨[(0, (.ro (.int .i64)))], []⟩
def f209out : SS := ⟨[(0, (.ro (.int .i64)))], []⟩
def f209con (F : Int → Option Int) : Con := ⟨f209in, f209out, 1, 1, fun x => F x⟩
def f209ctx (k : Nat) : Ctx := ⟨tyAt tys, conAt [], 11, fun _ => false⟩
theorem f209hc (k : Nat) : CtxOk Try.prog (f209ctx k) := ctxOk tys_ok mixed_ok (consOk_nil)
theorem f209ok (k : Nat) : FnOk Try.prog 209 (f209con (impl_Zag k)) :=
  let hc := f209hc k
  fnOk (fn := Try.f209) (code := bodyOf Try.f209) (res := [.tmp 2]) hc (by kernel_rfl) (by kernel_rfl) (by decide) (by kernel_rfl) (by kernel_rfl) (by kernel_rfl) (Nat.le_of_ble_eq_true (by kernel_rfl)) _
    (fun x => Snd.exec hc _ _ _ _)
    (fun x => by kernel_rfl)

def f303in : SS := ⟨[(0, (.ro (.list 5 (.int .u8)))), (1, (.ro (.int .i64)))], []⟩
def f303out : SS := ⟨[(0, (.ro (.int .i64))), (1, (.ro (.int .i64))), (2, (.ro .bool))], []⟩
def f303s12 : SS := ⟨[], []⟩
def f303s5 : SS := ⟨[(0, (.ro (.list 5 (.int .u8)))), (1, (.ro (.int .i64))), (7, (.ro (.int .u64))), (8, (.ro (.int .i64)))], []⟩
def f303con (F : (List Int) → Int → Option (Int × Int × Bool)) : Con := ⟨f303in, f303out, 2, 3, fun x => F x.1 x.2⟩
def f303ctx (k : Nat) : Ctx := ⟨tyAt tys, conAt [], 52, fun _ => false⟩
theorem f303hc (k : Nat) : CtxOk Try.prog (f303ctx k) := ctxOk tys_ok mixed_ok (consOk_nil)
theorem f303ok (k : Nat) : FnOk Try.prog 303 (f303con (impl_UvarGet k)) :=
  let hc := f303hc k
  fnOk (fn := Try.f303) (code := bodyOf Try.f303) (res := [.tmp 4, .tmp 5, .tmp 6]) hc (by kernel_rfl) (by kernel_rfl) (by decide) (by kernel_rfl) (by kernel_rfl) (by kernel_rfl) (Nat.le_of_ble_eq_true (by kernel_rfl)) _
    (fun x => Snd.seq (by kernel_rfl) (Snd.seq (by kernel_rfl) (Snd.seq (by kernel_rfl) (Snd.seq (by kernel_rfl) (Snd.cut (Snd.exec hc _ _ _ _) ⟨f303s12, fun x => impl_UvarGet.c12 k⟩ (fun x => by kernel_rfl)) (Snd.seq (by kernel_rfl) (Snd.block (id := 0) (by kernel_rfl) (Snd.loop' (by kernel_rfl) f303s5 (fun n x => impl_UvarGet.l5 k n x.1 x.2.1 x.2.2.1 x.2.2.2) _ (fun _ => rfl) (fun n5 => Snd.exec hc _ _ _ _) (fun n x => by kernel_rfl) k)) (Snd.exec hc _ _ _ _))) (Snd.exec hc _ _ _ _)) (Snd.exec hc _ _ _ _)) (Snd.exec hc _ _ _ _))
    (fun x => by kernel_rfl)

def f210in : SS := ⟨[(0, (.p 0))], [(0, (.box (.st (.cons (.list 5 (.int .u8)) (.cons (.int .i64) (.cons (.list 170 (.st (.cons (.int .i64) (.cons (.int .i64) (.cons (.int .i64) (.cons .str (.cons (.int .i64) .nil))))))) (.cons (.int .i64) .nil))))) (.agg (.cons (.ro (.list 5 (.int .u8))) (.cons (.ro (.int .i64)) (.cons (.h 10) (.cons (.ro (.int .i64)) .nil))))))), (10, (.sl 170 (.st (.cons (.int .i64) (.cons (.int .i64) (.cons (.int .i64) (.cons .str (.cons (.int .i64) .nil))))))))]⟩
def f210out : SS := ⟨[(0, (.ro (.int .i64)))], [(0, (.box (.st (.cons (.list 5 (.int .u8)) (.cons (.int .i64) (.cons (.list 170 (.st (.cons (.int .i64) (.cons (.int .i64) (.cons (.int .i64) (.cons .str (.cons (.int .i64) .nil))))))) (.cons (.int .i64) .nil))))) (.agg (.cons (.ro (.list 5 (.int .u8))) (.cons (.ro (.int .i64)) (.cons (.h 10) (.cons (.ro (.int .i64)) .nil))))))), (10, (.sl 170 (.st (.cons (.int .i64) (.cons (.int .i64) (.cons (.int .i64) (.cons .str (.cons (.int .i64) .nil))))))))]⟩
def f210con (F : TTreeReaderB → (List TNode) → Option (Int × TTreeReaderB × (List TNode))) : Con := ⟨f210in, f210out, 1, 1, fun x => F x.2.1 x.2.2⟩
def f210ctx (k : Nat) : Ctx := ⟨tyAt tys, conAt [(212, [f212con (impl_treeReader_fail k)]), (303, [f303con (impl_UvarGet k)])], 35, fun _ => false⟩
theorem f210hc (k : Nat) : CtxOk Try.prog (f210ctx k) := ctxOk tys_ok mixed_ok (consOk_cons (f212ok k) (consOk_cons (f303ok k) (consOk_nil)))
theorem f210ok (k : Nat) : FnOk Try.prog 210 (f210con (impl_treeReader_uvar k)) :=
  let hc := f210hc k
  fnOk (fn := Try.f210) (code := bodyOf Try.f210) (res := [.tmp 2]) hc (by kernel_rfl) (by kernel_rfl) (by decide) (by kernel_rfl) (by kernel_rfl) (by kernel_rfl) (Nat.le_of_ble_eq_true (by kernel_rfl)) _
    (fun x => Snd.exec hc _ _ _ _)
    (fun x => by kernel_rfl)

def f211in : SS := ⟨[(0, (.ro (.int .i64)))], []⟩
def f211out : SS := ⟨[(0, (.ro .bool))], []⟩
def f211con (F : Int → Option Bool) : Con := ⟨f211in, f211out, 1, 1, fun x => F x⟩
def f211ctx (k : Nat) : Ctx := ⟨tyAt tys, conAt [(105, [f105con (impl_within k)])], 5, fun _ => false⟩
theorem f211hc (k : Nat) : CtxOk Try.prog (f211ctx k) := ctxOk tys_ok mixed_ok (consOk_cons (f105ok k) (consOk_nil))
theorem f211ok (k : Nat) : FnOk Try.prog 211 (f211con (impl_isInt32 k)) :=
  let hc := f211hc k
  fnOk (fn := Try.f211) (code := bodyOf Try.f211) (res := [.tmp 2]) hc (by kernel_rfl) (by kernel_rfl) (by decide) (by kernel_rfl) (by kernel_rfl) (by kernel_rfl) (Nat.le_of_ble_eq_true (by kernel_rfl)) _
    (fun x => Snd.exec hc _ _ _ _)
    (fun x => by kernel_rfl)

def f213in : SS := ⟨[(0, (.p 0))], [(0, (.box (.st (.cons (.list 5 (.int .u8)) (.cons (.int .i64) (.cons (.list 170 (.st (.cons (.int .i64) (.cons (.int .i64) (.cons (.int .i64) (.cons .str (.cons (.int .i64) .nil))))))) (.cons (.int .i64) .nil))))) (.agg (.cons (.ro (.list 5 (.int .u8))) (.cons (.ro (.int .i64)) (.cons (.h 10) (.cons (.ro (.int .i64)) .nil))))))), (10, (.sl 170 (.st (.cons (.int .i64) (.cons (.int .i64) (.cons (.int .i64) (.cons .str (.cons (.int .i64) .nil))))))))]⟩
def f213out : SS := ⟨[(0, (.ro .str))], [(0, (.box (.st (.cons (.list 5 (.int .u8)) (.cons (.int .i64) (.cons (.list 170 (.st (.cons (.int .i64) (.cons (.int .i64) (.cons (.int .i64) (.cons .str (.cons (.int .i64) .nil))))))) (.cons (.int .i64) .nil))))) (.agg (.cons (.ro (.list 5 (.int .u8))) (.cons (.ro (.int .i64)) (.cons (.h 10) (.cons (.ro (.int .i64)) .nil))))))), (10, (.sl 170 (.st (.cons (.int .i64) (.cons (.int .i64) (.cons (.int .i64) (.cons .str (.cons (.int .i64) .nil))))))))]⟩
def f213s6 : SS := ⟨[(0, (.p 0)), (3, (.ro (.int .i64)))], [(0, (.box (.st (.cons (.list 5 (.int .u8)) (.cons (.int .i64) (.cons (.list 170 (.st (.cons (.int .i64) (.cons (.int .i64) (.cons (.int .i64) (.cons .str (.cons (.int .i64) .nil))))))) (.cons (.int .i64) .nil))))) (.agg (.cons (.ro (.list 5 (.int .u8))) (.cons (.ro (.int .i64)) (.cons (.h 10) (.cons (.ro (.int .i64)) .nil))))))), (10, (.sl 170 (.st (.cons (.int .i64) (.cons (.int .i64) (.cons (.int .i64) (.cons .str (.cons (.int .i64) .nil))))))))]⟩
def f213s4 : SS := ⟨[(0, (.p 0)), (3, (.ro (.int .i64)))], [(0, (.box (.st (.cons (.list 5 (.int .u8)) (.cons (.int .i64) (.cons (.list 170 (.st (.cons (.int .i64) (.cons (.int .i64) (.cons (.int .i64) (.cons .str (.cons (.int .i64) .nil))))))) (.cons (.int .i64) .nil))))) (.agg (.cons (.ro (.list 5 (.int .u8))) (.cons (.ro (.int .i64)) (.cons (.h 10) (.cons (.ro (.int .i64)) .nil))))))), (10, (.sl 170 (.st (.cons (.int .i64) (.cons (.int .i64) (.cons (.int .i64) (.cons .str (.cons (.int .i64) .nil))))))))]⟩
def f213con (F : TTreeReaderB → (List TNode) → Option (ByteArray × TTreeReaderB × (List TNode))) : Con := ⟨f213in, f213out, 1, 1, fun x => F x.2.1 x.2.2⟩
def f213ctx (k : Nat) : Ctx := ⟨tyAt tys, conAt [(105, [f105con (impl_within k)]), (210, [f210con (impl_treeReader_uvar k)]), (212, [f212con (impl_treeReader_fail k)])], 68, fun _ => false⟩
theorem f213hc (k : Nat) : CtxOk Try.prog (f213ctx k) := ctxOk tys_ok mixed_ok (consOk_cons (f105ok k) (consOk_cons (f210ok k) (consOk_cons (f212ok k) (consOk_nil))))
theorem f213ok (k : Nat) : FnOk Try.prog 213 (f213con (impl_treeReader_text k)) :=
  let hc := f213hc k
  fnOk (fn := Try.f213) (code := bodyOf Try.f213) (res := [.tmp 2]) hc (by kernel_rfl) (by kernel_rfl) (by decide) (by kernel_rfl) (by kernel_rfl) (by kernel_rfl) (Nat.le_of_ble_eq_true (by kernel_rfl)) _
    (fun x => Snd.seq (by kernel_rfl) (Snd.seq (by kernel_rfl) (Snd.seq (by kernel_rfl) (Snd.cut (Snd.seq (by kernel_rfl) (Snd.cut (Snd.exec hc _ _ _ _) ⟨f213s6, fun x => impl_treeReader_text.c6 k x.1.2 x.2.1 x.2.2⟩ (fun x => by kernel_rfl)) (Snd.exec hc _ _ _ _)) ⟨f213s4, fun x => impl_treeReader_text.c4 k x.1.2 x.2.1 x.2.2⟩ (fun x => by kernel_rfl)) (Snd.exec hc _ _ _ _)) (Snd.exec hc _ _ _ _)) (Snd.exec hc _ _ _ _))
    (fun x => by kernel_rfl)

def f304in : SS := ⟨[(0, (.p 0))], [(0, (.box (.st (.cons (.list 5 (.int .u8)) (.cons (.int .i64) (.cons (.list 170 (.st (.cons (.int .i64) (.cons (.int .i64) (.cons (.int .i64) (.cons .str (.cons (.int .i64) .nil))))))) (.cons (.int .i64) .nil))))) (.agg (.cons (.ro (.list 5 (.int .u8))) (.cons (.ro (.int .i64)) (.cons (.h 10) (.cons (.ro (.int .i64)) .nil))))))), (10, (.sl 170 (.st (.cons (.int .i64) (.cons (.int .i64) (.cons (.int .i64) (.cons .str (.cons (.int .i64) .nil))))))))]⟩
def f304out : SS := ⟨[(0, (.ro (.int .i64)))], [(0, (.box (.st (.cons (.list 5 (.int .u8)) (.cons (.int .i64) (.cons (.list 170 (.st (.cons (.int .i64) (.cons (.int .i64) (.cons (.int .i64) (.cons .str (.cons (.int .i64) .nil))))))) (.cons (.int .i64) .nil))))) (.agg (.cons (.ro (.list 5 (.int .u8))) (.cons (.ro (.int .i64)) (.cons (.h 10) (.cons (.ro (.int .i64)) .nil))))))), (10, (.sl 170 (.st (.cons (.int .i64) (.cons (.int .i64) (.cons (.int .i64) (.cons .str (.cons (.int .i64) .nil))))))))]⟩
def f304con (F : TTreeReaderB → (List TNode) → Option (Int × TTreeReaderB × (List TNode))) : Con := ⟨f304in, f304out, 1, 1, fun x => F x.2.1 x.2.2⟩
def f304ctx (k : Nat) : Ctx := ⟨tyAt tys, conAt [(212, [f212con (impl_treeReader_fail k)])], 41, fun _ => false⟩
theorem f304hc (k : Nat) : CtxOk Try.prog (f304ctx k) := ctxOk tys_ok mixed_ok (consOk_cons (f212ok k) (consOk_nil))
theorem f304ok (k : Nat) : FnOk Try.prog 304 (f304con (impl_treeReader_one k)) :=
  let hc := f304hc k
  fnOk (fn := Try.f304) (code := bodyOf Try.f304) (res := [.tmp 2]) hc (by kernel_rfl) (by kernel_rfl) (by decide) (by kernel_rfl) (by kernel_rfl) (by kernel_rfl) (Nat.le_of_ble_eq_true (by kernel_rfl)) _
    (fun x => Snd.exec hc _ _ _ _)
    (fun x => by kernel_rfl)

def f305in : SS := ⟨[(0, (.ro (.int .i64))), (1, (.ro .bool))], []⟩
def f305out : SS := ⟨[(0, (.ro .bool))], []⟩
def f305s10 : SS := ⟨[(11, (.ro .bool))], []⟩
def f305s4 : SS := ⟨[(1, (.ro .bool)), (5, (.ro (.int .i64))), (6, (.ro .bool))], []⟩
def f305con (F : Int → Bool → Option Bool) : Con := ⟨f305in, f305out, 2, 1, fun x => F x.1 x.2⟩
def f305ctx (k : Nat) : Ctx := ⟨tyAt tys, conAt [], 17, fun _ => false⟩
theorem f305hc (k : Nat) : CtxOk Try.prog (f305ctx k) := ctxOk tys_ok mixed_ok (consOk_nil)
theorem f305ok (k : Nat) : FnOk Try.prog 305 (f305con (impl_isType k)) :=
  let hc := f305hc k
  fnOk (fn := Try.f305) (code := bodyOf Try.f305) (res := [.tmp 4]) hc (by kernel_rfl) (by kernel_rfl) (by decide) (by kernel_rfl) (by kernel_rfl) (by kernel_rfl) (Nat.le_of_ble_eq_true (by kernel_rfl)) _
    (fun x => Snd.seq (by kernel_rfl) (Snd.seq (by kernel_rfl) (Snd.exec hc _ _ _ _) (Snd.seq (by kernel_rfl) (Snd.block (id := 0) (by kernel_rfl) (Snd.seq (by kernel_rfl) (Snd.cut (Snd.cond (x := .tmp 6) (by kernel_rfl) (Snd.exec hc _ _ _ _) (Snd.seq (by kernel_rfl) (Snd.cut (Snd.exec hc _ _ _ _) ⟨f305s10, fun x => impl_isType.c10 k x⟩ (fun x => by kernel_rfl)) (Snd.exec hc _ _ _ _))) ⟨f305s4, fun x => impl_isType.c4 k x.1 x.2.1 x.2.2⟩ (fun x => by kernel_rfl)) (Snd.exec hc _ _ _ _))) (Snd.exec hc _ _ _ _))) (Snd.exec hc _ _ _ _))
    (fun x => by kernel_rfl)

def f111in : SS := ⟨[(0, (.p 0)), (1, (.ro (.int .i64))), (2, (.ro (.int .i64))), (3, (.ro (.int .i64)))], [(0, (.box (.st (.cons (.list 5 (.int .u8)) (.cons (.int .i64) (.cons (.list 170 (.st (.cons (.int .i64) (.cons (.int .i64) (.cons (.int .i64) (.cons .str (.cons (.int .i64) .nil))))))) (.cons (.int .i64) .nil))))) (.agg (.cons (.ro (.list 5 (.int .u8))) (.cons (.ro (.int .i64)) (.cons (.h 10) (.cons (.ro (.int .i64)) .nil))))))), (10, (.sl 170 (.st (.cons (.int .i64) (.cons (.int .i64) (.cons (.int .i64) (.cons .str (.cons (.int .i64) .nil))))))))]⟩
def f111out : SS := ⟨[], [(0, (.box (.st (.cons (.list 5 (.int .u8)) (.cons (.int .i64) (.cons (.list 170 (.st (.cons (.int .i64) (.cons (.int .i64) (.cons (.int .i64) (.cons .str (.cons (.int .i64) .nil))))))) (.cons (.int .i64) .nil))))) (.agg (.cons (.ro (.list 5 (.int .u8))) (.cons (.ro (.int .i64)) (.cons (.h 100) (.cons (.ro (.int .i64)) .nil))))))), (100, (.sl 170 (.st (.cons (.int .i64) (.cons (.int .i64) (.cons (.int .i64) (.cons .str (.cons (.int .i64) .nil))))))))]⟩
def f111s8 : SS := ⟨[(0, (.p 0)), (8, (.ro (.int .i64))), (9, (.ro (.int .i64)))], [(0, (.box (.st (.cons (.list 5 (.int .u8)) (.cons (.int .i64) (.cons (.list 170 (.st (.cons (.int .i64) (.cons (.int .i64) (.cons (.int .i64) (.cons .str (.cons (.int .i64) .nil))))))) (.cons (.int .i64) .nil))))) (.agg (.cons (.ro (.list 5 (.int .u8))) (.cons (.ro (.int .i64)) (.cons (.h 100) (.cons (.ro (.int .i64)) .nil))))))), (100, (.sl 170 (.st (.cons (.int .i64) (.cons (.int .i64) (.cons (.int .i64) (.cons .str (.cons (.int .i64) .nil))))))))]⟩
def f111d10 : SS := ⟨[(0, (.p 0)), (8, (.ro (.int .i64)))], [(0, (.box (.st (.cons (.list 5 (.int .u8)) (.cons (.int .i64) (.cons (.list 170 (.st (.cons (.int .i64) (.cons (.int .i64) (.cons (.int .i64) (.cons .str (.cons (.int .i64) .nil))))))) (.cons (.int .i64) .nil))))) (.agg (.cons (.ro (.list 5 (.int .u8))) (.cons (.ro (.int .i64)) (.cons (.h 100) (.cons (.ro (.int .i64)) .nil))))))), (100, (.sl 170 (.st (.cons (.int .i64) (.cons (.int .i64) (.cons (.int .i64) (.cons .str (.cons (.int .i64) .nil))))))))]⟩
def f111s5 : SS := ⟨[(0, (.p 0)), (1, (.ro (.int .i64))), (3, (.ro (.int .i64))), (8, (.ro (.int .i64))), (21, (.ro (.int .i64))), (22, (.ro .bool))], [(0, (.box (.st (.cons (.list 5 (.int .u8)) (.cons (.int .i64) (.cons (.list 170 (.st (.cons (.int .i64) (.cons (.int .i64) (.cons (.int .i64) (.cons .str (.cons (.int .i64) .nil))))))) (.cons (.int .i64) .nil))))) (.agg (.cons (.ro (.list 5 (.int .u8))) (.cons (.ro (.int .i64)) (.cons (.h 100) (.cons (.ro (.int .i64)) .nil))))))), (100, (.sl 170 (.st (.cons (.int .i64) (.cons (.int .i64) (.cons (.int .i64) (.cons .str (.cons (.int .i64) .nil))))))))]⟩
def f111con (F : Int → Int → Int → TTreeReaderB → (List TNode) → Option (Unit × TTreeReaderB × (List TNode))) : Con := ⟨f111in, f111out, 4, 0, fun x => F x.1.2.1 x.1.2.2.1 x.1.2.2.2 x.2.1 x.2.2⟩
def f214in : SS := ⟨[(0, (.p 0)), (1, (.ro (.int .i64))), (2, (.ro (.int .i64)))], [(0, (.box (.st (.cons (.list 5 (.int .u8)) (.cons (.int .i64) (.cons (.list 170 (.st (.cons (.int .i64) (.cons (.int .i64) (.cons (.int .i64) (.cons .str (.cons (.int .i64) .nil))))))) (.cons (.int .i64) .nil))))) (.agg (.cons (.ro (.list 5 (.int .u8))) (.cons (.ro (.int .i64)) (.cons (.h 10) (.cons (.ro (.int .i64)) .nil))))))), (10, (.sl 170 (.st (.cons (.int .i64) (.cons (.int .i64) (.cons (.int .i64) (.cons .str (.cons (.int .i64) .nil))))))))]⟩
def f214out : SS := ⟨[], [(0, (.box (.st (.cons (.list 5 (.int .u8)) (.cons (.int .i64) (.cons (.list 170 (.st (.cons (.int .i64) (.cons (.int .i64) (.cons (.int .i64) (.cons .str (.cons (.int .i64) .nil))))))) (.cons (.int .i64) .nil))))) (.agg (.cons (.ro (.list 5 (.int .u8))) (.cons (.ro (.int .i64)) (.cons (.h 100) (.cons (.ro (.int .i64)) .nil))))))), (100, (.sl 170 (.st (.cons (.int .i64) (.cons (.int .i64) (.cons (.int .i64) (.cons .str (.cons (.int .i64) .nil))))))))]⟩
def f214s11 : SS := ⟨[(0, (.p 0)), (2, (.ro (.int .i64))), (7, (.ro (.int .i64))), (8, (.ro (.int .i64))), (9, (.ro (.int .i64)))], [(0, (.box (.st (.cons (.list 5 (.int .u8)) (.cons (.int .i64) (.cons (.list 170 (.st (.cons (.int .i64) (.cons (.int .i64) (.cons (.int .i64) (.cons .str (.cons (.int .i64) .nil))))))) (.cons (.int .i64) .nil))))) (.agg (.cons (.ro (.list 5 (.int .u8))) (.cons (.ro (.int .i64)) (.cons (.h 100) (.cons (.ro (.int .i64)) .nil))))))), (100, (.sl 170 (.st (.cons (.int .i64) (.cons (.int .i64) (.cons (.int .i64) (.cons .str (.cons (.int .i64) .nil))))))))]⟩
def f214s9 : SS := ⟨[(0, (.p 0)), (1, (.ro (.int .i64))), (2, (.ro (.int .i64))), (7, (.ro (.int .i64))), (8, (.ro (.int .i64)))], [(0, (.box (.st (.cons (.list 5 (.int .u8)) (.cons (.int .i64) (.cons (.list 170 (.st (.cons (.int .i64) (.cons (.int .i64) (.cons (.int .i64) (.cons .str (.cons (.int .i64) .nil))))))) (.cons (.int .i64) .nil))))) (.agg (.cons (.ro (.list 5 (.int .u8))) (.cons (.ro (.int .i64)) (.cons (.h 10) (.cons (.ro (.int .i64)) .nil))))))), (10, (.sl 170 (.st (.cons (.int .i64) (.cons (.int .i64) (.cons (.int .i64) (.cons .str (.cons (.int .i64) .nil))))))))]⟩
def f214s7 : SS := ⟨[(0, (.p 0)), (1, (.ro (.int .i64))), (2, (.ro (.int .i64))), (7, (.ro (.int .i64))), (8, (.ro (.int .i64)))], [(0, (.box (.st (.cons (.list 5 (.int .u8)) (.cons (.int .i64) (.cons (.list 170 (.st (.cons (.int .i64) (.cons (.int .i64) (.cons (.int .i64) (.cons .str (.cons (.int .i64) .nil))))))) (.cons (.int .i64) .nil))))) (.agg (.cons (.ro (.list 5 (.int .u8))) (.cons (.ro (.int .i64)) (.cons (.h 10) (.cons (.ro (.int .i64)) .nil))))))), (10, (.sl 170 (.st (.cons (.int .i64) (.cons (.int .i64) (.cons (.int .i64) (.cons .str (.cons (.int .i64) .nil))))))))]⟩
def f214s4 : SS := ⟨[(0, (.p 0)), (1, (.ro (.int .i64))), (2, (.ro (.int .i64))), (7, (.ro (.int .i64))), (8, (.ro (.int .i64)))], [(0, (.box (.st (.cons (.list 5 (.int .u8)) (.cons (.int .i64) (.cons (.list 170 (.st (.cons (.int .i64) (.cons (.int .i64) (.cons (.int .i64) (.cons .str (.cons (.int .i64) .nil))))))) (.cons (.int .i64) .nil))))) (.agg (.cons (.ro (.list 5 (.int .u8))) (.cons (.ro (.int .i64)) (.cons (.h 10) (.cons (.ro (.int .i64)) .nil))))))), (10, (.sl 170 (.st (.cons (.int .i64) (.cons (.int .i64) (.cons (.int .i64) (.cons .str (.cons (.int .i64) .nil))))))))]⟩
def f214con (F : Int → Int → TTreeReaderB → (List TNode) → Option (Unit × TTreeReaderB × (List TNode))) : Con := ⟨f214in, f214out, 3, 0, fun x => F x.1.2.1 x.1.2.2 x.2.1 x.2.2⟩
def f215in : SS := ⟨[(0, (.p 0)), (1, (.ro (.int .i64))), (2, (.ro (.int .i64)))], [(0, (.box (.st (.cons (.list 5 (.int .u8)) (.cons (.int .i64) (.cons (.list 170 (.st (.cons (.int .i64) (.cons (.int .i64) (.cons (.int .i64) (.cons .str (.cons (.int .i64) .nil))))))) (.cons (.int .i64) .nil))))) (.agg (.cons (.ro (.list 5 (.int .u8))) (.cons (.ro (.int .i64)) (.cons (.h 10) (.cons (.ro (.int .i64)) .nil))))))), (10, (.sl 170 (.st (.cons (.int .i64) (.cons (.int .i64) (.cons (.int .i64) (.cons .str (.cons (.int .i64) .nil))))))))]⟩
def f215out : SS := ⟨[], [(0, (.box (.st (.cons (.list 5 (.int .u8)) (.cons (.int .i64) (.cons (.list 170 (.st (.cons (.int .i64) (.cons (.int .i64) (.cons (.int .i64) (.cons .str (.cons (.int .i64) .nil))))))) (.cons (.int .i64) .nil))))) (.agg (.cons (.ro (.list 5 (.int .u8))) (.cons (.ro (.int .i64)) (.cons (.h 100) (.cons (.ro (.int .i64)) .nil))))))), (100, (.sl 170 (.st (.cons (.int .i64) (.cons (.int .i64) (.cons (.int .i64) (.cons .str (.cons (.int .i64) .nil))))))))]⟩
def f215s12 : SS := ⟨[(0, (.p 0)), (1, (.ro (.int .i64))), (2, (.ro (.int .i64))), (8, (.ro (.int .i64))), (9, (.ro (.int .i64)))], [(0, (.box (.st (.cons (.list 5 (.int .u8)) (.cons (.int .i64) (.cons (.list 170 (.st (.cons (.int .i64) (.cons (.int .i64) (.cons (.int .i64) (.cons .str (.cons (.int .i64) .nil))))))) (.cons (.int .i64) .nil))))) (.agg (.cons (.ro (.list 5 (.int .u8))) (.cons (.ro (.int .i64)) (.cons (.h 100) (.cons (.ro (.int .i64)) .nil))))))), (100, (.sl 170 (.st (.cons (.int .i64) (.cons (.int .i64) (.cons (.int .i64) (.cons .str (.cons (.int .i64) .nil))))))))]⟩
def f215s10 : SS := ⟨[(0, (.p 0)), (1, (.ro (.int .i64))), (2, (.ro (.int .i64))), (6, (.ro (.int .i64))), (8, (.ro (.int .i64))), (9, (.ro (.int .i64)))], [(0, (.box (.st (.cons (.list 5 (.int .u8)) (.cons (.int .i64) (.cons (.list 170 (.st (.cons (.int .i64) (.cons (.int .i64) (.cons (.int .i64) (.cons .str (.cons (.int .i64) .nil))))))) (.cons (.int .i64) .nil))))) (.agg (.cons (.ro (.list 5 (.int .u8))) (.cons (.ro (.int .i64)) (.cons (.h 100) (.cons (.ro (.int .i64)) .nil))))))), (100, (.sl 170 (.st (.cons (.int .i64) (.cons (.int .i64) (.cons (.int .i64) (.cons .str (.cons (.int .i64) .nil))))))))]⟩
def f215s8 : SS := ⟨[(0, (.p 0)), (1, (.ro (.int .i64))), (2, (.ro (.int .i64))), (6, (.ro (.int .i64))), (8, (.ro (.int .i64))), (9, (.ro (.int .i64)))], [(0, (.box (.st (.cons (.list 5 (.int .u8)) (.cons (.int .i64) (.cons (.list 170 (.st (.cons (.int .i64) (.cons (.int .i64) (.cons (.int .i64) (.cons .str (.cons (.int .i64) .nil))))))) (.cons (.int .i64) .nil))))) (.agg (.cons (.ro (.list 5 (.int .u8))) (.cons (.ro (.int .i64)) (.cons (.h 100) (.cons (.ro (.int .i64)) .nil))))))), (100, (.sl 170 (.st (.cons (.int .i64) (.cons (.int .i64) (.cons (.int .i64) (.cons .str (.cons (.int .i64) .nil))))))))]⟩
def f215s6 : SS := ⟨[(0, (.p 0)), (1, (.ro (.int .i64))), (2, (.ro (.int .i64))), (6, (.ro (.int .i64))), (7, (.ro (.int .i64))), (8, (.ro (.int .i64))), (9, (.ro (.int .i64)))], [(0, (.box (.st (.cons (.list 5 (.int .u8)) (.cons (.int .i64) (.cons (.list 170 (.st (.cons (.int .i64) (.cons (.int .i64) (.cons (.int .i64) (.cons .str (.cons (.int .i64) .nil))))))) (.cons (.int .i64) .nil))))) (.agg (.cons (.ro (.list 5 (.int .u8))) (.cons (.ro (.int .i64)) (.cons (.h 100) (.cons (.ro (.int .i64)) .nil))))))), (100, (.sl 170 (.st (.cons (.int .i64) (.cons (.int .i64) (.cons (.int .i64) (.cons .str (.cons (.int .i64) .nil))))))))]⟩
def f215s1 : SS := ⟨[(0, (.p 0)), (1, (.ro (.int .i64))), (2, (.ro (.int .i64))), (6, (.ro (.int .i64)))], [(0, (.box (.st (.cons (.list 5 (.int .u8)) (.cons (.int .i64) (.cons (.list 170 (.st (.cons (.int .i64) (.cons (.int .i64) (.cons (.int .i64) (.cons .str (.cons (.int .i64) .nil))))))) (.cons (.int .i64) .nil))))) (.agg (.cons (.ro (.list 5 (.int .u8))) (.cons (.ro (.int .i64)) (.cons (.h 100) (.cons (.ro (.int .i64)) .nil))))))), (100, (.sl 170 (.st (.cons (.int .i64) (.cons (.int .i64) (.cons (.int .i64) (.cons .str (.cons (.int .i64) .nil))))))))]⟩
def f215con (F : Int → Int → TTreeReaderB → (List TNode) → Option (Unit × TTreeReaderB × (List TNode))) : Con := ⟨f215in, f215out, 3, 0, fun x => F x.1.2.1 x.1.2.2 x.2.1 x.2.2⟩
def f111ctx (k : Nat) (S111 : Int → Int → Int → TTreeReaderB → (List TNode) → Option (Unit × TTreeReaderB × (List TNode))) (S214 : Int → Int → TTreeReaderB → (List TNode) → Option (Unit × TTreeReaderB × (List TNode))) (S215 : Int → Int → TTreeReaderB → (List TNode) → Option (Unit × TTreeReaderB × (List TNode))) : Ctx := ⟨tyAt tys, conAt [(208, [f208con (impl_treeReader_begin k)]), (209, [f209con (impl_Zag k)]), (210, [f210con (impl_treeReader_uvar k)]), (211, [f211con (impl_isInt32 k)]), (212, [f212con (impl_treeReader_fail k)]), (213, [f213con (impl_treeReader_text k)]), (214, [f214con S214]), (215, [f215con S215])], 75, fun _ => false⟩
theorem f111hc (k : Nat) (S111 : Int → Int → Int → TTreeReaderB → (List TNode) → Option (Unit × TTreeReaderB × (List TNode))) (S214 : Int → Int → TTreeReaderB → (List TNode) → Option (Unit × TTreeReaderB × (List TNode))) (S215 : Int → Int → TTreeReaderB → (List TNode) → Option (Unit × TTreeReaderB × (List TNode))) (h111 : FnOk Try.prog 111 (f111con S111)) (h214 : FnOk Try.prog 214 (f214con S214)) (h215 : FnOk Try.prog 215 (f215con S215)) : CtxOk Try.prog (f111ctx k S111 S214 S215) := ctxOk tys_ok mixed_ok (consOk_cons (f208ok k) (consOk_cons (f209ok k) (consOk_cons (f210ok k) (consOk_cons (f211ok k) (consOk_cons (f212ok k) (consOk_cons (f213ok k) (consOk_cons (h214) (consOk_cons (h215) (consOk_nil)))))))))
theorem f111okb (k : Nat) (S111 : Int → Int → Int → TTreeReaderB → (List TNode) → Option (Unit × TTreeReaderB × (List TNode))) (S214 : Int → Int → TTreeReaderB → (List TNode) → Option (Unit × TTreeReaderB × (List TNode))) (S215 : Int → Int → TTreeReaderB → (List TNode) → Option (Unit × TTreeReaderB × (List TNode))) (h111 : FnOk Try.prog 111 (f111con S111)) (h214 : FnOk Try.prog 214 (f214con S214)) (h215 : FnOk Try.prog 215 (f215con S215)) : FnOk Try.prog 111 (f111con (impl_treeReader_node.b k S111 S214 S215)) :=
  let hc := f111hc k S111 S214 S215 h111 h214 h215
  fnOk (fn := Try.f111) (code := bodyOf Try.f111) (res := []) hc (by kernel_rfl) (by kernel_rfl) (by decide) (by kernel_rfl) (by kernel_rfl) (by kernel_rfl) (Nat.le_of_ble_eq_true (by kernel_rfl)) _
    (fun x => Snd.seq (by kernel_rfl) (Snd.seq (by kernel_rfl) (Snd.seq (by kernel_rfl) (Snd.block (id := 0) (by kernel_rfl) (Snd.seq (by kernel_rfl) (Snd.cut (Snd.cond (x := .tmp 22) (by kernel_rfl) (Snd.seq (by kernel_rfl) (Snd.seq (by kernel_rfl) (Snd.cut (Snd.exec hc _ _ _ _) ⟨f111s8, fun x => impl_treeReader_node.c8 k x.1.2.1 x.1.2.2 x.2.1 x.2.2⟩ (fun x => by kernel_rfl)) (Snd.exec hc _ _ _ _)) (Snd.exec hc _ _ _ _)) (Snd.seq (by kernel_rfl) (Snd.cond (x := .tmp 52) (by kernel_rfl) (Snd.fork hc (id := 10) (by kernel_rfl) ⟨f111d10, fun x => impl_treeReader_node.d10 k x.1.2 x.2.1 x.2.2⟩ [[0, 1, 2, 4, 5, 3, 6, 7, 8, 9], [0, 1, 2, 4, 5, 6, 3, 7, 8, 9]] (by kernel_rfl) (ords_cons (fun x => by kernel_rfl) (ords_cons (fun x => by kernel_rfl) (ords_nil)))) (Snd.exec hc _ _ _ _)) (Snd.exec hc _ _ _ _))) ⟨f111s5, fun x => impl_treeReader_node.c5 k S214 S215 x.1.2.1 x.1.2.2.1 x.1.2.2.2.1 x.1.2.2.2.2.1 x.1.2.2.2.2.2 x.2.1 x.2.2⟩ (fun x => by kernel_rfl)) (Snd.exec hc _ _ _ _))) (Snd.exec hc _ _ _ _)) (Snd.exec hc _ _ _ _)) (Snd.exec hc _ _ _ _))
    (fun x => by kernel_rfl)
def f214ctx (k : Nat) (S111 : Int → Int → Int → TTreeReaderB → (List TNode) → Option (Unit × TTreeReaderB × (List TNode))) (S214 : Int → Int → TTreeReaderB → (List TNode) → Option (Unit × TTreeReaderB × (List TNode))) (S215 : Int → Int → TTreeReaderB → (List TNode) → Option (Unit × TTreeReaderB × (List TNode))) : Ctx := ⟨tyAt tys, conAt [(105, [f105con (impl_within k)]), (111, [f111con S111]), (210, [f210con (impl_treeReader_uvar k)]), (212, [f212con (impl_treeReader_fail k)]), (304, [f304con (impl_treeReader_one k)]), (305, [f305con (impl_isType k)])], 72, fun _ => false⟩
theorem f214hc (k : Nat) (S111 : Int → Int → Int → TTreeReaderB → (List TNode) → Option (Unit × TTreeReaderB × (List TNode))) (S214 : Int → Int → TTreeReaderB → (List TNode) → Option (Unit × TTreeReaderB × (List TNode))) (S215 : Int → Int → TTreeReaderB → (List TNode) → Option (Unit × TTreeReaderB × (List TNode))) (h111 : FnOk Try.prog 111 (f111con S111)) (h214 : FnOk Try.prog 214 (f214con S214)) (h215 : FnOk Try.prog 215 (f215con S215)) : CtxOk Try.prog (f214ctx k S111 S214 S215) := ctxOk tys_ok mixed_ok (consOk_cons (f105ok k) (consOk_cons (h111) (consOk_cons (f210ok k) (consOk_cons (f212ok k) (consOk_cons (f304ok k) (consOk_cons (f305ok k) (consOk_nil)))))))
theorem f214okb (k : Nat) (S111 : Int → Int → Int → TTreeReaderB → (List TNode) → Option (Unit × TTreeReaderB × (List TNode))) (S214 : Int → Int → TTreeReaderB → (List TNode) → Option (Unit × TTreeReaderB × (List TNode))) (S215 : Int → Int → TTreeReaderB → (List TNode) → Option (Unit × TTreeReaderB × (List TNode))) (h111 : FnOk Try.prog 111 (f111con S111)) (h214 : FnOk Try.prog 214 (f214con S214)) (h215 : FnOk Try.prog 215 (f215con S215)) : FnOk Try.prog 214 (f214con (impl_treeReader_parts.b k S111 S214 S215)) :=
  let hc := f214hc k S111 S214 S215 h111 h214 h215
  fnOk (fn := Try.f214) (code := bodyOf Try.f214) (res := []) hc (by kernel_rfl) (by kernel_rfl) (by decide) (by kernel_rfl) (by kernel_rfl) (by kernel_rfl) (Nat.le_of_ble_eq_true (by kernel_rfl)) _
    (fun x => Snd.seq (by kernel_rfl) (Snd.seq (by kernel_rfl) (Snd.seq (by kernel_rfl) (Snd.cut (Snd.seq (by kernel_rfl) (Snd.seq (by kernel_rfl) (Snd.cut (Snd.seq (by kernel_rfl) (Snd.cut (Snd.seq (by kernel_rfl) (Snd.seq (by kernel_rfl) (Snd.block (id := 0) (by kernel_rfl) (Snd.loop' (by kernel_rfl) f214s11 (fun n x => impl_treeReader_parts.l11 k S111 n x.1.2.1 x.1.2.2.1 x.1.2.2.2.1 x.1.2.2.2.2 x.2.1 x.2.2) _ (fun _ => rfl) (fun n11 => Snd.exec hc _ _ _ _) (fun n x => by kernel_rfl) k)) (Snd.exec hc _ _ _ _)) (Snd.exec hc _ _ _ _)) ⟨f214s9, fun x => impl_treeReader_parts.c9 k S111 x.1.2.1 x.1.2.2.1 x.1.2.2.2.1 x.1.2.2.2.2 x.2.1 x.2.2⟩ (fun x => by kernel_rfl)) (Snd.exec hc _ _ _ _)) ⟨f214s7, fun x => impl_treeReader_parts.c7 k S111 x.1.2.1 x.1.2.2.1 x.1.2.2.2.1 x.1.2.2.2.2 x.2.1 x.2.2⟩ (fun x => by kernel_rfl)) (Snd.exec hc _ _ _ _)) (Snd.exec hc _ _ _ _)) ⟨f214s4, fun x => impl_treeReader_parts.c4 k S111 x.1.2.1 x.1.2.2.1 x.1.2.2.2.1 x.1.2.2.2.2 x.2.1 x.2.2⟩ (fun x => by kernel_rfl)) (Snd.exec hc _ _ _ _)) (Snd.exec hc _ _ _ _)) (Snd.exec hc _ _ _ _))
    (fun x => by kernel_rfl)
def f215ctx (k : Nat) (S111 : Int → Int → Int → TTreeReaderB → (List TNode) → Option (Unit × TTreeReaderB × (List TNode))) (S214 : Int → Int → TTreeReaderB → (List TNode) → Option (Unit × TTreeReaderB × (List TNode))) (S215 : Int → Int → TTreeReaderB → (List TNode) → Option (Unit × TTreeReaderB × (List TNode))) : Ctx := ⟨tyAt tys, conAt [(105, [f105con (impl_within k)]), (111, [f111con S111]), (209, [f209con (impl_Zag k)]), (210, [f210con (impl_treeReader_uvar k)]), (212, [f212con (impl_treeReader_fail k)]), (304, [f304con (impl_treeReader_one k)]), (305, [f305con (impl_isType k)])], 84, fun _ => false⟩
theorem f215hc (k : Nat) (S111 : Int → Int → Int → TTreeReaderB → (List TNode) → Option (Unit × TTreeReaderB × (List TNode))) (S214 : Int → Int → TTreeReaderB → (List TNode) → Option (Unit × TTreeReaderB × (List TNode))) (S215 : Int → Int → TTreeReaderB → (List TNode) → Option (Unit × TTreeReaderB × (List TNode))) (h111 : FnOk Try.prog 111 (f111con S111)) (h214 : FnOk Try.prog 214 (f214con S214)) (h215 : FnOk Try.prog 215 (f215con S215)) : CtxOk Try.prog (f215ctx k S111 S214 S215) := ctxOk tys_ok mixed_ok (consOk_cons (f105ok k) (consOk_cons (h111) (consOk_cons (f209ok k) (consOk_cons (f210ok k) (consOk_cons (f212ok k) (consOk_cons (f304ok k) (consOk_cons (f305ok k) (consOk_nil))))))))
theorem f215okb (k : Nat) (S111 : Int → Int → Int → TTreeReaderB → (List TNode) → Option (Unit × TTreeReaderB × (List TNode))) (S214 : Int → Int → TTreeReaderB → (List TNode) → Option (Unit × TTreeReaderB × (List TNode))) (S215 : Int → Int → TTreeReaderB → (List TNode) → Option (Unit × TTreeReaderB × (List TNode))) (h111 : FnOk Try.prog 111 (f111con S111)) (h214 : FnOk Try.prog 214 (f214con S214)) (h215 : FnOk Try.prog 215 (f215con S215)) : FnOk Try.prog 215 (f215con (impl_treeReader_fields.b k S111 S214 S215)) :=
  let hc := f215hc k S111 S214 S215 h111 h214 h215
  fnOk (fn := Try.f215) (code := bodyOf Try.f215) (res := []) hc (by kernel_rfl) (by kernel_rfl) (by decide) (by kernel_rfl) (by kernel_rfl) (by kernel_rfl) (Nat.le_of_ble_eq_true (by kernel_rfl)) _
    (fun x => Snd.seq (by kernel_rfl) (Snd.block (id := 0) (by kernel_rfl) (Snd.loop' (by kernel_rfl) f215s1 (fun n x => impl_treeReader_fields.l1 k S111 n x.1.2.1 x.1.2.2.1 x.1.2.2.2 x.2.1 x.2.2) _ (fun _ => rfl) (fun n1 => Snd.block (id := 1) (by kernel_rfl) (Snd.seq (by kernel_rfl) (Snd.seq (by kernel_rfl) (Snd.seq (by kernel_rfl) (Snd.seq (by kernel_rfl) (Snd.cut (Snd.seq (by kernel_rfl) (Snd.cut (Snd.seq (by kernel_rfl) (Snd.cut (Snd.seq (by kernel_rfl) (Snd.cut (Snd.exec hc _ _ _ _) ⟨f215s12, fun x => impl_treeReader_fields.c12 k S111 (impl_treeReader_fields.l1 k S111 n1) x.1.2.1 x.1.2.2.1 x.1.2.2.2.1 x.1.2.2.2.2 x.2.1 x.2.2⟩ (fun x => by kernel_rfl)) (Snd.exec hc _ _ _ _)) ⟨f215s10, fun x => impl_treeReader_fields.c10 k S111 (impl_treeReader_fields.l1 k S111 n1) x.1.2.1 x.1.2.2.1 x.1.2.2.2.1 x.1.2.2.2.2.1 x.1.2.2.2.2.2 x.2.1 x.2.2⟩ (fun x => by kernel_rfl)) (Snd.exec hc _ _ _ _)) ⟨f215s8, fun x => impl_treeReader_fields.c8 k S111 (impl_treeReader_fields.l1 k S111 n1) x.1.2.1 x.1.2.2.1 x.1.2.2.2.1 x.1.2.2.2.2.1 x.1.2.2.2.2.2 x.2.1 x.2.2⟩ (fun x => by kernel_rfl)) (Snd.exec hc _ _ _ _)) ⟨f215s6, fun x => impl_treeReader_fields.c6 k S111 (impl_treeReader_fields.l1 k S111 n1) x.1.2.1 x.1.2.2.1 x.1.2.2.2.1 x.1.2.2.2.2.1 x.1.2.2.2.2.2.1 x.1.2.2.2.2.2.2 x.2.1 x.2.2⟩ (fun x => by kernel_rfl)) (Snd.exec hc _ _ _ _)) (Snd.exec hc _ _ _ _)) (Snd.exec hc _ _ _ _)) (Snd.exec hc _ _ _ _))) (fun n x => by kernel_rfl) k)) (Snd.exec hc _ _ _ _))
    (fun x => by kernel_rfl)
theorem f111rec (k : Nat) : ∀ d, FnOk Try.prog 111 (f111con (impl_treeReader_node.d k d)) ∧ FnOk Try.prog 214 (f214con (impl_treeReader_parts.d k d)) ∧ FnOk Try.prog 215 (f215con (impl_treeReader_fields.d k d))
  | 0 => ⟨FnOk_none (fun _ => rfl), FnOk_none (fun _ => rfl), FnOk_none (fun _ => rfl)⟩
  | d + 1 => let ih := f111rec k d
    ⟨f111okb k (impl_treeReader_node.d k d) (impl_treeReader_parts.d k d) (impl_treeReader_fields.d k d) ih.1 ih.2.1 ih.2.2, f214okb k (impl_treeReader_node.d k d) (impl_treeReader_parts.d k d) (impl_treeReader_fields.d k d) ih.1 ih.2.1 ih.2.2, f215okb k (impl_treeReader_node.d k d) (impl_treeReader_parts.d k d) (impl_treeReader_fields.d k d) ih.1 ih.2.1 ih.2.2⟩
theorem f111ok (k : Nat) : FnOk Try.prog 111 (f111con (impl_treeReader_node k)) := (f111rec k k).1
theorem f214ok (k : Nat) : FnOk Try.prog 214 (f214con (impl_treeReader_parts k)) := (f111rec k k).2.1
theorem f215ok (k : Nat) : FnOk Try.prog 215 (f215con (impl_treeReader_fields k)) := (f111rec k k).2.2

def f31in : SS := ⟨[(0, (.ro (.list 5 (.int .u8)))), (1, (.ro (.int .i64)))], []⟩
def f31out : SS := ⟨[(0, (.h 100)), (1, (.ro (.int .i64))), (2, (.ro (.int .i64)))], [(100, (.sl 170 (.st (.cons (.int .i64) (.cons (.int .i64) (.cons (.int .i64) (.cons .str (.cons (.int .i64) .nil))))))))]⟩
def f31con (F : (List Int) → Int → Option ((Unit × Int × Int) × (List TNode))) : Con := ⟨f31in, f31out, 2, 3, fun x => F x.1 x.2⟩
def f31ctx (k : Nat) : Ctx := ⟨tyAt tys, conAt [(105, [f105con (impl_within k)]), (111, [f111con (impl_treeReader_node k)])], 37, fun _ => false⟩
theorem f31hc (k : Nat) : CtxOk Try.prog (f31ctx k) := ctxOk tys_ok mixed_ok (consOk_cons (f105ok k) (consOk_cons (f111ok k) (consOk_nil)))
theorem f31ok (k : Nat) : FnOk Try.prog 31 (f31con (impl_TreeRead k)) :=
  let hc := f31hc k
  fnOk (fn := Try.f31) (code := bodyOf Try.f31) (res := [.tmp 4, .tmp 5, .tmp 6]) hc (by kernel_rfl) (by kernel_rfl) (by decide) (by kernel_rfl) (by kernel_rfl) (by kernel_rfl) (Nat.le_of_ble_eq_true (by kernel_rfl)) _
    (fun x => Snd.exec hc _ _ _ _)
    (fun x => by kernel_rfl)

def f245in : SS := ⟨[(0, (.ro (.int .i64)))], []⟩
def f245out : SS := ⟨[(0, (.ro .bool))], []⟩
def f245con (F : Int → Option Bool) : Con := ⟨f245in, f245out, 1, 1, fun x => F x⟩
def f245ctx (k : Nat) : Ctx := ⟨tyAt tys, conAt [(105, [f105con (impl_within k)])], 13, fun _ => false⟩
theorem f245hc (k : Nat) : CtxOk Try.prog (f245ctx k) := ctxOk tys_ok mixed_ok (consOk_cons (f105ok k) (consOk_nil))
theorem f245ok (k : Nat) : FnOk Try.prog 245 (f245con (impl_TypeOk k)) :=
  let hc := f245hc k
  fnOk (fn := Try.f245) (code := bodyOf Try.f245) (res := [.tmp 2]) hc (by kernel_rfl) (by kernel_rfl) (by decide) (by kernel_rfl) (by kernel_rfl) (by kernel_rfl) (Nat.le_of_ble_eq_true (by kernel_rfl)) _
    (fun x => Snd.exec hc _ _ _ _)
    (fun x => by kernel_rfl)

def f284in : SS := ⟨[(0, (.ro (.st (.cons .str (.cons (.int .i64) (.cons (.int .i64) (.cons (.int .i64) .nil)))))))], []⟩
def f284out : SS := ⟨[(0, (.ro .bool))], []⟩
def f284con (F : TCol → Option Bool) : Con := ⟨f284in, f284out, 1, 1, fun x => F x⟩
def f284ctx (k : Nat) : Ctx := ⟨tyAt tys, conAt [(105, [f105con (impl_within k)]), (245, [f245con (impl_TypeOk k)])], 30, fun _ => false⟩
theorem f284hc (k : Nat) : CtxOk Try.prog (f284ctx k) := ctxOk tys_ok mixed_ok (consOk_cons (f105ok k) (consOk_cons (f245ok k) (consOk_nil)))
theorem f284ok (k : Nat) : FnOk Try.prog 284 (f284con (impl_colOk k)) :=
  let hc := f284hc k
  fnOk (fn := Try.f284) (code := bodyOf Try.f284) (res := [.tmp 2]) hc (by kernel_rfl) (by kernel_rfl) (by decide) (by kernel_rfl) (by kernel_rfl) (by kernel_rfl) (Nat.le_of_ble_eq_true (by kernel_rfl)) _
    (fun x => Snd.exec hc _ _ _ _)
    (fun x => by kernel_rfl)

def f285in : SS := ⟨[(0, (.ro .str))], []⟩
def f285out : SS := ⟨[(0, (.ro .bool))], []⟩
def f285s2 : SS := ⟨[(0, (.ro .str)), (5, (.ro (.int .i64))), (6, (.ro (.int .i64)))], []⟩
def f285con (F : ByteArray → Option Bool) : Con := ⟨f285in, f285out, 1, 1, fun x => F x⟩
def f285ctx (k : Nat) : Ctx := ⟨tyAt tys, conAt [(105, [f105con (impl_within k)])], 19, fun _ => false⟩
theorem f285hc (k : Nat) : CtxOk Try.prog (f285ctx k) := ctxOk tys_ok mixed_ok (consOk_cons (f105ok k) (consOk_nil))
theorem f285ok (k : Nat) : FnOk Try.prog 285 (f285con (impl_isColName k)) :=
  let hc := f285hc k
  fnOk (fn := Try.f285) (code := bodyOf Try.f285) (res := [.tmp 2]) hc (by kernel_rfl) (by kernel_rfl) (by decide) (by kernel_rfl) (by kernel_rfl) (by kernel_rfl) (Nat.le_of_ble_eq_true (by kernel_rfl)) _
    (fun x => Snd.seq (by kernel_rfl) (Snd.seq (by kernel_rfl) (Snd.exec hc _ _ _ _) (Snd.seq (by kernel_rfl) (Snd.block (id := 0) (by kernel_rfl) (Snd.loop' (by kernel_rfl) f285s2 (fun n x => impl_isColName.l2 k n x.1 x.2.1 x.2.2) _ (fun _ => rfl) (fun n2 => Snd.exec hc _ _ _ _) (fun n x => by kernel_rfl) k)) (Snd.exec hc _ _ _ _))) (Snd.exec hc _ _ _ _))
    (fun x => by kernel_rfl)

def f184in : SS := ⟨[(0, (.ro (.list 174 (.st (.cons .str (.cons (.int .i64) (.cons (.int .i64) (.cons (.int .i64) .nil)))))))), (1, (.ro (.int .i64))), (2, (.ro (.int .i64)))], []⟩
def f184out : SS := ⟨[(0, (.ro (.int .i64)))], []⟩
def f184s10 : SS := ⟨[(0, (.ro (.list 174 (.st (.cons .str (.cons (.int .i64) (.cons (.int .i64) (.cons (.int .i64) .nil)))))))), (2, (.ro (.int .i64))), (7, (.ro (.int .i64))), (8, (.h 100)), (47, (.ro (.int .i64))), (48, (.ro (.int .i64))), (54, (.h 100)), (55, (.ro (.int .i64))), (56, (.ro (.int .i64)))], [(100, (.sl 9 .str))]⟩
def f184s6 : SS := ⟨[(0, (.ro (.list 174 (.st (.cons .str (.cons (.int .i64) (.cons (.int .i64) (.cons (.int .i64) .nil)))))))), (2, (.ro (.int .i64))), (7, (.ro (.int .i64))), (8, (.h 100)), (47, (.ro (.int .i64))), (48, (.ro (.int .i64)))], [(100, (.sl 9 .str))]⟩
def f184con (F : (List TCol) → Int → Int → Option Int) : Con := ⟨f184in, f184out, 3, 1, fun x => F x.1 x.2.1 x.2.2⟩
def f184ctx (k : Nat) (S184 : (List TCol) → Int → Int → Option Int) : Ctx := ⟨tyAt tys, conAt [(184, [f184con S184]), (284, [f284con (impl_colOk k)]), (285, [f285con (impl_isColName k)])], 85, fun _ => false⟩
theorem f184hc (k : Nat) (S184 : (List TCol) → Int → Int → Option Int) (h184 : FnOk Try.prog 184 (f184con S184)) : CtxOk Try.prog (f184ctx k S184) := ctxOk tys_ok mixed_ok (consOk_cons (h184) (consOk_cons (f284ok k) (consOk_cons (f285ok k) (consOk_nil))))
theorem f184okb (k : Nat) (S184 : (List TCol) → Int → Int → Option Int) (h184 : FnOk Try.prog 184 (f184con S184)) : FnOk Try.prog 184 (f184con (impl_colAfter.b k S184)) :=
  let hc := f184hc k S184 h184
  fnOk (fn := Try.f184) (code := bodyOf Try.f184) (res := [.tmp 6]) hc (by kernel_rfl) (by kernel_rfl) (by decide) (by kernel_rfl) (by kernel_rfl) (by kernel_rfl) (Nat.le_of_ble_eq_true (by kernel_rfl)) _
    (fun x => Snd.seq (by kernel_rfl) (Snd.seq (by kernel_rfl) (Snd.seq (by kernel_rfl) (Snd.seq (by kernel_rfl) (Snd.seq (by kernel_rfl) (Snd.exec hc _ _ _ _) (Snd.seq (by kernel_rfl) (Snd.block (id := 0) (by kernel_rfl) (Snd.loop' (by kernel_rfl) f184s6 (fun n x => impl_colAfter.l6 k S184 n x.1.1 x.1.2.1 x.1.2.2.1 x.1.2.2.2.2.1 x.1.2.2.2.2.2 x.2) _ (fun _ => rfl) (fun n6 => Snd.seq (by kernel_rfl) (Snd.seq (by kernel_rfl) (Snd.seq (by kernel_rfl) (Snd.exec hc _ _ _ _) (Snd.block (id := 1) (by kernel_rfl) (Snd.seq (by kernel_rfl) (Snd.seq (by kernel_rfl) (Snd.exec hc _ _ _ _) (Snd.seq (by kernel_rfl) (Snd.block (id := 2) (by kernel_rfl) (Snd.loop' (by kernel_rfl) f184s10 (fun n x => impl_colAfter.l10 k S184 (impl_colAfter.l6 k S184 n6) n x.1.1 x.1.2.1 x.1.2.2.1 x.1.2.2.2.2.1 x.1.2.2.2.2.2.1 x.1.2.2.2.2.2.2.2.1 x.1.2.2.2.2.2.2.2.2 x.2) _ (fun _ => rfl) (fun n10 => Snd.exec hc _ _ _ _) (fun n x => by kernel_rfl) k)) (Snd.exec hc _ _ _ _))) (Snd.exec hc _ _ _ _)))) (Snd.exec hc _ _ _ _)) (Snd.exec hc _ _ _ _)) (fun n x => by kernel_rfl) k)) (Snd.exec hc _ _ _ _))) (Snd.exec hc _ _ _ _)) (Snd.exec hc _ _ _ _)) (Snd.exec hc _ _ _ _)) (Snd.exec hc _ _ _ _))
    (fun x => by kernel_rfl)
theorem f184rec (k : Nat) : ∀ d, FnOk Try.prog 184 (f184con (impl_colAfter.d k d))
  | 0 => FnOk_none (fun _ => rfl)
  | d + 1 => let ih := f184rec k d
    f184okb k (impl_colAfter.d k d) ih
theorem f184ok (k : Nat) : FnOk Try.prog 184 (f184con (impl_colAfter k)) := (f184rec k k)

def f79in : SS := ⟨[(0, (.ro (.list 174 (.st (.cons .str (.cons (.int .i64) (.cons (.int .i64) (.cons (.int .i64) .nil))))))))], []⟩
def f79out : SS := ⟨[(0, (.ro .bool))], []⟩
def f79con (F : (List TCol) → Option Bool) : Con := ⟨f79in, f79out, 1, 1, fun x => F x⟩
def f79ctx (k : Nat) : Ctx := ⟨tyAt tys, conAt [(105, [f105con (impl_within k)]), (184, [f184con (impl_colAfter k)])], 33, fun _ => false⟩
theorem f79hc (k : Nat) : CtxOk Try.prog (f79ctx k) := ctxOk tys_ok mixed_ok (consOk_cons (f105ok k) (consOk_cons (f184ok k) (consOk_nil)))
theorem f79ok (k : Nat) : FnOk Try.prog 79 (f79con (impl_SchemaOk k)) :=
  let hc := f79hc k
  fnOk (fn := Try.f79) (code := bodyOf Try.f79) (res := [.tmp 2]) hc (by kernel_rfl) (by kernel_rfl) (by decide) (by kernel_rfl) (by kernel_rfl) (by kernel_rfl) (Nat.le_of_ble_eq_true (by kernel_rfl)) _
    (fun x => Snd.exec hc _ _ _ _)
    (fun x => by kernel_rfl)

def f81in : SS := ⟨[(0, (.ro (.list 174 (.st (.cons .str (.cons (.int .i64) (.cons (.int .i64) (.cons (.int .i64) .nil))))))))], []⟩
def f81out : SS := ⟨[(0, (.h 100))], [(100, (.sl 3 (.int .i64)))]⟩
def f81s7 : SS := ⟨[(3, (.h 100)), (7, (.ro (.list 174 (.st (.cons .str (.cons (.int .i64) (.cons (.int .i64) (.cons (.int .i64) .nil)))))))), (8, (.ro (.int .i64))), (9, (.ro (.int .i64)))], [(100, (.sl 3 (.int .i64)))]⟩
def f81s3 : SS := ⟨[(3, (.h 100)), (7, (.ro (.list 174 (.st (.cons .str (.cons (.int .i64) (.cons (.int .i64) (.cons (.int .i64) .nil)))))))), (8, (.ro (.int .i64))), (9, (.ro (.int .i64)))], [(100, (.sl 3 (.int .i64)))]⟩
def f81con (F : (List TCol) → Option (Unit × (List Int))) : Con := ⟨f81in, f81out, 1, 1, fun x => F x⟩
def f81ctx (k : Nat) : Ctx := ⟨tyAt tys, conAt [], 23, fun _ => false⟩
theorem f81hc (k : Nat) : CtxOk Try.prog (f81ctx k) := ctxOk tys_ok mixed_ok (consOk_nil)
theorem f81ok (k : Nat) : FnOk Try.prog 81 (f81con (impl_leavesOf k)) :=
  let hc := f81hc k
  fnOk (fn := Try.f81) (code := bodyOf Try.f81) (res := [.tmp 2]) hc (by kernel_rfl) (by kernel_rfl) (by decide) (by kernel_rfl) (by kernel_rfl) (by kernel_rfl) (Nat.le_of_ble_eq_true (by kernel_rfl)) _
    (fun x => Snd.seq (by kernel_rfl) (Snd.seq (by kernel_rfl) (Snd.seq (by kernel_rfl) (Snd.exec hc _ _ _ _) (Snd.seq (by kernel_rfl) (Snd.block (id := 0) (by kernel_rfl) (Snd.loop' (by kernel_rfl) f81s3 (fun n x => impl_leavesOf.l3 k n x.1.2.1 x.1.2.2.1 x.1.2.2.2 x.2) _ (fun _ => rfl) (fun n3 => Snd.seq (by kernel_rfl) (Snd.seq (by kernel_rfl) (Snd.seq (by kernel_rfl) (Snd.cut (Snd.exec hc _ _ _ _) ⟨f81s7, fun x => impl_leavesOf.c7 k (impl_leavesOf.l3 k n3) x.1.2.1 x.1.2.2.1 x.1.2.2.2 x.2⟩ (fun x => by kernel_rfl)) (Snd.exec hc _ _ _ _)) (Snd.exec hc _ _ _ _)) (Snd.exec hc _ _ _ _)) (fun n x => by kernel_rfl) k)) (Snd.exec hc _ _ _ _))) (Snd.exec hc _ _ _ _)) (Snd.exec hc _ _ _ _))
    (fun x => by kernel_rfl)

def f277in : SS := ⟨[(0, (.ro (.list 3 (.int .i64))))], []⟩
def f277out : SS := ⟨[(0, (.ro .bool))], []⟩
def f277s2 : SS := ⟨[(0, (.ro (.list 3 (.int .i64)))), (5, (.ro (.list 3 (.int .i64)))), (6, (.ro (.int .i64))), (7, (.ro (.int .i64)))], []⟩
def f277con (F : (List Int) → Option Bool) : Con := ⟨f277in, f277out, 1, 1, fun x => F x⟩
def f277ctx (k : Nat) : Ctx := ⟨tyAt tys, conAt [(105, [f105con (impl_within k)])], 32, fun _ => false⟩
theorem f277hc (k : Nat) : CtxOk Try.prog (f277ctx k) := ctxOk tys_ok mixed_ok (consOk_cons (f105ok k) (consOk_nil))
theorem f277ok (k : Nat) : FnOk Try.prog 277 (f277con (impl_encsRight k)) :=
  let hc := f277hc k
  fnOk (fn := Try.f277) (code := bodyOf Try.f277) (res := [.tmp 2]) hc (by kernel_rfl) (by kernel_rfl) (by decide) (by kernel_rfl) (by kernel_rfl) (by kernel_rfl) (Nat.le_of_ble_eq_true (by kernel_rfl)) _
    (fun x => Snd.seq (by kernel_rfl) (Snd.seq (by kernel_rfl) (Snd.exec hc _ _ _ _) (Snd.seq (by kernel_rfl) (Snd.block (id := 0) (by kernel_rfl) (Snd.loop' (by kernel_rfl) f277s2 (fun n x => impl_encsRight.l2 k n x.1 x.2.1 x.2.2.1 x.2.2.2) _ (fun _ => rfl) (fun n2 => Snd.exec hc _ _ _ _) (fun n x => by kernel_rfl) k)) (Snd.exec hc _ _ _ _))) (Snd.exec hc _ _ _ _))
    (fun x => by kernel_rfl)

def f168in : SS := ⟨[(0, (.ro (.st (.cons (.int .i64) (.cons (.int .i64) (.cons (.int .i64) (.cons (.int .i64) (.cons (.int .i64) (.cons (.list 3 (.int .i64)) .nil))))))))), (1, (.ro (.int .i64)))], []⟩
def f168out : SS := ⟨[(0, (.ro .bool))], []⟩
def f168con (F : TChunk → Int → Option Bool) : Con := ⟨f168in, f168out, 2, 1, fun x => F x.1 x.2⟩
def f168ctx (k : Nat) : Ctx := ⟨tyAt tys, conAt [(105, [f105con (impl_within k)]), (277, [f277con (impl_encsRight k)])], 36, fun _ => false⟩
theorem f168hc (k : Nat) : CtxOk Try.prog (f168ctx k) := ctxOk tys_ok mixed_ok (consOk_cons (f105ok k) (consOk_cons (f277ok k) (consOk_nil)))
theorem f168ok (k : Nat) : FnOk Try.prog 168 (f168con (impl_chunkOk k)) :=
  let hc := f168hc k
  fnOk (fn := Try.f168) (code := bodyOf Try.f168) (res := [.tmp 4]) hc (by kernel_rfl) (by kernel_rfl) (by decide) (by kernel_rfl) (by kernel_rfl) (by kernel_rfl) (Nat.le_of_ble_eq_true (by kernel_rfl)) _
    (fun x => Snd.exec hc _ _ _ _)
    (fun x => by kernel_rfl)

def f65in : SS := ⟨[(0, (.ro (.st (.cons (.list 174 (.st (.cons .str (.cons (.int .i64) (.cons (.int .i64) (.cons (.int .i64) .nil)))))) (.cons (.int .i64) (.cons (.list 202 (.st (.cons (.int .i64) (.cons (.list 204 (.st (.cons (.int .i64) (.cons (.int .i64) (.cons (.int .i64) (.cons (.int .i64) (.cons (.int .i64) (.cons (.list 3 (.int .i64)) .nil)))))))) .nil)))) .nil))))))], []⟩
def f65out : SS := ⟨[(0, (.ro .bool))], []⟩
def f65s10 : SS := ⟨[(1, (.p 100)), (3, (.ro (.int .i64))), (5, (.p 101)), (19, (.ro (.list 202 (.st (.cons (.int .i64) (.cons (.list 204 (.st (.cons (.int .i64) (.cons (.int .i64) (.cons (.int .i64) (.cons (.int .i64) (.cons (.int .i64) (.cons (.list 3 (.int .i64)) .nil)))))))) .nil)))))), (20, (.ro (.int .i64))), (21, (.ro (.int .i64))), (40, (.ro (.list 204 (.st (.cons (.int .i64) (.cons (.int .i64) (.cons (.int .i64) (.cons (.int .i64) (.cons (.int .i64) (.cons (.list 3 (.int .i64)) .nil)))))))))), (41, (.ro (.int .i64))), (42, (.ro (.int .i64)))], [(100, (.box (.st (.cons (.list 174 (.st (.cons .str (.cons (.int .i64) (.cons (.int .i64) (.cons (.int .i64) .nil)))))) (.cons (.int .i64) (.cons (.list 202 (.st (.cons (.int .i64) (.cons (.list 204 (.st (.cons (.int .i64) (.cons (.int .i64) (.cons (.int .i64) (.cons (.int .i64) (.cons (.int .i64) (.cons (.list 3 (.int .i64)) .nil)))))))) .nil)))) .nil)))) (.agg (.cons (.ro (.list 174 (.st (.cons .str (.cons (.int .i64) (.cons (.int .i64) (.cons (.int .i64) .nil))))))) (.cons (.ro (.int .i64)) (.cons (.ro (.list 202 (.st (.cons (.int .i64) (.cons (.list 204 (.st (.cons (.int .i64) (.cons (.int .i64) (.cons (.int .i64) (.cons (.int .i64) (.cons (.int .i64) (.cons (.list 3 (.int .i64)) .nil)))))))) .nil))))) .nil)))))), (101, (.box (.st (.cons (.int .i64) (.cons (.list 204 (.st (.cons (.int .i64) (.cons (.int .i64) (.cons (.int .i64) (.cons (.int .i64) (.cons (.int .i64) (.cons (.list 3 (.int .i64)) .nil)))))))) .nil))) (.agg (.cons (.ro (.int .i64)) (.cons (.ro (.list 204 (.st (.cons (.int .i64) (.cons (.int .i64) (.cons (.int .i64) (.cons (.int .i64) (.cons (.int .i64) (.cons (.list 3 (.int .i64)) .nil))))))))) .nil)))))]⟩
def f65d7 : SS := ⟨[(1, (.p 100)), (3, (.ro (.int .i64))), (5, (.p 101)), (19, (.ro (.list 202 (.st (.cons (.int .i64) (.cons (.list 204 (.st (.cons (.int .i64) (.cons (.int .i64) (.cons (.int .i64) (.cons (.int .i64) (.cons (.int .i64) (.cons (.list 3 (.int .i64)) .nil)))))))) .nil)))))), (20, (.ro (.int .i64))), (21, (.ro (.int .i64)))], [(100, (.box (.st (.cons (.list 174 (.st (.cons .str (.cons (.int .i64) (.cons (.int .i64) (.cons (.int .i64) .nil)))))) (.cons (.int .i64) (.cons (.list 202 (.st (.cons (.int .i64) (.cons (.list 204 (.st (.cons (.int .i64) (.cons (.int .i64) (.cons (.int .i64) (.cons (.int .i64) (.cons (.int .i64) (.cons (.list 3 (.int .i64)) .nil)))))))) .nil)))) .nil)))) (.agg (.cons (.ro (.list 174 (.st (.cons .str (.cons (.int .i64) (.cons (.int .i64) (.cons (.int .i64) .nil))))))) (.cons (.ro (.int .i64)) (.cons (.ro (.list 202 (.st (.cons (.int .i64) (.cons (.list 204 (.st (.cons (.int .i64) (.cons (.int .i64) (.cons (.int .i64) (.cons (.int .i64) (.cons (.int .i64) (.cons (.list 3 (.int .i64)) .nil)))))))) .nil))))) .nil)))))), (101, (.box (.st (.cons (.int .i64) (.cons (.list 204 (.st (.cons (.int .i64) (.cons (.int .i64) (.cons (.int .i64) (.cons (.int .i64) (.cons (.int .i64) (.cons (.list 3 (.int .i64)) .nil)))))))) .nil))) (.agg (.cons (.ro (.int .i64)) (.cons (.ro (.list 204 (.st (.cons (.int .i64) (.cons (.int .i64) (.cons (.int .i64) (.cons (.int .i64) (.cons (.int .i64) (.cons (.list 3 (.int .i64)) .nil))))))))) .nil)))))]⟩
def f65s5 : SS := ⟨[(1, (.p 100)), (3, (.ro (.int .i64))), (19, (.ro (.list 202 (.st (.cons (.int .i64) (.cons (.list 204 (.st (.cons (.int .i64) (.cons (.int .i64) (.cons (.int .i64) (.cons (.int .i64) (.cons (.int .i64) (.cons (.list 3 (.int .i64)) .nil)))))))) .nil)))))), (20, (.ro (.int .i64))), (21, (.ro (.int .i64)))], [(100, (.box (.st (.cons (.list 174 (.st (.cons .str (.cons (.int .i64) (.cons (.int .i64) (.cons (.int .i64) .nil)))))) (.cons (.int .i64) (.cons (.list 202 (.st (.cons (.int .i64) (.cons (.list 204 (.st (.cons (.int .i64) (.cons (.int .i64) (.cons (.int .i64) (.cons (.int .i64) (.cons (.int .i64) (.cons (.list 3 (.int .i64)) .nil)))))))) .nil)))) .nil)))) (.agg (.cons (.ro (.list 174 (.st (.cons .str (.cons (.int .i64) (.cons (.int .i64) (.cons (.int .i64) .nil))))))) (.cons (.ro (.int .i64)) (.cons (.ro (.list 202 (.st (.cons (.int .i64) (.cons (.list 204 (.st (.cons (.int .i64) (.cons (.int .i64) (.cons (.int .i64) (.cons (.int .i64) (.cons (.int .i64) (.cons (.list 3 (.int .i64)) .nil)))))))) .nil))))) .nil))))))]⟩
def f65con (F : TMeta → Option Bool) : Con := ⟨f65in, f65out, 1, 1, fun x => F x⟩
def f65ctx (k : Nat) : Ctx := ⟨tyAt tys, conAt [(79, [f79con (impl_SchemaOk k)]), (81, [f81con (impl_leavesOf k)]), (105, [f105con (impl_within k)]), (168, [f168con (impl_chunkOk k)])], 65, fun _ => false⟩
theorem f65hc (k : Nat) : CtxOk Try.prog (f65ctx k) := ctxOk tys_ok mixed_ok (consOk_cons (f79ok k) (consOk_cons (f81ok k) (consOk_cons (f105ok k) (consOk_cons (f168ok k) (consOk_nil)))))
theorem f65ok (k : Nat) : FnOk Try.prog 65 (f65con (impl_MetaOk k)) :=
  let hc := f65hc k
  fnOk (fn := Try.f65) (code := bodyOf Try.f65) (res := [.tmp 2]) hc (by kernel_rfl) (by kernel_rfl) (by decide) (by kernel_rfl) (by kernel_rfl) (by kernel_rfl) (Nat.le_of_ble_eq_true (by kernel_rfl)) _
    (fun x => Snd.seq (by kernel_rfl) (Snd.seq (by kernel_rfl) (Snd.seq (by kernel_rfl) (Snd.seq (by kernel_rfl) (Snd.exec hc _ _ _ _) (Snd.seq (by kernel_rfl) (Snd.block (id := 0) (by kernel_rfl) (Snd.loop' (by kernel_rfl) f65s5 (fun n x => impl_MetaOk.l5 k n x.1.2.1 x.1.2.2.1 x.1.2.2.2.1 x.1.2.2.2.2 x.2) _ (fun _ => rfl) (fun n5 => Snd.seq (by kernel_rfl) (Snd.seq (by kernel_rfl) (Snd.seq (by kernel_rfl) (Snd.exec hc _ _ _ _) (Snd.block (id := 1) (by kernel_rfl) (Snd.seq (by kernel_rfl) (Snd.seq (by kernel_rfl) (Snd.seq (by kernel_rfl) (Snd.exec hc _ _ _ _) (Snd.seq (by kernel_rfl) (Snd.block (id := 2) (by kernel_rfl) (Snd.loop' (by kernel_rfl) f65s10 (fun n x => impl_MetaOk.l10 k (impl_MetaOk.l5 k n5) n x.1.2.1 x.1.2.2.2.1 x.1.2.2.2.2.1 x.1.2.2.2.2.2.1 x.1.2.2.2.2.2.2.1 x.1.2.2.2.2.2.2.2.1 x.1.2.2.2.2.2.2.2.2 x.2.1 x.2.2) _ (fun _ => rfl) (fun n10 => Snd.exec hc _ _ _ _) (fun n x => by kernel_rfl) k)) (Snd.exec hc _ _ _ _))) (Snd.seq (by kernel_rfl) (Snd.exec hc _ _ _ _) (Snd.fork hc (id := 7) (by kernel_rfl) ⟨f65d7, fun x => impl_MetaOk.d7 k (impl_MetaOk.l5 k n5) x.1.2.1 x.1.2.2.2.1 x.1.2.2.2.2.1 x.1.2.2.2.2.2 x.2.1 x.2.2⟩ [[0, 1, 2, 3, 4, 5, 8, 9, 6, 7, 10, 11, 12, 13], [0, 1, 2, 3, 4, 5, 8, 9, 10, 6, 7, 11, 12, 13]] (by kernel_rfl) (ords_cons (fun x => by kernel_rfl) (ords_cons (fun x => by kernel_rfl) (ords_nil)))))) (Snd.exec hc _ _ _ _)))) (Snd.exec hc _ _ _ _)) (Snd.exec hc _ _ _ _)) (fun n x => by kernel_rfl) k)) (Snd.exec hc _ _ _ _))) (Snd.exec hc _ _ _ _)) (Snd.exec hc _ _ _ _)) (Snd.exec hc _ _ _ _))
    (fun x => by kernel_rfl)

def f310in : SS := ⟨[(0, (.ro (.st (.cons (.int .i64) (.cons (.int .i64) (.cons (.int .i64) (.cons .str (.cons (.int .i64) .nil))))))))], []⟩
def f310out : SS := ⟨[(0, (.ro .bool))], []⟩
def f310con (F : TNode → Option Bool) : Con := ⟨f310in, f310out, 1, 1, fun x => F x⟩
def f310ctx (k : Nat) : Ctx := ⟨tyAt tys, conAt [(211, [f211con (impl_isInt32 k)]), (305, [f305con (impl_isType k)])], 109, fun _ => false⟩
theorem f310hc (k : Nat) : CtxOk Try.prog (f310ctx k) := ctxOk tys_ok mixed_ok (consOk_cons (f211ok k) (consOk_cons (f305ok k) (consOk_nil)))
theorem f310ok (k : Nat) : FnOk Try.prog 310 (f310con (impl_nodeOk k)) :=
  let hc := f310hc k
  fnOk (fn := Try.f310) (code := bodyOf Try.f310) (res := [.tmp 2]) hc (by kernel_rfl) (by kernel_rfl) (by decide) (by kernel_rfl) (by kernel_rfl) (by kernel_rfl) (Nat.le_of_ble_eq_true (by kernel_rfl)) _
    (fun x => Snd.exec hc _ _ _ _)
    (fun x => by kernel_rfl)

def f221in : SS := ⟨[(0, (.p 0)), (1, (.ro (.int .i64))), (2, (.ro (.int .i64)))], [(0, (.obox (.st (.cons (.list 170 (.st (.cons (.int .i64) (.cons (.int .i64) (.cons (.int .i64) (.cons .str (.cons (.int .i64) .nil))))))) (.cons (.list 3 (.int .i64)) .nil))) (.agg (.cons (.ro (.list 170 (.st (.cons (.int .i64) (.cons (.int .i64) (.cons (.int .i64) (.cons .str (.cons (.int .i64) .nil)))))))) (.cons (.h 10) .nil))))), (10, (.sl 3 (.int .i64)))]⟩
def f221out : SS := ⟨[(0, (.ro (.int .i64)))], [(0, (.box (.st (.cons (.list 170 (.st (.cons (.int .i64) (.cons (.int .i64) (.cons (.int .i64) (.cons .str (.cons (.int .i64) .nil))))))) (.cons (.list 3 (.int .i64)) .nil))) (.agg (.cons (.ro (.list 170 (.st (.cons (.int .i64) (.cons (.int .i64) (.cons (.int .i64) (.cons .str (.cons (.int .i64) .nil)))))))) (.cons (.h 10) .nil))))), (10, (.sl 3 (.int .i64)))]⟩
def f221s7 : SS := ⟨[(0, (.p 0)), (1, (.ro (.int .i64))), (2, (.ro (.int .i64))), (7, (.p 100)), (8, (.ro (.int .i64))), (9, (.ro (.int .i64))), (43, (.ro (.int .i64))), (44, (.ro (.int .i64)))], [(0, (.box (.st (.cons (.list 170 (.st (.cons (.int .i64) (.cons (.int .i64) (.cons (.int .i64) (.cons .str (.cons (.int .i64) .nil))))))) (.cons (.list 3 (.int .i64)) .nil))) (.agg (.cons (.ro (.list 170 (.st (.cons (.int .i64) (.cons (.int .i64) (.cons (.int .i64) (.cons .str (.cons (.int .i64) .nil)))))))) (.cons (.h 10) .nil))))), (10, (.sl 3 (.int .i64))), (100, (.box (.st (.cons (.int .i64) (.cons (.int .i64) (.cons (.int .i64) (.cons .str (.cons (.int .i64) .nil)))))) (.agg (.cons (.ro (.int .i64)) (.cons (.ro (.int .i64)) (.cons (.ro (.int .i64)) (.cons (.ro .str) (.cons (.ro (.int .i64)) .nil))))))))]⟩
def f221con (F : Int → Int → (Bool × TTreeB) → (List Int) → Option (Int × TTreeB × (List Int))) : Con := ⟨f221in, f221out, 3, 1, fun x => F x.1.2.1 x.1.2.2 x.2.1 x.2.2⟩
def f221ctx (k : Nat) (S221 : Int → Int → (Bool × TTreeB) → (List Int) → Option (Int × TTreeB × (List Int))) : Ctx := ⟨tyAt tys, conAt [(105, [f105con (impl_within k)]), (221, [f221con S221]), (310, [f310con (impl_nodeOk k)])], 104, fun _ => false⟩
theorem f221hc (k : Nat) (S221 : Int → Int → (Bool × TTreeB) → (List Int) → Option (Int × TTreeB × (List Int))) (h221 : FnOk Try.prog 221 (f221con S221)) : CtxOk Try.prog (f221ctx k S221) := ctxOk tys_ok mixed_ok (consOk_cons (f105ok k) (consOk_cons (h221) (consOk_cons (f310ok k) (consOk_nil))))
theorem f221okb (k : Nat) (S221 : Int → Int → (Bool × TTreeB) → (List Int) → Option (Int × TTreeB × (List Int))) (h221 : FnOk Try.prog 221 (f221con S221)) : FnOk Try.prog 221 (f221con (impl_tree_measure.b k S221)) :=
  let hc := f221hc k S221 h221
  fnOk (fn := Try.f221) (code := bodyOf Try.f221) (res := [.tmp 6]) hc (by kernel_rfl) (by kernel_rfl) (by decide) (by kernel_rfl) (by kernel_rfl) (by kernel_rfl) (Nat.le_of_ble_eq_true (by kernel_rfl)) _
    (fun x => Snd.seq (by kernel_rfl) (Snd.seq (by kernel_rfl) (Snd.seq (by kernel_rfl) (Snd.seq (by kernel_rfl) (Snd.seq (by kernel_rfl) (Snd.seq (by kernel_rfl) (Snd.exec hc _ _ _ _) (Snd.seq (by kernel_rfl) (Snd.block (id := 0) (by kernel_rfl) (Snd.loop' (by kernel_rfl) f221s7 (fun n x => impl_tree_measure.l7 k S221 n x.1.2.1 x.1.2.2.1 x.1.2.2.2.2.1 x.1.2.2.2.2.2.1 x.1.2.2.2.2.2.2.1 x.1.2.2.2.2.2.2.2 x.2.1 x.2.2.1 x.2.2.2) _ (fun _ => rfl) (fun n7 => Snd.exec hc _ _ _ _) (fun n x => by kernel_rfl) k)) (Snd.exec hc _ _ _ _))) (Snd.exec hc _ _ _ _)) (Snd.exec hc _ _ _ _)) (Snd.exec hc _ _ _ _)) (Snd.exec hc _ _ _ _)) (Snd.exec hc _ _ _ _))
    (fun x => by kernel_rfl)
theorem f221rec (k : Nat) : ∀ d, FnOk Try.prog 221 (f221con (impl_tree_measure.d k d))
  | 0 => FnOk_none (fun _ => rfl)
  | d + 1 => let ih := f221rec k d
    f221okb k (impl_tree_measure.d k d) ih
theorem f221ok (k : Nat) : FnOk Try.prog 221 (f221con (impl_tree_measure k)) := (f221rec k k)

def f113in : SS := ⟨[(0, (.ro (.list 170 (.st (.cons (.int .i64) (.cons (.int .i64) (.cons (.int .i64) (.cons .str (.cons (.int .i64) .nil)))))))))], []⟩
def f113out : SS := ⟨[(0, (.p 100)), (1, (.ro .bool))], [(100, (.obox (.st (.cons (.list 170 (.st (.cons (.int .i64) (.cons (.int .i64) (.cons (.int .i64) (.cons .str (.cons (.int .i64) .nil))))))) (.cons (.list 3 (.int .i64)) .nil))) (.agg (.cons (.ro (.list 170 (.st (.cons (.int .i64) (.cons (.int .i64) (.cons (.int .i64) (.cons .str (.cons (.int .i64) .nil)))))))) (.cons (.h 101) .nil))))), (101, (.sl 3 (.int .i64)))]⟩
def f113con (F : (List TNode) → Option ((Unit × Bool) × (Bool × TTreeB) × (List Int))) : Con := ⟨f113in, f113out, 1, 2, fun x => F x⟩
def f113ctx (k : Nat) : Ctx := ⟨tyAt tys, conAt [(105, [f105con (impl_within k)]), (221, [f221con (impl_tree_measure k)])], 35, fun s => Nat.beq s 27⟩
theorem f113hc (k : Nat) : CtxOk Try.prog (f113ctx k) := ctxOk tys_ok mixed_ok (consOk_cons (f105ok k) (consOk_cons (f221ok k) (consOk_nil)))
theorem f113ok (k : Nat) : FnOk Try.prog 113 (f113con (impl_treeOf k)) :=
  let hc := f113hc k
  fnOk (fn := Try.f113) (code := bodyOf Try.f113) (res := [.tmp 2, .tmp 3]) hc (by kernel_rfl) (by kernel_rfl) (by decide) (by kernel_rfl) (by kernel_rfl) (by kernel_rfl) (Nat.le_of_ble_eq_true (by kernel_rfl)) _
    (fun x => Snd.exec hc _ _ _ _)
    (fun x => by kernel_rfl)

def f179in : SS := ⟨[(0, (.p 0)), (1, (.ro (.int .i64))), (2, (.ro (.int .i64)))], [(0, (.obox (.st (.cons (.list 170 (.st (.cons (.int .i64) (.cons (.int .i64) (.cons (.int .i64) (.cons .str (.cons (.int .i64) .nil))))))) (.cons (.list 3 (.int .i64)) .nil))) (.agg (.cons (.ro (.list 170 (.st (.cons (.int .i64) (.cons (.int .i64) (.cons (.int .i64) (.cons .str (.cons (.int .i64) .nil)))))))) (.cons (.h 10) .nil))))), (10, (.sl 3 (.int .i64)))]⟩
def f179out : SS := ⟨[(0, (.ro (.int .i64)))], [(0, (.box (.st (.cons (.list 170 (.st (.cons (.int .i64) (.cons (.int .i64) (.cons (.int .i64) (.cons .str (.cons (.int .i64) .nil))))))) (.cons (.list 3 (.int .i64)) .nil))) (.agg (.cons (.ro (.list 170 (.st (.cons (.int .i64) (.cons (.int .i64) (.cons (.int .i64) (.cons .str (.cons (.int .i64) .nil)))))))) (.cons (.h 10) .nil))))), (10, (.sl 3 (.int .i64)))]⟩
def f179s5 : SS := ⟨[(0, (.p 0)), (2, (.ro (.int .i64))), (7, (.ro (.int .i64))), (37, (.ro (.int .i64))), (38, (.ro (.int .i64)))], [(0, (.box (.st (.cons (.list 170 (.st (.cons (.int .i64) (.cons (.int .i64) (.cons (.int .i64) (.cons .str (.cons (.int .i64) .nil))))))) (.cons (.list 3 (.int .i64)) .nil))) (.agg (.cons (.ro (.list 170 (.st (.cons (.int .i64) (.cons (.int .i64) (.cons (.int .i64) (.cons .str (.cons (.int .i64) .nil)))))))) (.cons (.h 10) .nil))))), (10, (.sl 3 (.int .i64)))]⟩
def f179con (F : Int → Int → (Bool × TTreeB) → (List Int) → Option (Int × TTreeB × (List Int))) : Con := ⟨f179in, f179out, 3, 1, fun x => F x.1.2.1 x.1.2.2 x.2.1 x.2.2⟩
def f179ctx (k : Nat) : Ctx := ⟨tyAt tys, conAt [(105, [f105con (impl_within k)])], 59, fun _ => false⟩
theorem f179hc (k : Nat) : CtxOk Try.prog (f179ctx k) := ctxOk tys_ok mixed_ok (consOk_cons (f105ok k) (consOk_nil))
theorem f179ok (k : Nat) : FnOk Try.prog 179 (f179con (impl_tree_find k)) :=
  let hc := f179hc k
  fnOk (fn := Try.f179) (code := bodyOf Try.f179) (res := [.tmp 6]) hc (by kernel_rfl) (by kernel_rfl) (by decide) (by kernel_rfl) (by kernel_rfl) (by kernel_rfl) (Nat.le_of_ble_eq_true (by kernel_rfl)) _
    (fun x => Snd.seq (by kernel_rfl) (Snd.seq (by kernel_rfl) (Snd.seq (by kernel_rfl) (Snd.seq (by kernel_rfl) (Snd.exec hc _ _ _ _) (Snd.seq (by kernel_rfl) (Snd.block (id := 0) (by kernel_rfl) (Snd.loop' (by kernel_rfl) f179s5 (fun n x => impl_tree_find.l5 k n x.1.2.1 x.1.2.2.1 x.1.2.2.2.1 x.1.2.2.2.2 x.2.1 x.2.2) _ (fun _ => rfl) (fun n5 => Snd.exec hc _ _ _ _) (fun n x => by kernel_rfl) k)) (Snd.exec hc _ _ _ _))) (Snd.exec hc _ _ _ _)) (Snd.exec hc _ _ _ _)) (Snd.exec hc _ _ _ _))
    (fun x => by kernel_rfl)

def f262in : SS := ⟨[(0, (.p 0)), (1, (.ro (.int .i64))), (2, (.ro (.int .i64))), (3, (.ro (.int .i64)))], [(0, (.obox (.st (.cons (.list 170 (.st (.cons (.int .i64) (.cons (.int .i64) (.cons (.int .i64) (.cons .str (.cons (.int .i64) .nil))))))) (.cons (.list 3 (.int .i64)) .nil))) (.agg (.cons (.ro (.list 170 (.st (.cons (.int .i64) (.cons (.int .i64) (.cons (.int .i64) (.cons .str (.cons (.int .i64) .nil)))))))) (.cons (.h 10) .nil))))), (10, (.sl 3 (.int .i64)))]⟩
def f262out : SS := ⟨[(0, (.h 100)), (1, (.ro .bool))], [(0, (.box (.st (.cons (.list 170 (.st (.cons (.int .i64) (.cons (.int .i64) (.cons (.int .i64) (.cons .str (.cons (.int .i64) .nil))))))) (.cons (.list 3 (.int .i64)) .nil))) (.agg (.cons (.ro (.list 170 (.st (.cons (.int .i64) (.cons (.int .i64) (.cons (.int .i64) (.cons .str (.cons (.int .i64) .nil)))))))) (.cons (.h 10) .nil))))), (10, (.sl 3 (.int .i64))), (100, (.sl 3 (.int .i64)))]⟩
def f262s7 : SS := ⟨[(0, (.p 0)), (11, (.h 100)), (12, (.ro (.int .i64))), (63, (.ro (.int .i64))), (64, (.ro (.int .i64)))], [(0, (.box (.st (.cons (.list 170 (.st (.cons (.int .i64) (.cons (.int .i64) (.cons (.int .i64) (.cons .str (.cons (.int .i64) .nil))))))) (.cons (.list 3 (.int .i64)) .nil))) (.agg (.cons (.ro (.list 170 (.st (.cons (.int .i64) (.cons (.int .i64) (.cons (.int .i64) (.cons .str (.cons (.int .i64) .nil)))))))) (.cons (.h 10) .nil))))), (10, (.sl 3 (.int .i64))), (100, (.sl 3 (.int .i64)))]⟩
def f262con (F : Int → Int → Int → (Bool × TTreeB) → (List Int) → Option ((Unit × Bool) × TTreeB × (List Int) × (List Int))) : Con := ⟨f262in, f262out, 4, 2, fun x => F x.1.2.1 x.1.2.2.1 x.1.2.2.2 x.2.1 x.2.2⟩
def f262ctx (k : Nat) : Ctx := ⟨tyAt tys, conAt [(179, [f179con (impl_tree_find k)])], 79, fun _ => false⟩
theorem f262hc (k : Nat) : CtxOk Try.prog (f262ctx k) := ctxOk tys_ok mixed_ok (consOk_cons (f179ok k) (consOk_nil))
theorem f262ok (k : Nat) : FnOk Try.prog 262 (f262con (impl_tree_parts k)) :=
  let hc := f262hc k
  fnOk (fn := Try.f262) (code := bodyOf Try.f262) (res := [.tmp 8, .tmp 9]) hc (by kernel_rfl) (by kernel_rfl) (by decide) (by kernel_rfl) (by kernel_rfl) (by kernel_rfl) (Nat.le_of_ble_eq_true (by kernel_rfl)) _
    (fun x => Snd.seq (by kernel_rfl) (Snd.seq (by kernel_rfl) (Snd.seq (by kernel_rfl) (Snd.seq (by kernel_rfl) (Snd.seq (by kernel_rfl) (Snd.seq (by kernel_rfl) (Snd.exec hc _ _ _ _) (Snd.seq (by kernel_rfl) (Snd.block (id := 0) (by kernel_rfl) (Snd.loop' (by kernel_rfl) f262s7 (fun n x => impl_tree_parts.l7 k n x.1.2.2.1 x.1.2.2.2.1 x.1.2.2.2.2 x.2.1 x.2.2.1 x.2.2.2) _ (fun _ => rfl) (fun n7 => Snd.exec hc _ _ _ _) (fun n x => by kernel_rfl) k)) (Snd.exec hc _ _ _ _))) (Snd.exec hc _ _ _ _)) (Snd.exec hc _ _ _ _)) (Snd.exec hc _ _ _ _)) (Snd.exec hc _ _ _ _)) (Snd.exec hc _ _ _ _))
    (fun x => by kernel_rfl)

def f178in : SS := ⟨[(0, (.p 0)), (1, (.ro (.int .i64))), (2, (.ro (.int .i64))), (3, (.ro (.int .i64)))], [(0, (.obox (.st (.cons (.list 170 (.st (.cons (.int .i64) (.cons (.int .i64) (.cons (.int .i64) (.cons .str (.cons (.int .i64) .nil))))))) (.cons (.list 3 (.int .i64)) .nil))) (.agg (.cons (.ro (.list 170 (.st (.cons (.int .i64) (.cons (.int .i64) (.cons (.int .i64) (.cons .str (.cons (.int .i64) .nil)))))))) (.cons (.h 10) .nil))))), (10, (.sl 3 (.int .i64)))]⟩
def f178out : SS := ⟨[(0, (.agg (.cons (.ro (.int .i64)) (.cons (.ro (.int .i64)) (.cons (.ro (.int .i64)) (.cons (.ro .str) (.cons (.ro (.int .i64)) .nil))))))), (1, (.ro .bool))], [(0, (.box (.st (.cons (.list 170 (.st (.cons (.int .i64) (.cons (.int .i64) (.cons (.int .i64) (.cons .str (.cons (.int .i64) .nil))))))) (.cons (.list 3 (.int .i64)) .nil))) (.agg (.cons (.ro (.list 170 (.st (.cons (.int .i64) (.cons (.int .i64) (.cons (.int .i64) (.cons .str (.cons (.int .i64) .nil)))))))) (.cons (.h 10) .nil))))), (10, (.sl 3 (.int .i64)))]⟩
def f178con (F : Int → Int → Int → (Bool × TTreeB) → (List Int) → Option ((TNode × Bool) × TTreeB × (List Int))) : Con := ⟨f178in, f178out, 4, 2, fun x => F x.1.2.1 x.1.2.2.1 x.1.2.2.2 x.2.1 x.2.2⟩
def f178ctx (k : Nat) : Ctx := ⟨tyAt tys, conAt [(179, [f179con (impl_tree_find k)])], 37, fun _ => false⟩
theorem f178hc (k : Nat) : CtxOk Try.prog (f178ctx k) := ctxOk tys_ok mixed_ok (consOk_cons (f179ok k) (consOk_nil))
theorem f178ok (k : Nat) : FnOk Try.prog 178 (f178con (impl_tree_part k)) :=
  let hc := f178hc k
  fnOk (fn := Try.f178) (code := bodyOf Try.f178) (res := [.cell 8 170, .tmp 9]) hc (by kernel_rfl) (by kernel_rfl) (by decide) (by kernel_rfl) (by kernel_rfl) (by kernel_rfl) (Nat.le_of_ble_eq_true (by kernel_rfl)) _
    (fun x => Snd.exec hc _ _ _ _)
    (fun x => by kernel_rfl)

def f264in : SS := ⟨[(0, (.p 0)), (1, (.ro (.int .i64))), (2, (.ro (.int .i64)))], [(0, (.obox (.st (.cons (.list 170 (.st (.cons (.int .i64) (.cons (.int .i64) (.cons (.int .i64) (.cons .str (.cons (.int .i64) .nil))))))) (.cons (.list 3 (.int .i64)) .nil))) (.agg (.cons (.ro (.list 170 (.st (.cons (.int .i64) (.cons (.int .i64) (.cons (.int .i64) (.cons .str (.cons (.int .i64) .nil)))))))) (.cons (.h 10) .nil))))), (10, (.sl 3 (.int .i64)))]⟩
def f264out : SS := ⟨[(0, (.ro (.int .i64))), (1, (.ro .bool))], [(0, (.box (.st (.cons (.list 170 (.st (.cons (.int .i64) (.cons (.int .i64) (.cons (.int .i64) (.cons .str (.cons (.int .i64) .nil))))))) (.cons (.list 3 (.int .i64)) .nil))) (.agg (.cons (.ro (.list 170 (.st (.cons (.int .i64) (.cons (.int .i64) (.cons (.int .i64) (.cons .str (.cons (.int .i64) .nil)))))))) (.cons (.h 10) .nil))))), (10, (.sl 3 (.int .i64)))]⟩
def f264con (F : Int → Int → (Bool × TTreeB) → (List Int) → Option ((Int × Bool) × TTreeB × (List Int))) : Con := ⟨f264in, f264out, 3, 2, fun x => F x.1.2.1 x.1.2.2 x.2.1 x.2.2⟩
def f264ctx (k : Nat) : Ctx := ⟨tyAt tys, conAt [(179, [f179con (impl_tree_find k)])], 45, fun _ => false⟩
theorem f264hc (k : Nat) : CtxOk Try.prog (f264ctx k) := ctxOk tys_ok mixed_ok (consOk_cons (f179ok k) (consOk_nil))
theorem f264ok (k : Nat) : FnOk Try.prog 264 (f264con (impl_tree_num k)) :=
  let hc := f264hc k
  fnOk (fn := Try.f264) (code := bodyOf Try.f264) (res := [.tmp 6, .tmp 7]) hc (by kernel_rfl) (by kernel_rfl) (by decide) (by kernel_rfl) (by kernel_rfl) (by kernel_rfl) (Nat.le_of_ble_eq_true (by kernel_rfl)) _
    (fun x => Snd.exec hc _ _ _ _)
    (fun x => by kernel_rfl)

def f263in : SS := ⟨[(0, (.p 0)), (1, (.ro (.int .i64))), (2, (.ro .bool))], [(0, (.obox (.st (.cons (.list 170 (.st (.cons (.int .i64) (.cons (.int .i64) (.cons (.int .i64) (.cons .str (.cons (.int .i64) .nil))))))) (.cons (.list 3 (.int .i64)) .nil))) (.agg (.cons (.ro (.list 170 (.st (.cons (.int .i64) (.cons (.int .i64) (.cons (.int .i64) (.cons .str (.cons (.int .i64) .nil)))))))) (.cons (.h 10) .nil))))), (10, (.sl 3 (.int .i64)))]⟩
def f263out : SS := ⟨[(0, (.agg (.cons (.ro .str) (.cons (.ro (.int .i64)) (.cons (.ro (.int .i64)) (.cons (.ro (.int .i64)) .nil)))))), (1, (.ro .bool))], [(0, (.box (.st (.cons (.list 170 (.st (.cons (.int .i64) (.cons (.int .i64) (.cons (.int .i64) (.cons .str (.cons (.int .i64) .nil))))))) (.cons (.list 3 (.int .i64)) .nil))) (.agg (.cons (.ro (.list 170 (.st (.cons (.int .i64) (.cons (.int .i64) (.cons (.int .i64) (.cons .str (.cons (.int .i64) .nil)))))))) (.cons (.h 10) .nil))))), (10, (.sl 3 (.int .i64)))]⟩
def f263s11 : SS := ⟨[(6, (.p 100)), (9, (.ro .bool)), (11, (.ro .bool)), (13, (.ro .bool)), (16, (.p 101))], [(0, (.box (.st (.cons (.list 170 (.st (.cons (.int .i64) (.cons (.int .i64) (.cons (.int .i64) (.cons .str (.cons (.int .i64) .nil))))))) (.cons (.list 3 (.int .i64)) .nil))) (.agg (.cons (.ro (.list 170 (.st (.cons (.int .i64) (.cons (.int .i64) (.cons (.int .i64) (.cons .str (.cons (.int .i64) .nil)))))))) (.cons (.h 10) .nil))))), (10, (.sl 3 (.int .i64))), (100, (.box (.st (.cons .str (.cons (.int .i64) (.cons (.int .i64) (.cons (.int .i64) .nil))))) (.agg (.cons (.ro .str) (.cons (.ro (.int .i64)) (.cons (.ro (.int .i64)) (.cons (.ro (.int .i64)) .nil))))))), (101, (.box (.st (.cons .str (.cons (.int .i64) (.cons (.int .i64) (.cons (.int .i64) .nil))))) (.agg (.cons (.ro .str) (.cons (.ro (.int .i64)) (.cons (.ro (.int .i64)) (.cons (.ro (.int .i64)) .nil)))))))]⟩
def f263s8 : SS := ⟨[(0, (.p 0)), (1, (.ro (.int .i64))), (6, (.p 100)), (9, (.ro .bool)), (11, (.ro .bool)), (13, (.ro .bool)), (14, (.ro (.int .i64))), (15, (.ro .bool)), (16, (.p 101))], [(0, (.box (.st (.cons (.list 170 (.st (.cons (.int .i64) (.cons (.int .i64) (.cons (.int .i64) (.cons .str (.cons (.int .i64) .nil))))))) (.cons (.list 3 (.int .i64)) .nil))) (.agg (.cons (.ro (.list 170 (.st (.cons (.int .i64) (.cons (.int .i64) (.cons (.int .i64) (.cons .str (.cons (.int .i64) .nil)))))))) (.cons (.h 10) .nil))))), (10, (.sl 3 (.int .i64))), (100, (.box (.st (.cons .str (.cons (.int .i64) (.cons (.int .i64) (.cons (.int .i64) .nil))))) (.agg (.cons (.ro .str) (.cons (.ro (.int .i64)) (.cons (.ro (.int .i64)) (.cons (.ro (.int .i64)) .nil))))))), (101, (.box (.st (.cons .str (.cons (.int .i64) (.cons (.int .i64) (.cons (.int .i64) .nil))))) (.agg (.cons (.ro .str) (.cons (.ro (.int .i64)) (.cons (.ro (.int .i64)) (.cons (.ro (.int .i64)) .nil)))))))]⟩
def f263con (F : Int → Bool → (Bool × TTreeB) → (List Int) → Option ((TCol × Bool) × TTreeB × (List Int))) : Con := ⟨f263in, f263out, 3, 2, fun x => F x.1.2.1 x.1.2.2 x.2.1 x.2.2⟩
def f263ctx (k : Nat) : Ctx := ⟨tyAt tys, conAt [(178, [f178con (impl_tree_part k)]), (179, [f179con (impl_tree_find k)]), (264, [f264con (impl_tree_num k)])], 70, fun s => Nat.beq s 56⟩
theorem f263hc (k : Nat) : CtxOk Try.prog (f263ctx k) := ctxOk tys_ok mixed_ok (consOk_cons (f178ok k) (consOk_cons (f179ok k) (consOk_cons (f264ok k) (consOk_nil))))
theorem f263ok (k : Nat) : FnOk Try.prog 263 (f263con (impl_tree_col k)) :=
  let hc := f263hc k
  fnOk (fn := Try.f263) (code := bodyOf Try.f263) (res := [.cell 6 174, .tmp 7]) hc (by kernel_rfl) (by kernel_rfl) (by decide) (by kernel_rfl) (by kernel_rfl) (by kernel_rfl) (Nat.le_of_ble_eq_true (by kernel_rfl)) _
    (fun x => Snd.seq (by kernel_rfl) (Snd.seq (by kernel_rfl) (Snd.seq (by kernel_rfl) (Snd.seq (by kernel_rfl) (Snd.seq (by kernel_rfl) (Snd.seq (by kernel_rfl) (Snd.seq (by kernel_rfl) (Snd.cut (Snd.seq (by kernel_rfl) (Snd.cut (Snd.exec hc _ _ _ _) ⟨f263s11, fun x => impl_tree_col.c11 k x.1.2.1 x.1.2.2.1 x.1.2.2.2.1 x.2.1 x.2.2.1 x.2.2.2.1 x.2.2.2.2⟩ (fun x => by kernel_rfl)) (Snd.exec hc _ _ _ _)) ⟨f263s8, fun x => impl_tree_col.c8 k x.1.2.1 x.1.2.2.2.1 x.1.2.2.2.2.1 x.1.2.2.2.2.2.1 x.1.2.2.2.2.2.2.1 x.1.2.2.2.2.2.2.2.1 x.2.1 x.2.2.1 x.2.2.2.1 x.2.2.2.2⟩ (fun x => by kernel_rfl)) (Snd.exec hc _ _ _ _)) (Snd.exec hc _ _ _ _)) (Snd.exec hc _ _ _ _)) (Snd.exec hc _ _ _ _)) (Snd.exec hc _ _ _ _)) (Snd.exec hc _ _ _ _)) (Snd.exec hc _ _ _ _))
    (fun x => by kernel_rfl)

def f146in : SS := ⟨[(0, (.p 0)), (1, (.ro (.int .i64)))], [(0, (.obox (.st (.cons (.list 170 (.st (.cons (.int .i64) (.cons (.int .i64) (.cons (.int .i64) (.cons .str (.cons (.int .i64) .nil))))))) (.cons (.list 3 (.int .i64)) .nil))) (.agg (.cons (.ro (.list 170 (.st (.cons (.int .i64) (.cons (.int .i64) (.cons (.int .i64) (.cons .str (.cons (.int .i64) .nil)))))))) (.cons (.h 10) .nil))))), (10, (.sl 3 (.int .i64)))]⟩
def f146out : SS := ⟨[(0, (.h 100)), (1, (.ro .bool))], [(0, (.box (.st (.cons (.list 170 (.st (.cons (.int .i64) (.cons (.int .i64) (.cons (.int .i64) (.cons .str (.cons (.int .i64) .nil))))))) (.cons (.list 3 (.int .i64)) .nil))) (.agg (.cons (.ro (.list 170 (.st (.cons (.int .i64) (.cons (.int .i64) (.cons (.int .i64) (.cons .str (.cons (.int .i64) .nil)))))))) (.cons (.h 10) .nil))))), (10, (.sl 3 (.int .i64))), (100, (.sl 174 (.st (.cons .str (.cons (.int .i64) (.cons (.int .i64) (.cons (.int .i64) .nil)))))))]⟩
def f146s6 : SS := ⟨[(0, (.p 0)), (8, (.h 100)), (22, (.h 101)), (23, (.ro (.int .i64))), (24, (.ro (.int .i64)))], [(0, (.box (.st (.cons (.list 170 (.st (.cons (.int .i64) (.cons (.int .i64) (.cons (.int .i64) (.cons .str (.cons (.int .i64) .nil))))))) (.cons (.list 3 (.int .i64)) .nil))) (.agg (.cons (.ro (.list 170 (.st (.cons (.int .i64) (.cons (.int .i64) (.cons (.int .i64) (.cons .str (.cons (.int .i64) .nil)))))))) (.cons (.h 10) .nil))))), (10, (.sl 3 (.int .i64))), (100, (.sl 174 (.st (.cons .str (.cons (.int .i64) (.cons (.int .i64) (.cons (.int .i64) .nil))))))), (101, (.sl 3 (.int .i64)))]⟩
def f146con (F : Int → (Bool × TTreeB) → (List Int) → Option ((Unit × Bool) × TTreeB × (List Int) × (List TCol))) : Con := ⟨f146in, f146out, 2, 2, fun x => F x.1.2 x.2.1 x.2.2⟩
def f146ctx (k : Nat) : Ctx := ⟨tyAt tys, conAt [(79, [f79con (impl_SchemaOk k)]), (262, [f262con (impl_tree_parts k)]), (263, [f263con (impl_tree_col k)])], 62, fun _ => false⟩
theorem f146hc (k : Nat) : CtxOk Try.prog (f146ctx k) := ctxOk tys_ok mixed_ok (consOk_cons (f79ok k) (consOk_cons (f262ok k) (consOk_cons (f263ok k) (consOk_nil))))
theorem f146ok (k : Nat) : FnOk Try.prog 146 (f146con (impl_tree_schema k)) :=
  let hc := f146hc k
  fnOk (fn := Try.f146) (code := bodyOf Try.f146) (res := [.tmp 4, .tmp 5]) hc (by kernel_rfl) (by kernel_rfl) (by decide) (by kernel_rfl) (by kernel_rfl) (by kernel_rfl) (Nat.le_of_ble_eq_true (by kernel_rfl)) _
    (fun x => Snd.seq (by kernel_rfl) (Snd.seq (by kernel_rfl) (Snd.seq (by kernel_rfl) (Snd.seq (by kernel_rfl) (Snd.seq (by kernel_rfl) (Snd.exec hc _ _ _ _) (Snd.seq (by kernel_rfl) (Snd.block (id := 0) (by kernel_rfl) (Snd.loop' (by kernel_rfl) f146s6 (fun n x => impl_tree_schema.l6 k n x.1.2.2.2.1 x.1.2.2.2.2 x.2.1 x.2.2.1 x.2.2.2.1 x.2.2.2.2) _ (fun _ => rfl) (fun n6 => Snd.exec hc _ _ _ _) (fun n x => by kernel_rfl) k)) (Snd.exec hc _ _ _ _))) (Snd.exec hc _ _ _ _)) (Snd.exec hc _ _ _ _)) (Snd.exec hc _ _ _ _)) (Snd.exec hc _ _ _ _))
    (fun x => by kernel_rfl)

def f147i1in : SS := ⟨[(0, (.p 0)), (1, (.ro (.int .i64))), (2, (.ro (.int .i64)))], [(0, (.box (.st (.cons .ptr (.cons .bool .nil))) (.agg (.cons (.p 10) (.cons (.ro .bool) .nil))))), (10, (.box (.st (.cons (.list 170 (.st (.cons (.int .i64) (.cons (.int .i64) (.cons (.int .i64) (.cons .str (.cons (.int .i64) .nil))))))) (.cons (.list 3 (.int .i64)) .nil))) (.agg (.cons (.ro (.list 170 (.st (.cons (.int .i64) (.cons (.int .i64) (.cons (.int .i64) (.cons .str (.cons (.int .i64) .nil)))))))) (.cons (.h 11) .nil))))), (11, (.sl 3 (.int .i64)))]⟩
def f147i1out : SS := ⟨[(0, (.ro (.int .i64)))], [(0, (.box (.st (.cons .ptr (.cons .bool .nil))) (.agg (.cons (.p 10) (.cons (.ro .bool) .nil))))), (10, (.box (.st (.cons (.list 170 (.st (.cons (.int .i64) (.cons (.int .i64) (.cons (.int .i64) (.cons .str (.cons (.int .i64) .nil))))))) (.cons (.list 3 (.int .i64)) .nil))) (.agg (.cons (.ro (.list 170 (.st (.cons (.int .i64) (.cons (.int .i64) (.cons (.int .i64) (.cons .str (.cons (.int .i64) .nil)))))))) (.cons (.h 11) .nil))))), (11, (.sl 3 (.int .i64)))]⟩
def f147i1s4 : SS := ⟨[(7, (.ro (.int .i64)))], [(0, (.box (.st (.cons .ptr (.cons .bool .nil))) (.agg (.cons (.p 10) (.cons (.ro .bool) .nil))))), (10, (.box (.st (.cons (.list 170 (.st (.cons (.int .i64) (.cons (.int .i64) (.cons (.int .i64) (.cons .str (.cons (.int .i64) .nil))))))) (.cons (.list 3 (.int .i64)) .nil))) (.agg (.cons (.ro (.list 170 (.st (.cons (.int .i64) (.cons (.int .i64) (.cons (.int .i64) (.cons .str (.cons (.int .i64) .nil)))))))) (.cons (.h 11) .nil))))), (11, (.sl 3 (.int .i64)))]⟩
def f147i1con (F : Int → Int → TMetaReader → TTreeB → (List Int) → Option (Int × TMetaReader × TTreeB × (List Int))) : Con := ⟨f147i1in, f147i1out, 3, 1, fun x => F x.1.2.1 x.1.2.2 x.2.1 x.2.2.1 x.2.2.2⟩
def f147i1ctx (k : Nat) : Ctx := ⟨tyAt tys, conAt [(264, [f264con (impl_tree_num k)])], 25, fun _ => false⟩
theorem f147i1hc (k : Nat) : CtxOk Try.prog (f147i1ctx k) := ctxOk tys_ok mixed_ok (consOk_cons (f264ok k) (consOk_nil))
theorem f147i1ok (k : Nat) : FnOk Try.prog 147 (f147i1con (impl_metaReader_number k)) :=
  let hc := f147i1hc k
  fnOk (fn := Try.f147) (code := bodyOf Try.f147) (res := [.tmp 6]) hc (by kernel_rfl) (by kernel_rfl) (by decide) (by kernel_rfl) (by kernel_rfl) (by kernel_rfl) (Nat.le_of_ble_eq_true (by kernel_rfl)) _
    (fun x => Snd.seq (by kernel_rfl) (Snd.seq (by kernel_rfl) (Snd.seq (by kernel_rfl) (Snd.cut (Snd.exec hc _ _ _ _) ⟨f147i1s4, fun x => impl_metaReader_number.c4 k x.1 x.2.1 x.2.2.1 x.2.2.2⟩ (fun x => by kernel_rfl)) (Snd.exec hc _ _ _ _)) (Snd.exec hc _ _ _ _)) (Snd.exec hc _ _ _ _))
    (fun x => by kernel_rfl)

def f148i4in : SS := ⟨[(0, (.p 0)), (1, (.ro (.int .i64))), (2, (.ro (.int .i64))), (3, (.ro (.int .i64)))], [(0, (.box (.st (.cons .ptr (.cons .bool .nil))) (.agg (.cons (.p 10) (.cons (.ro .bool) .nil))))), (10, (.box (.st (.cons (.list 170 (.st (.cons (.int .i64) (.cons (.int .i64) (.cons (.int .i64) (.cons .str (.cons (.int .i64) .nil))))))) (.cons (.list 3 (.int .i64)) .nil))) (.agg (.cons (.ro (.list 170 (.st (.cons (.int .i64) (.cons (.int .i64) (.cons (.int .i64) (.cons .str (.cons (.int .i64) .nil)))))))) (.cons (.h 11) .nil))))), (11, (.sl 3 (.int .i64)))]⟩
def f148i4out : SS := ⟨[(0, (.h 100))], [(0, (.box (.st (.cons .ptr (.cons .bool .nil))) (.agg (.cons (.p 10) (.cons (.ro .bool) .nil))))), (10, (.box (.st (.cons (.list 170 (.st (.cons (.int .i64) (.cons (.int .i64) (.cons (.int .i64) (.cons .str (.cons (.int .i64) .nil))))))) (.cons (.list 3 (.int .i64)) .nil))) (.agg (.cons (.ro (.list 170 (.st (.cons (.int .i64) (.cons (.int .i64) (.cons (.int .i64) (.cons .str (.cons (.int .i64) .nil)))))))) (.cons (.h 11) .nil))))), (11, (.sl 3 (.int .i64))), (100, (.sl 3 (.int .i64)))]⟩
def f148i4s4 : SS := ⟨[(9, (.h 100))], [(0, (.box (.st (.cons .ptr (.cons .bool .nil))) (.agg (.cons (.p 10) (.cons (.ro .bool) .nil))))), (10, (.box (.st (.cons (.list 170 (.st (.cons (.int .i64) (.cons (.int .i64) (.cons (.int .i64) (.cons .str (.cons (.int .i64) .nil))))))) (.cons (.list 3 (.int .i64)) .nil))) (.agg (.cons (.ro (.list 170 (.st (.cons (.int .i64) (.cons (.int .i64) (.cons (.int .i64) (.cons .str (.cons (.int .i64) .nil)))))))) (.cons (.h 11) .nil))))), (11, (.sl 3 (.int .i64))), (100, (.sl 3 (.int .i64)))]⟩
def f148i4con (F : Int → Int → Int → TMetaReader → TTreeB → (List Int) → Option (Unit × TMetaReader × TTreeB × (List Int) × (List Int))) : Con := ⟨f148i4in, f148i4out, 4, 1, fun x => F x.1.2.1 x.1.2.2.1 x.1.2.2.2 x.2.1 x.2.2.1 x.2.2.2⟩
def f148i4ctx (k : Nat) : Ctx := ⟨tyAt tys, conAt [(262, [f262con (impl_tree_parts k)])], 28, fun _ => false⟩
theorem f148i4hc (k : Nat) : CtxOk Try.prog (f148i4ctx k) := ctxOk tys_ok mixed_ok (consOk_cons (f262ok k) (consOk_nil))
theorem f148i4ok (k : Nat) : FnOk Try.prog 148 (f148i4con (impl_metaReader_list k)) :=
  let hc := f148i4hc k
  fnOk (fn := Try.f148) (code := bodyOf Try.f148) (res := [.tmp 8]) hc (by kernel_rfl) (by kernel_rfl) (by decide) (by kernel_rfl) (by kernel_rfl) (by kernel_rfl) (Nat.le_of_ble_eq_true (by kernel_rfl)) _
    (fun x => Snd.seq (by kernel_rfl) (Snd.seq (by kernel_rfl) (Snd.seq (by kernel_rfl) (Snd.cut (Snd.exec hc _ _ _ _) ⟨f148i4s4, fun x => impl_metaReader_list.c4 k x.2.1 x.2.2.1 x.2.2.2.1 x.2.2.2.2⟩ (fun x => by kernel_rfl)) (Snd.exec hc _ _ _ _)) (Snd.exec hc _ _ _ _)) (Snd.exec hc _ _ _ _))
    (fun x => by kernel_rfl)

def f190in : SS := ⟨[(0, (.ro (.list 174 (.st (.cons .str (.cons (.int .i64) (.cons (.int .i64) (.cons (.int .i64) .nil))))))))], []⟩
def f190out : SS := ⟨[(0, (.h 100))], [(100, (.sl 3 (.int .i64)))]⟩
def f190con (F : (List TCol) → Option (Unit × (List Int))) : Con := ⟨f190in, f190out, 1, 1, fun x => F x⟩
def f190ctx (k : Nat) : Ctx := ⟨tyAt tys, conAt [(79, [f79con (impl_SchemaOk k)]), (81, [f81con (impl_leavesOf k)])], 8, fun _ => false⟩
theorem f190hc (k : Nat) : CtxOk Try.prog (f190ctx k) := ctxOk tys_ok mixed_ok (consOk_cons (f79ok k) (consOk_cons (f81ok k) (consOk_nil)))
theorem f190ok (k : Nat) : FnOk Try.prog 190 (f190con (impl_SchemaLeaves k)) :=
  let hc := f190hc k
  fnOk (fn := Try.f190) (code := bodyOf Try.f190) (res := [.tmp 2]) hc (by kernel_rfl) (by kernel_rfl) (by decide) (by kernel_rfl) (by kernel_rfl) (by kernel_rfl) (Nat.le_of_ble_eq_true (by kernel_rfl)) _
    (fun x => Snd.exec hc _ _ _ _)
    (fun x => by kernel_rfl)

def f290in : SS := ⟨[(0, (.ro (.list 174 (.st (.cons .str (.cons (.int .i64) (.cons (.int .i64) (.cons (.int .i64) .nil)))))))), (1, (.ro (.int .i64)))], []⟩
def f290out : SS := ⟨[(0, (.h 100))], [(100, (.sl 3 (.int .i64)))]⟩
def f290s6 : SS := ⟨[(0, (.ro (.list 174 (.st (.cons .str (.cons (.int .i64) (.cons (.int .i64) (.cons (.int .i64) .nil)))))))), (1, (.ro (.int .i64))), (5, (.h 100)), (6, (.h 101)), (7, (.ro (.int .i64)))], [(100, (.sl 3 (.int .i64))), (101, (.sl 3 (.int .i64)))]⟩
def f290con (F : (List TCol) → Int → Option (Unit × (List Int))) : Con := ⟨f290in, f290out, 2, 1, fun x => F x.1 x.2⟩
def f290ctx (k : Nat) : Ctx := ⟨tyAt tys, conAt [(105, [f105con (impl_within k)]), (184, [f184con (impl_colAfter k)]), (190, [f190con (impl_SchemaLeaves k)])], 41, fun _ => false⟩
theorem f290hc (k : Nat) : CtxOk Try.prog (f290ctx k) := ctxOk tys_ok mixed_ok (consOk_cons (f105ok k) (consOk_cons (f184ok k) (consOk_cons (f190ok k) (consOk_nil))))
theorem f290ok (k : Nat) : FnOk Try.prog 290 (f290con (impl_wayTo k)) :=
  let hc := f290hc k
  fnOk (fn := Try.f290) (code := bodyOf Try.f290) (res := [.tmp 4]) hc (by kernel_rfl) (by kernel_rfl) (by decide) (by kernel_rfl) (by kernel_rfl) (by kernel_rfl) (Nat.le_of_ble_eq_true (by kernel_rfl)) _
    (fun x => Snd.seq (by kernel_rfl) (Snd.seq (by kernel_rfl) (Snd.seq (by kernel_rfl) (Snd.seq (by kernel_rfl) (Snd.seq (by kernel_rfl) (Snd.exec hc _ _ _ _) (Snd.seq (by kernel_rfl) (Snd.block (id := 0) (by kernel_rfl) (Snd.loop' (by kernel_rfl) f290s6 (fun n x => impl_wayTo.l6 k n x.1.1 x.1.2.1 x.1.2.2.2.2 x.2.1 x.2.2) _ (fun _ => rfl) (fun n6 => Snd.exec hc _ _ _ _) (fun n x => by kernel_rfl) k)) (Snd.exec hc _ _ _ _))) (Snd.exec hc _ _ _ _)) (Snd.exec hc _ _ _ _)) (Snd.exec hc _ _ _ _)) (Snd.exec hc _ _ _ _))
    (fun x => by kernel_rfl)

def f191in : SS := ⟨[(0, (.ro (.list 174 (.st (.cons .str (.cons (.int .i64) (.cons (.int .i64) (.cons (.int .i64) .nil)))))))), (1, (.ro (.int .i64)))], []⟩
def f191out : SS := ⟨[(0, (.ro (.int .i64))), (1, (.ro (.int .i64)))], []⟩
def f191s12 : SS := ⟨[(0, (.ro (.list 174 (.st (.cons .str (.cons (.int .i64) (.cons (.int .i64) (.cons (.int .i64) .nil)))))))), (7, (.ro (.int .i64))), (8, (.ro (.int .i64))), (17, (.h 100)), (18, (.ro (.int .i64))), (19, (.ro (.int .i64)))], [(100, (.sl 3 (.int .i64)))]⟩
def f191s10 : SS := ⟨[(0, (.ro (.list 174 (.st (.cons .str (.cons (.int .i64) (.cons (.int .i64) (.cons (.int .i64) .nil)))))))), (7, (.ro (.int .i64))), (8, (.ro (.int .i64))), (10, (.ro (.int .i64))), (17, (.h 100)), (18, (.ro (.int .i64))), (19, (.ro (.int .i64)))], [(100, (.sl 3 (.int .i64)))]⟩
def f191s6 : SS := ⟨[(0, (.ro (.list 174 (.st (.cons .str (.cons (.int .i64) (.cons (.int .i64) (.cons (.int .i64) .nil)))))))), (7, (.ro (.int .i64))), (8, (.ro (.int .i64))), (17, (.h 100)), (18, (.ro (.int .i64))), (19, (.ro (.int .i64)))], [(100, (.sl 3 (.int .i64)))]⟩
def f191con (F : (List TCol) → Int → Option (Int × Int)) : Con := ⟨f191in, f191out, 2, 2, fun x => F x.1 x.2⟩
def f191ctx (k : Nat) : Ctx := ⟨tyAt tys, conAt [(290, [f290con (impl_wayTo k)])], 42, fun _ => false⟩
theorem f191hc (k : Nat) : CtxOk Try.prog (f191ctx k) := ctxOk tys_ok mixed_ok (consOk_cons (f290ok k) (consOk_nil))
theorem f191ok (k : Nat) : FnOk Try.prog 191 (f191con (impl_LeafMax k)) :=
  let hc := f191hc k
  fnOk (fn := Try.f191) (code := bodyOf Try.f191) (res := [.tmp 4, .tmp 5]) hc (by kernel_rfl) (by kernel_rfl) (by decide) (by kernel_rfl) (by kernel_rfl) (by kernel_rfl) (Nat.le_of_ble_eq_true (by kernel_rfl)) _
    (fun x => Snd.seq (by kernel_rfl) (Snd.seq (by kernel_rfl) (Snd.seq (by kernel_rfl) (Snd.seq (by kernel_rfl) (Snd.seq (by kernel_rfl) (Snd.exec hc _ _ _ _) (Snd.seq (by kernel_rfl) (Snd.block (id := 0) (by kernel_rfl) (Snd.loop' (by kernel_rfl) f191s6 (fun n x => impl_LeafMax.l6 k n x.1.1 x.1.2.1 x.1.2.2.1 x.1.2.2.2.2.1 x.1.2.2.2.2.2 x.2) _ (fun _ => rfl) (fun n6 => Snd.seq (by kernel_rfl) (Snd.seq (by kernel_rfl) (Snd.seq (by kernel_rfl) (Snd.cut (Snd.exec hc _ _ _ _) ⟨f191s12, fun x => impl_LeafMax.c12 k (impl_LeafMax.l6 k n6) x.1.1 x.1.2.1 x.1.2.2.1 x.1.2.2.2.2.1 x.1.2.2.2.2.2 x.2⟩ (fun x => by kernel_rfl)) (Snd.block (id := 1) (by kernel_rfl) (Snd.seq (by kernel_rfl) (Snd.seq (by kernel_rfl) (Snd.cut (Snd.exec hc _ _ _ _) ⟨f191s10, fun x => impl_LeafMax.c10 k (impl_LeafMax.l6 k n6) x.1.1 x.1.2.1 x.1.2.2.1 x.1.2.2.2.1 x.1.2.2.2.2.2.1 x.1.2.2.2.2.2.2 x.2⟩ (fun x => by kernel_rfl)) (Snd.exec hc _ _ _ _)) (Snd.exec hc _ _ _ _)))) (Snd.exec hc _ _ _ _)) (Snd.exec hc _ _ _ _)) (fun n x => by kernel_rfl) k)) (Snd.exec hc _ _ _ _))) (Snd.exec hc _ _ _ _)) (Snd.exec hc _ _ _ _)) (Snd.exec hc _ _ _ _)) (Snd.exec hc _ _ _ _))
    (fun x => by kernel_rfl)

def f88in : SS := ⟨[(0, (.ro (.list 174 (.st (.cons .str (.cons (.int .i64) (.cons (.int .i64) (.cons (.int .i64) .nil)))))))), (1, (.ro (.int .i64)))], []⟩
def f88out : SS := ⟨[(0, (.agg (.cons (.ro (.int .i64)) (.cons (.ro (.int .i64)) (.cons (.ro (.int .i64)) .nil))))), (1, (.ro .bool))], []⟩
def f88con (F : (List TCol) → Int → Option (TLeaf × Bool)) : Con := ⟨f88in, f88out, 2, 2, fun x => F x.1 x.2⟩
def f88ctx (k : Nat) : Ctx := ⟨tyAt tys, conAt [(105, [f105con (impl_within k)]), (190, [f190con (impl_SchemaLeaves k)]), (191, [f191con (impl_LeafMax k)])], 35, fun _ => false⟩
theorem f88hc (k : Nat) : CtxOk Try.prog (f88ctx k) := ctxOk tys_ok mixed_ok (consOk_cons (f105ok k) (consOk_cons (f190ok k) (consOk_cons (f191ok k) (consOk_nil))))
theorem f88ok (k : Nat) : FnOk Try.prog 88 (f88con (impl_LeafOf k)) :=
  let hc := f88hc k
  fnOk (fn := Try.f88) (code := bodyOf Try.f88) (res := [.cell 4 71, .tmp 5]) hc (by kernel_rfl) (by kernel_rfl) (by decide) (by kernel_rfl) (by kernel_rfl) (by kernel_rfl) (Nat.le_of_ble_eq_true (by kernel_rfl)) _
    (fun x => Snd.exec hc _ _ _ _)
    (fun x => by kernel_rfl)

def f275in : SS := ⟨[(0, (.ro (.list 174 (.st (.cons .str (.cons (.int .i64) (.cons (.int .i64) (.cons (.int .i64) .nil)))))))), (1, (.ro (.int .i64)))], []⟩
def f275out : SS := ⟨[(0, (.h 100))], [(100, (.sl 9 .str))]⟩
def f275s3 : SS := ⟨[(0, (.ro (.list 174 (.st (.cons .str (.cons (.int .i64) (.cons (.int .i64) (.cons (.int .i64) .nil)))))))), (5, (.h 100)), (11, (.h 101)), (12, (.ro (.int .i64))), (13, (.ro (.int .i64)))], [(100, (.sl 9 .str)), (101, (.sl 3 (.int .i64)))]⟩
def f275con (F : (List TCol) → Int → Option (Unit × (List ByteArray))) : Con := ⟨f275in, f275out, 2, 1, fun x => F x.1 x.2⟩
def f275ctx (k : Nat) : Ctx := ⟨tyAt tys, conAt [(290, [f290con (impl_wayTo k)])], 27, fun _ => false⟩
theorem f275hc (k : Nat) : CtxOk Try.prog (f275ctx k) := ctxOk tys_ok mixed_ok (consOk_cons (f290ok k) (consOk_nil))
theorem f275ok (k : Nat) : FnOk Try.prog 275 (f275con (impl_LeafPath k)) :=
  let hc := f275hc k
  fnOk (fn := Try.f275) (code := bodyOf Try.f275) (res := [.tmp 4]) hc (by kernel_rfl) (by kernel_rfl) (by decide) (by kernel_rfl) (by kernel_rfl) (by kernel_rfl) (Nat.le_of_ble_eq_true (by kernel_rfl)) _
    (fun x => Snd.seq (by kernel_rfl) (Snd.seq (by kernel_rfl) (Snd.seq (by kernel_rfl) (Snd.exec hc _ _ _ _) (Snd.seq (by kernel_rfl) (Snd.block (id := 0) (by kernel_rfl) (Snd.loop' (by kernel_rfl) f275s3 (fun n x => impl_LeafPath.l3 k n x.1.1 x.1.2.2.2.1 x.1.2.2.2.2 x.2.1 x.2.2) _ (fun _ => rfl) (fun n3 => Snd.exec hc _ _ _ _) (fun n x => by kernel_rfl) k)) (Snd.exec hc _ _ _ _))) (Snd.exec hc _ _ _ _)) (Snd.exec hc _ _ _ _))
    (fun x => by kernel_rfl)

def f331in : SS := ⟨[(0, (.ro (.list 9 .str))), (1, (.ro (.list 9 .str)))], []⟩
def f331out : SS := ⟨[(0, (.ro .bool))], []⟩
def f331s4 : SS := ⟨[(0, (.ro (.list 9 .str))), (1, (.ro (.list 9 .str))), (12, (.ro (.int .i64))), (13, (.ro (.int .i64)))], []⟩
def f331con (F : (List ByteArray) → (List ByteArray) → Option Bool) : Con := ⟨f331in, f331out, 2, 1, fun x => F x.1 x.2⟩
def f331ctx (k : Nat) : Ctx := ⟨tyAt tys, conAt [], 26, fun _ => false⟩
theorem f331hc (k : Nat) : CtxOk Try.prog (f331ctx k) := ctxOk tys_ok mixed_ok (consOk_nil)
theorem f331ok (k : Nat) : FnOk Try.prog 331 (f331con (slices_Equal_string_string k)) :=
  let hc := f331hc k
  fnOk (fn := Try.f331) (code := bodyOf Try.f331) (res := [.tmp 4]) hc (by kernel_rfl) (by kernel_rfl) (by decide) (by kernel_rfl) (by kernel_rfl) (by kernel_rfl) (Nat.le_of_ble_eq_true (by kernel_rfl)) _
    (fun x => Snd.seq (by kernel_rfl) (Snd.seq (by kernel_rfl) (Snd.seq (by kernel_rfl) (Snd.exec hc _ _ _ _) (Snd.seq (by kernel_rfl) (Snd.block (id := 0) (by kernel_rfl) (Snd.loop' (by kernel_rfl) f331s4 (fun n x => slices_Equal_string_string.l4 k n x.1 x.2.1 x.2.2.1 x.2.2.2) _ (fun _ => rfl) (fun n4 => Snd.exec hc _ _ _ _) (fun n x => by kernel_rfl) k)) (Snd.exec hc _ _ _ _))) (Snd.exec hc _ _ _ _)) (Snd.exec hc _ _ _ _))
    (fun x => by kernel_rfl)

def f265i10in : SS := ⟨[(0, (.p 0)), (1, (.h 60)), (2, (.ro (.int .i64))), (3, (.ro (.int .i64)))], [(0, (.box (.st (.cons .ptr (.cons .bool .nil))) (.agg (.cons (.p 10) (.cons (.ro .bool) .nil))))), (10, (.box (.st (.cons (.list 170 (.st (.cons (.int .i64) (.cons (.int .i64) (.cons (.int .i64) (.cons .str (.cons (.int .i64) .nil))))))) (.cons (.list 3 (.int .i64)) .nil))) (.agg (.cons (.ro (.list 170 (.st (.cons (.int .i64) (.cons (.int .i64) (.cons (.int .i64) (.cons .str (.cons (.int .i64) .nil)))))))) (.cons (.h 11) .nil))))), (11, (.sl 3 (.int .i64))), (60, (.sl 174 (.st (.cons .str (.cons (.int .i64) (.cons (.int .i64) (.cons (.int .i64) .nil)))))))]⟩
def f265i10out : SS := ⟨[(0, (.agg (.cons (.ro (.int .i64)) (.cons (.ro (.int .i64)) (.cons (.ro (.int .i64)) (.cons (.ro (.int .i64)) (.cons (.ro (.int .i64)) (.cons (.h 100) .nil))))))))], [(0, (.box (.st (.cons .ptr (.cons .bool .nil))) (.agg (.cons (.p 10) (.cons (.ro .bool) .nil))))), (10, (.box (.st (.cons (.list 170 (.st (.cons (.int .i64) (.cons (.int .i64) (.cons (.int .i64) (.cons .str (.cons (.int .i64) .nil))))))) (.cons (.list 3 (.int .i64)) .nil))) (.agg (.cons (.ro (.list 170 (.st (.cons (.int .i64) (.cons (.int .i64) (.cons (.int .i64) (.cons .str (.cons (.int .i64) .nil)))))))) (.cons (.h 11) .nil))))), (11, (.sl 3 (.int .i64))), (60, (.sl 174 (.st (.cons .str (.cons (.int .i64) (.cons (.int .i64) (.cons (.int .i64) .nil))))))), (100, (.sl 3 (.int .i64)))]⟩
def f265i10s28 : SS := ⟨[(8, (.p 100)), (9, (.p 101))], [(0, (.box (.st (.cons .ptr (.cons .bool .nil))) (.agg (.cons (.p 10) (.cons (.ro .bool) .nil))))), (10, (.box (.st (.cons (.list 170 (.st (.cons (.int .i64) (.cons (.int .i64) (.cons (.int .i64) (.cons .str (.cons (.int .i64) .nil))))))) (.cons (.list 3 (.int .i64)) .nil))) (.agg (.cons (.ro (.list 170 (.st (.cons (.int .i64) (.cons (.int .i64) (.cons (.int .i64) (.cons .str (.cons (.int .i64) .nil)))))))) (.cons (.h 11) .nil))))), (11, (.sl 3 (.int .i64))), (60, (.sl 174 (.st (.cons .str (.cons (.int .i64) (.cons (.int .i64) (.cons (.int .i64) .nil))))))), (100, (.box (.st (.cons (.int .i64) (.cons (.int .i64) (.cons (.int .i64) (.cons (.int .i64) (.cons (.int .i64) (.cons (.list 3 (.int .i64)) .nil))))))) (.agg (.cons (.ro (.int .i64)) (.cons (.ro (.int .i64)) (.cons (.ro (.int .i64)) (.cons (.ro (.int .i64)) (.cons (.ro (.int .i64)) (.cons (.h 102) .nil))))))))), (101, (.box (.st (.cons (.int .i64) (.cons (.int .i64) (.cons (.int .i64) (.cons (.int .i64) (.cons (.int .i64) (.cons (.list 3 (.int .i64)) .nil))))))) (.agg (.cons (.ro (.int .i64)) (.cons (.ro (.int .i64)) (.cons (.ro (.int .i64)) (.cons (.ro (.int .i64)) (.cons (.ro (.int .i64)) (.cons (.h 103) .nil))))))))), (102, (.sl 3 (.int .i64))), (103, (.sl 3 (.int .i64)))]⟩
def f265i10s24 : SS := ⟨[(0, (.p 0)), (8, (.p 100)), (9, (.p 101)), (10, (.ro (.int .i64)))], [(0, (.box (.st (.cons .ptr (.cons .bool .nil))) (.agg (.cons (.p 10) (.cons (.ro .bool) .nil))))), (10, (.box (.st (.cons (.list 170 (.st (.cons (.int .i64) (.cons (.int .i64) (.cons (.int .i64) (.cons .str (.cons (.int .i64) .nil))))))) (.cons (.list 3 (.int .i64)) .nil))) (.agg (.cons (.ro (.list 170 (.st (.cons (.int .i64) (.cons (.int .i64) (.cons (.int .i64) (.cons .str (.cons (.int .i64) .nil)))))))) (.cons (.h 11) .nil))))), (11, (.sl 3 (.int .i64))), (60, (.sl 174 (.st (.cons .str (.cons (.int .i64) (.cons (.int .i64) (.cons (.int .i64) .nil))))))), (100, (.box (.st (.cons (.int .i64) (.cons (.int .i64) (.cons (.int .i64) (.cons (.int .i64) (.cons (.int .i64) (.cons (.list 3 (.int .i64)) .nil))))))) (.agg (.cons (.ro (.int .i64)) (.cons (.ro (.int .i64)) (.cons (.ro (.int .i64)) (.cons (.ro (.int .i64)) (.cons (.ro (.int .i64)) (.cons (.h 102) .nil))))))))), (101, (.box (.st (.cons (.int .i64) (.cons (.int .i64) (.cons (.int .i64) (.cons (.int .i64) (.cons (.int .i64) (.cons (.list 3 (.int .i64)) .nil))))))) (.agg (.cons (.ro (.int .i64)) (.cons (.ro (.int .i64)) (.cons (.ro (.int .i64)) (.cons (.ro (.int .i64)) (.cons (.ro (.int .i64)) (.cons (.h 103) .nil))))))))), (102, (.sl 3 (.int .i64))), (103, (.sl 3 (.int .i64)))]⟩
def f265i10d22 : SS := ⟨[(0, (.p 0)), (8, (.p 100)), (9, (.p 101)), (10, (.ro (.int .i64)))], [(0, (.box (.st (.cons .ptr (.cons .bool .nil))) (.agg (.cons (.p 10) (.cons (.ro .bool) .nil))))), (10, (.box (.st (.cons (.list 170 (.st (.cons (.int .i64) (.cons (.int .i64) (.cons (.int .i64) (.cons .str (.cons (.int .i64) .nil))))))) (.cons (.list 3 (.int .i64)) .nil))) (.agg (.cons (.ro (.list 170 (.st (.cons (.int .i64) (.cons (.int .i64) (.cons (.int .i64) (.cons .str (.cons (.int .i64) .nil)))))))) (.cons (.h 11) .nil))))), (11, (.sl 3 (.int .i64))), (60, (.sl 174 (.st (.cons .str (.cons (.int .i64) (.cons (.int .i64) (.cons (.int .i64) .nil))))))), (100, (.box (.st (.cons (.int .i64) (.cons (.int .i64) (.cons (.int .i64) (.cons (.int .i64) (.cons (.int .i64) (.cons (.list 3 (.int .i64)) .nil))))))) (.agg (.cons (.ro (.int .i64)) (.cons (.ro (.int .i64)) (.cons (.ro (.int .i64)) (.cons (.ro (.int .i64)) (.cons (.ro (.int .i64)) (.cons (.h 102) .nil))))))))), (101, (.box (.st (.cons (.int .i64) (.cons (.int .i64) (.cons (.int .i64) (.cons (.int .i64) (.cons (.int .i64) (.cons (.list 3 (.int .i64)) .nil))))))) (.agg (.cons (.ro (.int .i64)) (.cons (.ro (.int .i64)) (.cons (.ro (.int .i64)) (.cons (.ro (.int .i64)) (.cons (.ro (.int .i64)) (.cons (.h 103) .nil))))))))), (102, (.sl 3 (.int .i64))), (103, (.sl 3 (.int .i64)))]⟩
def f265i10s20 : SS := ⟨[(0, (.p 0)), (8, (.p 100)), (9, (.p 101)), (10, (.ro (.int .i64)))], [(0, (.box (.st (.cons .ptr (.cons .bool .nil))) (.agg (.cons (.p 10) (.cons (.ro .bool) .nil))))), (10, (.box (.st (.cons (.list 170 (.st (.cons (.int .i64) (.cons (.int .i64) (.cons (.int .i64) (.cons .str (.cons (.int .i64) .nil))))))) (.cons (.list 3 (.int .i64)) .nil))) (.agg (.cons (.ro (.list 170 (.st (.cons (.int .i64) (.cons (.int .i64) (.cons (.int .i64) (.cons .str (.cons (.int .i64) .nil)))))))) (.cons (.h 11) .nil))))), (11, (.sl 3 (.int .i64))), (60, (.sl 174 (.st (.cons .str (.cons (.int .i64) (.cons (.int .i64) (.cons (.int .i64) .nil))))))), (100, (.box (.st (.cons (.int .i64) (.cons (.int .i64) (.cons (.int .i64) (.cons (.int .i64) (.cons (.int .i64) (.cons (.list 3 (.int .i64)) .nil))))))) (.agg (.cons (.ro (.int .i64)) (.cons (.ro (.int .i64)) (.cons (.ro (.int .i64)) (.cons (.ro (.int .i64)) (.cons (.ro (.int .i64)) (.cons (.h 102) .nil))))))))), (101, (.box (.st (.cons (.int .i64) (.cons (.int .i64) (.cons (.int .i64) (.cons (.int .i64) (.cons (.int .i64) (.cons (.list 3 (.int .i64)) .nil))))))) (.agg (.cons (.ro (.int .i64)) (.cons (.ro (.int .i64)) (.cons (.ro (.int .i64)) (.cons (.ro (.int .i64)) (.cons (.ro (.int .i64)) (.cons (.h 103) .nil))))))))), (102, (.sl 3 (.int .i64))), (103, (.sl 3 (.int .i64)))]⟩
def f265i10d18 : SS := ⟨[(0, (.p 0)), (1, (.h 60)), (3, (.ro (.int .i64))), (8, (.p 100)), (9, (.p 101)), (10, (.ro (.int .i64))), (11, (.p 102)), (15, (.h 103))], [(0, (.box (.st (.cons .ptr (.cons .bool .nil))) (.agg (.cons (.p 10) (.cons (.ro .bool) .nil))))), (10, (.box (.st (.cons (.list 170 (.st (.cons (.int .i64) (.cons (.int .i64) (.cons (.int .i64) (.cons .str (.cons (.int .i64) .nil))))))) (.cons (.list 3 (.int .i64)) .nil))) (.agg (.cons (.ro (.list 170 (.st (.cons (.int .i64) (.cons (.int .i64) (.cons (.int .i64) (.cons .str (.cons (.int .i64) .nil)))))))) (.cons (.h 11) .nil))))), (11, (.sl 3 (.int .i64))), (60, (.sl 174 (.st (.cons .str (.cons (.int .i64) (.cons (.int .i64) (.cons (.int .i64) .nil))))))), (100, (.box (.st (.cons (.int .i64) (.cons (.int .i64) (.cons (.int .i64) (.cons (.int .i64) (.cons (.int .i64) (.cons (.list 3 (.int .i64)) .nil))))))) (.agg (.cons (.ro (.int .i64)) (.cons (.ro (.int .i64)) (.cons (.ro (.int .i64)) (.cons (.ro (.int .i64)) (.cons (.ro (.int .i64)) (.cons (.h 104) .nil))))))))), (101, (.box (.st (.cons (.int .i64) (.cons (.int .i64) (.cons (.int .i64) (.cons (.int .i64) (.cons (.int .i64) (.cons (.list 3 (.int .i64)) .nil))))))) (.agg (.cons (.ro (.int .i64)) (.cons (.ro (.int .i64)) (.cons (.ro (.int .i64)) (.cons (.ro (.int .i64)) (.cons (.ro (.int .i64)) (.cons (.h 105) .nil))))))))), (102, (.box (.st (.cons (.int .i64) (.cons (.int .i64) (.cons (.int .i64) .nil)))) (.agg (.cons (.ro (.int .i64)) (.cons (.ro (.int .i64)) (.cons (.ro (.int .i64)) .nil)))))), (103, (.sl 9 .str)), (104, (.sl 3 (.int .i64))), (105, (.sl 3 (.int .i64)))]⟩
def f265i10s14 : SS := ⟨[(0, (.p 0)), (1, (.h 60)), (3, (.ro (.int .i64))), (8, (.p 100)), (9, (.p 101)), (10, (.ro (.int .i64))), (11, (.p 102)), (15, (.h 103)), (80, (.h 104)), (81, (.ro (.int .i64))), (82, (.ro (.int .i64)))], [(0, (.box (.st (.cons .ptr (.cons .bool .nil))) (.agg (.cons (.p 10) (.cons (.ro .bool) .nil))))), (10, (.box (.st (.cons (.list 170 (.st (.cons (.int .i64) (.cons (.int .i64) (.cons (.int .i64) (.cons .str (.cons (.int .i64) .nil))))))) (.cons (.list 3 (.int .i64)) .nil))) (.agg (.cons (.ro (.list 170 (.st (.cons (.int .i64) (.cons (.int .i64) (.cons (.int .i64) (.cons .str (.cons (.int .i64) .nil)))))))) (.cons (.h 11) .nil))))), (11, (.sl 3 (.int .i64))), (60, (.sl 174 (.st (.cons .str (.cons (.int .i64) (.cons (.int .i64) (.cons (.int .i64) .nil))))))), (100, (.box (.st (.cons (.int .i64) (.cons (.int .i64) (.cons (.int .i64) (.cons (.int .i64) (.cons (.int .i64) (.cons (.list 3 (.int .i64)) .nil))))))) (.agg (.cons (.ro (.int .i64)) (.cons (.ro (.int .i64)) (.cons (.ro (.int .i64)) (.cons (.ro (.int .i64)) (.cons (.ro (.int .i64)) (.cons (.h 105) .nil))))))))), (101, (.box (.st (.cons (.int .i64) (.cons (.int .i64) (.cons (.int .i64) (.cons (.int .i64) (.cons (.int .i64) (.cons (.list 3 (.int .i64)) .nil))))))) (.agg (.cons (.ro (.int .i64)) (.cons (.ro (.int .i64)) (.cons (.ro (.int .i64)) (.cons (.ro (.int .i64)) (.cons (.ro (.int .i64)) (.cons (.h 106) .nil))))))))), (102, (.box (.st (.cons (.int .i64) (.cons (.int .i64) (.cons (.int .i64) .nil)))) (.agg (.cons (.ro (.int .i64)) (.cons (.ro (.int .i64)) (.cons (.ro (.int .i64)) .nil)))))), (103, (.sl 9 .str)), (104, (.sl 3 (.int .i64))), (105, (.sl 3 (.int .i64))), (106, (.sl 3 (.int .i64)))]⟩
def f265i10d10 : SS := ⟨[(0, (.p 0)), (1, (.h 60)), (3, (.ro (.int .i64))), (8, (.p 100)), (9, (.p 101)), (10, (.ro (.int .i64))), (11, (.p 102)), (14, (.ro (.int .i64))), (54, (.h 103)), (55, (.ro (.int .i64))), (56, (.ro (.int .i64)))], [(0, (.box (.st (.cons .ptr (.cons .bool .nil))) (.agg (.cons (.p 10) (.cons (.ro .bool) .nil))))), (10, (.box (.st (.cons (.list 170 (.st (.cons (.int .i64) (.cons (.int .i64) (.cons (.int .i64) (.cons .str (.cons (.int .i64) .nil))))))) (.cons (.list 3 (.int .i64)) .nil))) (.agg (.cons (.ro (.list 170 (.st (.cons (.int .i64) (.cons (.int .i64) (.cons (.int .i64) (.cons .str (.cons (.int .i64) .nil)))))))) (.cons (.h 11) .nil))))), (11, (.sl 3 (.int .i64))), (60, (.sl 174 (.st (.cons .str (.cons (.int .i64) (.cons (.int .i64) (.cons (.int .i64) .nil))))))), (100, (.box (.st (.cons (.int .i64) (.cons (.int .i64) (.cons (.int .i64) (.cons (.int .i64) (.cons (.int .i64) (.cons (.list 3 (.int .i64)) .nil))))))) (.agg (.cons (.ro (.int .i64)) (.cons (.ro (.int .i64)) (.cons (.ro (.int .i64)) (.cons (.ro (.int .i64)) (.cons (.ro (.int .i64)) (.cons (.h 104) .nil))))))))), (101, (.box (.st (.cons (.int .i64) (.cons (.int .i64) (.cons (.int .i64) (.cons (.int .i64) (.cons (.int .i64) (.cons (.list 3 (.int .i64)) .nil))))))) (.agg (.cons (.ro (.int .i64)) (.cons (.ro (.int .i64)) (.cons (.ro (.int .i64)) (.cons (.ro (.int .i64)) (.cons (.ro (.int .i64)) (.cons (.h 105) .nil))))))))), (102, (.box (.st (.cons (.int .i64) (.cons (.int .i64) (.cons (.int .i64) .nil)))) (.agg (.cons (.ro (.int .i64)) (.cons (.ro (.int .i64)) (.cons (.ro (.int .i64)) .nil)))))), (103, (.sl 3 (.int .i64))), (104, (.sl 3 (.int .i64))), (105, (.sl 3 (.int .i64)))]⟩
def f265i10s8 : SS := ⟨[(0, (.p 0)), (1, (.h 60)), (3, (.ro (.int .i64))), (8, (.p 100)), (9, (.p 101)), (10, (.ro (.int .i64))), (11, (.p 102)), (54, (.h 103)), (55, (.ro (.int .i64))), (56, (.ro (.int .i64)))], [(0, (.box (.st (.cons .ptr (.cons .bool .nil))) (.agg (.cons (.p 10) (.cons (.ro .bool) .nil))))), (10, (.box (.st (.cons (.list 170 (.st (.cons (.int .i64) (.cons (.int .i64) (.cons (.int .i64) (.cons .str (.cons (.int .i64) .nil))))))) (.cons (.list 3 (.int .i64)) .nil))) (.agg (.cons (.ro (.list 170 (.st (.cons (.int .i64) (.cons (.int .i64) (.cons (.int .i64) (.cons .str (.cons (.int .i64) .nil)))))))) (.cons (.h 11) .nil))))), (11, (.sl 3 (.int .i64))), (60, (.sl 174 (.st (.cons .str (.cons (.int .i64) (.cons (.int .i64) (.cons (.int .i64) .nil))))))), (100, (.box (.st (.cons (.int .i64) (.cons (.int .i64) (.cons (.int .i64) (.cons (.int .i64) (.cons (.int .i64) (.cons (.list 3 (.int .i64)) .nil))))))) (.agg (.cons (.ro (.int .i64)) (.cons (.ro (.int .i64)) (.cons (.ro (.int .i64)) (.cons (.ro (.int .i64)) (.cons (.ro (.int .i64)) (.cons (.h 104) .nil))))))))), (101, (.box (.st (.cons (.int .i64) (.cons (.int .i64) (.cons (.int .i64) (.cons (.int .i64) (.cons (.int .i64) (.cons (.list 3 (.int .i64)) .nil))))))) (.agg (.cons (.ro (.int .i64)) (.cons (.ro (.int .i64)) (.cons (.ro (.int .i64)) (.cons (.ro (.int .i64)) (.cons (.ro (.int .i64)) (.cons (.h 105) .nil))))))))), (102, (.box (.st (.cons (.int .i64) (.cons (.int .i64) (.cons (.int .i64) .nil)))) (.agg (.cons (.ro (.int .i64)) (.cons (.ro (.int .i64)) (.cons (.ro (.int .i64)) .nil)))))), (103, (.sl 3 (.int .i64))), (104, (.sl 3 (.int .i64))), (105, (.sl 3 (.int .i64)))]⟩
def f265i10con (F : Int → Int → TMetaReader → TTreeB → (List Int) → (List TCol) → Option (((Int × Int × Int × Int × Int × Unit × Unit)) × TMetaReader × TTreeB × (List Int) × (List TCol) × (List Int))) : Con := ⟨f265i10in, f265i10out, 4, 1, fun x => F x.1.2.2.1 x.1.2.2.2 x.2.1 x.2.2.1 x.2.2.2.1 x.2.2.2.2⟩
def f265i10ctx (k : Nat) : Ctx := ⟨tyAt tys, conAt [(88, [f88con (impl_LeafOf k)]), (147, [f147i1con (impl_metaReader_number k)]), (148, [f148i4con (impl_metaReader_list k)]), (179, [f179con (impl_tree_find k)]), (275, [f275con (impl_LeafPath k)]), (331, [f331con (slices_Equal_string_string k)])], 169, fun _ => false⟩
theorem f265i10hc (k : Nat) : CtxOk Try.prog (f265i10ctx k) := ctxOk tys_ok mixed_ok (consOk_cons (f88ok k) (consOk_cons (f147i1ok k) (consOk_cons (f148i4ok k) (consOk_cons (f179ok k) (consOk_cons (f275ok k) (consOk_cons (f331ok k) (consOk_nil)))))))
theorem f265i10ok (k : Nat) : FnOk Try.prog 265 (f265i10con (impl_metaReader_chunk k)) :=
  let hc := f265i10hc k
  fnOk (fn := Try.f265) (code := bodyOf Try.f265) (res := [.cell 8 204]) hc (by kernel_rfl) (by kernel_rfl) (by decide) (by kernel_rfl) (by kernel_rfl) (by kernel_rfl) (Nat.le_of_ble_eq_true (by kernel_rfl)) _
    (fun x => Snd.seq (by kernel_rfl) (Snd.seq (by kernel_rfl) (Snd.seq (by kernel_rfl) (Snd.seq (by kernel_rfl) (Snd.seq (by kernel_rfl) (Snd.seq (by kernel_rfl) (Snd.seq (by kernel_rfl) (Snd.seq (by kernel_rfl) (Snd.seq (by kernel_rfl) (Snd.cut (Snd.seq (by kernel_rfl) (Snd.seq (by kernel_rfl) (Snd.seq (by kernel_rfl) (Snd.cut (Snd.seq (by kernel_rfl) (Snd.seq (by kernel_rfl) (Snd.cut (Snd.exec hc _ _ _ _) ⟨f265i10s28, fun x => impl_metaReader_chunk.c28 k x.2.1 x.2.2.1 x.2.2.2.1 x.2.2.2.2.1 x.2.2.2.2.2.1 x.2.2.2.2.2.2.1 x.2.2.2.2.2.2.2.1 x.2.2.2.2.2.2.2.2⟩ (fun x => by kernel_rfl)) (Snd.exec hc _ _ _ _)) (Snd.exec hc _ _ _ _)) ⟨f265i10s24, fun x => impl_metaReader_chunk.c24 k x.1.2.2.2 x.2.1 x.2.2.1 x.2.2.2.1 x.2.2.2.2.1 x.2.2.2.2.2.1 x.2.2.2.2.2.2.1 x.2.2.2.2.2.2.2.1 x.2.2.2.2.2.2.2.2⟩ (fun x => by kernel_rfl)) (Snd.seq (by kernel_rfl) (Snd.exec hc _ _ _ _) (Snd.fork hc (id := 22) (by kernel_rfl) ⟨f265i10d22, fun x => impl_metaReader_chunk.d22 k x.1.2.2.2 x.2.1 x.2.2.1 x.2.2.2.1 x.2.2.2.2.1 x.2.2.2.2.2.1 x.2.2.2.2.2.2.1 x.2.2.2.2.2.2.2.1 x.2.2.2.2.2.2.2.2⟩ [[0, 1, 3, 2, 4, 5], [0, 1, 3, 4, 2, 5]] (by kernel_rfl) (ords_cons (fun x => by kernel_rfl) (ords_cons (fun x => by kernel_rfl) (ords_nil)))))) (Snd.exec hc _ _ _ _)) (Snd.exec hc _ _ _ _)) ⟨f265i10s20, fun x => impl_metaReader_chunk.c20 k x.1.2.2.2 x.2.1 x.2.2.1 x.2.2.2.1 x.2.2.2.2.1 x.2.2.2.2.2.1 x.2.2.2.2.2.2.1 x.2.2.2.2.2.2.2.1 x.2.2.2.2.2.2.2.2⟩ (fun x => by kernel_rfl)) (Snd.seq (by kernel_rfl) (Snd.exec hc _ _ _ _) (Snd.fork hc (id := 18) (by kernel_rfl) ⟨f265i10d18, fun x => impl_metaReader_chunk.d18 k x.1.2.2.1 x.1.2.2.2.2.2.1 x.2.1 x.2.2.1 x.2.2.2.1 x.2.2.2.2.1 x.2.2.2.2.2.1 x.2.2.2.2.2.2.1 x.2.2.2.2.2.2.2.1 x.2.2.2.2.2.2.2.2.1 x.2.2.2.2.2.2.2.2.2.1 x.2.2.2.2.2.2.2.2.2.2⟩ [[0, 1, 3, 2, 4, 5, 6, 7, 8, 9, 10, 11, 12, 13, 14, 15, 16, 17, 18, 19], [0, 1, 3, 4, 2, 5, 6, 7, 8, 9, 10, 11, 12, 13, 14, 15, 16, 17, 18, 19]] (by kernel_rfl) (ords_cons (fun x => by kernel_rfl) (ords_cons (fun x => by kernel_rfl) (ords_nil)))))) (Snd.seq (by kernel_rfl) (Snd.block (id := 2) (by kernel_rfl) (Snd.loop' (by kernel_rfl) f265i10s14 (fun n x => impl_metaReader_chunk.l14 k n x.1.2.2.1 x.1.2.2.2.2.2.1 x.1.2.2.2.2.2.2.2.2.2.1 x.1.2.2.2.2.2.2.2.2.2.2 x.2.1 x.2.2.1 x.2.2.2.1 x.2.2.2.2.1 x.2.2.2.2.2.1 x.2.2.2.2.2.2.1 x.2.2.2.2.2.2.2.1 x.2.2.2.2.2.2.2.2.1 x.2.2.2.2.2.2.2.2.2.1 x.2.2.2.2.2.2.2.2.2.2.1 x.2.2.2.2.2.2.2.2.2.2.2) _ (fun _ => rfl) (fun n14 => Snd.exec hc _ _ _ _) (fun n x => by kernel_rfl) k)) (Snd.exec hc _ _ _ _))) (Snd.exec hc _ _ _ _)) (Snd.seq (by kernel_rfl) (Snd.block (id := 0) (by kernel_rfl) (Snd.loop' (by kernel_rfl) f265i10s8 (fun n x => impl_metaReader_chunk.l8 k n x.1.2.2.1 x.1.2.2.2.2.2.1 x.1.2.2.2.2.2.2.2.2.1 x.1.2.2.2.2.2.2.2.2.2 x.2.1 x.2.2.1 x.2.2.2.1 x.2.2.2.2.1 x.2.2.2.2.2.1 x.2.2.2.2.2.2.1 x.2.2.2.2.2.2.2.1 x.2.2.2.2.2.2.2.2.1 x.2.2.2.2.2.2.2.2.2.1 x.2.2.2.2.2.2.2.2.2.2) _ (fun _ => rfl) (fun n8 => Snd.seq (by kernel_rfl) (Snd.seq (by kernel_rfl) (Snd.seq (by kernel_rfl) (Snd.exec hc _ _ _ _) (Snd.block (id := 1) (by kernel_rfl) (Snd.seq (by kernel_rfl) (Snd.fork hc (id := 10) (by kernel_rfl) ⟨f265i10d10, fun x => impl_metaReader_chunk.d10 k (impl_metaReader_chunk.l8 k n8) x.1.2.2.1 x.1.2.2.2.2.2.1 x.1.2.2.2.2.2.2.2.1 x.1.2.2.2.2.2.2.2.2.2.1 x.1.2.2.2.2.2.2.2.2.2.2 x.2.1 x.2.2.1 x.2.2.2.1 x.2.2.2.2.1 x.2.2.2.2.2.1 x.2.2.2.2.2.2.1 x.2.2.2.2.2.2.2.1 x.2.2.2.2.2.2.2.2.1 x.2.2.2.2.2.2.2.2.2.1 x.2.2.2.2.2.2.2.2.2.2⟩ [[0, 1, 2, 3, 4, 9, 5, 6, 7, 8, 10, 11, 12, 13, 14, 15, 16]] (by kernel_rfl) (ords_cons (fun x => by kernel_rfl) (ords_nil))) (Snd.exec hc _ _ _ _)))) (Snd.exec hc _ _ _ _)) (Snd.exec hc _ _ _ _)) (fun n x => by kernel_rfl) k)) (Snd.exec hc _ _ _ _))) (Snd.exec hc _ _ _ _)) (Snd.exec hc _ _ _ _)) (Snd.exec hc _ _ _ _)) (Snd.exec hc _ _ _ _)) (Snd.exec hc _ _ _ _))
    (fun x => by kernel_rfl)

def f149i8in : SS := ⟨[(0, (.p 0)), (1, (.h 60)), (2, (.ro (.int .i64)))], [(0, (.box (.st (.cons .ptr (.cons .bool .nil))) (.agg (.cons (.p 10) (.cons (.ro .bool) .nil))))), (10, (.box (.st (.cons (.list 170 (.st (.cons (.int .i64) (.cons (.int .i64) (.cons (.int .i64) (.cons .str (.cons (.int .i64) .nil))))))) (.cons (.list 3 (.int .i64)) .nil))) (.agg (.cons (.ro (.list 170 (.st (.cons (.int .i64) (.cons (.int .i64) (.cons (.int .i64) (.cons .str (.cons (.int .i64) .nil)))))))) (.cons (.h 11) .nil))))), (11, (.sl 3 (.int .i64))), (60, (.sl 174 (.st (.cons .str (.cons (.int .i64) (.cons (.int .i64) (.cons (.int .i64) .nil)))))))]⟩
def f149i8out : SS := ⟨[(0, (.agg (.cons (.ro (.int .i64)) (.cons (.h 100) .nil))))], [(0, (.box (.st (.cons .ptr (.cons .bool .nil))) (.agg (.cons (.p 10) (.cons (.ro .bool) .nil))))), (10, (.box (.st (.cons (.list 170 (.st (.cons (.int .i64) (.cons (.int .i64) (.cons (.int .i64) (.cons .str (.cons (.int .i64) .nil))))))) (.cons (.list 3 (.int .i64)) .nil))) (.agg (.cons (.ro (.list 170 (.st (.cons (.int .i64) (.cons (.int .i64) (.cons (.int .i64) (.cons .str (.cons (.int .i64) .nil)))))))) (.cons (.h 11) .nil))))), (11, (.sl 3 (.int .i64))), (60, (.sl 174 (.st (.cons .str (.cons (.int .i64) (.cons (.int .i64) (.cons (.int .i64) .nil))))))), (100, (.sl 204 (.st (.cons (.int .i64) (.cons (.int .i64) (.cons (.int .i64) (.cons (.int .i64) (.cons (.int .i64) (.cons (.list 3 (.int .i64)) .nil)))))))))]⟩
def f149i8s11 : SS := ⟨[(6, (.p 100)), (7, (.p 101))], [(0, (.box (.st (.cons .ptr (.cons .bool .nil))) (.agg (.cons (.p 10) (.cons (.ro .bool) .nil))))), (10, (.box (.st (.cons (.list 170 (.st (.cons (.int .i64) (.cons (.int .i64) (.cons (.int .i64) (.cons .str (.cons (.int .i64) .nil))))))) (.cons (.list 3 (.int .i64)) .nil))) (.agg (.cons (.ro (.list 170 (.st (.cons (.int .i64) (.cons (.int .i64) (.cons (.int .i64) (.cons .str (.cons (.int .i64) .nil)))))))) (.cons (.h 11) .nil))))), (11, (.sl 3 (.int .i64))), (60, (.sl 174 (.st (.cons .str (.cons (.int .i64) (.cons (.int .i64) (.cons (.int .i64) .nil))))))), (100, (.box (.st (.cons (.int .i64) (.cons (.list 204 (.st (.cons (.int .i64) (.cons (.int .i64) (.cons (.int .i64) (.cons (.int .i64) (.cons (.int .i64) (.cons (.list 3 (.int .i64)) .nil)))))))) .nil))) (.agg (.cons (.ro (.int .i64)) (.cons (.h 102) .nil))))), (101, (.box (.st (.cons (.int .i64) (.cons (.list 204 (.st (.cons (.int .i64) (.cons (.int .i64) (.cons (.int .i64) (.cons (.int .i64) (.cons (.int .i64) (.cons (.list 3 (.int .i64)) .nil)))))))) .nil))) (.agg (.cons (.ro (.int .i64)) (.cons (.h 103) .nil))))), (102, (.sl 204 (.st (.cons (.int .i64) (.cons (.int .i64) (.cons (.int .i64) (.cons (.int .i64) (.cons (.int .i64) (.cons (.list 3 (.int .i64)) .nil))))))))), (103, (.sl 204 (.st (.cons (.int .i64) (.cons (.int .i64) (.cons (.int .i64) (.cons (.int .i64) (.cons (.int .i64) (.cons (.list 3 (.int .i64)) .nil)))))))))]⟩
def f149i8s4 : SS := ⟨[(0, (.p 0)), (1, (.h 60)), (6, (.p 100)), (7, (.p 101)), (18, (.h 102)), (19, (.ro (.int .i64))), (20, (.ro (.int .i64)))], [(0, (.box (.st (.cons .ptr (.cons .bool .nil))) (.agg (.cons (.p 10) (.cons (.ro .bool) .nil))))), (10, (.box (.st (.cons (.list 170 (.st (.cons (.int .i64) (.cons (.int .i64) (.cons (.int .i64) (.cons .str (.cons (.int .i64) .nil))))))) (.cons (.list 3 (.int .i64)) .nil))) (.agg (.cons (.ro (.list 170 (.st (.cons (.int .i64) (.cons (.int .i64) (.cons (.int .i64) (.cons .str (.cons (.int .i64) .nil)))))))) (.cons (.h 11) .nil))))), (11, (.sl 3 (.int .i64))), (60, (.sl 174 (.st (.cons .str (.cons (.int .i64) (.cons (.int .i64) (.cons (.int .i64) .nil))))))), (100, (.box (.st (.cons (.int .i64) (.cons (.list 204 (.st (.cons (.int .i64) (.cons (.int .i64) (.cons (.int .i64) (.cons (.int .i64) (.cons (.int .i64) (.cons (.list 3 (.int .i64)) .nil)))))))) .nil))) (.agg (.cons (.ro (.int .i64)) (.cons (.h 103) .nil))))), (101, (.box (.st (.cons (.int .i64) (.cons (.list 204 (.st (.cons (.int .i64) (.cons (.int .i64) (.cons (.int .i64) (.cons (.int .i64) (.cons (.int .i64) (.cons (.list 3 (.int .i64)) .nil)))))))) .nil))) (.agg (.cons (.ro (.int .i64)) (.cons (.h 104) .nil))))), (102, (.sl 3 (.int .i64))), (103, (.sl 204 (.st (.cons (.int .i64) (.cons (.int .i64) (.cons (.int .i64) (.cons (.int .i64) (.cons (.int .i64) (.cons (.list 3 (.int .i64)) .nil))))))))), (104, (.sl 204 (.st (.cons (.int .i64) (.cons (.int .i64) (.cons (.int .i64) (.cons (.int .i64) (.cons (.int .i64) (.cons (.list 3 (.int .i64)) .nil)))))))))]⟩
def f149i8con (F : Int → TMetaReader → TTreeB → (List Int) → (List TCol) → Option (((Int × Unit × Unit)) × TMetaReader × TTreeB × (List Int) × (List TCol) × (List TChunk))) : Con := ⟨f149i8in, f149i8out, 3, 1, fun x => F x.1.2.2 x.2.1 x.2.2.1 x.2.2.2.1 x.2.2.2.2⟩
def f149i8ctx (k : Nat) : Ctx := ⟨tyAt tys, conAt [(147, [f147i1con (impl_metaReader_number k)]), (148, [f148i4con (impl_metaReader_list k)]), (265, [f265i10con (impl_metaReader_chunk k)])], 49, fun _ => false⟩
theorem f149i8hc (k : Nat) : CtxOk Try.prog (f149i8ctx k) := ctxOk tys_ok mixed_ok (consOk_cons (f147i1ok k) (consOk_cons (f148i4ok k) (consOk_cons (f265i10ok k) (consOk_nil))))
theorem f149i8ok (k : Nat) : FnOk Try.prog 149 (f149i8con (impl_metaReader_group k)) :=
  let hc := f149i8hc k
  fnOk (fn := Try.f149) (code := bodyOf Try.f149) (res := [.cell 6 202]) hc (by kernel_rfl) (by kernel_rfl) (by decide) (by kernel_rfl) (by kernel_rfl) (by kernel_rfl) (Nat.le_of_ble_eq_true (by kernel_rfl)) _
    (fun x => Snd.seq (by kernel_rfl) (Snd.seq (by kernel_rfl) (Snd.seq (by kernel_rfl) (Snd.seq (by kernel_rfl) (Snd.cut (Snd.exec hc _ _ _ _) ⟨f149i8s11, fun x => impl_metaReader_group.c11 k x.2.1 x.2.2.1 x.2.2.2.1 x.2.2.2.2.1 x.2.2.2.2.2.1 x.2.2.2.2.2.2.1 x.2.2.2.2.2.2.2.1 x.2.2.2.2.2.2.2.2⟩ (fun x => by kernel_rfl)) (Snd.seq (by kernel_rfl) (Snd.block (id := 0) (by kernel_rfl) (Snd.loop' (by kernel_rfl) f149i8s4 (fun n x => impl_metaReader_group.l4 k n x.1.2.2.2.2.2.1 x.1.2.2.2.2.2.2 x.2.1 x.2.2.1 x.2.2.2.1 x.2.2.2.2.1 x.2.2.2.2.2.1 x.2.2.2.2.2.2.1 x.2.2.2.2.2.2.2.1 x.2.2.2.2.2.2.2.2.1 x.2.2.2.2.2.2.2.2.2) _ (fun _ => rfl) (fun n4 => Snd.exec hc _ _ _ _) (fun n x => by kernel_rfl) k)) (Snd.exec hc _ _ _ _))) (Snd.exec hc _ _ _ _)) (Snd.exec hc _ _ _ _)) (Snd.exec hc _ _ _ _))
    (fun x => by kernel_rfl)

def f57in : SS := ⟨[(0, (.ro (.list 170 (.st (.cons (.int .i64) (.cons (.int .i64) (.cons (.int .i64) (.cons .str (.cons (.int .i64) .nil)))))))))], []⟩
def f57out : SS := ⟨[(0, (.agg (.cons (.h 100) (.cons (.ro (.int .i64)) (.cons (.h 101) .nil))))), (1, (.ro .bool))], [(100, (.sl 174 (.st (.cons .str (.cons (.int .i64) (.cons (.int .i64) (.cons (.int .i64) .nil))))))), (101, (.sl 202 (.st (.cons (.int .i64) (.cons (.list 204 (.st (.cons (.int .i64) (.cons (.int .i64) (.cons (.int .i64) (.cons (.int .i64) (.cons (.int .i64) (.cons (.list 3 (.int .i64)) .nil)))))))) .nil)))))]⟩
def f57s11 : SS := ⟨[(2, (.p 100)), (6, (.p 101)), (7, (.p 102)), (36, (.h 103)), (37, (.ro (.int .i64))), (38, (.ro (.int .i64)))], [(100, (.box (.st (.cons (.list 174 (.st (.cons .str (.cons (.int .i64) (.cons (.int .i64) (.cons (.int .i64) .nil)))))) (.cons (.int .i64) (.cons (.list 202 (.st (.cons (.int .i64) (.cons (.list 204 (.st (.cons (.int .i64) (.cons (.int .i64) (.cons (.int .i64) (.cons (.int .i64) (.cons (.int .i64) (.cons (.list 3 (.int .i64)) .nil)))))))) .nil)))) .nil)))) (.agg (.cons (.h 104) (.cons (.ro (.int .i64)) (.cons (.h 105) .nil)))))), (101, (.box (.st (.cons (.list 174 (.st (.cons .str (.cons (.int .i64) (.cons (.int .i64) (.cons (.int .i64) .nil)))))) (.cons (.int .i64) (.cons (.list 202 (.st (.cons (.int .i64) (.cons (.list 204 (.st (.cons (.int .i64) (.cons (.int .i64) (.cons (.int .i64) (.cons (.int .i64) (.cons (.int .i64) (.cons (.list 3 (.int .i64)) .nil)))))))) .nil)))) .nil)))) (.agg (.cons (.h 106) (.cons (.ro (.int .i64)) (.cons (.h 107) .nil)))))), (102, (.box (.st (.cons .ptr (.cons .bool .nil))) (.agg (.cons (.p 108) (.cons (.ro .bool) .nil))))), (103, (.sl 3 (.int .i64))), (104, (.sl 174 (.st (.cons .str (.cons (.int .i64) (.cons (.int .i64) (.cons (.int .i64) .nil))))))), (105, (.sl 202 (.st (.cons (.int .i64) (.cons (.list 204 (.st (.cons (.int .i64) (.cons (.int .i64) (.cons (.int .i64) (.cons (.int .i64) (.cons (.int .i64) (.cons (.list 3 (.int .i64)) .nil)))))))) .nil))))), (106, (.sl 174 (.st (.cons .str (.cons (.int .i64) (.cons (.int .i64) (.cons (.int .i64) .nil))))))), (107, (.sl 202 (.st (.cons (.int .i64) (.cons (.list 204 (.st (.cons (.int .i64) (.cons (.int .i64) (.cons (.int .i64) (.cons (.int .i64) (.cons (.int .i64) (.cons (.list 3 (.int .i64)) .nil)))))))) .nil))))), (108, (.box (.st (.cons (.list 170 (.st (.cons (.int .i64) (.cons (.int .i64) (.cons (.int .i64) (.cons .str (.cons (.int .i64) .nil))))))) (.cons (.list 3 (.int .i64)) .nil))) (.agg (.cons (.ro (.list 170 (.st (.cons (.int .i64) (.cons (.int .i64) (.cons (.int .i64) (.cons .str (.cons (.int .i64) .nil)))))))) (.cons (.h 109) .nil))))), (109, (.sl 3 (.int .i64)))]⟩
def f57con (F : (List TNode) → Option (((Unit × Int × Unit × Unit) × Bool) × (List TCol) × (List TGroupMeta))) : Con := ⟨f57in, f57out, 1, 2, fun x => F x⟩
def f57ctx (k : Nat) : Ctx := ⟨tyAt tys, conAt [(65, [f65con (impl_MetaOk k)]), (113, [f113con (impl_treeOf k)]), (146, [f146con (impl_tree_schema k)]), (147, [f147i1con (impl_metaReader_number k)]), (148, [f148i4con (impl_metaReader_list k)]), (149, [f149i8con (impl_metaReader_group k)])], 65, fun _ => false⟩
theorem f57hc (k : Nat) : CtxOk Try.prog (f57ctx k) := ctxOk tys_ok mixed_ok (consOk_cons (f65ok k) (consOk_cons (f113ok k) (consOk_cons (f146ok k) (consOk_cons (f147i1ok k) (consOk_cons (f148i4ok k) (consOk_cons (f149i8ok k) (consOk_nil)))))))
theorem f57ok (k : Nat) : FnOk Try.prog 57 (f57con (impl_MetaFrom k)) :=
  let hc := f57hc k
  fnOk (fn := Try.f57) (code := bodyOf Try.f57) (res := [.cell 2 97, .tmp 3]) hc (by kernel_rfl) (by kernel_rfl) (by decide) (by kernel_rfl) (by kernel_rfl) (by kernel_rfl) (Nat.le_of_ble_eq_true (by kernel_rfl)) _
    (fun x => Snd.seq (by kernel_rfl) (Snd.seq (by kernel_rfl) (Snd.seq (by kernel_rfl) (Snd.seq (by kernel_rfl) (Snd.seq (by kernel_rfl) (Snd.seq (by kernel_rfl) (Snd.seq (by kernel_rfl) (Snd.seq (by kernel_rfl) (Snd.seq (by kernel_rfl) (Snd.exec hc _ _ _ _) (Snd.seq (by kernel_rfl) (Snd.block (id := 0) (by kernel_rfl) (Snd.loop' (by kernel_rfl) f57s11 (fun n x => impl_MetaFrom.l11 k n x.1.2.2.2.2.1 x.1.2.2.2.2.2 x.2.1 x.2.2.1 x.2.2.2.1 x.2.2.2.2.1 x.2.2.2.2.2.1 x.2.2.2.2.2.2.1 x.2.2.2.2.2.2.2.1 x.2.2.2.2.2.2.2.2.1 x.2.2.2.2.2.2.2.2.2.1 x.2.2.2.2.2.2.2.2.2.2) _ (fun _ => rfl) (fun n11 => Snd.exec hc _ _ _ _) (fun n x => by kernel_rfl) k)) (Snd.exec hc _ _ _ _))) (Snd.exec hc _ _ _ _)) (Snd.exec hc _ _ _ _)) (Snd.exec hc _ _ _ _)) (Snd.exec hc _ _ _ _)) (Snd.exec hc _ _ _ _)) (Snd.exec hc _ _ _ _)) (Snd.exec hc _ _ _ _)) (Snd.exec hc _ _ _ _))
    (fun x => by kernel_rfl)

def f279in : SS := ⟨[(0, (.ro (.list 5 (.int .u8)))), (1, (.ro (.int .i64)))], []⟩
def f279out : SS := ⟨[(0, (.agg (.cons (.h 100) (.cons (.ro (.int .i64)) (.cons (.h 101) .nil))))), (1, (.ro (.int .i64))), (2, (.ro .bool))], [(100, (.sl 174 (.st (.cons .str (.cons (.int .i64) (.cons (.int .i64) (.cons (.int .i64) .nil))))))), (101, (.sl 202 (.st (.cons (.int .i64) (.cons (.list 204 (.st (.cons (.int .i64) (.cons (.int .i64) (.cons (.int .i64) (.cons (.int .i64) (.cons (.int .i64) (.cons (.list 3 (.int .i64)) .nil)))))))) .nil)))))]⟩
def f279con (F : (List Int) → Int → Option (((Unit × Int × Unit × Unit) × Int × Bool) × (List TCol) × (List TGroupMeta))) : Con := ⟨f279in, f279out, 2, 3, fun x => F x.1 x.2⟩
def f279ctx (k : Nat) : Ctx := ⟨tyAt tys, conAt [(31, [f31con (impl_TreeRead k)]), (57, [f57con (impl_MetaFrom k)])], 32, fun _ => false⟩
theorem f279hc (k : Nat) : CtxOk Try.prog (f279ctx k) := ctxOk tys_ok mixed_ok (consOk_cons (f31ok k) (consOk_cons (f57ok k) (consOk_nil)))
theorem f279ok (k : Nat) : FnOk Try.prog 279 (f279con (impl_MetaRead k)) :=
  let hc := f279hc k
  fnOk (fn := Try.f279) (code := bodyOf Try.f279) (res := [.cell 4 97, .tmp 5, .tmp 6]) hc (by kernel_rfl) (by kernel_rfl) (by decide) (by kernel_rfl) (by kernel_rfl) (by kernel_rfl) (Nat.le_of_ble_eq_true (by kernel_rfl)) _
    (fun x => Snd.exec hc _ _ _ _)
    (fun x => by kernel_rfl)

def f170in : SS := ⟨[(0, (.ro (.list 5 (.int .u8))))], []⟩
def f170out : SS := ⟨[(0, (.agg (.cons (.h 100) (.cons (.ro (.int .i64)) (.cons (.h 101) .nil))))), (1, (.ro (.int .i64)))], [(100, (.sl 174 (.st (.cons .str (.cons (.int .i64) (.cons (.int .i64) (.cons (.int .i64) .nil))))))), (101, (.sl 202 (.st (.cons (.int .i64) (.cons (.list 204 (.st (.cons (.int .i64) (.cons (.int .i64) (.cons (.int .i64) (.cons (.int .i64) (.cons (.int .i64) (.cons (.list 3 (.int .i64)) .nil)))))))) .nil)))))]⟩
def f170con (F : (List Int) → Option (((Unit × Int × Unit × Unit) × Int) × (List TCol) × (List TGroupMeta))) : Con := ⟨f170in, f170out, 1, 2, fun x => F x⟩
def f170ctx (k : Nat) : Ctx := ⟨tyAt tys, conAt [(105, [f105con (impl_within k)]), (255, [f255con (impl_WordGet k)]), (279, [f279con (impl_MetaRead k)])], 67, fun _ => false⟩
theorem f170hc (k : Nat) : CtxOk Try.prog (f170ctx k) := ctxOk tys_ok mixed_ok (consOk_cons (f105ok k) (consOk_cons (f255ok k) (consOk_cons (f279ok k) (consOk_nil))))
theorem f170ok (k : Nat) : FnOk Try.prog 170 (f170con (impl_FileMeta k)) :=
  let hc := f170hc k
  fnOk (fn := Try.f170) (code := bodyOf Try.f170) (res := [.cell 2 97, .tmp 3]) hc (by kernel_rfl) (by kernel_rfl) (by decide) (by kernel_rfl) (by kernel_rfl) (by kernel_rfl) (Nat.le_of_ble_eq_true (by kernel_rfl)) _
    (fun x => Snd.exec hc _ _ _ _)
    (fun x => by kernel_rfl)

def f68in : SS := ⟨[(0, (.ro (.list 5 (.int .u8))))], []⟩
def f68out : SS := ⟨[(0, (.ro (.int .i64))), (1, (.ro (.int .i64))), (2, (.ro (.int .i64)))], []⟩
def f68con (F : (List Int) → Option (Int × Int × Int)) : Con := ⟨f68in, f68out, 1, 3, fun x => F x⟩
def f68ctx (k : Nat) : Ctx := ⟨tyAt tys, conAt [(170, [f170con (impl_FileMeta k)])], 18, fun _ => false⟩
theorem f68hc (k : Nat) : CtxOk Try.prog (f68ctx k) := ctxOk tys_ok mixed_ok (consOk_cons (f170ok k) (consOk_nil))
theorem f68ok (k : Nat) : FnOk Try.prog 68 (f68con (impl_FileLook k)) :=
  let hc := f68hc k
  fnOk (fn := Try.f68) (code := bodyOf Try.f68) (res := [.tmp 2, .tmp 3, .tmp 4]) hc (by kernel_rfl) (by kernel_rfl) (by decide) (by kernel_rfl) (by kernel_rfl) (by kernel_rfl) (Nat.le_of_ble_eq_true (by kernel_rfl)) _
    (fun x => Snd.exec hc _ _ _ _)
    (fun x => by kernel_rfl)

def f11in : SS := ⟨[(0, (.ro (.list 5 (.int .u8))))], []⟩
def f11out : SS := ⟨[(0, (.ro .bool))], []⟩
def f11con (F : (List Int) → Option Bool) : Con := ⟨f11in, f11out, 1, 1, fun x => F x⟩
def f11ctx (k : Nat) : Ctx := ⟨tyAt tys, conAt [(46, [f46con (laws_toByteS k)]), (50, [f50con (laws_eqByteS k)]), (67, [f67con (spec_FileLook k)]), (68, [f68con (impl_FileLook k)])], 46, fun _ => false⟩
theorem f11hc (k : Nat) : CtxOk Try.prog (f11ctx k) := ctxOk tys_ok mixed_ok (consOk_cons (f46ok k) (consOk_cons (f50ok k) (consOk_cons (f67ok k) (consOk_cons (f68ok k) (consOk_nil)))))
theorem f11ok (k : Nat) : FnOk Try.prog 11 (f11con (laws_FnExactFileLook k)) :=
  let hc := f11hc k
  fnOk (fn := Try.f11) (code := bodyOf Try.f11) (res := [.tmp 2]) hc (by kernel_rfl) (by kernel_rfl) (by decide) (by kernel_rfl) (by kernel_rfl) (by kernel_rfl) (Nat.le_of_ble_eq_true (by kernel_rfl)) _
    (fun x => Snd.exec hc _ _ _ _)
    (fun x => by kernel_rfl)

end Go.Proofs.Ytbmgddnjdcagpaa
