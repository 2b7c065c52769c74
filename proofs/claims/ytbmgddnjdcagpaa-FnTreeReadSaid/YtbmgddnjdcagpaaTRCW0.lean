/- The walks, printed by program. -/
import Derived.Test.YtbmgddnjdcagpaaBase
import Derived.Test.YtbmgddnjdcagpaaTRCF0
set_option linter.unusedVariables false
set_option maxRecDepth 100000
namespace Go.Proofs.Ytbmgddnjdcagpaa
open Go.Am Go.Fn

def f13in : SS := ⟨[(0, (.ro (.list 5 (.int .u8))))], []⟩
def f13out : SS := ⟨[(0, (.ro .bool))], []⟩
def f13con (F : (List Int) → Option Bool) : Con := ⟨f13in, f13out, 1, 1, fun x => F x⟩
def f13ctx (k : Nat) : Ctx := ⟨tyAt tys, conAt [], 6, fun _ => false⟩
theorem f13hc (k : Nat) : CtxOk Try.prog (f13ctx k) := ctxOk tys_ok mixed_ok (consOk_nil)
theorem f13ok (k : Nat) : FnOk Try.prog 13 (f13con (laws_big k)) :=
  let hc := f13hc k
  fnOk (fn := Try.f13) (code := bodyOf Try.f13) (res := [.tmp 2]) hc (by kernel_rfl) (by kernel_rfl) (by decide) (by kernel_rfl) (by kernel_rfl) (by kernel_rfl) (Nat.le_of_ble_eq_true (by kernel_rfl)) _
    (fun x => Snd.exec hc _ _ _ _)
    (fun x => by kernel_rfl)

def f73in : SS := ⟨[(0, (.ro (.list 5 (.int .u8))))], []⟩
def f73out : SS := ⟨[(0, (.p 100))], [(100, (.box (.st (.cons (.list 5 (.int .u8)) (.cons (.int .i64) (.cons (.int .i64) .nil)))) (.agg (.cons (.ro (.list 5 (.int .u8))) (.cons (.ro (.int .i64)) (.cons (.ro (.int .i64)) .nil))))))]⟩
def f73s3 : SS := ⟨[(0, (.ro (.list 5 (.int .u8)))), (3, (.ro (.int .i64))), (4, (.ro (.int .i64)))], []⟩
def f73con (F : (List Int) → Option (Unit × TL1Cur)) : Con := ⟨f73in, f73out, 1, 1, fun x => F x⟩
def f73ctx (k : Nat) : Ctx := ⟨tyAt tys, conAt [], 32, fun _ => false⟩
theorem f73hc (k : Nat) : CtxOk Try.prog (f73ctx k) := ctxOk tys_ok mixed_ok (consOk_nil)
theorem f73ok (k : Nat) : FnOk Try.prog 73 (f73con (spec_l1New k)) :=
  let hc := f73hc k
  fnOk (fn := Try.f73) (code := bodyOf Try.f73) (res := [.tmp 2]) hc (by kernel_rfl) (by kernel_rfl) (by decide) (by kernel_rfl) (by kernel_rfl) (by kernel_rfl) (Nat.le_of_ble_eq_true (by kernel_rfl)) _
    (fun x => Snd.seq (by kernel_rfl) (Snd.seq (by kernel_rfl) (Snd.seq (by kernel_rfl) (Snd.exec hc _ _ _ _) (Snd.seq (by kernel_rfl) (Snd.block (id := 0) (by kernel_rfl) (Snd.loop' (by kernel_rfl) f73s3 (fun n x => spec_l1New.l3 k n x.1 x.2.1 x.2.2) _ (fun _ => rfl) (fun n3 => Snd.exec hc _ _ _ _) (fun n x => by kernel_rfl) k)) (Snd.exec hc _ _ _ _))) (Snd.exec hc _ _ _ _)) (Snd.exec hc _ _ _ _))
    (fun x => by kernel_rfl)

def f109in : SS := ⟨[(0, (.p 0))], [(0, (.box (.st (.cons (.list 5 (.int .u8)) (.cons (.int .i64) (.cons (.int .i64) .nil)))) (.agg (.cons (.ro (.list 5 (.int .u8))) (.cons (.ro (.int .i64)) (.cons (.ro (.int .i64)) .nil))))))]⟩
def f109out : SS := ⟨[(0, (.ro (.int .i64)))], [(0, (.box (.st (.cons (.list 5 (.int .u8)) (.cons (.int .i64) (.cons (.int .i64) .nil)))) (.agg (.cons (.ro (.list 5 (.int .u8))) (.cons (.ro (.int .i64)) (.cons (.ro (.int .i64)) .nil))))))]⟩
def f109s6 : SS := ⟨[(3, (.ro (.int .i64)))], [(0, (.box (.st (.cons (.list 5 (.int .u8)) (.cons (.int .i64) (.cons (.int .i64) .nil)))) (.agg (.cons (.ro (.list 5 (.int .u8))) (.cons (.ro (.int .i64)) (.cons (.ro (.int .i64)) .nil))))))]⟩
def f109con (F : TL1Cur → Option (Int × TL1Cur)) : Con := ⟨f109in, f109out, 1, 1, fun x => F x.2⟩
def f109ctx (k : Nat) : Ctx := ⟨tyAt tys, conAt [], 58, fun _ => false⟩
theorem f109hc (k : Nat) : CtxOk Try.prog (f109ctx k) := ctxOk tys_ok mixed_ok (consOk_nil)
theorem f109ok (k : Nat) : FnOk Try.prog 109 (f109con (spec_l1Byte k)) :=
  let hc := f109hc k
  fnOk (fn := Try.f109) (code := bodyOf Try.f109) (res := [.tmp 2]) hc (by kernel_rfl) (by kernel_rfl) (by decide) (by kernel_rfl) (by kernel_rfl) (by kernel_rfl) (Nat.le_of_ble_eq_true (by kernel_rfl)) _
    (fun x => Snd.seq (by kernel_rfl) (Snd.seq (by kernel_rfl) (Snd.seq (by kernel_rfl) (Snd.seq (by kernel_rfl) (Snd.cut (Snd.exec hc _ _ _ _) ⟨f109s6, fun x => spec_l1Byte.c6 k x.1 x.2⟩ (fun x => by kernel_rfl)) (Snd.exec hc _ _ _ _)) (Snd.exec hc _ _ _ _)) (Snd.exec hc _ _ _ _)) (Snd.exec hc _ _ _ _))
    (fun x => by kernel_rfl)

def f76in : SS := ⟨[(0, (.p 0)), (1, (.ro (.int .i64)))], [(0, (.box (.st (.cons (.list 5 (.int .u8)) (.cons (.int .i64) (.cons (.int .i64) .nil)))) (.agg (.cons (.ro (.list 5 (.int .u8))) (.cons (.ro (.int .i64)) (.cons (.ro (.int .i64)) .nil))))))]⟩
def f76out : SS := ⟨[(0, (.ro (.int .i64)))], [(0, (.box (.st (.cons (.list 5 (.int .u8)) (.cons (.int .i64) (.cons (.int .i64) .nil)))) (.agg (.cons (.ro (.list 5 (.int .u8))) (.cons (.ro (.int .i64)) (.cons (.ro (.int .i64)) .nil))))))]⟩
def f76con (F : Int → TL1Cur → Option (Int × TL1Cur)) : Con := ⟨f76in, f76out, 2, 1, fun x => F x.1.2 x.2⟩
def f76ctx (k : Nat) : Ctx := ⟨tyAt tys, conAt [(109, [f109con (spec_l1Byte k)])], 37, fun _ => false⟩
theorem f76hc (k : Nat) : CtxOk Try.prog (f76ctx k) := ctxOk tys_ok mixed_ok (consOk_cons (f109ok k) (consOk_nil))
theorem f76ok (k : Nat) : FnOk Try.prog 76 (f76con (spec_l1Below k)) :=
  let hc := f76hc k
  fnOk (fn := Try.f76) (code := bodyOf Try.f76) (res := [.tmp 4]) hc (by kernel_rfl) (by kernel_rfl) (by decide) (by kernel_rfl) (by kernel_rfl) (by kernel_rfl) (Nat.le_of_ble_eq_true (by kernel_rfl)) _
    (fun x => Snd.exec hc _ _ _ _)
    (fun x => by kernel_rfl)

def f101in : SS := ⟨[(0, (.ro (.int .i64))), (1, (.ro (.int .i64))), (2, (.ro (.int .i64)))], []⟩
def f101out : SS := ⟨[(0, (.ro .bool))], []⟩
def f101con (F : Int → Int → Int → Option Bool) : Con := ⟨f101in, f101out, 3, 1, fun x => F x.1 x.2.1 x.2.2⟩
def f101ctx (k : Nat) : Ctx := ⟨tyAt tys, conAt [], 15, fun _ => false⟩
theorem f101hc (k : Nat) : CtxOk Try.prog (f101ctx k) := ctxOk tys_ok mixed_ok (consOk_nil)
theorem f101ok (k : Nat) : FnOk Try.prog 101 (f101con (spec_l1In k)) :=
  let hc := f101hc k
  fnOk (fn := Try.f101) (code := bodyOf Try.f101) (res := [.tmp 6]) hc (by kernel_rfl) (by kernel_rfl) (by decide) (by kernel_rfl) (by kernel_rfl) (by kernel_rfl) (Nat.le_of_ble_eq_true (by kernel_rfl)) _
    (fun x => Snd.exec hc _ _ _ _)
    (fun x => by kernel_rfl)

def f217in : SS := ⟨[(0, (.ro (.int .i64)))], []⟩
def f217out : SS := ⟨[(0, (.ro .bool))], []⟩
def f217con (F : Int → Option Bool) : Con := ⟨f217in, f217out, 1, 1, fun x => F x⟩
def f217ctx (k : Nat) : Ctx := ⟨tyAt tys, conAt [(101, [f101con (spec_l1In k)])], 5, fun _ => false⟩
theorem f217hc (k : Nat) : CtxOk Try.prog (f217ctx k) := ctxOk tys_ok mixed_ok (consOk_cons (f101ok k) (consOk_nil))
theorem f217ok (k : Nat) : FnOk Try.prog 217 (f217con (spec_l4Int k)) :=
  let hc := f217hc k
  fnOk (fn := Try.f217) (code := bodyOf Try.f217) (res := [.tmp 2]) hc (by kernel_rfl) (by kernel_rfl) (by decide) (by kernel_rfl) (by kernel_rfl) (by kernel_rfl) (Nat.le_of_ble_eq_true (by kernel_rfl)) _
    (fun x => Snd.exec hc _ _ _ _)
    (fun x => by kernel_rfl)

def f309in : SS := ⟨[(0, (.ro (.int .i64)))], []⟩
def f309out : SS := ⟨[(0, (.ro .bool))], []⟩
def f309s9 : SS := ⟨[(4, (.ro .bool))], []⟩
def f309con (F : Int → Option Bool) : Con := ⟨f309in, f309out, 1, 1, fun x => F x⟩
def f309ctx (k : Nat) : Ctx := ⟨tyAt tys, conAt [], 12, fun _ => false⟩
theorem f309hc (k : Nat) : CtxOk Try.prog (f309ctx k) := ctxOk tys_ok mixed_ok (consOk_nil)
theorem f309ok (k : Nat) : FnOk Try.prog 309 (f309con (spec_l4Kind k)) :=
  let hc := f309hc k
  fnOk (fn := Try.f309) (code := bodyOf Try.f309) (res := [.tmp 2]) hc (by kernel_rfl) (by kernel_rfl) (by decide) (by kernel_rfl) (by kernel_rfl) (by kernel_rfl) (Nat.le_of_ble_eq_true (by kernel_rfl)) _
    (fun x => Snd.seq (by kernel_rfl) (Snd.seq (by kernel_rfl) (Snd.exec hc _ _ _ _) (Snd.seq (by kernel_rfl) (Snd.block (id := 0) (by kernel_rfl) (Snd.seq (by kernel_rfl) (Snd.cut (Snd.exec hc _ _ _ _) ⟨f309s9, fun x => spec_l4Kind.c9 k x⟩ (fun x => by kernel_rfl)) (Snd.exec hc _ _ _ _))) (Snd.exec hc _ _ _ _))) (Snd.exec hc _ _ _ _))
    (fun x => by kernel_rfl)

def f308in : SS := ⟨[(0, (.ro (.int .i64)))], []⟩
def f308out : SS := ⟨[(0, (.ro .bool))], []⟩
def f308con (F : Int → Option Bool) : Con := ⟨f308in, f308out, 1, 1, fun x => F x⟩
def f308ctx (k : Nat) : Ctx := ⟨tyAt tys, conAt [(309, [f309con (spec_l4Kind k)])], 13, fun _ => false⟩
theorem f308hc (k : Nat) : CtxOk Try.prog (f308ctx k) := ctxOk tys_ok mixed_ok (consOk_cons (f309ok k) (consOk_nil))
theorem f308ok (k : Nat) : FnOk Try.prog 308 (f308con (spec_l4Item k)) :=
  let hc := f308hc k
  fnOk (fn := Try.f308) (code := bodyOf Try.f308) (res := [.tmp 2]) hc (by kernel_rfl) (by kernel_rfl) (by decide) (by kernel_rfl) (by kernel_rfl) (by kernel_rfl) (Nat.le_of_ble_eq_true (by kernel_rfl)) _
    (fun x => Snd.exec hc _ _ _ _)
    (fun x => by kernel_rfl)

def f329in : SS := ⟨[(0, (.ro (.st (.cons (.int .i64) (.cons (.int .i64) (.cons (.int .i64) (.cons .str (.cons (.int .i64) .nil))))))))], []⟩
def f329out : SS := ⟨[(0, (.ro .bool))], []⟩
def f329s4 : SS := ⟨[(1, (.p 100)), (4, (.ro (.int .i64))), (5, (.ro .bool))], [(100, (.box (.st (.cons (.int .i64) (.cons (.int .i64) (.cons (.int .i64) (.cons .str (.cons (.int .i64) .nil)))))) (.agg (.cons (.ro (.int .i64)) (.cons (.ro (.int .i64)) (.cons (.ro (.int .i64)) (.cons (.ro .str) (.cons (.ro (.int .i64)) .nil))))))))]⟩
def f329con (F : TNode → Option Bool) : Con := ⟨f329in, f329out, 1, 1, fun x => F x⟩
def f329ctx (k : Nat) : Ctx := ⟨tyAt tys, conAt [(217, [f217con (spec_l4Int k)]), (308, [f308con (spec_l4Item k)])], 107, fun _ => false⟩
theorem f329hc (k : Nat) : CtxOk Try.prog (f329ctx k) := ctxOk tys_ok mixed_ok (consOk_cons (f217ok k) (consOk_cons (f308ok k) (consOk_nil)))
theorem f329ok (k : Nat) : FnOk Try.prog 329 (f329con (spec_l4Plain k)) :=
  let hc := f329hc k
  fnOk (fn := Try.f329) (code := bodyOf Try.f329) (res := [.tmp 2]) hc (by kernel_rfl) (by kernel_rfl) (by decide) (by kernel_rfl) (by kernel_rfl) (by kernel_rfl) (Nat.le_of_ble_eq_true (by kernel_rfl)) _
    (fun x => Snd.seq (by kernel_rfl) (Snd.seq (by kernel_rfl) (Snd.exec hc _ _ _ _) (Snd.seq (by kernel_rfl) (Snd.block (id := 0) (by kernel_rfl) (Snd.seq (by kernel_rfl) (Snd.cut (Snd.exec hc _ _ _ _) ⟨f329s4, fun x => spec_l4Plain.c4 k x.1.2.1 x.1.2.2 x.2⟩ (fun x => by kernel_rfl)) (Snd.exec hc _ _ _ _))) (Snd.exec hc _ _ _ _))) (Snd.exec hc _ _ _ _))
    (fun x => by kernel_rfl)

def f257in : SS := ⟨[(0, (.ro (.list 170 (.st (.cons (.int .i64) (.cons (.int .i64) (.cons (.int .i64) (.cons .str (.cons (.int .i64) .nil))))))))), (1, (.ro (.int .i64))), (2, (.ro (.int .i64)))], []⟩
def f257out : SS := ⟨[(0, (.ro (.int .i64)))], []⟩
def f257s7 : SS := ⟨[(0, (.ro (.list 170 (.st (.cons (.int .i64) (.cons (.int .i64) (.cons (.int .i64) (.cons .str (.cons (.int .i64) .nil))))))))), (2, (.ro (.int .i64))), (7, (.p 100)), (8, (.ro (.int .i64))), (9, (.ro (.int .i64))), (10, (.ro (.int .i64)))], [(100, (.box (.st (.cons (.int .i64) (.cons (.int .i64) (.cons (.int .i64) (.cons .str (.cons (.int .i64) .nil)))))) (.agg (.cons (.ro (.int .i64)) (.cons (.ro (.int .i64)) (.cons (.ro (.int .i64)) (.cons (.ro .str) (.cons (.ro (.int .i64)) .nil))))))))]⟩
def f257con (F : (List TNode) → Int → Int → Option Int) : Con := ⟨f257in, f257out, 3, 1, fun x => F x.1 x.2.1 x.2.2⟩
def f257ctx (k : Nat) (S257 : (List TNode) → Int → Int → Option Int) : Ctx := ⟨tyAt tys, conAt [(257, [f257con S257]), (329, [f329con (spec_l4Plain k)])], 89, fun _ => false⟩
theorem f257hc (k : Nat) (S257 : (List TNode) → Int → Int → Option Int) (h257 : FnOk Try.prog 257 (f257con S257)) : CtxOk Try.prog (f257ctx k S257) := ctxOk tys_ok mixed_ok (consOk_cons (h257) (consOk_cons (f329ok k) (consOk_nil)))
theorem f257okb (k : Nat) (S257 : (List TNode) → Int → Int → Option Int) (h257 : FnOk Try.prog 257 (f257con S257)) : FnOk Try.prog 257 (f257con (spec_l4Check.b k S257)) :=
  let hc := f257hc k S257 h257
  fnOk (fn := Try.f257) (code := bodyOf Try.f257) (res := [.tmp 6]) hc (by kernel_rfl) (by kernel_rfl) (by decide) (by kernel_rfl) (by kernel_rfl) (by kernel_rfl) (Nat.le_of_ble_eq_true (by kernel_rfl)) _
    (fun x => Snd.seq (by kernel_rfl) (Snd.seq (by kernel_rfl) (Snd.seq (by kernel_rfl) (Snd.seq (by kernel_rfl) (Snd.seq (by kernel_rfl) (Snd.seq (by kernel_rfl) (Snd.exec hc _ _ _ _) (Snd.seq (by kernel_rfl) (Snd.block (id := 0) (by kernel_rfl) (Snd.loop' (by kernel_rfl) f257s7 (fun n x => spec_l4Check.l7 k S257 n x.1.1 x.1.2.1 x.1.2.2.2.1 x.1.2.2.2.2.1 x.1.2.2.2.2.2 x.2) _ (fun _ => rfl) (fun n7 => Snd.exec hc _ _ _ _) (fun n x => by kernel_rfl) k)) (Snd.exec hc _ _ _ _))) (Snd.exec hc _ _ _ _)) (Snd.exec hc _ _ _ _)) (Snd.exec hc _ _ _ _)) (Snd.exec hc _ _ _ _)) (Snd.exec hc _ _ _ _))
    (fun x => by kernel_rfl)
theorem f257rec (k : Nat) : ∀ d, FnOk Try.prog 257 (f257con (spec_l4Check.d k d))
  | 0 => FnOk_none (fun _ => rfl)
  | d + 1 => let ih := f257rec k d
    f257okb k (spec_l4Check.d k d) ih
theorem f257ok (k : Nat) : FnOk Try.prog 257 (f257con (spec_l4Check k)) := (f257rec k k)

def f139in : SS := ⟨[(0, (.ro (.list 170 (.st (.cons (.int .i64) (.cons (.int .i64) (.cons (.int .i64) (.cons .str (.cons (.int .i64) .nil)))))))))], []⟩
def f139out : SS := ⟨[(0, (.ro .bool))], []⟩
def f139con (F : (List TNode) → Option Bool) : Con := ⟨f139in, f139out, 1, 1, fun x => F x⟩
def f139ctx (k : Nat) : Ctx := ⟨tyAt tys, conAt [(101, [f101con (spec_l1In k)]), (257, [f257con (spec_l4Check k)])], 26, fun _ => false⟩
theorem f139hc (k : Nat) : CtxOk Try.prog (f139ctx k) := ctxOk tys_ok mixed_ok (consOk_cons (f101ok k) (consOk_cons (f257ok k) (consOk_nil)))
theorem f139ok (k : Nat) : FnOk Try.prog 139 (f139con (spec_TreeOk k)) :=
  let hc := f139hc k
  fnOk (fn := Try.f139) (code := bodyOf Try.f139) (res := [.tmp 2]) hc (by kernel_rfl) (by kernel_rfl) (by decide) (by kernel_rfl) (by kernel_rfl) (by kernel_rfl) (Nat.le_of_ble_eq_true (by kernel_rfl)) _
    (fun x => Snd.exec hc _ _ _ _)
    (fun x => by kernel_rfl)

def f316in : SS := ⟨[(0, (.ro (.int .i64))), (1, (.ro (.int .i64)))], []⟩
def f316out : SS := ⟨[(0, (.ro (.int .i64)))], []⟩
def f316con (F : Int → Int → Option Int) : Con := ⟨f316in, f316out, 2, 1, fun x => F x.1 x.2⟩
def f316ctx (k : Nat) : Ctx := ⟨tyAt tys, conAt [], 16, fun _ => false⟩
theorem f316hc (k : Nat) : CtxOk Try.prog (f316ctx k) := ctxOk tys_ok mixed_ok (consOk_nil)
theorem f316ok (k : Nat) : FnOk Try.prog 316 (f316con (spec_l2Down k)) :=
  let hc := f316hc k
  fnOk (fn := Try.f316) (code := bodyOf Try.f316) (res := [.tmp 4]) hc (by kernel_rfl) (by kernel_rfl) (by decide) (by kernel_rfl) (by kernel_rfl) (by kernel_rfl) (Nat.le_of_ble_eq_true (by kernel_rfl)) _
    (fun x => Snd.exec hc _ _ _ _)
    (fun x => by kernel_rfl)

def f301in : SS := ⟨[(0, (.ro (.int .i64)))], []⟩
def f301out : SS := ⟨[(0, (.h 100))], [(100, (.sl 5 (.int .u8)))]⟩
def f301s2 : SS := ⟨[(0, (.ro (.int .i64))), (3, (.h 100))], [(100, (.sl 5 (.int .u8)))]⟩
def f301con (F : Int → Option (Unit × (List Int))) : Con := ⟨f301in, f301out, 1, 1, fun x => F x⟩
def f301ctx (k : Nat) : Ctx := ⟨tyAt tys, conAt [(316, [f316con (spec_l2Down k)])], 22, fun _ => false⟩
theorem f301hc (k : Nat) : CtxOk Try.prog (f301ctx k) := ctxOk tys_ok mixed_ok (consOk_cons (f316ok k) (consOk_nil))
theorem f301ok (k : Nat) : FnOk Try.prog 301 (f301con (spec_UvarPut k)) :=
  let hc := f301hc k
  fnOk (fn := Try.f301) (code := bodyOf Try.f301) (res := [.tmp 2]) hc (by kernel_rfl) (by kernel_rfl) (by decide) (by kernel_rfl) (by kernel_rfl) (by kernel_rfl) (Nat.le_of_ble_eq_true (by kernel_rfl)) _
    (fun x => Snd.seq (by kernel_rfl) (Snd.seq (by kernel_rfl) (Snd.seq (by kernel_rfl) (Snd.exec hc _ _ _ _) (Snd.block (id := 0) (by kernel_rfl) (Snd.loop' (by kernel_rfl) f301s2 (fun n x => spec_UvarPut.l2 k n x.1.1 x.2) _ (fun _ => rfl) (fun n2 => Snd.exec hc _ _ _ _) (fun n x => by kernel_rfl) k))) (Snd.exec hc _ _ _ _)) (Snd.exec hc _ _ _ _))
    (fun x => by kernel_rfl)

def f340in : SS := ⟨[(0, (.ro (.int .i64)))], []⟩
def f340out : SS := ⟨[(0, (.ro (.int .i64)))], []⟩
def f340con (F : Int → Option Int) : Con := ⟨f340in, f340out, 1, 1, fun x => F x⟩
def f340ctx (k : Nat) : Ctx := ⟨tyAt tys, conAt [], 10, fun _ => false⟩
theorem f340hc (k : Nat) : CtxOk Try.prog (f340ctx k) := ctxOk tys_ok mixed_ok (consOk_nil)
theorem f340ok (k : Nat) : FnOk Try.prog 340 (f340con (spec_Zig k)) :=
  let hc := f340hc k
  fnOk (fn := Try.f340) (code := bodyOf Try.f340) (res := [.tmp 2]) hc (by kernel_rfl) (by kernel_rfl) (by decide) (by kernel_rfl) (by kernel_rfl) (by kernel_rfl) (Nat.le_of_ble_eq_true (by kernel_rfl)) _
    (fun x => Snd.exec hc _ _ _ _)
    (fun x => by kernel_rfl)

def f300in : SS := ⟨[(0, (.ro (.int .i64)))], []⟩
def f300out : SS := ⟨[(0, (.h 100))], [(100, (.sl 5 (.int .u8)))]⟩
def f300con (F : Int → Option (Unit × (List Int))) : Con := ⟨f300in, f300out, 1, 1, fun x => F x⟩
def f300ctx (k : Nat) : Ctx := ⟨tyAt tys, conAt [(301, [f301con (spec_UvarPut k)]), (340, [f340con (spec_Zig k)])], 6, fun _ => false⟩
theorem f300hc (k : Nat) : CtxOk Try.prog (f300ctx k) := ctxOk tys_ok mixed_ok (consOk_cons (f301ok k) (consOk_cons (f340ok k) (consOk_nil)))
theorem f300ok (k : Nat) : FnOk Try.prog 300 (f300con (spec_ZigPut k)) :=
  let hc := f300hc k
  fnOk (fn := Try.f300) (code := bodyOf Try.f300) (res := [.tmp 2]) hc (by kernel_rfl) (by kernel_rfl) (by decide) (by kernel_rfl) (by kernel_rfl) (by kernel_rfl) (Nat.le_of_ble_eq_true (by kernel_rfl)) _
    (fun x => Snd.exec hc _ _ _ _)
    (fun x => by kernel_rfl)

def f206in : SS := ⟨[(0, (.ro (.list 170 (.st (.cons (.int .i64) (.cons (.int .i64) (.cons (.int .i64) (.cons .str (.cons (.int .i64) .nil))))))))), (1, (.ro (.int .i64)))], []⟩
def f206out : SS := ⟨[(0, (.h 100)), (1, (.ro (.int .i64)))], [(100, (.sl 5 (.int .u8)))]⟩
def f206s36 : SS := ⟨[(7, (.ro (.int .i64))), (8, (.h 100))], [(100, (.sl 5 (.int .u8)))]⟩
def f206d9 : SS := ⟨[(6, (.p 100)), (7, (.ro (.int .i64)))], [(100, (.box (.st (.cons (.int .i64) (.cons (.int .i64) (.cons (.int .i64) (.cons .str (.cons (.int .i64) .nil)))))) (.agg (.cons (.ro (.int .i64)) (.cons (.ro (.int .i64)) (.cons (.ro (.int .i64)) (.cons (.ro .str) (.cons (.ro (.int .i64)) .nil))))))))]⟩
def f206s16 : SS := ⟨[(0, (.ro (.list 170 (.st (.cons (.int .i64) (.cons (.int .i64) (.cons (.int .i64) (.cons .str (.cons (.int .i64) .nil))))))))), (6, (.p 100)), (7, (.ro (.int .i64))), (8, (.h 101)), (9, (.ro (.int .i64)))], [(100, (.box (.st (.cons (.int .i64) (.cons (.int .i64) (.cons (.int .i64) (.cons .str (.cons (.int .i64) .nil)))))) (.agg (.cons (.ro (.int .i64)) (.cons (.ro (.int .i64)) (.cons (.ro (.int .i64)) (.cons (.ro .str) (.cons (.ro (.int .i64)) .nil)))))))), (101, (.sl 5 (.int .u8)))]⟩
def f206s15 : SS := ⟨[(0, (.ro (.list 170 (.st (.cons (.int .i64) (.cons (.int .i64) (.cons (.int .i64) (.cons .str (.cons (.int .i64) .nil))))))))), (6, (.p 100)), (7, (.ro (.int .i64))), (8, (.h 101))], [(100, (.box (.st (.cons (.int .i64) (.cons (.int .i64) (.cons (.int .i64) (.cons .str (.cons (.int .i64) .nil)))))) (.agg (.cons (.ro (.int .i64)) (.cons (.ro (.int .i64)) (.cons (.ro (.int .i64)) (.cons (.ro .str) (.cons (.ro (.int .i64)) .nil)))))))), (101, (.sl 5 (.int .u8)))]⟩
def f206s31 : SS := ⟨[(0, (.ro (.list 170 (.st (.cons (.int .i64) (.cons (.int .i64) (.cons (.int .i64) (.cons .str (.cons (.int .i64) .nil))))))))), (6, (.p 100)), (7, (.ro (.int .i64))), (8, (.h 101)), (13, (.ro (.int .i64))), (14, (.p 102))], [(100, (.box (.st (.cons (.int .i64) (.cons (.int .i64) (.cons (.int .i64) (.cons .str (.cons (.int .i64) .nil)))))) (.agg (.cons (.ro (.int .i64)) (.cons (.ro (.int .i64)) (.cons (.ro (.int .i64)) (.cons (.ro .str) (.cons (.ro (.int .i64)) .nil)))))))), (101, (.sl 5 (.int .u8))), (102, (.box (.st (.cons (.int .i64) (.cons (.int .i64) (.cons (.int .i64) (.cons .str (.cons (.int .i64) .nil)))))) (.agg (.cons (.ro (.int .i64)) (.cons (.ro (.int .i64)) (.cons (.ro (.int .i64)) (.cons (.ro .str) (.cons (.ro (.int .i64)) .nil))))))))]⟩
def f206s24 : SS := ⟨[(0, (.ro (.list 170 (.st (.cons (.int .i64) (.cons (.int .i64) (.cons (.int .i64) (.cons .str (.cons (.int .i64) .nil))))))))), (6, (.p 100)), (7, (.ro (.int .i64))), (8, (.h 101)), (12, (.ro (.int .i64))), (13, (.ro (.int .i64)))], [(100, (.box (.st (.cons (.int .i64) (.cons (.int .i64) (.cons (.int .i64) (.cons .str (.cons (.int .i64) .nil)))))) (.agg (.cons (.ro (.int .i64)) (.cons (.ro (.int .i64)) (.cons (.ro (.int .i64)) (.cons (.ro .str) (.cons (.ro (.int .i64)) .nil)))))))), (101, (.sl 5 (.int .u8)))]⟩
def f206s7 : SS := ⟨[(0, (.ro (.list 170 (.st (.cons (.int .i64) (.cons (.int .i64) (.cons (.int .i64) (.cons .str (.cons (.int .i64) .nil))))))))), (6, (.p 100)), (7, (.ro (.int .i64))), (8, (.h 101)), (25, (.ro (.int .i64))), (26, (.ro .bool))], [(100, (.box (.st (.cons (.int .i64) (.cons (.int .i64) (.cons (.int .i64) (.cons .str (.cons (.int .i64) .nil)))))) (.agg (.cons (.ro (.int .i64)) (.cons (.ro (.int .i64)) (.cons (.ro (.int .i64)) (.cons (.ro .str) (.cons (.ro (.int .i64)) .nil)))))))), (101, (.sl 5 (.int .u8)))]⟩
def f206con (F : (List TNode) → Int → Option ((Unit × Int) × (List Int))) : Con := ⟨f206in, f206out, 2, 2, fun x => F x.1 x.2⟩
def f206ctx (k : Nat) (S206 : (List TNode) → Int → Option ((Unit × Int) × (List Int))) : Ctx := ⟨tyAt tys, conAt [(206, [f206con S206]), (300, [f300con (spec_ZigPut k)]), (301, [f301con (spec_UvarPut k)])], 144, fun _ => false⟩
theorem f206hc (k : Nat) (S206 : (List TNode) → Int → Option ((Unit × Int) × (List Int))) (h206 : FnOk Try.prog 206 (f206con S206)) : CtxOk Try.prog (f206ctx k S206) := ctxOk tys_ok mixed_ok (consOk_cons (h206) (consOk_cons (f300ok k) (consOk_cons (f301ok k) (consOk_nil))))
theorem f206okb (k : Nat) (S206 : (List TNode) → Int → Option ((Unit × Int) × (List Int))) (h206 : FnOk Try.prog 206 (f206con S206)) : FnOk Try.prog 206 (f206con (spec_l4Pack.b k S206)) :=
  let hc := f206hc k S206 h206
  fnOk (fn := Try.f206) (code := bodyOf Try.f206) (res := [.tmp 4, .tmp 5]) hc (by kernel_rfl) (by kernel_rfl) (by decide) (by kernel_rfl) (by kernel_rfl) (by kernel_rfl) (Nat.le_of_ble_eq_true (by kernel_rfl)) _
    (fun x => Snd.seq (by kernel_rfl) (Snd.seq (by kernel_rfl) (Snd.seq (by kernel_rfl) (Snd.seq (by kernel_rfl) (Snd.seq (by kernel_rfl) (Snd.cut (Snd.exec hc _ _ _ _) ⟨f206s36, fun x => spec_l4Pack.c36 k x.1.1 x.2⟩ (fun x => by kernel_rfl)) (Snd.seq (by kernel_rfl) (Snd.block (id := 0) (by kernel_rfl) (Snd.seq (by kernel_rfl) (Snd.cut (Snd.cond (x := .tmp 26) (by kernel_rfl) (Snd.exec hc _ _ _ _) (Snd.seq (by kernel_rfl) (Snd.cond (x := .tmp 33) (by kernel_rfl) (Snd.seq (by kernel_rfl) (Snd.exec hc _ _ _ _) (Snd.fork hc (id := 9) (by kernel_rfl) ⟨f206d9, fun x => spec_l4Pack.d9 k x.1.2 x.2⟩ [[0, 4, 8, 1, 2, 3, 5, 6, 7, 9, 10], [0, 4, 8, 1, 2, 5, 3, 6, 7, 9, 10], [0, 4, 8, 1, 2, 5, 6, 3, 7, 9, 10], [0, 4, 8, 5, 1, 2, 3, 6, 7, 9, 10], [0, 4, 8, 5, 1, 2, 6, 3, 7, 9, 10], [0, 4, 8, 5, 6, 1, 2, 3, 7, 9, 10]] (by kernel_rfl) (ords_cons (fun x => by kernel_rfl) (ords_cons (fun x => by kernel_rfl) (ords_cons (fun x => by kernel_rfl) (ords_cons (fun x => by kernel_rfl) (ords_cons (fun x => by kernel_rfl) (ords_cons (fun x => by kernel_rfl) (ords_nil))))))))) (Snd.seq (by kernel_rfl) (Snd.cond (x := .tmp 44) (by kernel_rfl) (Snd.seq (by kernel_rfl) (Snd.cut (Snd.seq (by kernel_rfl) (Snd.block (id := 1) (by kernel_rfl) (Snd.loop' (by kernel_rfl) f206s16 (fun n x => spec_l4Pack.l16 k S206 n x.1.1 x.1.2.2.1 x.1.2.2.2.2 x.2.1 x.2.2) _ (fun _ => rfl) (fun n16 => Snd.exec hc _ _ _ _) (fun n x => by kernel_rfl) k)) (Snd.exec hc _ _ _ _)) ⟨f206s15, fun x => spec_l4Pack.c15 k S206 x.1.1 x.1.2.2.1 x.2.1 x.2.2⟩ (fun x => by kernel_rfl)) (Snd.exec hc _ _ _ _)) (Snd.seq (by kernel_rfl) (Snd.cond (x := .tmp 87) (by kernel_rfl) (Snd.seq (by kernel_rfl) (Snd.seq (by kernel_rfl) (Snd.exec hc _ _ _ _) (Snd.seq (by kernel_rfl) (Snd.block (id := 3) (by kernel_rfl) (Snd.loop' (by kernel_rfl) f206s24 (fun n x => spec_l4Pack.l24 k S206 n x.1.1 x.1.2.2.1 x.1.2.2.2.2.1 x.1.2.2.2.2.2 x.2.1 x.2.2) _ (fun _ => rfl) (fun n24 => Snd.seq (by kernel_rfl) (Snd.seq (by kernel_rfl) (Snd.exec hc _ _ _ _) (Snd.block (id := 4) (by kernel_rfl) (Snd.seq (by kernel_rfl) (Snd.seq (by kernel_rfl) (Snd.cut (Snd.exec hc _ _ _ _) ⟨f206s31, fun x => spec_l4Pack.c31 k S206 (spec_l4Pack.l24 k S206 n24) x.1.1 x.1.2.2.1 x.1.2.2.2.2.1 x.2.1 x.2.2.1 x.2.2.2⟩ (fun x => by kernel_rfl)) (Snd.exec hc _ _ _ _)) (Snd.exec hc _ _ _ _)))) (Snd.exec hc _ _ _ _)) (fun n x => by kernel_rfl) k)) (Snd.exec hc _ _ _ _))) (Snd.exec hc _ _ _ _)) (Snd.exec hc _ _ _ _)) (Snd.exec hc _ _ _ _))) (Snd.exec hc _ _ _ _))) (Snd.exec hc _ _ _ _))) ⟨f206s7, fun x => spec_l4Pack.c7 k S206 x.1.1 x.1.2.2.1 x.1.2.2.2.2.1 x.1.2.2.2.2.2 x.2.1 x.2.2⟩ (fun x => by kernel_rfl)) (Snd.exec hc _ _ _ _))) (Snd.exec hc _ _ _ _))) (Snd.exec hc _ _ _ _)) (Snd.exec hc _ _ _ _)) (Snd.exec hc _ _ _ _)) (Snd.exec hc _ _ _ _))
    (fun x => by kernel_rfl)
theorem f206rec (k : Nat) : ∀ d, FnOk Try.prog 206 (f206con (spec_l4Pack.d k d))
  | 0 => FnOk_none (fun _ => rfl)
  | d + 1 => let ih := f206rec k d
    f206okb k (spec_l4Pack.d k d) ih
theorem f206ok (k : Nat) : FnOk Try.prog 206 (f206con (spec_l4Pack k)) := (f206rec k k)

def f107in : SS := ⟨[(0, (.ro (.list 170 (.st (.cons (.int .i64) (.cons (.int .i64) (.cons (.int .i64) (.cons .str (.cons (.int .i64) .nil)))))))))], []⟩
def f107out : SS := ⟨[(0, (.h 100)), (1, (.ro .bool))], [(100, (.sl 5 (.int .u8)))]⟩
def f107con (F : (List TNode) → Option ((Unit × Bool) × (List Int))) : Con := ⟨f107in, f107out, 1, 2, fun x => F x⟩
def f107ctx (k : Nat) : Ctx := ⟨tyAt tys, conAt [(139, [f139con (spec_TreeOk k)]), (206, [f206con (spec_l4Pack k)])], 16, fun _ => false⟩
theorem f107hc (k : Nat) : CtxOk Try.prog (f107ctx k) := ctxOk tys_ok mixed_ok (consOk_cons (f139ok k) (consOk_cons (f206ok k) (consOk_nil)))
theorem f107ok (k : Nat) : FnOk Try.prog 107 (f107con (spec_TreePack k)) :=
  let hc := f107hc k
  fnOk (fn := Try.f107) (code := bodyOf Try.f107) (res := [.tmp 2, .tmp 3]) hc (by kernel_rfl) (by kernel_rfl) (by decide) (by kernel_rfl) (by kernel_rfl) (by kernel_rfl) (Nat.le_of_ble_eq_true (by kernel_rfl)) _
    (fun x => Snd.exec hc _ _ _ _)
    (fun x => by kernel_rfl)

def f110in : SS := ⟨[(0, (.p 0)), (1, (.ro (.list 3 (.int .i64))))], [(0, (.box (.st (.cons (.list 5 (.int .u8)) (.cons (.int .i64) (.cons (.int .i64) .nil)))) (.agg (.cons (.ro (.list 5 (.int .u8))) (.cons (.ro (.int .i64)) (.cons (.ro (.int .i64)) .nil))))))]⟩
def f110out : SS := ⟨[(0, (.ro (.int .i64)))], [(0, (.box (.st (.cons (.list 5 (.int .u8)) (.cons (.int .i64) (.cons (.int .i64) .nil)))) (.agg (.cons (.ro (.list 5 (.int .u8))) (.cons (.ro (.int .i64)) (.cons (.ro (.int .i64)) .nil))))))]⟩
def f110con (F : (List Int) → TL1Cur → Option (Int × TL1Cur)) : Con := ⟨f110in, f110out, 2, 1, fun x => F x.1.2 x.2⟩
def f110ctx (k : Nat) : Ctx := ⟨tyAt tys, conAt [(76, [f76con (spec_l1Below k)])], 12, fun _ => false⟩
theorem f110hc (k : Nat) : CtxOk Try.prog (f110ctx k) := ctxOk tys_ok mixed_ok (consOk_cons (f76ok k) (consOk_nil))
theorem f110ok (k : Nat) : FnOk Try.prog 110 (f110con (spec_l1PickInt k)) :=
  let hc := f110hc k
  fnOk (fn := Try.f110) (code := bodyOf Try.f110) (res := [.tmp 4]) hc (by kernel_rfl) (by kernel_rfl) (by decide) (by kernel_rfl) (by kernel_rfl) (by kernel_rfl) (Nat.le_of_ble_eq_true (by kernel_rfl)) _
    (fun x => Snd.exec hc _ _ _ _)
    (fun x => by kernel_rfl)

def f116in : SS := ⟨[(0, (.p 0)), (1, (.ro (.int .i64)))], [(0, (.box (.st (.cons (.list 5 (.int .u8)) (.cons (.int .i64) (.cons (.int .i64) .nil)))) (.agg (.cons (.ro (.list 5 (.int .u8))) (.cons (.ro (.int .i64)) (.cons (.ro (.int .i64)) .nil))))))]⟩
def f116out : SS := ⟨[(0, (.ro .bool))], [(0, (.box (.st (.cons (.list 5 (.int .u8)) (.cons (.int .i64) (.cons (.int .i64) .nil)))) (.agg (.cons (.ro (.list 5 (.int .u8))) (.cons (.ro (.int .i64)) (.cons (.ro (.int .i64)) .nil))))))]⟩
def f116con (F : Int → TL1Cur → Option (Bool × TL1Cur)) : Con := ⟨f116in, f116out, 2, 1, fun x => F x.1.2 x.2⟩
def f116ctx (k : Nat) : Ctx := ⟨tyAt tys, conAt [(76, [f76con (spec_l1Below k)])], 9, fun _ => false⟩
theorem f116hc (k : Nat) : CtxOk Try.prog (f116ctx k) := ctxOk tys_ok mixed_ok (consOk_cons (f76ok k) (consOk_nil))
theorem f116ok (k : Nat) : FnOk Try.prog 116 (f116con (spec_l1Once k)) :=
  let hc := f116hc k
  fnOk (fn := Try.f116) (code := bodyOf Try.f116) (res := [.tmp 4]) hc (by kernel_rfl) (by kernel_rfl) (by decide) (by kernel_rfl) (by kernel_rfl) (by kernel_rfl) (Nat.le_of_ble_eq_true (by kernel_rfl)) _
    (fun x => Snd.exec hc _ _ _ _)
    (fun x => by kernel_rfl)

def f294in : SS := ⟨[(0, (.p 0)), (1, (.ro (.int .i64)))], [(0, (.box (.st (.cons (.list 5 (.int .u8)) (.cons (.int .i64) (.cons (.int .i64) .nil)))) (.agg (.cons (.ro (.list 5 (.int .u8))) (.cons (.ro (.int .i64)) (.cons (.ro (.int .i64)) .nil))))))]⟩
def f294out : SS := ⟨[(0, (.h 100))], [(0, (.box (.st (.cons (.list 5 (.int .u8)) (.cons (.int .i64) (.cons (.int .i64) .nil)))) (.agg (.cons (.ro (.list 5 (.int .u8))) (.cons (.ro (.int .i64)) (.cons (.ro (.int .i64)) .nil)))))), (100, (.sl 5 (.int .u8)))]⟩
def f294s4 : SS := ⟨[(0, (.p 0)), (5, (.h 100)), (6, (.ro (.int .i64))), (7, (.ro (.int .i64)))], [(0, (.box (.st (.cons (.list 5 (.int .u8)) (.cons (.int .i64) (.cons (.int .i64) .nil)))) (.agg (.cons (.ro (.list 5 (.int .u8))) (.cons (.ro (.int .i64)) (.cons (.ro (.int .i64)) .nil)))))), (100, (.sl 5 (.int .u8)))]⟩
def f294con (F : Int → TL1Cur → Option (Unit × TL1Cur × (List Int))) : Con := ⟨f294in, f294out, 2, 1, fun x => F x.1.2 x.2⟩
def f294ctx (k : Nat) : Ctx := ⟨tyAt tys, conAt [(76, [f76con (spec_l1Below k)]), (109, [f109con (spec_l1Byte k)])], 25, fun _ => false⟩
theorem f294hc (k : Nat) : CtxOk Try.prog (f294ctx k) := ctxOk tys_ok mixed_ok (consOk_cons (f76ok k) (consOk_cons (f109ok k) (consOk_nil)))
theorem f294ok (k : Nat) : FnOk Try.prog 294 (f294con (spec_l1DrawBytes k)) :=
  let hc := f294hc k
  fnOk (fn := Try.f294) (code := bodyOf Try.f294) (res := [.tmp 4]) hc (by kernel_rfl) (by kernel_rfl) (by decide) (by kernel_rfl) (by kernel_rfl) (by kernel_rfl) (Nat.le_of_ble_eq_true (by kernel_rfl)) _
    (fun x => Snd.seq (by kernel_rfl) (Snd.seq (by kernel_rfl) (Snd.seq (by kernel_rfl) (Snd.seq (by kernel_rfl) (Snd.exec hc _ _ _ _) (Snd.seq (by kernel_rfl) (Snd.block (id := 0) (by kernel_rfl) (Snd.loop' (by kernel_rfl) f294s4 (fun n x => spec_l1DrawBytes.l4 k n x.1.2.2.1 x.1.2.2.2 x.2.1 x.2.2) _ (fun _ => rfl) (fun n4 => Snd.exec hc _ _ _ _) (fun n x => by kernel_rfl) k)) (Snd.exec hc _ _ _ _))) (Snd.exec hc _ _ _ _)) (Snd.exec hc _ _ _ _)) (Snd.exec hc _ _ _ _))
    (fun x => by kernel_rfl)

def f196in : SS := ⟨[(0, (.p 0)), (1, (.ro (.int .i64)))], [(0, (.box (.st (.cons (.list 5 (.int .u8)) (.cons (.int .i64) (.cons (.int .i64) .nil)))) (.agg (.cons (.ro (.list 5 (.int .u8))) (.cons (.ro (.int .i64)) (.cons (.ro (.int .i64)) .nil))))))]⟩
def f196out : SS := ⟨[(0, (.ro .str))], [(0, (.box (.st (.cons (.list 5 (.int .u8)) (.cons (.int .i64) (.cons (.int .i64) .nil)))) (.agg (.cons (.ro (.list 5 (.int .u8))) (.cons (.ro (.int .i64)) (.cons (.ro (.int .i64)) .nil))))))]⟩
def f196con (F : Int → TL1Cur → Option (ByteArray × TL1Cur)) : Con := ⟨f196in, f196out, 2, 1, fun x => F x.1.2 x.2⟩
def f196ctx (k : Nat) : Ctx := ⟨tyAt tys, conAt [(294, [f294con (spec_l1DrawBytes k)])], 9, fun _ => false⟩
theorem f196hc (k : Nat) : CtxOk Try.prog (f196ctx k) := ctxOk tys_ok mixed_ok (consOk_cons (f294ok k) (consOk_nil))
theorem f196ok (k : Nat) : FnOk Try.prog 196 (f196con (spec_l4DrawText k)) :=
  let hc := f196hc k
  fnOk (fn := Try.f196) (code := bodyOf Try.f196) (res := [.tmp 4]) hc (by kernel_rfl) (by kernel_rfl) (by decide) (by kernel_rfl) (by kernel_rfl) (by kernel_rfl) (Nat.le_of_ble_eq_true (by kernel_rfl)) _
    (fun x => Snd.exec hc _ _ _ _)
    (fun x => by kernel_rfl)

def f302in : SS := ⟨[(0, (.p 0))], [(0, (.box (.st (.cons (.list 5 (.int .u8)) (.cons (.int .i64) (.cons (.int .i64) .nil)))) (.agg (.cons (.ro (.list 5 (.int .u8))) (.cons (.ro (.int .i64)) (.cons (.ro (.int .i64)) .nil))))))]⟩
def f302out : SS := ⟨[(0, (.ro (.int .i64)))], [(0, (.box (.st (.cons (.list 5 (.int .u8)) (.cons (.int .i64) (.cons (.int .i64) .nil)))) (.agg (.cons (.ro (.list 5 (.int .u8))) (.cons (.ro (.int .i64)) (.cons (.ro (.int .i64)) .nil))))))]⟩
def f302con (F : TL1Cur → Option (Int × TL1Cur)) : Con := ⟨f302in, f302out, 1, 1, fun x => F x.2⟩
def f302ctx (k : Nat) : Ctx := ⟨tyAt tys, conAt [(76, [f76con (spec_l1Below k)]), (110, [f110con (spec_l1PickInt k)])], 13, fun _ => false⟩
theorem f302hc (k : Nat) : CtxOk Try.prog (f302ctx k) := ctxOk tys_ok mixed_ok (consOk_cons (f76ok k) (consOk_cons (f110ok k) (consOk_nil)))
theorem f302ok (k : Nat) : FnOk Try.prog 302 (f302con (spec_l2DrawNum k)) :=
  let hc := f302hc k
  fnOk (fn := Try.f302) (code := bodyOf Try.f302) (res := [.tmp 2]) hc (by kernel_rfl) (by kernel_rfl) (by decide) (by kernel_rfl) (by kernel_rfl) (by kernel_rfl) (Nat.le_of_ble_eq_true (by kernel_rfl)) _
    (fun x => Snd.exec hc _ _ _ _)
    (fun x => by kernel_rfl)

def f207in : SS := ⟨[(0, (.p 0)), (1, (.ro (.int .i64))), (2, (.ro (.int .i64))), (3, (.ro (.int .i64))), (4, (.h 10))], [(0, (.box (.st (.cons (.list 5 (.int .u8)) (.cons (.int .i64) (.cons (.int .i64) .nil)))) (.agg (.cons (.ro (.list 5 (.int .u8))) (.cons (.ro (.int .i64)) (.cons (.ro (.int .i64)) .nil)))))), (10, (.sl 170 (.st (.cons (.int .i64) (.cons (.int .i64) (.cons (.int .i64) (.cons .str (.cons (.int .i64) .nil))))))))]⟩
def f207out : SS := ⟨[(0, (.h 100))], [(0, (.box (.st (.cons (.list 5 (.int .u8)) (.cons (.int .i64) (.cons (.int .i64) .nil)))) (.agg (.cons (.ro (.list 5 (.int .u8))) (.cons (.ro (.int .i64)) (.cons (.ro (.int .i64)) .nil)))))), (100, (.sl 170 (.st (.cons (.int .i64) (.cons (.int .i64) (.cons (.int .i64) (.cons .str (.cons (.int .i64) .nil))))))))]⟩
def f207s25 : SS := ⟨[(0, (.p 0)), (1, (.ro (.int .i64))), (3, (.ro (.int .i64))), (4, (.h 100)), (13, (.ro (.int .i64))), (14, (.ro (.int .i64))), (15, (.ro (.int .i64))), (16, (.ro (.int .i64)))], [(0, (.box (.st (.cons (.list 5 (.int .u8)) (.cons (.int .i64) (.cons (.int .i64) .nil)))) (.agg (.cons (.ro (.list 5 (.int .u8))) (.cons (.ro (.int .i64)) (.cons (.ro (.int .i64)) .nil)))))), (100, (.sl 170 (.st (.cons (.int .i64) (.cons (.int .i64) (.cons (.int .i64) (.cons .str (.cons (.int .i64) .nil))))))))]⟩
def f207s24 : SS := ⟨[(0, (.p 0)), (1, (.ro (.int .i64))), (3, (.ro (.int .i64))), (4, (.h 100)), (13, (.ro (.int .i64))), (14, (.ro (.int .i64))), (15, (.ro (.int .i64))), (16, (.ro (.int .i64)))], [(0, (.box (.st (.cons (.list 5 (.int .u8)) (.cons (.int .i64) (.cons (.int .i64) .nil)))) (.agg (.cons (.ro (.list 5 (.int .u8))) (.cons (.ro (.int .i64)) (.cons (.ro (.int .i64)) .nil)))))), (100, (.sl 170 (.st (.cons (.int .i64) (.cons (.int .i64) (.cons (.int .i64) (.cons .str (.cons (.int .i64) .nil))))))))]⟩
def f207s22 : SS := ⟨[(0, (.p 0)), (1, (.ro (.int .i64))), (3, (.ro (.int .i64))), (4, (.h 100)), (13, (.ro (.int .i64))), (14, (.ro (.int .i64)))], [(0, (.box (.st (.cons (.list 5 (.int .u8)) (.cons (.int .i64) (.cons (.int .i64) .nil)))) (.agg (.cons (.ro (.list 5 (.int .u8))) (.cons (.ro (.int .i64)) (.cons (.ro (.int .i64)) .nil)))))), (100, (.sl 170 (.st (.cons (.int .i64) (.cons (.int .i64) (.cons (.int .i64) (.cons .str (.cons (.int .i64) .nil))))))))]⟩
def f207s18 : SS := ⟨[(0, (.p 0)), (1, (.ro (.int .i64))), (3, (.ro (.int .i64))), (4, (.h 100)), (12, (.ro (.int .i64))), (13, (.ro (.int .i64)))], [(0, (.box (.st (.cons (.list 5 (.int .u8)) (.cons (.int .i64) (.cons (.int .i64) .nil)))) (.agg (.cons (.ro (.list 5 (.int .u8))) (.cons (.ro (.int .i64)) (.cons (.ro (.int .i64)) .nil)))))), (100, (.sl 170 (.st (.cons (.int .i64) (.cons (.int .i64) (.cons (.int .i64) (.cons .str (.cons (.int .i64) .nil))))))))]⟩
def f207s16 : SS := ⟨[(0, (.p 0)), (1, (.ro (.int .i64))), (3, (.ro (.int .i64))), (4, (.h 100)), (12, (.ro (.int .i64))), (13, (.ro (.int .i64)))], [(0, (.box (.st (.cons (.list 5 (.int .u8)) (.cons (.int .i64) (.cons (.int .i64) .nil)))) (.agg (.cons (.ro (.list 5 (.int .u8))) (.cons (.ro (.int .i64)) (.cons (.ro (.int .i64)) .nil)))))), (100, (.sl 170 (.st (.cons (.int .i64) (.cons (.int .i64) (.cons (.int .i64) (.cons .str (.cons (.int .i64) .nil))))))))]⟩
def f207s9 : SS := ⟨[(0, (.p 0)), (1, (.ro (.int .i64))), (3, (.ro (.int .i64))), (4, (.h 10)), (11, (.p 100))], [(0, (.box (.st (.cons (.list 5 (.int .u8)) (.cons (.int .i64) (.cons (.int .i64) .nil)))) (.agg (.cons (.ro (.list 5 (.int .u8))) (.cons (.ro (.int .i64)) (.cons (.ro (.int .i64)) .nil)))))), (10, (.sl 170 (.st (.cons (.int .i64) (.cons (.int .i64) (.cons (.int .i64) (.cons .str (.cons (.int .i64) .nil)))))))), (100, (.box (.st (.cons (.int .i64) (.cons (.int .i64) (.cons (.int .i64) (.cons .str (.cons (.int .i64) .nil)))))) (.agg (.cons (.ro (.int .i64)) (.cons (.ro (.int .i64)) (.cons (.ro (.int .i64)) (.cons (.ro .str) (.cons (.ro (.int .i64)) .nil))))))))]⟩
def f207con (F : Int → Int → Int → TL1Cur → (List TNode) → Option (Unit × TL1Cur × (List TNode))) : Con := ⟨f207in, f207out, 5, 1, fun x => F x.1.2.1 x.1.2.2.1 x.1.2.2.2.1 x.2.1 x.2.2⟩
def f207ctx (k : Nat) (S207 : Int → Int → Int → TL1Cur → (List TNode) → Option (Unit × TL1Cur × (List TNode))) : Ctx := ⟨tyAt tys, conAt [(76, [f76con (spec_l1Below k)]), (110, [f110con (spec_l1PickInt k)]), (116, [f116con (spec_l1Once k)]), (196, [f196con (spec_l4DrawText k)]), (207, [f207con S207]), (302, [f302con (spec_l2DrawNum k)])], 113, fun _ => false⟩
theorem f207hc (k : Nat) (S207 : Int → Int → Int → TL1Cur → (List TNode) → Option (Unit × TL1Cur × (List TNode))) (h207 : FnOk Try.prog 207 (f207con S207)) : CtxOk Try.prog (f207ctx k S207) := ctxOk tys_ok mixed_ok (consOk_cons (f76ok k) (consOk_cons (f110ok k) (consOk_cons (f116ok k) (consOk_cons (f196ok k) (consOk_cons (h207) (consOk_cons (f302ok k) (consOk_nil)))))))
theorem f207okb (k : Nat) (S207 : Int → Int → Int → TL1Cur → (List TNode) → Option (Unit × TL1Cur × (List TNode))) (h207 : FnOk Try.prog 207 (f207con S207)) : FnOk Try.prog 207 (f207con (spec_l4DrawNode.b k S207)) :=
  let hc := f207hc k S207 h207
  fnOk (fn := Try.f207) (code := bodyOf Try.f207) (res := [.tmp 10]) hc (by kernel_rfl) (by kernel_rfl) (by decide) (by kernel_rfl) (by kernel_rfl) (by kernel_rfl) (Nat.le_of_ble_eq_true (by kernel_rfl)) _
    (fun x => Snd.seq (by kernel_rfl) (Snd.seq (by kernel_rfl) (Snd.seq (by kernel_rfl) (Snd.cut (Snd.seq (by kernel_rfl) (Snd.seq (by kernel_rfl) (Snd.seq (by kernel_rfl) (Snd.seq (by kernel_rfl) (Snd.seq (by kernel_rfl) (Snd.cut (Snd.seq (by kernel_rfl) (Snd.cut (Snd.seq (by kernel_rfl) (Snd.seq (by kernel_rfl) (Snd.seq (by kernel_rfl) (Snd.cut (Snd.seq (by kernel_rfl) (Snd.seq (by kernel_rfl) (Snd.exec hc _ _ _ _) (Snd.seq (by kernel_rfl) (Snd.block (id := 1) (by kernel_rfl) (Snd.loop' (by kernel_rfl) f207s24 (fun n x => spec_l4DrawNode.l24 k S207 n x.1.2.1 x.1.2.2.1 x.1.2.2.2.2.1 x.1.2.2.2.2.2.1 x.1.2.2.2.2.2.2.1 x.1.2.2.2.2.2.2.2 x.2.1 x.2.2) _ (fun _ => rfl) (fun n24 => Snd.seq (by kernel_rfl) (Snd.seq (by kernel_rfl) (Snd.cut (Snd.exec hc _ _ _ _) ⟨f207s25, fun x => spec_l4DrawNode.c25 k (spec_l4DrawNode.l24 k S207 n24) x.1.2.1 x.1.2.2.1 x.1.2.2.2.2.1 x.1.2.2.2.2.2.1 x.1.2.2.2.2.2.2.1 x.1.2.2.2.2.2.2.2 x.2.1 x.2.2⟩ (fun x => by kernel_rfl)) (Snd.exec hc _ _ _ _)) (Snd.exec hc _ _ _ _)) (fun n x => by kernel_rfl) k)) (Snd.exec hc _ _ _ _))) (Snd.exec hc _ _ _ _)) ⟨f207s22, fun x => spec_l4DrawNode.c22 k S207 x.1.2.1 x.1.2.2.1 x.1.2.2.2.2.1 x.1.2.2.2.2.2 x.2.1 x.2.2⟩ (fun x => by kernel_rfl)) (Snd.exec hc _ _ _ _)) (Snd.exec hc _ _ _ _)) (Snd.exec hc _ _ _ _)) ⟨f207s18, fun x => spec_l4DrawNode.c18 k S207 x.1.2.1 x.1.2.2.1 x.1.2.2.2.2.1 x.1.2.2.2.2.2 x.2.1 x.2.2⟩ (fun x => by kernel_rfl)) (Snd.exec hc _ _ _ _)) ⟨f207s16, fun x => spec_l4DrawNode.c16 k S207 x.1.2.1 x.1.2.2.1 x.1.2.2.2.2.1 x.1.2.2.2.2.2 x.2.1 x.2.2⟩ (fun x => by kernel_rfl)) (Snd.exec hc _ _ _ _)) (Snd.exec hc _ _ _ _)) (Snd.exec hc _ _ _ _)) (Snd.exec hc _ _ _ _)) (Snd.exec hc _ _ _ _)) ⟨f207s9, fun x => spec_l4DrawNode.c9 k S207 x.1.2.1 x.1.2.2.1 x.2.1 x.2.2.1 x.2.2.2⟩ (fun x => by kernel_rfl)) (Snd.exec hc _ _ _ _)) (Snd.exec hc _ _ _ _)) (Snd.exec hc _ _ _ _))
    (fun x => by kernel_rfl)
theorem f207rec (k : Nat) : ∀ d, FnOk Try.prog 207 (f207con (spec_l4DrawNode.d k d))
  | 0 => FnOk_none (fun _ => rfl)
  | d + 1 => let ih := f207rec k d
    f207okb k (spec_l4DrawNode.d k d) ih
theorem f207ok (k : Nat) : FnOk Try.prog 207 (f207con (spec_l4DrawNode k)) := (f207rec k k)

def f108in : SS := ⟨[(0, (.p 0))], [(0, (.box (.st (.cons (.list 5 (.int .u8)) (.cons (.int .i64) (.cons (.int .i64) .nil)))) (.agg (.cons (.ro (.list 5 (.int .u8))) (.cons (.ro (.int .i64)) (.cons (.ro (.int .i64)) .nil))))))]⟩
def f108out : SS := ⟨[(0, (.h 100))], [(0, (.box (.st (.cons (.list 5 (.int .u8)) (.cons (.int .i64) (.cons (.int .i64) .nil)))) (.agg (.cons (.ro (.list 5 (.int .u8))) (.cons (.ro (.int .i64)) (.cons (.ro (.int .i64)) .nil)))))), (100, (.sl 170 (.st (.cons (.int .i64) (.cons (.int .i64) (.cons (.int .i64) (.cons .str (.cons (.int .i64) .nil))))))))]⟩
def f108con (F : TL1Cur → Option (Unit × TL1Cur × (List TNode))) : Con := ⟨f108in, f108out, 1, 1, fun x => F x.2⟩
def f108ctx (k : Nat) : Ctx := ⟨tyAt tys, conAt [(76, [f76con (spec_l1Below k)]), (207, [f207con (spec_l4DrawNode k)])], 16, fun _ => false⟩
theorem f108hc (k : Nat) : CtxOk Try.prog (f108ctx k) := ctxOk tys_ok mixed_ok (consOk_cons (f76ok k) (consOk_cons (f207ok k) (consOk_nil)))
theorem f108ok (k : Nat) : FnOk Try.prog 108 (f108con (spec_l4DrawRight k)) :=
  let hc := f108hc k
  fnOk (fn := Try.f108) (code := bodyOf Try.f108) (res := [.tmp 2]) hc (by kernel_rfl) (by kernel_rfl) (by decide) (by kernel_rfl) (by kernel_rfl) (by kernel_rfl) (Nat.le_of_ble_eq_true (by kernel_rfl)) _
    (fun x => Snd.exec hc _ _ _ _)
    (fun x => by kernel_rfl)

def f30in : SS := ⟨[(0, (.ro (.list 5 (.int .u8))))], []⟩
def f30out : SS := ⟨[(0, (.ro (.list 5 (.int .u8)))), (1, (.ro (.int .i64)))], []⟩
def f30s20 : SS := ⟨[(5, (.ro (.list 5 (.int .u8)))), (7, (.ro (.int .i64)))], []⟩
def f30s5 : SS := ⟨[(4, (.p 100)), (5, (.h 101))], [(100, (.box (.st (.cons (.list 5 (.int .u8)) (.cons (.int .i64) (.cons (.int .i64) .nil)))) (.agg (.cons (.ro (.list 5 (.int .u8))) (.cons (.ro (.int .i64)) (.cons (.ro (.int .i64)) .nil)))))), (101, (.sl 5 (.int .u8)))]⟩
def f30con (F : (List Int) → Option ((List Int) × Int)) : Con := ⟨f30in, f30out, 1, 2, fun x => F x⟩
def f30ctx (k : Nat) : Ctx := ⟨tyAt tys, conAt [(73, [f73con (spec_l1New k)]), (76, [f76con (spec_l1Below k)]), (107, [f107con (spec_TreePack k)]), (108, [f108con (spec_l4DrawRight k)]), (109, [f109con (spec_l1Byte k)]), (110, [f110con (spec_l1PickInt k)])], 69, fun _ => false⟩
theorem f30hc (k : Nat) : CtxOk Try.prog (f30ctx k) := ctxOk tys_ok mixed_ok (consOk_cons (f73ok k) (consOk_cons (f76ok k) (consOk_cons (f107ok k) (consOk_cons (f108ok k) (consOk_cons (f109ok k) (consOk_cons (f110ok k) (consOk_nil)))))))
theorem f30ok (k : Nat) : FnOk Try.prog 30 (f30con (spec_DrawTreeRead k)) :=
  let hc := f30hc k
  fnOk (fn := Try.f30) (code := bodyOf Try.f30) (res := [.tmp 2, .tmp 3]) hc (by kernel_rfl) (by kernel_rfl) (by decide) (by kernel_rfl) (by kernel_rfl) (by kernel_rfl) (Nat.le_of_ble_eq_true (by kernel_rfl)) _
    (fun x => Snd.seq (by kernel_rfl) (Snd.seq (by kernel_rfl) (Snd.seq (by kernel_rfl) (Snd.seq (by kernel_rfl) (Snd.cut (Snd.seq (by kernel_rfl) (Snd.seq (by kernel_rfl) (Snd.cut (Snd.exec hc _ _ _ _) ⟨f30s20, fun x => spec_DrawTreeRead.c20 k x.1 x.2⟩ (fun x => by kernel_rfl)) (Snd.exec hc _ _ _ _)) (Snd.exec hc _ _ _ _)) ⟨f30s5, fun x => spec_DrawTreeRead.c5 k x.2.1 x.2.2⟩ (fun x => by kernel_rfl)) (Snd.exec hc _ _ _ _)) (Snd.exec hc _ _ _ _)) (Snd.exec hc _ _ _ _)) (Snd.exec hc _ _ _ _))
    (fun x => by kernel_rfl)

def f105in : SS := ⟨[(0, (.ro (.int .i64))), (1, (.ro (.int .i64))), (2, (.ro (.int .i64)))], []⟩
def f105out : SS := ⟨[(0, (.ro .bool))], []⟩
def f105con (F : Int → Int → Int → Option Bool) : Con := ⟨f105in, f105out, 3, 1, fun x => F x.1 x.2.1 x.2.2⟩
def f105ctx (k : Nat) : Ctx := ⟨tyAt tys, conAt [], 15, fun _ => false⟩
theorem f105hc (k : Nat) : CtxOk Try.prog (f105ctx k) := ctxOk tys_ok mixed_ok (consOk_nil)
theorem f105ok (k : Nat) : FnOk Try.prog 105 (f105con (impl_within k)) :=
  let hc := f105hc k
  fnOk (fn := Try.f105) (code := bodyOf Try.f105) (res := [.tmp 6]) hc (by kernel_rfl) (by kernel_rfl) (by decide) (by kernel_rfl) (by kernel_rfl) (by kernel_rfl) (Nat.le_of_ble_eq_true (by kernel_rfl)) _
    (fun x => Snd.exec hc _ _ _ _)
    (fun x => by kernel_rfl)

def f212in : SS := ⟨[(0, (.p 0)), (1, (.ro (.int .i64)))], [(0, (.box (.st (.cons (.list 5 (.int .u8)) (.cons (.int .i64) (.cons (.list 170 (.st (.cons (.int .i64) (.cons (.int .i64) (.cons (.int .i64) (.cons .str (.cons (.int .i64) .nil))))))) (.cons (.int .i64) .nil))))) (.agg (.cons (.ro (.list 5 (.int .u8))) (.cons (.ro (.int .i64)) (.cons (.h 10) (.cons (.ro (.int .i64)) .nil))))))), (10, (.sl 170 (.st (.cons (.int .i64) (.cons (.int .i64) (.cons (.int .i64) (.cons .str (.cons (.int .i64) .nil))))))))]⟩
def f212out : SS := ⟨[], [(0, (.box (.st (.cons (.list 5 (.int .u8)) (.cons (.int .i64) (.cons (.list 170 (.st (.cons (.int .i64) (.cons (.int .i64) (.cons (.int .i64) (.cons .str (.cons (.int .i64) .nil))))))) (.cons (.int .i64) .nil))))) (.agg (.cons (.ro (.list 5 (.int .u8))) (.cons (.ro (.int .i64)) (.cons (.h 10) (.cons (.ro (.int .i64)) .nil))))))), (10, (.sl 170 (.st (.cons (.int .i64) (.cons (.int .i64) (.cons (.int .i64) (.cons .str (.cons (.int .i64) .nil))))))))]⟩
def f212con (F : Int → TTreeReaderB → (List TNode) → Option (Unit × TTreeReaderB × (List TNode))) : Con := ⟨f212in, f212out, 2, 0, fun x => F x.1.2 x.2.1 x.2.2⟩
def f212ctx (k : Nat) : Ctx := ⟨tyAt tys, conAt [], 13, fun _ => false⟩
theorem f212hc (k : Nat) : CtxOk Try.prog (f212ctx k) := ctxOk tys_ok mixed_ok (consOk_nil)
theorem f212ok (k : Nat) : FnOk Try.prog 212 (f212con (impl_treeReader_fail k)) :=
  let hc := f212hc k
  fnOk (fn := Try.f212) (code := bodyOf Try.f212) (res := []) hc (by kernel_rfl) (by kernel_rfl) (by decide) (by kernel_rfl) (by kernel_rfl) (by kernel_rfl) (Nat.le_of_ble_eq_true (by kernel_rfl)) _
    (fun x => Snd.exec hc _ _ _ _)
    (fun x => by kernel_rfl)

def f208in : SS := ⟨[(0, (.p 0)), (1, (.ro (.st (.cons (.int .i64) (.cons (.int .i64) (.cons (.int .i64) (.cons .str (.cons (.int .i64) .nil)))))))), (2, (.ro (.int .i64)))], [(0, (.box (.st (.cons (.list 5 (.int .u8)) (.cons (.int .i64) (.cons (.list 170 (.st (.cons (.int .i64) (.cons (.int .i64) (.cons (.int .i64) (.cons .str (.cons (.int .i64) .nil))))))) (.cons (.int .i64) .nil))))) (.agg (.cons (.ro (.list 5 (.int .u8))) (.cons (.ro (.int .i64)) (.cons (.h 10) (.cons (.ro (.int .i64)) .nil))))))), (10, (.sl 170 (.st (.cons (.int .i64) (.cons (.int .i64) (.cons (.int .i64) (.cons .str (.cons (.int .i64) .nil))))))))]⟩
def f208out : SS := ⟨[(0, (.ro (.int .i64)))], [(0, (.box (.st (.cons (.list 5 (.int .u8)) (.cons (.int .i64) (.cons (.list 170 (.st (.cons (.int .i64) (.cons (.int .i64) (.cons (.int .i64) (.cons .str (.cons (.int .i64) .nil))))))) (.cons (.int .i64) .nil))))) (.agg (.cons (.ro (.list 5 (.int .u8))) (.cons (.ro (.int .i64)) (.cons (.h 100) (.cons (.ro (.int .i64)) .nil))))))), (100, (.sl 170 (.st (.cons (.int .i64) (.cons (.int .i64) (.cons (.int .i64) (.cons .str (.cons (.int .i64) .nil))))))))]⟩
def f208s3 : SS := ⟨[(0, (.p 0)), (4, (.p 100))], [(0, (.box (.st (.cons (.list 5 (.int .u8)) (.cons (.int .i64) (.cons (.list 170 (.st (.cons (.int .i64) (.cons (.int .i64) (.cons (.int .i64) (.cons .str (.cons (.int .i64) .nil))))))) (.cons (.int .i64) .nil))))) (.agg (.cons (.ro (.list 5 (.int .u8))) (.cons (.ro (.int .i64)) (.cons (.h 10) (.cons (.ro (.int .i64)) .nil))))))), (10, (.sl 170 (.st (.cons (.int .i64) (.cons (.int .i64) (.cons (.int .i64) (.cons .str (.cons (.int .i64) .nil)))))))), (100, (.box (.st (.cons (.int .i64) (.cons (.int .i64) (.cons (.int .i64) (.cons .str (.cons (.int .i64) .nil)))))) (.agg (.cons (.ro (.int .i64)) (.cons (.ro (.int .i64)) (.cons (.ro (.int .i64)) (.cons (.ro .str) (.cons (.ro (.int .i64)) .nil))))))))]⟩
def f208con (F : TNode → Int → TTreeReaderB → (List TNode) → Option (Int × TTreeReaderB × (List TNode))) : Con := ⟨f208in, f208out, 3, 1, fun x => F x.1.2.1 x.1.2.2 x.2.1 x.2.2⟩
def f208ctx (k : Nat) : Ctx := ⟨tyAt tys, conAt [(212, [f212con (impl_treeReader_fail k)])], 40, fun _ => false⟩
theorem f208hc (k : Nat) : CtxOk Try.prog (f208ctx k) := ctxOk tys_ok mixed_ok (consOk_cons (f212ok k) (consOk_nil))
theorem f208ok (k : Nat) : FnOk Try.prog 208 (f208con (impl_treeReader_begin k)) :=
  let hc := f208hc k
  fnOk (fn := Try.f208) (code := bodyOf Try.f208) (res := [.tmp 6]) hc (by kernel_rfl) (by kernel_rfl) (by decide) (by kernel_rfl) (by kernel_rfl) (by kernel_rfl) (Nat.le_of_ble_eq_true (by kernel_rfl)) _
    (fun x => Snd.seq (by kernel_rfl) (Snd.seq (by kernel_rfl) (Snd.cut (Snd.exec hc _ _ _ _) ⟨f208s3, fun x => impl_treeReader_begin.c3 k x.2.1 x.2.2.1 x.2.2.2⟩ (fun x => by kernel_rfl)) (Snd.exec hc _ _ _ _)) (Snd.exec hc _ _ _ _))
    (fun x => by kernel_rfl)

def f209in : SS := ⟨[(0, (.ro (.int .i64)))], []⟩
def f209out : SS := ⟨[(0, (.ro (.int .i64)))], []⟩
def f209con (F : Int → Option Int) : Con := ⟨f209in, f209out, 1, 1, fun x => F x⟩
def f209ctx (k : Nat) : Ctx := ⟨tyAt tys, conAt [], 11, fun _ => false⟩
theorem f209hc (k : Nat) : CtxOk Try.prog (f209ctx k) := ctxOk tys_ok mixed_ok (consOk_nil)
theorem f209ok (k : Nat) : FnOk Try.prog 209 (f209con (impl_Zag k)) :=
  let hc := f209hc k
  fnOk (fn := Try.f209) (code := bodyOf Try.f209) (res := [.tmp 2]) hc (by kernel_rfl) (by kernel_rfl) (by decide) (by kernel_rfl) (by kernel_rfl) (by kernel_rfl) (Nat.le_of_ble_eq_true (by kernel_rfl)) _
    (fun x => Snd.exec hc _ _ _ _)
    (fun x => by kernel_rfl)

def f303in : SS := ⟨[(0, (.ro (.list 5 (.int .u8)))), (1, (.ro (.int .i64)))], []⟩
def f303out : SS := ⟨[(0, (.ro (.int .i64))), (1, (.ro (.int .i64))), (2, (.ro .bool))], []⟩
def f303s12 : SS := ⟨[], []⟩
def f303s5 : SS := ⟨[(0, (.ro (.list 5 (.int .u8)))), (1, (.ro (.int .i64))), (7, (.ro (.int .u64))), (8, (.ro (.int .i64)))], []⟩
def f303con (F : (List Int) → Int → Option (Int × Int × Bool)) : Con := ⟨f303in, f303out, 2, 3, fun x => F x.1 x.2⟩
def f303ctx (k : Nat) : Ctx := ⟨tyAt tys, conAt [], 52, fun _ => false⟩
theorem f303hc (k : Nat) : CtxOk Try.prog (f303ctx k) := ctxOk tys_ok mixed_ok (consOk_nil)
theorem f303ok (k : Nat) : FnOk Try.prog 303 (f303con (impl_UvarGet k)) :=
  let hc := f303hc k
  fnOk (fn := Try.f303) (code := bodyOf Try.f303) (res := [.tmp 4, .tmp 5, .tmp 6]) hc (by kernel_rfl) (by kernel_rfl) (by decide) (by kernel_rfl) (by kernel_rfl) (by kernel_rfl) (Nat.le_of_ble_eq_true (by kernel_rfl)) _
    (fun x => Snd.seq (by kernel_rfl) (Snd.seq (by kernel_rfl) (Snd.seq (by kernel_rfl) (Snd.seq (by kernel_rfl) (Snd.cut (Snd.exec hc _ _ _ _) ⟨f303s12, fun x => impl_UvarGet.c12 k⟩ (fun x => by kernel_rfl)) (Snd.seq (by kernel_rfl) (Snd.block (id := 0) (by kernel_rfl) (Snd.loop' (by kernel_rfl) f303s5 (fun n x => impl_UvarGet.l5 k n x.1 x.2.1 x.2.2.1 x.2.2.2) _ (fun _ => rfl) (fun n5 => Snd.exec hc _ _ _ _) (fun n x => by kernel_rfl) k)) (Snd.exec hc _ _ _ _))) (Snd.exec hc _ _ _ _)) (Snd.exec hc _ _ _ _)) (Snd.exec hc _ _ _ _))
    (fun x => by kernel_rfl)

def f210in : SS := ⟨[(0, (.p 0))], [(0, (.box (.st (.cons (.list 5 (.int .u8)) (.cons (.int .i64) (.cons (.list 170 (.st (.cons (.int .i64) (.cons (.int .i64) (.cons (.int .i64) (.cons .str (.cons (.int .i64) .nil))))))) (.cons (.int .i64) .nil))))) (.agg (.cons (.ro (.list 5 (.int .u8))) (.cons (.ro (.int .i64)) (.cons (.h 10) (.cons (.ro (.int .i64)) .nil))))))), (10, (.sl 170 (.st (.cons (.int .i64) (.cons (.int .i64) (.cons (.int .i64) (.cons .str (.cons (.int .i64) .nil))))))))]⟩
def f210out : SS := ⟨[(0, (.ro (.int .i64)))], [(0, (.box (.st (.cons (.list 5 (.int .u8)) (.cons (.int .i64) (.cons (.list 170 (.st (.cons (.int .i64) (.cons (.int .i64) (.cons (.int .i64) (.cons .str (.cons (.int .i64) .nil))))))) (.cons (.int .i64) .nil))))) (.agg (.cons (.ro (.list 5 (.int .u8))) (.cons (.ro (.int .i64)) (.cons (.h 10) (.cons (.ro (.int .i64)) .nil))))))), (10, (.sl 170 (.st (.cons (.int .i64) (.cons (.int .i64) (.cons (.int .i64) (.cons .str (.cons (.int .i64) .nil))))))))]⟩
def f210con (F : TTreeReaderB → (List TNode) → Option (Int × TTreeReaderB × (List TNode))) : Con := ⟨f210in, f210out, 1, 1, fun x => F x.2.1 x.2.2⟩
def f210ctx (k : Nat) : Ctx := ⟨tyAt tys, conAt [(212, [f212con (impl_treeReader_fail k)]), (303, [f303con (impl_UvarGet k)])], 35, fun _ => false⟩
theorem f210hc (k : Nat) : CtxOk Try.prog (f210ctx k) := ctxOk tys_ok mixed_ok (consOk_cons (f212ok k) (consOk_cons (f303ok k) (consOk_nil)))
theorem f210ok (k : Nat) : FnOk Try.prog 210 (f210con (impl_treeReader_uvar k)) :=
  let hc := f210hc k
  fnOk (fn := Try.f210) (code := bodyOf Try.f210) (res := [.tmp 2]) hc (by kernel_rfl) (by kernel_rfl) (by decide) (by kernel_rfl) (by kernel_rfl) (by kernel_rfl) (Nat.le_of_ble_eq_true (by kernel_rfl)) _
    (fun x => Snd.exec hc _ _ _ _)
    (fun x => by kernel_rfl)

def f211in : SS := ⟨[(0, (.ro (.int .i64)))], []⟩
def f211out : SS := ⟨[(0, (.ro .bool))], []⟩
def f211con (F : Int → Option Bool) : Con := ⟨f211in, f211out, 1, 1, fun x => F x⟩
def f211ctx (k : Nat) : Ctx := ⟨tyAt tys, conAt [(105, [f105con (impl_within k)])], 5, fun _ => false⟩
theorem f211hc (k : Nat) : CtxOk Try.prog (f211ctx k) := ctxOk tys_ok mixed_ok (consOk_cons (f105ok k) (consOk_nil))
theorem f211ok (k : Nat) : FnOk Try.prog 211 (f211con (impl_isInt32 k)) :=
  let hc := f211hc k
  fnOk (fn := Try.f211) (code := bodyOf Try.f211) (res := [.tmp 2]) hc (by kernel_rfl) (by kernel_rfl) (by decide) (by kernel_rfl) (by kernel_rfl) (by kernel_rfl) (Nat.le_of_ble_eq_true (by kernel_rfl)) _
    (fun x => Snd.exec hc _ _ _ _)
    (fun x => by kernel_rfl)

def f213in : SS := ⟨[(0, (.p 0))], [(0, (.box (.st (.cons (.list 5 (.int .u8)) (.cons (.int .i64) (.cons (.list 170 (.st (.cons (.int .i64) (.cons (.int .i64) (.cons (.int .i64) (.cons .str (.cons (.int .i64) .nil))))))) (.cons (.int .i64) .nil))))) (.agg (.cons (.ro (.list 5 (.int .u8))) (.cons (.ro (.int .i64)) (.cons (.h 10) (.cons (.ro (.int .i64)) .nil))))))), (10, (.sl 170 (.st (.cons (.int .i64) (.cons (.int .i64) (.cons (.int .i64) (.cons .str (.cons (.int .i64) .nil))))))))]⟩
def f213out : SS := ⟨[(0, (.ro .str))], [(0, (.box (.st (.cons (.list 5 (.int .u8)) (.cons (.int .i64) (.cons (.list 170 (.st (.cons (.int .i64) (.cons (.int .i64) (.cons (.int .i64) (.cons .str (.cons (.int .i64) .nil))))))) (.cons (.int .i64) .nil))))) (.agg (.cons (.ro (.list 5 (.int .u8))) (.cons (.ro (.int .i64)) (.cons (.h 10) (.cons (.ro (.int .i64)) .nil))))))), (10, (.sl 170 (.st (.cons (.int .i64) (.cons (.int .i64) (.cons (.int .i64) (.cons .str (.cons (.int .i64) .nil))))))))]⟩
def f213s6 : SS := ⟨[(0, (.p 0)), (3, (.ro (.int .i64)))], [(0, (.box (.st (.cons (.list 5 (.int .u8)) (.cons (.int .i64) (.cons (.list 170 (.st (.cons (.int .i64) (.cons (.int .i64) (.cons (.int .i64) (.cons .str (.cons (.int .i64) .nil))))))) (.cons (.int .i64) .nil))))) (.agg (.cons (.ro (.list 5 (.int .u8))) (.cons (.ro (.int .i64)) (.cons (.h 10) (.cons (.ro (.int .i64)) .nil))))))), (10, (.sl 170 (.st (.cons (.int .i64) (.cons (.int .i64) (.cons (.int .i64) (.cons .str (.cons (.int .i64) .nil))))))))]⟩
def f213s4 : SS := ⟨[(0, (.p 0)), (3, (.ro (.int .i64)))], [(0, (.box (.st (.cons (.list 5 (.int .u8)) (.cons (.int .i64) (.cons (.list 170 (.st (.cons (.int .i64) (.cons (.int .i64) (.cons (.int .i64) (.cons .str (.cons (.int .i64) .nil))))))) (.cons (.int .i64) .nil))))) (.agg (.cons (.ro (.list 5 (.int .u8))) (.cons (.ro (.int .i64)) (.cons (.h 10) (.cons (.ro (.int .i64)) .nil))))))), (10, (.sl 170 (.st (.cons (.int .i64) (.cons (.int .i64) (.cons (.int .i64) (.cons .str (.cons (.int .i64) .nil))))))))]⟩
def f213con (F : TTreeReaderB → (List TNode) → Option (ByteArray × TTreeReaderB × (List TNode))) : Con := ⟨f213in, f213out, 1, 1, fun x => F x.2.1 x.2.2⟩
def f213ctx (k : Nat) : Ctx := ⟨tyAt tys, conAt [(105, [f105con (impl_within k)]), (210, [f210con (impl_treeReader_uvar k)]), (212, [f212con (impl_treeReader_fail k)])], 68, fun _ => false⟩
theorem f213hc (k : Nat) : CtxOk Try.prog (f213ctx k) := ctxOk tys_ok mixed_ok (consOk_cons (f105ok k) (consOk_cons (f210ok k) (consOk_cons (f212ok k) (consOk_nil))))
theorem f213ok (k : Nat) : FnOk Try.prog 213 (f213con (impl_treeReader_text k)) :=
  let hc := f213hc k
  fnOk (fn := Try.f213) (code := bodyOf Try.f213) (res := [.tmp 2]) hc (by kernel_rfl) (by kernel_rfl) (by decide) (by kernel_rfl) (by kernel_rfl) (by kernel_rfl) (Nat.le_of_ble_eq_true (by kernel_rfl)) _
    (fun x => Snd.seq (by kernel_rfl) (Snd.seq (by kernel_rfl) (Snd.seq (by kernel_rfl) (Snd.cut (Snd.seq (by kernel_rfl) (Snd.cut (Snd.exec hc _ _ _ _) ⟨f213s6, fun x => impl_treeReader_text.c6 k x.1.2 x.2.1 x.2.2⟩ (fun x => by kernel_rfl)) (Snd.exec hc _ _ _ _)) ⟨f213s4, fun x => impl_treeReader_text.c4 k x.1.2 x.2.1 x.2.2⟩ (fun x => by kernel_rfl)) (Snd.exec hc _ _ _ _)) (Snd.exec hc _ _ _ _)) (Snd.exec hc _ _ _ _))
    (fun x => by kernel_rfl)

def f304in : SS := ⟨[(0, (.p 0))], [(0, (.box (.st (.cons (.list 5 (.int .u8)) (.cons (.int .i64) (.cons (.list 170 (.st (.cons (.int .i64) (.cons (.int .i64) (.cons (.int .i64) (.cons .str (.cons (.int .i64) .nil))))))) (.cons (.int .i64) .nil))))) (.agg (.cons (.ro (.list 5 (.int .u8))) (.cons (.ro (.int .i64)) (.cons (.h 10) (.cons (.ro (.int .i64)) .nil))))))), (10, (.sl 170 (.st (.cons (.int .i64) (.cons (.int .i64) (.cons (.int .i64) (.cons .str (.cons (.int .i64) .nil))))))))]⟩
def f304out : SS := ⟨[(0, (.ro (.int .i64)))], [(0, (.box (.st (.cons (.list 5 (.int .u8)) (.cons (.int .i64) (.cons (.list 170 (.st (.cons (.int .i64) (.cons (.int .i64) (.cons (.int .i64) (.cons .str (.cons (.int .i64) .nil))))))) (.cons (.int .i64) .nil))))) (.agg (.cons (.ro (.list 5 (.int .u8))) (.cons (.ro (.int .i64)) (.cons (.h 10) (.cons (.ro (.int .i64)) .nil))))))), (10, (.sl 170 (.st (.cons (.int .i64) (.cons (.int .i64) (.cons (.int .i64) (.cons .str (.cons (.int .i64) .nil))))))))]⟩
def f304con (F : TTreeReaderB → (List TNode) → Option (Int × TTreeReaderB × (List TNode))) : Con := ⟨f304in, f304out, 1, 1, fun x => F x.2.1 x.2.2⟩
def f304ctx (k : Nat) : Ctx := ⟨tyAt tys, conAt [(212, [f212con (impl_treeReader_fail k)])], 41, fun _ => false⟩
theorem f304hc (k : Nat) : CtxOk Try.prog (f304ctx k) := ctxOk tys_ok mixed_ok (consOk_cons (f212ok k) (consOk_nil))
theorem f304ok (k : Nat) : FnOk Try.prog 304 (f304con (impl_treeReader_one k)) :=
  let hc := f304hc k
  fnOk (fn := Try.f304) (code := bodyOf Try.f304) (res := [.tmp 2]) hc (by kernel_rfl) (by kernel_rfl) (by decide) (by kernel_rfl) (by kernel_rfl) (by kernel_rfl) (Nat.le_of_ble_eq_true (by kernel_rfl)) _
    (fun x => Snd.exec hc _ _ _ _)
    (fun x => by kernel_rfl)

def f305in : SS := ⟨[(0, (.ro (.int .i64))), (1, (.ro .bool))], []⟩
def f305out : SS := ⟨[(0, (.ro .bool))], []⟩
def f305s10 : SS := ⟨[(11, (.ro .bool))], []⟩
def f305s4 : SS := ⟨[(1, (.ro .bool)), (5, (.ro (.int .i64))), (6, (.ro .bool))], []⟩
def f305con (F : Int → Bool → Option Bool) : Con := ⟨f305in, f305out, 2, 1, fun x => F x.1 x.2⟩
def f305ctx (k : Nat) : Ctx := ⟨tyAt tys, conAt [], 17, fun _ => false⟩
theorem f305hc (k : Nat) : CtxOk Try.prog (f305ctx k) := ctxOk tys_ok mixed_ok (consOk_nil)
theorem f305ok (k : Nat) : FnOk Try.prog 305 (f305con (impl_isType k)) :=
  let hc := f305hc k
  fnOk (fn := Try.f305) (code := bodyOf Try.f305) (res := [.tmp 4]) hc (by kernel_rfl) (by kernel_rfl) (by decide) (by kernel_rfl) (by kernel_rfl) (by kernel_rfl) (Nat.le_of_ble_eq_true (by kernel_rfl)) _
    (fun x => Snd.seq (by kernel_rfl) (Snd.seq (by kernel_rfl) (Snd.exec hc _ _ _ _) (Snd.seq (by kernel_rfl) (Snd.block (id := 0) (by kernel_rfl) (Snd.seq (by kernel_rfl) (Snd.cut (Snd.cond (x := .tmp 6) (by kernel_rfl) (Snd.exec hc _ _ _ _) (Snd.seq (by kernel_rfl) (Snd.cut (Snd.exec hc _ _ _ _) ⟨f305s10, fun x => impl_isType.c10 k x⟩ (fun x => by kernel_rfl)) (Snd.exec hc _ _ _ _))) ⟨f305s4, fun x => impl_isType.c4 k x.1 x.2.1 x.2.2⟩ (fun x => by kernel_rfl)) (Snd.exec hc _ _ _ _))) (Snd.exec hc _ _ _ _))) (Snd.exec hc _ _ _ _))
    (fun x => by kernel_rfl)

def f111in : SS := ⟨[(0, (.p 0)), (1, (.ro (.int .i64))), (2, (.ro (.int .i64))), (3, (.ro (.int .i64)))], [(0, (.box (.st (.cons (.list 5 (.int .u8)) (.cons (.int .i64) (.cons (.list 170 (.st (.cons (.int .i64) (.cons (.int .i64) (.cons (.int .i64) (.cons .str (.cons (.int .i64) .nil))))))) (.cons (.int .i64) .nil))))) (.agg (.cons (.ro (.list 5 (.int .u8))) (.cons (.ro (.int .i64)) (.cons (.h 10) (.cons (.ro (.int .i64)) .nil))))))), (10, (.sl 170 (.st (.cons (.int .i64) (.cons (.int .i64) (.cons (.int .i64) (.cons .str (.cons (.int .i64) .nil))))))))]⟩
def f111out : SS := ⟨[], [(0, (.box (.st (.cons (.list 5 (.int .u8)) (.cons (.int .i64) (.cons (.list 170 (.st (.cons (.int .i64) (.cons (.int .i64) (.cons (.int .i64) (.cons .str (.cons (.int .i64) .nil))))))) (.cons (.int .i64) .nil))))) (.agg (.cons (.ro (.list 5 (.int .u8))) (.cons (.ro (.int .i64)) (.cons (.h 100) (.cons (.ro (.int .i64)) .nil))))))), (100, (.sl 170 (.st (.cons (.int .i64) (.cons (.int .i64) (.cons (.int .i64) (.cons .str (.cons (.int .i64) .nil))))))))]⟩
def f111s8 : SS := ⟨[(0, (.p 0)), (8, (.ro (.int .i64))), (9, (.ro (.int .i64)))], [(0, (.box (.st (.cons (.list 5 (.int .u8)) (.cons (.int .i64) (.cons (.list 170 (.st (.cons (.int .i64) (.cons (.int .i64) (.cons (.int .i64) (.cons .str (.cons (.int .i64) .nil))))))) (.cons (.int .i64) .nil))))) (.agg (.cons (.ro (.list 5 (.int .u8))) (.cons (.ro (.int .i64)) (.cons (.h 100) (.cons (.ro (.int .i64)) .nil))))))), (100, (.sl 170 (.st (.cons (.int .i64) (.cons (.int .i64) (.cons (.int .i64) (.cons .str (.cons (.int .i64) .nil))))))))]⟩
def f111d10 : SS := ⟨[(0, (.p 0)), (8, (.ro (.int .i64)))], [(0, (.box (.st (.cons (.list 5 (.int .u8)) (.cons (.int .i64) (.cons (.list 170 (.st (.cons (.int .i64) (.cons (.int .i64) (.cons (.int .i64) (.cons .str (.cons (.int .i64) .nil))))))) (.cons (.int .i64) .nil))))) (.agg (.cons (.ro (.list 5 (.int .u8))) (.cons (.ro (.int .i64)) (.cons (.h 100) (.cons (.ro (.int .i64)) .nil))))))), (100, (.sl 170 (.st (.cons (.int .i64) (.cons (.int .i64) (.cons (.int .i64) (.cons .str (.cons (.int .i64) .nil))))))))]⟩
def f111s5 : SS := ⟨[(0, (.p 0)), (1, (.ro (.int .i64))), (3, (.ro (.int .i64))), (8, (.ro (.int .i64))), (21, (.ro (.int .i64))), (22, (.ro .bool))], [(0, (.box (.st (.cons (.list 5 (.int .u8)) (.cons (.int .i64) (.cons (.list 170 (.st (.cons (.int .i64) (.cons (.int .i64) (.cons (.int .i64) (.cons .str (.cons (.int .i64) .nil))))))) (.cons (.int .i64) .nil))))) (.agg (.cons (.ro (.list 5 (.int .u8))) (.cons (.ro (.int .i64)) (.cons (.h 100) (.cons (.ro (.int .i64)) .nil))))))), (100, (.sl 170 (.st (.cons (.int .i64) (.cons (.int .i64) (.cons (.int .i64) (.cons .str (.cons (.int .i64) .nil))))))))]⟩
def f111con (F : Int → Int → Int → TTreeReaderB → (List TNode) → Option (Unit × TTreeReaderB × (List TNode))) : Con := ⟨f111in, f111out, 4, 0, fun x => F x.1.2.1 x.1.2.2.1 x.1.2.2.2 x.2.1 x.2.2⟩
def f214in : SS := ⟨[(0, (.p 0)), (1, (.ro (.int .i64))), (2, (.ro (.int .i64)))], [(0, (.box (.st (.cons (.list 5 (.int .u8)) (.cons (.int .i64) (.cons (.list 170 (.st (.cons (.int .i64) (.cons (.int .i64) (.cons (.int .i64) (.cons .str (.cons (.int .i64) .nil))))))) (.cons (.int .i64) .nil))))) (.agg (.cons (.ro (.list 5 (.int .u8))) (.cons (.ro (.int .i64)) (.cons (.h 10) (.cons (.ro (.int .i64)) .nil))))))), (10, (.sl 170 (.st (.cons (.int .i64) (.cons (.int .i64) (.cons (.int .i64) (.cons .str (.cons (.int .i64) .nil))))))))]⟩
def f214out : SS := ⟨[], [(0, (.box (.st (.cons (.list 5 (.int .u8)) (.cons (.int .i64) (.cons (.list 170 (.st (.cons (.int .i64) (.cons (.int .i64) (.cons (.int .i64) (.cons .str (.cons (.int .i64) .nil))))))) (.cons (.int .i64) .nil))))) (.agg (.cons (.ro (.list 5 (.int .u8))) (.cons (.ro (.int .i64)) (.cons (.h 100) (.cons (.ro (.int .i64)) .nil))))))), (100, (.sl 170 (.st (.cons (.int .i64) (.cons (.int .i64) (.cons (.int .i64) (.cons .str (.cons (.int .i64) .nil))))))))]⟩
def f214s11 : SS := ⟨[(0, (.p 0)), (2, (.ro (.int .i64))), (7, (.ro (.int .i64))), (8, (.ro (.int .i64))), (9, (.ro (.int .i64)))], [(0, (.box (.st (.cons (.list 5 (.int .u8)) (.cons (.int .i64) (.cons (.list 170 (.st (.cons (.int .i64) (.cons (.int .i64) (.cons (.int .i64) (.cons .str (.cons (.int .i64) .nil))))))) (.cons (.int .i64) .nil))))) (.agg (.cons (.ro (.list 5 (.int .u8))) (.cons (.ro (.int .i64)) (.cons (.h 100) (.cons (.ro (.int .i64)) .nil))))))), (100, (.sl 170 (.st (.cons (.int .i64) (.cons (.int .i64) (.cons (.int .i64) (.cons .str (.cons (.int .i64) .nil))))))))]⟩
def f214s9 : SS := ⟨[(0, (.p 0)), (1, (.ro (.int .i64))), (2, (.ro (.int .i64))), (7, (.ro (.int .i64))), (8, (.ro (.int .i64)))], [(0, (.box (.st (.cons (.list 5 (.int .u8)) (.cons (.int .i64) (.cons (.list 170 (.st (.cons (.int .i64) (.cons (.int .i64) (.cons (.int .i64) (.cons .str (.cons (.int .i64) .nil))))))) (.cons (.int .i64) .nil))))) (.agg (.cons (.ro (.list 5 (.int .u8))) (.cons (.ro (.int .i64)) (.cons (.h 10) (.cons (.ro (.int .i64)) .nil))))))), (10, (.sl 170 (.st (.cons (.int .i64) (.cons (.int .i64) (.cons (.int .i64) (.cons .str (.cons (.int .i64) .nil))))))))]⟩
def f214s7 : SS := ⟨[(0, (.p 0)), (1, (.ro (.int .i64))), (2, (.ro (.int .i64))), (7, (.ro (.int .i64))), (8, (.ro (.int .i64)))], [(0, (.box (.st (.cons (.list 5 (.int .u8)) (.cons (.int .i64) (.cons (.list 170 (.st (.cons (.int .i64) (.cons (.int .i64) (.cons (.int .i64) (.cons .str (.cons (.int .i64) .nil))))))) (.cons (.int .i64) .nil))))) (.agg (.cons (.ro (.list 5 (.int .u8))) (.cons (.ro (.int .i64)) (.cons (.h 10) (.cons (.ro (.int .i64)) .nil))))))), (10, (.sl 170 (.st (.cons (.int .i64) (.cons (.int .i64) (.cons (.int .i64) (.cons .str (.cons (.int .i64) .nil))))))))]⟩
def f214s4 : SS := ⟨[(0, (.p 0)), (1, (.ro (.int .i64))), (2, (.ro (.int .i64))), (7, (.ro (.int .i64))), (8, (.ro (.int .i64)))], [(0, (.box (.st (.cons (.list 5 (.int .u8)) (.cons (.int .i64) (.cons (.list 170 (.st (.cons (.int .i64) (.cons (.int .i64) (.cons (.int .i64) (.cons .str (.cons (.int .i64) .nil))))))) (.cons (.int .i64) .nil))))) (.agg (.cons (.ro (.list 5 (.int .u8))) (.cons (.ro (.int .i64)) (.cons (.h 10) (.cons (.ro (.int .i64)) .nil))))))), (10, (.sl 170 (.st (.cons (.int .i64) (.cons (.int .i64) (.cons (.int .i64) (.cons .str (.cons (.int .i64) .nil))))))))]⟩
def f214con (F : Int → Int → TTreeReaderB → (List TNode) → Option (Unit × TTreeReaderB × (List TNode))) : Con := ⟨f214in, f214out, 3, 0, fun x => F x.1.2.1 x.1.2.2 x.2.1 x.2.2⟩
def f215in : SS := ⟨[(0, (.p 0)), (1, (.ro (.int .i64))), (2, (.ro (.int .i64)))], [(0, (.box (.st (.cons (.list 5 (.int .u8)) (.cons (.int .i64) (.cons (.list 170 (.st (.cons (.int .i64) (.cons (.int .i64) (.cons (.int .i64) (.cons .str (.cons (.int .i64) .nil))))))) (.cons (.int .i64) .nil))))) (.agg (.cons (.ro (.list 5 (.int .u8))) (.cons (.ro (.int .i64)) (.cons (.h 10) (.cons (.ro (.int .i64)) .nil))))))), (10, (.sl 170 (.st (.cons (.int .i64) (.cons (.int .i64) (.cons (.int .i64) (.cons .str (.cons (.int .i64) .nil))))))))]⟩
def f215out : SS := ⟨[], [(0, (.box (.st (.cons (.list 5 (.int .u8)) (.cons (.int .i64) (.cons (.list 170 (.st (.cons (.int .i64) (.cons (.int .i64) (.cons (.int .i64) (.cons .str (.cons (.int .i64) .nil))))))) (.cons (.int .i64) .nil))))) (.agg (.cons (.ro (.list 5 (.int .u8))) (.cons (.ro (.int .i64)) (.cons (.h 100) (.cons (.ro (.int .i64)) .nil))))))), (100, (.sl 170 (.st (.cons (.int .i64) (.cons (.int .i64) (.cons (.int .i64) (.cons .str (.cons (.int .i64) .nil))))))))]⟩
def f215s12 : SS := ⟨[(0, (.p 0)), (1, (.ro (.int .i64))), (2, (.ro (.int .i64))), (8, (.ro (.int .i64))), (9, (.ro (.int .i64)))], [(0, (.box (.st (.cons (.list 5 (.int .u8)) (.cons (.int .i64) (.cons (.list 170 (.st (.cons (.int .i64) (.cons (.int .i64) (.cons (.int .i64) (.cons .str (.cons (.int .i64) .nil))))))) (.cons (.int .i64) .nil))))) (.agg (.cons (.ro (.list 5 (.int .u8))) (.cons (.ro (.int .i64)) (.cons (.h 100) (.cons (.ro (.int .i64)) .nil))))))), (100, (.sl 170 (.st (.cons (.int .i64) (.cons (.int .i64) (.cons (.int .i64) (.cons .str (.cons (.int .i64) .nil))))))))]⟩
def f215s10 : SS := ⟨[(0, (.p 0)), (1, (.ro (.int .i64))), (2, (.ro (.int .i64))), (6, (.ro (.int .i64))), (8, (.ro (.int .i64))), (9, (.ro (.int .i64)))], [(0, (.box (.st (.cons (.list 5 (.int .u8)) (.cons (.int .i64) (.cons (.list 170 (.st (.cons (.int .i64) (.cons (.int .i64) (.cons (.int .i64) (.cons .str (.cons (.int .i64) .nil))))))) (.cons (.int .i64) .nil))))) (.agg (.cons (.ro (.list 5 (.int .u8))) (.cons (.ro (.int .i64)) (.cons (.h 100) (.cons (.ro (.int .i64)) .nil))))))), (100, (.sl 170 (.st (.cons (.int .i64) (.cons (.int .i64) (.cons (.int .i64) (.cons .str (.cons (.int .i64) .nil))))))))]⟩
def f215s8 : SS := ⟨[(0, (.p 0)), (1, (.ro (.int .i64))), (2, (.ro (.int .i64))), (6, (.ro (.int .i64))), (8, (.ro (.int .i64))), (9, (.ro (.int .i64)))], [(0, (.box (.st (.cons (.list 5 (.int .u8)) (.cons (.int .i64) (.cons (.list 170 (.st (.cons (.int .i64) (.cons (.int .i64) (.cons (.int .i64) (.cons .str (.cons (.int .i64) .nil))))))) (.cons (.int .i64) .nil))))) (.agg (.cons (.ro (.list 5 (.int .u8))) (.cons (.ro (.int .i64)) (.cons (.h 100) (.cons (.ro (.int .i64)) .nil))))))), (100, (.sl 170 (.st (.cons (.int .i64) (.cons (.int .i64) (.cons (.int .i64) (.cons .str (.cons (.int .i64) .nil))))))))]⟩
def f215s6 : SS := ⟨[(0, (.p 0)), (1, (.ro (.int .i64))), (2, (.ro (.int .i64))), (6, (.ro (.int .i64))), (7, (.ro (.int .i64))), (8, (.ro (.int .i64))), (9, (.ro (.int .i64)))], [(0, (.box (.st (.cons (.list 5 (.int .u8)) (.cons (.int .i64) (.cons (.list 170 (.st (.cons (.int .i64) (.cons (.int .i64) (.cons (.int .i64) (.cons .str (.cons (.int .i64) .nil))))))) (.cons (.int .i64) .nil))))) (.agg (.cons (.ro (.list 5 (.int .u8))) (.cons (.ro (.int .i64)) (.cons (.h 100) (.cons (.ro (.int .i64)) .nil))))))), (100, (.sl 170 (.st (.cons (.int .i64) (.cons (.int .i64) (.cons (.int .i64) (.cons .str (.cons (.int .i64) .nil))))))))]⟩
def f215s1 : SS := ⟨[(0, (.p 0)), (1, (.ro (.int .i64))), (2, (.ro (.int .i64))), (6, (.ro (.int .i64)))], [(0, (.box (.st (.cons (.list 5 (.int .u8)) (.cons (.int .i64) (.cons (.list 170 (.st (.cons (.int .i64) (.cons (.int .i64) (.cons (.int .i64) (.cons .str (.cons (.int .i64) .nil))))))) (.cons (.int .i64) .nil))))) (.agg (.cons (.ro (.list 5 (.int .u8))) (.cons (.ro (.int .i64)) (.cons (.h 100) (.cons (.ro (.int .i64)) .nil))))))), (100, (.sl 170 (.st (.cons (.int .i64) (.cons (.int .i64) (.cons (.int .i64) (.cons .str (.cons (.int .i64) .nil))))))))]⟩
def f215con (F : Int → Int → TTreeReaderB → (List TNode) → Option (Unit × TTreeReaderB × (List TNode))) : Con := ⟨f215in, f215out, 3, 0, fun x => F x.1.2.1 x.1.2.2 x.2.1 x.2.2⟩
def f111ctx (k : Nat) (S111 : Int → Int → Int → TTreeReaderB → (List TNode) → Option (Unit × TTreeReaderB × (List TNode))) (S214 : Int → Int → TTreeReaderB → (List TNode) → Option (Unit × TTreeReaderB × (List TNode))) (S215 : Int → Int → TTreeReaderB → (List TNode) → Option (Unit × TTreeReaderB × (List TNode))) : Ctx := ⟨tyAt tys, conAt [(208, [f208con (impl_treeReader_begin k)]), (209, [f209con (impl_Zag k)]), (210, [f210con (impl_treeReader_uvar k)]), (211, [f211con (impl_isInt32 k)]), (212, [f212con (impl_treeReader_fail k)]), (213, [f213con (impl_treeReader_text k)]), (214, [f214con S214]), (215, [f215con S215])], 75, fun _ => false⟩
theorem f111hc (k : Nat) (S111 : Int → Int → Int → TTreeReaderB → (List TNode) → Option (Unit × TTreeReaderB × (List TNode))) (S214 : Int → Int → TTreeReaderB → (List TNode) → Option (Unit × TTreeReaderB × (List TNode))) (S215 : Int → Int → TTreeReaderB → (List TNode) → Option (Unit × TTreeReaderB × (List TNode))) (h111 : FnOk Try.prog 111 (f111con S111)) (h214 : FnOk Try.prog 214 (f214con S214)) (h215 : FnOk Try.prog 215 (f215con S215)) : CtxOk Try.prog (f111ctx k S111 S214 S215) := ctxOk tys_ok mixed_ok (consOk_cons (f208ok k) (consOk_cons (f209ok k) (consOk_cons (f210ok k) (consOk_cons (f211ok k) (consOk_cons (f212ok k) (consOk_cons (f213ok k) (consOk_cons (h214) (consOk_cons (h215) (consOk_nil)))))))))
theorem f111okb (k : Nat) (S111 : Int → Int → Int → TTreeReaderB → (List TNode) → Option (Unit × TTreeReaderB × (List TNode))) (S214 : Int → Int → TTreeReaderB → (List TNode) → Option (Unit × TTreeReaderB × (List TNode))) (S215 : Int → Int → TTreeReaderB → (List TNode) → Option (Unit × TTreeReaderB × (List TNode))) (h111 : FnOk Try.prog 111 (f111con S111)) (h214 : FnOk Try.prog 214 (f214con S214)) (h215 : FnOk Try.prog 215 (f215con S215)) : FnOk Try.prog 111 (f111con (impl_treeReader_node.b k S111 S214 S215)) :=
  let hc := f111hc k S111 S214 S215 h111 h214 h215
  fnOk (fn := Try.f111) (code := bodyOf Try.f111) (res := []) hc (by kernel_rfl) (by kernel_rfl) (by decide) (by kernel_rfl) (by kernel_rfl) (by kernel_rfl) (Nat.le_of_ble_eq_true (by kernel_rfl)) _
    (fun x => Snd.seq (by kernel_rfl) (Snd.seq (by kernel_rfl) (Snd.seq (by kernel_rfl) (Snd.block (id := 0) (by kernel_rfl) (Snd.seq (by kernel_rfl) (Snd.cut (Snd.cond (x := .tmp 22) (by kernel_rfl) (Snd.seq (by kernel_rfl) (Snd.seq (by kernel_rfl) (Snd.cut (Snd.exec hc _ _ _ _) ⟨f111s8, fun x => impl_treeReader_node.c8 k x.1.2.1 x.1.2.2 x.2.1 x.2.2⟩ (fun x => by kernel_rfl)) (Snd.exec hc _ _ _ _)) (Snd.exec hc _ _ _ _)) (Snd.seq (by kernel_rfl) (Snd.cond (x := .tmp 52) (by kernel_rfl) (Snd.fork hc (id := 10) (by kernel_rfl) ⟨f111d10, fun x => impl_treeReader_node.d10 k x.1.2 x.2.1 x.2.2⟩ [[0, 1, 2, 4, 5, 3, 6, 7, 8, 9], [0, 1, 2, 4, 5, 6, 3, 7, 8, 9]] (by kernel_rfl) (ords_cons (fun x => by kernel_rfl) (ords_cons (fun x => by kernel_rfl) (ords_nil)))) (Snd.exec hc _ _ _ _)) (Snd.exec hc _ _ _ _))) ⟨f111s5, fun x => impl_treeReader_node.c5 k S214 S215 x.1.2.1 x.1.2.2.1 x.1.2.2.2.1 x.1.2.2.2.2.1 x.1.2.2.2.2.2 x.2.1 x.2.2⟩ (fun x => by kernel_rfl)) (Snd.exec hc _ _ _ _))) (Snd.exec hc _ _ _ _)) (Snd.exec hc _ _ _ _)) (Snd.exec hc _ _ _ _))
    (fun x => by kernel_rfl)
def f214ctx (k : Nat) (S111 : Int → Int → Int → TTreeReaderB → (List TNode) → Option (Unit × TTreeReaderB × (List TNode))) (S214 : Int → Int → TTreeReaderB → (List TNode) → Option (Unit × TTreeReaderB × (List TNode))) (S215 : Int → Int → TTreeReaderB → (List TNode) → Option (Unit × TTreeReaderB × (List TNode))) : Ctx := ⟨tyAt tys, conAt [(105, [f105con (impl_within k)]), (111, [f111con S111]), (210, [f210con (impl_treeReader_uvar k)]), (212, [f212con (impl_treeReader_fail k)]), (304, [f304con (impl_treeReader_one k)]), (305, [f305con (impl_isType k)])], 72, fun _ => false⟩
theorem f214hc (k : Nat) (S111 : Int → Int → Int → TTreeReaderB → (List TNode) → Option (Unit × TTreeReaderB × (List TNode))) (S214 : Int → Int → TTreeReaderB → (List TNode) → Option (Unit × TTreeReaderB × (List TNode))) (S215 : Int → Int → TTreeReaderB → (List TNode) → Option (Unit × TTreeReaderB × (List TNode))) (h111 : FnOk Try.prog 111 (f111con S111)) (h214 : FnOk Try.prog 214 (f214con S214)) (h215 : FnOk Try.prog 215 (f215con S215)) : CtxOk Try.prog (f214ctx k S111 S214 S215) := ctxOk tys_ok mixed_ok (consOk_cons (f105ok k) (consOk_cons (h111) (consOk_cons (f210ok k) (consOk_cons (f212ok k) (consOk_cons (f304ok k) (consOk_cons (f305ok k) (consOk_nil)))))))
theorem f214okb (k : Nat) (S111 : Int → Int → Int → TTreeReaderB → (List TNode) → Option (Unit × TTreeReaderB × (List TNode))) (S214 : Int → Int → TTreeReaderB → (List TNode) → Option (Unit × TTreeReaderB × (List TNode))) (S215 : Int → Int → TTreeReaderB → (List TNode) → Option (Unit × TTreeReaderB × (List TNode))) (h111 : FnOk Try.prog 111 (f111con S111)) (h214 : FnOk Try.prog 214 (f214con S214)) (h215 : FnOk Try.prog 215 (f215con S215)) : FnOk Try.prog 214 (f214con (impl_treeReader_parts.b k S111 S214 S215)) :=
  let hc := f214hc k S111 S214 S215 h111 h214 h215
  fnOk (fn := Try.f214) (code := bodyOf Try.f214) (res := []) hc (by kernel_rfl) (by kernel_rfl) (by decide) (by kernel_rfl) (by kernel_rfl) (by kernel_rfl) (Nat.le_of_ble_eq_true (by kernel_rfl)) _
    (fun x => Snd.seq (by kernel_rfl) (Snd.seq (by kernel_rfl) (Snd.seq (by kernel_rfl) (Snd.cut (Snd.seq (by kernel_rfl) (Snd.seq (by kernel_rfl) (Snd.cut (Snd.seq (by kernel_rfl) (Snd.cut (Snd.seq (by kernel_rfl) (Snd.seq (by kernel_rfl) (Snd.block (id := 0) (by kernel_rfl) (Snd.loop' (by kernel_rfl) f214s11 (fun n x => impl_treeReader_parts.l11 k S111 n x.1.2.1 x.1.2.2.1 x.1.2.2.2.1 x.1.2.2.2.2 x.2.1 x.2.2) _ (fun _ => rfl) (fun n11 => Snd.exec hc _ _ _ _) (fun n x => by kernel_rfl) k)) (Snd.exec hc _ _ _ _)) (Snd.exec hc _ _ _ _)) ⟨f214s9, fun x => impl_treeReader_parts.c9 k S111 x.1.2.1 x.1.2.2.1 x.1.2.2.2.1 x.1.2.2.2.2 x.2.1 x.2.2⟩ (fun x => by kernel_rfl)) (Snd.exec hc _ _ _ _)) ⟨f214s7, fun x => impl_treeReader_parts.c7 k S111 x.1.2.1 x.1.2.2.1 x.1.2.2.2.1 x.1.2.2.2.2 x.2.1 x.2.2⟩ (fun x => by kernel_rfl)) (Snd.exec hc _ _ _ _)) (Snd.exec hc _ _ _ _)) ⟨f214s4, fun x => impl_treeReader_parts.c4 k S111 x.1.2.1 x.1.2.2.1 x.1.2.2.2.1 x.1.2.2.2.2 x.2.1 x.2.2⟩ (fun x => by kernel_rfl)) (Snd.exec hc _ _ _ _)) (Snd.exec hc _ _ _ _)) (Snd.exec hc _ _ _ _))
    (fun x => by kernel_rfl)
def f215ctx (k : Nat) (S111 : Int → Int → Int → TTreeReaderB → (List TNode) → Option (Unit × TTreeReaderB × (List TNode))) (S214 : Int → Int → TTreeReaderB → (List TNode) → Option (Unit × TTreeReaderB × (List TNode))) (S215 : Int → Int → TTreeReaderB → (List TNode) → Option (Unit × TTreeReaderB × (List TNode))) : Ctx := ⟨tyAt tys, conAt [(105, [f105con (impl_within k)]), (111, [f111con S111]), (209, [f209con (impl_Zag k)]), (210, [f210con (impl_treeReader_uvar k)]), (212, [f212con (impl_treeReader_fail k)]), (304, [f304con (impl_treeReader_one k)]), (305, [f305con (impl_isType k)])], 84, fun _ => false⟩
theorem f215hc (k : Nat) (S111 : Int → Int → Int → TTreeReaderB → (List TNode) → Option (Unit × TTreeReaderB × (List TNode))) (S214 : Int → Int → TTreeReaderB → (List TNode) → Option (Unit × TTreeReaderB × (List TNode))) (S215 : Int → Int → TTreeReaderB → (List TNode) → Option (Unit × TTreeReaderB × (List TNode))) (h111 : FnOk Try.prog 111 (f111con S111)) (h214 : FnOk Try.prog 214 (f214con S214)) (h215 : FnOk Try.prog 215 (f215con S215)) : CtxOk Try.prog (f215ctx k S111 S214 S215) := ctxOk tys_ok mixed_ok (consOk_cons (f105ok k) (consOk_cons (h111) (consOk_cons (f209ok k) (consOk_cons (f210ok k) (consOk_cons (f212ok k) (consOk_cons (f304ok k) (consOk_cons (f305ok k) (consOk_nil))))))))
theorem f215okb (k : Nat) (S111 : Int → Int → Int → TTreeReaderB → (List TNode) → Option (Unit × TTreeReaderB × (List TNode))) (S214 : Int → Int → TTreeReaderB → (List TNode) → Option (Unit × TTreeReaderB × (List TNode))) (S215 : Int → Int → TTreeReaderB → (List TNode) → Option (Unit × TTreeReaderB × (List TNode))) (h111 : FnOk Try.prog 111 (f111con S111)) (h214 : FnOk Try.prog 214 (f214con S214)) (h215 : FnOk Try.prog 215 (f215con S215)) : FnOk Try.prog 215 (f215con (impl_treeReader_fields.b k S111 S214 S215)) :=
  let hc := f215hc k S111 S214 S215 h111 h214 h215
  fnOk (fn := Try.f215) (code := bodyOf Try.f215) (res := []) hc (by kernel_rfl) (by kernel_rfl) (by decide) (by kernel_rfl) (by kernel_rfl) (by kernel_rfl) (Nat.le_of_ble_eq_true (by kernel_rfl)) _
    (fun x => Snd.seq (by kernel_rfl) (Snd.block (id := 0) (by kernel_rfl) (Snd.loop' (by kernel_rfl) f215s1 (fun n x => impl_treeReader_fields.l1 k S111 n x.1.2.1 x.1.2.2.1 x.1.2.2.2 x.2.1 x.2.2) _ (fun _ => rfl) (fun n1 => Snd.block (id := 1) (by kernel_rfl) (Snd.seq (by kernel_rfl) (Snd.seq (by kernel_rfl) (Snd.seq (by kernel_rfl) (Snd.seq (by kernel_rfl) (Snd.cut (Snd.seq (by kernel_rfl) (Snd.cut (Snd.seq (by kernel_rfl) (Snd.cut (Snd.seq (by kernel_rfl) (Snd.cut (Snd.exec hc _ _ _ _) ⟨f215s12, fun x => impl_treeReader_fields.c12 k S111 (impl_treeReader_fields.l1 k S111 n1) x.1.2.1 x.1.2.2.1 x.1.2.2.2.1 x.1.2.2.2.2 x.2.1 x.2.2⟩ (fun x => by kernel_rfl)) (Snd.exec hc _ _ _ _)) ⟨f215s10, fun x => impl_treeReader_fields.c10 k S111 (impl_treeReader_fields.l1 k S111 n1) x.1.2.1 x.1.2.2.1 x.1.2.2.2.1 x.1.2.2.2.2.1 x.1.2.2.2.2.2 x.2.1 x.2.2⟩ (fun x => by kernel_rfl)) (Snd.exec hc _ _ _ _)) ⟨f215s8, fun x => impl_treeReader_fields.c8 k S111 (impl_treeReader_fields.l1 k S111 n1) x.1.2.1 x.1.2.2.1 x.1.2.2.2.1 x.1.2.2.2.2.1 x.1.2.2.2.2.2 x.2.1 x.2.2⟩ (fun x => by kernel_rfl)) (Snd.exec hc _ _ _ _)) ⟨f215s6, fun x => impl_treeReader_fields.c6 k S111 (impl_treeReader_fields.l1 k S111 n1) x.1.2.1 x.1.2.2.1 x.1.2.2.2.1 x.1.2.2.2.2.1 x.1.2.2.2.2.2.1 x.1.2.2.2.2.2.2 x.2.1 x.2.2⟩ (fun x => by kernel_rfl)) (Snd.exec hc _ _ _ _)) (Snd.exec hc _ _ _ _)) (Snd.exec hc _ _ _ _)) (Snd.exec hc _ _ _ _))) (fun n x => by kernel_rfl) k)) (Snd.exec hc _ _ _ _))
    (fun x => by kernel_rfl)
theorem f111rec (k : Nat) : ∀ d, FnOk Try.prog 111 (f111con (impl_treeReader_node.d k d)) ∧ FnOk Try.prog 214 (f214con (impl_treeReader_parts.d k d)) ∧ FnOk Try.prog 215 (f215con (impl_treeReader_fields.d k d))
  | 0 => ⟨FnOk_none (fun _ => rfl), FnOk_none (fun _ => rfl), FnOk_none (fun _ => rfl)⟩
  | d + 1 => let ih := f111rec k d
    ⟨f111okb k (impl_treeReader_node.d k d) (impl_treeReader_parts.d k d) (impl_treeReader_fields.d k d) ih.1 ih.2.1 ih.2.2, f214okb k (impl_treeReader_node.d k d) (impl_treeReader_parts.d k d) (impl_treeReader_fields.d k d) ih.1 ih.2.1 ih.2.2, f215okb k (impl_treeReader_node.d k d) (impl_treeReader_parts.d k d) (impl_treeReader_fields.d k d) ih.1 ih.2.1 ih.2.2⟩
theorem f111ok (k : Nat) : FnOk Try.prog 111 (f111con (impl_treeReader_node k)) := (f111rec k k).1
theorem f214ok (k : Nat) : FnOk Try.prog 214 (f214con (impl_treeReader_parts k)) := (f111rec k k).2.1
theorem f215ok (k : Nat) : FnOk Try.prog 215 (f215con (impl_treeReader_fields k)) := (f111rec k k).2.2

def f31in : SS := ⟨[(0, (.ro (.list 5 (.int .u8)))), (1, (.ro (.int .i64)))], []⟩
def f31out : SS := ⟨[(0, (.h 100)), (1, (.ro (.int .i64))), (2, (.ro (.int .i64)))], [(100, (.sl 170 (.st (.cons (.int .i64) (.cons (.int .i64) (.cons (.int .i64) (.cons .str (.cons (.int .i64) .nil))))))))]⟩
def f31con (F : (List Int) → Int → Option ((Unit × Int × Int) × (List TNode))) : Con := ⟨f31in, f31out, 2, 3, fun x => F x.1 x.2⟩
def f31ctx (k : Nat) : Ctx := ⟨tyAt tys, conAt [(105, [f105con (impl_within k)]), (111, [f111con (impl_treeReader_node k)])], 37, fun _ => false⟩
theorem f31hc (k : Nat) : CtxOk Try.prog (f31ctx k) := ctxOk tys_ok mixed_ok (consOk_cons (f105ok k) (consOk_cons (f111ok k) (consOk_nil)))
theorem f31ok (k : Nat) : FnOk Try.prog 31 (f31con (impl_TreeRead k)) :=
  let hc := f31hc k
  fnOk (fn := Try.f31) (code := bodyOf Try.f31) (res := [.tmp 4, .tmp 5, .tmp 6]) hc (by kernel_rfl) (by kernel_rfl) (by decide) (by kernel_rfl) (by kernel_rfl) (by kernel_rfl) (Nat.le_of_ble_eq_true (by kernel_rfl)) _
    (fun x => Snd.exec hc _ _ _ _)
    (fun x => by kernel_rfl)

def f306in : SS := ⟨[(0, (.ro (.list 5 (.int .u8)))), (1, (.ro (.int .i64)))], []⟩
def f306out : SS := ⟨[(0, (.ro (.int .i64))), (1, (.ro (.int .i64))), (2, (.ro .bool))], []⟩
def f306s5 : SS := ⟨[(0, (.ro (.list 5 (.int .u8)))), (1, (.ro (.int .i64))), (7, (.ro (.int .i64))), (8, (.ro (.int .i64)))], []⟩
def f306con (F : (List Int) → Int → Option (Int × Int × Bool)) : Con := ⟨f306in, f306out, 2, 3, fun x => F x.1 x.2⟩
def f306ctx (k : Nat) : Ctx := ⟨tyAt tys, conAt [], 57, fun _ => false⟩
theorem f306hc (k : Nat) : CtxOk Try.prog (f306ctx k) := ctxOk tys_ok mixed_ok (consOk_nil)
theorem f306ok (k : Nat) : FnOk Try.prog 306 (f306con (spec_UvarGet k)) :=
  let hc := f306hc k
  fnOk (fn := Try.f306) (code := bodyOf Try.f306) (res := [.tmp 4, .tmp 5, .tmp 6]) hc (by kernel_rfl) (by kernel_rfl) (by decide) (by kernel_rfl) (by kernel_rfl) (by kernel_rfl) (Nat.le_of_ble_eq_true (by kernel_rfl)) _
    (fun x => Snd.seq (by kernel_rfl) (Snd.seq (by kernel_rfl) (Snd.seq (by kernel_rfl) (Snd.seq (by kernel_rfl) (Snd.exec hc _ _ _ _) (Snd.seq (by kernel_rfl) (Snd.block (id := 0) (by kernel_rfl) (Snd.loop' (by kernel_rfl) f306s5 (fun n x => spec_UvarGet.l5 k n x.1 x.2.1 x.2.2.1 x.2.2.2) _ (fun _ => rfl) (fun n5 => Snd.exec hc _ _ _ _) (fun n x => by kernel_rfl) k)) (Snd.exec hc _ _ _ _))) (Snd.exec hc _ _ _ _)) (Snd.exec hc _ _ _ _)) (Snd.exec hc _ _ _ _))
    (fun x => by kernel_rfl)

def f307in : SS := ⟨[(0, (.ro (.int .i64)))], []⟩
def f307out : SS := ⟨[(0, (.ro (.int .i64)))], []⟩
def f307con (F : Int → Option Int) : Con := ⟨f307in, f307out, 1, 1, fun x => F x⟩
def f307ctx (k : Nat) : Ctx := ⟨tyAt tys, conAt [(316, [f316con (spec_l2Down k)])], 11, fun _ => false⟩
theorem f307hc (k : Nat) : CtxOk Try.prog (f307ctx k) := ctxOk tys_ok mixed_ok (consOk_cons (f316ok k) (consOk_nil))
theorem f307ok (k : Nat) : FnOk Try.prog 307 (f307con (spec_Zag k)) :=
  let hc := f307hc k
  fnOk (fn := Try.f307) (code := bodyOf Try.f307) (res := [.tmp 2]) hc (by kernel_rfl) (by kernel_rfl) (by decide) (by kernel_rfl) (by kernel_rfl) (by kernel_rfl) (Nat.le_of_ble_eq_true (by kernel_rfl)) _
    (fun x => Snd.exec hc _ _ _ _)
    (fun x => by kernel_rfl)

def f216in : SS := ⟨[(0, (.ro (.list 5 (.int .u8)))), (1, (.ro (.int .i64)))], []⟩
def f216out : SS := ⟨[(0, (.ro (.int .i64))), (1, (.ro (.int .i64))), (2, (.ro .bool))], []⟩
def f216con (F : (List Int) → Int → Option (Int × Int × Bool)) : Con := ⟨f216in, f216out, 2, 3, fun x => F x.1 x.2⟩
def f216ctx (k : Nat) : Ctx := ⟨tyAt tys, conAt [(306, [f306con (spec_UvarGet k)]), (307, [f307con (spec_Zag k)])], 22, fun _ => false⟩
theorem f216hc (k : Nat) : CtxOk Try.prog (f216ctx k) := ctxOk tys_ok mixed_ok (consOk_cons (f306ok k) (consOk_cons (f307ok k) (consOk_nil)))
theorem f216ok (k : Nat) : FnOk Try.prog 216 (f216con (spec_ZigGet k)) :=
  let hc := f216hc k
  fnOk (fn := Try.f216) (code := bodyOf Try.f216) (res := [.tmp 4, .tmp 5, .tmp 6]) hc (by kernel_rfl) (by kernel_rfl) (by decide) (by kernel_rfl) (by kernel_rfl) (by kernel_rfl) (Nat.le_of_ble_eq_true (by kernel_rfl)) _
    (fun x => Snd.exec hc _ _ _ _)
    (fun x => by kernel_rfl)

def f218in : SS := ⟨[(0, (.ro (.list 5 (.int .u8)))), (1, (.ro (.int .i64)))], []⟩
def f218out : SS := ⟨[(0, (.ro .str)), (1, (.ro (.int .i64))), (2, (.ro (.int .i64)))], []⟩
def f218con (F : (List Int) → Int → Option (ByteArray × Int × Int)) : Con := ⟨f218in, f218out, 2, 3, fun x => F x.1 x.2⟩
def f218ctx (k : Nat) : Ctx := ⟨tyAt tys, conAt [(306, [f306con (spec_UvarGet k)])], 44, fun _ => false⟩
theorem f218hc (k : Nat) : CtxOk Try.prog (f218ctx k) := ctxOk tys_ok mixed_ok (consOk_cons (f306ok k) (consOk_nil))
theorem f218ok (k : Nat) : FnOk Try.prog 218 (f218con (spec_l4Text k)) :=
  let hc := f218hc k
  fnOk (fn := Try.f218) (code := bodyOf Try.f218) (res := [.tmp 4, .tmp 5, .tmp 6]) hc (by kernel_rfl) (by kernel_rfl) (by decide) (by kernel_rfl) (by kernel_rfl) (by kernel_rfl) (Nat.le_of_ble_eq_true (by kernel_rfl)) _
    (fun x => Snd.exec hc _ _ _ _)
    (fun x => by kernel_rfl)

def f219in : SS := ⟨[(0, (.ro (.list 5 (.int .u8)))), (1, (.ro (.int .i64)))], []⟩
def f219out : SS := ⟨[(0, (.ro (.int .i64))), (1, (.ro (.int .i64))), (2, (.ro (.int .i64))), (3, (.ro (.int .i64)))], []⟩
def f219s11 : SS := ⟨[(1, (.ro (.int .i64))), (8, (.ro (.int .i64))), (9, (.ro (.int .i64)))], []⟩
def f219con (F : (List Int) → Int → Option (Int × Int × Int × Int)) : Con := ⟨f219in, f219out, 2, 4, fun x => F x.1 x.2⟩
def f219ctx (k : Nat) : Ctx := ⟨tyAt tys, conAt [(306, [f306con (spec_UvarGet k)]), (308, [f308con (spec_l4Item k)])], 62, fun _ => false⟩
theorem f219hc (k : Nat) : CtxOk Try.prog (f219ctx k) := ctxOk tys_ok mixed_ok (consOk_cons (f306ok k) (consOk_cons (f308ok k) (consOk_nil)))
theorem f219ok (k : Nat) : FnOk Try.prog 219 (f219con (spec_l4Many k)) :=
  let hc := f219hc k
  fnOk (fn := Try.f219) (code := bodyOf Try.f219) (res := [.tmp 4, .tmp 5, .tmp 6, .tmp 7]) hc (by kernel_rfl) (by kernel_rfl) (by decide) (by kernel_rfl) (by kernel_rfl) (by kernel_rfl) (Nat.le_of_ble_eq_true (by kernel_rfl)) _
    (fun x => Snd.seq (by kernel_rfl) (Snd.seq (by kernel_rfl) (Snd.seq (by kernel_rfl) (Snd.seq (by kernel_rfl) (Snd.seq (by kernel_rfl) (Snd.cut (Snd.exec hc _ _ _ _) ⟨f219s11, fun x => spec_l4Many.c11 k x.1 x.2.1 x.2.2⟩ (fun x => by kernel_rfl)) (Snd.exec hc _ _ _ _)) (Snd.exec hc _ _ _ _)) (Snd.exec hc _ _ _ _)) (Snd.exec hc _ _ _ _)) (Snd.exec hc _ _ _ _))
    (fun x => by kernel_rfl)

def f220in : SS := ⟨[(0, (.ro (.list 5 (.int .u8)))), (1, (.ro (.int .i64))), (2, (.ro (.int .i64)))], []⟩
def f220out : SS := ⟨[(0, (.ro (.int .i64))), (1, (.ro (.int .i64))), (2, (.ro (.int .i64))), (3, (.ro (.int .i64)))], []⟩
def f220s16 : SS := ⟨[(1, (.ro (.int .i64))), (2, (.ro (.int .i64))), (10, (.ro (.int .i64))), (12, (.ro (.int .i64)))], []⟩
def f220con (F : (List Int) → Int → Int → Option (Int × Int × Int × Int)) : Con := ⟨f220in, f220out, 3, 4, fun x => F x.1 x.2.1 x.2.2⟩
def f220ctx (k : Nat) : Ctx := ⟨tyAt tys, conAt [(101, [f101con (spec_l1In k)]), (216, [f216con (spec_ZigGet k)]), (309, [f309con (spec_l4Kind k)])], 71, fun _ => false⟩
theorem f220hc (k : Nat) : CtxOk Try.prog (f220ctx k) := ctxOk tys_ok mixed_ok (consOk_cons (f101ok k) (consOk_cons (f216ok k) (consOk_cons (f309ok k) (consOk_nil))))
theorem f220ok (k : Nat) : FnOk Try.prog 220 (f220con (spec_l4Head k)) :=
  let hc := f220hc k
  fnOk (fn := Try.f220) (code := bodyOf Try.f220) (res := [.tmp 6, .tmp 7, .tmp 8, .tmp 9]) hc (by kernel_rfl) (by kernel_rfl) (by decide) (by kernel_rfl) (by kernel_rfl) (by kernel_rfl) (Nat.le_of_ble_eq_true (by kernel_rfl)) _
    (fun x => Snd.seq (by kernel_rfl) (Snd.seq (by kernel_rfl) (Snd.seq (by kernel_rfl) (Snd.seq (by kernel_rfl) (Snd.seq (by kernel_rfl) (Snd.seq (by kernel_rfl) (Snd.seq (by kernel_rfl) (Snd.seq (by kernel_rfl) (Snd.cut (Snd.exec hc _ _ _ _) ⟨f220s16, fun x => spec_l4Head.c16 k x.1 x.2.1 x.2.2.1 x.2.2.2⟩ (fun x => by kernel_rfl)) (Snd.exec hc _ _ _ _)) (Snd.exec hc _ _ _ _)) (Snd.exec hc _ _ _ _)) (Snd.exec hc _ _ _ _)) (Snd.exec hc _ _ _ _)) (Snd.exec hc _ _ _ _)) (Snd.exec hc _ _ _ _)) (Snd.exec hc _ _ _ _))
    (fun x => by kernel_rfl)

def f112in : SS := ⟨[(0, (.ro (.list 5 (.int .u8)))), (1, (.ro (.int .i64))), (2, (.ro (.int .i64))), (3, (.ro (.int .i64))), (4, (.ro (.int .i64))), (5, (.h 10))], [(10, (.sl 170 (.st (.cons (.int .i64) (.cons (.int .i64) (.cons (.int .i64) (.cons .str (.cons (.int .i64) .nil))))))))]⟩
def f112out : SS := ⟨[(0, (.h 100)), (1, (.ro (.int .i64))), (2, (.ro (.int .i64)))], [(100, (.sl 170 (.st (.cons (.int .i64) (.cons (.int .i64) (.cons (.int .i64) (.cons .str (.cons (.int .i64) .nil))))))))]⟩
def f112s24 : SS := ⟨[(0, (.ro (.list 5 (.int .u8)))), (4, (.ro (.int .i64))), (5, (.h 100)), (22, (.ro (.int .i64))), (23, (.ro (.int .i64))), (24, (.ro (.int .i64))), (25, (.ro (.int .i64))), (26, (.ro (.int .i64)))], [(100, (.sl 170 (.st (.cons (.int .i64) (.cons (.int .i64) (.cons (.int .i64) (.cons .str (.cons (.int .i64) .nil))))))))]⟩
def f112s30 : SS := ⟨[(0, (.ro (.list 5 (.int .u8)))), (1, (.ro (.int .i64))), (4, (.ro (.int .i64))), (5, (.h 100)), (15, (.ro (.int .i64))), (27, (.ro (.int .i64))), (28, (.ro (.int .i64)))], [(100, (.sl 170 (.st (.cons (.int .i64) (.cons (.int .i64) (.cons (.int .i64) (.cons .str (.cons (.int .i64) .nil))))))))]⟩
def f112s8 : SS := ⟨[(0, (.ro (.list 5 (.int .u8)))), (1, (.ro (.int .i64))), (2, (.ro (.int .i64))), (4, (.ro (.int .i64))), (5, (.h 100)), (15, (.ro (.int .i64))), (49, (.ro (.int .i64))), (50, (.ro .bool))], [(100, (.sl 170 (.st (.cons (.int .i64) (.cons (.int .i64) (.cons (.int .i64) (.cons .str (.cons (.int .i64) .nil))))))))]⟩
def f112con (F : (List Int) → Int → Int → Int → Int → (List TNode) → Option ((Unit × Int × Int) × (List TNode))) : Con := ⟨f112in, f112out, 6, 3, fun x => F x.1.1 x.1.2.1 x.1.2.2.1 x.1.2.2.2.1 x.1.2.2.2.2.1 x.2⟩
def f112ctx (k : Nat) (S112 : (List Int) → Int → Int → Int → Int → (List TNode) → Option ((Unit × Int × Int) × (List TNode))) : Ctx := ⟨tyAt tys, conAt [(112, [f112con S112]), (216, [f216con (spec_ZigGet k)]), (217, [f217con (spec_l4Int k)]), (218, [f218con (spec_l4Text k)]), (219, [f219con (spec_l4Many k)]), (220, [f220con (spec_l4Head k)])], 183, fun _ => false⟩
theorem f112hc (k : Nat) (S112 : (List Int) → Int → Int → Int → Int → (List TNode) → Option ((Unit × Int × Int) × (List TNode))) (h112 : FnOk Try.prog 112 (f112con S112)) : CtxOk Try.prog (f112ctx k S112) := ctxOk tys_ok mixed_ok (consOk_cons (h112) (consOk_cons (f216ok k) (consOk_cons (f217ok k) (consOk_cons (f218ok k) (consOk_cons (f219ok k) (consOk_cons (f220ok k) (consOk_nil)))))))
theorem f112okb (k : Nat) (S112 : (List Int) → Int → Int → Int → Int → (List TNode) → Option ((Unit × Int × Int) × (List TNode))) (h112 : FnOk Try.prog 112 (f112con S112)) : FnOk Try.prog 112 (f112con (spec_l4Read.b k S112)) :=
  let hc := f112hc k S112 h112
  fnOk (fn := Try.f112) (code := bodyOf Try.f112) (res := [.tmp 12, .tmp 13, .tmp 14]) hc (by kernel_rfl) (by kernel_rfl) (by decide) (by kernel_rfl) (by kernel_rfl) (by kernel_rfl) (Nat.le_of_ble_eq_true (by kernel_rfl)) _
    (fun x => Snd.seq (by kernel_rfl) (Snd.seq (by kernel_rfl) (Snd.seq (by kernel_rfl) (Snd.seq (by kernel_rfl) (Snd.seq (by kernel_rfl) (Snd.exec hc _ _ _ _) (Snd.seq (by kernel_rfl) (Snd.block (id := 0) (by kernel_rfl) (Snd.seq (by kernel_rfl) (Snd.cut (Snd.cond (x := .tmp 50) (by kernel_rfl) (Snd.exec hc _ _ _ _) (Snd.seq (by kernel_rfl) (Snd.cond (x := .tmp 78) (by kernel_rfl) (Snd.exec hc _ _ _ _) (Snd.seq (by kernel_rfl) (Snd.cond (x := .tmp 95) (by kernel_rfl) (Snd.seq (by kernel_rfl) (Snd.seq (by kernel_rfl) (Snd.seq (by kernel_rfl) (Snd.seq (by kernel_rfl) (Snd.exec hc _ _ _ _) (Snd.seq (by kernel_rfl) (Snd.block (id := 1) (by kernel_rfl) (Snd.loop' (by kernel_rfl) f112s24 (fun n x => spec_l4Read.l24 k S112 n x.1.1 x.1.2.1 x.1.2.2.2.1 x.1.2.2.2.2.1 x.1.2.2.2.2.2.1 x.1.2.2.2.2.2.2.1 x.1.2.2.2.2.2.2.2 x.2) _ (fun _ => rfl) (fun n24 => Snd.exec hc _ _ _ _) (fun n x => by kernel_rfl) k)) (Snd.exec hc _ _ _ _))) (Snd.exec hc _ _ _ _)) (Snd.exec hc _ _ _ _)) (Snd.exec hc _ _ _ _)) (Snd.seq (by kernel_rfl) (Snd.cond (x := .tmp 138) (by kernel_rfl) (Snd.seq (by kernel_rfl) (Snd.block (id := 3) (by kernel_rfl) (Snd.loop' (by kernel_rfl) f112s30 (fun n x => spec_l4Read.l30 k S112 n x.1.1 x.1.2.1 x.1.2.2.1 x.1.2.2.2.2.1 x.1.2.2.2.2.2.1 x.1.2.2.2.2.2.2 x.2) _ (fun _ => rfl) (fun n30 => Snd.exec hc _ _ _ _) (fun n x => by kernel_rfl) k)) (Snd.exec hc _ _ _ _)) (Snd.exec hc _ _ _ _)) (Snd.exec hc _ _ _ _))) (Snd.exec hc _ _ _ _))) (Snd.exec hc _ _ _ _))) ⟨f112s8, fun x => spec_l4Read.c8 k S112 x.1.1 x.1.2.1 x.1.2.2.1 x.1.2.2.2.1 x.1.2.2.2.2.2.1 x.1.2.2.2.2.2.2.1 x.1.2.2.2.2.2.2.2 x.2⟩ (fun x => by kernel_rfl)) (Snd.exec hc _ _ _ _))) (Snd.exec hc _ _ _ _))) (Snd.exec hc _ _ _ _)) (Snd.exec hc _ _ _ _)) (Snd.exec hc _ _ _ _)) (Snd.exec hc _ _ _ _))
    (fun x => by kernel_rfl)
theorem f112rec (k : Nat) : ∀ d, FnOk Try.prog 112 (f112con (spec_l4Read.d k d))
  | 0 => FnOk_none (fun _ => rfl)
  | d + 1 => let ih := f112rec k d
    f112okb k (spec_l4Read.d k d) ih
theorem f112ok (k : Nat) : FnOk Try.prog 112 (f112con (spec_l4Read k)) := (f112rec k k)

def f32in : SS := ⟨[(0, (.ro (.list 5 (.int .u8)))), (1, (.ro (.int .i64)))], []⟩
def f32out : SS := ⟨[(0, (.h 100)), (1, (.ro (.int .i64))), (2, (.ro (.int .i64)))], [(100, (.sl 170 (.st (.cons (.int .i64) (.cons (.int .i64) (.cons (.int .i64) (.cons .str (.cons (.int .i64) .nil))))))))]⟩
def f32con (F : (List Int) → Int → Option ((Unit × Int × Int) × (List TNode))) : Con := ⟨f32in, f32out, 2, 3, fun x => F x.1 x.2⟩
def f32ctx (k : Nat) : Ctx := ⟨tyAt tys, conAt [(112, [f112con (spec_l4Read k)])], 34, fun _ => false⟩
theorem f32hc (k : Nat) : CtxOk Try.prog (f32ctx k) := ctxOk tys_ok mixed_ok (consOk_cons (f112ok k) (consOk_nil))
theorem f32ok (k : Nat) : FnOk Try.prog 32 (f32con (spec_TreeRead k)) :=
  let hc := f32hc k
  fnOk (fn := Try.f32) (code := bodyOf Try.f32) (res := [.tmp 4, .tmp 5, .tmp 6]) hc (by kernel_rfl) (by kernel_rfl) (by decide) (by kernel_rfl) (by kernel_rfl) (by kernel_rfl) (Nat.le_of_ble_eq_true (by kernel_rfl)) _
    (fun x => Snd.exec hc _ _ _ _)
    (fun x => by kernel_rfl)

def f310in : SS := ⟨[(0, (.ro (.st (.cons (.int .i64) (.cons (.int .i64) (.cons (.int .i64) (.cons .str (.cons (.int .i64) .nil))))))))], []⟩
def f310out : SS := ⟨[(0, (.ro .bool))], []⟩
def f310con (F : TNode → Option Bool) : Con := ⟨f310in, f310out, 1, 1, fun x => F x⟩
def f310ctx (k : Nat) : Ctx := ⟨tyAt tys, conAt [(211, [f211con (impl_isInt32 k)]), (305, [f305con (impl_isType k)])], 109, fun _ => false⟩
theorem f310hc (k : Nat) : CtxOk Try.prog (f310ctx k) := ctxOk tys_ok mixed_ok (consOk_cons (f211ok k) (consOk_cons (f305ok k) (consOk_nil)))
theorem f310ok (k : Nat) : FnOk Try.prog 310 (f310con (impl_nodeOk k)) :=
  let hc := f310hc k
  fnOk (fn := Try.f310) (code := bodyOf Try.f310) (res := [.tmp 2]) hc (by kernel_rfl) (by kernel_rfl) (by decide) (by kernel_rfl) (by kernel_rfl) (by kernel_rfl) (Nat.le_of_ble_eq_true (by kernel_rfl)) _
    (fun x => Snd.exec hc _ _ _ _)
    (fun x => by kernel_rfl)

def f221in : SS := ⟨[(0, (.p 0)), (1, (.ro (.int .i64))), (2, (.ro (.int .i64)))], [(0, (.obox (.st (.cons (.list 170 (.st (.cons (.int .i64) (.cons (.int .i64) (.cons (.int .i64) (.cons .str (.cons (.int .i64) .nil))))))) (.cons (.list 3 (.int .i64)) .nil))) (.agg (.cons (.ro (.list 170 (.st (.cons (.int .i64) (.cons (.int .i64) (.cons (.int .i64) (.cons .str (.cons (.int .i64) .nil)))))))) (.cons (.h 10) .nil))))), (10, (.sl 3 (.int .i64)))]⟩
def f221out : SS := ⟨[(0, (.ro (.int .i64)))], [(0, (.box (.st (.cons (.list 170 (.st (.cons (.int .i64) (.cons (.int .i64) (.cons (.int .i64) (.cons .str (.cons (.int .i64) .nil))))))) (.cons (.list 3 (.int .i64)) .nil))) (.agg (.cons (.ro (.list 170 (.st (.cons (.int .i64) (.cons (.int .i64) (.cons (.int .i64) (.cons .str (.cons (.int .i64) .nil)))))))) (.cons (.h 10) .nil))))), (10, (.sl 3 (.int .i64)))]⟩
def f221s7 : SS := ⟨[(0, (.p 0)), (1, (.ro (.int .i64))), (2, (.ro (.int .i64))), (7, (.p 100)), (8, (.ro (.int .i64))), (9, (.ro (.int .i64))), (43, (.ro (.int .i64))), (44, (.ro (.int .i64)))], [(0, (.box (.st (.cons (.list 170 (.st (.cons (.int .i64) (.cons (.int .i64) (.cons (.int .i64) (.cons .str (.cons (.int .i64) .nil))))))) (.cons (.list 3 (.int .i64)) .nil))) (.agg (.cons (.ro (.list 170 (.st (.cons (.int .i64) (.cons (.int .i64) (.cons (.int .i64) (.cons .str (.cons (.int .i64) .nil)))))))) (.cons (.h 10) .nil))))), (10, (.sl 3 (.int .i64))), (100, (.box (.st (.cons (.int .i64) (.cons (.int .i64) (.cons (.int .i64) (.cons .str (.cons (.int .i64) .nil)))))) (.agg (.cons (.ro (.int .i64)) (.cons (.ro (.int .i64)) (.cons (.ro (.int .i64)) (.cons (.ro .str) (.cons (.ro (.int .i64)) .nil))))))))]⟩
def f221con (F : Int → Int → (Bool × TTreeB) → (List Int) → Option (Int × TTreeB × (List Int))) : Con := ⟨f221in, f221out, 3, 1, fun x => F x.1.2.1 x.1.2.2 x.2.1 x.2.2⟩
def f221ctx (k : Nat) (S221 : Int → Int → (Bool × TTreeB) → (List Int) → Option (Int × TTreeB × (List Int))) : Ctx := ⟨tyAt tys, conAt [(105, [f105con (impl_within k)]), (221, [f221con S221]), (310, [f310con (impl_nodeOk k)])], 104, fun _ => false⟩
theorem f221hc (k : Nat) (S221 : Int → Int → (Bool × TTreeB) → (List Int) → Option (Int × TTreeB × (List Int))) (h221 : FnOk Try.prog 221 (f221con S221)) : CtxOk Try.prog (f221ctx k S221) := ctxOk tys_ok mixed_ok (consOk_cons (f105ok k) (consOk_cons (h221) (consOk_cons (f310ok k) (consOk_nil))))
theorem f221okb (k : Nat) (S221 : Int → Int → (Bool × TTreeB) → (List Int) → Option (Int × TTreeB × (List Int))) (h221 : FnOk Try.prog 221 (f221con S221)) : FnOk Try.prog 221 (f221con (impl_tree_measure.b k S221)) :=
  let hc := f221hc k S221 h221
  fnOk (fn := Try.f221) (code := bodyOf Try.f221) (res := [.tmp 6]) hc (by kernel_rfl) (by kernel_rfl) (by decide) (by kernel_rfl) (by kernel_rfl) (by kernel_rfl) (Nat.le_of_ble_eq_true (by kernel_rfl)) _
    (fun x => Snd.seq (by kernel_rfl) (Snd.seq (by kernel_rfl) (Snd.seq (by kernel_rfl) (Snd.seq (by kernel_rfl) (Snd.seq (by kernel_rfl) (Snd.seq (by kernel_rfl) (Snd.exec hc _ _ _ _) (Snd.seq (by kernel_rfl) (Snd.block (id := 0) (by kernel_rfl) (Snd.loop' (by kernel_rfl) f221s7 (fun n x => impl_tree_measure.l7 k S221 n x.1.2.1 x.1.2.2.1 x.1.2.2.2.2.1 x.1.2.2.2.2.2.1 x.1.2.2.2.2.2.2.1 x.1.2.2.2.2.2.2.2 x.2.1 x.2.2.1 x.2.2.2) _ (fun _ => rfl) (fun n7 => Snd.exec hc _ _ _ _) (fun n x => by kernel_rfl) k)) (Snd.exec hc _ _ _ _))) (Snd.exec hc _ _ _ _)) (Snd.exec hc _ _ _ _)) (Snd.exec hc _ _ _ _)) (Snd.exec hc _ _ _ _)) (Snd.exec hc _ _ _ _))
    (fun x => by kernel_rfl)
theorem f221rec (k : Nat) : ∀ d, FnOk Try.prog 221 (f221con (impl_tree_measure.d k d))
  | 0 => FnOk_none (fun _ => rfl)
  | d + 1 => let ih := f221rec k d
    f221okb k (impl_tree_measure.d k d) ih
theorem f221ok (k : Nat) : FnOk Try.prog 221 (f221con (impl_tree_measure k)) := (f221rec k k)

def f113in : SS := ⟨[(0, (.ro (.list 170 (.st (.cons (.int .i64) (.cons (.int .i64) (.cons (.int .i64) (.cons .str (.cons (.int .i64) .nil)))))))))], []⟩
def f113out : SS := ⟨[(0, (.p 100)), (1, (.ro .bool))], [(100, (.obox (.st (.cons (.list 170 (.st (.cons (.int .i64) (.cons (.int .i64) (.cons (.int .i64) (.cons .str (.cons (.int .i64) .nil))))))) (.cons (.list 3 (.int .i64)) .nil))) (.agg (.cons (.ro (.list 170 (.st (.cons (.int .i64) (.cons (.int .i64) (.cons (.int .i64) (.cons .str (.cons (.int .i64) .nil)))))))) (.cons (.h 101) .nil))))), (101, (.sl 3 (.int .i64)))]⟩
def f113con (F : (List TNode) → Option ((Unit × Bool) × (Bool × TTreeB) × (List Int))) : Con := ⟨f113in, f113out, 1, 2, fun x => F x⟩
def f113ctx (k : Nat) : Ctx := ⟨tyAt tys, conAt [(105, [f105con (impl_within k)]), (221, [f221con (impl_tree_measure k)])], 35, fun s => Nat.beq s 27⟩
theorem f113hc (k : Nat) : CtxOk Try.prog (f113ctx k) := ctxOk tys_ok mixed_ok (consOk_cons (f105ok k) (consOk_cons (f221ok k) (consOk_nil)))
theorem f113ok (k : Nat) : FnOk Try.prog 113 (f113con (impl_treeOf k)) :=
  let hc := f113hc k
  fnOk (fn := Try.f113) (code := bodyOf Try.f113) (res := [.tmp 2, .tmp 3]) hc (by kernel_rfl) (by kernel_rfl) (by decide) (by kernel_rfl) (by kernel_rfl) (by kernel_rfl) (Nat.le_of_ble_eq_true (by kernel_rfl)) _
    (fun x => Snd.exec hc _ _ _ _)
    (fun x => by kernel_rfl)

def f223in : SS := ⟨[(0, (.ro (.int .i64)))], []⟩
def f223out : SS := ⟨[(0, (.h 100))], [(100, (.sl 5 (.int .u8)))]⟩
def f223s3 : SS := ⟨[(3, (.ro (.int .u64))), (4, (.h 100))], [(100, (.sl 5 (.int .u8)))]⟩
def f223con (F : Int → Option (Unit × (List Int))) : Con := ⟨f223in, f223out, 1, 1, fun x => F x⟩
def f223ctx (k : Nat) : Ctx := ⟨tyAt tys, conAt [], 24, fun _ => false⟩
theorem f223hc (k : Nat) : CtxOk Try.prog (f223ctx k) := ctxOk tys_ok mixed_ok (consOk_nil)
theorem f223ok (k : Nat) : FnOk Try.prog 223 (f223con (impl_UvarPut k)) :=
  let hc := f223hc k
  fnOk (fn := Try.f223) (code := bodyOf Try.f223) (res := [.tmp 2]) hc (by kernel_rfl) (by kernel_rfl) (by decide) (by kernel_rfl) (by kernel_rfl) (by kernel_rfl) (Nat.le_of_ble_eq_true (by kernel_rfl)) _
    (fun x => Snd.seq (by kernel_rfl) (Snd.seq (by kernel_rfl) (Snd.seq (by kernel_rfl) (Snd.seq (by kernel_rfl) (Snd.exec hc _ _ _ _) (Snd.block (id := 0) (by kernel_rfl) (Snd.loop' (by kernel_rfl) f223s3 (fun n x => impl_UvarPut.l3 k n x.1.1 x.2) _ (fun _ => rfl) (fun n3 => Snd.exec hc _ _ _ _) (fun n x => by kernel_rfl) k))) (Snd.exec hc _ _ _ _)) (Snd.exec hc _ _ _ _)) (Snd.exec hc _ _ _ _))
    (fun x => by kernel_rfl)

def f311in : SS := ⟨[(0, (.ro (.int .i64)))], []⟩
def f311out : SS := ⟨[(0, (.ro (.int .i64)))], []⟩
def f311con (F : Int → Option Int) : Con := ⟨f311in, f311out, 1, 1, fun x => F x⟩
def f311ctx (k : Nat) : Ctx := ⟨tyAt tys, conAt [], 8, fun _ => false⟩
theorem f311hc (k : Nat) : CtxOk Try.prog (f311ctx k) := ctxOk tys_ok mixed_ok (consOk_nil)
theorem f311ok (k : Nat) : FnOk Try.prog 311 (f311con (impl_Zig k)) :=
  let hc := f311hc k
  fnOk (fn := Try.f311) (code := bodyOf Try.f311) (res := [.tmp 2]) hc (by kernel_rfl) (by kernel_rfl) (by decide) (by kernel_rfl) (by kernel_rfl) (by kernel_rfl) (Nat.le_of_ble_eq_true (by kernel_rfl)) _
    (fun x => Snd.exec hc _ _ _ _)
    (fun x => by kernel_rfl)

def f222in : SS := ⟨[(0, (.ro (.int .i64)))], []⟩
def f222out : SS := ⟨[(0, (.h 100))], [(100, (.sl 5 (.int .u8)))]⟩
def f222con (F : Int → Option (Unit × (List Int))) : Con := ⟨f222in, f222out, 1, 1, fun x => F x⟩
def f222ctx (k : Nat) : Ctx := ⟨tyAt tys, conAt [(223, [f223con (impl_UvarPut k)]), (311, [f311con (impl_Zig k)])], 6, fun _ => false⟩
theorem f222hc (k : Nat) : CtxOk Try.prog (f222ctx k) := ctxOk tys_ok mixed_ok (consOk_cons (f223ok k) (consOk_cons (f311ok k) (consOk_nil)))
theorem f222ok (k : Nat) : FnOk Try.prog 222 (f222con (impl_ZigPut k)) :=
  let hc := f222hc k
  fnOk (fn := Try.f222) (code := bodyOf Try.f222) (res := [.tmp 2]) hc (by kernel_rfl) (by kernel_rfl) (by decide) (by kernel_rfl) (by kernel_rfl) (by kernel_rfl) (Nat.le_of_ble_eq_true (by kernel_rfl)) _
    (fun x => Snd.exec hc _ _ _ _)
    (fun x => by kernel_rfl)

def f224in : SS := ⟨[(0, (.ro (.st (.cons (.int .i64) (.cons (.int .i64) (.cons (.int .i64) (.cons .str (.cons (.int .i64) .nil)))))))), (1, (.ro (.int .i64)))], []⟩
def f224out : SS := ⟨[(0, (.h 100))], [(100, (.sl 5 (.int .u8)))]⟩
def f224d4 : SS := ⟨[(2, (.p 100))], [(100, (.box (.st (.cons (.int .i64) (.cons (.int .i64) (.cons (.int .i64) (.cons .str (.cons (.int .i64) .nil)))))) (.agg (.cons (.ro (.int .i64)) (.cons (.ro (.int .i64)) (.cons (.ro (.int .i64)) (.cons (.ro .str) (.cons (.ro (.int .i64)) .nil))))))))]⟩
def f224con (F : TNode → Int → Option (Unit × (List Int))) : Con := ⟨f224in, f224out, 2, 1, fun x => F x.1 x.2⟩
def f224ctx (k : Nat) : Ctx := ⟨tyAt tys, conAt [(222, [f222con (impl_ZigPut k)])], 27, fun _ => false⟩
theorem f224hc (k : Nat) : CtxOk Try.prog (f224ctx k) := ctxOk tys_ok mixed_ok (consOk_cons (f222ok k) (consOk_nil))
theorem f224ok (k : Nat) : FnOk Try.prog 224 (f224con (impl_headOf k)) :=
  let hc := f224hc k
  fnOk (fn := Try.f224) (code := bodyOf Try.f224) (res := [.tmp 4]) hc (by kernel_rfl) (by kernel_rfl) (by decide) (by kernel_rfl) (by kernel_rfl) (by kernel_rfl) (Nat.le_of_ble_eq_true (by kernel_rfl)) _
    (fun x => Snd.seq (by kernel_rfl) (Snd.seq (by kernel_rfl) (Snd.seq (by kernel_rfl) (Snd.seq (by kernel_rfl) (Snd.exec hc _ _ _ _) (Snd.fork hc (id := 4) (by kernel_rfl) ⟨f224d4, fun x => impl_headOf.d4 k x.2⟩ [[0, 4, 1, 2, 3, 5, 6, 7, 8], [0, 4, 1, 2, 5, 3, 6, 7, 8], [0, 4, 1, 2, 5, 6, 3, 7, 8], [0, 4, 1, 5, 2, 3, 6, 7, 8], [0, 4, 1, 5, 2, 6, 3, 7, 8], [0, 4, 1, 5, 6, 2, 3, 7, 8], [0, 4, 5, 1, 2, 3, 6, 7, 8], [0, 4, 5, 1, 2, 6, 3, 7, 8], [0, 4, 5, 1, 6, 2, 3, 7, 8], [0, 4, 5, 6, 1, 2, 3, 7, 8]] (by kernel_rfl) (ords_cons (fun x => by kernel_rfl) (ords_cons (fun x => by kernel_rfl) (ords_cons (fun x => by kernel_rfl) (ords_cons (fun x => by kernel_rfl) (ords_cons (fun x => by kernel_rfl) (ords_cons (fun x => by kernel_rfl) (ords_cons (fun x => by kernel_rfl) (ords_cons (fun x => by kernel_rfl) (ords_cons (fun x => by kernel_rfl) (ords_cons (fun x => by kernel_rfl) (ords_nil))))))))))))) (Snd.exec hc _ _ _ _)) (Snd.exec hc _ _ _ _)) (Snd.exec hc _ _ _ _))
    (fun x => by kernel_rfl)

def f114in : SS := ⟨[(0, (.p 0)), (1, (.ro (.int .i64)))], [(0, (.obox (.st (.cons (.list 170 (.st (.cons (.int .i64) (.cons (.int .i64) (.cons (.int .i64) (.cons .str (.cons (.int .i64) .nil))))))) (.cons (.list 3 (.int .i64)) .nil))) (.agg (.cons (.ro (.list 170 (.st (.cons (.int .i64) (.cons (.int .i64) (.cons (.int .i64) (.cons .str (.cons (.int .i64) .nil)))))))) (.cons (.h 10) .nil))))), (10, (.sl 3 (.int .i64)))]⟩
def f114out : SS := ⟨[(0, (.h 100))], [(0, (.box (.st (.cons (.list 170 (.st (.cons (.int .i64) (.cons (.int .i64) (.cons (.int .i64) (.cons .str (.cons (.int .i64) .nil))))))) (.cons (.list 3 (.int .i64)) .nil))) (.agg (.cons (.ro (.list 170 (.st (.cons (.int .i64) (.cons (.int .i64) (.cons (.int .i64) (.cons .str (.cons (.int .i64) .nil)))))))) (.cons (.h 10) .nil))))), (10, (.sl 3 (.int .i64))), (100, (.sl 5 (.int .u8)))]⟩
def f114s26 : SS := ⟨[(6, (.h 100))], [(0, (.box (.st (.cons (.list 170 (.st (.cons (.int .i64) (.cons (.int .i64) (.cons (.int .i64) (.cons .str (.cons (.int .i64) .nil))))))) (.cons (.list 3 (.int .i64)) .nil))) (.agg (.cons (.ro (.list 170 (.st (.cons (.int .i64) (.cons (.int .i64) (.cons (.int .i64) (.cons .str (.cons (.int .i64) .nil)))))))) (.cons (.h 10) .nil))))), (10, (.sl 3 (.int .i64))), (100, (.sl 5 (.int .u8)))]⟩
def f114s20 : SS := ⟨[(0, (.p 0)), (5, (.p 100)), (6, (.h 101)), (7, (.ro (.int .i64))), (9, (.p 102)), (62, (.ro (.int .i64))), (63, (.ro (.int .i64)))], [(0, (.box (.st (.cons (.list 170 (.st (.cons (.int .i64) (.cons (.int .i64) (.cons (.int .i64) (.cons .str (.cons (.int .i64) .nil))))))) (.cons (.list 3 (.int .i64)) .nil))) (.agg (.cons (.ro (.list 170 (.st (.cons (.int .i64) (.cons (.int .i64) (.cons (.int .i64) (.cons .str (.cons (.int .i64) .nil)))))))) (.cons (.h 10) .nil))))), (10, (.sl 3 (.int .i64))), (100, (.box (.st (.cons (.int .i64) (.cons (.int .i64) (.cons (.int .i64) (.cons .str (.cons (.int .i64) .nil)))))) (.agg (.cons (.ro (.int .i64)) (.cons (.ro (.int .i64)) (.cons (.ro (.int .i64)) (.cons (.ro .str) (.cons (.ro (.int .i64)) .nil)))))))), (101, (.sl 5 (.int .u8))), (102, (.box (.st (.cons (.int .i64) (.cons (.int .i64) (.cons (.int .i64) (.cons .str (.cons (.int .i64) .nil)))))) (.agg (.cons (.ro (.int .i64)) (.cons (.ro (.int .i64)) (.cons (.ro (.int .i64)) (.cons (.ro .str) (.cons (.ro (.int .i64)) .nil))))))))]⟩
def f114s16 : SS := ⟨[(0, (.p 0)), (5, (.p 100)), (6, (.h 101)), (7, (.ro (.int .i64))), (8, (.ro (.int .i64))), (62, (.ro (.int .i64))), (63, (.ro (.int .i64)))], [(0, (.box (.st (.cons (.list 170 (.st (.cons (.int .i64) (.cons (.int .i64) (.cons (.int .i64) (.cons .str (.cons (.int .i64) .nil))))))) (.cons (.list 3 (.int .i64)) .nil))) (.agg (.cons (.ro (.list 170 (.st (.cons (.int .i64) (.cons (.int .i64) (.cons (.int .i64) (.cons .str (.cons (.int .i64) .nil)))))))) (.cons (.h 10) .nil))))), (10, (.sl 3 (.int .i64))), (100, (.box (.st (.cons (.int .i64) (.cons (.int .i64) (.cons (.int .i64) (.cons .str (.cons (.int .i64) .nil)))))) (.agg (.cons (.ro (.int .i64)) (.cons (.ro (.int .i64)) (.cons (.ro (.int .i64)) (.cons (.ro .str) (.cons (.ro (.int .i64)) .nil)))))))), (101, (.sl 5 (.int .u8)))]⟩
def f114s13 : SS := ⟨[(0, (.p 0)), (1, (.ro (.int .i64))), (5, (.p 100)), (6, (.h 101))], [(0, (.box (.st (.cons (.list 170 (.st (.cons (.int .i64) (.cons (.int .i64) (.cons (.int .i64) (.cons .str (.cons (.int .i64) .nil))))))) (.cons (.list 3 (.int .i64)) .nil))) (.agg (.cons (.ro (.list 170 (.st (.cons (.int .i64) (.cons (.int .i64) (.cons (.int .i64) (.cons .str (.cons (.int .i64) .nil)))))))) (.cons (.h 10) .nil))))), (10, (.sl 3 (.int .i64))), (100, (.box (.st (.cons (.int .i64) (.cons (.int .i64) (.cons (.int .i64) (.cons .str (.cons (.int .i64) .nil)))))) (.agg (.cons (.ro (.int .i64)) (.cons (.ro (.int .i64)) (.cons (.ro (.int .i64)) (.cons (.ro .str) (.cons (.ro (.int .i64)) .nil)))))))), (101, (.sl 5 (.int .u8)))]⟩
def f114d8 : SS := ⟨[(5, (.p 100))], [(0, (.box (.st (.cons (.list 170 (.st (.cons (.int .i64) (.cons (.int .i64) (.cons (.int .i64) (.cons .str (.cons (.int .i64) .nil))))))) (.cons (.list 3 (.int .i64)) .nil))) (.agg (.cons (.ro (.list 170 (.st (.cons (.int .i64) (.cons (.int .i64) (.cons (.int .i64) (.cons .str (.cons (.int .i64) .nil)))))))) (.cons (.h 10) .nil))))), (10, (.sl 3 (.int .i64))), (100, (.box (.st (.cons (.int .i64) (.cons (.int .i64) (.cons (.int .i64) (.cons .str (.cons (.int .i64) .nil)))))) (.agg (.cons (.ro (.int .i64)) (.cons (.ro (.int .i64)) (.cons (.ro (.int .i64)) (.cons (.ro .str) (.cons (.ro (.int .i64)) .nil))))))))]⟩
def f114d12 : SS := ⟨[(0, (.p 0)), (1, (.ro (.int .i64))), (5, (.p 100))], [(0, (.box (.st (.cons (.list 170 (.st (.cons (.int .i64) (.cons (.int .i64) (.cons (.int .i64) (.cons .str (.cons (.int .i64) .nil))))))) (.cons (.list 3 (.int .i64)) .nil))) (.agg (.cons (.ro (.list 170 (.st (.cons (.int .i64) (.cons (.int .i64) (.cons (.int .i64) (.cons .str (.cons (.int .i64) .nil)))))))) (.cons (.h 10) .nil))))), (10, (.sl 3 (.int .i64))), (100, (.box (.st (.cons (.int .i64) (.cons (.int .i64) (.cons (.int .i64) (.cons .str (.cons (.int .i64) .nil)))))) (.agg (.cons (.ro (.int .i64)) (.cons (.ro (.int .i64)) (.cons (.ro (.int .i64)) (.cons (.ro .str) (.cons (.ro (.int .i64)) .nil))))))))]⟩
def f114s6 : SS := ⟨[(0, (.p 0)), (1, (.ro (.int .i64))), (5, (.p 100)), (6, (.h 101)), (19, (.ro (.int .i64))), (20, (.ro .bool))], [(0, (.box (.st (.cons (.list 170 (.st (.cons (.int .i64) (.cons (.int .i64) (.cons (.int .i64) (.cons .str (.cons (.int .i64) .nil))))))) (.cons (.list 3 (.int .i64)) .nil))) (.agg (.cons (.ro (.list 170 (.st (.cons (.int .i64) (.cons (.int .i64) (.cons (.int .i64) (.cons .str (.cons (.int .i64) .nil)))))))) (.cons (.h 10) .nil))))), (10, (.sl 3 (.int .i64))), (100, (.box (.st (.cons (.int .i64) (.cons (.int .i64) (.cons (.int .i64) (.cons .str (.cons (.int .i64) .nil)))))) (.agg (.cons (.ro (.int .i64)) (.cons (.ro (.int .i64)) (.cons (.ro (.int .i64)) (.cons (.ro .str) (.cons (.ro (.int .i64)) .nil)))))))), (101, (.sl 5 (.int .u8)))]⟩
def f114con (F : Int → (Bool × TTreeB) → (List Int) → Option (Unit × TTreeB × (List Int) × (List Int))) : Con := ⟨f114in, f114out, 2, 1, fun x => F x.1.2 x.2.1 x.2.2⟩
def f114ctx (k : Nat) (S114 : Int → (Bool × TTreeB) → (List Int) → Option (Unit × TTreeB × (List Int) × (List Int))) : Ctx := ⟨tyAt tys, conAt [(114, [f114con S114]), (222, [f222con (impl_ZigPut k)]), (223, [f223con (impl_UvarPut k)]), (224, [f224con (impl_headOf k)])], 102, fun _ => false⟩
theorem f114hc (k : Nat) (S114 : Int → (Bool × TTreeB) → (List Int) → Option (Unit × TTreeB × (List Int) × (List Int))) (h114 : FnOk Try.prog 114 (f114con S114)) : CtxOk Try.prog (f114ctx k S114) := ctxOk tys_ok mixed_ok (consOk_cons (h114) (consOk_cons (f222ok k) (consOk_cons (f223ok k) (consOk_cons (f224ok k) (consOk_nil)))))
theorem f114okb (k : Nat) (S114 : Int → (Bool × TTreeB) → (List Int) → Option (Unit × TTreeB × (List Int) × (List Int))) (h114 : FnOk Try.prog 114 (f114con S114)) : FnOk Try.prog 114 (f114con (impl_tree_bytesOf.b k S114)) :=
  let hc := f114hc k S114 h114
  fnOk (fn := Try.f114) (code := bodyOf Try.f114) (res := [.tmp 4]) hc (by kernel_rfl) (by kernel_rfl) (by decide) (by kernel_rfl) (by kernel_rfl) (by kernel_rfl) (Nat.le_of_ble_eq_true (by kernel_rfl)) _
    (fun x => Snd.seq (by kernel_rfl) (Snd.seq (by kernel_rfl) (Snd.seq (by kernel_rfl) (Snd.seq (by kernel_rfl) (Snd.cut (Snd.seq (by kernel_rfl) (Snd.seq (by kernel_rfl) (Snd.seq (by kernel_rfl) (Snd.seq (by kernel_rfl) (Snd.cut (Snd.exec hc _ _ _ _) ⟨f114s26, fun x => impl_tree_bytesOf.c26 k x.2.1 x.2.2.1 x.2.2.2⟩ (fun x => by kernel_rfl)) (Snd.exec hc _ _ _ _)) (Snd.seq (by kernel_rfl) (Snd.block (id := 1) (by kernel_rfl) (Snd.loop' (by kernel_rfl) f114s16 (fun n x => impl_tree_bytesOf.l16 k S114 n x.1.2.2.2.1 x.1.2.2.2.2.1 x.1.2.2.2.2.2.1 x.1.2.2.2.2.2.2 x.2.1 x.2.2.1 x.2.2.2.1 x.2.2.2.2) _ (fun _ => rfl) (fun n16 => Snd.seq (by kernel_rfl) (Snd.seq (by kernel_rfl) (Snd.seq (by kernel_rfl) (Snd.exec hc _ _ _ _) (Snd.block (id := 2) (by kernel_rfl) (Snd.seq (by kernel_rfl) (Snd.seq (by kernel_rfl) (Snd.cut (Snd.exec hc _ _ _ _) ⟨f114s20, fun x => impl_tree_bytesOf.c20 k S114 (impl_tree_bytesOf.l16 k S114 n16) x.1.2.2.2.1 x.1.2.2.2.2.2.1 x.1.2.2.2.2.2.2 x.2.1 x.2.2.1 x.2.2.2.1 x.2.2.2.2.1 x.2.2.2.2.2⟩ (fun x => by kernel_rfl)) (Snd.exec hc _ _ _ _)) (Snd.exec hc _ _ _ _)))) (Snd.exec hc _ _ _ _)) (Snd.exec hc _ _ _ _)) (fun n x => by kernel_rfl) k)) (Snd.exec hc _ _ _ _))) (Snd.exec hc _ _ _ _)) (Snd.exec hc _ _ _ _)) ⟨f114s13, fun x => impl_tree_bytesOf.c13 k S114 x.1.2.1 x.2.1 x.2.2.1 x.2.2.2.1 x.2.2.2.2⟩ (fun x => by kernel_rfl)) (Snd.seq (by kernel_rfl) (Snd.block (id := 0) (by kernel_rfl) (Snd.seq (by kernel_rfl) (Snd.cut (Snd.cond (x := .tmp 20) (by kernel_rfl) (Snd.exec hc _ _ _ _) (Snd.seq (by kernel_rfl) (Snd.cond (x := .tmp 26) (by kernel_rfl) (Snd.seq (by kernel_rfl) (Snd.exec hc _ _ _ _) (Snd.fork hc (id := 8) (by kernel_rfl) ⟨f114d8, fun x => impl_tree_bytesOf.d8 k x.2.1 x.2.2.1 x.2.2.2⟩ [[0, 4, 1, 2, 3, 5, 6, 7], [0, 4, 1, 2, 5, 3, 6, 7], [0, 4, 5, 1, 2, 3, 6, 7]] (by kernel_rfl) (ords_cons (fun x => by kernel_rfl) (ords_cons (fun x => by kernel_rfl) (ords_cons (fun x => by kernel_rfl) (ords_nil)))))) (Snd.seq (by kernel_rfl) (Snd.cond (x := .tmp 35) (by kernel_rfl) (Snd.seq (by kernel_rfl) (Snd.cond (x := .tmp 39) (by kernel_rfl) (Snd.exec hc _ _ _ _) (Snd.fork hc (id := 12) (by kernel_rfl) ⟨f114d12, fun x => impl_tree_bytesOf.d12 k S114 x.1.2.1 x.2.1 x.2.2.1 x.2.2.2⟩ [[0, 5, 1, 2, 3, 4, 6, 7, 8, 9], [0, 5, 1, 2, 3, 6, 4, 7, 8, 9], [0, 5, 1, 2, 3, 6, 7, 4, 8, 9], [0, 5, 1, 2, 6, 3, 4, 7, 8, 9], [0, 5, 1, 2, 6, 3, 7, 4, 8, 9], [0, 5, 1, 2, 6, 7, 3, 4, 8, 9], [0, 5, 6, 1, 2, 3, 4, 7, 8, 9], [0, 5, 6, 1, 2, 3, 7, 4, 8, 9], [0, 5, 6, 1, 2, 7, 3, 4, 8, 9], [0, 5, 6, 7, 1, 2, 3, 4, 8, 9]] (by kernel_rfl) (ords_cons (fun x => by kernel_rfl) (ords_cons (fun x => by kernel_rfl) (ords_cons (fun x => by kernel_rfl) (ords_cons (fun x => by kernel_rfl) (ords_cons (fun x => by kernel_rfl) (ords_cons (fun x => by kernel_rfl) (ords_cons (fun x => by kernel_rfl) (ords_cons (fun x => by kernel_rfl) (ords_cons (fun x => by kernel_rfl) (ords_cons (fun x => by kernel_rfl) (ords_nil))))))))))))) (Snd.exec hc _ _ _ _)) (Snd.exec hc _ _ _ _)) (Snd.exec hc _ _ _ _))) (Snd.exec hc _ _ _ _))) ⟨f114s6, fun x => impl_tree_bytesOf.c6 k S114 x.1.2.1 x.1.2.2.2.2.1 x.1.2.2.2.2.2 x.2.1 x.2.2.1 x.2.2.2.1 x.2.2.2.2⟩ (fun x => by kernel_rfl)) (Snd.exec hc _ _ _ _))) (Snd.exec hc _ _ _ _))) (Snd.exec hc _ _ _ _)) (Snd.exec hc _ _ _ _)) (Snd.exec hc _ _ _ _))
    (fun x => by kernel_rfl)
theorem f114rec (k : Nat) : ∀ d, FnOk Try.prog 114 (f114con (impl_tree_bytesOf.d k d))
  | 0 => FnOk_none (fun _ => rfl)
  | d + 1 => let ih := f114rec k d
    f114okb k (impl_tree_bytesOf.d k d) ih
theorem f114ok (k : Nat) : FnOk Try.prog 114 (f114con (impl_tree_bytesOf k)) := (f114rec k k)

def f33in : SS := ⟨[(0, (.ro (.list 170 (.st (.cons (.int .i64) (.cons (.int .i64) (.cons (.int .i64) (.cons .str (.cons (.int .i64) .nil)))))))))], []⟩
def f33out : SS := ⟨[(0, (.h 100)), (1, (.ro .bool))], [(100, (.sl 5 (.int .u8)))]⟩
def f33con (F : (List TNode) → Option ((Unit × Bool) × (List Int))) : Con := ⟨f33in, f33out, 1, 2, fun x => F x⟩
def f33ctx (k : Nat) : Ctx := ⟨tyAt tys, conAt [(113, [f113con (impl_treeOf k)]), (114, [f114con (impl_tree_bytesOf k)])], 15, fun _ => false⟩
theorem f33hc (k : Nat) : CtxOk Try.prog (f33ctx k) := ctxOk tys_ok mixed_ok (consOk_cons (f113ok k) (consOk_cons (f114ok k) (consOk_nil)))
theorem f33ok (k : Nat) : FnOk Try.prog 33 (f33con (impl_TreePack k)) :=
  let hc := f33hc k
  fnOk (fn := Try.f33) (code := bodyOf Try.f33) (res := [.tmp 2, .tmp 3]) hc (by kernel_rfl) (by kernel_rfl) (by decide) (by kernel_rfl) (by kernel_rfl) (by kernel_rfl) (Nat.le_of_ble_eq_true (by kernel_rfl)) _
    (fun x => Snd.exec hc _ _ _ _)
    (fun x => by kernel_rfl)

def f34in : SS := ⟨[(0, (.ro (.list 170 (.st (.cons (.int .i64) (.cons (.int .i64) (.cons (.int .i64) (.cons .str (.cons (.int .i64) .nil))))))))), (1, (.ro (.list 170 (.st (.cons (.int .i64) (.cons (.int .i64) (.cons (.int .i64) (.cons .str (.cons (.int .i64) .nil)))))))))], []⟩
def f34out : SS := ⟨[(0, (.ro .bool))], []⟩
def f34s4 : SS := ⟨[(0, (.ro (.list 170 (.st (.cons (.int .i64) (.cons (.int .i64) (.cons (.int .i64) (.cons .str (.cons (.int .i64) .nil))))))))), (1, (.ro (.list 170 (.st (.cons (.int .i64) (.cons (.int .i64) (.cons (.int .i64) (.cons .str (.cons (.int .i64) .nil))))))))), (5, (.ro (.int .i64)))], []⟩
def f34con (F : (List TNode) → (List TNode) → Option Bool) : Con := ⟨f34in, f34out, 2, 1, fun x => F x.1 x.2⟩
def f34ctx (k : Nat) : Ctx := ⟨tyAt tys, conAt [], 26, fun _ => false⟩
theorem f34hc (k : Nat) : CtxOk Try.prog (f34ctx k) := ctxOk tys_ok mixed_ok (consOk_nil)
theorem f34ok (k : Nat) : FnOk Try.prog 34 (f34con (laws_sameNodes k)) :=
  let hc := f34hc k
  fnOk (fn := Try.f34) (code := bodyOf Try.f34) (res := [.tmp 4]) hc (by kernel_rfl) (by kernel_rfl) (by decide) (by kernel_rfl) (by kernel_rfl) (by kernel_rfl) (Nat.le_of_ble_eq_true (by kernel_rfl)) _
    (fun x => Snd.seq (by kernel_rfl) (Snd.seq (by kernel_rfl) (Snd.seq (by kernel_rfl) (Snd.exec hc _ _ _ _) (Snd.seq (by kernel_rfl) (Snd.block (id := 0) (by kernel_rfl) (Snd.loop' (by kernel_rfl) f34s4 (fun n x => laws_sameNodes.l4 k n x.1 x.2.1 x.2.2) _ (fun _ => rfl) (fun n4 => Snd.exec hc _ _ _ _) (fun n x => by kernel_rfl) k)) (Snd.exec hc _ _ _ _))) (Snd.exec hc _ _ _ _)) (Snd.exec hc _ _ _ _))
    (fun x => by kernel_rfl)

def f5in : SS := ⟨[(0, (.ro (.list 5 (.int .u8))))], []⟩
def f5out : SS := ⟨[(0, (.ro .bool))], []⟩
def f5con (F : (List Int) → Option Bool) : Con := ⟨f5in, f5out, 1, 1, fun x => F x⟩
def f5ctx (k : Nat) : Ctx := ⟨tyAt tys, conAt [(13, [f13con (laws_big k)]), (30, [f30con (spec_DrawTreeRead k)]), (31, [f31con (impl_TreeRead k)]), (32, [f32con (spec_TreeRead k)]), (33, [f33con (impl_TreePack k)]), (34, [f34con (laws_sameNodes k)])], 96, fun _ => false⟩
theorem f5hc (k : Nat) : CtxOk Try.prog (f5ctx k) := ctxOk tys_ok mixed_ok (consOk_cons (f13ok k) (consOk_cons (f30ok k) (consOk_cons (f31ok k) (consOk_cons (f32ok k) (consOk_cons (f33ok k) (consOk_cons (f34ok k) (consOk_nil)))))))
theorem f5ok (k : Nat) : FnOk Try.prog 5 (f5con (laws_FnTreeRead k)) :=
  let hc := f5hc k
  fnOk (fn := Try.f5) (code := bodyOf Try.f5) (res := [.tmp 2]) hc (by kernel_rfl) (by kernel_rfl) (by decide) (by kernel_rfl) (by kernel_rfl) (by kernel_rfl) (Nat.le_of_ble_eq_true (by kernel_rfl)) _
    (fun x => Snd.exec hc _ _ _ _)
    (fun x => by kernel_rfl)

end Go.Proofs.Ytbmgddnjdcagpaa
