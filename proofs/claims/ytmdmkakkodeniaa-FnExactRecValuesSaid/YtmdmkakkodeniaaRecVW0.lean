/- The walks, printed by program. -/
import Derived.Test.YtmdmkakkodeniaaBase
import Derived.Test.YtmdmkakkodeniaaRecVF0
set_option linter.unusedVariables false
set_option maxRecDepth 100000
namespace Go.Proofs.Ytmdmkakkodeniaa
open Go.Am Go.Fn

def f57in : SS := ⟨[(0, (.ro (.st (.cons .str (.cons (.int .i64) (.cons (.int .i64) (.cons (.int .i64) .nil))))))), (1, (.ro (.int .i64)))], []⟩
def f57out : SS := ⟨[(0, (.ro (.int .i64)))], []⟩
def f57con (F : TCol → Int → Option Int) : Con := ⟨f57in, f57out, 2, 1, fun x => F x.1 x.2⟩
def f57ctx (k : Nat) : Ctx := ⟨tyAt tys, conAt [], 13, fun _ => false⟩
theorem f57hc (k : Nat) : CtxOk Try.prog (f57ctx k) := ctxOk tys_ok mixed_ok (consOk_nil)
theorem f57ok (k : Nat) : FnOk Try.prog 57 (f57con (laws_szCol k)) :=
  let hc := f57hc k
  fnOk (fn := Try.f57) (code := bodyOf Try.f57) (res := [.tmp 4]) hc (by kernel_rfl) (by kernel_rfl) (by decide) (by kernel_rfl) (by kernel_rfl) (by kernel_rfl) (Nat.le_of_ble_eq_true (by kernel_rfl)) _
    (fun x => Snd.exec hc _ _ _ _)
    (fun x => by kernel_rfl)

def f16in : SS := ⟨[(0, (.ro (.list 86 (.st (.cons .str (.cons (.int .i64) (.cons (.int .i64) (.cons (.int .i64) .nil)))))))), (1, (.ro (.int .i64)))], []⟩
def f16out : SS := ⟨[(0, (.ro (.int .i64)))], []⟩
def f16s5 : SS := ⟨[(0, (.ro (.list 86 (.st (.cons .str (.cons (.int .i64) (.cons (.int .i64) (.cons (.int .i64) .nil)))))))), (1, (.ro (.int .i64))), (5, (.ro (.int .i64)))], []⟩
def f16con (F : (List TCol) → Int → Option Int) : Con := ⟨f16in, f16out, 2, 1, fun x => F x.1 x.2⟩
def f16ctx (k : Nat) : Ctx := ⟨tyAt tys, conAt [(57, [f57con (laws_szCol k)])], 27, fun _ => false⟩
theorem f16hc (k : Nat) : CtxOk Try.prog (f16ctx k) := ctxOk tys_ok mixed_ok (consOk_cons (f57ok k) (consOk_nil))
theorem f16ok (k : Nat) : FnOk Try.prog 16 (f16con (laws_szColS k)) :=
  let hc := f16hc k
  fnOk (fn := Try.f16) (code := bodyOf Try.f16) (res := [.tmp 4]) hc (by kernel_rfl) (by kernel_rfl) (by decide) (by kernel_rfl) (by kernel_rfl) (by kernel_rfl) (Nat.le_of_ble_eq_true (by kernel_rfl)) _
    (fun x => Snd.seq (by kernel_rfl) (Snd.seq (by kernel_rfl) (Snd.seq (by kernel_rfl) (Snd.seq (by kernel_rfl) (Snd.exec hc _ _ _ _) (Snd.seq (by kernel_rfl) (Snd.block (id := 0) (by kernel_rfl) (Snd.loop' (by kernel_rfl) f16s5 (fun n x => laws_szColS.l5 k n x.1 x.2.1 x.2.2) _ (fun _ => rfl) (fun n5 => Snd.exec hc _ _ _ _) (fun n x => by kernel_rfl) k)) (Snd.exec hc _ _ _ _))) (Snd.exec hc _ _ _ _)) (Snd.exec hc _ _ _ _)) (Snd.exec hc _ _ _ _))
    (fun x => by kernel_rfl)

def f107in : SS := ⟨[(0, (.ro (.st (.cons (.int .i64) (.cons .str .nil))))), (1, (.ro (.int .i64)))], []⟩
def f107out : SS := ⟨[(0, (.ro (.int .i64)))], []⟩
def f107con (F : TVal → Int → Option Int) : Con := ⟨f107in, f107out, 2, 1, fun x => F x.1 x.2⟩
def f107ctx (k : Nat) : Ctx := ⟨tyAt tys, conAt [], 13, fun _ => false⟩
theorem f107hc (k : Nat) : CtxOk Try.prog (f107ctx k) := ctxOk tys_ok mixed_ok (consOk_nil)
theorem f107ok (k : Nat) : FnOk Try.prog 107 (f107con (laws_szVal k)) :=
  let hc := f107hc k
  fnOk (fn := Try.f107) (code := bodyOf Try.f107) (res := [.tmp 4]) hc (by kernel_rfl) (by kernel_rfl) (by decide) (by kernel_rfl) (by kernel_rfl) (by kernel_rfl) (Nat.le_of_ble_eq_true (by kernel_rfl)) _
    (fun x => Snd.exec hc _ _ _ _)
    (fun x => by kernel_rfl)

def f58in : SS := ⟨[(0, (.ro (.list 138 (.st (.cons (.int .i64) (.cons .str .nil)))))), (1, (.ro (.int .i64)))], []⟩
def f58out : SS := ⟨[(0, (.ro (.int .i64)))], []⟩
def f58s5 : SS := ⟨[(0, (.ro (.list 138 (.st (.cons (.int .i64) (.cons .str .nil)))))), (1, (.ro (.int .i64))), (5, (.ro (.int .i64)))], []⟩
def f58con (F : (List TVal) → Int → Option Int) : Con := ⟨f58in, f58out, 2, 1, fun x => F x.1 x.2⟩
def f58ctx (k : Nat) : Ctx := ⟨tyAt tys, conAt [(107, [f107con (laws_szVal k)])], 27, fun _ => false⟩
theorem f58hc (k : Nat) : CtxOk Try.prog (f58ctx k) := ctxOk tys_ok mixed_ok (consOk_cons (f107ok k) (consOk_nil))
theorem f58ok (k : Nat) : FnOk Try.prog 58 (f58con (laws_szValS k)) :=
  let hc := f58hc k
  fnOk (fn := Try.f58) (code := bodyOf Try.f58) (res := [.tmp 4]) hc (by kernel_rfl) (by kernel_rfl) (by decide) (by kernel_rfl) (by kernel_rfl) (by kernel_rfl) (Nat.le_of_ble_eq_true (by kernel_rfl)) _
    (fun x => Snd.seq (by kernel_rfl) (Snd.seq (by kernel_rfl) (Snd.seq (by kernel_rfl) (Snd.seq (by kernel_rfl) (Snd.exec hc _ _ _ _) (Snd.seq (by kernel_rfl) (Snd.block (id := 0) (by kernel_rfl) (Snd.loop' (by kernel_rfl) f58s5 (fun n x => laws_szValS.l5 k n x.1 x.2.1 x.2.2) _ (fun _ => rfl) (fun n5 => Snd.exec hc _ _ _ _) (fun n x => by kernel_rfl) k)) (Snd.exec hc _ _ _ _))) (Snd.exec hc _ _ _ _)) (Snd.exec hc _ _ _ _)) (Snd.exec hc _ _ _ _))
    (fun x => by kernel_rfl)

def f17in : SS := ⟨[(0, (.ro (.st (.cons (.list 138 (.st (.cons (.int .i64) (.cons .str .nil)))) .nil)))), (1, (.ro (.int .i64)))], []⟩
def f17out : SS := ⟨[(0, (.ro (.int .i64)))], []⟩
def f17con (F : TRec → Int → Option Int) : Con := ⟨f17in, f17out, 2, 1, fun x => F x.1 x.2⟩
def f17ctx (k : Nat) : Ctx := ⟨tyAt tys, conAt [(58, [f58con (laws_szValS k)])], 12, fun _ => false⟩
theorem f17hc (k : Nat) : CtxOk Try.prog (f17ctx k) := ctxOk tys_ok mixed_ok (consOk_cons (f58ok k) (consOk_nil))
theorem f17ok (k : Nat) : FnOk Try.prog 17 (f17con (laws_szRec k)) :=
  let hc := f17hc k
  fnOk (fn := Try.f17) (code := bodyOf Try.f17) (res := [.tmp 4]) hc (by kernel_rfl) (by kernel_rfl) (by decide) (by kernel_rfl) (by kernel_rfl) (by kernel_rfl) (Nat.le_of_ble_eq_true (by kernel_rfl)) _
    (fun x => Snd.exec hc _ _ _ _)
    (fun x => by kernel_rfl)

def f53in : SS := ⟨[(0, (.ro (.int .i64))), (1, (.ro (.int .i64))), (2, (.ro (.int .i64)))], []⟩
def f53out : SS := ⟨[(0, (.ro .bool))], []⟩
def f53con (F : Int → Int → Int → Option Bool) : Con := ⟨f53in, f53out, 3, 1, fun x => F x.1 x.2.1 x.2.2⟩
def f53ctx (k : Nat) : Ctx := ⟨tyAt tys, conAt [], 15, fun _ => false⟩
theorem f53hc (k : Nat) : CtxOk Try.prog (f53ctx k) := ctxOk tys_ok mixed_ok (consOk_nil)
theorem f53ok (k : Nat) : FnOk Try.prog 53 (f53con (spec_l1In k)) :=
  let hc := f53hc k
  fnOk (fn := Try.f53) (code := bodyOf Try.f53) (res := [.tmp 6]) hc (by kernel_rfl) (by kernel_rfl) (by decide) (by kernel_rfl) (by kernel_rfl) (by kernel_rfl) (Nat.le_of_ble_eq_true (by kernel_rfl)) _
    (fun x => Snd.exec hc _ _ _ _)
    (fun x => by kernel_rfl)

def f126in : SS := ⟨[(0, (.ro (.int .i64)))], []⟩
def f126out : SS := ⟨[(0, (.ro .bool))], []⟩
def f126s7 : SS := ⟨[(4, (.ro .bool))], []⟩
def f126con (F : Int → Option Bool) : Con := ⟨f126in, f126out, 1, 1, fun x => F x⟩
def f126ctx (k : Nat) : Ctx := ⟨tyAt tys, conAt [], 10, fun _ => false⟩
theorem f126hc (k : Nat) : CtxOk Try.prog (f126ctx k) := ctxOk tys_ok mixed_ok (consOk_nil)
theorem f126ok (k : Nat) : FnOk Try.prog 126 (f126con (spec_l5Type k)) :=
  let hc := f126hc k
  fnOk (fn := Try.f126) (code := bodyOf Try.f126) (res := [.tmp 2]) hc (by kernel_rfl) (by kernel_rfl) (by decide) (by kernel_rfl) (by kernel_rfl) (by kernel_rfl) (Nat.le_of_ble_eq_true (by kernel_rfl)) _
    (fun x => Snd.seq (by kernel_rfl) (Snd.seq (by kernel_rfl) (Snd.exec hc _ _ _ _) (Snd.seq (by kernel_rfl) (Snd.block (id := 0) (by kernel_rfl) (Snd.seq (by kernel_rfl) (Snd.cut (Snd.exec hc _ _ _ _) ⟨f126s7, fun x => spec_l5Type.c7 k x⟩ (fun x => by kernel_rfl)) (Snd.exec hc _ _ _ _))) (Snd.exec hc _ _ _ _))) (Snd.exec hc _ _ _ _))
    (fun x => by kernel_rfl)

def f140in : SS := ⟨[(0, (.ro .str))], []⟩
def f140out : SS := ⟨[(0, (.ro .bool))], []⟩
def f140s4 : SS := ⟨[(0, (.ro .str)), (3, (.ro (.int .i64)))], []⟩
def f140con (F : ByteArray → Option Bool) : Con := ⟨f140in, f140out, 1, 1, fun x => F x⟩
def f140ctx (k : Nat) : Ctx := ⟨tyAt tys, conAt [(53, [f53con (spec_l1In k)])], 24, fun _ => false⟩
theorem f140hc (k : Nat) : CtxOk Try.prog (f140ctx k) := ctxOk tys_ok mixed_ok (consOk_cons (f53ok k) (consOk_nil))
theorem f140ok (k : Nat) : FnOk Try.prog 140 (f140con (spec_l5Name k)) :=
  let hc := f140hc k
  fnOk (fn := Try.f140) (code := bodyOf Try.f140) (res := [.tmp 2]) hc (by kernel_rfl) (by kernel_rfl) (by decide) (by kernel_rfl) (by kernel_rfl) (by kernel_rfl) (Nat.le_of_ble_eq_true (by kernel_rfl)) _
    (fun x => Snd.seq (by kernel_rfl) (Snd.seq (by kernel_rfl) (Snd.seq (by kernel_rfl) (Snd.exec hc _ _ _ _) (Snd.seq (by kernel_rfl) (Snd.block (id := 0) (by kernel_rfl) (Snd.loop' (by kernel_rfl) f140s4 (fun n x => spec_l5Name.l4 k n x.1 x.2) _ (fun _ => rfl) (fun n4 => Snd.exec hc _ _ _ _) (fun n x => by kernel_rfl) k)) (Snd.exec hc _ _ _ _))) (Snd.exec hc _ _ _ _)) (Snd.exec hc _ _ _ _))
    (fun x => by kernel_rfl)

def f88in : SS := ⟨[(0, (.ro (.list 93 (.st (.cons .str (.cons (.int .i64) (.cons (.int .i64) (.cons (.int .i64) .nil)))))))), (1, (.ro (.int .i64))), (2, (.ro (.int .i64)))], []⟩
def f88out : SS := ⟨[(0, (.ro (.int .i64)))], []⟩
def f88s20 : SS := ⟨[(0, (.ro (.list 93 (.st (.cons .str (.cons (.int .i64) (.cons (.int .i64) (.cons (.int .i64) .nil)))))))), (2, (.ro (.int .i64))), (7, (.p 100)), (8, (.ro (.int .i64))), (9, (.h 101)), (10, (.ro (.int .i64))), (11, (.ro (.int .i64)))], [(100, (.box (.st (.cons .str (.cons (.int .i64) (.cons (.int .i64) (.cons (.int .i64) .nil))))) (.agg (.cons (.ro .str) (.cons (.ro (.int .i64)) (.cons (.ro (.int .i64)) (.cons (.ro (.int .i64)) .nil))))))), (101, (.sl 9 .str))]⟩
def f88s15 : SS := ⟨[(0, (.ro (.list 93 (.st (.cons .str (.cons (.int .i64) (.cons (.int .i64) (.cons (.int .i64) .nil)))))))), (2, (.ro (.int .i64))), (7, (.p 100)), (8, (.ro (.int .i64))), (9, (.h 101)), (10, (.ro (.int .i64)))], [(100, (.box (.st (.cons .str (.cons (.int .i64) (.cons (.int .i64) (.cons (.int .i64) .nil))))) (.agg (.cons (.ro .str) (.cons (.ro (.int .i64)) (.cons (.ro (.int .i64)) (.cons (.ro (.int .i64)) .nil))))))), (101, (.sl 9 .str))]⟩
def f88con (F : (List TCol) → Int → Int → Option Int) : Con := ⟨f88in, f88out, 3, 1, fun x => F x.1 x.2.1 x.2.2⟩
def f88ctx (k : Nat) (S88 : (List TCol) → Int → Int → Option Int) : Ctx := ⟨tyAt tys, conAt [(53, [f53con (spec_l1In k)]), (88, [f88con S88]), (126, [f126con (spec_l5Type k)]), (140, [f140con (spec_l5Name k)])], 119, fun _ => false⟩
theorem f88hc (k : Nat) (S88 : (List TCol) → Int → Int → Option Int) (h88 : FnOk Try.prog 88 (f88con S88)) : CtxOk Try.prog (f88ctx k S88) := ctxOk tys_ok mixed_ok (consOk_cons (f53ok k) (consOk_cons (h88) (consOk_cons (f126ok k) (consOk_cons (f140ok k) (consOk_nil)))))
theorem f88okb (k : Nat) (S88 : (List TCol) → Int → Int → Option Int) (h88 : FnOk Try.prog 88 (f88con S88)) : FnOk Try.prog 88 (f88con (spec_l5Check.b k S88)) :=
  let hc := f88hc k S88 h88
  fnOk (fn := Try.f88) (code := bodyOf Try.f88) (res := [.tmp 6]) hc (by kernel_rfl) (by kernel_rfl) (by decide) (by kernel_rfl) (by kernel_rfl) (by kernel_rfl) (Nat.le_of_ble_eq_true (by kernel_rfl)) _
    (fun x => Snd.seq (by kernel_rfl) (Snd.seq (by kernel_rfl) (Snd.seq (by kernel_rfl) (Snd.seq (by kernel_rfl) (Snd.seq (by kernel_rfl) (Snd.seq (by kernel_rfl) (Snd.seq (by kernel_rfl) (Snd.seq (by kernel_rfl) (Snd.seq (by kernel_rfl) (Snd.exec hc _ _ _ _) (Snd.seq (by kernel_rfl) (Snd.block (id := 0) (by kernel_rfl) (Snd.loop' (by kernel_rfl) f88s15 (fun n x => spec_l5Check.l15 k S88 n x.1.1 x.1.2.1 x.1.2.2.2.1 x.1.2.2.2.2.2 x.2.1 x.2.2) _ (fun _ => rfl) (fun n15 => Snd.seq (by kernel_rfl) (Snd.seq (by kernel_rfl) (Snd.exec hc _ _ _ _) (Snd.block (id := 1) (by kernel_rfl) (Snd.seq (by kernel_rfl) (Snd.seq (by kernel_rfl) (Snd.exec hc _ _ _ _) (Snd.seq (by kernel_rfl) (Snd.block (id := 2) (by kernel_rfl) (Snd.loop' (by kernel_rfl) f88s20 (fun n x => spec_l5Check.l20 k S88 (spec_l5Check.l15 k S88 n15) n x.1.1 x.1.2.1 x.1.2.2.2.1 x.1.2.2.2.2.2.1 x.1.2.2.2.2.2.2 x.2.1 x.2.2) _ (fun _ => rfl) (fun n20 => Snd.exec hc _ _ _ _) (fun n x => by kernel_rfl) k)) (Snd.exec hc _ _ _ _))) (Snd.exec hc _ _ _ _)))) (Snd.exec hc _ _ _ _)) (fun n x => by kernel_rfl) k)) (Snd.exec hc _ _ _ _))) (Snd.exec hc _ _ _ _)) (Snd.exec hc _ _ _ _)) (Snd.exec hc _ _ _ _)) (Snd.exec hc _ _ _ _)) (Snd.exec hc _ _ _ _)) (Snd.exec hc _ _ _ _)) (Snd.exec hc _ _ _ _)) (Snd.exec hc _ _ _ _))
    (fun x => by kernel_rfl)
theorem f88rec (k : Nat) : ∀ d, FnOk Try.prog 88 (f88con (spec_l5Check.d k d))
  | 0 => FnOk_none (fun _ => rfl)
  | d + 1 => let ih := f88rec k d
    f88okb k (spec_l5Check.d k d) ih
theorem f88ok (k : Nat) : FnOk Try.prog 88 (f88con (spec_l5Check k)) := (f88rec k k)

def f45in : SS := ⟨[(0, (.ro (.list 93 (.st (.cons .str (.cons (.int .i64) (.cons (.int .i64) (.cons (.int .i64) .nil))))))))], []⟩
def f45out : SS := ⟨[(0, (.ro .bool))], []⟩
def f45con (F : (List TCol) → Option Bool) : Con := ⟨f45in, f45out, 1, 1, fun x => F x⟩
def f45ctx (k : Nat) : Ctx := ⟨tyAt tys, conAt [(53, [f53con (spec_l1In k)]), (88, [f88con (spec_l5Check k)])], 13, fun _ => false⟩
theorem f45hc (k : Nat) : CtxOk Try.prog (f45ctx k) := ctxOk tys_ok mixed_ok (consOk_cons (f53ok k) (consOk_cons (f88ok k) (consOk_nil)))
theorem f45ok (k : Nat) : FnOk Try.prog 45 (f45con (spec_SchemaOk k)) :=
  let hc := f45hc k
  fnOk (fn := Try.f45) (code := bodyOf Try.f45) (res := [.tmp 2]) hc (by kernel_rfl) (by kernel_rfl) (by decide) (by kernel_rfl) (by kernel_rfl) (by kernel_rfl) (Nat.le_of_ble_eq_true (by kernel_rfl)) _
    (fun x => Snd.exec hc _ _ _ _)
    (fun x => by kernel_rfl)

def f108in : SS := ⟨[(0, (.ro (.list 93 (.st (.cons .str (.cons (.int .i64) (.cons (.int .i64) (.cons (.int .i64) .nil))))))))], []⟩
def f108out : SS := ⟨[(0, (.h 100))], [(100, (.sl 3 (.int .i64)))]⟩
def f108s4 : SS := ⟨[(0, (.ro (.list 93 (.st (.cons .str (.cons (.int .i64) (.cons (.int .i64) (.cons (.int .i64) .nil)))))))), (3, (.h 100)), (4, (.ro (.int .i64)))], [(100, (.sl 3 (.int .i64)))]⟩
def f108s3 : SS := ⟨[(0, (.ro (.list 93 (.st (.cons .str (.cons (.int .i64) (.cons (.int .i64) (.cons (.int .i64) .nil)))))))), (3, (.h 100)), (4, (.ro (.int .i64)))], [(100, (.sl 3 (.int .i64)))]⟩
def f108con (F : (List TCol) → Option (Unit × (List Int))) : Con := ⟨f108in, f108out, 1, 1, fun x => F x⟩
def f108ctx (k : Nat) : Ctx := ⟨tyAt tys, conAt [], 23, fun _ => false⟩
theorem f108hc (k : Nat) : CtxOk Try.prog (f108ctx k) := ctxOk tys_ok mixed_ok (consOk_nil)
theorem f108ok (k : Nat) : FnOk Try.prog 108 (f108con (spec_l5Leaves k)) :=
  let hc := f108hc k
  fnOk (fn := Try.f108) (code := bodyOf Try.f108) (res := [.tmp 2]) hc (by kernel_rfl) (by kernel_rfl) (by decide) (by kernel_rfl) (by kernel_rfl) (by kernel_rfl) (Nat.le_of_ble_eq_true (by kernel_rfl)) _
    (fun x => Snd.seq (by kernel_rfl) (Snd.seq (by kernel_rfl) (Snd.seq (by kernel_rfl) (Snd.exec hc _ _ _ _) (Snd.seq (by kernel_rfl) (Snd.block (id := 0) (by kernel_rfl) (Snd.loop' (by kernel_rfl) f108s3 (fun n x => spec_l5Leaves.l3 k n x.1.1 x.1.2.2 x.2) _ (fun _ => rfl) (fun n3 => Snd.seq (by kernel_rfl) (Snd.seq (by kernel_rfl) (Snd.cut (Snd.exec hc _ _ _ _) ⟨f108s4, fun x => spec_l5Leaves.c4 k (spec_l5Leaves.l3 k n3) x.1.1 x.1.2.2 x.2⟩ (fun x => by kernel_rfl)) (Snd.exec hc _ _ _ _)) (Snd.exec hc _ _ _ _)) (fun n x => by kernel_rfl) k)) (Snd.exec hc _ _ _ _))) (Snd.exec hc _ _ _ _)) (Snd.exec hc _ _ _ _))
    (fun x => by kernel_rfl)

def f59in : SS := ⟨[(0, (.ro (.list 93 (.st (.cons .str (.cons (.int .i64) (.cons (.int .i64) (.cons (.int .i64) .nil))))))))], []⟩
def f59out : SS := ⟨[(0, (.h 100))], [(100, (.sl 3 (.int .i64)))]⟩
def f59con (F : (List TCol) → Option (Unit × (List Int))) : Con := ⟨f59in, f59out, 1, 1, fun x => F x⟩
def f59ctx (k : Nat) : Ctx := ⟨tyAt tys, conAt [(45, [f45con (spec_SchemaOk k)]), (108, [f108con (spec_l5Leaves k)])], 9, fun _ => false⟩
theorem f59hc (k : Nat) : CtxOk Try.prog (f59ctx k) := ctxOk tys_ok mixed_ok (consOk_cons (f45ok k) (consOk_cons (f108ok k) (consOk_nil)))
theorem f59ok (k : Nat) : FnOk Try.prog 59 (f59con (spec_SchemaLeaves k)) :=
  let hc := f59hc k
  fnOk (fn := Try.f59) (code := bodyOf Try.f59) (res := [.tmp 2]) hc (by kernel_rfl) (by kernel_rfl) (by decide) (by kernel_rfl) (by kernel_rfl) (by kernel_rfl) (Nat.le_of_ble_eq_true (by kernel_rfl)) _
    (fun x => Snd.exec hc _ _ _ _)
    (fun x => by kernel_rfl)

def f110in : SS := ⟨[(0, (.ro (.list 93 (.st (.cons .str (.cons (.int .i64) (.cons (.int .i64) (.cons (.int .i64) .nil)))))))), (1, (.ro (.int .i64)))], []⟩
def f110out : SS := ⟨[(0, (.ro (.int .i64)))], []⟩
def f110s3 : SS := ⟨[(0, (.ro (.list 93 (.st (.cons .str (.cons (.int .i64) (.cons (.int .i64) (.cons (.int .i64) .nil)))))))), (1, (.ro (.int .i64))), (5, (.ro (.int .i64))), (6, (.ro (.int .i64)))], []⟩
def f110con (F : (List TCol) → Int → Option Int) : Con := ⟨f110in, f110out, 2, 1, fun x => F x.1 x.2⟩
def f110ctx (k : Nat) (S110 : (List TCol) → Int → Option Int) : Ctx := ⟨tyAt tys, conAt [(110, [f110con S110])], 22, fun _ => false⟩
theorem f110hc (k : Nat) (S110 : (List TCol) → Int → Option Int) (h110 : FnOk Try.prog 110 (f110con S110)) : CtxOk Try.prog (f110ctx k S110) := ctxOk tys_ok mixed_ok (consOk_cons (h110) (consOk_nil))
theorem f110okb (k : Nat) (S110 : (List TCol) → Int → Option Int) (h110 : FnOk Try.prog 110 (f110con S110)) : FnOk Try.prog 110 (f110con (spec_l5After.b k S110)) :=
  let hc := f110hc k S110 h110
  fnOk (fn := Try.f110) (code := bodyOf Try.f110) (res := [.tmp 4]) hc (by kernel_rfl) (by kernel_rfl) (by decide) (by kernel_rfl) (by kernel_rfl) (by kernel_rfl) (Nat.le_of_ble_eq_true (by kernel_rfl)) _
    (fun x => Snd.seq (by kernel_rfl) (Snd.seq (by kernel_rfl) (Snd.seq (by kernel_rfl) (Snd.exec hc _ _ _ _) (Snd.seq (by kernel_rfl) (Snd.block (id := 0) (by kernel_rfl) (Snd.loop' (by kernel_rfl) f110s3 (fun n x => spec_l5After.l3 k S110 n x.1 x.2.1 x.2.2.1 x.2.2.2) _ (fun _ => rfl) (fun n3 => Snd.exec hc _ _ _ _) (fun n x => by kernel_rfl) k)) (Snd.exec hc _ _ _ _))) (Snd.exec hc _ _ _ _)) (Snd.exec hc _ _ _ _))
    (fun x => by kernel_rfl)
theorem f110rec (k : Nat) : ∀ d, FnOk Try.prog 110 (f110con (spec_l5After.d k d))
  | 0 => FnOk_none (fun _ => rfl)
  | d + 1 => let ih := f110rec k d
    f110okb k (spec_l5After.d k d) ih
theorem f110ok (k : Nat) : FnOk Try.prog 110 (f110con (spec_l5After k)) := (f110rec k k)

def f147in : SS := ⟨[(0, (.ro (.int .i64)))], []⟩
def f147out : SS := ⟨[(0, (.ro .bool))], []⟩
def f147con (F : Int → Option Bool) : Con := ⟨f147in, f147out, 1, 1, fun x => F x⟩
def f147ctx (k : Nat) : Ctx := ⟨tyAt tys, conAt [(53, [f53con (spec_l1In k)])], 5, fun _ => false⟩
theorem f147hc (k : Nat) : CtxOk Try.prog (f147ctx k) := ctxOk tys_ok mixed_ok (consOk_cons (f53ok k) (consOk_nil))
theorem f147ok (k : Nat) : FnOk Try.prog 147 (f147con (spec_l4Int k)) :=
  let hc := f147hc k
  fnOk (fn := Try.f147) (code := bodyOf Try.f147) (res := [.tmp 2]) hc (by kernel_rfl) (by kernel_rfl) (by decide) (by kernel_rfl) (by kernel_rfl) (by kernel_rfl) (Nat.le_of_ble_eq_true (by kernel_rfl)) _
    (fun x => Snd.exec hc _ _ _ _)
    (fun x => by kernel_rfl)

def f127in : SS := ⟨[(0, (.ro (.int .i64))), (1, (.ro (.st (.cons (.int .i64) (.cons .str .nil)))))], []⟩
def f127out : SS := ⟨[(0, (.ro .bool))], []⟩
def f127s8 : SS := ⟨[(3, (.p 100)), (5, (.ro (.int .i64))), (26, (.ro .bool))], [(100, (.box (.st (.cons (.int .i64) (.cons .str .nil))) (.agg (.cons (.ro (.int .i64)) (.cons (.ro .str) .nil)))))]⟩
def f127con (F : Int → TVal → Option Bool) : Con := ⟨f127in, f127out, 2, 1, fun x => F x.1 x.2⟩
def f127ctx (k : Nat) : Ctx := ⟨tyAt tys, conAt [(53, [f53con (spec_l1In k)]), (147, [f147con (spec_l4Int k)])], 43, fun _ => false⟩
theorem f127hc (k : Nat) : CtxOk Try.prog (f127ctx k) := ctxOk tys_ok mixed_ok (consOk_cons (f53ok k) (consOk_cons (f147ok k) (consOk_nil)))
theorem f127ok (k : Nat) : FnOk Try.prog 127 (f127con (spec_ValOk k)) :=
  let hc := f127hc k
  fnOk (fn := Try.f127) (code := bodyOf Try.f127) (res := [.tmp 4]) hc (by kernel_rfl) (by kernel_rfl) (by decide) (by kernel_rfl) (by kernel_rfl) (by kernel_rfl) (Nat.le_of_ble_eq_true (by kernel_rfl)) _
    (fun x => Snd.seq (by kernel_rfl) (Snd.seq (by kernel_rfl) (Snd.exec hc _ _ _ _) (Snd.seq (by kernel_rfl) (Snd.block (id := 0) (by kernel_rfl) (Snd.seq (by kernel_rfl) (Snd.cond (x := .tmp 6) (by kernel_rfl) (Snd.exec hc _ _ _ _) (Snd.seq (by kernel_rfl) (Snd.cond (x := .tmp 16) (by kernel_rfl) (Snd.exec hc _ _ _ _) (Snd.seq (by kernel_rfl) (Snd.cut (Snd.exec hc _ _ _ _) ⟨f127s8, fun x => spec_ValOk.c8 k x.1.2.1 x.1.2.2 x.2⟩ (fun x => by kernel_rfl)) (Snd.exec hc _ _ _ _))) (Snd.exec hc _ _ _ _))) (Snd.exec hc _ _ _ _))) (Snd.exec hc _ _ _ _))) (Snd.exec hc _ _ _ _))
    (fun x => by kernel_rfl)

def f175in : SS := ⟨[(0, (.ro (.st (.cons (.int .i64) (.cons .str .nil))))), (1, (.ro (.int .i64)))], []⟩
def f175out : SS := ⟨[(0, (.ro (.int .i64)))], []⟩
def f175con (F : TVal → Int → Option Int) : Con := ⟨f175in, f175out, 2, 1, fun x => F x.1 x.2⟩
def f175ctx (k : Nat) : Ctx := ⟨tyAt tys, conAt [(53, [f53con (spec_l1In k)])], 17, fun _ => false⟩
theorem f175hc (k : Nat) : CtxOk Try.prog (f175ctx k) := ctxOk tys_ok mixed_ok (consOk_cons (f53ok k) (consOk_nil))
theorem f175ok (k : Nat) : FnOk Try.prog 175 (f175con (spec_l13Count k)) :=
  let hc := f175hc k
  fnOk (fn := Try.f175) (code := bodyOf Try.f175) (res := [.tmp 4]) hc (by kernel_rfl) (by kernel_rfl) (by decide) (by kernel_rfl) (by kernel_rfl) (by kernel_rfl) (Nat.le_of_ble_eq_true (by kernel_rfl)) _
    (fun x => Snd.exec hc _ _ _ _)
    (fun x => by kernel_rfl)

def f109in : SS := ⟨[(0, (.ro (.list 93 (.st (.cons .str (.cons (.int .i64) (.cons (.int .i64) (.cons (.int .i64) .nil)))))))), (1, (.ro (.int .i64))), (2, (.ro (.list 97 (.st (.cons (.int .i64) (.cons .str .nil)))))), (3, (.ro (.int .i64)))], []⟩
def f109out : SS := ⟨[(0, (.ro (.int .i64)))], []⟩
def f109s7 : SS := ⟨[(0, (.ro (.list 93 (.st (.cons .str (.cons (.int .i64) (.cons (.int .i64) (.cons (.int .i64) .nil)))))))), (1, (.ro (.int .i64))), (2, (.ro (.list 97 (.st (.cons (.int .i64) (.cons .str .nil)))))), (3, (.ro (.int .i64))), (9, (.ro (.int .i64))), (10, (.ro (.int .i64)))], []⟩
def f109con (F : (List TCol) → Int → (List TVal) → Int → Option Int) : Con := ⟨f109in, f109out, 4, 1, fun x => F x.1 x.2.1 x.2.2.1 x.2.2.2⟩
def f152in : SS := ⟨[(0, (.ro (.list 93 (.st (.cons .str (.cons (.int .i64) (.cons (.int .i64) (.cons (.int .i64) .nil)))))))), (1, (.ro (.int .i64))), (2, (.ro (.list 97 (.st (.cons (.int .i64) (.cons .str .nil)))))), (3, (.ro (.int .i64)))], []⟩
def f152out : SS := ⟨[(0, (.ro (.int .i64)))], []⟩
def f152s13 : SS := ⟨[(0, (.ro (.list 93 (.st (.cons .str (.cons (.int .i64) (.cons (.int .i64) (.cons (.int .i64) .nil)))))))), (1, (.ro (.int .i64))), (2, (.ro (.list 97 (.st (.cons (.int .i64) (.cons .str .nil)))))), (3, (.ro (.int .i64))), (9, (.ro (.int .i64))), (11, (.ro (.int .i64)))], []⟩
def f152s12 : SS := ⟨[(0, (.ro (.list 93 (.st (.cons .str (.cons (.int .i64) (.cons (.int .i64) (.cons (.int .i64) .nil)))))))), (1, (.ro (.int .i64))), (2, (.ro (.list 97 (.st (.cons (.int .i64) (.cons .str .nil)))))), (3, (.ro (.int .i64))), (9, (.ro (.int .i64)))], []⟩
def f152s6 : SS := ⟨[(0, (.ro (.list 93 (.st (.cons .str (.cons (.int .i64) (.cons (.int .i64) (.cons (.int .i64) .nil)))))))), (1, (.ro (.int .i64))), (2, (.ro (.list 97 (.st (.cons (.int .i64) (.cons .str .nil)))))), (3, (.ro (.int .i64))), (10, (.ro (.int .i64)))], []⟩
def f152con (F : (List TCol) → Int → (List TVal) → Int → Option Int) : Con := ⟨f152in, f152out, 4, 1, fun x => F x.1 x.2.1 x.2.2.1 x.2.2.2⟩
def f109ctx (k : Nat) (S109 : (List TCol) → Int → (List TVal) → Int → Option Int) (S152 : (List TCol) → Int → (List TVal) → Int → Option Int) : Ctx := ⟨tyAt tys, conAt [(110, [f110con (spec_l5After k)]), (127, [f127con (spec_ValOk k)]), (152, [f152con S152])], 58, fun _ => false⟩
theorem f109hc (k : Nat) (S109 : (List TCol) → Int → (List TVal) → Int → Option Int) (S152 : (List TCol) → Int → (List TVal) → Int → Option Int) (h109 : FnOk Try.prog 109 (f109con S109)) (h152 : FnOk Try.prog 152 (f152con S152)) : CtxOk Try.prog (f109ctx k S109 S152) := ctxOk tys_ok mixed_ok (consOk_cons (f110ok k) (consOk_cons (f127ok k) (consOk_cons (h152) (consOk_nil))))
theorem f109okb (k : Nat) (S109 : (List TCol) → Int → (List TVal) → Int → Option Int) (S152 : (List TCol) → Int → (List TVal) → Int → Option Int) (h109 : FnOk Try.prog 109 (f109con S109)) (h152 : FnOk Try.prog 152 (f152con S152)) : FnOk Try.prog 109 (f109con (spec_l13Content.b k S109 S152)) :=
  let hc := f109hc k S109 S152 h109 h152
  fnOk (fn := Try.f109) (code := bodyOf Try.f109) (res := [.tmp 8]) hc (by kernel_rfl) (by kernel_rfl) (by decide) (by kernel_rfl) (by kernel_rfl) (by kernel_rfl) (Nat.le_of_ble_eq_true (by kernel_rfl)) _
    (fun x => Snd.seq (by kernel_rfl) (Snd.seq (by kernel_rfl) (Snd.seq (by kernel_rfl) (Snd.seq (by kernel_rfl) (Snd.exec hc _ _ _ _) (Snd.seq (by kernel_rfl) (Snd.block (id := 0) (by kernel_rfl) (Snd.loop' (by kernel_rfl) f109s7 (fun n x => spec_l13Content.l7 k S152 n x.1 x.2.1 x.2.2.1 x.2.2.2.1 x.2.2.2.2.1 x.2.2.2.2.2) _ (fun _ => rfl) (fun n7 => Snd.exec hc _ _ _ _) (fun n x => by kernel_rfl) k)) (Snd.exec hc _ _ _ _))) (Snd.exec hc _ _ _ _)) (Snd.exec hc _ _ _ _)) (Snd.exec hc _ _ _ _))
    (fun x => by kernel_rfl)
def f152ctx (k : Nat) (S109 : (List TCol) → Int → (List TVal) → Int → Option Int) (S152 : (List TCol) → Int → (List TVal) → Int → Option Int) : Ctx := ⟨tyAt tys, conAt [(109, [f109con S109]), (175, [f175con (spec_l13Count k)])], 51, fun _ => false⟩
theorem f152hc (k : Nat) (S109 : (List TCol) → Int → (List TVal) → Int → Option Int) (S152 : (List TCol) → Int → (List TVal) → Int → Option Int) (h109 : FnOk Try.prog 109 (f109con S109)) (h152 : FnOk Try.prog 152 (f152con S152)) : CtxOk Try.prog (f152ctx k S109 S152) := ctxOk tys_ok mixed_ok (consOk_cons (h109) (consOk_cons (f175ok k) (consOk_nil)))
theorem f152okb (k : Nat) (S109 : (List TCol) → Int → (List TVal) → Int → Option Int) (S152 : (List TCol) → Int → (List TVal) → Int → Option Int) (h109 : FnOk Try.prog 109 (f109con S109)) (h152 : FnOk Try.prog 152 (f152con S152)) : FnOk Try.prog 152 (f152con (spec_l13Part.b k S109 S152)) :=
  let hc := f152hc k S109 S152 h109 h152
  fnOk (fn := Try.f152) (code := bodyOf Try.f152) (res := [.tmp 8]) hc (by kernel_rfl) (by kernel_rfl) (by decide) (by kernel_rfl) (by kernel_rfl) (by kernel_rfl) (Nat.le_of_ble_eq_true (by kernel_rfl)) _
    (fun x => Snd.seq (by kernel_rfl) (Snd.seq (by kernel_rfl) (Snd.seq (by kernel_rfl) (Snd.cut (Snd.seq (by kernel_rfl) (Snd.exec hc _ _ _ _) (Snd.seq (by kernel_rfl) (Snd.block (id := 0) (by kernel_rfl) (Snd.loop' (by kernel_rfl) f152s13 (fun n x => spec_l13Part.l13 k S109 n x.1 x.2.1 x.2.2.1 x.2.2.2.1 x.2.2.2.2.1 x.2.2.2.2.2) _ (fun _ => rfl) (fun n13 => Snd.exec hc _ _ _ _) (fun n x => by kernel_rfl) k)) (Snd.exec hc _ _ _ _))) ⟨f152s12, fun x => spec_l13Part.c12 k S109 x.1 x.2.1 x.2.2.1 x.2.2.2.1 x.2.2.2.2⟩ (fun x => by kernel_rfl)) (Snd.seq (by kernel_rfl) (Snd.cond (x := .tmp 17) (by kernel_rfl) (Snd.seq (by kernel_rfl) (Snd.seq (by kernel_rfl) (Snd.cut (Snd.exec hc _ _ _ _) ⟨f152s6, fun x => spec_l13Part.c6 k S109 x.1 x.2.1 x.2.2.1 x.2.2.2.1 x.2.2.2.2⟩ (fun x => by kernel_rfl)) (Snd.exec hc _ _ _ _)) (Snd.exec hc _ _ _ _)) (Snd.exec hc _ _ _ _)) (Snd.exec hc _ _ _ _))) (Snd.exec hc _ _ _ _)) (Snd.exec hc _ _ _ _))
    (fun x => by kernel_rfl)
theorem f109rec (k : Nat) : ∀ d, FnOk Try.prog 109 (f109con (spec_l13Content.d k d)) ∧ FnOk Try.prog 152 (f152con (spec_l13Part.d k d))
  | 0 => ⟨FnOk_none (fun _ => rfl), FnOk_none (fun _ => rfl)⟩
  | d + 1 => let ih := f109rec k d
    ⟨f109okb k (spec_l13Content.d k d) (spec_l13Part.d k d) ih.1 ih.2, f152okb k (spec_l13Content.d k d) (spec_l13Part.d k d) ih.1 ih.2⟩
theorem f109ok (k : Nat) : FnOk Try.prog 109 (f109con (spec_l13Content k)) := (f109rec k k).1
theorem f152ok (k : Nat) : FnOk Try.prog 152 (f152con (spec_l13Part k)) := (f109rec k k).2

def f60in : SS := ⟨[(0, (.ro (.list 93 (.st (.cons .str (.cons (.int .i64) (.cons (.int .i64) (.cons (.int .i64) .nil)))))))), (1, (.ro (.st (.cons (.list 97 (.st (.cons (.int .i64) (.cons .str .nil)))) .nil))))], []⟩
def f60out : SS := ⟨[(0, (.ro .bool))], []⟩
def f60d1 : SS := ⟨[(0, (.ro (.list 93 (.st (.cons .str (.cons (.int .i64) (.cons (.int .i64) (.cons (.int .i64) .nil)))))))), (3, (.p 100))], [(100, (.box (.st (.cons (.list 97 (.st (.cons (.int .i64) (.cons .str .nil)))) .nil)) (.agg (.cons (.ro (.list 97 (.st (.cons (.int .i64) (.cons .str .nil))))) .nil))))]⟩
def f60con (F : (List TCol) → TRec → Option Bool) : Con := ⟨f60in, f60out, 2, 1, fun x => F x.1 x.2⟩
def f60ctx (k : Nat) : Ctx := ⟨tyAt tys, conAt [(45, [f45con (spec_SchemaOk k)]), (109, [f109con (spec_l13Content k)])], 23, fun _ => false⟩
theorem f60hc (k : Nat) : CtxOk Try.prog (f60ctx k) := ctxOk tys_ok mixed_ok (consOk_cons (f45ok k) (consOk_cons (f109ok k) (consOk_nil)))
theorem f60ok (k : Nat) : FnOk Try.prog 60 (f60con (spec_RecOk k)) :=
  let hc := f60hc k
  fnOk (fn := Try.f60) (code := bodyOf Try.f60) (res := [.tmp 4]) hc (by kernel_rfl) (by kernel_rfl) (by decide) (by kernel_rfl) (by kernel_rfl) (by kernel_rfl) (Nat.le_of_ble_eq_true (by kernel_rfl)) _
    (fun x => Snd.seq (by kernel_rfl) (Snd.seq (by kernel_rfl) (Snd.exec hc _ _ _ _) (Snd.fork hc (id := 1) (by kernel_rfl) ⟨f60d1, fun x => spec_RecOk.d1 k x.1.1 x.2⟩ [[0, 1, 2, 3, 4, 5, 6, 7, 8, 9, 10, 11, 13, 12, 14, 15, 16, 17, 18], [0, 1, 2, 3, 4, 5, 6, 7, 8, 9, 10, 11, 13, 14, 15, 12, 16, 17, 18]] (by kernel_rfl) (ords_cons (fun x => by kernel_rfl) (ords_cons (fun x => by kernel_rfl) (ords_nil))))) (Snd.exec hc _ _ _ _))
    (fun x => by kernel_rfl)

def f61in : SS := ⟨[(0, (.ro (.list 93 (.st (.cons .str (.cons (.int .i64) (.cons (.int .i64) (.cons (.int .i64) .nil)))))))), (1, (.ro (.int .i64))), (2, (.ro .bool)), (3, (.ro (.list 97 (.st (.cons (.int .i64) (.cons .str .nil)))))), (4, (.ro (.int .i64))), (5, (.ro (.int .i64))), (6, (.h 10))], [(10, (.sl 97 (.st (.cons (.int .i64) (.cons .str .nil)))))]⟩
def f61out : SS := ⟨[(0, (.h 100)), (1, (.ro (.int .i64)))], [(100, (.sl 97 (.st (.cons (.int .i64) (.cons .str .nil)))))]⟩
def f61s7 : SS := ⟨[(0, (.ro (.list 93 (.st (.cons .str (.cons (.int .i64) (.cons (.int .i64) (.cons (.int .i64) .nil)))))))), (1, (.ro (.int .i64))), (3, (.ro (.list 97 (.st (.cons (.int .i64) (.cons .str .nil)))))), (4, (.ro (.int .i64))), (5, (.ro (.int .i64))), (6, (.h 100)), (16, (.ro (.int .i64))), (17, (.ro (.int .i64)))], [(100, (.sl 97 (.st (.cons (.int .i64) (.cons .str .nil)))))]⟩
def f61s14 : SS := ⟨[(0, (.ro (.list 93 (.st (.cons .str (.cons (.int .i64) (.cons (.int .i64) (.cons (.int .i64) .nil)))))))), (1, (.ro (.int .i64))), (3, (.ro (.list 97 (.st (.cons (.int .i64) (.cons .str .nil)))))), (4, (.ro (.int .i64))), (5, (.ro (.int .i64))), (6, (.h 100)), (16, (.ro (.int .i64))), (17, (.ro (.int .i64))), (18, (.ro (.int .i64))), (19, (.ro (.int .i64)))], [(100, (.sl 97 (.st (.cons (.int .i64) (.cons .str .nil)))))]⟩
def f61s11 : SS := ⟨[(0, (.ro (.list 93 (.st (.cons .str (.cons (.int .i64) (.cons (.int .i64) (.cons (.int .i64) .nil)))))))), (1, (.ro (.int .i64))), (3, (.ro (.list 97 (.st (.cons (.int .i64) (.cons .str .nil)))))), (4, (.ro (.int .i64))), (5, (.ro (.int .i64))), (6, (.h 100)), (16, (.ro (.int .i64))), (17, (.ro (.int .i64)))], [(100, (.sl 97 (.st (.cons (.int .i64) (.cons .str .nil)))))]⟩
def f61s6 : SS := ⟨[(0, (.ro (.list 93 (.st (.cons .str (.cons (.int .i64) (.cons (.int .i64) (.cons (.int .i64) .nil)))))))), (1, (.ro (.int .i64))), (3, (.ro (.list 97 (.st (.cons (.int .i64) (.cons .str .nil)))))), (4, (.ro (.int .i64))), (5, (.ro (.int .i64))), (6, (.h 100)), (16, (.ro (.int .i64))), (17, (.ro (.int .i64)))], [(100, (.sl 97 (.st (.cons (.int .i64) (.cons .str .nil)))))]⟩
def f61s5 : SS := ⟨[(0, (.ro (.list 93 (.st (.cons .str (.cons (.int .i64) (.cons (.int .i64) (.cons (.int .i64) .nil)))))))), (1, (.ro (.int .i64))), (3, (.ro (.list 97 (.st (.cons (.int .i64) (.cons .str .nil)))))), (4, (.ro (.int .i64))), (5, (.ro (.int .i64))), (6, (.h 10)), (16, (.ro (.int .i64)))], [(10, (.sl 97 (.st (.cons (.int .i64) (.cons .str .nil)))))]⟩
def f61con (F : (List TCol) → Int → Bool → (List TVal) → Int → Int → (List TVal) → Option ((Unit × Int) × (List TVal))) : Con := ⟨f61in, f61out, 7, 2, fun x => F x.1.1 x.1.2.1 x.1.2.2.1 x.1.2.2.2.1 x.1.2.2.2.2.1 x.1.2.2.2.2.2.1 x.2⟩
def f61ctx (k : Nat) (S61 : (List TCol) → Int → Bool → (List TVal) → Int → Int → (List TVal) → Option ((Unit × Int) × (List TVal))) : Ctx := ⟨tyAt tys, conAt [(61, [f61con S61]), (110, [f110con (spec_l5After k)])], 86, fun _ => false⟩
theorem f61hc (k : Nat) (S61 : (List TCol) → Int → Bool → (List TVal) → Int → Int → (List TVal) → Option ((Unit × Int) × (List TVal))) (h61 : FnOk Try.prog 61 (f61con S61)) : CtxOk Try.prog (f61ctx k S61) := ctxOk tys_ok mixed_ok (consOk_cons (h61) (consOk_cons (f110ok k) (consOk_nil)))
theorem f61okb (k : Nat) (S61 : (List TCol) → Int → Bool → (List TVal) → Int → Int → (List TVal) → Option ((Unit × Int) × (List TVal))) (h61 : FnOk Try.prog 61 (f61con S61)) : FnOk Try.prog 61 (f61con (spec_l13Values.b k S61)) :=
  let hc := f61hc k S61 h61
  fnOk (fn := Try.f61) (code := bodyOf Try.f61) (res := [.tmp 14, .tmp 15]) hc (by kernel_rfl) (by kernel_rfl) (by decide) (by kernel_rfl) (by kernel_rfl) (by kernel_rfl) (Nat.le_of_ble_eq_true (by kernel_rfl)) _
    (fun x => Snd.seq (by kernel_rfl) (Snd.seq (by kernel_rfl) (Snd.seq (by kernel_rfl) (Snd.cut (Snd.seq (by kernel_rfl) (Snd.exec hc _ _ _ _) (Snd.seq (by kernel_rfl) (Snd.block (id := 0) (by kernel_rfl) (Snd.loop' (by kernel_rfl) f61s6 (fun n x => spec_l13Values.l6 k S61 n x.1.1 x.1.2.1 x.1.2.2.1 x.1.2.2.2.1 x.1.2.2.2.2.1 x.1.2.2.2.2.2.2.1 x.1.2.2.2.2.2.2.2 x.2) _ (fun _ => rfl) (fun n6 => Snd.seq (by kernel_rfl) (Snd.seq (by kernel_rfl) (Snd.cut (Snd.exec hc _ _ _ _) ⟨f61s7, fun x => spec_l13Values.c7 k (spec_l13Values.l6 k S61 n6) x.1.1 x.1.2.1 x.1.2.2.1 x.1.2.2.2.1 x.1.2.2.2.2.1 x.1.2.2.2.2.2.2.1 x.1.2.2.2.2.2.2.2 x.2⟩ (fun x => by kernel_rfl)) (Snd.block (id := 1) (by kernel_rfl) (Snd.seq (by kernel_rfl) (Snd.seq (by kernel_rfl) (Snd.seq (by kernel_rfl) (Snd.block (id := 2) (by kernel_rfl) (Snd.loop' (by kernel_rfl) f61s14 (fun n x => spec_l13Values.l14 k S61 (spec_l13Values.l6 k S61 n6) n x.1.1 x.1.2.1 x.1.2.2.1 x.1.2.2.2.1 x.1.2.2.2.2.1 x.1.2.2.2.2.2.2.1 x.1.2.2.2.2.2.2.2.1 x.1.2.2.2.2.2.2.2.2.1 x.1.2.2.2.2.2.2.2.2.2 x.2) _ (fun _ => rfl) (fun n14 => Snd.exec hc _ _ _ _) (fun n x => by kernel_rfl) k)) (Snd.exec hc _ _ _ _)) (Snd.exec hc _ _ _ _)) (Snd.seq (by kernel_rfl) (Snd.cond (x := .tmp 47) (by kernel_rfl) (Snd.seq (by kernel_rfl) (Snd.cut (Snd.exec hc _ _ _ _) ⟨f61s11, fun x => spec_l13Values.c11 k (spec_l13Values.l6 k S61 n6) x.1.1 x.1.2.1 x.1.2.2.1 x.1.2.2.2.1 x.1.2.2.2.2.1 x.1.2.2.2.2.2.2.1 x.1.2.2.2.2.2.2.2 x.2⟩ (fun x => by kernel_rfl)) (Snd.exec hc _ _ _ _)) (Snd.exec hc _ _ _ _)) (Snd.exec hc _ _ _ _))))) (Snd.exec hc _ _ _ _)) (fun n x => by kernel_rfl) k)) (Snd.exec hc _ _ _ _))) ⟨f61s5, fun x => spec_l13Values.c5 k S61 x.1.1 x.1.2.1 x.1.2.2.1 x.1.2.2.2.1 x.1.2.2.2.2.1 x.1.2.2.2.2.2.2 x.2⟩ (fun x => by kernel_rfl)) (Snd.exec hc _ _ _ _)) (Snd.exec hc _ _ _ _)) (Snd.exec hc _ _ _ _))
    (fun x => by kernel_rfl)
theorem f61rec (k : Nat) : ∀ d, FnOk Try.prog 61 (f61con (spec_l13Values.d k d))
  | 0 => FnOk_none (fun _ => rfl)
  | d + 1 => let ih := f61rec k d
    f61okb k (spec_l13Values.d k d) ih
theorem f61ok (k : Nat) : FnOk Try.prog 61 (f61con (spec_l13Values k)) := (f61rec k k)

def f18in : SS := ⟨[(0, (.ro (.list 93 (.st (.cons .str (.cons (.int .i64) (.cons (.int .i64) (.cons (.int .i64) .nil)))))))), (1, (.ro (.st (.cons (.list 97 (.st (.cons (.int .i64) (.cons .str .nil)))) .nil)))), (2, (.ro (.int .i64)))], []⟩
def f18out : SS := ⟨[(0, (.h 100)), (1, (.ro .bool))], [(100, (.sl 97 (.st (.cons (.int .i64) (.cons .str .nil)))))]⟩
def f18d4 : SS := ⟨[(0, (.ro (.list 93 (.st (.cons .str (.cons (.int .i64) (.cons (.int .i64) (.cons (.int .i64) .nil)))))))), (2, (.ro (.int .i64))), (4, (.p 100)), (8, (.h 101))], [(100, (.box (.st (.cons (.list 97 (.st (.cons (.int .i64) (.cons .str .nil)))) .nil)) (.agg (.cons (.ro (.list 97 (.st (.cons (.int .i64) (.cons .str .nil))))) .nil)))), (101, (.sl 3 (.int .i64)))]⟩
def f18con (F : (List TCol) → TRec → Int → Option ((Unit × Bool) × (List TVal))) : Con := ⟨f18in, f18out, 3, 2, fun x => F x.1 x.2.1 x.2.2⟩
def f18ctx (k : Nat) : Ctx := ⟨tyAt tys, conAt [(53, [f53con (spec_l1In k)]), (59, [f59con (spec_SchemaLeaves k)]), (60, [f60con (spec_RecOk k)]), (61, [f61con (spec_l13Values k)])], 39, fun _ => false⟩
theorem f18hc (k : Nat) : CtxOk Try.prog (f18ctx k) := ctxOk tys_ok mixed_ok (consOk_cons (f53ok k) (consOk_cons (f59ok k) (consOk_cons (f60ok k) (consOk_cons (f61ok k) (consOk_nil)))))
theorem f18ok (k : Nat) : FnOk Try.prog 18 (f18con (spec_RecValues k)) :=
  let hc := f18hc k
  fnOk (fn := Try.f18) (code := bodyOf Try.f18) (res := [.tmp 6, .tmp 7]) hc (by kernel_rfl) (by kernel_rfl) (by decide) (by kernel_rfl) (by kernel_rfl) (by kernel_rfl) (Nat.le_of_ble_eq_true (by kernel_rfl)) _
    (fun x => Snd.seq (by kernel_rfl) (Snd.seq (by kernel_rfl) (Snd.seq (by kernel_rfl) (Snd.seq (by kernel_rfl) (Snd.exec hc _ _ _ _) (Snd.fork hc (id := 4) (by kernel_rfl) ⟨f18d4, fun x => spec_RecValues.d4 k x.1.1 x.1.2.1 x.2.1 x.2.2⟩ [[0, 1, 3, 4, 5, 2, 6, 7, 8, 9, 10, 11, 12, 13], [0, 1, 3, 4, 5, 2, 7, 6, 8, 9, 10, 11, 12, 13], [0, 1, 3, 4, 5, 6, 2, 7, 8, 9, 10, 11, 12, 13], [0, 1, 3, 4, 5, 6, 7, 2, 8, 9, 10, 11, 12, 13], [0, 1, 3, 4, 5, 7, 2, 6, 8, 9, 10, 11, 12, 13]] (by kernel_rfl) (ords_cons (fun x => by kernel_rfl) (ords_cons (fun x => by kernel_rfl) (ords_cons (fun x => by kernel_rfl) (ords_cons (fun x => by kernel_rfl) (ords_cons (fun x => by kernel_rfl) (ords_nil)))))))) (Snd.exec hc _ _ _ _)) (Snd.exec hc _ _ _ _)) (Snd.exec hc _ _ _ _))
    (fun x => by kernel_rfl)

def f62in : SS := ⟨[(0, (.ro (.st (.cons .str (.cons (.int .i64) (.cons (.int .i64) (.cons (.int .i64) .nil)))))))], []⟩
def f62out : SS := ⟨[(0, (.agg (.cons (.ro .str) (.cons (.ro (.int .i64)) (.cons (.ro (.int .i64)) (.cons (.ro (.int .i64)) .nil))))))], []⟩
def f62con (F : TCol → Option (TCol)) : Con := ⟨f62in, f62out, 1, 1, fun x => F x⟩
def f62ctx (k : Nat) : Ctx := ⟨tyAt tys, conAt [], 17, fun _ => false⟩
theorem f62hc (k : Nat) : CtxOk Try.prog (f62ctx k) := ctxOk tys_ok mixed_ok (consOk_nil)
theorem f62ok (k : Nat) : FnOk Try.prog 62 (f62con (laws_toCol k)) :=
  let hc := f62hc k
  fnOk (fn := Try.f62) (code := bodyOf Try.f62) (res := [.cell 2 93]) hc (by kernel_rfl) (by kernel_rfl) (by decide) (by kernel_rfl) (by kernel_rfl) (by kernel_rfl) (Nat.le_of_ble_eq_true (by kernel_rfl)) _
    (fun x => Snd.exec hc _ _ _ _)
    (fun x => by kernel_rfl)

def f19in : SS := ⟨[(0, (.ro (.list 86 (.st (.cons .str (.cons (.int .i64) (.cons (.int .i64) (.cons (.int .i64) .nil))))))))], []⟩
def f19out : SS := ⟨[(0, (.h 100))], [(100, (.sl 93 (.st (.cons .str (.cons (.int .i64) (.cons (.int .i64) (.cons (.int .i64) .nil)))))))]⟩
def f19s3 : SS := ⟨[(0, (.ro (.list 86 (.st (.cons .str (.cons (.int .i64) (.cons (.int .i64) (.cons (.int .i64) .nil)))))))), (3, (.h 100)), (4, (.ro (.int .i64)))], [(100, (.sl 93 (.st (.cons .str (.cons (.int .i64) (.cons (.int .i64) (.cons (.int .i64) .nil)))))))]⟩
def f19con (F : (List TCol) → Option (Unit × (List TCol))) : Con := ⟨f19in, f19out, 1, 1, fun x => F x⟩
def f19ctx (k : Nat) : Ctx := ⟨tyAt tys, conAt [(62, [f62con (laws_toCol k)])], 23, fun _ => false⟩
theorem f19hc (k : Nat) : CtxOk Try.prog (f19ctx k) := ctxOk tys_ok mixed_ok (consOk_cons (f62ok k) (consOk_nil))
theorem f19ok (k : Nat) : FnOk Try.prog 19 (f19con (laws_toColS k)) :=
  let hc := f19hc k
  fnOk (fn := Try.f19) (code := bodyOf Try.f19) (res := [.tmp 2]) hc (by kernel_rfl) (by kernel_rfl) (by decide) (by kernel_rfl) (by kernel_rfl) (by kernel_rfl) (Nat.le_of_ble_eq_true (by kernel_rfl)) _
    (fun x => Snd.seq (by kernel_rfl) (Snd.seq (by kernel_rfl) (Snd.seq (by kernel_rfl) (Snd.exec hc _ _ _ _) (Snd.seq (by kernel_rfl) (Snd.block (id := 0) (by kernel_rfl) (Snd.loop' (by kernel_rfl) f19s3 (fun n x => laws_toColS.l3 k n x.1.1 x.1.2.2 x.2) _ (fun _ => rfl) (fun n3 => Snd.exec hc _ _ _ _) (fun n x => by kernel_rfl) k)) (Snd.exec hc _ _ _ _))) (Snd.exec hc _ _ _ _)) (Snd.exec hc _ _ _ _))
    (fun x => by kernel_rfl)

def f111in : SS := ⟨[(0, (.ro (.st (.cons (.int .i64) (.cons .str .nil)))))], []⟩
def f111out : SS := ⟨[(0, (.agg (.cons (.ro (.int .i64)) (.cons (.ro .str) .nil))))], []⟩
def f111con (F : TVal → Option (TVal)) : Con := ⟨f111in, f111out, 1, 1, fun x => F x⟩
def f111ctx (k : Nat) : Ctx := ⟨tyAt tys, conAt [], 11, fun _ => false⟩
theorem f111hc (k : Nat) : CtxOk Try.prog (f111ctx k) := ctxOk tys_ok mixed_ok (consOk_nil)
theorem f111ok (k : Nat) : FnOk Try.prog 111 (f111con (laws_toVal k)) :=
  let hc := f111hc k
  fnOk (fn := Try.f111) (code := bodyOf Try.f111) (res := [.cell 2 97]) hc (by kernel_rfl) (by kernel_rfl) (by decide) (by kernel_rfl) (by kernel_rfl) (by kernel_rfl) (Nat.le_of_ble_eq_true (by kernel_rfl)) _
    (fun x => Snd.exec hc _ _ _ _)
    (fun x => by kernel_rfl)

def f63in : SS := ⟨[(0, (.ro (.list 138 (.st (.cons (.int .i64) (.cons .str .nil))))))], []⟩
def f63out : SS := ⟨[(0, (.h 100))], [(100, (.sl 97 (.st (.cons (.int .i64) (.cons .str .nil)))))]⟩
def f63s3 : SS := ⟨[(0, (.ro (.list 138 (.st (.cons (.int .i64) (.cons .str .nil)))))), (3, (.h 100)), (4, (.ro (.int .i64)))], [(100, (.sl 97 (.st (.cons (.int .i64) (.cons .str .nil)))))]⟩
def f63con (F : (List TVal) → Option (Unit × (List TVal))) : Con := ⟨f63in, f63out, 1, 1, fun x => F x⟩
def f63ctx (k : Nat) : Ctx := ⟨tyAt tys, conAt [(111, [f111con (laws_toVal k)])], 23, fun _ => false⟩
theorem f63hc (k : Nat) : CtxOk Try.prog (f63ctx k) := ctxOk tys_ok mixed_ok (consOk_cons (f111ok k) (consOk_nil))
theorem f63ok (k : Nat) : FnOk Try.prog 63 (f63con (laws_toValS k)) :=
  let hc := f63hc k
  fnOk (fn := Try.f63) (code := bodyOf Try.f63) (res := [.tmp 2]) hc (by kernel_rfl) (by kernel_rfl) (by decide) (by kernel_rfl) (by kernel_rfl) (by kernel_rfl) (Nat.le_of_ble_eq_true (by kernel_rfl)) _
    (fun x => Snd.seq (by kernel_rfl) (Snd.seq (by kernel_rfl) (Snd.seq (by kernel_rfl) (Snd.exec hc _ _ _ _) (Snd.seq (by kernel_rfl) (Snd.block (id := 0) (by kernel_rfl) (Snd.loop' (by kernel_rfl) f63s3 (fun n x => laws_toValS.l3 k n x.1.1 x.1.2.2 x.2) _ (fun _ => rfl) (fun n3 => Snd.exec hc _ _ _ _) (fun n x => by kernel_rfl) k)) (Snd.exec hc _ _ _ _))) (Snd.exec hc _ _ _ _)) (Snd.exec hc _ _ _ _))
    (fun x => by kernel_rfl)

def f20in : SS := ⟨[(0, (.ro (.st (.cons (.list 138 (.st (.cons (.int .i64) (.cons .str .nil)))) .nil))))], []⟩
def f20out : SS := ⟨[(0, (.agg (.cons (.h 100) .nil)))], [(100, (.sl 97 (.st (.cons (.int .i64) (.cons .str .nil)))))]⟩
def f20con (F : TRec → Option (((Unit × Unit)) × (List TVal))) : Con := ⟨f20in, f20out, 1, 1, fun x => F x⟩
def f20ctx (k : Nat) : Ctx := ⟨tyAt tys, conAt [(63, [f63con (laws_toValS k)])], 9, fun _ => false⟩
theorem f20hc (k : Nat) : CtxOk Try.prog (f20ctx k) := ctxOk tys_ok mixed_ok (consOk_cons (f63ok k) (consOk_nil))
theorem f20ok (k : Nat) : FnOk Try.prog 20 (f20con (laws_toRec k)) :=
  let hc := f20hc k
  fnOk (fn := Try.f20) (code := bodyOf Try.f20) (res := [.cell 2 45]) hc (by kernel_rfl) (by kernel_rfl) (by decide) (by kernel_rfl) (by kernel_rfl) (by kernel_rfl) (Nat.le_of_ble_eq_true (by kernel_rfl)) _
    (fun x => Snd.exec hc _ _ _ _)
    (fun x => by kernel_rfl)

def f55in : SS := ⟨[(0, (.ro (.int .i64))), (1, (.ro (.int .i64))), (2, (.ro (.int .i64)))], []⟩
def f55out : SS := ⟨[(0, (.ro .bool))], []⟩
def f55con (F : Int → Int → Int → Option Bool) : Con := ⟨f55in, f55out, 3, 1, fun x => F x.1 x.2.1 x.2.2⟩
def f55ctx (k : Nat) : Ctx := ⟨tyAt tys, conAt [], 15, fun _ => false⟩
theorem f55hc (k : Nat) : CtxOk Try.prog (f55ctx k) := ctxOk tys_ok mixed_ok (consOk_nil)
theorem f55ok (k : Nat) : FnOk Try.prog 55 (f55con (impl_within k)) :=
  let hc := f55hc k
  fnOk (fn := Try.f55) (code := bodyOf Try.f55) (res := [.tmp 6]) hc (by kernel_rfl) (by kernel_rfl) (by decide) (by kernel_rfl) (by kernel_rfl) (by kernel_rfl) (Nat.le_of_ble_eq_true (by kernel_rfl)) _
    (fun x => Snd.exec hc _ _ _ _)
    (fun x => by kernel_rfl)

def f123in : SS := ⟨[(0, (.ro (.int .i64)))], []⟩
def f123out : SS := ⟨[(0, (.ro .bool))], []⟩
def f123con (F : Int → Option Bool) : Con := ⟨f123in, f123out, 1, 1, fun x => F x⟩
def f123ctx (k : Nat) : Ctx := ⟨tyAt tys, conAt [(55, [f55con (impl_within k)])], 13, fun _ => false⟩
theorem f123hc (k : Nat) : CtxOk Try.prog (f123ctx k) := ctxOk tys_ok mixed_ok (consOk_cons (f55ok k) (consOk_nil))
theorem f123ok (k : Nat) : FnOk Try.prog 123 (f123con (impl_TypeOk k)) :=
  let hc := f123hc k
  fnOk (fn := Try.f123) (code := bodyOf Try.f123) (res := [.tmp 2]) hc (by kernel_rfl) (by kernel_rfl) (by decide) (by kernel_rfl) (by kernel_rfl) (by kernel_rfl) (Nat.le_of_ble_eq_true (by kernel_rfl)) _
    (fun x => Snd.exec hc _ _ _ _)
    (fun x => by kernel_rfl)

def f141in : SS := ⟨[(0, (.ro (.st (.cons .str (.cons (.int .i64) (.cons (.int .i64) (.cons (.int .i64) .nil)))))))], []⟩
def f141out : SS := ⟨[(0, (.ro .bool))], []⟩
def f141con (F : TCol → Option Bool) : Con := ⟨f141in, f141out, 1, 1, fun x => F x⟩
def f141ctx (k : Nat) : Ctx := ⟨tyAt tys, conAt [(55, [f55con (impl_within k)]), (123, [f123con (impl_TypeOk k)])], 30, fun _ => false⟩
theorem f141hc (k : Nat) : CtxOk Try.prog (f141ctx k) := ctxOk tys_ok mixed_ok (consOk_cons (f55ok k) (consOk_cons (f123ok k) (consOk_nil)))
theorem f141ok (k : Nat) : FnOk Try.prog 141 (f141con (impl_colOk k)) :=
  let hc := f141hc k
  fnOk (fn := Try.f141) (code := bodyOf Try.f141) (res := [.tmp 2]) hc (by kernel_rfl) (by kernel_rfl) (by decide) (by kernel_rfl) (by kernel_rfl) (by kernel_rfl) (Nat.le_of_ble_eq_true (by kernel_rfl)) _
    (fun x => Snd.exec hc _ _ _ _)
    (fun x => by kernel_rfl)

def f142in : SS := ⟨[(0, (.ro .str))], []⟩
def f142out : SS := ⟨[(0, (.ro .bool))], []⟩
def f142s2 : SS := ⟨[(0, (.ro .str)), (5, (.ro (.int .i64))), (6, (.ro (.int .i64)))], []⟩
def f142con (F : ByteArray → Option Bool) : Con := ⟨f142in, f142out, 1, 1, fun x => F x⟩
def f142ctx (k : Nat) : Ctx := ⟨tyAt tys, conAt [(55, [f55con (impl_within k)])], 19, fun _ => false⟩
theorem f142hc (k : Nat) : CtxOk Try.prog (f142ctx k) := ctxOk tys_ok mixed_ok (consOk_cons (f55ok k) (consOk_nil))
theorem f142ok (k : Nat) : FnOk Try.prog 142 (f142con (impl_isColName k)) :=
  let hc := f142hc k
  fnOk (fn := Try.f142) (code := bodyOf Try.f142) (res := [.tmp 2]) hc (by kernel_rfl) (by kernel_rfl) (by decide) (by kernel_rfl) (by kernel_rfl) (by kernel_rfl) (Nat.le_of_ble_eq_true (by kernel_rfl)) _
    (fun x => Snd.seq (by kernel_rfl) (Snd.seq (by kernel_rfl) (Snd.exec hc _ _ _ _) (Snd.seq (by kernel_rfl) (Snd.block (id := 0) (by kernel_rfl) (Snd.loop' (by kernel_rfl) f142s2 (fun n x => impl_isColName.l2 k n x.1 x.2.1 x.2.2) _ (fun _ => rfl) (fun n2 => Snd.exec hc _ _ _ _) (fun n x => by kernel_rfl) k)) (Snd.exec hc _ _ _ _))) (Snd.exec hc _ _ _ _))
    (fun x => by kernel_rfl)

def f89in : SS := ⟨[(0, (.ro (.list 93 (.st (.cons .str (.cons (.int .i64) (.cons (.int .i64) (.cons (.int .i64) .nil)))))))), (1, (.ro (.int .i64))), (2, (.ro (.int .i64)))], []⟩
def f89out : SS := ⟨[(0, (.ro (.int .i64)))], []⟩
def f89s10 : SS := ⟨[(0, (.ro (.list 93 (.st (.cons .str (.cons (.int .i64) (.cons (.int .i64) (.cons (.int .i64) .nil)))))))), (2, (.ro (.int .i64))), (7, (.ro (.int .i64))), (8, (.h 100)), (47, (.ro (.int .i64))), (48, (.ro (.int .i64))), (54, (.h 100)), (55, (.ro (.int .i64))), (56, (.ro (.int .i64)))], [(100, (.sl 9 .str))]⟩
def f89s6 : SS := ⟨[(0, (.ro (.list 93 (.st (.cons .str (.cons (.int .i64) (.cons (.int .i64) (.cons (.int .i64) .nil)))))))), (2, (.ro (.int .i64))), (7, (.ro (.int .i64))), (8, (.h 100)), (47, (.ro (.int .i64))), (48, (.ro (.int .i64)))], [(100, (.sl 9 .str))]⟩
def f89con (F : (List TCol) → Int → Int → Option Int) : Con := ⟨f89in, f89out, 3, 1, fun x => F x.1 x.2.1 x.2.2⟩
def f89ctx (k : Nat) (S89 : (List TCol) → Int → Int → Option Int) : Ctx := ⟨tyAt tys, conAt [(89, [f89con S89]), (141, [f141con (impl_colOk k)]), (142, [f142con (impl_isColName k)])], 85, fun _ => false⟩
theorem f89hc (k : Nat) (S89 : (List TCol) → Int → Int → Option Int) (h89 : FnOk Try.prog 89 (f89con S89)) : CtxOk Try.prog (f89ctx k S89) := ctxOk tys_ok mixed_ok (consOk_cons (h89) (consOk_cons (f141ok k) (consOk_cons (f142ok k) (consOk_nil))))
theorem f89okb (k : Nat) (S89 : (List TCol) → Int → Int → Option Int) (h89 : FnOk Try.prog 89 (f89con S89)) : FnOk Try.prog 89 (f89con (impl_colAfter.b k S89)) :=
  let hc := f89hc k S89 h89
  fnOk (fn := Try.f89) (code := bodyOf Try.f89) (res := [.tmp 6]) hc (by kernel_rfl) (by kernel_rfl) (by decide) (by kernel_rfl) (by kernel_rfl) (by kernel_rfl) (Nat.le_of_ble_eq_true (by kernel_rfl)) _
    (fun x => Snd.seq (by kernel_rfl) (Snd.seq (by kernel_rfl) (Snd.seq (by kernel_rfl) (Snd.seq (by kernel_rfl) (Snd.seq (by kernel_rfl) (Snd.exec hc _ _ _ _) (Snd.seq (by kernel_rfl) (Snd.block (id := 0) (by kernel_rfl) (Snd.loop' (by kernel_rfl) f89s6 (fun n x => impl_colAfter.l6 k S89 n x.1.1 x.1.2.1 x.1.2.2.1 x.1.2.2.2.2.1 x.1.2.2.2.2.2 x.2) _ (fun _ => rfl) (fun n6 => Snd.seq (by kernel_rfl) (Snd.seq (by kernel_rfl) (Snd.seq (by kernel_rfl) (Snd.exec hc _ _ _ _) (Snd.block (id := 1) (by kernel_rfl) (Snd.seq (by kernel_rfl) (Snd.seq (by kernel_rfl) (Snd.exec hc _ _ _ _) (Snd.seq (by kernel_rfl) (Snd.block (id := 2) (by kernel_rfl) (Snd.loop' (by kernel_rfl) f89s10 (fun n x => impl_colAfter.l10 k S89 (impl_colAfter.l6 k S89 n6) n x.1.1 x.1.2.1 x.1.2.2.1 x.1.2.2.2.2.1 x.1.2.2.2.2.2.1 x.1.2.2.2.2.2.2.2.1 x.1.2.2.2.2.2.2.2.2 x.2) _ (fun _ => rfl) (fun n10 => Snd.exec hc _ _ _ _) (fun n x => by kernel_rfl) k)) (Snd.exec hc _ _ _ _))) (Snd.exec hc _ _ _ _)))) (Snd.exec hc _ _ _ _)) (Snd.exec hc _ _ _ _)) (fun n x => by kernel_rfl) k)) (Snd.exec hc _ _ _ _))) (Snd.exec hc _ _ _ _)) (Snd.exec hc _ _ _ _)) (Snd.exec hc _ _ _ _)) (Snd.exec hc _ _ _ _))
    (fun x => by kernel_rfl)
theorem f89rec (k : Nat) : ∀ d, FnOk Try.prog 89 (f89con (impl_colAfter.d k d))
  | 0 => FnOk_none (fun _ => rfl)
  | d + 1 => let ih := f89rec k d
    f89okb k (impl_colAfter.d k d) ih
theorem f89ok (k : Nat) : FnOk Try.prog 89 (f89con (impl_colAfter k)) := (f89rec k k)

def f46in : SS := ⟨[(0, (.ro (.list 93 (.st (.cons .str (.cons (.int .i64) (.cons (.int .i64) (.cons (.int .i64) .nil))))))))], []⟩
def f46out : SS := ⟨[(0, (.ro .bool))], []⟩
def f46con (F : (List TCol) → Option Bool) : Con := ⟨f46in, f46out, 1, 1, fun x => F x⟩
def f46ctx (k : Nat) : Ctx := ⟨tyAt tys, conAt [(55, [f55con (impl_within k)]), (89, [f89con (impl_colAfter k)])], 33, fun _ => false⟩
theorem f46hc (k : Nat) : CtxOk Try.prog (f46ctx k) := ctxOk tys_ok mixed_ok (consOk_cons (f55ok k) (consOk_cons (f89ok k) (consOk_nil)))
theorem f46ok (k : Nat) : FnOk Try.prog 46 (f46con (impl_SchemaOk k)) :=
  let hc := f46hc k
  fnOk (fn := Try.f46) (code := bodyOf Try.f46) (res := [.tmp 2]) hc (by kernel_rfl) (by kernel_rfl) (by decide) (by kernel_rfl) (by kernel_rfl) (by kernel_rfl) (Nat.le_of_ble_eq_true (by kernel_rfl)) _
    (fun x => Snd.exec hc _ _ _ _)
    (fun x => by kernel_rfl)

def f112in : SS := ⟨[(0, (.ro (.list 93 (.st (.cons .str (.cons (.int .i64) (.cons (.int .i64) (.cons (.int .i64) .nil))))))))], []⟩
def f112out : SS := ⟨[(0, (.h 100))], [(100, (.sl 3 (.int .i64)))]⟩
def f112s7 : SS := ⟨[(3, (.h 100)), (7, (.ro (.list 93 (.st (.cons .str (.cons (.int .i64) (.cons (.int .i64) (.cons (.int .i64) .nil)))))))), (8, (.ro (.int .i64))), (9, (.ro (.int .i64)))], [(100, (.sl 3 (.int .i64)))]⟩
def f112s3 : SS := ⟨[(3, (.h 100)), (7, (.ro (.list 93 (.st (.cons .str (.cons (.int .i64) (.cons (.int .i64) (.cons (.int .i64) .nil)))))))), (8, (.ro (.int .i64))), (9, (.ro (.int .i64)))], [(100, (.sl 3 (.int .i64)))]⟩
def f112con (F : (List TCol) → Option (Unit × (List Int))) : Con := ⟨f112in, f112out, 1, 1, fun x => F x⟩
def f112ctx (k : Nat) : Ctx := ⟨tyAt tys, conAt [], 23, fun _ => false⟩
theorem f112hc (k : Nat) : CtxOk Try.prog (f112ctx k) := ctxOk tys_ok mixed_ok (consOk_nil)
theorem f112ok (k : Nat) : FnOk Try.prog 112 (f112con (impl_leavesOf k)) :=
  let hc := f112hc k
  fnOk (fn := Try.f112) (code := bodyOf Try.f112) (res := [.tmp 2]) hc (by kernel_rfl) (by kernel_rfl) (by decide) (by kernel_rfl) (by kernel_rfl) (by kernel_rfl) (Nat.le_of_ble_eq_true (by kernel_rfl)) _
    (fun x => Snd.seq (by kernel_rfl) (Snd.seq (by kernel_rfl) (Snd.seq (by kernel_rfl) (Snd.exec hc _ _ _ _) (Snd.seq (by kernel_rfl) (Snd.block (id := 0) (by kernel_rfl) (Snd.loop' (by kernel_rfl) f112s3 (fun n x => impl_leavesOf.l3 k n x.1.2.1 x.1.2.2.1 x.1.2.2.2 x.2) _ (fun _ => rfl) (fun n3 => Snd.seq (by kernel_rfl) (Snd.seq (by kernel_rfl) (Snd.seq (by kernel_rfl) (Snd.cut (Snd.exec hc _ _ _ _) ⟨f112s7, fun x => impl_leavesOf.c7 k (impl_leavesOf.l3 k n3) x.1.2.1 x.1.2.2.1 x.1.2.2.2 x.2⟩ (fun x => by kernel_rfl)) (Snd.exec hc _ _ _ _)) (Snd.exec hc _ _ _ _)) (Snd.exec hc _ _ _ _)) (fun n x => by kernel_rfl) k)) (Snd.exec hc _ _ _ _))) (Snd.exec hc _ _ _ _)) (Snd.exec hc _ _ _ _))
    (fun x => by kernel_rfl)

def f64in : SS := ⟨[(0, (.ro (.list 93 (.st (.cons .str (.cons (.int .i64) (.cons (.int .i64) (.cons (.int .i64) .nil))))))))], []⟩
def f64out : SS := ⟨[(0, (.h 100))], [(100, (.sl 3 (.int .i64)))]⟩
def f64con (F : (List TCol) → Option (Unit × (List Int))) : Con := ⟨f64in, f64out, 1, 1, fun x => F x⟩
def f64ctx (k : Nat) : Ctx := ⟨tyAt tys, conAt [(46, [f46con (impl_SchemaOk k)]), (112, [f112con (impl_leavesOf k)])], 8, fun _ => false⟩
theorem f64hc (k : Nat) : CtxOk Try.prog (f64ctx k) := ctxOk tys_ok mixed_ok (consOk_cons (f46ok k) (consOk_cons (f112ok k) (consOk_nil)))
theorem f64ok (k : Nat) : FnOk Try.prog 64 (f64con (impl_SchemaLeaves k)) :=
  let hc := f64hc k
  fnOk (fn := Try.f64) (code := bodyOf Try.f64) (res := [.tmp 2]) hc (by kernel_rfl) (by kernel_rfl) (by decide) (by kernel_rfl) (by kernel_rfl) (by kernel_rfl) (Nat.le_of_ble_eq_true (by kernel_rfl)) _
    (fun x => Snd.exec hc _ _ _ _)
    (fun x => by kernel_rfl)

def f102in : SS := ⟨[(0, (.ro (.int .i64)))], []⟩
def f102out : SS := ⟨[(0, (.ro .bool))], []⟩
def f102con (F : Int → Option Bool) : Con := ⟨f102in, f102out, 1, 1, fun x => F x⟩
def f102ctx (k : Nat) : Ctx := ⟨tyAt tys, conAt [(55, [f55con (impl_within k)])], 5, fun _ => false⟩
theorem f102hc (k : Nat) : CtxOk Try.prog (f102ctx k) := ctxOk tys_ok mixed_ok (consOk_cons (f55ok k) (consOk_nil))
theorem f102ok (k : Nat) : FnOk Try.prog 102 (f102con (impl_isInt32 k)) :=
  let hc := f102hc k
  fnOk (fn := Try.f102) (code := bodyOf Try.f102) (res := [.tmp 2]) hc (by kernel_rfl) (by kernel_rfl) (by decide) (by kernel_rfl) (by kernel_rfl) (by kernel_rfl) (Nat.le_of_ble_eq_true (by kernel_rfl)) _
    (fun x => Snd.exec hc _ _ _ _)
    (fun x => by kernel_rfl)

def f122in : SS := ⟨[(0, (.ro (.int .i64))), (1, (.ro (.st (.cons (.int .i64) (.cons .str .nil)))))], []⟩
def f122out : SS := ⟨[(0, (.ro .bool))], []⟩
def f122s8 : SS := ⟨[(0, (.ro (.int .i64))), (3, (.p 100)), (26, (.ro .bool))], [(100, (.box (.st (.cons (.int .i64) (.cons .str .nil))) (.agg (.cons (.ro (.int .i64)) (.cons (.ro .str) .nil)))))]⟩
def f122con (F : Int → TVal → Option Bool) : Con := ⟨f122in, f122out, 2, 1, fun x => F x.1 x.2⟩
def f122ctx (k : Nat) : Ctx := ⟨tyAt tys, conAt [(55, [f55con (impl_within k)]), (102, [f102con (impl_isInt32 k)])], 45, fun _ => false⟩
theorem f122hc (k : Nat) : CtxOk Try.prog (f122ctx k) := ctxOk tys_ok mixed_ok (consOk_cons (f55ok k) (consOk_cons (f102ok k) (consOk_nil)))
theorem f122ok (k : Nat) : FnOk Try.prog 122 (f122con (impl_ValOk k)) :=
  let hc := f122hc k
  fnOk (fn := Try.f122) (code := bodyOf Try.f122) (res := [.tmp 4]) hc (by kernel_rfl) (by kernel_rfl) (by decide) (by kernel_rfl) (by kernel_rfl) (by kernel_rfl) (Nat.le_of_ble_eq_true (by kernel_rfl)) _
    (fun x => Snd.seq (by kernel_rfl) (Snd.seq (by kernel_rfl) (Snd.exec hc _ _ _ _) (Snd.seq (by kernel_rfl) (Snd.block (id := 0) (by kernel_rfl) (Snd.seq (by kernel_rfl) (Snd.cond (x := .tmp 6) (by kernel_rfl) (Snd.exec hc _ _ _ _) (Snd.seq (by kernel_rfl) (Snd.cond (x := .tmp 16) (by kernel_rfl) (Snd.exec hc _ _ _ _) (Snd.seq (by kernel_rfl) (Snd.cut (Snd.exec hc _ _ _ _) ⟨f122s8, fun x => impl_ValOk.c8 k x.1.1 x.1.2.2 x.2⟩ (fun x => by kernel_rfl)) (Snd.exec hc _ _ _ _))) (Snd.exec hc _ _ _ _))) (Snd.exec hc _ _ _ _))) (Snd.exec hc _ _ _ _))) (Snd.exec hc _ _ _ _))
    (fun x => by kernel_rfl)

def f153i3in : SS := ⟨[(0, (.p 0))], [(0, (.box (.st (.cons (.list 93 (.st (.cons .str (.cons (.int .i64) (.cons (.int .i64) (.cons (.int .i64) .nil)))))) (.cons (.list 97 (.st (.cons (.int .i64) (.cons .str .nil)))) (.cons .bool (.cons .ptr (.cons .ptr .nil)))))) (.agg (.cons (.ro (.list 93 (.st (.cons .str (.cons (.int .i64) (.cons (.int .i64) (.cons (.int .i64) .nil))))))) (.cons (.ro (.list 97 (.st (.cons (.int .i64) (.cons .str .nil))))) (.cons (.ro .bool) (.cons (.fn 65 (.cons (.p 10) (.cons (.p 12) (.cons (.p 13) .nil)))) (.cons (.fn 67 .nil) .nil)))))))), (10, (.box (.list 3 (.int .i64)) (.h 11))), (11, (.sl 3 (.int .i64))), (12, (.box (.int .i64) (.ro (.int .i64)))), (13, (.box (.list 97 (.st (.cons (.int .i64) (.cons .str .nil)))) (.h 14))), (14, (.sl 97 (.st (.cons (.int .i64) (.cons .str .nil)))))]⟩
def f153i3out : SS := ⟨[(0, (.agg (.cons (.ro (.int .i64)) (.cons (.ro .str) .nil))))], [(0, (.box (.st (.cons (.list 93 (.st (.cons .str (.cons (.int .i64) (.cons (.int .i64) (.cons (.int .i64) .nil)))))) (.cons (.list 97 (.st (.cons (.int .i64) (.cons .str .nil)))) (.cons .bool (.cons .ptr (.cons .ptr .nil)))))) (.agg (.cons (.ro (.list 93 (.st (.cons .str (.cons (.int .i64) (.cons (.int .i64) (.cons (.int .i64) .nil))))))) (.cons (.ro (.list 97 (.st (.cons (.int .i64) (.cons .str .nil))))) (.cons (.ro .bool) (.cons (.fn 65 (.cons (.p 10) (.cons (.p 12) (.cons (.p 13) .nil)))) (.cons (.fn 67 .nil) .nil)))))))), (10, (.box (.list 3 (.int .i64)) (.h 11))), (11, (.sl 3 (.int .i64))), (12, (.box (.int .i64) (.ro (.int .i64)))), (13, (.box (.list 97 (.st (.cons (.int .i64) (.cons .str .nil)))) (.h 14))), (14, (.sl 97 (.st (.cons (.int .i64) (.cons .str .nil)))))]⟩
def f153i3con (F : TWalkerB → Unit → (List Int) → Int → Unit → (List TVal) → Option ((TVal) × TWalkerB × Unit × (List Int) × Int × Unit × (List TVal))) : Con := ⟨f153i3in, f153i3out, 1, 1, fun x => F x.2.1 x.2.2.1 x.2.2.2.1 x.2.2.2.2.1 x.2.2.2.2.2.1 x.2.2.2.2.2.2⟩
def f153i3ctx (k : Nat) : Ctx := ⟨tyAt tys, conAt [], 35, fun _ => false⟩
theorem f153i3hc (k : Nat) : CtxOk Try.prog (f153i3ctx k) := ctxOk tys_ok mixed_ok (consOk_nil)
theorem f153i3ok (k : Nat) : FnOk Try.prog 153 (f153i3con (impl_walker_next_of_RecValues_1_RecValues_2 k)) :=
  let hc := f153i3hc k
  fnOk (fn := Try.f153) (code := bodyOf Try.f153) (res := [.cell 2 97]) hc (by kernel_rfl) (by kernel_rfl) (by decide) (by kernel_rfl) (by kernel_rfl) (by kernel_rfl) (Nat.le_of_ble_eq_true (by kernel_rfl)) _
    (fun x => Snd.exec hc _ _ _ _)
    (fun x => by kernel_rfl)

def f176i5in : SS := ⟨[(0, (.p 0)), (1, (.ro (.int .i64)))], [(0, (.box (.st (.cons (.list 93 (.st (.cons .str (.cons (.int .i64) (.cons (.int .i64) (.cons (.int .i64) .nil)))))) (.cons (.list 97 (.st (.cons (.int .i64) (.cons .str .nil)))) (.cons .bool (.cons .ptr (.cons .ptr .nil)))))) (.agg (.cons (.ro (.list 93 (.st (.cons .str (.cons (.int .i64) (.cons (.int .i64) (.cons (.int .i64) .nil))))))) (.cons (.ro (.list 97 (.st (.cons (.int .i64) (.cons .str .nil))))) (.cons (.ro .bool) (.cons (.fn 65 (.cons (.p 10) (.cons (.p 12) (.cons (.p 13) .nil)))) (.cons (.fn 67 .nil) .nil)))))))), (10, (.box (.list 3 (.int .i64)) (.h 11))), (11, (.sl 3 (.int .i64))), (12, (.box (.int .i64) (.ro (.int .i64)))), (13, (.box (.list 97 (.st (.cons (.int .i64) (.cons .str .nil)))) (.h 14))), (14, (.sl 97 (.st (.cons (.int .i64) (.cons .str .nil)))))]⟩
def f176i5out : SS := ⟨[(0, (.ro (.int .i64)))], [(0, (.box (.st (.cons (.list 93 (.st (.cons .str (.cons (.int .i64) (.cons (.int .i64) (.cons (.int .i64) .nil)))))) (.cons (.list 97 (.st (.cons (.int .i64) (.cons .str .nil)))) (.cons .bool (.cons .ptr (.cons .ptr .nil)))))) (.agg (.cons (.ro (.list 93 (.st (.cons .str (.cons (.int .i64) (.cons (.int .i64) (.cons (.int .i64) .nil))))))) (.cons (.ro (.list 97 (.st (.cons (.int .i64) (.cons .str .nil))))) (.cons (.ro .bool) (.cons (.fn 65 (.cons (.p 10) (.cons (.p 12) (.cons (.p 13) .nil)))) (.cons (.fn 67 .nil) .nil)))))))), (10, (.box (.list 3 (.int .i64)) (.h 11))), (11, (.sl 3 (.int .i64))), (12, (.box (.int .i64) (.ro (.int .i64)))), (13, (.box (.list 97 (.st (.cons (.int .i64) (.cons .str .nil)))) (.h 14))), (14, (.sl 97 (.st (.cons (.int .i64) (.cons .str .nil)))))]⟩
def f176i5con (F : Int → TWalkerB → Unit → (List Int) → Int → Unit → (List TVal) → Option (Int × TWalkerB × Unit × (List Int) × Int × Unit × (List TVal))) : Con := ⟨f176i5in, f176i5out, 2, 1, fun x => F x.1.2 x.2.1 x.2.2.1 x.2.2.2.1 x.2.2.2.2.1 x.2.2.2.2.2.1 x.2.2.2.2.2.2⟩
def f176i5ctx (k : Nat) : Ctx := ⟨tyAt tys, conAt [(55, [f55con (impl_within k)]), (153, [f153i3con (impl_walker_next_of_RecValues_1_RecValues_2 k)])], 23, fun _ => false⟩
theorem f176i5hc (k : Nat) : CtxOk Try.prog (f176i5ctx k) := ctxOk tys_ok mixed_ok (consOk_cons (f55ok k) (consOk_cons (f153i3ok k) (consOk_nil)))
theorem f176i5ok (k : Nat) : FnOk Try.prog 176 (f176i5con (impl_walker_count_of_RecValues_1_RecValues_2 k)) :=
  let hc := f176i5hc k
  fnOk (fn := Try.f176) (code := bodyOf Try.f176) (res := [.tmp 4]) hc (by kernel_rfl) (by kernel_rfl) (by decide) (by kernel_rfl) (by kernel_rfl) (by kernel_rfl) (Nat.le_of_ble_eq_true (by kernel_rfl)) _
    (fun x => Snd.exec hc _ _ _ _)
    (fun x => by kernel_rfl)

def f67in : SS := ⟨[(0, (.ro (.int .i64))), (1, (.ro (.int .i64))), (2, (.ro (.int .i64)))], []⟩
def f67out : SS := ⟨[], []⟩
def f67con (F : Int → Int → Int → Option Unit) : Con := ⟨f67in, f67out, 3, 0, fun x => F x.1 x.2.1 x.2.2⟩
def f67ctx (k : Nat) : Ctx := ⟨tyAt tys, conAt [], 6, fun _ => false⟩
theorem f67hc (k : Nat) : CtxOk Try.prog (f67ctx k) := ctxOk tys_ok mixed_ok (consOk_nil)
theorem f67ok (k : Nat) : FnOk Try.prog 67 (f67con (impl_RecValues_2 k)) :=
  let hc := f67hc k
  fnOk (fn := Try.f67) (code := bodyOf Try.f67) (res := []) hc (by kernel_rfl) (by kernel_rfl) (by decide) (by kernel_rfl) (by kernel_rfl) (by kernel_rfl) (Nat.le_of_ble_eq_true (by kernel_rfl)) _
    (fun x => Snd.exec hc _ _ _ _)
    (fun x => by kernel_rfl)

def f177i7in : SS := ⟨[(0, (.p 0)), (1, (.ro (.int .i64))), (2, (.ro (.int .i64))), (3, (.ro (.int .i64)))], [(0, (.box (.st (.cons (.list 93 (.st (.cons .str (.cons (.int .i64) (.cons (.int .i64) (.cons (.int .i64) .nil)))))) (.cons (.list 97 (.st (.cons (.int .i64) (.cons .str .nil)))) (.cons .bool (.cons .ptr (.cons .ptr .nil)))))) (.agg (.cons (.ro (.list 93 (.st (.cons .str (.cons (.int .i64) (.cons (.int .i64) (.cons (.int .i64) .nil))))))) (.cons (.ro (.list 97 (.st (.cons (.int .i64) (.cons .str .nil))))) (.cons (.ro .bool) (.cons (.fn 65 (.cons (.p 10) (.cons (.p 12) (.cons (.p 13) .nil)))) (.cons (.fn 67 .nil) .nil)))))))), (10, (.box (.list 3 (.int .i64)) (.h 11))), (11, (.sl 3 (.int .i64))), (12, (.box (.int .i64) (.ro (.int .i64)))), (13, (.box (.list 97 (.st (.cons (.int .i64) (.cons .str .nil)))) (.h 14))), (14, (.sl 97 (.st (.cons (.int .i64) (.cons .str .nil)))))]⟩
def f177i7out : SS := ⟨[(0, (.ro (.int .i64)))], [(0, (.box (.st (.cons (.list 93 (.st (.cons .str (.cons (.int .i64) (.cons (.int .i64) (.cons (.int .i64) .nil)))))) (.cons (.list 97 (.st (.cons (.int .i64) (.cons .str .nil)))) (.cons .bool (.cons .ptr (.cons .ptr .nil)))))) (.agg (.cons (.ro (.list 93 (.st (.cons .str (.cons (.int .i64) (.cons (.int .i64) (.cons (.int .i64) .nil))))))) (.cons (.ro (.list 97 (.st (.cons (.int .i64) (.cons .str .nil))))) (.cons (.ro .bool) (.cons (.fn 65 (.cons (.p 10) (.cons (.p 12) (.cons (.p 13) .nil)))) (.cons (.fn 67 .nil) .nil)))))))), (10, (.box (.list 3 (.int .i64)) (.h 11))), (11, (.sl 3 (.int .i64))), (12, (.box (.int .i64) (.ro (.int .i64)))), (13, (.box (.list 97 (.st (.cons (.int .i64) (.cons .str .nil)))) (.h 14))), (14, (.sl 97 (.st (.cons (.int .i64) (.cons .str .nil)))))]⟩
def f177i7s4 : SS := ⟨[(0, (.p 0)), (2, (.ro (.int .i64))), (3, (.ro (.int .i64))), (9, (.ro (.int .i64))), (10, (.ro (.int .i64)))], [(0, (.box (.st (.cons (.list 93 (.st (.cons .str (.cons (.int .i64) (.cons (.int .i64) (.cons (.int .i64) .nil)))))) (.cons (.list 97 (.st (.cons (.int .i64) (.cons .str .nil)))) (.cons .bool (.cons .ptr (.cons .ptr .nil)))))) (.agg (.cons (.ro (.list 93 (.st (.cons .str (.cons (.int .i64) (.cons (.int .i64) (.cons (.int .i64) .nil))))))) (.cons (.ro (.list 97 (.st (.cons (.int .i64) (.cons .str .nil))))) (.cons (.ro .bool) (.cons (.fn 65 (.cons (.p 10) (.cons (.p 12) (.cons (.p 13) .nil)))) (.cons (.fn 67 .nil) .nil)))))))), (10, (.box (.list 3 (.int .i64)) (.h 11))), (11, (.sl 3 (.int .i64))), (12, (.box (.int .i64) (.ro (.int .i64)))), (13, (.box (.list 97 (.st (.cons (.int .i64) (.cons .str .nil)))) (.h 14))), (14, (.sl 97 (.st (.cons (.int .i64) (.cons .str .nil)))))]⟩
def f177i7s3 : SS := ⟨[(0, (.p 0)), (2, (.ro (.int .i64))), (3, (.ro (.int .i64))), (9, (.ro (.int .i64))), (10, (.ro (.int .i64)))], [(0, (.box (.st (.cons (.list 93 (.st (.cons .str (.cons (.int .i64) (.cons (.int .i64) (.cons (.int .i64) .nil)))))) (.cons (.list 97 (.st (.cons (.int .i64) (.cons .str .nil)))) (.cons .bool (.cons .ptr (.cons .ptr .nil)))))) (.agg (.cons (.ro (.list 93 (.st (.cons .str (.cons (.int .i64) (.cons (.int .i64) (.cons (.int .i64) .nil))))))) (.cons (.ro (.list 97 (.st (.cons (.int .i64) (.cons .str .nil))))) (.cons (.ro .bool) (.cons (.fn 65 (.cons (.p 10) (.cons (.p 12) (.cons (.p 13) .nil)))) (.cons (.fn 67 .nil) .nil)))))))), (10, (.box (.list 3 (.int .i64)) (.h 11))), (11, (.sl 3 (.int .i64))), (12, (.box (.int .i64) (.ro (.int .i64)))), (13, (.box (.list 97 (.st (.cons (.int .i64) (.cons .str .nil)))) (.h 14))), (14, (.sl 97 (.st (.cons (.int .i64) (.cons .str .nil)))))]⟩
def f177i7con (F : Int → Int → Int → TWalkerB → Unit → (List Int) → Int → Unit → (List TVal) → Option (Int × TWalkerB × Unit × (List Int) × Int × Unit × (List TVal))) : Con := ⟨f177i7in, f177i7out, 4, 1, fun x => F x.1.2.1 x.1.2.2.1 x.1.2.2.2 x.2.1 x.2.2.1 x.2.2.2.1 x.2.2.2.2.1 x.2.2.2.2.2.1 x.2.2.2.2.2.2⟩
def f177i7ctx (k : Nat) : Ctx := ⟨tyAt tys, conAt [(67, [f67con (impl_RecValues_2 k)]), (89, [f89con (impl_colAfter k)])], 41, fun _ => false⟩
theorem f177i7hc (k : Nat) : CtxOk Try.prog (f177i7ctx k) := ctxOk tys_ok mixed_ok (consOk_cons (f67ok k) (consOk_cons (f89ok k) (consOk_nil)))
theorem f177i7ok (k : Nat) : FnOk Try.prog 177 (f177i7con (impl_walker_missing_of_RecValues_1_RecValues_2 k)) :=
  let hc := f177i7hc k
  fnOk (fn := Try.f177) (code := bodyOf Try.f177) (res := [.tmp 8]) hc (by kernel_rfl) (by kernel_rfl) (by decide) (by kernel_rfl) (by kernel_rfl) (by kernel_rfl) (Nat.le_of_ble_eq_true (by kernel_rfl)) _
    (fun x => Snd.seq (by kernel_rfl) (Snd.seq (by kernel_rfl) (Snd.seq (by kernel_rfl) (Snd.exec hc _ _ _ _) (Snd.seq (by kernel_rfl) (Snd.block (id := 0) (by kernel_rfl) (Snd.loop' (by kernel_rfl) f177i7s3 (fun n x => impl_walker_missing_of_RecValues_1_RecValues_2.l3 k n x.1.2.1 x.1.2.2.1 x.1.2.2.2.1 x.1.2.2.2.2 x.2.1 x.2.2.1 x.2.2.2.1 x.2.2.2.2.1 x.2.2.2.2.2.1 x.2.2.2.2.2.2) _ (fun _ => rfl) (fun n3 => Snd.seq (by kernel_rfl) (Snd.seq (by kernel_rfl) (Snd.cut (Snd.exec hc _ _ _ _) ⟨f177i7s4, fun x => impl_walker_missing_of_RecValues_1_RecValues_2.c4 k (impl_walker_missing_of_RecValues_1_RecValues_2.l3 k n3) x.1.2.1 x.1.2.2.1 x.1.2.2.2.1 x.1.2.2.2.2 x.2.1 x.2.2.1 x.2.2.2.1 x.2.2.2.2.1 x.2.2.2.2.2.1 x.2.2.2.2.2.2⟩ (fun x => by kernel_rfl)) (Snd.exec hc _ _ _ _)) (Snd.exec hc _ _ _ _)) (fun n x => by kernel_rfl) k)) (Snd.exec hc _ _ _ _))) (Snd.exec hc _ _ _ _)) (Snd.exec hc _ _ _ _))
    (fun x => by kernel_rfl)

def f65i6in : SS := ⟨[(0, (.ro (.int .i64))), (1, (.ro (.int .i64))), (2, (.ro (.int .i64))), (3, (.ro (.st (.cons (.int .i64) (.cons .str .nil))))), (4, (.p 4)), (5, (.p 5)), (6, (.p 6))], [(4, (.box (.list 3 (.int .i64)) (.h 10))), (5, (.box (.int .i64) (.ro (.int .i64)))), (6, (.box (.list 97 (.st (.cons (.int .i64) (.cons .str .nil)))) (.h 11))), (10, (.sl 3 (.int .i64))), (11, (.sl 97 (.st (.cons (.int .i64) (.cons .str .nil)))))]⟩
def f65i6out : SS := ⟨[], [(4, (.box (.list 3 (.int .i64)) (.h 10))), (5, (.box (.int .i64) (.ro (.int .i64)))), (6, (.box (.list 97 (.st (.cons (.int .i64) (.cons .str .nil)))) (.h 100))), (10, (.sl 3 (.int .i64))), (100, (.sl 97 (.st (.cons (.int .i64) (.cons .str .nil)))))]⟩
def f65i6con (F : Int → Int → Int → TVal → Unit → Int → Unit → (List Int) → (List TVal) → Option (Unit × Unit × Int × Unit × (List Int) × (List TVal))) : Con := ⟨f65i6in, f65i6out, 7, 0, fun x => F x.1.1 x.1.2.1 x.1.2.2.1 x.1.2.2.2.1 x.2.1 x.2.2.1 x.2.2.2.1 x.2.2.2.2.1 x.2.2.2.2.2⟩
def f65i6ctx (k : Nat) : Ctx := ⟨tyAt tys, conAt [], 21, fun _ => false⟩
theorem f65i6hc (k : Nat) : CtxOk Try.prog (f65i6ctx k) := ctxOk tys_ok mixed_ok (consOk_nil)
theorem f65i6ok (k : Nat) : FnOk Try.prog 65 (f65i6con (impl_RecValues_1 k)) :=
  let hc := f65i6hc k
  fnOk (fn := Try.f65) (code := bodyOf Try.f65) (res := []) hc (by kernel_rfl) (by kernel_rfl) (by decide) (by kernel_rfl) (by kernel_rfl) (by kernel_rfl) (Nat.le_of_ble_eq_true (by kernel_rfl)) _
    (fun x => Snd.exec hc _ _ _ _)
    (fun x => by kernel_rfl)

def f113i2in : SS := ⟨[(0, (.p 0)), (1, (.ro (.int .i64))), (2, (.ro (.int .i64))), (3, (.ro (.int .i64))), (4, (.ro (.int .i64)))], [(0, (.box (.st (.cons (.list 93 (.st (.cons .str (.cons (.int .i64) (.cons (.int .i64) (.cons (.int .i64) .nil)))))) (.cons (.list 97 (.st (.cons (.int .i64) (.cons .str .nil)))) (.cons .bool (.cons .ptr (.cons .ptr .nil)))))) (.agg (.cons (.ro (.list 93 (.st (.cons .str (.cons (.int .i64) (.cons (.int .i64) (.cons (.int .i64) .nil))))))) (.cons (.ro (.list 97 (.st (.cons (.int .i64) (.cons .str .nil))))) (.cons (.ro .bool) (.cons (.fn 65 (.cons (.p 10) (.cons (.p 12) (.cons (.p 13) .nil)))) (.cons (.fn 67 .nil) .nil)))))))), (10, (.box (.list 3 (.int .i64)) (.h 11))), (11, (.sl 3 (.int .i64))), (12, (.box (.int .i64) (.ro (.int .i64)))), (13, (.box (.list 97 (.st (.cons (.int .i64) (.cons .str .nil)))) (.h 14))), (14, (.sl 97 (.st (.cons (.int .i64) (.cons .str .nil)))))]⟩
def f113i2out : SS := ⟨[(0, (.ro (.int .i64)))], [(0, (.box (.st (.cons (.list 93 (.st (.cons .str (.cons (.int .i64) (.cons (.int .i64) (.cons (.int .i64) .nil)))))) (.cons (.list 97 (.st (.cons (.int .i64) (.cons .str .nil)))) (.cons .bool (.cons .ptr (.cons .ptr .nil)))))) (.agg (.cons (.ro (.list 93 (.st (.cons .str (.cons (.int .i64) (.cons (.int .i64) (.cons (.int .i64) .nil))))))) (.cons (.ro (.list 97 (.st (.cons (.int .i64) (.cons .str .nil))))) (.cons (.ro .bool) (.cons (.fn 65 (.cons (.p 10) (.cons (.p 12) (.cons (.p 13) .nil)))) (.cons (.fn 67 .nil) .nil)))))))), (10, (.box (.list 3 (.int .i64)) (.h 11))), (11, (.sl 3 (.int .i64))), (12, (.box (.int .i64) (.ro (.int .i64)))), (13, (.box (.list 97 (.st (.cons (.int .i64) (.cons .str .nil)))) (.h 100))), (100, (.sl 97 (.st (.cons (.int .i64) (.cons .str .nil)))))]⟩
def f113i2s14 : SS := ⟨[(12, (.ro (.int .i64)))], [(0, (.box (.st (.cons (.list 93 (.st (.cons .str (.cons (.int .i64) (.cons (.int .i64) (.cons (.int .i64) .nil)))))) (.cons (.list 97 (.st (.cons (.int .i64) (.cons .str .nil)))) (.cons .bool (.cons .ptr (.cons .ptr .nil)))))) (.agg (.cons (.ro (.list 93 (.st (.cons .str (.cons (.int .i64) (.cons (.int .i64) (.cons (.int .i64) .nil))))))) (.cons (.ro (.list 97 (.st (.cons (.int .i64) (.cons .str .nil))))) (.cons (.ro .bool) (.cons (.fn 65 (.cons (.p 10) (.cons (.p 12) (.cons (.p 13) .nil)))) (.cons (.fn 67 .nil) .nil)))))))), (10, (.box (.list 3 (.int .i64)) (.h 11))), (11, (.sl 3 (.int .i64))), (12, (.box (.int .i64) (.ro (.int .i64)))), (13, (.box (.list 97 (.st (.cons (.int .i64) (.cons .str .nil)))) (.h 100))), (100, (.sl 97 (.st (.cons (.int .i64) (.cons .str .nil)))))]⟩
def f113i2s10 : SS := ⟨[(0, (.p 0)), (2, (.ro (.int .i64))), (3, (.ro (.int .i64))), (4, (.ro (.int .i64))), (12, (.ro (.int .i64))), (70, (.ro (.int .i64))), (71, (.ro (.int .i64)))], [(0, (.box (.st (.cons (.list 93 (.st (.cons .str (.cons (.int .i64) (.cons (.int .i64) (.cons (.int .i64) .nil)))))) (.cons (.list 97 (.st (.cons (.int .i64) (.cons .str .nil)))) (.cons .bool (.cons .ptr (.cons .ptr .nil)))))) (.agg (.cons (.ro (.list 93 (.st (.cons .str (.cons (.int .i64) (.cons (.int .i64) (.cons (.int .i64) .nil))))))) (.cons (.ro (.list 97 (.st (.cons (.int .i64) (.cons .str .nil))))) (.cons (.ro .bool) (.cons (.fn 65 (.cons (.p 10) (.cons (.p 12) (.cons (.p 13) .nil)))) (.cons (.fn 67 .nil) .nil)))))))), (10, (.box (.list 3 (.int .i64)) (.h 11))), (11, (.sl 3 (.int .i64))), (12, (.box (.int .i64) (.ro (.int .i64)))), (13, (.box (.list 97 (.st (.cons (.int .i64) (.cons .str .nil)))) (.h 100))), (100, (.sl 97 (.st (.cons (.int .i64) (.cons .str .nil)))))]⟩
def f113i2s7 : SS := ⟨[(1, (.ro (.int .i64)))], [(0, (.box (.st (.cons (.list 93 (.st (.cons .str (.cons (.int .i64) (.cons (.int .i64) (.cons (.int .i64) .nil)))))) (.cons (.list 97 (.st (.cons (.int .i64) (.cons .str .nil)))) (.cons .bool (.cons .ptr (.cons .ptr .nil)))))) (.agg (.cons (.ro (.list 93 (.st (.cons .str (.cons (.int .i64) (.cons (.int .i64) (.cons (.int .i64) .nil))))))) (.cons (.ro (.list 97 (.st (.cons (.int .i64) (.cons .str .nil))))) (.cons (.ro .bool) (.cons (.fn 65 (.cons (.p 10) (.cons (.p 12) (.cons (.p 13) .nil)))) (.cons (.fn 67 .nil) .nil)))))))), (10, (.box (.list 3 (.int .i64)) (.h 11))), (11, (.sl 3 (.int .i64))), (12, (.box (.int .i64) (.ro (.int .i64)))), (13, (.box (.list 97 (.st (.cons (.int .i64) (.cons .str .nil)))) (.h 100))), (100, (.sl 97 (.st (.cons (.int .i64) (.cons .str .nil)))))]⟩
def f113i2s5 : SS := ⟨[(0, (.p 0)), (1, (.ro (.int .i64))), (2, (.ro (.int .i64))), (3, (.ro (.int .i64))), (11, (.p 100))], [(0, (.box (.st (.cons (.list 93 (.st (.cons .str (.cons (.int .i64) (.cons (.int .i64) (.cons (.int .i64) .nil)))))) (.cons (.list 97 (.st (.cons (.int .i64) (.cons .str .nil)))) (.cons .bool (.cons .ptr (.cons .ptr .nil)))))) (.agg (.cons (.ro (.list 93 (.st (.cons .str (.cons (.int .i64) (.cons (.int .i64) (.cons (.int .i64) .nil))))))) (.cons (.ro (.list 97 (.st (.cons (.int .i64) (.cons .str .nil))))) (.cons (.ro .bool) (.cons (.fn 65 (.cons (.p 10) (.cons (.p 12) (.cons (.p 13) .nil)))) (.cons (.fn 67 .nil) .nil)))))))), (10, (.box (.list 3 (.int .i64)) (.h 11))), (11, (.sl 3 (.int .i64))), (12, (.box (.int .i64) (.ro (.int .i64)))), (13, (.box (.list 97 (.st (.cons (.int .i64) (.cons .str .nil)))) (.h 14))), (14, (.sl 97 (.st (.cons (.int .i64) (.cons .str .nil))))), (100, (.box (.st (.cons (.int .i64) (.cons .str .nil))) (.agg (.cons (.ro (.int .i64)) (.cons (.ro .str) .nil)))))]⟩
def f113i2d3 : SS := ⟨[(0, (.p 0)), (1, (.ro (.int .i64))), (2, (.ro (.int .i64))), (3, (.ro (.int .i64))), (11, (.p 100))], [(0, (.box (.st (.cons (.list 93 (.st (.cons .str (.cons (.int .i64) (.cons (.int .i64) (.cons (.int .i64) .nil)))))) (.cons (.list 97 (.st (.cons (.int .i64) (.cons .str .nil)))) (.cons .bool (.cons .ptr (.cons .ptr .nil)))))) (.agg (.cons (.ro (.list 93 (.st (.cons .str (.cons (.int .i64) (.cons (.int .i64) (.cons (.int .i64) .nil))))))) (.cons (.ro (.list 97 (.st (.cons (.int .i64) (.cons .str .nil))))) (.cons (.ro .bool) (.cons (.fn 65 (.cons (.p 10) (.cons (.p 12) (.cons (.p 13) .nil)))) (.cons (.fn 67 .nil) .nil)))))))), (10, (.box (.list 3 (.int .i64)) (.h 11))), (11, (.sl 3 (.int .i64))), (12, (.box (.int .i64) (.ro (.int .i64)))), (13, (.box (.list 97 (.st (.cons (.int .i64) (.cons .str .nil)))) (.h 14))), (14, (.sl 97 (.st (.cons (.int .i64) (.cons .str .nil))))), (100, (.box (.st (.cons (.int .i64) (.cons .str .nil))) (.agg (.cons (.ro (.int .i64)) (.cons (.ro .str) .nil)))))]⟩
def f113i2con (F : Int → Int → Int → Int → TWalkerB → Unit → (List Int) → Int → Unit → (List TVal) → Option (Int × TWalkerB × Unit × (List Int) × Int × Unit × (List TVal))) : Con := ⟨f113i2in, f113i2out, 5, 1, fun x => F x.1.2.1 x.1.2.2.1 x.1.2.2.2.1 x.1.2.2.2.2 x.2.1 x.2.2.1 x.2.2.2.1 x.2.2.2.2.1 x.2.2.2.2.2.1 x.2.2.2.2.2.2⟩
def f154i4in : SS := ⟨[(0, (.p 0)), (1, (.ro (.int .i64))), (2, (.ro (.int .i64))), (3, (.ro (.int .i64))), (4, (.ro (.int .i64)))], [(0, (.box (.st (.cons (.list 93 (.st (.cons .str (.cons (.int .i64) (.cons (.int .i64) (.cons (.int .i64) .nil)))))) (.cons (.list 97 (.st (.cons (.int .i64) (.cons .str .nil)))) (.cons .bool (.cons .ptr (.cons .ptr .nil)))))) (.agg (.cons (.ro (.list 93 (.st (.cons .str (.cons (.int .i64) (.cons (.int .i64) (.cons (.int .i64) .nil))))))) (.cons (.ro (.list 97 (.st (.cons (.int .i64) (.cons .str .nil))))) (.cons (.ro .bool) (.cons (.fn 65 (.cons (.p 10) (.cons (.p 12) (.cons (.p 13) .nil)))) (.cons (.fn 67 .nil) .nil)))))))), (10, (.box (.list 3 (.int .i64)) (.h 11))), (11, (.sl 3 (.int .i64))), (12, (.box (.int .i64) (.ro (.int .i64)))), (13, (.box (.list 97 (.st (.cons (.int .i64) (.cons .str .nil)))) (.h 14))), (14, (.sl 97 (.st (.cons (.int .i64) (.cons .str .nil)))))]⟩
def f154i4out : SS := ⟨[(0, (.ro (.int .i64)))], [(0, (.box (.st (.cons (.list 93 (.st (.cons .str (.cons (.int .i64) (.cons (.int .i64) (.cons (.int .i64) .nil)))))) (.cons (.list 97 (.st (.cons (.int .i64) (.cons .str .nil)))) (.cons .bool (.cons .ptr (.cons .ptr .nil)))))) (.agg (.cons (.ro (.list 93 (.st (.cons .str (.cons (.int .i64) (.cons (.int .i64) (.cons (.int .i64) .nil))))))) (.cons (.ro (.list 97 (.st (.cons (.int .i64) (.cons .str .nil))))) (.cons (.ro .bool) (.cons (.fn 65 (.cons (.p 10) (.cons (.p 12) (.cons (.p 13) .nil)))) (.cons (.fn 67 .nil) .nil)))))))), (10, (.box (.list 3 (.int .i64)) (.h 11))), (11, (.sl 3 (.int .i64))), (12, (.box (.int .i64) (.ro (.int .i64)))), (13, (.box (.list 97 (.st (.cons (.int .i64) (.cons .str .nil)))) (.h 100))), (100, (.sl 97 (.st (.cons (.int .i64) (.cons .str .nil)))))]⟩
def f154i4s18 : SS := ⟨[(0, (.p 0)), (1, (.ro (.int .i64))), (2, (.ro (.int .i64))), (3, (.ro (.int .i64))), (4, (.ro (.int .i64)))], [(0, (.box (.st (.cons (.list 93 (.st (.cons .str (.cons (.int .i64) (.cons (.int .i64) (.cons (.int .i64) .nil)))))) (.cons (.list 97 (.st (.cons (.int .i64) (.cons .str .nil)))) (.cons .bool (.cons .ptr (.cons .ptr .nil)))))) (.agg (.cons (.ro (.list 93 (.st (.cons .str (.cons (.int .i64) (.cons (.int .i64) (.cons (.int .i64) .nil))))))) (.cons (.ro (.list 97 (.st (.cons (.int .i64) (.cons .str .nil))))) (.cons (.ro .bool) (.cons (.fn 65 (.cons (.p 10) (.cons (.p 12) (.cons (.p 13) .nil)))) (.cons (.fn 67 .nil) .nil)))))))), (10, (.box (.list 3 (.int .i64)) (.h 11))), (11, (.sl 3 (.int .i64))), (12, (.box (.int .i64) (.ro (.int .i64)))), (13, (.box (.list 97 (.st (.cons (.int .i64) (.cons .str .nil)))) (.h 14))), (14, (.sl 97 (.st (.cons (.int .i64) (.cons .str .nil)))))]⟩
def f154i4s14 : SS := ⟨[(0, (.p 0)), (1, (.ro (.int .i64))), (3, (.ro (.int .i64))), (4, (.ro (.int .i64))), (12, (.ro (.int .i64))), (13, (.ro (.int .i64)))], [(0, (.box (.st (.cons (.list 93 (.st (.cons .str (.cons (.int .i64) (.cons (.int .i64) (.cons (.int .i64) .nil)))))) (.cons (.list 97 (.st (.cons (.int .i64) (.cons .str .nil)))) (.cons .bool (.cons .ptr (.cons .ptr .nil)))))) (.agg (.cons (.ro (.list 93 (.st (.cons .str (.cons (.int .i64) (.cons (.int .i64) (.cons (.int .i64) .nil))))))) (.cons (.ro (.list 97 (.st (.cons (.int .i64) (.cons .str .nil))))) (.cons (.ro .bool) (.cons (.fn 65 (.cons (.p 10) (.cons (.p 12) (.cons (.p 13) .nil)))) (.cons (.fn 67 .nil) .nil)))))))), (10, (.box (.list 3 (.int .i64)) (.h 11))), (11, (.sl 3 (.int .i64))), (12, (.box (.int .i64) (.ro (.int .i64)))), (13, (.box (.list 97 (.st (.cons (.int .i64) (.cons .str .nil)))) (.h 100))), (100, (.sl 97 (.st (.cons (.int .i64) (.cons .str .nil)))))]⟩
def f154i4con (F : Int → Int → Int → Int → TWalkerB → Unit → (List Int) → Int → Unit → (List TVal) → Option (Int × TWalkerB × Unit × (List Int) × Int × Unit × (List TVal))) : Con := ⟨f154i4in, f154i4out, 5, 1, fun x => F x.1.2.1 x.1.2.2.1 x.1.2.2.2.1 x.1.2.2.2.2 x.2.1 x.2.2.1 x.2.2.2.1 x.2.2.2.2.1 x.2.2.2.2.2.1 x.2.2.2.2.2.2⟩
def f113i2ctx (k : Nat) (S113i2 : Int → Int → Int → Int → TWalkerB → Unit → (List Int) → Int → Unit → (List TVal) → Option (Int × TWalkerB × Unit × (List Int) × Int × Unit × (List TVal))) (S154i4 : Int → Int → Int → Int → TWalkerB → Unit → (List Int) → Int → Unit → (List TVal) → Option (Int × TWalkerB × Unit × (List Int) × Int × Unit × (List TVal))) : Ctx := ⟨tyAt tys, conAt [(65, [f65i6con (impl_RecValues_1 k)]), (122, [f122con (impl_ValOk k)]), (153, [f153i3con (impl_walker_next_of_RecValues_1_RecValues_2 k)]), (154, [f154i4con S154i4])], 85, fun _ => false⟩
theorem f113i2hc (k : Nat) (S113i2 : Int → Int → Int → Int → TWalkerB → Unit → (List Int) → Int → Unit → (List TVal) → Option (Int × TWalkerB × Unit × (List Int) × Int × Unit × (List TVal))) (S154i4 : Int → Int → Int → Int → TWalkerB → Unit → (List Int) → Int → Unit → (List TVal) → Option (Int × TWalkerB × Unit × (List Int) × Int × Unit × (List TVal))) (h113i2 : FnOk Try.prog 113 (f113i2con S113i2)) (h154i4 : FnOk Try.prog 154 (f154i4con S154i4)) : CtxOk Try.prog (f113i2ctx k S113i2 S154i4) := ctxOk tys_ok mixed_ok (consOk_cons (f65i6ok k) (consOk_cons (f122ok k) (consOk_cons (f153i3ok k) (consOk_cons (h154i4) (consOk_nil)))))
theorem f113i2okb (k : Nat) (S113i2 : Int → Int → Int → Int → TWalkerB → Unit → (List Int) → Int → Unit → (List TVal) → Option (Int × TWalkerB × Unit × (List Int) × Int × Unit × (List TVal))) (S154i4 : Int → Int → Int → Int → TWalkerB → Unit → (List Int) → Int → Unit → (List TVal) → Option (Int × TWalkerB × Unit × (List Int) × Int × Unit × (List TVal))) (h113i2 : FnOk Try.prog 113 (f113i2con S113i2)) (h154i4 : FnOk Try.prog 154 (f154i4con S154i4)) : FnOk Try.prog 113 (f113i2con (impl_walker_body_of_RecValues_1_RecValues_2.b k S113i2 S154i4)) :=
  let hc := f113i2hc k S113i2 S154i4 h113i2 h154i4
  fnOk (fn := Try.f113) (code := bodyOf Try.f113) (res := [.tmp 10]) hc (by kernel_rfl) (by kernel_rfl) (by decide) (by kernel_rfl) (by kernel_rfl) (by kernel_rfl) (Nat.le_of_ble_eq_true (by kernel_rfl)) _
    (fun x => Snd.seq (by kernel_rfl) (Snd.seq (by kernel_rfl) (Snd.seq (by kernel_rfl) (Snd.seq (by kernel_rfl) (Snd.cut (Snd.exec hc _ _ _ _) ⟨f113i2s14, fun x => impl_walker_body_of_RecValues_1_RecValues_2.c14 k x.1 x.2.1 x.2.2.1 x.2.2.2.1 x.2.2.2.2.1 x.2.2.2.2.2.1 x.2.2.2.2.2.2⟩ (fun x => by kernel_rfl)) (Snd.seq (by kernel_rfl) (Snd.block (id := 0) (by kernel_rfl) (Snd.loop' (by kernel_rfl) f113i2s10 (fun n x => impl_walker_body_of_RecValues_1_RecValues_2.l10 k S154i4 n x.1.2.1 x.1.2.2.1 x.1.2.2.2.1 x.1.2.2.2.2.1 x.1.2.2.2.2.2.1 x.1.2.2.2.2.2.2 x.2.1 x.2.2.1 x.2.2.2.1 x.2.2.2.2.1 x.2.2.2.2.2.1 x.2.2.2.2.2.2) _ (fun _ => rfl) (fun n10 => Snd.exec hc _ _ _ _) (fun n x => by kernel_rfl) k)) (Snd.exec hc _ _ _ _))) (Snd.exec hc _ _ _ _)) (Snd.seq (by kernel_rfl) (Snd.cond (x := .tmp 21) (by kernel_rfl) (Snd.seq (by kernel_rfl) (Snd.seq (by kernel_rfl) (Snd.cut (Snd.seq (by kernel_rfl) (Snd.cut (Snd.exec hc _ _ _ _) ⟨f113i2s7, fun x => impl_walker_body_of_RecValues_1_RecValues_2.c7 k x.1 x.2.1 x.2.2.1 x.2.2.2.1 x.2.2.2.2.1 x.2.2.2.2.2.1 x.2.2.2.2.2.2⟩ (fun x => by kernel_rfl)) (Snd.exec hc _ _ _ _)) ⟨f113i2s5, fun x => impl_walker_body_of_RecValues_1_RecValues_2.c5 k x.1.2.1 x.1.2.2.1 x.1.2.2.2.1 x.2.1 x.2.2.1 x.2.2.2.1 x.2.2.2.2.1 x.2.2.2.2.2.1 x.2.2.2.2.2.2.1 x.2.2.2.2.2.2.2⟩ (fun x => by kernel_rfl)) (Snd.seq (by kernel_rfl) (Snd.exec hc _ _ _ _) (Snd.fork hc (id := 3) (by kernel_rfl) ⟨f113i2d3, fun x => impl_walker_body_of_RecValues_1_RecValues_2.d3 k x.1.2.1 x.1.2.2.1 x.1.2.2.2.1 x.2.1 x.2.2.1 x.2.2.2.1 x.2.2.2.2.1 x.2.2.2.2.2.1 x.2.2.2.2.2.2.1 x.2.2.2.2.2.2.2⟩ [[0, 1, 2, 3, 4, 5, 6, 7, 8, 10, 14, 9, 11, 12, 13, 15, 16, 17]] (by kernel_rfl) (ords_cons (fun x => by kernel_rfl) (ords_nil))))) (Snd.exec hc _ _ _ _)) (Snd.exec hc _ _ _ _)) (Snd.exec hc _ _ _ _))) (Snd.exec hc _ _ _ _))
    (fun x => by kernel_rfl)
def f154i4ctx (k : Nat) (S113i2 : Int → Int → Int → Int → TWalkerB → Unit → (List Int) → Int → Unit → (List TVal) → Option (Int × TWalkerB × Unit × (List Int) × Int × Unit × (List TVal))) (S154i4 : Int → Int → Int → Int → TWalkerB → Unit → (List Int) → Int → Unit → (List TVal) → Option (Int × TWalkerB × Unit × (List Int) × Int × Unit × (List TVal))) : Ctx := ⟨tyAt tys, conAt [(89, [f89con (impl_colAfter k)]), (113, [f113i2con S113i2]), (176, [f176i5con (impl_walker_count_of_RecValues_1_RecValues_2 k)]), (177, [f177i7con (impl_walker_missing_of_RecValues_1_RecValues_2 k)])], 86, fun _ => false⟩
theorem f154i4hc (k : Nat) (S113i2 : Int → Int → Int → Int → TWalkerB → Unit → (List Int) → Int → Unit → (List TVal) → Option (Int × TWalkerB × Unit × (List Int) × Int × Unit × (List TVal))) (S154i4 : Int → Int → Int → Int → TWalkerB → Unit → (List Int) → Int → Unit → (List TVal) → Option (Int × TWalkerB × Unit × (List Int) × Int × Unit × (List TVal))) (h113i2 : FnOk Try.prog 113 (f113i2con S113i2)) (h154i4 : FnOk Try.prog 154 (f154i4con S154i4)) : CtxOk Try.prog (f154i4ctx k S113i2 S154i4) := ctxOk tys_ok mixed_ok (consOk_cons (f89ok k) (consOk_cons (h113i2) (consOk_cons (f176i5ok k) (consOk_cons (f177i7ok k) (consOk_nil)))))
theorem f154i4okb (k : Nat) (S113i2 : Int → Int → Int → Int → TWalkerB → Unit → (List Int) → Int → Unit → (List TVal) → Option (Int × TWalkerB × Unit × (List Int) × Int × Unit × (List TVal))) (S154i4 : Int → Int → Int → Int → TWalkerB → Unit → (List Int) → Int → Unit → (List TVal) → Option (Int × TWalkerB × Unit × (List Int) × Int × Unit × (List TVal))) (h113i2 : FnOk Try.prog 113 (f113i2con S113i2)) (h154i4 : FnOk Try.prog 154 (f154i4con S154i4)) : FnOk Try.prog 154 (f154i4con (impl_walker_col_of_RecValues_1_RecValues_2.b k S113i2 S154i4)) :=
  let hc := f154i4hc k S113i2 S154i4 h113i2 h154i4
  fnOk (fn := Try.f154) (code := bodyOf Try.f154) (res := [.tmp 10]) hc (by kernel_rfl) (by kernel_rfl) (by decide) (by kernel_rfl) (by kernel_rfl) (by kernel_rfl) (Nat.le_of_ble_eq_true (by kernel_rfl)) _
    (fun x => Snd.seq (by kernel_rfl) (Snd.seq (by kernel_rfl) (Snd.cut (Snd.exec hc _ _ _ _) ⟨f154i4s18, fun x => impl_walker_col_of_RecValues_1_RecValues_2.c18 k S113i2 x.1.2.1 x.1.2.2.1 x.1.2.2.2.1 x.1.2.2.2.2 x.2.1 x.2.2.1 x.2.2.2.1 x.2.2.2.2.1 x.2.2.2.2.2.1 x.2.2.2.2.2.2⟩ (fun x => by kernel_rfl)) (Snd.seq (by kernel_rfl) (Snd.block (id := 0) (by kernel_rfl) (Snd.seq (by kernel_rfl) (Snd.cond (x := .tmp 22) (by kernel_rfl) (Snd.exec hc _ _ _ _) (Snd.seq (by kernel_rfl) (Snd.cond (x := .tmp 35) (by kernel_rfl) (Snd.seq (by kernel_rfl) (Snd.seq (by kernel_rfl) (Snd.seq (by kernel_rfl) (Snd.seq (by kernel_rfl) (Snd.seq (by kernel_rfl) (Snd.exec hc _ _ _ _) (Snd.seq (by kernel_rfl) (Snd.block (id := 1) (by kernel_rfl) (Snd.loop' (by kernel_rfl) f154i4s14 (fun n x => impl_walker_col_of_RecValues_1_RecValues_2.l14 k S113i2 n x.1.2.1 x.1.2.2.1 x.1.2.2.2.1 x.1.2.2.2.2.1 x.1.2.2.2.2.2 x.2.1 x.2.2.1 x.2.2.2.1 x.2.2.2.2.1 x.2.2.2.2.2.1 x.2.2.2.2.2.2) _ (fun _ => rfl) (fun n14 => Snd.exec hc _ _ _ _) (fun n x => by kernel_rfl) k)) (Snd.exec hc _ _ _ _))) (Snd.exec hc _ _ _ _)) (Snd.exec hc _ _ _ _)) (Snd.exec hc _ _ _ _)) (Snd.exec hc _ _ _ _)) (Snd.exec hc _ _ _ _)) (Snd.exec hc _ _ _ _))) (Snd.exec hc _ _ _ _))) (Snd.exec hc _ _ _ _))) (Snd.exec hc _ _ _ _))
    (fun x => by kernel_rfl)
theorem f113i2rec (k : Nat) : ∀ d, FnOk Try.prog 113 (f113i2con (impl_walker_body_of_RecValues_1_RecValues_2.d k d)) ∧ FnOk Try.prog 154 (f154i4con (impl_walker_col_of_RecValues_1_RecValues_2.d k d))
  | 0 => ⟨FnOk_none (fun _ => rfl), FnOk_none (fun _ => rfl)⟩
  | d + 1 => let ih := f113i2rec k d
    ⟨f113i2okb k (impl_walker_body_of_RecValues_1_RecValues_2.d k d) (impl_walker_col_of_RecValues_1_RecValues_2.d k d) ih.1 ih.2, f154i4okb k (impl_walker_body_of_RecValues_1_RecValues_2.d k d) (impl_walker_col_of_RecValues_1_RecValues_2.d k d) ih.1 ih.2⟩
theorem f113i2ok (k : Nat) : FnOk Try.prog 113 (f113i2con (impl_walker_body_of_RecValues_1_RecValues_2 k)) := (f113i2rec k k).1
theorem f154i4ok (k : Nat) : FnOk Try.prog 154 (f154i4con (impl_walker_col_of_RecValues_1_RecValues_2 k)) := (f113i2rec k k).2

def f66i1in : SS := ⟨[(0, (.ro (.list 93 (.st (.cons .str (.cons (.int .i64) (.cons (.int .i64) (.cons (.int .i64) .nil)))))))), (1, (.ro (.st (.cons (.list 97 (.st (.cons (.int .i64) (.cons .str .nil)))) .nil)))), (2, (.fn 65 (.cons (.p 10) (.cons (.p 12) (.cons (.p 13) .nil))))), (3, (.fn 67 .nil))], [(10, (.box (.list 3 (.int .i64)) (.h 11))), (11, (.sl 3 (.int .i64))), (12, (.box (.int .i64) (.ro (.int .i64)))), (13, (.box (.list 97 (.st (.cons (.int .i64) (.cons .str .nil)))) (.h 14))), (14, (.sl 97 (.st (.cons (.int .i64) (.cons .str .nil)))))]⟩
def f66i1out : SS := ⟨[(0, (.ro .bool))], [(10, (.box (.list 3 (.int .i64)) (.h 11))), (11, (.sl 3 (.int .i64))), (12, (.box (.int .i64) (.ro (.int .i64)))), (13, (.box (.list 97 (.st (.cons (.int .i64) (.cons .str .nil)))) (.h 100))), (100, (.sl 97 (.st (.cons (.int .i64) (.cons .str .nil)))))]⟩
def f66i1con (F : (List TCol) → TRec → (Unit × Unit × Unit × Unit) → Unit → Unit → (List Int) → Int → Unit → (List TVal) → Option (Bool × Unit × (List Int) × Int × Unit × (List TVal))) : Con := ⟨f66i1in, f66i1out, 4, 1, fun x => F x.1.1 x.1.2.1 x.1.2.2.1 x.1.2.2.2 x.2.1 x.2.2.1 x.2.2.2.1 x.2.2.2.2.1 x.2.2.2.2.2⟩
def f66i1ctx (k : Nat) : Ctx := ⟨tyAt tys, conAt [(113, [f113i2con (impl_walker_body_of_RecValues_1_RecValues_2 k)])], 36, fun _ => false⟩
theorem f66i1hc (k : Nat) : CtxOk Try.prog (f66i1ctx k) := ctxOk tys_ok mixed_ok (consOk_cons (f113i2ok k) (consOk_nil))
theorem f66i1ok (k : Nat) : FnOk Try.prog 66 (f66i1con (impl_walk_of_RecValues_1_RecValues_2 k)) :=
  let hc := f66i1hc k
  fnOk (fn := Try.f66) (code := bodyOf Try.f66) (res := [.tmp 8]) hc (by kernel_rfl) (by kernel_rfl) (by decide) (by kernel_rfl) (by kernel_rfl) (by kernel_rfl) (Nat.le_of_ble_eq_true (by kernel_rfl)) _
    (fun x => Snd.exec hc _ _ _ _)
    (fun x => by kernel_rfl)

def f21in : SS := ⟨[(0, (.ro (.list 93 (.st (.cons .str (.cons (.int .i64) (.cons (.int .i64) (.cons (.int .i64) .nil)))))))), (1, (.ro (.st (.cons (.list 97 (.st (.cons (.int .i64) (.cons .str .nil)))) .nil)))), (2, (.ro (.int .i64)))], []⟩
def f21out : SS := ⟨[(0, (.h 100)), (1, (.ro .bool))], [(100, (.sl 97 (.st (.cons (.int .i64) (.cons .str .nil)))))]⟩
def f21con (F : (List TCol) → TRec → Int → Option ((Unit × Bool) × (List TVal))) : Con := ⟨f21in, f21out, 3, 2, fun x => F x.1 x.2.1 x.2.2⟩
def f21ctx (k : Nat) : Ctx := ⟨tyAt tys, conAt [(55, [f55con (impl_within k)]), (64, [f64con (impl_SchemaLeaves k)]), (66, [f66i1con (impl_walk_of_RecValues_1_RecValues_2 k)])], 27, fun _ => false⟩
theorem f21hc (k : Nat) : CtxOk Try.prog (f21ctx k) := ctxOk tys_ok mixed_ok (consOk_cons (f55ok k) (consOk_cons (f64ok k) (consOk_cons (f66i1ok k) (consOk_nil))))
theorem f21ok (k : Nat) : FnOk Try.prog 21 (f21con (impl_RecValues k)) :=
  let hc := f21hc k
  fnOk (fn := Try.f21) (code := bodyOf Try.f21) (res := [.tmp 6, .tmp 7]) hc (by kernel_rfl) (by kernel_rfl) (by decide) (by kernel_rfl) (by kernel_rfl) (by kernel_rfl) (Nat.le_of_ble_eq_true (by kernel_rfl)) _
    (fun x => Snd.exec hc _ _ _ _)
    (fun x => by kernel_rfl)

def f68in : SS := ⟨[(0, (.ro (.st (.cons (.int .i64) (.cons .str .nil))))), (1, (.ro (.st (.cons (.int .i64) (.cons .str .nil)))))], []⟩
def f68out : SS := ⟨[(0, (.ro .bool))], []⟩
def f68con (F : TVal → TVal → Option Bool) : Con := ⟨f68in, f68out, 2, 1, fun x => F x.1 x.2⟩
def f68ctx (k : Nat) : Ctx := ⟨tyAt tys, conAt [], 15, fun _ => false⟩
theorem f68hc (k : Nat) : CtxOk Try.prog (f68ctx k) := ctxOk tys_ok mixed_ok (consOk_nil)
theorem f68ok (k : Nat) : FnOk Try.prog 68 (f68con (laws_eqVal k)) :=
  let hc := f68hc k
  fnOk (fn := Try.f68) (code := bodyOf Try.f68) (res := [.tmp 4]) hc (by kernel_rfl) (by kernel_rfl) (by decide) (by kernel_rfl) (by kernel_rfl) (by kernel_rfl) (Nat.le_of_ble_eq_true (by kernel_rfl)) _
    (fun x => Snd.exec hc _ _ _ _)
    (fun x => by kernel_rfl)

def f22in : SS := ⟨[(0, (.ro (.list 97 (.st (.cons (.int .i64) (.cons .str .nil)))))), (1, (.ro (.list 97 (.st (.cons (.int .i64) (.cons .str .nil))))))], []⟩
def f22out : SS := ⟨[(0, (.ro .bool))], []⟩
def f22s4 : SS := ⟨[(0, (.ro (.list 97 (.st (.cons (.int .i64) (.cons .str .nil)))))), (1, (.ro (.list 97 (.st (.cons (.int .i64) (.cons .str .nil)))))), (5, (.ro (.int .i64)))], []⟩
def f22con (F : (List TVal) → (List TVal) → Option Bool) : Con := ⟨f22in, f22out, 2, 1, fun x => F x.1 x.2⟩
def f22ctx (k : Nat) : Ctx := ⟨tyAt tys, conAt [(68, [f68con (laws_eqVal k)])], 27, fun _ => false⟩
theorem f22hc (k : Nat) : CtxOk Try.prog (f22ctx k) := ctxOk tys_ok mixed_ok (consOk_cons (f68ok k) (consOk_nil))
theorem f22ok (k : Nat) : FnOk Try.prog 22 (f22con (laws_eqValS k)) :=
  let hc := f22hc k
  fnOk (fn := Try.f22) (code := bodyOf Try.f22) (res := [.tmp 4]) hc (by kernel_rfl) (by kernel_rfl) (by decide) (by kernel_rfl) (by kernel_rfl) (by kernel_rfl) (Nat.le_of_ble_eq_true (by kernel_rfl)) _
    (fun x => Snd.seq (by kernel_rfl) (Snd.seq (by kernel_rfl) (Snd.seq (by kernel_rfl) (Snd.exec hc _ _ _ _) (Snd.seq (by kernel_rfl) (Snd.block (id := 0) (by kernel_rfl) (Snd.loop' (by kernel_rfl) f22s4 (fun n x => laws_eqValS.l4 k n x.1 x.2.1 x.2.2) _ (fun _ => rfl) (fun n4 => Snd.exec hc _ _ _ _) (fun n x => by kernel_rfl) k)) (Snd.exec hc _ _ _ _))) (Snd.exec hc _ _ _ _)) (Snd.exec hc _ _ _ _))
    (fun x => by kernel_rfl)

def f69in : SS := ⟨[(0, (.ro (.st (.cons .str (.cons (.int .i64) (.cons (.int .i64) (.cons (.int .i64) .nil))))))), (1, (.ro (.st (.cons .str (.cons (.int .i64) (.cons (.int .i64) (.cons (.int .i64) .nil)))))))], []⟩
def f69out : SS := ⟨[(0, (.ro .bool))], []⟩
def f69con (F : TCol → TCol → Option Bool) : Con := ⟨f69in, f69out, 2, 1, fun x => F x.1 x.2⟩
def f69ctx (k : Nat) : Ctx := ⟨tyAt tys, conAt [], 25, fun _ => false⟩
theorem f69hc (k : Nat) : CtxOk Try.prog (f69ctx k) := ctxOk tys_ok mixed_ok (consOk_nil)
theorem f69ok (k : Nat) : FnOk Try.prog 69 (f69con (laws_eqCol k)) :=
  let hc := f69hc k
  fnOk (fn := Try.f69) (code := bodyOf Try.f69) (res := [.tmp 4]) hc (by kernel_rfl) (by kernel_rfl) (by decide) (by kernel_rfl) (by kernel_rfl) (by kernel_rfl) (Nat.le_of_ble_eq_true (by kernel_rfl)) _
    (fun x => Snd.exec hc _ _ _ _)
    (fun x => by kernel_rfl)

def f23in : SS := ⟨[(0, (.ro (.list 93 (.st (.cons .str (.cons (.int .i64) (.cons (.int .i64) (.cons (.int .i64) .nil)))))))), (1, (.ro (.list 93 (.st (.cons .str (.cons (.int .i64) (.cons (.int .i64) (.cons (.int .i64) .nil))))))))], []⟩
def f23out : SS := ⟨[(0, (.ro .bool))], []⟩
def f23s4 : SS := ⟨[(0, (.ro (.list 93 (.st (.cons .str (.cons (.int .i64) (.cons (.int .i64) (.cons (.int .i64) .nil)))))))), (1, (.ro (.list 93 (.st (.cons .str (.cons (.int .i64) (.cons (.int .i64) (.cons (.int .i64) .nil)))))))), (5, (.ro (.int .i64)))], []⟩
def f23con (F : (List TCol) → (List TCol) → Option Bool) : Con := ⟨f23in, f23out, 2, 1, fun x => F x.1 x.2⟩
def f23ctx (k : Nat) : Ctx := ⟨tyAt tys, conAt [(69, [f69con (laws_eqCol k)])], 27, fun _ => false⟩
theorem f23hc (k : Nat) : CtxOk Try.prog (f23ctx k) := ctxOk tys_ok mixed_ok (consOk_cons (f69ok k) (consOk_nil))
theorem f23ok (k : Nat) : FnOk Try.prog 23 (f23con (laws_eqColS k)) :=
  let hc := f23hc k
  fnOk (fn := Try.f23) (code := bodyOf Try.f23) (res := [.tmp 4]) hc (by kernel_rfl) (by kernel_rfl) (by decide) (by kernel_rfl) (by kernel_rfl) (by kernel_rfl) (Nat.le_of_ble_eq_true (by kernel_rfl)) _
    (fun x => Snd.seq (by kernel_rfl) (Snd.seq (by kernel_rfl) (Snd.seq (by kernel_rfl) (Snd.exec hc _ _ _ _) (Snd.seq (by kernel_rfl) (Snd.block (id := 0) (by kernel_rfl) (Snd.loop' (by kernel_rfl) f23s4 (fun n x => laws_eqColS.l4 k n x.1 x.2.1 x.2.2) _ (fun _ => rfl) (fun n4 => Snd.exec hc _ _ _ _) (fun n x => by kernel_rfl) k)) (Snd.exec hc _ _ _ _))) (Snd.exec hc _ _ _ _)) (Snd.exec hc _ _ _ _))
    (fun x => by kernel_rfl)

def f24in : SS := ⟨[(0, (.ro (.st (.cons (.list 97 (.st (.cons (.int .i64) (.cons .str .nil)))) .nil)))), (1, (.ro (.st (.cons (.list 97 (.st (.cons (.int .i64) (.cons .str .nil)))) .nil))))], []⟩
def f24out : SS := ⟨[(0, (.ro .bool))], []⟩
def f24con (F : TRec → TRec → Option Bool) : Con := ⟨f24in, f24out, 2, 1, fun x => F x.1 x.2⟩
def f24ctx (k : Nat) : Ctx := ⟨tyAt tys, conAt [(22, [f22con (laws_eqValS k)])], 11, fun _ => false⟩
theorem f24hc (k : Nat) : CtxOk Try.prog (f24ctx k) := ctxOk tys_ok mixed_ok (consOk_cons (f22ok k) (consOk_nil))
theorem f24ok (k : Nat) : FnOk Try.prog 24 (f24con (laws_eqRec k)) :=
  let hc := f24hc k
  fnOk (fn := Try.f24) (code := bodyOf Try.f24) (res := [.tmp 4]) hc (by kernel_rfl) (by kernel_rfl) (by decide) (by kernel_rfl) (by kernel_rfl) (by kernel_rfl) (Nat.le_of_ble_eq_true (by kernel_rfl)) _
    (fun x => Snd.exec hc _ _ _ _)
    (fun x => by kernel_rfl)

def f70in : SS := ⟨[(0, (.ro (.int .i64)))], []⟩
def f70out : SS := ⟨[(0, (.ro .str))], []⟩
def f70s4 : SS := ⟨[(0, (.ro (.int .i64))), (3, (.ro .str))], []⟩
def f70con (F : Int → Option ByteArray) : Con := ⟨f70in, f70out, 1, 1, fun x => F x⟩
def f70ctx (k : Nat) : Ctx := ⟨tyAt tys, conAt [], 20, fun _ => false⟩
theorem f70hc (k : Nat) : CtxOk Try.prog (f70ctx k) := ctxOk tys_ok mixed_ok (consOk_nil)
theorem f70ok (k : Nat) : FnOk Try.prog 70 (f70con (laws_markText k)) :=
  let hc := f70hc k
  fnOk (fn := Try.f70) (code := bodyOf Try.f70) (res := [.tmp 2]) hc (by kernel_rfl) (by kernel_rfl) (by decide) (by kernel_rfl) (by kernel_rfl) (by kernel_rfl) (Nat.le_of_ble_eq_true (by kernel_rfl)) _
    (fun x => Snd.seq (by kernel_rfl) (Snd.seq (by kernel_rfl) (Snd.seq (by kernel_rfl) (Snd.seq (by kernel_rfl) (Snd.exec hc _ _ _ _) (Snd.block (id := 0) (by kernel_rfl) (Snd.loop' (by kernel_rfl) f70s4 (fun n x => laws_markText.l4 k n x.1 x.2) _ (fun _ => rfl) (fun n4 => Snd.exec hc _ _ _ _) (fun n x => by kernel_rfl) k))) (Snd.exec hc _ _ _ _)) (Snd.exec hc _ _ _ _)) (Snd.exec hc _ _ _ _))
    (fun x => by kernel_rfl)

def f25in : SS := ⟨[(0, (.h 10)), (1, (.ro (.int .i64)))], [(10, (.sl 93 (.st (.cons .str (.cons (.int .i64) (.cons (.int .i64) (.cons (.int .i64) .nil)))))))]⟩
def f25out : SS := ⟨[(0, (.ro (.int .i64)))], [(10, (.sl 93 (.st (.cons .str (.cons (.int .i64) (.cons (.int .i64) (.cons (.int .i64) .nil)))))))]⟩
def f25s2 : SS := ⟨[(0, (.h 10)), (1, (.ro (.int .i64))), (5, (.ro (.int .i64)))], [(10, (.sl 93 (.st (.cons .str (.cons (.int .i64) (.cons (.int .i64) (.cons (.int .i64) .nil)))))))]⟩
def f25con (F : Int → (List TCol) → Option (Int × (List TCol))) : Con := ⟨f25in, f25out, 2, 1, fun x => F x.1.2 x.2⟩
def f25ctx (k : Nat) : Ctx := ⟨tyAt tys, conAt [(70, [f70con (laws_markText k)])], 42, fun _ => false⟩
theorem f25hc (k : Nat) : CtxOk Try.prog (f25ctx k) := ctxOk tys_ok mixed_ok (consOk_cons (f70ok k) (consOk_nil))
theorem f25ok (k : Nat) : FnOk Try.prog 25 (f25con (laws_markColS k)) :=
  let hc := f25hc k
  fnOk (fn := Try.f25) (code := bodyOf Try.f25) (res := [.tmp 4]) hc (by kernel_rfl) (by kernel_rfl) (by decide) (by kernel_rfl) (by kernel_rfl) (by kernel_rfl) (Nat.le_of_ble_eq_true (by kernel_rfl)) _
    (fun x => Snd.seq (by kernel_rfl) (Snd.seq (by kernel_rfl) (Snd.exec hc _ _ _ _) (Snd.seq (by kernel_rfl) (Snd.block (id := 0) (by kernel_rfl) (Snd.loop' (by kernel_rfl) f25s2 (fun n x => laws_markColS.l2 k n x.1.2.1 x.1.2.2 x.2) _ (fun _ => rfl) (fun n2 => Snd.exec hc _ _ _ _) (fun n x => by kernel_rfl) k)) (Snd.exec hc _ _ _ _))) (Snd.exec hc _ _ _ _))
    (fun x => by kernel_rfl)

def f27in : SS := ⟨[(0, (.h 10)), (1, (.ro (.int .i64)))], [(10, (.sl 97 (.st (.cons (.int .i64) (.cons .str .nil)))))]⟩
def f27out : SS := ⟨[(0, (.ro (.int .i64)))], [(10, (.sl 97 (.st (.cons (.int .i64) (.cons .str .nil)))))]⟩
def f27s2 : SS := ⟨[(0, (.h 10)), (1, (.ro (.int .i64))), (5, (.ro (.int .i64)))], [(10, (.sl 97 (.st (.cons (.int .i64) (.cons .str .nil)))))]⟩
def f27con (F : Int → (List TVal) → Option (Int × (List TVal))) : Con := ⟨f27in, f27out, 2, 1, fun x => F x.1.2 x.2⟩
def f27ctx (k : Nat) : Ctx := ⟨tyAt tys, conAt [(70, [f70con (laws_markText k)])], 28, fun _ => false⟩
theorem f27hc (k : Nat) : CtxOk Try.prog (f27ctx k) := ctxOk tys_ok mixed_ok (consOk_cons (f70ok k) (consOk_nil))
theorem f27ok (k : Nat) : FnOk Try.prog 27 (f27con (laws_markValS k)) :=
  let hc := f27hc k
  fnOk (fn := Try.f27) (code := bodyOf Try.f27) (res := [.tmp 4]) hc (by kernel_rfl) (by kernel_rfl) (by decide) (by kernel_rfl) (by kernel_rfl) (by kernel_rfl) (Nat.le_of_ble_eq_true (by kernel_rfl)) _
    (fun x => Snd.seq (by kernel_rfl) (Snd.seq (by kernel_rfl) (Snd.exec hc _ _ _ _) (Snd.seq (by kernel_rfl) (Snd.block (id := 0) (by kernel_rfl) (Snd.loop' (by kernel_rfl) f27s2 (fun n x => laws_markValS.l2 k n x.1.2.1 x.1.2.2 x.2) _ (fun _ => rfl) (fun n2 => Snd.exec hc _ _ _ _) (fun n x => by kernel_rfl) k)) (Snd.exec hc _ _ _ _))) (Snd.exec hc _ _ _ _))
    (fun x => by kernel_rfl)

def f26in : SS := ⟨[(0, (.agg (.cons (.h 10) .nil))), (1, (.ro (.int .i64)))], [(10, (.sl 97 (.st (.cons (.int .i64) (.cons .str .nil)))))]⟩
def f26out : SS := ⟨[(0, (.ro (.int .i64)))], [(10, (.sl 97 (.st (.cons (.int .i64) (.cons .str .nil)))))]⟩
def f26con (F : (Unit × Unit) → Int → (List TVal) → Option (Int × (List TVal))) : Con := ⟨f26in, f26out, 2, 1, fun x => F x.1.1 x.1.2 x.2⟩
def f26ctx (k : Nat) : Ctx := ⟨tyAt tys, conAt [(27, [f27con (laws_markValS k)])], 10, fun _ => false⟩
theorem f26hc (k : Nat) : CtxOk Try.prog (f26ctx k) := ctxOk tys_ok mixed_ok (consOk_cons (f27ok k) (consOk_nil))
theorem f26ok (k : Nat) : FnOk Try.prog 26 (f26con (laws_markRec k)) :=
  let hc := f26hc k
  fnOk (fn := Try.f26) (code := bodyOf Try.f26) (res := [.tmp 4]) hc (by kernel_rfl) (by kernel_rfl) (by decide) (by kernel_rfl) (by kernel_rfl) (by kernel_rfl) (Nat.le_of_ble_eq_true (by kernel_rfl)) _
    (fun x => Snd.exec hc _ _ _ _)
    (fun x => by kernel_rfl)

def f28in : SS := ⟨[(0, (.ro (.list 97 (.st (.cons (.int .i64) (.cons .str .nil)))))), (1, (.ro (.int .i64)))], []⟩
def f28out : SS := ⟨[(0, (.ro (.int .i64)))], []⟩
def f28d7 : SS := ⟨[(0, (.ro (.list 97 (.st (.cons (.int .i64) (.cons .str .nil)))))), (1, (.ro (.int .i64))), (5, (.ro (.int .i64)))], []⟩
def f28s2 : SS := ⟨[(0, (.ro (.list 97 (.st (.cons (.int .i64) (.cons .str .nil)))))), (1, (.ro (.int .i64))), (5, (.ro (.int .i64)))], []⟩
def f28con (F : (List TVal) → Int → Option Int) : Con := ⟨f28in, f28out, 2, 1, fun x => F x.1 x.2⟩
def f28ctx (k : Nat) : Ctx := ⟨tyAt tys, conAt [(70, [f70con (laws_markText k)])], 32, fun _ => false⟩
theorem f28hc (k : Nat) : CtxOk Try.prog (f28ctx k) := ctxOk tys_ok mixed_ok (consOk_cons (f70ok k) (consOk_nil))
theorem f28ok (k : Nat) : FnOk Try.prog 28 (f28con (laws_heldValS k)) :=
  let hc := f28hc k
  fnOk (fn := Try.f28) (code := bodyOf Try.f28) (res := [.tmp 4]) hc (by kernel_rfl) (by kernel_rfl) (by decide) (by kernel_rfl) (by kernel_rfl) (by kernel_rfl) (Nat.le_of_ble_eq_true (by kernel_rfl)) _
    (fun x => Snd.seq (by kernel_rfl) (Snd.seq (by kernel_rfl) (Snd.exec hc _ _ _ _) (Snd.seq (by kernel_rfl) (Snd.block (id := 0) (by kernel_rfl) (Snd.loop' (by kernel_rfl) f28s2 (fun n x => laws_heldValS.l2 k n x.1 x.2.1 x.2.2) _ (fun _ => rfl) (fun n2 => Snd.seq (by kernel_rfl) (Snd.seq (by kernel_rfl) (Snd.exec hc _ _ _ _) (Snd.block (id := 1) (by kernel_rfl) (Snd.seq (by kernel_rfl) (Snd.seq (by kernel_rfl) (Snd.seq (by kernel_rfl) (Snd.exec hc _ _ _ _) (Snd.seq (by kernel_rfl) (Snd.exec hc _ _ _ _) (Snd.fork hc (id := 7) (by kernel_rfl) ⟨f28d7, fun x => laws_heldValS.d7 k (laws_heldValS.l2 k n2) x.1 x.2.1 x.2.2⟩ [[0, 1, 2, 3, 5, 4, 6, 7], [0, 1, 2, 3, 5, 6, 4, 7]] (by kernel_rfl) (ords_cons (fun x => by kernel_rfl) (ords_cons (fun x => by kernel_rfl) (ords_nil)))))) (Snd.exec hc _ _ _ _)) (Snd.exec hc _ _ _ _)))) (Snd.exec hc _ _ _ _)) (fun n x => by kernel_rfl) k)) (Snd.exec hc _ _ _ _))) (Snd.exec hc _ _ _ _))
    (fun x => by kernel_rfl)

def f4in : SS := ⟨[(0, (.ro (.list 86 (.st (.cons .str (.cons (.int .i64) (.cons (.int .i64) (.cons (.int .i64) .nil)))))))), (1, (.ro (.st (.cons (.list 138 (.st (.cons (.int .i64) (.cons .str .nil)))) .nil)))), (2, (.ro (.int .i64)))], []⟩
def f4out : SS := ⟨[(0, (.ro .bool))], []⟩
def f4d31 : SS := ⟨[(0, (.ro (.list 86 (.st (.cons .str (.cons (.int .i64) (.cons (.int .i64) (.cons (.int .i64) .nil)))))))), (2, (.ro (.int .i64))), (4, (.p 100)), (8, (.h 101)), (9, (.ro .bool)), (12, (.h 102)), (15, (.ro (.int .i64)))], [(100, (.box (.st (.cons (.list 138 (.st (.cons (.int .i64) (.cons .str .nil)))) .nil)) (.agg (.cons (.ro (.list 138 (.st (.cons (.int .i64) (.cons .str .nil))))) .nil)))), (101, (.sl 97 (.st (.cons (.int .i64) (.cons .str .nil))))), (102, (.sl 97 (.st (.cons (.int .i64) (.cons .str .nil)))))]⟩
def f4d16 : SS := ⟨[(0, (.ro (.list 86 (.st (.cons .str (.cons (.int .i64) (.cons (.int .i64) (.cons (.int .i64) .nil)))))))), (2, (.ro (.int .i64))), (4, (.p 100)), (8, (.h 101)), (9, (.ro .bool)), (10, (.h 102)), (11, (.p 103)), (12, (.h 104)), (13, (.ro .bool))], [(100, (.box (.st (.cons (.list 138 (.st (.cons (.int .i64) (.cons .str .nil)))) .nil)) (.agg (.cons (.ro (.list 138 (.st (.cons (.int .i64) (.cons .str .nil))))) .nil)))), (101, (.sl 97 (.st (.cons (.int .i64) (.cons .str .nil))))), (102, (.sl 93 (.st (.cons .str (.cons (.int .i64) (.cons (.int .i64) (.cons (.int .i64) .nil))))))), (103, (.box (.st (.cons (.list 97 (.st (.cons (.int .i64) (.cons .str .nil)))) .nil)) (.agg (.cons (.h 105) .nil)))), (104, (.sl 97 (.st (.cons (.int .i64) (.cons .str .nil))))), (105, (.sl 97 (.st (.cons (.int .i64) (.cons .str .nil)))))]⟩
def f4d8 : SS := ⟨[(0, (.ro (.list 86 (.st (.cons .str (.cons (.int .i64) (.cons (.int .i64) (.cons (.int .i64) .nil)))))))), (2, (.ro (.int .i64))), (4, (.p 100))], [(100, (.box (.st (.cons (.list 138 (.st (.cons (.int .i64) (.cons .str .nil)))) .nil)) (.agg (.cons (.ro (.list 138 (.st (.cons (.int .i64) (.cons .str .nil))))) .nil))))]⟩
def f4con (F : (List TCol) → TRec → Int → Option Bool) : Con := ⟨f4in, f4out, 3, 1, fun x => F x.1 x.2.1 x.2.2⟩
def f4ctx (k : Nat) : Ctx := ⟨tyAt tys, conAt [(16, [f16con (laws_szColS k)]), (17, [f17con (laws_szRec k)]), (18, [f18con (spec_RecValues k)]), (19, [f19con (laws_toColS k)]), (20, [f20con (laws_toRec k)]), (21, [f21con (impl_RecValues k)]), (22, [f22con (laws_eqValS k)]), (23, [f23con (laws_eqColS k)]), (24, [f24con (laws_eqRec k)]), (25, [f25con (laws_markColS k)]), (26, [f26con (laws_markRec k)]), (27, [f27con (laws_markValS k)]), (28, [f28con (laws_heldValS k)])], 124, fun _ => false⟩
theorem f4hc (k : Nat) : CtxOk Try.prog (f4ctx k) := ctxOk tys_ok mixed_ok (consOk_cons (f16ok k) (consOk_cons (f17ok k) (consOk_cons (f18ok k) (consOk_cons (f19ok k) (consOk_cons (f20ok k) (consOk_cons (f21ok k) (consOk_cons (f22ok k) (consOk_cons (f23ok k) (consOk_cons (f24ok k) (consOk_cons (f25ok k) (consOk_cons (f26ok k) (consOk_cons (f27ok k) (consOk_cons (f28ok k) (consOk_nil))))))))))))))
theorem f4ok (k : Nat) : FnOk Try.prog 4 (f4con (laws_FnExactRecValues k)) :=
  let hc := f4hc k
  fnOk (fn := Try.f4) (code := bodyOf Try.f4) (res := [.tmp 6]) hc (by kernel_rfl) (by kernel_rfl) (by decide) (by kernel_rfl) (by kernel_rfl) (by kernel_rfl) (Nat.le_of_ble_eq_true (by kernel_rfl)) _
    (fun x => Snd.seq (by kernel_rfl) (Snd.seq (by kernel_rfl) (Snd.seq (by kernel_rfl) (Snd.seq (by kernel_rfl) (Snd.seq (by kernel_rfl) (Snd.seq (by kernel_rfl) (Snd.seq (by kernel_rfl) (Snd.seq (by kernel_rfl) (Snd.seq (by kernel_rfl) (Snd.seq (by kernel_rfl) (Snd.seq (by kernel_rfl) (Snd.seq (by kernel_rfl) (Snd.seq (by kernel_rfl) (Snd.seq (by kernel_rfl) (Snd.seq (by kernel_rfl) (Snd.seq (by kernel_rfl) (Snd.seq (by kernel_rfl) (Snd.seq (by kernel_rfl) (Snd.seq (by kernel_rfl) (Snd.seq (by kernel_rfl) (Snd.seq (by kernel_rfl) (Snd.seq (by kernel_rfl) (Snd.seq (by kernel_rfl) (Snd.seq (by kernel_rfl) (Snd.exec hc _ _ _ _) (Snd.fork hc (id := 31) (by kernel_rfl) ⟨f4d31, fun x => laws_FnExactRecValues.d31 k x.1.1 x.1.2.1 x.1.2.2.2.2.1 x.1.2.2.2.2.2.2 x.2.1 x.2.2.1 x.2.2.2⟩ [[0, 4, 1, 2, 3, 5, 6, 7, 8, 9, 10], [0, 4, 2, 1, 3, 5, 6, 7, 8, 9, 10]] (by kernel_rfl) (ords_cons (fun x => by kernel_rfl) (ords_cons (fun x => by kernel_rfl) (ords_nil))))) (Snd.exec hc _ _ _ _)) (Snd.exec hc _ _ _ _)) (Snd.exec hc _ _ _ _)) (Snd.exec hc _ _ _ _)) (Snd.exec hc _ _ _ _)) (Snd.exec hc _ _ _ _)) (Snd.exec hc _ _ _ _)) (Snd.exec hc _ _ _ _)) (Snd.exec hc _ _ _ _)) (Snd.exec hc _ _ _ _)) (Snd.seq (by kernel_rfl) (Snd.exec hc _ _ _ _) (Snd.fork hc (id := 16) (by kernel_rfl) ⟨f4d16, fun x => laws_FnExactRecValues.d16 k x.1.1 x.1.2.1 x.1.2.2.2.2.1 x.1.2.2.2.2.2.2.2.2 x.2.1 x.2.2.1 x.2.2.2.1 x.2.2.2.2.1 x.2.2.2.2.2.1 x.2.2.2.2.2.2⟩ [[0, 1, 2, 3, 4], [1, 0, 2, 3, 4], [1, 2, 0, 3, 4]] (by kernel_rfl) (ords_cons (fun x => by kernel_rfl) (ords_cons (fun x => by kernel_rfl) (ords_cons (fun x => by kernel_rfl) (ords_nil))))))) (Snd.exec hc _ _ _ _)) (Snd.exec hc _ _ _ _)) (Snd.exec hc _ _ _ _)) (Snd.exec hc _ _ _ _)) (Snd.exec hc _ _ _ _)) (Snd.fork hc (id := 8) (by kernel_rfl) ⟨f4d8, fun x => laws_FnExactRecValues.d8 k x.1.1 x.1.2.1 x.2⟩ [[0, 4, 1, 2, 3, 5, 6, 7, 8, 9, 10], [0, 4, 2, 1, 3, 5, 6, 7, 8, 9, 10]] (by kernel_rfl) (ords_cons (fun x => by kernel_rfl) (ords_cons (fun x => by kernel_rfl) (ords_nil))))) (Snd.exec hc _ _ _ _)) (Snd.exec hc _ _ _ _)) (Snd.exec hc _ _ _ _)) (Snd.exec hc _ _ _ _)) (Snd.exec hc _ _ _ _)) (Snd.exec hc _ _ _ _))
    (fun x => by kernel_rfl)

end Go.Proofs.Ytmdmkakkodeniaa
