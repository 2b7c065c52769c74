/- The walks, printed by program. -/
import Derived.Test.YtmdmkakkodeniaaBase
import Derived.Test.YtmdmkakkodeniaaTextsF0
set_option linter.unusedVariables false
set_option maxRecDepth 100000
namespace Go.Proofs.Ytmdmkakkodeniaa
open Go.Am Go.Fn

def f8in : SS := ⟨[(0, (.ro (.list 5 (.int .u8))))], []⟩
def f8out : SS := ⟨[(0, (.ro .bool))], []⟩
def f8con (F : (List Int) → Option Bool) : Con := ⟨f8in, f8out, 1, 1, fun x => F x⟩
def f8ctx (k : Nat) : Ctx := ⟨tyAt tys, conAt [], 6, fun _ => false⟩
theorem f8hc (k : Nat) : CtxOk Try.prog (f8ctx k) := ctxOk tys_ok mixed_ok (consOk_nil)
theorem f8ok (k : Nat) : FnOk Try.prog 8 (f8con (laws_big k)) :=
  let hc := f8hc k
  fnOk (fn := Try.f8) (code := bodyOf Try.f8) (res := [.tmp 2]) hc (by kernel_rfl) (by kernel_rfl) (by decide) (by kernel_rfl) (by kernel_rfl) (by kernel_rfl) (Nat.le_of_ble_eq_true (by kernel_rfl)) _
    (fun x => Snd.exec hc _ _ _ _)
    (fun x => by kernel_rfl)

def f50in : SS := ⟨[(0, (.ro (.list 5 (.int .u8))))], []⟩
def f50out : SS := ⟨[(0, (.p 100))], [(100, (.box (.st (.cons (.list 5 (.int .u8)) (.cons (.int .i64) (.cons (.int .i64) .nil)))) (.agg (.cons (.ro (.list 5 (.int .u8))) (.cons (.ro (.int .i64)) (.cons (.ro (.int .i64)) .nil))))))]⟩
def f50s3 : SS := ⟨[(0, (.ro (.list 5 (.int .u8)))), (3, (.ro (.int .i64))), (4, (.ro (.int .i64)))], []⟩
def f50con (F : (List Int) → Option (Unit × TL1Cur)) : Con := ⟨f50in, f50out, 1, 1, fun x => F x⟩
def f50ctx (k : Nat) : Ctx := ⟨tyAt tys, conAt [], 32, fun _ => false⟩
theorem f50hc (k : Nat) : CtxOk Try.prog (f50ctx k) := ctxOk tys_ok mixed_ok (consOk_nil)
theorem f50ok (k : Nat) : FnOk Try.prog 50 (f50con (spec_l1New k)) :=
  let hc := f50hc k
  fnOk (fn := Try.f50) (code := bodyOf Try.f50) (res := [.tmp 2]) hc (by kernel_rfl) (by kernel_rfl) (by decide) (by kernel_rfl) (by kernel_rfl) (by kernel_rfl) (Nat.le_of_ble_eq_true (by kernel_rfl)) _
    (fun x => Snd.seq (by kernel_rfl) (Snd.seq (by kernel_rfl) (Snd.seq (by kernel_rfl) (Snd.exec hc _ _ _ _) (Snd.seq (by kernel_rfl) (Snd.block (id := 0) (by kernel_rfl) (Snd.loop' (by kernel_rfl) f50s3 (fun n x => spec_l1New.l3 k n x.1 x.2.1 x.2.2) _ (fun _ => rfl) (fun n3 => Snd.exec hc _ _ _ _) (fun n x => by kernel_rfl) k)) (Snd.exec hc _ _ _ _))) (Snd.exec hc _ _ _ _)) (Snd.exec hc _ _ _ _))
    (fun x => by kernel_rfl)

def f144in : SS := ⟨[(0, (.p 0))], [(0, (.box (.st (.cons (.list 5 (.int .u8)) (.cons (.int .i64) (.cons (.int .i64) .nil)))) (.agg (.cons (.ro (.list 5 (.int .u8))) (.cons (.ro (.int .i64)) (.cons (.ro (.int .i64)) .nil))))))]⟩
def f144out : SS := ⟨[(0, (.ro (.int .i64)))], [(0, (.box (.st (.cons (.list 5 (.int .u8)) (.cons (.int .i64) (.cons (.int .i64) .nil)))) (.agg (.cons (.ro (.list 5 (.int .u8))) (.cons (.ro (.int .i64)) (.cons (.ro (.int .i64)) .nil))))))]⟩
def f144s6 : SS := ⟨[(3, (.ro (.int .i64)))], [(0, (.box (.st (.cons (.list 5 (.int .u8)) (.cons (.int .i64) (.cons (.int .i64) .nil)))) (.agg (.cons (.ro (.list 5 (.int .u8))) (.cons (.ro (.int .i64)) (.cons (.ro (.int .i64)) .nil))))))]⟩
def f144con (F : TL1Cur → Option (Int × TL1Cur)) : Con := ⟨f144in, f144out, 1, 1, fun x => F x.2⟩
def f144ctx (k : Nat) : Ctx := ⟨tyAt tys, conAt [], 58, fun _ => false⟩
theorem f144hc (k : Nat) : CtxOk Try.prog (f144ctx k) := ctxOk tys_ok mixed_ok (consOk_nil)
theorem f144ok (k : Nat) : FnOk Try.prog 144 (f144con (spec_l1Byte k)) :=
  let hc := f144hc k
  fnOk (fn := Try.f144) (code := bodyOf Try.f144) (res := [.tmp 2]) hc (by kernel_rfl) (by kernel_rfl) (by decide) (by kernel_rfl) (by kernel_rfl) (by kernel_rfl) (Nat.le_of_ble_eq_true (by kernel_rfl)) _
    (fun x => Snd.seq (by kernel_rfl) (Snd.seq (by kernel_rfl) (Snd.seq (by kernel_rfl) (Snd.seq (by kernel_rfl) (Snd.cut (Snd.exec hc _ _ _ _) ⟨f144s6, fun x => spec_l1Byte.c6 k x.1 x.2⟩ (fun x => by kernel_rfl)) (Snd.exec hc _ _ _ _)) (Snd.exec hc _ _ _ _)) (Snd.exec hc _ _ _ _)) (Snd.exec hc _ _ _ _))
    (fun x => by kernel_rfl)

def f91in : SS := ⟨[(0, (.p 0)), (1, (.ro (.int .i64)))], [(0, (.box (.st (.cons (.list 5 (.int .u8)) (.cons (.int .i64) (.cons (.int .i64) .nil)))) (.agg (.cons (.ro (.list 5 (.int .u8))) (.cons (.ro (.int .i64)) (.cons (.ro (.int .i64)) .nil))))))]⟩
def f91out : SS := ⟨[(0, (.ro (.int .i64)))], [(0, (.box (.st (.cons (.list 5 (.int .u8)) (.cons (.int .i64) (.cons (.int .i64) .nil)))) (.agg (.cons (.ro (.list 5 (.int .u8))) (.cons (.ro (.int .i64)) (.cons (.ro (.int .i64)) .nil))))))]⟩
def f91con (F : Int → TL1Cur → Option (Int × TL1Cur)) : Con := ⟨f91in, f91out, 2, 1, fun x => F x.1.2 x.2⟩
def f91ctx (k : Nat) : Ctx := ⟨tyAt tys, conAt [(144, [f144con (spec_l1Byte k)])], 37, fun _ => false⟩
theorem f91hc (k : Nat) : CtxOk Try.prog (f91ctx k) := ctxOk tys_ok mixed_ok (consOk_cons (f144ok k) (consOk_nil))
theorem f91ok (k : Nat) : FnOk Try.prog 91 (f91con (spec_l1Below k)) :=
  let hc := f91hc k
  fnOk (fn := Try.f91) (code := bodyOf Try.f91) (res := [.tmp 4]) hc (by kernel_rfl) (by kernel_rfl) (by decide) (by kernel_rfl) (by kernel_rfl) (by kernel_rfl) (Nat.le_of_ble_eq_true (by kernel_rfl)) _
    (fun x => Snd.exec hc _ _ _ _)
    (fun x => by kernel_rfl)

def f120in : SS := ⟨[(0, (.p 0)), (1, (.ro (.int .i64)))], [(0, (.box (.st (.cons (.list 5 (.int .u8)) (.cons (.int .i64) (.cons (.int .i64) .nil)))) (.agg (.cons (.ro (.list 5 (.int .u8))) (.cons (.ro (.int .i64)) (.cons (.ro (.int .i64)) .nil))))))]⟩
def f120out : SS := ⟨[(0, (.ro .bool))], [(0, (.box (.st (.cons (.list 5 (.int .u8)) (.cons (.int .i64) (.cons (.int .i64) .nil)))) (.agg (.cons (.ro (.list 5 (.int .u8))) (.cons (.ro (.int .i64)) (.cons (.ro (.int .i64)) .nil))))))]⟩
def f120con (F : Int → TL1Cur → Option (Bool × TL1Cur)) : Con := ⟨f120in, f120out, 2, 1, fun x => F x.1.2 x.2⟩
def f120ctx (k : Nat) : Ctx := ⟨tyAt tys, conAt [(91, [f91con (spec_l1Below k)])], 9, fun _ => false⟩
theorem f120hc (k : Nat) : CtxOk Try.prog (f120ctx k) := ctxOk tys_ok mixed_ok (consOk_cons (f91ok k) (consOk_nil))
theorem f120ok (k : Nat) : FnOk Try.prog 120 (f120con (spec_l1Once k)) :=
  let hc := f120hc k
  fnOk (fn := Try.f120) (code := bodyOf Try.f120) (res := [.tmp 4]) hc (by kernel_rfl) (by kernel_rfl) (by decide) (by kernel_rfl) (by kernel_rfl) (by kernel_rfl) (Nat.le_of_ble_eq_true (by kernel_rfl)) _
    (fun x => Snd.exec hc _ _ _ _)
    (fun x => by kernel_rfl)

def f92in : SS := ⟨[(0, (.p 0)), (1, (.ro (.list 3 (.int .i64))))], [(0, (.box (.st (.cons (.list 5 (.int .u8)) (.cons (.int .i64) (.cons (.int .i64) .nil)))) (.agg (.cons (.ro (.list 5 (.int .u8))) (.cons (.ro (.int .i64)) (.cons (.ro (.int .i64)) .nil))))))]⟩
def f92out : SS := ⟨[(0, (.ro (.int .i64)))], [(0, (.box (.st (.cons (.list 5 (.int .u8)) (.cons (.int .i64) (.cons (.int .i64) .nil)))) (.agg (.cons (.ro (.list 5 (.int .u8))) (.cons (.ro (.int .i64)) (.cons (.ro (.int .i64)) .nil))))))]⟩
def f92con (F : (List Int) → TL1Cur → Option (Int × TL1Cur)) : Con := ⟨f92in, f92out, 2, 1, fun x => F x.1.2 x.2⟩
def f92ctx (k : Nat) : Ctx := ⟨tyAt tys, conAt [(91, [f91con (spec_l1Below k)])], 12, fun _ => false⟩
theorem f92hc (k : Nat) : CtxOk Try.prog (f92ctx k) := ctxOk tys_ok mixed_ok (consOk_cons (f91ok k) (consOk_nil))
theorem f92ok (k : Nat) : FnOk Try.prog 92 (f92con (spec_l1PickInt k)) :=
  let hc := f92hc k
  fnOk (fn := Try.f92) (code := bodyOf Try.f92) (res := [.tmp 4]) hc (by kernel_rfl) (by kernel_rfl) (by decide) (by kernel_rfl) (by kernel_rfl) (by kernel_rfl) (Nat.le_of_ble_eq_true (by kernel_rfl)) _
    (fun x => Snd.exec hc _ _ _ _)
    (fun x => by kernel_rfl)

def f162in : SS := ⟨[(0, (.p 0)), (1, (.ro (.int .i64)))], [(0, (.box (.st (.cons (.list 5 (.int .u8)) (.cons (.int .i64) (.cons (.int .i64) .nil)))) (.agg (.cons (.ro (.list 5 (.int .u8))) (.cons (.ro (.int .i64)) (.cons (.ro (.int .i64)) .nil))))))]⟩
def f162out : SS := ⟨[(0, (.h 100))], [(0, (.box (.st (.cons (.list 5 (.int .u8)) (.cons (.int .i64) (.cons (.int .i64) .nil)))) (.agg (.cons (.ro (.list 5 (.int .u8))) (.cons (.ro (.int .i64)) (.cons (.ro (.int .i64)) .nil)))))), (100, (.sl 5 (.int .u8)))]⟩
def f162s4 : SS := ⟨[(0, (.p 0)), (5, (.h 100)), (6, (.ro (.int .i64))), (7, (.ro (.int .i64)))], [(0, (.box (.st (.cons (.list 5 (.int .u8)) (.cons (.int .i64) (.cons (.int .i64) .nil)))) (.agg (.cons (.ro (.list 5 (.int .u8))) (.cons (.ro (.int .i64)) (.cons (.ro (.int .i64)) .nil)))))), (100, (.sl 5 (.int .u8)))]⟩
def f162con (F : Int → TL1Cur → Option (Unit × TL1Cur × (List Int))) : Con := ⟨f162in, f162out, 2, 1, fun x => F x.1.2 x.2⟩
def f162ctx (k : Nat) : Ctx := ⟨tyAt tys, conAt [(91, [f91con (spec_l1Below k)]), (144, [f144con (spec_l1Byte k)])], 25, fun _ => false⟩
theorem f162hc (k : Nat) : CtxOk Try.prog (f162ctx k) := ctxOk tys_ok mixed_ok (consOk_cons (f91ok k) (consOk_cons (f144ok k) (consOk_nil)))
theorem f162ok (k : Nat) : FnOk Try.prog 162 (f162con (spec_l1DrawBytes k)) :=
  let hc := f162hc k
  fnOk (fn := Try.f162) (code := bodyOf Try.f162) (res := [.tmp 4]) hc (by kernel_rfl) (by kernel_rfl) (by decide) (by kernel_rfl) (by kernel_rfl) (by kernel_rfl) (Nat.le_of_ble_eq_true (by kernel_rfl)) _
    (fun x => Snd.seq (by kernel_rfl) (Snd.seq (by kernel_rfl) (Snd.seq (by kernel_rfl) (Snd.seq (by kernel_rfl) (Snd.exec hc _ _ _ _) (Snd.seq (by kernel_rfl) (Snd.block (id := 0) (by kernel_rfl) (Snd.loop' (by kernel_rfl) f162s4 (fun n x => spec_l1DrawBytes.l4 k n x.1.2.2.1 x.1.2.2.2 x.2.1 x.2.2) _ (fun _ => rfl) (fun n4 => Snd.exec hc _ _ _ _) (fun n x => by kernel_rfl) k)) (Snd.exec hc _ _ _ _))) (Snd.exec hc _ _ _ _)) (Snd.exec hc _ _ _ _)) (Snd.exec hc _ _ _ _))
    (fun x => by kernel_rfl)

def f121in : SS := ⟨[(0, (.p 0)), (1, (.ro (.int .i64)))], [(0, (.box (.st (.cons (.list 5 (.int .u8)) (.cons (.int .i64) (.cons (.int .i64) .nil)))) (.agg (.cons (.ro (.list 5 (.int .u8))) (.cons (.ro (.int .i64)) (.cons (.ro (.int .i64)) .nil))))))]⟩
def f121out : SS := ⟨[(0, (.ro .str))], [(0, (.box (.st (.cons (.list 5 (.int .u8)) (.cons (.int .i64) (.cons (.int .i64) .nil)))) (.agg (.cons (.ro (.list 5 (.int .u8))) (.cons (.ro (.int .i64)) (.cons (.ro (.int .i64)) .nil))))))]⟩
def f121con (F : Int → TL1Cur → Option (ByteArray × TL1Cur)) : Con := ⟨f121in, f121out, 2, 1, fun x => F x.1.2 x.2⟩
def f121ctx (k : Nat) : Ctx := ⟨tyAt tys, conAt [(162, [f162con (spec_l1DrawBytes k)])], 9, fun _ => false⟩
theorem f121hc (k : Nat) : CtxOk Try.prog (f121ctx k) := ctxOk tys_ok mixed_ok (consOk_cons (f162ok k) (consOk_nil))
theorem f121ok (k : Nat) : FnOk Try.prog 121 (f121con (spec_l4DrawText k)) :=
  let hc := f121hc k
  fnOk (fn := Try.f121) (code := bodyOf Try.f121) (res := [.tmp 4]) hc (by kernel_rfl) (by kernel_rfl) (by decide) (by kernel_rfl) (by kernel_rfl) (by kernel_rfl) (Nat.le_of_ble_eq_true (by kernel_rfl)) _
    (fun x => Snd.exec hc _ _ _ _)
    (fun x => by kernel_rfl)

def f136in : SS := ⟨[(0, (.p 0)), (1, (.ro (.list 9 .str)))], [(0, (.box (.st (.cons (.list 5 (.int .u8)) (.cons (.int .i64) (.cons (.int .i64) .nil)))) (.agg (.cons (.ro (.list 5 (.int .u8))) (.cons (.ro (.int .i64)) (.cons (.ro (.int .i64)) .nil))))))]⟩
def f136out : SS := ⟨[(0, (.ro .str))], [(0, (.box (.st (.cons (.list 5 (.int .u8)) (.cons (.int .i64) (.cons (.int .i64) .nil)))) (.agg (.cons (.ro (.list 5 (.int .u8))) (.cons (.ro (.int .i64)) (.cons (.ro (.int .i64)) .nil))))))]⟩
def f136con (F : (List ByteArray) → TL1Cur → Option (ByteArray × TL1Cur)) : Con := ⟨f136in, f136out, 2, 1, fun x => F x.1.2 x.2⟩
def f136ctx (k : Nat) : Ctx := ⟨tyAt tys, conAt [(91, [f91con (spec_l1Below k)])], 12, fun _ => false⟩
theorem f136hc (k : Nat) : CtxOk Try.prog (f136ctx k) := ctxOk tys_ok mixed_ok (consOk_cons (f91ok k) (consOk_nil))
theorem f136ok (k : Nat) : FnOk Try.prog 136 (f136con (spec_l1Pick k)) :=
  let hc := f136hc k
  fnOk (fn := Try.f136) (code := bodyOf Try.f136) (res := [.tmp 4]) hc (by kernel_rfl) (by kernel_rfl) (by decide) (by kernel_rfl) (by kernel_rfl) (by kernel_rfl) (Nat.le_of_ble_eq_true (by kernel_rfl)) _
    (fun x => Snd.exec hc _ _ _ _)
    (fun x => by kernel_rfl)

def f173in : SS := ⟨[(0, (.p 0))], [(0, (.box (.st (.cons (.list 5 (.int .u8)) (.cons (.int .i64) (.cons (.int .i64) .nil)))) (.agg (.cons (.ro (.list 5 (.int .u8))) (.cons (.ro (.int .i64)) (.cons (.ro (.int .i64)) .nil))))))]⟩
def f173out : SS := ⟨[(0, (.ro (.int .i64)))], [(0, (.box (.st (.cons (.list 5 (.int .u8)) (.cons (.int .i64) (.cons (.int .i64) .nil)))) (.agg (.cons (.ro (.list 5 (.int .u8))) (.cons (.ro (.int .i64)) (.cons (.ro (.int .i64)) .nil))))))]⟩
def f173con (F : TL1Cur → Option (Int × TL1Cur)) : Con := ⟨f173in, f173out, 1, 1, fun x => F x.2⟩
def f173ctx (k : Nat) : Ctx := ⟨tyAt tys, conAt [(91, [f91con (spec_l1Below k)]), (92, [f92con (spec_l1PickInt k)])], 13, fun _ => false⟩
theorem f173hc (k : Nat) : CtxOk Try.prog (f173ctx k) := ctxOk tys_ok mixed_ok (consOk_cons (f91ok k) (consOk_cons (f92ok k) (consOk_nil)))
theorem f173ok (k : Nat) : FnOk Try.prog 173 (f173con (spec_l2DrawNum k)) :=
  let hc := f173hc k
  fnOk (fn := Try.f173) (code := bodyOf Try.f173) (res := [.tmp 2]) hc (by kernel_rfl) (by kernel_rfl) (by decide) (by kernel_rfl) (by kernel_rfl) (by kernel_rfl) (Nat.le_of_ble_eq_true (by kernel_rfl)) _
    (fun x => Snd.exec hc _ _ _ _)
    (fun x => by kernel_rfl)

def f160in : SS := ⟨[(0, (.p 0)), (1, (.ro (.int .i64)))], [(0, (.box (.st (.cons (.list 5 (.int .u8)) (.cons (.int .i64) (.cons (.int .i64) .nil)))) (.agg (.cons (.ro (.list 5 (.int .u8))) (.cons (.ro (.int .i64)) (.cons (.ro (.int .i64)) .nil))))))]⟩
def f160out : SS := ⟨[(0, (.agg (.cons (.ro (.int .i64)) (.cons (.ro .str) .nil))))], [(0, (.box (.st (.cons (.list 5 (.int .u8)) (.cons (.int .i64) (.cons (.int .i64) .nil)))) (.agg (.cons (.ro (.list 5 (.int .u8))) (.cons (.ro (.int .i64)) (.cons (.ro (.int .i64)) .nil))))))]⟩
def f160con (F : Int → TL1Cur → Option ((TVal) × TL1Cur)) : Con := ⟨f160in, f160out, 2, 1, fun x => F x.1.2 x.2⟩
def f160ctx (k : Nat) : Ctx := ⟨tyAt tys, conAt [(91, [f91con (spec_l1Below k)]), (92, [f92con (spec_l1PickInt k)]), (120, [f120con (spec_l1Once k)]), (121, [f121con (spec_l4DrawText k)]), (136, [f136con (spec_l1Pick k)]), (173, [f173con (spec_l2DrawNum k)])], 53, fun _ => false⟩
theorem f160hc (k : Nat) : CtxOk Try.prog (f160ctx k) := ctxOk tys_ok mixed_ok (consOk_cons (f91ok k) (consOk_cons (f92ok k) (consOk_cons (f120ok k) (consOk_cons (f121ok k) (consOk_cons (f136ok k) (consOk_cons (f173ok k) (consOk_nil)))))))
theorem f160ok (k : Nat) : FnOk Try.prog 160 (f160con (spec_l6DrawRight k)) :=
  let hc := f160hc k
  fnOk (fn := Try.f160) (code := bodyOf Try.f160) (res := [.cell 4 97]) hc (by kernel_rfl) (by kernel_rfl) (by decide) (by kernel_rfl) (by kernel_rfl) (by kernel_rfl) (Nat.le_of_ble_eq_true (by kernel_rfl)) _
    (fun x => Snd.exec hc _ _ _ _)
    (fun x => by kernel_rfl)

def f161in : SS := ⟨[(0, (.p 0)), (1, (.ro (.int .i64)))], [(0, (.box (.st (.cons (.list 5 (.int .u8)) (.cons (.int .i64) (.cons (.int .i64) .nil)))) (.agg (.cons (.ro (.list 5 (.int .u8))) (.cons (.ro (.int .i64)) (.cons (.ro (.int .i64)) .nil))))))]⟩
def f161out : SS := ⟨[(0, (.agg (.cons (.ro (.int .i64)) (.cons (.ro .str) .nil))))], [(0, (.box (.st (.cons (.list 5 (.int .u8)) (.cons (.int .i64) (.cons (.int .i64) .nil)))) (.agg (.cons (.ro (.list 5 (.int .u8))) (.cons (.ro (.int .i64)) (.cons (.ro (.int .i64)) .nil))))))]⟩
def f161s7 : SS := ⟨[(4, (.p 100)), (5, (.p 101))], [(0, (.box (.st (.cons (.list 5 (.int .u8)) (.cons (.int .i64) (.cons (.int .i64) .nil)))) (.agg (.cons (.ro (.list 5 (.int .u8))) (.cons (.ro (.int .i64)) (.cons (.ro (.int .i64)) .nil)))))), (100, (.box (.st (.cons (.int .i64) (.cons .str .nil))) (.agg (.cons (.ro (.int .i64)) (.cons (.ro .str) .nil))))), (101, (.box (.st (.cons (.int .i64) (.cons .str .nil))) (.agg (.cons (.ro (.int .i64)) (.cons (.ro .str) .nil)))))]⟩
def f161con (F : Int → TL1Cur → Option ((TVal) × TL1Cur)) : Con := ⟨f161in, f161out, 2, 1, fun x => F x.1.2 x.2⟩
def f161ctx (k : Nat) : Ctx := ⟨tyAt tys, conAt [(91, [f91con (spec_l1Below k)]), (92, [f92con (spec_l1PickInt k)]), (160, [f160con (spec_l6DrawRight k)])], 26, fun _ => false⟩
theorem f161hc (k : Nat) : CtxOk Try.prog (f161ctx k) := ctxOk tys_ok mixed_ok (consOk_cons (f91ok k) (consOk_cons (f92ok k) (consOk_cons (f160ok k) (consOk_nil))))
theorem f161ok (k : Nat) : FnOk Try.prog 161 (f161con (spec_l6DrawVal k)) :=
  let hc := f161hc k
  fnOk (fn := Try.f161) (code := bodyOf Try.f161) (res := [.cell 4 97]) hc (by kernel_rfl) (by kernel_rfl) (by decide) (by kernel_rfl) (by kernel_rfl) (by kernel_rfl) (Nat.le_of_ble_eq_true (by kernel_rfl)) _
    (fun x => Snd.seq (by kernel_rfl) (Snd.seq (by kernel_rfl) (Snd.seq (by kernel_rfl) (Snd.cut (Snd.exec hc _ _ _ _) ⟨f161s7, fun x => spec_l6DrawVal.c7 k x.2.1 x.2.2.1 x.2.2.2⟩ (fun x => by kernel_rfl)) (Snd.exec hc _ _ _ _)) (Snd.exec hc _ _ _ _)) (Snd.exec hc _ _ _ _))
    (fun x => by kernel_rfl)

def f119in : SS := ⟨[(0, (.p 0)), (1, (.ro (.int .i64))), (2, (.ro (.int .i64)))], [(0, (.box (.st (.cons (.list 5 (.int .u8)) (.cons (.int .i64) (.cons (.int .i64) .nil)))) (.agg (.cons (.ro (.list 5 (.int .u8))) (.cons (.ro (.int .i64)) (.cons (.ro (.int .i64)) .nil))))))]⟩
def f119out : SS := ⟨[(0, (.h 100))], [(0, (.box (.st (.cons (.list 5 (.int .u8)) (.cons (.int .i64) (.cons (.int .i64) .nil)))) (.agg (.cons (.ro (.list 5 (.int .u8))) (.cons (.ro (.int .i64)) (.cons (.ro (.int .i64)) .nil)))))), (100, (.sl 97 (.st (.cons (.int .i64) (.cons .str .nil)))))]⟩
def f119s11 : SS := ⟨[(7, (.h 100))], [(0, (.box (.st (.cons (.list 5 (.int .u8)) (.cons (.int .i64) (.cons (.int .i64) .nil)))) (.agg (.cons (.ro (.list 5 (.int .u8))) (.cons (.ro (.int .i64)) (.cons (.ro (.int .i64)) .nil)))))), (100, (.sl 97 (.st (.cons (.int .i64) (.cons .str .nil)))))]⟩
def f119s5 : SS := ⟨[(0, (.p 0)), (1, (.ro (.int .i64))), (7, (.h 100)), (8, (.ro (.int .i64))), (9, (.ro (.int .i64)))], [(0, (.box (.st (.cons (.list 5 (.int .u8)) (.cons (.int .i64) (.cons (.int .i64) .nil)))) (.agg (.cons (.ro (.list 5 (.int .u8))) (.cons (.ro (.int .i64)) (.cons (.ro (.int .i64)) .nil)))))), (100, (.sl 97 (.st (.cons (.int .i64) (.cons .str .nil)))))]⟩
def f119s4 : SS := ⟨[(0, (.p 0)), (1, (.ro (.int .i64))), (7, (.h 100)), (8, (.ro (.int .i64))), (9, (.ro (.int .i64)))], [(0, (.box (.st (.cons (.list 5 (.int .u8)) (.cons (.int .i64) (.cons (.int .i64) .nil)))) (.agg (.cons (.ro (.list 5 (.int .u8))) (.cons (.ro (.int .i64)) (.cons (.ro (.int .i64)) .nil)))))), (100, (.sl 97 (.st (.cons (.int .i64) (.cons .str .nil)))))]⟩
def f119con (F : Int → Int → TL1Cur → Option (Unit × TL1Cur × (List TVal))) : Con := ⟨f119in, f119out, 3, 1, fun x => F x.1.2.1 x.1.2.2 x.2⟩
def f119ctx (k : Nat) : Ctx := ⟨tyAt tys, conAt [(91, [f91con (spec_l1Below k)]), (120, [f120con (spec_l1Once k)]), (160, [f160con (spec_l6DrawRight k)]), (161, [f161con (spec_l6DrawVal k)])], 50, fun s => Nat.beq s 22⟩
theorem f119hc (k : Nat) : CtxOk Try.prog (f119ctx k) := ctxOk tys_ok mixed_ok (consOk_cons (f91ok k) (consOk_cons (f120ok k) (consOk_cons (f160ok k) (consOk_cons (f161ok k) (consOk_nil)))))
theorem f119ok (k : Nat) : FnOk Try.prog 119 (f119con (spec_l6DrawList k)) :=
  let hc := f119hc k
  fnOk (fn := Try.f119) (code := bodyOf Try.f119) (res := [.tmp 6]) hc (by kernel_rfl) (by kernel_rfl) (by decide) (by kernel_rfl) (by kernel_rfl) (by kernel_rfl) (Nat.le_of_ble_eq_true (by kernel_rfl)) _
    (fun x => Snd.seq (by kernel_rfl) (Snd.seq (by kernel_rfl) (Snd.seq (by kernel_rfl) (Snd.seq (by kernel_rfl) (Snd.seq (by kernel_rfl) (Snd.cut (Snd.exec hc _ _ _ _) ⟨f119s11, fun x => spec_l6DrawList.c11 k x.2.1 x.2.2⟩ (fun x => by kernel_rfl)) (Snd.exec hc _ _ _ _)) (Snd.seq (by kernel_rfl) (Snd.block (id := 0) (by kernel_rfl) (Snd.loop' (by kernel_rfl) f119s4 (fun n x => spec_l6DrawList.l4 k n x.1.2.1 x.1.2.2.2.1 x.1.2.2.2.2 x.2.1 x.2.2) _ (fun _ => rfl) (fun n4 => Snd.seq (by kernel_rfl) (Snd.seq (by kernel_rfl) (Snd.cut (Snd.exec hc _ _ _ _) ⟨f119s5, fun x => spec_l6DrawList.c5 k (spec_l6DrawList.l4 k n4) x.1.2.1 x.1.2.2.2.1 x.1.2.2.2.2 x.2.1 x.2.2⟩ (fun x => by kernel_rfl)) (Snd.exec hc _ _ _ _)) (Snd.exec hc _ _ _ _)) (fun n x => by kernel_rfl) k)) (Snd.exec hc _ _ _ _))) (Snd.exec hc _ _ _ _)) (Snd.exec hc _ _ _ _)) (Snd.exec hc _ _ _ _))
    (fun x => by kernel_rfl)

def f76in : SS := ⟨[(0, (.p 0))], [(0, (.box (.st (.cons (.list 5 (.int .u8)) (.cons (.int .i64) (.cons (.int .i64) .nil)))) (.agg (.cons (.ro (.list 5 (.int .u8))) (.cons (.ro (.int .i64)) (.cons (.ro (.int .i64)) .nil))))))]⟩
def f76out : SS := ⟨[(0, (.h 100))], [(0, (.box (.st (.cons (.list 5 (.int .u8)) (.cons (.int .i64) (.cons (.int .i64) .nil)))) (.agg (.cons (.ro (.list 5 (.int .u8))) (.cons (.ro (.int .i64)) (.cons (.ro (.int .i64)) .nil)))))), (100, (.sl 97 (.st (.cons (.int .i64) (.cons .str .nil)))))]⟩
def f76s4 : SS := ⟨[(0, (.p 0)), (3, (.h 100)), (4, (.ro (.int .i64)))], [(0, (.box (.st (.cons (.list 5 (.int .u8)) (.cons (.int .i64) (.cons (.int .i64) .nil)))) (.agg (.cons (.ro (.list 5 (.int .u8))) (.cons (.ro (.int .i64)) (.cons (.ro (.int .i64)) .nil)))))), (100, (.sl 97 (.st (.cons (.int .i64) (.cons .str .nil)))))]⟩
def f76d6 : SS := ⟨[(0, (.p 0)), (3, (.h 100)), (4, (.ro (.int .i64)))], [(0, (.box (.st (.cons (.list 5 (.int .u8)) (.cons (.int .i64) (.cons (.int .i64) .nil)))) (.agg (.cons (.ro (.list 5 (.int .u8))) (.cons (.ro (.int .i64)) (.cons (.ro (.int .i64)) .nil)))))), (100, (.sl 97 (.st (.cons (.int .i64) (.cons .str .nil)))))]⟩
def f76s3 : SS := ⟨[(0, (.p 0)), (3, (.h 100)), (4, (.ro (.int .i64)))], [(0, (.box (.st (.cons (.list 5 (.int .u8)) (.cons (.int .i64) (.cons (.int .i64) .nil)))) (.agg (.cons (.ro (.list 5 (.int .u8))) (.cons (.ro (.int .i64)) (.cons (.ro (.int .i64)) .nil)))))), (100, (.sl 97 (.st (.cons (.int .i64) (.cons .str .nil)))))]⟩
def f76con (F : TL1Cur → Option (Unit × TL1Cur × (List TVal))) : Con := ⟨f76in, f76out, 1, 1, fun x => F x.2⟩
def f76ctx (k : Nat) : Ctx := ⟨tyAt tys, conAt [(119, [f119con (spec_l6DrawList k)]), (120, [f120con (spec_l1Once k)]), (121, [f121con (spec_l4DrawText k)])], 39, fun _ => false⟩
theorem f76hc (k : Nat) : CtxOk Try.prog (f76ctx k) := ctxOk tys_ok mixed_ok (consOk_cons (f119ok k) (consOk_cons (f120ok k) (consOk_cons (f121ok k) (consOk_nil))))
theorem f76ok (k : Nat) : FnOk Try.prog 76 (f76con (spec_l10DrawList k)) :=
  let hc := f76hc k
  fnOk (fn := Try.f76) (code := bodyOf Try.f76) (res := [.tmp 2]) hc (by kernel_rfl) (by kernel_rfl) (by decide) (by kernel_rfl) (by kernel_rfl) (by kernel_rfl) (Nat.le_of_ble_eq_true (by kernel_rfl)) _
    (fun x => Snd.seq (by kernel_rfl) (Snd.seq (by kernel_rfl) (Snd.seq (by kernel_rfl) (Snd.exec hc _ _ _ _) (Snd.seq (by kernel_rfl) (Snd.block (id := 0) (by kernel_rfl) (Snd.loop' (by kernel_rfl) f76s3 (fun n x => spec_l10DrawList.l3 k n x.1.2.2 x.2.1 x.2.2) _ (fun _ => rfl) (fun n3 => Snd.seq (by kernel_rfl) (Snd.seq (by kernel_rfl) (Snd.cut (Snd.exec hc _ _ _ _) ⟨f76s4, fun x => spec_l10DrawList.c4 k (spec_l10DrawList.l3 k n3) x.1.2.2 x.2.1 x.2.2⟩ (fun x => by kernel_rfl)) (Snd.block (id := 1) (by kernel_rfl) (Snd.seq (by kernel_rfl) (Snd.cond (x := .tmp 24) (by kernel_rfl) (Snd.fork hc (id := 6) (by kernel_rfl) ⟨f76d6, fun x => spec_l10DrawList.d6 k (spec_l10DrawList.l3 k n3) x.1.2.2 x.2.1 x.2.2⟩ [[0, 1, 2, 3, 4, 5, 6, 8, 7, 9, 10, 11, 12, 13], [0, 1, 2, 3, 4, 5, 6, 8, 9, 7, 10, 11, 12, 13]] (by kernel_rfl) (ords_cons (fun x => by kernel_rfl) (ords_cons (fun x => by kernel_rfl) (ords_nil)))) (Snd.exec hc _ _ _ _)) (Snd.exec hc _ _ _ _)))) (Snd.exec hc _ _ _ _)) (fun n x => by kernel_rfl) k)) (Snd.exec hc _ _ _ _))) (Snd.exec hc _ _ _ _)) (Snd.exec hc _ _ _ _))
    (fun x => by kernel_rfl)

def f36in : SS := ⟨[(0, (.ro (.list 5 (.int .u8))))], []⟩
def f36out : SS := ⟨[(0, (.h 100))], [(100, (.sl 97 (.st (.cons (.int .i64) (.cons .str .nil)))))]⟩
def f36con (F : (List Int) → Option (Unit × (List TVal))) : Con := ⟨f36in, f36out, 1, 1, fun x => F x⟩
def f36ctx (k : Nat) : Ctx := ⟨tyAt tys, conAt [(50, [f50con (spec_l1New k)]), (76, [f76con (spec_l10DrawList k)])], 6, fun _ => false⟩
theorem f36hc (k : Nat) : CtxOk Try.prog (f36ctx k) := ctxOk tys_ok mixed_ok (consOk_cons (f50ok k) (consOk_cons (f76ok k) (consOk_nil)))
theorem f36ok (k : Nat) : FnOk Try.prog 36 (f36con (spec_DrawFrontPack k)) :=
  let hc := f36hc k
  fnOk (fn := Try.f36) (code := bodyOf Try.f36) (res := [.tmp 2]) hc (by kernel_rfl) (by kernel_rfl) (by decide) (by kernel_rfl) (by kernel_rfl) (by kernel_rfl) (Nat.le_of_ble_eq_true (by kernel_rfl)) _
    (fun x => Snd.exec hc _ _ _ _)
    (fun x => by kernel_rfl)

def f55in : SS := ⟨[(0, (.ro (.int .i64))), (1, (.ro (.int .i64))), (2, (.ro (.int .i64)))], []⟩
def f55out : SS := ⟨[(0, (.ro .bool))], []⟩
def f55con (F : Int → Int → Int → Option Bool) : Con := ⟨f55in, f55out, 3, 1, fun x => F x.1 x.2.1 x.2.2⟩
def f55ctx (k : Nat) : Ctx := ⟨tyAt tys, conAt [], 15, fun _ => false⟩
theorem f55hc (k : Nat) : CtxOk Try.prog (f55ctx k) := ctxOk tys_ok mixed_ok (consOk_nil)
theorem f55ok (k : Nat) : FnOk Try.prog 55 (f55con (impl_within k)) :=
  let hc := f55hc k
  fnOk (fn := Try.f55) (code := bodyOf Try.f55) (res := [.tmp 6]) hc (by kernel_rfl) (by kernel_rfl) (by decide) (by kernel_rfl) (by kernel_rfl) (by kernel_rfl) (Nat.le_of_ble_eq_true (by kernel_rfl)) _
    (fun x => Snd.exec hc _ _ _ _)
    (fun x => by kernel_rfl)

def f102in : SS := ⟨[(0, (.ro (.int .i64)))], []⟩
def f102out : SS := ⟨[(0, (.ro .bool))], []⟩
def f102con (F : Int → Option Bool) : Con := ⟨f102in, f102out, 1, 1, fun x => F x⟩
def f102ctx (k : Nat) : Ctx := ⟨tyAt tys, conAt [(55, [f55con (impl_within k)])], 5, fun _ => false⟩
theorem f102hc (k : Nat) : CtxOk Try.prog (f102ctx k) := ctxOk tys_ok mixed_ok (consOk_cons (f55ok k) (consOk_nil))
theorem f102ok (k : Nat) : FnOk Try.prog 102 (f102con (impl_isInt32 k)) :=
  let hc := f102hc k
  fnOk (fn := Try.f102) (code := bodyOf Try.f102) (res := [.tmp 2]) hc (by kernel_rfl) (by kernel_rfl) (by decide) (by kernel_rfl) (by kernel_rfl) (by kernel_rfl) (Nat.le_of_ble_eq_true (by kernel_rfl)) _
    (fun x => Snd.exec hc _ _ _ _)
    (fun x => by kernel_rfl)

def f122in : SS := ⟨[(0, (.ro (.int .i64))), (1, (.ro (.st (.cons (.int .i64) (.cons .str .nil)))))], []⟩
def f122out : SS := ⟨[(0, (.ro .bool))], []⟩
def f122s8 : SS := ⟨[(0, (.ro (.int .i64))), (3, (.p 100)), (26, (.ro .bool))], [(100, (.box (.st (.cons (.int .i64) (.cons .str .nil))) (.agg (.cons (.ro (.int .i64)) (.cons (.ro .str) .nil)))))]⟩
def f122con (F : Int → TVal → Option Bool) : Con := ⟨f122in, f122out, 2, 1, fun x => F x.1 x.2⟩
def f122ctx (k : Nat) : Ctx := ⟨tyAt tys, conAt [(55, [f55con (impl_within k)]), (102, [f102con (impl_isInt32 k)])], 45, fun _ => false⟩
theorem f122hc (k : Nat) : CtxOk Try.prog (f122ctx k) := ctxOk tys_ok mixed_ok (consOk_cons (f55ok k) (consOk_cons (f102ok k) (consOk_nil)))
theorem f122ok (k : Nat) : FnOk Try.prog 122 (f122con (impl_ValOk k)) :=
  let hc := f122hc k
  fnOk (fn := Try.f122) (code := bodyOf Try.f122) (res := [.tmp 4]) hc (by kernel_rfl) (by kernel_rfl) (by decide) (by kernel_rfl) (by kernel_rfl) (by kernel_rfl) (Nat.le_of_ble_eq_true (by kernel_rfl)) _
    (fun x => Snd.seq (by kernel_rfl) (Snd.seq (by kernel_rfl) (Snd.exec hc _ _ _ _) (Snd.seq (by kernel_rfl) (Snd.block (id := 0) (by kernel_rfl) (Snd.seq (by kernel_rfl) (Snd.cond (x := .tmp 6) (by kernel_rfl) (Snd.exec hc _ _ _ _) (Snd.seq (by kernel_rfl) (Snd.cond (x := .tmp 16) (by kernel_rfl) (Snd.exec hc _ _ _ _) (Snd.seq (by kernel_rfl) (Snd.cut (Snd.exec hc _ _ _ _) ⟨f122s8, fun x => impl_ValOk.c8 k x.1.1 x.1.2.2 x.2⟩ (fun x => by kernel_rfl)) (Snd.exec hc _ _ _ _))) (Snd.exec hc _ _ _ _))) (Snd.exec hc _ _ _ _))) (Snd.exec hc _ _ _ _))) (Snd.exec hc _ _ _ _))
    (fun x => by kernel_rfl)

def f123in : SS := ⟨[(0, (.ro (.int .i64)))], []⟩
def f123out : SS := ⟨[(0, (.ro .bool))], []⟩
def f123con (F : Int → Option Bool) : Con := ⟨f123in, f123out, 1, 1, fun x => F x⟩
def f123ctx (k : Nat) : Ctx := ⟨tyAt tys, conAt [(55, [f55con (impl_within k)])], 13, fun _ => false⟩
theorem f123hc (k : Nat) : CtxOk Try.prog (f123ctx k) := ctxOk tys_ok mixed_ok (consOk_cons (f55ok k) (consOk_nil))
theorem f123ok (k : Nat) : FnOk Try.prog 123 (f123con (impl_TypeOk k)) :=
  let hc := f123hc k
  fnOk (fn := Try.f123) (code := bodyOf Try.f123) (res := [.tmp 2]) hc (by kernel_rfl) (by kernel_rfl) (by decide) (by kernel_rfl) (by kernel_rfl) (by kernel_rfl) (Nat.le_of_ble_eq_true (by kernel_rfl)) _
    (fun x => Snd.exec hc _ _ _ _)
    (fun x => by kernel_rfl)

def f77in : SS := ⟨[(0, (.ro (.int .i64))), (1, (.ro (.list 97 (.st (.cons (.int .i64) (.cons .str .nil))))))], []⟩
def f77out : SS := ⟨[(0, (.ro .bool))], []⟩
def f77s2 : SS := ⟨[(0, (.ro (.int .i64))), (1, (.ro (.list 97 (.st (.cons (.int .i64) (.cons .str .nil)))))), (7, (.ro (.list 97 (.st (.cons (.int .i64) (.cons .str .nil)))))), (8, (.ro (.int .i64))), (9, (.ro (.int .i64)))], []⟩
def f77con (F : Int → (List TVal) → Option Bool) : Con := ⟨f77in, f77out, 2, 1, fun x => F x.1 x.2⟩
def f77ctx (k : Nat) : Ctx := ⟨tyAt tys, conAt [(122, [f122con (impl_ValOk k)]), (123, [f123con (impl_TypeOk k)])], 25, fun _ => false⟩
theorem f77hc (k : Nat) : CtxOk Try.prog (f77ctx k) := ctxOk tys_ok mixed_ok (consOk_cons (f122ok k) (consOk_cons (f123ok k) (consOk_nil)))
theorem f77ok (k : Nat) : FnOk Try.prog 77 (f77con (impl_valsOk k)) :=
  let hc := f77hc k
  fnOk (fn := Try.f77) (code := bodyOf Try.f77) (res := [.tmp 4]) hc (by kernel_rfl) (by kernel_rfl) (by decide) (by kernel_rfl) (by kernel_rfl) (by kernel_rfl) (Nat.le_of_ble_eq_true (by kernel_rfl)) _
    (fun x => Snd.seq (by kernel_rfl) (Snd.seq (by kernel_rfl) (Snd.exec hc _ _ _ _) (Snd.seq (by kernel_rfl) (Snd.block (id := 0) (by kernel_rfl) (Snd.loop' (by kernel_rfl) f77s2 (fun n x => impl_valsOk.l2 k n x.1 x.2.1 x.2.2.1 x.2.2.2.1 x.2.2.2.2) _ (fun _ => rfl) (fun n2 => Snd.exec hc _ _ _ _) (fun n x => by kernel_rfl) k)) (Snd.exec hc _ _ _ _))) (Snd.exec hc _ _ _ _))
    (fun x => by kernel_rfl)

def f96in : SS := ⟨[(0, (.ro (.int .i64)))], []⟩
def f96out : SS := ⟨[(0, (.h 100))], [(100, (.sl 5 (.int .u8)))]⟩
def f96s3 : SS := ⟨[(3, (.ro (.int .u64))), (4, (.h 100))], [(100, (.sl 5 (.int .u8)))]⟩
def f96con (F : Int → Option (Unit × (List Int))) : Con := ⟨f96in, f96out, 1, 1, fun x => F x⟩
def f96ctx (k : Nat) : Ctx := ⟨tyAt tys, conAt [], 24, fun _ => false⟩
theorem f96hc (k : Nat) : CtxOk Try.prog (f96ctx k) := ctxOk tys_ok mixed_ok (consOk_nil)
theorem f96ok (k : Nat) : FnOk Try.prog 96 (f96con (impl_UvarPut k)) :=
  let hc := f96hc k
  fnOk (fn := Try.f96) (code := bodyOf Try.f96) (res := [.tmp 2]) hc (by kernel_rfl) (by kernel_rfl) (by decide) (by kernel_rfl) (by kernel_rfl) (by kernel_rfl) (Nat.le_of_ble_eq_true (by kernel_rfl)) _
    (fun x => Snd.seq (by kernel_rfl) (Snd.seq (by kernel_rfl) (Snd.seq (by kernel_rfl) (Snd.seq (by kernel_rfl) (Snd.exec hc _ _ _ _) (Snd.block (id := 0) (by kernel_rfl) (Snd.loop' (by kernel_rfl) f96s3 (fun n x => impl_UvarPut.l3 k n x.1.1 x.2) _ (fun _ => rfl) (fun n3 => Snd.exec hc _ _ _ _) (fun n x => by kernel_rfl) k))) (Snd.exec hc _ _ _ _)) (Snd.exec hc _ _ _ _)) (Snd.exec hc _ _ _ _))
    (fun x => by kernel_rfl)

def f146in : SS := ⟨[(0, (.ro (.int .i64)))], []⟩
def f146out : SS := ⟨[(0, (.ro (.int .i64)))], []⟩
def f146con (F : Int → Option Int) : Con := ⟨f146in, f146out, 1, 1, fun x => F x⟩
def f146ctx (k : Nat) : Ctx := ⟨tyAt tys, conAt [], 8, fun _ => false⟩
theorem f146hc (k : Nat) : CtxOk Try.prog (f146ctx k) := ctxOk tys_ok mixed_ok (consOk_nil)
theorem f146ok (k : Nat) : FnOk Try.prog 146 (f146con (impl_Zig k)) :=
  let hc := f146hc k
  fnOk (fn := Try.f146) (code := bodyOf Try.f146) (res := [.tmp 2]) hc (by kernel_rfl) (by kernel_rfl) (by decide) (by kernel_rfl) (by kernel_rfl) (by kernel_rfl) (Nat.le_of_ble_eq_true (by kernel_rfl)) _
    (fun x => Snd.exec hc _ _ _ _)
    (fun x => by kernel_rfl)

def f95in : SS := ⟨[(0, (.ro (.int .i64)))], []⟩
def f95out : SS := ⟨[(0, (.h 100))], [(100, (.sl 5 (.int .u8)))]⟩
def f95con (F : Int → Option (Unit × (List Int))) : Con := ⟨f95in, f95out, 1, 1, fun x => F x⟩
def f95ctx (k : Nat) : Ctx := ⟨tyAt tys, conAt [(96, [f96con (impl_UvarPut k)]), (146, [f146con (impl_Zig k)])], 6, fun _ => false⟩
theorem f95hc (k : Nat) : CtxOk Try.prog (f95ctx k) := ctxOk tys_ok mixed_ok (consOk_cons (f96ok k) (consOk_cons (f146ok k) (consOk_nil)))
theorem f95ok (k : Nat) : FnOk Try.prog 95 (f95con (impl_ZigPut k)) :=
  let hc := f95hc k
  fnOk (fn := Try.f95) (code := bodyOf Try.f95) (res := [.tmp 2]) hc (by kernel_rfl) (by kernel_rfl) (by decide) (by kernel_rfl) (by kernel_rfl) (by kernel_rfl) (Nat.le_of_ble_eq_true (by kernel_rfl)) _
    (fun x => Snd.exec hc _ _ _ _)
    (fun x => by kernel_rfl)

def f124in : SS := ⟨[(0, (.ro (.list 3 (.int .i64))))], []⟩
def f124out : SS := ⟨[(0, (.h 100))], [(100, (.sl 3 (.int .i64)))]⟩
def f124d5 : SS := ⟨[(0, (.ro (.list 3 (.int .i64)))), (3, (.h 100)), (4, (.ro (.int .i64)))], [(100, (.sl 3 (.int .i64)))]⟩
def f124s3 : SS := ⟨[(0, (.ro (.list 3 (.int .i64)))), (3, (.h 100)), (4, (.ro (.int .i64)))], [(100, (.sl 3 (.int .i64)))]⟩
def f124con (F : (List Int) → Option (Unit × (List Int))) : Con := ⟨f124in, f124out, 1, 1, fun x => F x⟩
def f124ctx (k : Nat) : Ctx := ⟨tyAt tys, conAt [], 26, fun _ => false⟩
theorem f124hc (k : Nat) : CtxOk Try.prog (f124ctx k) := ctxOk tys_ok mixed_ok (consOk_nil)
theorem f124ok (k : Nat) : FnOk Try.prog 124 (f124con (impl_Differences k)) :=
  let hc := f124hc k
  fnOk (fn := Try.f124) (code := bodyOf Try.f124) (res := [.tmp 2]) hc (by kernel_rfl) (by kernel_rfl) (by decide) (by kernel_rfl) (by kernel_rfl) (by kernel_rfl) (Nat.le_of_ble_eq_true (by kernel_rfl)) _
    (fun x => Snd.seq (by kernel_rfl) (Snd.seq (by kernel_rfl) (Snd.seq (by kernel_rfl) (Snd.exec hc _ _ _ _) (Snd.seq (by kernel_rfl) (Snd.block (id := 0) (by kernel_rfl) (Snd.loop' (by kernel_rfl) f124s3 (fun n x => impl_Differences.l3 k n x.1.1 x.1.2.2 x.2) _ (fun _ => rfl) (fun n3 => Snd.seq (by kernel_rfl) (Snd.seq (by kernel_rfl) (Snd.exec hc _ _ _ _) (Snd.block (id := 1) (by kernel_rfl) (Snd.fork hc (id := 5) (by kernel_rfl) ⟨f124d5, fun x => impl_Differences.d5 k (impl_Differences.l3 k n3) x.1.1 x.1.2.2 x.2⟩ [[0, 1, 2, 3, 5, 6, 7, 8, 4, 9, 10, 11, 12, 13], [0, 1, 2, 3, 5, 6, 7, 8, 9, 4, 10, 11, 12, 13]] (by kernel_rfl) (ords_cons (fun x => by kernel_rfl) (ords_cons (fun x => by kernel_rfl) (ords_nil)))))) (Snd.exec hc _ _ _ _)) (fun n x => by kernel_rfl) k)) (Snd.exec hc _ _ _ _))) (Snd.exec hc _ _ _ _)) (Snd.exec hc _ _ _ _))
    (fun x => by kernel_rfl)

def f163in : SS := ⟨[(0, (.ro (.list 3 (.int .i64))))], []⟩
def f163out : SS := ⟨[(0, (.ro (.int .i64)))], []⟩
def f163s5 : SS := ⟨[(0, (.ro (.list 3 (.int .i64)))), (3, (.ro (.int .i64))), (4, (.ro (.int .i64)))], []⟩
def f163s3 : SS := ⟨[(0, (.ro (.list 3 (.int .i64))))], []⟩
def f163con (F : (List Int) → Option Int) : Con := ⟨f163in, f163out, 1, 1, fun x => F x⟩
def f163ctx (k : Nat) : Ctx := ⟨tyAt tys, conAt [], 25, fun _ => false⟩
theorem f163hc (k : Nat) : CtxOk Try.prog (f163ctx k) := ctxOk tys_ok mixed_ok (consOk_nil)
theorem f163ok (k : Nat) : FnOk Try.prog 163 (f163con (slices_Min_int_int k)) :=
  let hc := f163hc k
  fnOk (fn := Try.f163) (code := bodyOf Try.f163) (res := [.tmp 2]) hc (by kernel_rfl) (by kernel_rfl) (by decide) (by kernel_rfl) (by kernel_rfl) (by kernel_rfl) (Nat.le_of_ble_eq_true (by kernel_rfl)) _
    (fun x => Snd.seq (by kernel_rfl) (Snd.seq (by kernel_rfl) (Snd.cut (Snd.seq (by kernel_rfl) (Snd.seq (by kernel_rfl) (Snd.exec hc _ _ _ _) (Snd.seq (by kernel_rfl) (Snd.block (id := 0) (by kernel_rfl) (Snd.loop' (by kernel_rfl) f163s5 (fun n x => slices_Min_int_int.l5 k n x.1 x.2.1 x.2.2) _ (fun _ => rfl) (fun n5 => Snd.exec hc _ _ _ _) (fun n x => by kernel_rfl) k)) (Snd.exec hc _ _ _ _))) (Snd.exec hc _ _ _ _)) ⟨f163s3, fun x => slices_Min_int_int.c3 k x⟩ (fun x => by kernel_rfl)) (Snd.exec hc _ _ _ _)) (Snd.exec hc _ _ _ _))
    (fun x => by kernel_rfl)

def f178in : SS := ⟨[(0, (.ro (.int .u64)))], []⟩
def f178out : SS := ⟨[(0, (.ro (.int .i64)))], []⟩
def f178s10 : SS := ⟨[(0, (.ro (.int .u64))), (2, (.ro (.int .i64)))], []⟩
def f178s7 : SS := ⟨[(0, (.ro (.int .u64))), (2, (.ro (.int .i64)))], []⟩
def f178s4 : SS := ⟨[(0, (.ro (.int .u64))), (2, (.ro (.int .i64)))], []⟩
def f178con (F : Int → Option Int) : Con := ⟨f178in, f178out, 1, 1, fun x => F x⟩
def f178ctx (k : Nat) : Ctx := ⟨tyAt tys, conAt [], 25, fun _ => false⟩
theorem f178hc (k : Nat) : CtxOk Try.prog (f178ctx k) := ctxOk tys_ok mixed_ok (consOk_nil)
theorem f178ok (k : Nat) : FnOk Try.prog 178 (f178con (bits_Len64 k)) :=
  let hc := f178hc k
  fnOk (fn := Try.f178) (code := bodyOf Try.f178) (res := [.tmp 2]) hc (by kernel_rfl) (by kernel_rfl) (by decide) (by kernel_rfl) (by kernel_rfl) (by kernel_rfl) (Nat.le_of_ble_eq_true (by kernel_rfl)) _
    (fun x => Snd.seq (by kernel_rfl) (Snd.seq (by kernel_rfl) (Snd.cut (Snd.seq (by kernel_rfl) (Snd.cut (Snd.seq (by kernel_rfl) (Snd.cut (Snd.exec hc _ _ _ _) ⟨f178s10, fun x => bits_Len64.c10 k x.1 x.2⟩ (fun x => by kernel_rfl)) (Snd.exec hc _ _ _ _)) ⟨f178s7, fun x => bits_Len64.c7 k x.1 x.2⟩ (fun x => by kernel_rfl)) (Snd.exec hc _ _ _ _)) ⟨f178s4, fun x => bits_Len64.c4 k x.1 x.2⟩ (fun x => by kernel_rfl)) (Snd.exec hc _ _ _ _)) (Snd.exec hc _ _ _ _))
    (fun x => by kernel_rfl)

def f164in : SS := ⟨[(0, (.ro (.int .i64)))], []⟩
def f164out : SS := ⟨[(0, (.ro (.int .i64)))], []⟩
def f164con (F : Int → Option Int) : Con := ⟨f164in, f164out, 1, 1, fun x => F x⟩
def f164ctx (k : Nat) : Ctx := ⟨tyAt tys, conAt [(178, [f178con (bits_Len64 k)])], 6, fun _ => false⟩
theorem f164hc (k : Nat) : CtxOk Try.prog (f164ctx k) := ctxOk tys_ok mixed_ok (consOk_cons (f178ok k) (consOk_nil))
theorem f164ok (k : Nat) : FnOk Try.prog 164 (f164con (impl_widthOf k)) :=
  let hc := f164hc k
  fnOk (fn := Try.f164) (code := bodyOf Try.f164) (res := [.tmp 2]) hc (by kernel_rfl) (by kernel_rfl) (by decide) (by kernel_rfl) (by kernel_rfl) (by kernel_rfl) (Nat.le_of_ble_eq_true (by kernel_rfl)) _
    (fun x => Snd.exec hc _ _ _ _)
    (fun x => by kernel_rfl)

def f165in : SS := ⟨[(0, (.ro (.list 3 (.int .i64)))), (1, (.ro (.int .i64)))], []⟩
def f165out : SS := ⟨[(0, (.h 100))], [(100, (.sl 5 (.int .u8)))]⟩
def f165s6 : SS := ⟨[(1, (.ro (.int .i64))), (5, (.h 100)), (6, (.ro (.int .i64))), (7, (.ro (.int .i64))), (17, (.ro (.list 3 (.int .i64)))), (18, (.ro (.int .i64))), (19, (.ro (.int .i64))), (24, (.ro (.int .i64))), (25, (.ro (.int .i64)))], [(100, (.sl 5 (.int .u8)))]⟩
def f165s3 : SS := ⟨[(1, (.ro (.int .i64))), (5, (.h 100)), (17, (.ro (.list 3 (.int .i64)))), (18, (.ro (.int .i64))), (19, (.ro (.int .i64)))], [(100, (.sl 5 (.int .u8)))]⟩
def f165con (F : (List Int) → Int → Option (Unit × (List Int))) : Con := ⟨f165in, f165out, 2, 1, fun x => F x.1 x.2⟩
def f165ctx (k : Nat) : Ctx := ⟨tyAt tys, conAt [], 51, fun _ => false⟩
theorem f165hc (k : Nat) : CtxOk Try.prog (f165ctx k) := ctxOk tys_ok mixed_ok (consOk_nil)
theorem f165ok (k : Nat) : FnOk Try.prog 165 (f165con (impl_packed k)) :=
  let hc := f165hc k
  fnOk (fn := Try.f165) (code := bodyOf Try.f165) (res := [.tmp 4]) hc (by kernel_rfl) (by kernel_rfl) (by decide) (by kernel_rfl) (by kernel_rfl) (by kernel_rfl) (Nat.le_of_ble_eq_true (by kernel_rfl)) _
    (fun x => Snd.seq (by kernel_rfl) (Snd.seq (by kernel_rfl) (Snd.seq (by kernel_rfl) (Snd.exec hc _ _ _ _) (Snd.seq (by kernel_rfl) (Snd.block (id := 0) (by kernel_rfl) (Snd.loop' (by kernel_rfl) f165s3 (fun n x => impl_packed.l3 k n x.1.1 x.1.2.2.1 x.1.2.2.2.1 x.1.2.2.2.2 x.2) _ (fun _ => rfl) (fun n3 => Snd.seq (by kernel_rfl) (Snd.seq (by kernel_rfl) (Snd.seq (by kernel_rfl) (Snd.exec hc _ _ _ _) (Snd.block (id := 1) (by kernel_rfl) (Snd.seq (by kernel_rfl) (Snd.seq (by kernel_rfl) (Snd.block (id := 2) (by kernel_rfl) (Snd.loop' (by kernel_rfl) f165s6 (fun n x => impl_packed.l6 k (impl_packed.l3 k n3) n x.1.1 x.1.2.2.1 x.1.2.2.2.1 x.1.2.2.2.2.1 x.1.2.2.2.2.2.1 x.1.2.2.2.2.2.2.1 x.1.2.2.2.2.2.2.2.1 x.1.2.2.2.2.2.2.2.2 x.2) _ (fun _ => rfl) (fun n6 => Snd.exec hc _ _ _ _) (fun n x => by kernel_rfl) k)) (Snd.exec hc _ _ _ _)) (Snd.exec hc _ _ _ _)))) (Snd.exec hc _ _ _ _)) (Snd.exec hc _ _ _ _)) (fun n x => by kernel_rfl) k)) (Snd.exec hc _ _ _ _))) (Snd.exec hc _ _ _ _)) (Snd.exec hc _ _ _ _))
    (fun x => by kernel_rfl)

def f125in : SS := ⟨[(0, (.ro (.list 3 (.int .i64))))], []⟩
def f125out : SS := ⟨[(0, (.h 100))], [(100, (.sl 5 (.int .u8)))]⟩
def f125s19 : SS := ⟨[(0, (.ro (.list 3 (.int .i64)))), (3, (.ro (.int .i64))), (4, (.h 100)), (5, (.h 101)), (16, (.ro (.int .i64)))], [(100, (.sl 5 (.int .u8))), (101, (.sl 5 (.int .u8)))]⟩
def f125s11 : SS := ⟨[(0, (.ro (.list 3 (.int .i64)))), (3, (.ro (.int .i64))), (4, (.h 100)), (5, (.h 101)), (6, (.ro (.int .i64))), (7, (.h 102)), (8, (.ro (.int .i64))), (9, (.ro (.int .i64))), (10, (.ro (.int .i64))), (16, (.ro (.int .i64)))], [(100, (.sl 5 (.int .u8))), (101, (.sl 5 (.int .u8))), (102, (.sl 3 (.int .i64)))]⟩
def f125s5 : SS := ⟨[(0, (.ro (.list 3 (.int .i64)))), (3, (.ro (.int .i64))), (4, (.h 100)), (5, (.h 101)), (16, (.ro (.int .i64)))], [(100, (.sl 5 (.int .u8))), (101, (.sl 5 (.int .u8)))]⟩
def f125con (F : (List Int) → Option (Unit × (List Int))) : Con := ⟨f125in, f125out, 1, 1, fun x => F x⟩
def f125ctx (k : Nat) : Ctx := ⟨tyAt tys, conAt [(95, [f95con (impl_ZigPut k)]), (163, [f163con (slices_Min_int_int k)]), (164, [f164con (impl_widthOf k)]), (165, [f165con (impl_packed k)])], 69, fun _ => false⟩
theorem f125hc (k : Nat) : CtxOk Try.prog (f125ctx k) := ctxOk tys_ok mixed_ok (consOk_cons (f95ok k) (consOk_cons (f163ok k) (consOk_cons (f164ok k) (consOk_cons (f165ok k) (consOk_nil)))))
theorem f125ok (k : Nat) : FnOk Try.prog 125 (f125con (impl_blockOf k)) :=
  let hc := f125hc k
  fnOk (fn := Try.f125) (code := bodyOf Try.f125) (res := [.tmp 2]) hc (by kernel_rfl) (by kernel_rfl) (by decide) (by kernel_rfl) (by kernel_rfl) (by kernel_rfl) (Nat.le_of_ble_eq_true (by kernel_rfl)) _
    (fun x => Snd.seq (by kernel_rfl) (Snd.seq (by kernel_rfl) (Snd.seq (by kernel_rfl) (Snd.seq (by kernel_rfl) (Snd.seq (by kernel_rfl) (Snd.exec hc _ _ _ _) (Snd.seq (by kernel_rfl) (Snd.block (id := 0) (by kernel_rfl) (Snd.loop' (by kernel_rfl) f125s5 (fun n x => impl_blockOf.l5 k n x.1.1 x.1.2.1 x.1.2.2.2.2 x.2.1 x.2.2) _ (fun _ => rfl) (fun n5 => Snd.seq (by kernel_rfl) (Snd.seq (by kernel_rfl) (Snd.seq (by kernel_rfl) (Snd.cut (Snd.exec hc _ _ _ _) ⟨f125s19, fun x => impl_blockOf.c19 k (impl_blockOf.l5 k n5) x.1.1 x.1.2.1 x.1.2.2.2.2 x.2.1 x.2.2⟩ (fun x => by kernel_rfl)) (Snd.block (id := 1) (by kernel_rfl) (Snd.seq (by kernel_rfl) (Snd.seq (by kernel_rfl) (Snd.seq (by kernel_rfl) (Snd.seq (by kernel_rfl) (Snd.seq (by kernel_rfl) (Snd.exec hc _ _ _ _) (Snd.seq (by kernel_rfl) (Snd.block (id := 2) (by kernel_rfl) (Snd.loop' (by kernel_rfl) f125s11 (fun n x => impl_blockOf.l11 k (impl_blockOf.l5 k n5) n x.1.1 x.1.2.1 x.1.2.2.2.2.1 x.1.2.2.2.2.2.2.1 x.1.2.2.2.2.2.2.2.1 x.1.2.2.2.2.2.2.2.2.1 x.1.2.2.2.2.2.2.2.2.2 x.2.1 x.2.2.1 x.2.2.2) _ (fun _ => rfl) (fun n11 => Snd.exec hc _ _ _ _) (fun n x => by kernel_rfl) k)) (Snd.exec hc _ _ _ _))) (Snd.exec hc _ _ _ _)) (Snd.exec hc _ _ _ _)) (Snd.exec hc _ _ _ _)) (Snd.exec hc _ _ _ _)))) (Snd.exec hc _ _ _ _)) (Snd.exec hc _ _ _ _)) (fun n x => by kernel_rfl) k)) (Snd.exec hc _ _ _ _))) (Snd.exec hc _ _ _ _)) (Snd.exec hc _ _ _ _)) (Snd.exec hc _ _ _ _)) (Snd.exec hc _ _ _ _))
    (fun x => by kernel_rfl)

def f78in : SS := ⟨[(0, (.ro (.list 3 (.int .i64))))], []⟩
def f78out : SS := ⟨[(0, (.h 100)), (1, (.ro .bool))], [(100, (.sl 5 (.int .u8)))]⟩
def f78s10 : SS := ⟨[(5, (.h 100)), (6, (.ro (.list 3 (.int .i64))))], [(100, (.sl 5 (.int .u8)))]⟩
def f78s6 : SS := ⟨[(0, (.ro (.list 3 (.int .i64)))), (4, (.ro (.int .i64)))], []⟩
def f78con (F : (List Int) → Option ((Unit × Bool) × (List Int))) : Con := ⟨f78in, f78out, 1, 2, fun x => F x⟩
def f78ctx (k : Nat) : Ctx := ⟨tyAt tys, conAt [(95, [f95con (impl_ZigPut k)]), (96, [f96con (impl_UvarPut k)]), (124, [f124con (impl_Differences k)]), (125, [f125con (impl_blockOf k)])], 47, fun _ => false⟩
theorem f78hc (k : Nat) : CtxOk Try.prog (f78ctx k) := ctxOk tys_ok mixed_ok (consOk_cons (f95ok k) (consOk_cons (f96ok k) (consOk_cons (f124ok k) (consOk_cons (f125ok k) (consOk_nil)))))
theorem f78ok (k : Nat) : FnOk Try.prog 78 (f78con (impl_DeltaPack k)) :=
  let hc := f78hc k
  fnOk (fn := Try.f78) (code := bodyOf Try.f78) (res := [.tmp 2, .tmp 3]) hc (by kernel_rfl) (by kernel_rfl) (by decide) (by kernel_rfl) (by kernel_rfl) (by kernel_rfl) (Nat.le_of_ble_eq_true (by kernel_rfl)) _
    (fun x => Snd.seq (by kernel_rfl) (Snd.seq (by kernel_rfl) (Snd.seq (by kernel_rfl) (Snd.seq (by kernel_rfl) (Snd.cut (Snd.seq (by kernel_rfl) (Snd.seq (by kernel_rfl) (Snd.seq (by kernel_rfl) (Snd.seq (by kernel_rfl) (Snd.seq (by kernel_rfl) (Snd.exec hc _ _ _ _) (Snd.block (id := 0) (by kernel_rfl) (Snd.loop' (by kernel_rfl) f78s10 (fun n x => impl_DeltaPack.l10 k n x.1.2 x.2) _ (fun _ => rfl) (fun n10 => Snd.exec hc _ _ _ _) (fun n x => by kernel_rfl) k))) (Snd.exec hc _ _ _ _)) (Snd.exec hc _ _ _ _)) (Snd.exec hc _ _ _ _)) (Snd.exec hc _ _ _ _)) ⟨f78s6, fun x => impl_DeltaPack.c6 k x.1 x.2⟩ (fun x => by kernel_rfl)) (Snd.exec hc _ _ _ _)) (Snd.exec hc _ _ _ _)) (Snd.exec hc _ _ _ _)) (Snd.exec hc _ _ _ _))
    (fun x => by kernel_rfl)

def f37in : SS := ⟨[(0, (.ro (.list 97 (.st (.cons (.int .i64) (.cons .str .nil))))))], []⟩
def f37out : SS := ⟨[(0, (.h 100)), (1, (.ro .bool))], [(100, (.sl 5 (.int .u8)))]⟩
def f37s6 : SS := ⟨[(4, (.h 100)), (5, (.h 101)), (15, (.ro (.list 97 (.st (.cons (.int .i64) (.cons .str .nil)))))), (16, (.ro (.int .i64))), (17, (.ro (.int .i64)))], [(100, (.sl 3 (.int .i64))), (101, (.sl 5 (.int .u8)))]⟩
def f37con (F : (List TVal) → Option ((Unit × Bool) × (List Int))) : Con := ⟨f37in, f37out, 1, 2, fun x => F x⟩
def f37ctx (k : Nat) : Ctx := ⟨tyAt tys, conAt [(77, [f77con (impl_valsOk k)]), (78, [f78con (impl_DeltaPack k)])], 42, fun _ => false⟩
theorem f37hc (k : Nat) : CtxOk Try.prog (f37ctx k) := ctxOk tys_ok mixed_ok (consOk_cons (f77ok k) (consOk_cons (f78ok k) (consOk_nil)))
theorem f37ok (k : Nat) : FnOk Try.prog 37 (f37con (impl_LengthPack k)) :=
  let hc := f37hc k
  fnOk (fn := Try.f37) (code := bodyOf Try.f37) (res := [.tmp 2, .tmp 3]) hc (by kernel_rfl) (by kernel_rfl) (by decide) (by kernel_rfl) (by kernel_rfl) (by kernel_rfl) (Nat.le_of_ble_eq_true (by kernel_rfl)) _
    (fun x => Snd.seq (by kernel_rfl) (Snd.seq (by kernel_rfl) (Snd.seq (by kernel_rfl) (Snd.seq (by kernel_rfl) (Snd.seq (by kernel_rfl) (Snd.exec hc _ _ _ _) (Snd.seq (by kernel_rfl) (Snd.block (id := 0) (by kernel_rfl) (Snd.loop' (by kernel_rfl) f37s6 (fun n x => impl_LengthPack.l6 k n x.1.2.2.1 x.1.2.2.2.1 x.1.2.2.2.2 x.2.1 x.2.2) _ (fun _ => rfl) (fun n6 => Snd.exec hc _ _ _ _) (fun n x => by kernel_rfl) k)) (Snd.exec hc _ _ _ _))) (Snd.exec hc _ _ _ _)) (Snd.exec hc _ _ _ _)) (Snd.exec hc _ _ _ _)) (Snd.exec hc _ _ _ _))
    (fun x => by kernel_rfl)

def f79in : SS := ⟨[(0, (.ro .str)), (1, (.ro .str))], []⟩
def f79out : SS := ⟨[(0, (.ro (.int .i64)))], []⟩
def f79s2 : SS := ⟨[(0, (.ro .str)), (1, (.ro .str)), (5, (.ro (.int .i64)))], []⟩
def f79con (F : ByteArray → ByteArray → Option Int) : Con := ⟨f79in, f79out, 2, 1, fun x => F x.1 x.2⟩
def f79ctx (k : Nat) : Ctx := ⟨tyAt tys, conAt [], 28, fun _ => false⟩
theorem f79hc (k : Nat) : CtxOk Try.prog (f79ctx k) := ctxOk tys_ok mixed_ok (consOk_nil)
theorem f79ok (k : Nat) : FnOk Try.prog 79 (f79con (impl_Common k)) :=
  let hc := f79hc k
  fnOk (fn := Try.f79) (code := bodyOf Try.f79) (res := [.tmp 4]) hc (by kernel_rfl) (by kernel_rfl) (by decide) (by kernel_rfl) (by kernel_rfl) (by kernel_rfl) (Nat.le_of_ble_eq_true (by kernel_rfl)) _
    (fun x => Snd.seq (by kernel_rfl) (Snd.seq (by kernel_rfl) (Snd.seq (by kernel_rfl) (Snd.exec hc _ _ _ _) (Snd.block (id := 0) (by kernel_rfl) (Snd.loop' (by kernel_rfl) f79s2 (fun n x => impl_Common.l2 k n x.1 x.2.1 x.2.2) _ (fun _ => rfl) (fun n2 => Snd.exec hc _ _ _ _) (fun n x => by kernel_rfl) k))) (Snd.exec hc _ _ _ _)) (Snd.exec hc _ _ _ _))
    (fun x => by kernel_rfl)

def f38in : SS := ⟨[(0, (.ro (.list 97 (.st (.cons (.int .i64) (.cons .str .nil))))))], []⟩
def f38out : SS := ⟨[(0, (.h 100)), (1, (.ro .bool))], [(100, (.sl 5 (.int .u8)))]⟩
def f38s7 : SS := ⟨[(4, (.h 100)), (5, (.h 101)), (6, (.ro .str)), (19, (.ro (.list 97 (.st (.cons (.int .i64) (.cons .str .nil)))))), (20, (.ro (.int .i64))), (21, (.ro (.int .i64)))], [(100, (.sl 3 (.int .i64))), (101, (.sl 97 (.st (.cons (.int .i64) (.cons .str .nil)))))]⟩
def f38con (F : (List TVal) → Option ((Unit × Bool) × (List Int))) : Con := ⟨f38in, f38out, 1, 2, fun x => F x⟩
def f38ctx (k : Nat) : Ctx := ⟨tyAt tys, conAt [(37, [f37con (impl_LengthPack k)]), (77, [f77con (impl_valsOk k)]), (78, [f78con (impl_DeltaPack k)]), (79, [f79con (impl_Common k)])], 63, fun _ => false⟩
theorem f38hc (k : Nat) : CtxOk Try.prog (f38ctx k) := ctxOk tys_ok mixed_ok (consOk_cons (f37ok k) (consOk_cons (f77ok k) (consOk_cons (f78ok k) (consOk_cons (f79ok k) (consOk_nil)))))
theorem f38ok (k : Nat) : FnOk Try.prog 38 (f38con (impl_FrontPack k)) :=
  let hc := f38hc k
  fnOk (fn := Try.f38) (code := bodyOf Try.f38) (res := [.tmp 2, .tmp 3]) hc (by kernel_rfl) (by kernel_rfl) (by decide) (by kernel_rfl) (by kernel_rfl) (by kernel_rfl) (Nat.le_of_ble_eq_true (by kernel_rfl)) _
    (fun x => Snd.seq (by kernel_rfl) (Snd.seq (by kernel_rfl) (Snd.seq (by kernel_rfl) (Snd.seq (by kernel_rfl) (Snd.seq (by kernel_rfl) (Snd.seq (by kernel_rfl) (Snd.exec hc _ _ _ _) (Snd.seq (by kernel_rfl) (Snd.block (id := 0) (by kernel_rfl) (Snd.loop' (by kernel_rfl) f38s7 (fun n x => impl_FrontPack.l7 k n x.1.2.2.1 x.1.2.2.2.1 x.1.2.2.2.2.1 x.1.2.2.2.2.2 x.2.1 x.2.2) _ (fun _ => rfl) (fun n7 => Snd.exec hc _ _ _ _) (fun n x => by kernel_rfl) k)) (Snd.exec hc _ _ _ _))) (Snd.exec hc _ _ _ _)) (Snd.exec hc _ _ _ _)) (Snd.exec hc _ _ _ _)) (Snd.exec hc _ _ _ _)) (Snd.exec hc _ _ _ _))
    (fun x => by kernel_rfl)

def f126in : SS := ⟨[(0, (.ro (.int .i64)))], []⟩
def f126out : SS := ⟨[(0, (.ro .bool))], []⟩
def f126s7 : SS := ⟨[(4, (.ro .bool))], []⟩
def f126con (F : Int → Option Bool) : Con := ⟨f126in, f126out, 1, 1, fun x => F x⟩
def f126ctx (k : Nat) : Ctx := ⟨tyAt tys, conAt [], 10, fun _ => false⟩
theorem f126hc (k : Nat) : CtxOk Try.prog (f126ctx k) := ctxOk tys_ok mixed_ok (consOk_nil)
theorem f126ok (k : Nat) : FnOk Try.prog 126 (f126con (spec_l5Type k)) :=
  let hc := f126hc k
  fnOk (fn := Try.f126) (code := bodyOf Try.f126) (res := [.tmp 2]) hc (by kernel_rfl) (by kernel_rfl) (by decide) (by kernel_rfl) (by kernel_rfl) (by kernel_rfl) (Nat.le_of_ble_eq_true (by kernel_rfl)) _
    (fun x => Snd.seq (by kernel_rfl) (Snd.seq (by kernel_rfl) (Snd.exec hc _ _ _ _) (Snd.seq (by kernel_rfl) (Snd.block (id := 0) (by kernel_rfl) (Snd.seq (by kernel_rfl) (Snd.cut (Snd.exec hc _ _ _ _) ⟨f126s7, fun x => spec_l5Type.c7 k x⟩ (fun x => by kernel_rfl)) (Snd.exec hc _ _ _ _))) (Snd.exec hc _ _ _ _))) (Snd.exec hc _ _ _ _))
    (fun x => by kernel_rfl)

def f53in : SS := ⟨[(0, (.ro (.int .i64))), (1, (.ro (.int .i64))), (2, (.ro (.int .i64)))], []⟩
def f53out : SS := ⟨[(0, (.ro .bool))], []⟩
def f53con (F : Int → Int → Int → Option Bool) : Con := ⟨f53in, f53out, 3, 1, fun x => F x.1 x.2.1 x.2.2⟩
def f53ctx (k : Nat) : Ctx := ⟨tyAt tys, conAt [], 15, fun _ => false⟩
theorem f53hc (k : Nat) : CtxOk Try.prog (f53ctx k) := ctxOk tys_ok mixed_ok (consOk_nil)
theorem f53ok (k : Nat) : FnOk Try.prog 53 (f53con (spec_l1In k)) :=
  let hc := f53hc k
  fnOk (fn := Try.f53) (code := bodyOf Try.f53) (res := [.tmp 6]) hc (by kernel_rfl) (by kernel_rfl) (by decide) (by kernel_rfl) (by kernel_rfl) (by kernel_rfl) (Nat.le_of_ble_eq_true (by kernel_rfl)) _
    (fun x => Snd.exec hc _ _ _ _)
    (fun x => by kernel_rfl)

def f147in : SS := ⟨[(0, (.ro (.int .i64)))], []⟩
def f147out : SS := ⟨[(0, (.ro .bool))], []⟩
def f147con (F : Int → Option Bool) : Con := ⟨f147in, f147out, 1, 1, fun x => F x⟩
def f147ctx (k : Nat) : Ctx := ⟨tyAt tys, conAt [(53, [f53con (spec_l1In k)])], 5, fun _ => false⟩
theorem f147hc (k : Nat) : CtxOk Try.prog (f147ctx k) := ctxOk tys_ok mixed_ok (consOk_cons (f53ok k) (consOk_nil))
theorem f147ok (k : Nat) : FnOk Try.prog 147 (f147con (spec_l4Int k)) :=
  let hc := f147hc k
  fnOk (fn := Try.f147) (code := bodyOf Try.f147) (res := [.tmp 2]) hc (by kernel_rfl) (by kernel_rfl) (by decide) (by kernel_rfl) (by kernel_rfl) (by kernel_rfl) (Nat.le_of_ble_eq_true (by kernel_rfl)) _
    (fun x => Snd.exec hc _ _ _ _)
    (fun x => by kernel_rfl)

def f127in : SS := ⟨[(0, (.ro (.int .i64))), (1, (.ro (.st (.cons (.int .i64) (.cons .str .nil)))))], []⟩
def f127out : SS := ⟨[(0, (.ro .bool))], []⟩
def f127s8 : SS := ⟨[(3, (.p 100)), (5, (.ro (.int .i64))), (26, (.ro .bool))], [(100, (.box (.st (.cons (.int .i64) (.cons .str .nil))) (.agg (.cons (.ro (.int .i64)) (.cons (.ro .str) .nil)))))]⟩
def f127con (F : Int → TVal → Option Bool) : Con := ⟨f127in, f127out, 2, 1, fun x => F x.1 x.2⟩
def f127ctx (k : Nat) : Ctx := ⟨tyAt tys, conAt [(53, [f53con (spec_l1In k)]), (147, [f147con (spec_l4Int k)])], 43, fun _ => false⟩
theorem f127hc (k : Nat) : CtxOk Try.prog (f127ctx k) := ctxOk tys_ok mixed_ok (consOk_cons (f53ok k) (consOk_cons (f147ok k) (consOk_nil)))
theorem f127ok (k : Nat) : FnOk Try.prog 127 (f127con (spec_ValOk k)) :=
  let hc := f127hc k
  fnOk (fn := Try.f127) (code := bodyOf Try.f127) (res := [.tmp 4]) hc (by kernel_rfl) (by kernel_rfl) (by decide) (by kernel_rfl) (by kernel_rfl) (by kernel_rfl) (Nat.le_of_ble_eq_true (by kernel_rfl)) _
    (fun x => Snd.seq (by kernel_rfl) (Snd.seq (by kernel_rfl) (Snd.exec hc _ _ _ _) (Snd.seq (by kernel_rfl) (Snd.block (id := 0) (by kernel_rfl) (Snd.seq (by kernel_rfl) (Snd.cond (x := .tmp 6) (by kernel_rfl) (Snd.exec hc _ _ _ _) (Snd.seq (by kernel_rfl) (Snd.cond (x := .tmp 16) (by kernel_rfl) (Snd.exec hc _ _ _ _) (Snd.seq (by kernel_rfl) (Snd.cut (Snd.exec hc _ _ _ _) ⟨f127s8, fun x => spec_ValOk.c8 k x.1.2.1 x.1.2.2 x.2⟩ (fun x => by kernel_rfl)) (Snd.exec hc _ _ _ _))) (Snd.exec hc _ _ _ _))) (Snd.exec hc _ _ _ _))) (Snd.exec hc _ _ _ _))) (Snd.exec hc _ _ _ _))
    (fun x => by kernel_rfl)

def f80in : SS := ⟨[(0, (.ro (.int .i64))), (1, (.ro (.list 97 (.st (.cons (.int .i64) (.cons .str .nil))))))], []⟩
def f80out : SS := ⟨[(0, (.ro .bool))], []⟩
def f80s4 : SS := ⟨[(0, (.ro (.int .i64))), (1, (.ro (.list 97 (.st (.cons (.int .i64) (.cons .str .nil)))))), (5, (.ro (.int .i64)))], []⟩
def f80con (F : Int → (List TVal) → Option Bool) : Con := ⟨f80in, f80out, 2, 1, fun x => F x.1 x.2⟩
def f80ctx (k : Nat) : Ctx := ⟨tyAt tys, conAt [(126, [f126con (spec_l5Type k)]), (127, [f127con (spec_ValOk k)])], 27, fun _ => false⟩
theorem f80hc (k : Nat) : CtxOk Try.prog (f80ctx k) := ctxOk tys_ok mixed_ok (consOk_cons (f126ok k) (consOk_cons (f127ok k) (consOk_nil)))
theorem f80ok (k : Nat) : FnOk Try.prog 80 (f80con (spec_l6Vals k)) :=
  let hc := f80hc k
  fnOk (fn := Try.f80) (code := bodyOf Try.f80) (res := [.tmp 4]) hc (by kernel_rfl) (by kernel_rfl) (by decide) (by kernel_rfl) (by kernel_rfl) (by kernel_rfl) (Nat.le_of_ble_eq_true (by kernel_rfl)) _
    (fun x => Snd.seq (by kernel_rfl) (Snd.seq (by kernel_rfl) (Snd.seq (by kernel_rfl) (Snd.exec hc _ _ _ _) (Snd.seq (by kernel_rfl) (Snd.block (id := 0) (by kernel_rfl) (Snd.loop' (by kernel_rfl) f80s4 (fun n x => spec_l6Vals.l4 k n x.1 x.2.1 x.2.2) _ (fun _ => rfl) (fun n4 => Snd.exec hc _ _ _ _) (fun n x => by kernel_rfl) k)) (Snd.exec hc _ _ _ _))) (Snd.exec hc _ _ _ _)) (Snd.exec hc _ _ _ _))
    (fun x => by kernel_rfl)

def f81in : SS := ⟨[(0, (.ro .str)), (1, (.ro .str))], []⟩
def f81out : SS := ⟨[(0, (.ro (.int .i64)))], []⟩
def f81s2 : SS := ⟨[(0, (.ro .str)), (1, (.ro .str)), (5, (.ro (.int .i64)))], []⟩
def f81con (F : ByteArray → ByteArray → Option Int) : Con := ⟨f81in, f81out, 2, 1, fun x => F x.1 x.2⟩
def f81ctx (k : Nat) : Ctx := ⟨tyAt tys, conAt [], 28, fun _ => false⟩
theorem f81hc (k : Nat) : CtxOk Try.prog (f81ctx k) := ctxOk tys_ok mixed_ok (consOk_nil)
theorem f81ok (k : Nat) : FnOk Try.prog 81 (f81con (spec_Common k)) :=
  let hc := f81hc k
  fnOk (fn := Try.f81) (code := bodyOf Try.f81) (res := [.tmp 4]) hc (by kernel_rfl) (by kernel_rfl) (by decide) (by kernel_rfl) (by kernel_rfl) (by kernel_rfl) (Nat.le_of_ble_eq_true (by kernel_rfl)) _
    (fun x => Snd.seq (by kernel_rfl) (Snd.seq (by kernel_rfl) (Snd.seq (by kernel_rfl) (Snd.exec hc _ _ _ _) (Snd.block (id := 0) (by kernel_rfl) (Snd.loop' (by kernel_rfl) f81s2 (fun n x => spec_Common.l2 k n x.1 x.2.1 x.2.2) _ (fun _ => rfl) (fun n2 => Snd.exec hc _ _ _ _) (fun n x => by kernel_rfl) k))) (Snd.exec hc _ _ _ _)) (Snd.exec hc _ _ _ _))
    (fun x => by kernel_rfl)

def f93in : SS := ⟨[(0, (.ro (.int .i64))), (1, (.ro (.int .i64)))], []⟩
def f93out : SS := ⟨[(0, (.ro (.int .i64)))], []⟩
def f93con (F : Int → Int → Option Int) : Con := ⟨f93in, f93out, 2, 1, fun x => F x.1 x.2⟩
def f93ctx (k : Nat) : Ctx := ⟨tyAt tys, conAt [], 10, fun _ => false⟩
theorem f93hc (k : Nat) : CtxOk Try.prog (f93ctx k) := ctxOk tys_ok mixed_ok (consOk_nil)
theorem f93ok (k : Nat) : FnOk Try.prog 93 (f93con (spec_l1Min k)) :=
  let hc := f93hc k
  fnOk (fn := Try.f93) (code := bodyOf Try.f93) (res := [.tmp 4]) hc (by kernel_rfl) (by kernel_rfl) (by decide) (by kernel_rfl) (by kernel_rfl) (by kernel_rfl) (Nat.le_of_ble_eq_true (by kernel_rfl)) _
    (fun x => Snd.exec hc _ _ _ _)
    (fun x => by kernel_rfl)

def f166in : SS := ⟨[(0, (.ro (.int .i64))), (1, (.ro (.int .i64)))], []⟩
def f166out : SS := ⟨[(0, (.ro (.int .i64)))], []⟩
def f166con (F : Int → Int → Option Int) : Con := ⟨f166in, f166out, 2, 1, fun x => F x.1 x.2⟩
def f166ctx (k : Nat) : Ctx := ⟨tyAt tys, conAt [], 16, fun _ => false⟩
theorem f166hc (k : Nat) : CtxOk Try.prog (f166ctx k) := ctxOk tys_ok mixed_ok (consOk_nil)
theorem f166ok (k : Nat) : FnOk Try.prog 166 (f166con (spec_l2Down k)) :=
  let hc := f166hc k
  fnOk (fn := Try.f166) (code := bodyOf Try.f166) (res := [.tmp 4]) hc (by kernel_rfl) (by kernel_rfl) (by decide) (by kernel_rfl) (by kernel_rfl) (by kernel_rfl) (Nat.le_of_ble_eq_true (by kernel_rfl)) _
    (fun x => Snd.exec hc _ _ _ _)
    (fun x => by kernel_rfl)

def f128in : SS := ⟨[(0, (.ro (.int .i64)))], []⟩
def f128out : SS := ⟨[(0, (.h 100))], [(100, (.sl 5 (.int .u8)))]⟩
def f128s2 : SS := ⟨[(0, (.ro (.int .i64))), (3, (.h 100))], [(100, (.sl 5 (.int .u8)))]⟩
def f128con (F : Int → Option (Unit × (List Int))) : Con := ⟨f128in, f128out, 1, 1, fun x => F x⟩
def f128ctx (k : Nat) : Ctx := ⟨tyAt tys, conAt [(166, [f166con (spec_l2Down k)])], 22, fun _ => false⟩
theorem f128hc (k : Nat) : CtxOk Try.prog (f128ctx k) := ctxOk tys_ok mixed_ok (consOk_cons (f166ok k) (consOk_nil))
theorem f128ok (k : Nat) : FnOk Try.prog 128 (f128con (spec_UvarPut k)) :=
  let hc := f128hc k
  fnOk (fn := Try.f128) (code := bodyOf Try.f128) (res := [.tmp 2]) hc (by kernel_rfl) (by kernel_rfl) (by decide) (by kernel_rfl) (by kernel_rfl) (by kernel_rfl) (Nat.le_of_ble_eq_true (by kernel_rfl)) _
    (fun x => Snd.seq (by kernel_rfl) (Snd.seq (by kernel_rfl) (Snd.seq (by kernel_rfl) (Snd.exec hc _ _ _ _) (Snd.block (id := 0) (by kernel_rfl) (Snd.loop' (by kernel_rfl) f128s2 (fun n x => spec_UvarPut.l2 k n x.1.1 x.2) _ (fun _ => rfl) (fun n2 => Snd.exec hc _ _ _ _) (fun n x => by kernel_rfl) k))) (Snd.exec hc _ _ _ _)) (Snd.exec hc _ _ _ _))
    (fun x => by kernel_rfl)

def f167in : SS := ⟨[(0, (.ro (.int .i64)))], []⟩
def f167out : SS := ⟨[(0, (.ro (.int .i64)))], []⟩
def f167con (F : Int → Option Int) : Con := ⟨f167in, f167out, 1, 1, fun x => F x⟩
def f167ctx (k : Nat) : Ctx := ⟨tyAt tys, conAt [], 10, fun _ => false⟩
theorem f167hc (k : Nat) : CtxOk Try.prog (f167ctx k) := ctxOk tys_ok mixed_ok (consOk_nil)
theorem f167ok (k : Nat) : FnOk Try.prog 167 (f167con (spec_Zig k)) :=
  let hc := f167hc k
  fnOk (fn := Try.f167) (code := bodyOf Try.f167) (res := [.tmp 2]) hc (by kernel_rfl) (by kernel_rfl) (by decide) (by kernel_rfl) (by kernel_rfl) (by kernel_rfl) (Nat.le_of_ble_eq_true (by kernel_rfl)) _
    (fun x => Snd.exec hc _ _ _ _)
    (fun x => by kernel_rfl)

def f129in : SS := ⟨[(0, (.ro (.int .i64)))], []⟩
def f129out : SS := ⟨[(0, (.h 100))], [(100, (.sl 5 (.int .u8)))]⟩
def f129con (F : Int → Option (Unit × (List Int))) : Con := ⟨f129in, f129out, 1, 1, fun x => F x⟩
def f129ctx (k : Nat) : Ctx := ⟨tyAt tys, conAt [(128, [f128con (spec_UvarPut k)]), (167, [f167con (spec_Zig k)])], 6, fun _ => false⟩
theorem f129hc (k : Nat) : CtxOk Try.prog (f129ctx k) := ctxOk tys_ok mixed_ok (consOk_cons (f128ok k) (consOk_cons (f167ok k) (consOk_nil)))
theorem f129ok (k : Nat) : FnOk Try.prog 129 (f129con (spec_ZigPut k)) :=
  let hc := f129hc k
  fnOk (fn := Try.f129) (code := bodyOf Try.f129) (res := [.tmp 2]) hc (by kernel_rfl) (by kernel_rfl) (by decide) (by kernel_rfl) (by kernel_rfl) (by kernel_rfl) (Nat.le_of_ble_eq_true (by kernel_rfl)) _
    (fun x => Snd.exec hc _ _ _ _)
    (fun x => by kernel_rfl)

def f130in : SS := ⟨[(0, (.ro (.list 3 (.int .i64))))], []⟩
def f130out : SS := ⟨[(0, (.h 100))], [(100, (.sl 3 (.int .i64)))]⟩
def f130d5 : SS := ⟨[(0, (.ro (.list 3 (.int .i64)))), (3, (.h 100)), (4, (.ro (.int .i64)))], [(100, (.sl 3 (.int .i64)))]⟩
def f130s3 : SS := ⟨[(0, (.ro (.list 3 (.int .i64)))), (3, (.h 100)), (4, (.ro (.int .i64)))], [(100, (.sl 3 (.int .i64)))]⟩
def f130con (F : (List Int) → Option (Unit × (List Int))) : Con := ⟨f130in, f130out, 1, 1, fun x => F x⟩
def f130ctx (k : Nat) : Ctx := ⟨tyAt tys, conAt [], 26, fun _ => false⟩
theorem f130hc (k : Nat) : CtxOk Try.prog (f130ctx k) := ctxOk tys_ok mixed_ok (consOk_nil)
theorem f130ok (k : Nat) : FnOk Try.prog 130 (f130con (spec_Differences k)) :=
  let hc := f130hc k
  fnOk (fn := Try.f130) (code := bodyOf Try.f130) (res := [.tmp 2]) hc (by kernel_rfl) (by kernel_rfl) (by decide) (by kernel_rfl) (by kernel_rfl) (by kernel_rfl) (Nat.le_of_ble_eq_true (by kernel_rfl)) _
    (fun x => Snd.seq (by kernel_rfl) (Snd.seq (by kernel_rfl) (Snd.seq (by kernel_rfl) (Snd.exec hc _ _ _ _) (Snd.seq (by kernel_rfl) (Snd.block (id := 0) (by kernel_rfl) (Snd.loop' (by kernel_rfl) f130s3 (fun n x => spec_Differences.l3 k n x.1.1 x.1.2.2 x.2) _ (fun _ => rfl) (fun n3 => Snd.seq (by kernel_rfl) (Snd.seq (by kernel_rfl) (Snd.exec hc _ _ _ _) (Snd.block (id := 1) (by kernel_rfl) (Snd.fork hc (id := 5) (by kernel_rfl) ⟨f130d5, fun x => spec_Differences.d5 k (spec_Differences.l3 k n3) x.1.1 x.1.2.2 x.2⟩ [[0, 1, 2, 3, 5, 6, 7, 8, 4, 9, 10, 11, 12, 13], [0, 1, 2, 3, 5, 6, 7, 8, 9, 4, 10, 11, 12, 13]] (by kernel_rfl) (ords_cons (fun x => by kernel_rfl) (ords_cons (fun x => by kernel_rfl) (ords_nil)))))) (Snd.exec hc _ _ _ _)) (fun n x => by kernel_rfl) k)) (Snd.exec hc _ _ _ _))) (Snd.exec hc _ _ _ _)) (Snd.exec hc _ _ _ _))
    (fun x => by kernel_rfl)

def f168in : SS := ⟨[(0, (.ro (.int .i64))), (1, (.ro (.int .i64)))], []⟩
def f168out : SS := ⟨[(0, (.ro (.int .i64)))], []⟩
def f168con (F : Int → Int → Option Int) : Con := ⟨f168in, f168out, 2, 1, fun x => F x.1 x.2⟩
def f168ctx (k : Nat) : Ctx := ⟨tyAt tys, conAt [], 10, fun _ => false⟩
theorem f168hc (k : Nat) : CtxOk Try.prog (f168ctx k) := ctxOk tys_ok mixed_ok (consOk_nil)
theorem f168ok (k : Nat) : FnOk Try.prog 168 (f168con (spec_l1Max k)) :=
  let hc := f168hc k
  fnOk (fn := Try.f168) (code := bodyOf Try.f168) (res := [.tmp 4]) hc (by kernel_rfl) (by kernel_rfl) (by decide) (by kernel_rfl) (by kernel_rfl) (by kernel_rfl) (Nat.le_of_ble_eq_true (by kernel_rfl)) _
    (fun x => Snd.exec hc _ _ _ _)
    (fun x => by kernel_rfl)

def f169in : SS := ⟨[(0, (.ro (.int .i64)))], []⟩
def f169out : SS := ⟨[(0, (.ro (.int .i64)))], []⟩
def f169s2 : SS := ⟨[(0, (.ro (.int .i64))), (3, (.ro (.int .i64)))], []⟩
def f169con (F : Int → Option Int) : Con := ⟨f169in, f169out, 1, 1, fun x => F x⟩
def f169ctx (k : Nat) : Ctx := ⟨tyAt tys, conAt [(166, [f166con (spec_l2Down k)])], 11, fun _ => false⟩
theorem f169hc (k : Nat) : CtxOk Try.prog (f169ctx k) := ctxOk tys_ok mixed_ok (consOk_cons (f166ok k) (consOk_nil))
theorem f169ok (k : Nat) : FnOk Try.prog 169 (f169con (spec_l9Width k)) :=
  let hc := f169hc k
  fnOk (fn := Try.f169) (code := bodyOf Try.f169) (res := [.tmp 2]) hc (by kernel_rfl) (by kernel_rfl) (by decide) (by kernel_rfl) (by kernel_rfl) (by kernel_rfl) (Nat.le_of_ble_eq_true (by kernel_rfl)) _
    (fun x => Snd.seq (by kernel_rfl) (Snd.seq (by kernel_rfl) (Snd.seq (by kernel_rfl) (Snd.exec hc _ _ _ _) (Snd.block (id := 0) (by kernel_rfl) (Snd.loop' (by kernel_rfl) f169s2 (fun n x => spec_l9Width.l2 k n x.1 x.2) _ (fun _ => rfl) (fun n2 => Snd.exec hc _ _ _ _) (fun n x => by kernel_rfl) k))) (Snd.exec hc _ _ _ _)) (Snd.exec hc _ _ _ _))
    (fun x => by kernel_rfl)

def f170in : SS := ⟨[(0, (.ro (.list 3 (.int .i64)))), (1, (.ro (.int .i64)))], []⟩
def f170out : SS := ⟨[(0, (.h 100))], [(100, (.sl 5 (.int .u8)))]⟩
def f170s7 : SS := ⟨[(0, (.ro (.list 3 (.int .i64)))), (1, (.ro (.int .i64))), (5, (.h 100)), (6, (.ro (.int .i64))), (7, (.ro (.int .i64)))], [(100, (.sl 5 (.int .u8)))]⟩
def f170s6 : SS := ⟨[(0, (.ro (.list 3 (.int .i64)))), (1, (.ro (.int .i64))), (5, (.h 100)), (6, (.ro (.int .i64))), (7, (.ro (.int .i64)))], [(100, (.sl 5 (.int .u8)))]⟩
def f170s3 : SS := ⟨[(0, (.ro (.list 3 (.int .i64)))), (1, (.ro (.int .i64))), (5, (.h 100)), (6, (.ro (.int .i64)))], [(100, (.sl 5 (.int .u8)))]⟩
def f170con (F : (List Int) → Int → Option (Unit × (List Int))) : Con := ⟨f170in, f170out, 2, 1, fun x => F x.1 x.2⟩
def f170ctx (k : Nat) : Ctx := ⟨tyAt tys, conAt [], 54, fun _ => false⟩
theorem f170hc (k : Nat) : CtxOk Try.prog (f170ctx k) := ctxOk tys_ok mixed_ok (consOk_nil)
theorem f170ok (k : Nat) : FnOk Try.prog 170 (f170con (spec_l9Bits k)) :=
  let hc := f170hc k
  fnOk (fn := Try.f170) (code := bodyOf Try.f170) (res := [.tmp 4]) hc (by kernel_rfl) (by kernel_rfl) (by decide) (by kernel_rfl) (by kernel_rfl) (by kernel_rfl) (Nat.le_of_ble_eq_true (by kernel_rfl)) _
    (fun x => Snd.seq (by kernel_rfl) (Snd.seq (by kernel_rfl) (Snd.seq (by kernel_rfl) (Snd.exec hc _ _ _ _) (Snd.seq (by kernel_rfl) (Snd.block (id := 0) (by kernel_rfl) (Snd.loop' (by kernel_rfl) f170s3 (fun n x => spec_l9Bits.l3 k n x.1.1 x.1.2.1 x.1.2.2.2 x.2) _ (fun _ => rfl) (fun n3 => Snd.seq (by kernel_rfl) (Snd.seq (by kernel_rfl) (Snd.exec hc _ _ _ _) (Snd.block (id := 1) (by kernel_rfl) (Snd.seq (by kernel_rfl) (Snd.block (id := 2) (by kernel_rfl) (Snd.loop' (by kernel_rfl) f170s6 (fun n x => spec_l9Bits.l6 k (spec_l9Bits.l3 k n3) n x.1.1 x.1.2.1 x.1.2.2.2.1 x.1.2.2.2.2 x.2) _ (fun _ => rfl) (fun n6 => Snd.seq (by kernel_rfl) (Snd.seq (by kernel_rfl) (Snd.cut (Snd.exec hc _ _ _ _) ⟨f170s7, fun x => spec_l9Bits.c7 k (spec_l9Bits.l6 k (spec_l9Bits.l3 k n3) n6) x.1.1 x.1.2.1 x.1.2.2.2.1 x.1.2.2.2.2 x.2⟩ (fun x => by kernel_rfl)) (Snd.exec hc _ _ _ _)) (Snd.exec hc _ _ _ _)) (fun n x => by kernel_rfl) k)) (Snd.exec hc _ _ _ _)))) (Snd.exec hc _ _ _ _)) (fun n x => by kernel_rfl) k)) (Snd.exec hc _ _ _ _))) (Snd.exec hc _ _ _ _)) (Snd.exec hc _ _ _ _))
    (fun x => by kernel_rfl)

def f131in : SS := ⟨[(0, (.ro (.list 3 (.int .i64))))], []⟩
def f131out : SS := ⟨[(0, (.h 100))], [(100, (.sl 5 (.int .u8)))]⟩
def f131s10 : SS := ⟨[(0, (.ro (.list 3 (.int .i64)))), (3, (.ro (.int .i64))), (5, (.ro (.int .i64))), (6, (.h 100)), (7, (.h 101)), (8, (.ro (.int .i64)))], [(100, (.sl 5 (.int .u8))), (101, (.sl 5 (.int .u8)))]⟩
def f131s20 : SS := ⟨[(0, (.ro (.list 3 (.int .i64)))), (3, (.ro (.int .i64))), (5, (.ro (.int .i64))), (6, (.h 100)), (7, (.h 101)), (8, (.ro (.int .i64))), (9, (.h 102)), (10, (.ro (.int .i64)))], [(100, (.sl 5 (.int .u8))), (101, (.sl 5 (.int .u8))), (102, (.sl 3 (.int .i64)))]⟩
def f131s14 : SS := ⟨[(0, (.ro (.list 3 (.int .i64)))), (3, (.ro (.int .i64))), (5, (.ro (.int .i64))), (6, (.h 100)), (7, (.h 101)), (8, (.ro (.int .i64))), (9, (.h 102)), (10, (.ro (.int .i64))), (11, (.ro (.int .i64)))], [(100, (.sl 5 (.int .u8))), (101, (.sl 5 (.int .u8))), (102, (.sl 3 (.int .i64)))]⟩
def f131s9 : SS := ⟨[(0, (.ro (.list 3 (.int .i64)))), (3, (.ro (.int .i64))), (5, (.ro (.int .i64))), (6, (.h 100)), (7, (.h 101)), (8, (.ro (.int .i64)))], [(100, (.sl 5 (.int .u8))), (101, (.sl 5 (.int .u8)))]⟩
def f131s3 : SS := ⟨[(0, (.ro (.list 3 (.int .i64)))), (3, (.ro (.int .i64))), (4, (.ro (.int .i64)))], []⟩
def f131con (F : (List Int) → Option (Unit × (List Int))) : Con := ⟨f131in, f131out, 1, 1, fun x => F x⟩
def f131ctx (k : Nat) : Ctx := ⟨tyAt tys, conAt [(93, [f93con (spec_l1Min k)]), (129, [f129con (spec_ZigPut k)]), (168, [f168con (spec_l1Max k)]), (169, [f169con (spec_l9Width k)]), (170, [f170con (spec_l9Bits k)])], 95, fun _ => false⟩
theorem f131hc (k : Nat) : CtxOk Try.prog (f131ctx k) := ctxOk tys_ok mixed_ok (consOk_cons (f93ok k) (consOk_cons (f129ok k) (consOk_cons (f168ok k) (consOk_cons (f169ok k) (consOk_cons (f170ok k) (consOk_nil))))))
theorem f131ok (k : Nat) : FnOk Try.prog 131 (f131con (spec_l9Block k)) :=
  let hc := f131hc k
  fnOk (fn := Try.f131) (code := bodyOf Try.f131) (res := [.tmp 2]) hc (by kernel_rfl) (by kernel_rfl) (by decide) (by kernel_rfl) (by kernel_rfl) (by kernel_rfl) (Nat.le_of_ble_eq_true (by kernel_rfl)) _
    (fun x => Snd.seq (by kernel_rfl) (Snd.seq (by kernel_rfl) (Snd.seq (by kernel_rfl) (Snd.seq (by kernel_rfl) (Snd.seq (by kernel_rfl) (Snd.seq (by kernel_rfl) (Snd.exec hc _ _ _ _) (Snd.seq (by kernel_rfl) (Snd.block (id := 2) (by kernel_rfl) (Snd.loop' (by kernel_rfl) f131s9 (fun n x => spec_l9Block.l9 k n x.1.1 x.1.2.1 x.1.2.2.1 x.1.2.2.2.2.2 x.2.1 x.2.2) _ (fun _ => rfl) (fun n9 => Snd.seq (by kernel_rfl) (Snd.seq (by kernel_rfl) (Snd.cut (Snd.exec hc _ _ _ _) ⟨f131s10, fun x => spec_l9Block.c10 k (spec_l9Block.l9 k n9) x.1.1 x.1.2.1 x.1.2.2.1 x.1.2.2.2.2.2 x.2.1 x.2.2⟩ (fun x => by kernel_rfl)) (Snd.block (id := 3) (by kernel_rfl) (Snd.seq (by kernel_rfl) (Snd.seq (by kernel_rfl) (Snd.seq (by kernel_rfl) (Snd.seq (by kernel_rfl) (Snd.seq (by kernel_rfl) (Snd.seq (by kernel_rfl) (Snd.exec hc _ _ _ _) (Snd.block (id := 6) (by kernel_rfl) (Snd.loop' (by kernel_rfl) f131s20 (fun n x => spec_l9Block.l20 k (spec_l9Block.l9 k n9) n x.1.1 x.1.2.1 x.1.2.2.1 x.1.2.2.2.2.2.1 x.1.2.2.2.2.2.2.2 x.2.1 x.2.2.1 x.2.2.2) _ (fun _ => rfl) (fun n20 => Snd.exec hc _ _ _ _) (fun n x => by kernel_rfl) k))) (Snd.exec hc _ _ _ _)) (Snd.exec hc _ _ _ _)) (Snd.seq (by kernel_rfl) (Snd.block (id := 4) (by kernel_rfl) (Snd.loop' (by kernel_rfl) f131s14 (fun n x => spec_l9Block.l14 k (spec_l9Block.l9 k n9) n x.1.1 x.1.2.1 x.1.2.2.1 x.1.2.2.2.2.2.1 x.1.2.2.2.2.2.2.2.1 x.1.2.2.2.2.2.2.2.2 x.2.1 x.2.2.1 x.2.2.2) _ (fun _ => rfl) (fun n14 => Snd.exec hc _ _ _ _) (fun n x => by kernel_rfl) k)) (Snd.exec hc _ _ _ _))) (Snd.exec hc _ _ _ _)) (Snd.exec hc _ _ _ _)))) (Snd.exec hc _ _ _ _)) (fun n x => by kernel_rfl) k)) (Snd.exec hc _ _ _ _))) (Snd.exec hc _ _ _ _)) (Snd.exec hc _ _ _ _)) (Snd.seq (by kernel_rfl) (Snd.block (id := 0) (by kernel_rfl) (Snd.loop' (by kernel_rfl) f131s3 (fun n x => spec_l9Block.l3 k n x.1 x.2.1 x.2.2) _ (fun _ => rfl) (fun n3 => Snd.exec hc _ _ _ _) (fun n x => by kernel_rfl) k)) (Snd.exec hc _ _ _ _))) (Snd.exec hc _ _ _ _)) (Snd.exec hc _ _ _ _))
    (fun x => by kernel_rfl)

def f82in : SS := ⟨[(0, (.ro (.list 3 (.int .i64))))], []⟩
def f82out : SS := ⟨[(0, (.h 100)), (1, (.ro .bool))], [(100, (.sl 5 (.int .u8)))]⟩
def f82s11 : SS := ⟨[(5, (.h 100)), (6, (.h 101)), (7, (.ro (.int .i64)))], [(100, (.sl 5 (.int .u8))), (101, (.sl 3 (.int .i64)))]⟩
def f82s6 : SS := ⟨[(0, (.ro (.list 3 (.int .i64)))), (4, (.ro (.int .i64)))], []⟩
def f82con (F : (List Int) → Option ((Unit × Bool) × (List Int))) : Con := ⟨f82in, f82out, 1, 2, fun x => F x⟩
def f82ctx (k : Nat) : Ctx := ⟨tyAt tys, conAt [(93, [f93con (spec_l1Min k)]), (128, [f128con (spec_UvarPut k)]), (129, [f129con (spec_ZigPut k)]), (130, [f130con (spec_Differences k)]), (131, [f131con (spec_l9Block k)])], 50, fun _ => false⟩
theorem f82hc (k : Nat) : CtxOk Try.prog (f82ctx k) := ctxOk tys_ok mixed_ok (consOk_cons (f93ok k) (consOk_cons (f128ok k) (consOk_cons (f129ok k) (consOk_cons (f130ok k) (consOk_cons (f131ok k) (consOk_nil))))))
theorem f82ok (k : Nat) : FnOk Try.prog 82 (f82con (spec_DeltaPack k)) :=
  let hc := f82hc k
  fnOk (fn := Try.f82) (code := bodyOf Try.f82) (res := [.tmp 2, .tmp 3]) hc (by kernel_rfl) (by kernel_rfl) (by decide) (by kernel_rfl) (by kernel_rfl) (by kernel_rfl) (Nat.le_of_ble_eq_true (by kernel_rfl)) _
    (fun x => Snd.seq (by kernel_rfl) (Snd.seq (by kernel_rfl) (Snd.seq (by kernel_rfl) (Snd.seq (by kernel_rfl) (Snd.cut (Snd.seq (by kernel_rfl) (Snd.seq (by kernel_rfl) (Snd.seq (by kernel_rfl) (Snd.seq (by kernel_rfl) (Snd.seq (by kernel_rfl) (Snd.exec hc _ _ _ _) (Snd.seq (by kernel_rfl) (Snd.block (id := 0) (by kernel_rfl) (Snd.loop' (by kernel_rfl) f82s11 (fun n x => spec_DeltaPack.l11 k n x.1.2.2 x.2.1 x.2.2) _ (fun _ => rfl) (fun n11 => Snd.exec hc _ _ _ _) (fun n x => by kernel_rfl) k)) (Snd.exec hc _ _ _ _))) (Snd.exec hc _ _ _ _)) (Snd.exec hc _ _ _ _)) (Snd.exec hc _ _ _ _)) (Snd.exec hc _ _ _ _)) ⟨f82s6, fun x => spec_DeltaPack.c6 k x.1 x.2⟩ (fun x => by kernel_rfl)) (Snd.exec hc _ _ _ _)) (Snd.exec hc _ _ _ _)) (Snd.exec hc _ _ _ _)) (Snd.exec hc _ _ _ _))
    (fun x => by kernel_rfl)

def f83in : SS := ⟨[(0, (.ro (.list 9 .str)))], []⟩
def f83out : SS := ⟨[(0, (.h 100)), (1, (.ro .bool))], [(100, (.sl 5 (.int .u8)))]⟩
def f83s10 : SS := ⟨[(0, (.ro (.list 9 .str))), (6, (.h 100)), (8, (.ro (.int .i64)))], [(100, (.sl 5 (.int .u8)))]⟩
def f83s3 : SS := ⟨[(0, (.ro (.list 9 .str))), (4, (.h 100)), (5, (.ro (.int .i64)))], [(100, (.sl 3 (.int .i64)))]⟩
def f83con (F : (List ByteArray) → Option ((Unit × Bool) × (List Int))) : Con := ⟨f83in, f83out, 1, 2, fun x => F x⟩
def f83ctx (k : Nat) : Ctx := ⟨tyAt tys, conAt [(82, [f82con (spec_DeltaPack k)])], 46, fun _ => false⟩
theorem f83hc (k : Nat) : CtxOk Try.prog (f83ctx k) := ctxOk tys_ok mixed_ok (consOk_cons (f82ok k) (consOk_nil))
theorem f83ok (k : Nat) : FnOk Try.prog 83 (f83con (spec_l10Pack k)) :=
  let hc := f83hc k
  fnOk (fn := Try.f83) (code := bodyOf Try.f83) (res := [.tmp 2, .tmp 3]) hc (by kernel_rfl) (by kernel_rfl) (by decide) (by kernel_rfl) (by kernel_rfl) (by kernel_rfl) (Nat.le_of_ble_eq_true (by kernel_rfl)) _
    (fun x => Snd.seq (by kernel_rfl) (Snd.seq (by kernel_rfl) (Snd.seq (by kernel_rfl) (Snd.seq (by kernel_rfl) (Snd.seq (by kernel_rfl) (Snd.seq (by kernel_rfl) (Snd.exec hc _ _ _ _) (Snd.seq (by kernel_rfl) (Snd.block (id := 2) (by kernel_rfl) (Snd.loop' (by kernel_rfl) f83s10 (fun n x => spec_l10Pack.l10 k n x.1.1 x.1.2.2 x.2) _ (fun _ => rfl) (fun n10 => Snd.exec hc _ _ _ _) (fun n x => by kernel_rfl) k)) (Snd.exec hc _ _ _ _))) (Snd.exec hc _ _ _ _)) (Snd.exec hc _ _ _ _)) (Snd.seq (by kernel_rfl) (Snd.block (id := 0) (by kernel_rfl) (Snd.loop' (by kernel_rfl) f83s3 (fun n x => spec_l10Pack.l3 k n x.1.1 x.1.2.2 x.2) _ (fun _ => rfl) (fun n3 => Snd.exec hc _ _ _ _) (fun n x => by kernel_rfl) k)) (Snd.exec hc _ _ _ _))) (Snd.exec hc _ _ _ _)) (Snd.exec hc _ _ _ _))
    (fun x => by kernel_rfl)

def f39in : SS := ⟨[(0, (.ro (.list 97 (.st (.cons (.int .i64) (.cons .str .nil))))))], []⟩
def f39out : SS := ⟨[(0, (.h 100)), (1, (.ro .bool))], [(100, (.sl 5 (.int .u8)))]⟩
def f39s6 : SS := ⟨[(0, (.ro (.list 97 (.st (.cons (.int .i64) (.cons .str .nil)))))), (4, (.h 100)), (5, (.h 101)), (6, (.ro .str)), (7, (.ro (.int .i64)))], [(100, (.sl 3 (.int .i64))), (101, (.sl 9 .str))]⟩
def f39con (F : (List TVal) → Option ((Unit × Bool) × (List Int))) : Con := ⟨f39in, f39out, 1, 2, fun x => F x⟩
def f39ctx (k : Nat) : Ctx := ⟨tyAt tys, conAt [(80, [f80con (spec_l6Vals k)]), (81, [f81con (spec_Common k)]), (82, [f82con (spec_DeltaPack k)]), (83, [f83con (spec_l10Pack k)])], 71, fun _ => false⟩
theorem f39hc (k : Nat) : CtxOk Try.prog (f39ctx k) := ctxOk tys_ok mixed_ok (consOk_cons (f80ok k) (consOk_cons (f81ok k) (consOk_cons (f82ok k) (consOk_cons (f83ok k) (consOk_nil)))))
theorem f39ok (k : Nat) : FnOk Try.prog 39 (f39con (spec_FrontPack k)) :=
  let hc := f39hc k
  fnOk (fn := Try.f39) (code := bodyOf Try.f39) (res := [.tmp 2, .tmp 3]) hc (by kernel_rfl) (by kernel_rfl) (by decide) (by kernel_rfl) (by kernel_rfl) (by kernel_rfl) (Nat.le_of_ble_eq_true (by kernel_rfl)) _
    (fun x => Snd.seq (by kernel_rfl) (Snd.seq (by kernel_rfl) (Snd.seq (by kernel_rfl) (Snd.seq (by kernel_rfl) (Snd.seq (by kernel_rfl) (Snd.exec hc _ _ _ _) (Snd.seq (by kernel_rfl) (Snd.block (id := 0) (by kernel_rfl) (Snd.loop' (by kernel_rfl) f39s6 (fun n x => spec_FrontPack.l6 k n x.1.1 x.1.2.2.2.1 x.1.2.2.2.2 x.2.1 x.2.2) _ (fun _ => rfl) (fun n6 => Snd.exec hc _ _ _ _) (fun n x => by kernel_rfl) k)) (Snd.exec hc _ _ _ _))) (Snd.exec hc _ _ _ _)) (Snd.exec hc _ _ _ _)) (Snd.exec hc _ _ _ _)) (Snd.exec hc _ _ _ _))
    (fun x => by kernel_rfl)

def f100in : SS := ⟨[(0, (.ro (.int .i64)))], []⟩
def f100out : SS := ⟨[(0, (.ro (.int .i64)))], []⟩
def f100con (F : Int → Option Int) : Con := ⟨f100in, f100out, 1, 1, fun x => F x⟩
def f100ctx (k : Nat) : Ctx := ⟨tyAt tys, conAt [], 11, fun _ => false⟩
theorem f100hc (k : Nat) : CtxOk Try.prog (f100ctx k) := ctxOk tys_ok mixed_ok (consOk_nil)
theorem f100ok (k : Nat) : FnOk Try.prog 100 (f100con (impl_Zag k)) :=
  let hc := f100hc k
  fnOk (fn := Try.f100) (code := bodyOf Try.f100) (res := [.tmp 2]) hc (by kernel_rfl) (by kernel_rfl) (by decide) (by kernel_rfl) (by kernel_rfl) (by kernel_rfl) (Nat.le_of_ble_eq_true (by kernel_rfl)) _
    (fun x => Snd.exec hc _ _ _ _)
    (fun x => by kernel_rfl)

def f149in : SS := ⟨[(0, (.ro (.list 5 (.int .u8)))), (1, (.ro (.int .i64)))], []⟩
def f149out : SS := ⟨[(0, (.ro (.int .i64))), (1, (.ro (.int .i64))), (2, (.ro .bool))], []⟩
def f149s12 : SS := ⟨[], []⟩
def f149s5 : SS := ⟨[(0, (.ro (.list 5 (.int .u8)))), (1, (.ro (.int .i64))), (7, (.ro (.int .u64))), (8, (.ro (.int .i64)))], []⟩
def f149con (F : (List Int) → Int → Option (Int × Int × Bool)) : Con := ⟨f149in, f149out, 2, 3, fun x => F x.1 x.2⟩
def f149ctx (k : Nat) : Ctx := ⟨tyAt tys, conAt [], 52, fun _ => false⟩
theorem f149hc (k : Nat) : CtxOk Try.prog (f149ctx k) := ctxOk tys_ok mixed_ok (consOk_nil)
theorem f149ok (k : Nat) : FnOk Try.prog 149 (f149con (impl_UvarGet k)) :=
  let hc := f149hc k
  fnOk (fn := Try.f149) (code := bodyOf Try.f149) (res := [.tmp 4, .tmp 5, .tmp 6]) hc (by kernel_rfl) (by kernel_rfl) (by decide) (by kernel_rfl) (by kernel_rfl) (by kernel_rfl) (Nat.le_of_ble_eq_true (by kernel_rfl)) _
    (fun x => Snd.seq (by kernel_rfl) (Snd.seq (by kernel_rfl) (Snd.seq (by kernel_rfl) (Snd.seq (by kernel_rfl) (Snd.cut (Snd.exec hc _ _ _ _) ⟨f149s12, fun x => impl_UvarGet.c12 k⟩ (fun x => by kernel_rfl)) (Snd.seq (by kernel_rfl) (Snd.block (id := 0) (by kernel_rfl) (Snd.loop' (by kernel_rfl) f149s5 (fun n x => impl_UvarGet.l5 k n x.1 x.2.1 x.2.2.1 x.2.2.2) _ (fun _ => rfl) (fun n5 => Snd.exec hc _ _ _ _) (fun n x => by kernel_rfl) k)) (Snd.exec hc _ _ _ _))) (Snd.exec hc _ _ _ _)) (Snd.exec hc _ _ _ _)) (Snd.exec hc _ _ _ _))
    (fun x => by kernel_rfl)

def f132in : SS := ⟨[(0, (.p 0))], [(0, (.box (.st (.cons (.list 5 (.int .u8)) (.cons (.int .i64) (.cons .bool (.cons (.list 3 (.int .i64)) .nil))))) (.agg (.cons (.ro (.list 5 (.int .u8))) (.cons (.ro (.int .i64)) (.cons (.ro .bool) (.cons (.h 10) .nil))))))), (10, (.sl 3 (.int .i64)))]⟩
def f132out : SS := ⟨[(0, (.ro (.int .i64)))], [(0, (.box (.st (.cons (.list 5 (.int .u8)) (.cons (.int .i64) (.cons .bool (.cons (.list 3 (.int .i64)) .nil))))) (.agg (.cons (.ro (.list 5 (.int .u8))) (.cons (.ro (.int .i64)) (.cons (.ro .bool) (.cons (.h 10) .nil))))))), (10, (.sl 3 (.int .i64)))]⟩
def f132con (F : TDeltaReaderB → (List Int) → Option (Int × TDeltaReaderB × (List Int))) : Con := ⟨f132in, f132out, 1, 1, fun x => F x.2.1 x.2.2⟩
def f132ctx (k : Nat) : Ctx := ⟨tyAt tys, conAt [(149, [f149con (impl_UvarGet k)])], 35, fun _ => false⟩
theorem f132hc (k : Nat) : CtxOk Try.prog (f132ctx k) := ctxOk tys_ok mixed_ok (consOk_cons (f149ok k) (consOk_nil))
theorem f132ok (k : Nat) : FnOk Try.prog 132 (f132con (impl_deltaReader_uvar k)) :=
  let hc := f132hc k
  fnOk (fn := Try.f132) (code := bodyOf Try.f132) (res := [.tmp 2]) hc (by kernel_rfl) (by kernel_rfl) (by decide) (by kernel_rfl) (by kernel_rfl) (by kernel_rfl) (Nat.le_of_ble_eq_true (by kernel_rfl)) _
    (fun x => Snd.exec hc _ _ _ _)
    (fun x => by kernel_rfl)

def f133in : SS := ⟨[(0, (.p 0)), (1, (.ro (.int .i64)))], [(0, (.box (.st (.cons (.list 5 (.int .u8)) (.cons (.int .i64) (.cons .bool (.cons (.list 3 (.int .i64)) .nil))))) (.agg (.cons (.ro (.list 5 (.int .u8))) (.cons (.ro (.int .i64)) (.cons (.ro .bool) (.cons (.h 10) .nil))))))), (10, (.sl 3 (.int .i64)))]⟩
def f133out : SS := ⟨[(0, (.ro (.int .i64)))], [(0, (.box (.st (.cons (.list 5 (.int .u8)) (.cons (.int .i64) (.cons .bool (.cons (.list 3 (.int .i64)) .nil))))) (.agg (.cons (.ro (.list 5 (.int .u8))) (.cons (.ro (.int .i64)) (.cons (.ro .bool) (.cons (.h 10) .nil))))))), (10, (.sl 3 (.int .i64)))]⟩
def f133con (F : Int → TDeltaReaderB → (List Int) → Option (Int × TDeltaReaderB × (List Int))) : Con := ⟨f133in, f133out, 2, 1, fun x => F x.1.2 x.2.1 x.2.2⟩
def f133ctx (k : Nat) : Ctx := ⟨tyAt tys, conAt [], 40, fun _ => false⟩
theorem f133hc (k : Nat) : CtxOk Try.prog (f133ctx k) := ctxOk tys_ok mixed_ok (consOk_nil)
theorem f133ok (k : Nat) : FnOk Try.prog 133 (f133con (impl_deltaReader_take k)) :=
  let hc := f133hc k
  fnOk (fn := Try.f133) (code := bodyOf Try.f133) (res := [.tmp 4]) hc (by kernel_rfl) (by kernel_rfl) (by decide) (by kernel_rfl) (by kernel_rfl) (by kernel_rfl) (Nat.le_of_ble_eq_true (by kernel_rfl)) _
    (fun x => Snd.exec hc _ _ _ _)
    (fun x => by kernel_rfl)

def f179in : SS := ⟨[(0, (.ro (.list 5 (.int .u8)))), (1, (.ro (.int .i64)))], []⟩
def f179out : SS := ⟨[(0, (.ro (.int .i64)))], []⟩
def f179con (F : (List Int) → Int → Option Int) : Con := ⟨f179in, f179out, 2, 1, fun x => F x.1 x.2⟩
def f179ctx (k : Nat) : Ctx := ⟨tyAt tys, conAt [], 24, fun _ => false⟩
theorem f179hc (k : Nat) : CtxOk Try.prog (f179ctx k) := ctxOk tys_ok mixed_ok (consOk_nil)
theorem f179ok (k : Nat) : FnOk Try.prog 179 (f179con (impl_BitAt k)) :=
  let hc := f179hc k
  fnOk (fn := Try.f179) (code := bodyOf Try.f179) (res := [.tmp 4]) hc (by kernel_rfl) (by kernel_rfl) (by decide) (by kernel_rfl) (by kernel_rfl) (by kernel_rfl) (Nat.le_of_ble_eq_true (by kernel_rfl)) _
    (fun x => Snd.exec hc _ _ _ _)
    (fun x => by kernel_rfl)

def f171in : SS := ⟨[(0, (.ro (.list 5 (.int .u8)))), (1, (.ro (.int .i64))), (2, (.ro (.int .i64))), (3, (.ro (.int .i64)))], []⟩
def f171out : SS := ⟨[(0, (.h 100))], [(100, (.sl 3 (.int .i64)))]⟩
def f171s7 : SS := ⟨[(0, (.ro (.list 5 (.int .u8)))), (1, (.ro (.int .i64))), (3, (.ro (.int .i64))), (9, (.h 100)), (10, (.ro (.int .i64))), (11, (.ro (.int .i64))), (14, (.ro (.int .i64))), (15, (.ro (.int .i64))), (18, (.ro (.int .i64))), (19, (.ro (.int .i64)))], [(100, (.sl 3 (.int .i64)))]⟩
def f171s3 : SS := ⟨[(0, (.ro (.list 5 (.int .u8)))), (1, (.ro (.int .i64))), (3, (.ro (.int .i64))), (9, (.h 100)), (14, (.ro (.int .i64))), (15, (.ro (.int .i64)))], [(100, (.sl 3 (.int .i64)))]⟩
def f171con (F : (List Int) → Int → Int → Int → Option (Unit × (List Int))) : Con := ⟨f171in, f171out, 4, 1, fun x => F x.1 x.2.1 x.2.2.1 x.2.2.2⟩
def f171ctx (k : Nat) : Ctx := ⟨tyAt tys, conAt [(179, [f179con (impl_BitAt k)])], 43, fun _ => false⟩
theorem f171hc (k : Nat) : CtxOk Try.prog (f171ctx k) := ctxOk tys_ok mixed_ok (consOk_cons (f179ok k) (consOk_nil))
theorem f171ok (k : Nat) : FnOk Try.prog 171 (f171con (impl_unpacked k)) :=
  let hc := f171hc k
  fnOk (fn := Try.f171) (code := bodyOf Try.f171) (res := [.tmp 8]) hc (by kernel_rfl) (by kernel_rfl) (by decide) (by kernel_rfl) (by kernel_rfl) (by kernel_rfl) (Nat.le_of_ble_eq_true (by kernel_rfl)) _
    (fun x => Snd.seq (by kernel_rfl) (Snd.seq (by kernel_rfl) (Snd.seq (by kernel_rfl) (Snd.exec hc _ _ _ _) (Snd.seq (by kernel_rfl) (Snd.block (id := 0) (by kernel_rfl) (Snd.loop' (by kernel_rfl) f171s3 (fun n x => impl_unpacked.l3 k n x.1.1 x.1.2.1 x.1.2.2.1 x.1.2.2.2.2.1 x.1.2.2.2.2.2 x.2) _ (fun _ => rfl) (fun n3 => Snd.seq (by kernel_rfl) (Snd.seq (by kernel_rfl) (Snd.seq (by kernel_rfl) (Snd.exec hc _ _ _ _) (Snd.block (id := 1) (by kernel_rfl) (Snd.seq (by kernel_rfl) (Snd.seq (by kernel_rfl) (Snd.seq (by kernel_rfl) (Snd.exec hc _ _ _ _) (Snd.seq (by kernel_rfl) (Snd.block (id := 2) (by kernel_rfl) (Snd.loop' (by kernel_rfl) f171s7 (fun n x => impl_unpacked.l7 k (impl_unpacked.l3 k n3) n x.1.1 x.1.2.1 x.1.2.2.1 x.1.2.2.2.2.1 x.1.2.2.2.2.2.1 x.1.2.2.2.2.2.2.1 x.1.2.2.2.2.2.2.2.1 x.1.2.2.2.2.2.2.2.2.1 x.1.2.2.2.2.2.2.2.2.2 x.2) _ (fun _ => rfl) (fun n7 => Snd.exec hc _ _ _ _) (fun n x => by kernel_rfl) k)) (Snd.exec hc _ _ _ _))) (Snd.exec hc _ _ _ _)) (Snd.exec hc _ _ _ _)))) (Snd.exec hc _ _ _ _)) (Snd.exec hc _ _ _ _)) (fun n x => by kernel_rfl) k)) (Snd.exec hc _ _ _ _))) (Snd.exec hc _ _ _ _)) (Snd.exec hc _ _ _ _))
    (fun x => by kernel_rfl)

def f134in : SS := ⟨[(0, (.p 0)), (1, (.ro (.int .i64))), (2, (.ro (.int .i64))), (3, (.ro (.int .i64))), (4, (.ro (.int .i64)))], [(0, (.box (.st (.cons (.list 5 (.int .u8)) (.cons (.int .i64) (.cons .bool (.cons (.list 3 (.int .i64)) .nil))))) (.agg (.cons (.ro (.list 5 (.int .u8))) (.cons (.ro (.int .i64)) (.cons (.ro .bool) (.cons (.h 10) .nil))))))), (10, (.sl 3 (.int .i64)))]⟩
def f134out : SS := ⟨[], [(0, (.box (.st (.cons (.list 5 (.int .u8)) (.cons (.int .i64) (.cons .bool (.cons (.list 3 (.int .i64)) .nil))))) (.agg (.cons (.ro (.list 5 (.int .u8))) (.cons (.ro (.int .i64)) (.cons (.ro .bool) (.cons (.h 100) .nil))))))), (100, (.sl 3 (.int .i64)))]⟩
def f134d7 : SS := ⟨[(0, (.p 0)), (3, (.ro (.int .i64))), (12, (.ro (.int .i64))), (37, (.h 100)), (38, (.ro (.int .i64))), (39, (.ro (.int .i64)))], [(0, (.box (.st (.cons (.list 5 (.int .u8)) (.cons (.int .i64) (.cons .bool (.cons (.list 3 (.int .i64)) .nil))))) (.agg (.cons (.ro (.list 5 (.int .u8))) (.cons (.ro (.int .i64)) (.cons (.ro .bool) (.cons (.h 101) .nil))))))), (100, (.sl 3 (.int .i64))), (101, (.sl 3 (.int .i64)))]⟩
def f134s5 : SS := ⟨[(0, (.p 0)), (3, (.ro (.int .i64))), (37, (.h 100)), (38, (.ro (.int .i64))), (39, (.ro (.int .i64)))], [(0, (.box (.st (.cons (.list 5 (.int .u8)) (.cons (.int .i64) (.cons .bool (.cons (.list 3 (.int .i64)) .nil))))) (.agg (.cons (.ro (.list 5 (.int .u8))) (.cons (.ro (.int .i64)) (.cons (.ro .bool) (.cons (.h 101) .nil))))))), (100, (.sl 3 (.int .i64))), (101, (.sl 3 (.int .i64)))]⟩
def f134s2 : SS := ⟨[(0, (.p 0)), (1, (.ro (.int .i64))), (2, (.ro (.int .i64))), (3, (.ro (.int .i64))), (4, (.ro (.int .i64)))], [(0, (.box (.st (.cons (.list 5 (.int .u8)) (.cons (.int .i64) (.cons .bool (.cons (.list 3 (.int .i64)) .nil))))) (.agg (.cons (.ro (.list 5 (.int .u8))) (.cons (.ro (.int .i64)) (.cons (.ro .bool) (.cons (.h 10) .nil))))))), (10, (.sl 3 (.int .i64)))]⟩
def f134con (F : Int → Int → Int → Int → TDeltaReaderB → (List Int) → Option (Unit × TDeltaReaderB × (List Int))) : Con := ⟨f134in, f134out, 5, 0, fun x => F x.1.2.1 x.1.2.2.1 x.1.2.2.2.1 x.1.2.2.2.2 x.2.1 x.2.2⟩
def f134ctx (k : Nat) : Ctx := ⟨tyAt tys, conAt [(133, [f133con (impl_deltaReader_take k)]), (171, [f171con (impl_unpacked k)])], 69, fun _ => false⟩
theorem f134hc (k : Nat) : CtxOk Try.prog (f134ctx k) := ctxOk tys_ok mixed_ok (consOk_cons (f133ok k) (consOk_cons (f171ok k) (consOk_nil)))
theorem f134ok (k : Nat) : FnOk Try.prog 134 (f134con (impl_deltaReader_mini k)) :=
  let hc := f134hc k
  fnOk (fn := Try.f134) (code := bodyOf Try.f134) (res := []) hc (by kernel_rfl) (by kernel_rfl) (by decide) (by kernel_rfl) (by kernel_rfl) (by kernel_rfl) (Nat.le_of_ble_eq_true (by kernel_rfl)) _
    (fun x => Snd.seq (by kernel_rfl) (Snd.cut (Snd.seq (by kernel_rfl) (Snd.seq (by kernel_rfl) (Snd.seq (by kernel_rfl) (Snd.block (id := 0) (by kernel_rfl) (Snd.loop' (by kernel_rfl) f134s5 (fun n x => impl_deltaReader_mini.l5 k n x.1.2.1 x.1.2.2.2.1 x.1.2.2.2.2 x.2.1 x.2.2.1 x.2.2.2) _ (fun _ => rfl) (fun n5 => Snd.seq (by kernel_rfl) (Snd.seq (by kernel_rfl) (Snd.seq (by kernel_rfl) (Snd.exec hc _ _ _ _) (Snd.block (id := 1) (by kernel_rfl) (Snd.seq (by kernel_rfl) (Snd.fork hc (id := 7) (by kernel_rfl) ⟨f134d7, fun x => impl_deltaReader_mini.d7 k (impl_deltaReader_mini.l5 k n5) x.1.2.1 x.1.2.2.1 x.1.2.2.2.2.1 x.1.2.2.2.2.2 x.2.1 x.2.2.1 x.2.2.2⟩ [[0, 1, 2, 3, 5, 6, 7, 9, 10, 11, 17, 19, 4, 8, 12, 13, 14, 15, 16, 18, 20, 21, 22, 23, 24, 25], [0, 1, 2, 3, 5, 6, 7, 9, 10, 11, 17, 19, 4, 12, 13, 14, 8, 15, 16, 18, 20, 21, 22, 23, 24, 25], [0, 1, 2, 3, 5, 6, 7, 9, 10, 11, 17, 19, 8, 4, 12, 13, 14, 15, 16, 18, 20, 21, 22, 23, 24, 25], [0, 1, 2, 3, 5, 6, 7, 9, 10, 11, 17, 19, 8, 12, 13, 14, 15, 4, 16, 18, 20, 21, 22, 23, 24, 25], [0, 1, 2, 3, 5, 6, 7, 9, 10, 11, 17, 19, 8, 12, 13, 14, 15, 16, 18, 20, 4, 21, 22, 23, 24, 25], [0, 1, 2, 3, 5, 6, 7, 9, 10, 11, 17, 19, 8, 12, 13, 14, 15, 16, 18, 20, 21, 4, 22, 23, 24, 25], [0, 1, 2, 3, 5, 6, 7, 9, 10, 11, 17, 19, 12, 13, 14, 4, 8, 15, 16, 18, 20, 21, 22, 23, 24, 25], [0, 1, 2, 3, 5, 6, 7, 9, 10, 11, 17, 19, 12, 13, 14, 8, 15, 4, 16, 18, 20, 21, 22, 23, 24, 25], [0, 1, 2, 3, 5, 6, 7, 9, 10, 11, 17, 19, 12, 13, 14, 8, 15, 16, 18, 20, 4, 21, 22, 23, 24, 25], [0, 1, 2, 3, 5, 6, 7, 9, 10, 11, 17, 19, 12, 13, 14, 8, 15, 16, 18, 20, 21, 4, 22, 23, 24, 25]] (by kernel_rfl) (ords_cons (fun x => by kernel_rfl) (ords_cons (fun x => by kernel_rfl) (ords_cons (fun x => by kernel_rfl) (ords_cons (fun x => by kernel_rfl) (ords_cons (fun x => by kernel_rfl) (ords_cons (fun x => by kernel_rfl) (ords_cons (fun x => by kernel_rfl) (ords_cons (fun x => by kernel_rfl) (ords_cons (fun x => by kernel_rfl) (ords_cons (fun x => by kernel_rfl) (ords_nil)))))))))))) (Snd.exec hc _ _ _ _)))) (Snd.exec hc _ _ _ _)) (Snd.exec hc _ _ _ _)) (fun n x => by kernel_rfl) k)) (Snd.exec hc _ _ _ _)) (Snd.exec hc _ _ _ _)) (Snd.exec hc _ _ _ _)) ⟨f134s2, fun x => impl_deltaReader_mini.c2 k x.1.2.1 x.1.2.2.1 x.1.2.2.2.1 x.1.2.2.2.2 x.2.1 x.2.2⟩ (fun x => by kernel_rfl)) (Snd.exec hc _ _ _ _))
    (fun x => by kernel_rfl)

def f84in : SS := ⟨[(0, (.ro (.list 5 (.int .u8)))), (1, (.ro (.int .i64)))], []⟩
def f84out : SS := ⟨[(0, (.h 100)), (1, (.ro (.int .i64))), (2, (.ro .bool))], [(100, (.sl 3 (.int .i64)))]⟩
def f84d22 : SS := ⟨[(0, (.ro (.list 5 (.int .u8)))), (7, (.p 100)), (9, (.ro (.int .i64))), (10, (.ro (.int .i64))), (12, (.ro (.int .i64))), (13, (.ro (.int .i64))), (14, (.ro (.int .i64))), (15, (.ro (.int .i64)))], [(100, (.box (.st (.cons (.list 5 (.int .u8)) (.cons (.int .i64) (.cons .bool (.cons (.list 3 (.int .i64)) .nil))))) (.agg (.cons (.ro (.list 5 (.int .u8))) (.cons (.ro (.int .i64)) (.cons (.ro .bool) (.cons (.h 101) .nil))))))), (101, (.sl 3 (.int .i64)))]⟩
def f84s20 : SS := ⟨[(0, (.ro (.list 5 (.int .u8)))), (7, (.p 100)), (9, (.ro (.int .i64))), (10, (.ro (.int .i64))), (12, (.ro (.int .i64))), (13, (.ro (.int .i64))), (14, (.ro (.int .i64))), (15, (.ro (.int .i64)))], [(100, (.box (.st (.cons (.list 5 (.int .u8)) (.cons (.int .i64) (.cons .bool (.cons (.list 3 (.int .i64)) .nil))))) (.agg (.cons (.ro (.list 5 (.int .u8))) (.cons (.ro (.int .i64)) (.cons (.ro .bool) (.cons (.h 101) .nil))))))), (101, (.sl 3 (.int .i64)))]⟩
def f84s16 : SS := ⟨[(0, (.ro (.list 5 (.int .u8)))), (7, (.p 100)), (9, (.ro (.int .i64))), (10, (.ro (.int .i64))), (12, (.ro (.int .i64)))], [(100, (.box (.st (.cons (.list 5 (.int .u8)) (.cons (.int .i64) (.cons .bool (.cons (.list 3 (.int .i64)) .nil))))) (.agg (.cons (.ro (.list 5 (.int .u8))) (.cons (.ro (.int .i64)) (.cons (.ro .bool) (.cons (.h 101) .nil))))))), (101, (.sl 3 (.int .i64)))]⟩
def f84con (F : (List Int) → Int → Option ((Unit × Int × Bool) × (List Int))) : Con := ⟨f84in, f84out, 2, 3, fun x => F x.1 x.2⟩
def f84ctx (k : Nat) : Ctx := ⟨tyAt tys, conAt [(55, [f55con (impl_within k)]), (100, [f100con (impl_Zag k)]), (132, [f132con (impl_deltaReader_uvar k)]), (133, [f133con (impl_deltaReader_take k)]), (134, [f134con (impl_deltaReader_mini k)])], 155, fun _ => false⟩
theorem f84hc (k : Nat) : CtxOk Try.prog (f84ctx k) := ctxOk tys_ok mixed_ok (consOk_cons (f55ok k) (consOk_cons (f100ok k) (consOk_cons (f132ok k) (consOk_cons (f133ok k) (consOk_cons (f134ok k) (consOk_nil))))))
theorem f84ok (k : Nat) : FnOk Try.prog 84 (f84con (impl_DeltaRead k)) :=
  let hc := f84hc k
  fnOk (fn := Try.f84) (code := bodyOf Try.f84) (res := [.tmp 4, .tmp 5, .tmp 6]) hc (by kernel_rfl) (by kernel_rfl) (by decide) (by kernel_rfl) (by kernel_rfl) (by kernel_rfl) (Nat.le_of_ble_eq_true (by kernel_rfl)) _
    (fun x => Snd.seq (by kernel_rfl) (Snd.seq (by kernel_rfl) (Snd.seq (by kernel_rfl) (Snd.seq (by kernel_rfl) (Snd.seq (by kernel_rfl) (Snd.seq (by kernel_rfl) (Snd.seq (by kernel_rfl) (Snd.seq (by kernel_rfl) (Snd.seq (by kernel_rfl) (Snd.seq (by kernel_rfl) (Snd.seq (by kernel_rfl) (Snd.seq (by kernel_rfl) (Snd.seq (by kernel_rfl) (Snd.exec hc _ _ _ _) (Snd.block (id := 0) (by kernel_rfl) (Snd.loop' (by kernel_rfl) f84s16 (fun n x => impl_DeltaRead.l16 k n x.1.1 x.1.2.2.1 x.1.2.2.2.1 x.1.2.2.2.2 x.2.1 x.2.2) _ (fun _ => rfl) (fun n16 => Snd.seq (by kernel_rfl) (Snd.block (id := 1) (by kernel_rfl) (Snd.seq (by kernel_rfl) (Snd.seq (by kernel_rfl) (Snd.seq (by kernel_rfl) (Snd.block (id := 2) (by kernel_rfl) (Snd.loop' (by kernel_rfl) f84s20 (fun n x => impl_DeltaRead.l20 k (impl_DeltaRead.l16 k n16) n x.1.1 x.1.2.2.1 x.1.2.2.2.1 x.1.2.2.2.2.1 x.1.2.2.2.2.2.1 x.1.2.2.2.2.2.2.1 x.1.2.2.2.2.2.2.2 x.2.1 x.2.2) _ (fun _ => rfl) (fun n20 => Snd.seq (by kernel_rfl) (Snd.seq (by kernel_rfl) (Snd.exec hc _ _ _ _) (Snd.block (id := 3) (by kernel_rfl) (Snd.fork hc (id := 22) (by kernel_rfl) ⟨f84d22, fun x => impl_DeltaRead.d22 k (impl_DeltaRead.l20 k (impl_DeltaRead.l16 k n16) n20) x.1.1 x.1.2.2.1 x.1.2.2.2.1 x.1.2.2.2.2.1 x.1.2.2.2.2.2.1 x.1.2.2.2.2.2.2.1 x.1.2.2.2.2.2.2.2 x.2.1 x.2.2⟩ [[0, 1, 2, 3, 4, 5, 6, 9, 10, 11, 12, 13, 7, 8, 14, 15, 16, 17], [0, 1, 2, 3, 4, 5, 6, 9, 10, 11, 12, 13, 14, 15, 16, 7, 8, 17]] (by kernel_rfl) (ords_cons (fun x => by kernel_rfl) (ords_cons (fun x => by kernel_rfl) (ords_nil)))))) (Snd.exec hc _ _ _ _)) (fun n x => by kernel_rfl) k)) (Snd.exec hc _ _ _ _)) (Snd.exec hc _ _ _ _)) (Snd.exec hc _ _ _ _))) (Snd.exec hc _ _ _ _)) (fun n x => by kernel_rfl) k))) (Snd.exec hc _ _ _ _)) (Snd.exec hc _ _ _ _)) (Snd.exec hc _ _ _ _)) (Snd.exec hc _ _ _ _)) (Snd.exec hc _ _ _ _)) (Snd.exec hc _ _ _ _)) (Snd.exec hc _ _ _ _)) (Snd.exec hc _ _ _ _)) (Snd.exec hc _ _ _ _)) (Snd.exec hc _ _ _ _)) (Snd.exec hc _ _ _ _)) (Snd.exec hc _ _ _ _))
    (fun x => by kernel_rfl)

def f40in : SS := ⟨[(0, (.ro (.list 5 (.int .u8)))), (1, (.ro (.int .i64)))], []⟩
def f40out : SS := ⟨[(0, (.h 100)), (1, (.ro (.int .i64))), (2, (.ro .bool))], [(100, (.sl 97 (.st (.cons (.int .i64) (.cons .str .nil)))))]⟩
def f40s6 : SS := ⟨[(0, (.ro (.list 5 (.int .u8)))), (8, (.ro (.int .i64))), (10, (.h 100)), (23, (.h 101)), (24, (.ro (.int .i64))), (25, (.ro (.int .i64)))], [(100, (.sl 97 (.st (.cons (.int .i64) (.cons .str .nil))))), (101, (.sl 3 (.int .i64)))]⟩
def f40con (F : (List Int) → Int → Option ((Unit × Int × Bool) × (List TVal))) : Con := ⟨f40in, f40out, 2, 3, fun x => F x.1 x.2⟩
def f40ctx (k : Nat) : Ctx := ⟨tyAt tys, conAt [(55, [f55con (impl_within k)]), (84, [f84con (impl_DeltaRead k)])], 57, fun _ => false⟩
theorem f40hc (k : Nat) : CtxOk Try.prog (f40ctx k) := ctxOk tys_ok mixed_ok (consOk_cons (f55ok k) (consOk_cons (f84ok k) (consOk_nil)))
theorem f40ok (k : Nat) : FnOk Try.prog 40 (f40con (impl_LengthRead k)) :=
  let hc := f40hc k
  fnOk (fn := Try.f40) (code := bodyOf Try.f40) (res := [.tmp 4, .tmp 5, .tmp 6]) hc (by kernel_rfl) (by kernel_rfl) (by decide) (by kernel_rfl) (by kernel_rfl) (by kernel_rfl) (Nat.le_of_ble_eq_true (by kernel_rfl)) _
    (fun x => Snd.seq (by kernel_rfl) (Snd.seq (by kernel_rfl) (Snd.seq (by kernel_rfl) (Snd.seq (by kernel_rfl) (Snd.seq (by kernel_rfl) (Snd.exec hc _ _ _ _) (Snd.seq (by kernel_rfl) (Snd.block (id := 0) (by kernel_rfl) (Snd.loop' (by kernel_rfl) f40s6 (fun n x => impl_LengthRead.l6 k n x.1.1 x.1.2.1 x.1.2.2.2.2.1 x.1.2.2.2.2.2 x.2.1 x.2.2) _ (fun _ => rfl) (fun n6 => Snd.exec hc _ _ _ _) (fun n x => by kernel_rfl) k)) (Snd.exec hc _ _ _ _))) (Snd.exec hc _ _ _ _)) (Snd.exec hc _ _ _ _)) (Snd.exec hc _ _ _ _)) (Snd.exec hc _ _ _ _))
    (fun x => by kernel_rfl)

def f41in : SS := ⟨[(0, (.ro (.list 5 (.int .u8)))), (1, (.ro (.int .i64)))], []⟩
def f41out : SS := ⟨[(0, (.h 100)), (1, (.ro (.int .i64))), (2, (.ro .bool))], [(100, (.sl 97 (.st (.cons (.int .i64) (.cons .str .nil)))))]⟩
def f41s10 : SS := ⟨[(10, (.h 100)), (11, (.ro (.int .i64))), (12, (.h 101)), (13, (.ro .str)), (42, (.h 102)), (43, (.ro (.int .i64))), (44, (.ro (.int .i64)))], [(100, (.sl 97 (.st (.cons (.int .i64) (.cons .str .nil))))), (101, (.sl 97 (.st (.cons (.int .i64) (.cons .str .nil))))), (102, (.sl 3 (.int .i64)))]⟩
def f41con (F : (List Int) → Int → Option ((Unit × Int × Bool) × (List TVal))) : Con := ⟨f41in, f41out, 2, 3, fun x => F x.1 x.2⟩
def f41ctx (k : Nat) : Ctx := ⟨tyAt tys, conAt [(40, [f40con (impl_LengthRead k)]), (55, [f55con (impl_within k)]), (84, [f84con (impl_DeltaRead k)])], 82, fun _ => false⟩
theorem f41hc (k : Nat) : CtxOk Try.prog (f41ctx k) := ctxOk tys_ok mixed_ok (consOk_cons (f40ok k) (consOk_cons (f55ok k) (consOk_cons (f84ok k) (consOk_nil))))
theorem f41ok (k : Nat) : FnOk Try.prog 41 (f41con (impl_FrontRead k)) :=
  let hc := f41hc k
  fnOk (fn := Try.f41) (code := bodyOf Try.f41) (res := [.tmp 4, .tmp 5, .tmp 6]) hc (by kernel_rfl) (by kernel_rfl) (by decide) (by kernel_rfl) (by kernel_rfl) (by kernel_rfl) (Nat.le_of_ble_eq_true (by kernel_rfl)) _
    (fun x => Snd.seq (by kernel_rfl) (Snd.seq (by kernel_rfl) (Snd.seq (by kernel_rfl) (Snd.seq (by kernel_rfl) (Snd.seq (by kernel_rfl) (Snd.seq (by kernel_rfl) (Snd.seq (by kernel_rfl) (Snd.seq (by kernel_rfl) (Snd.exec hc _ _ _ _) (Snd.seq (by kernel_rfl) (Snd.block (id := 0) (by kernel_rfl) (Snd.loop' (by kernel_rfl) f41s10 (fun n x => impl_FrontRead.l10 k n x.1.2.1 x.1.2.2.2.1 x.1.2.2.2.2.2.1 x.1.2.2.2.2.2.2 x.2.1 x.2.2.1 x.2.2.2) _ (fun _ => rfl) (fun n10 => Snd.exec hc _ _ _ _) (fun n x => by kernel_rfl) k)) (Snd.exec hc _ _ _ _))) (Snd.exec hc _ _ _ _)) (Snd.exec hc _ _ _ _)) (Snd.exec hc _ _ _ _)) (Snd.exec hc _ _ _ _)) (Snd.exec hc _ _ _ _)) (Snd.exec hc _ _ _ _)) (Snd.exec hc _ _ _ _))
    (fun x => by kernel_rfl)

def f42in : SS := ⟨[(0, (.ro (.list 97 (.st (.cons (.int .i64) (.cons .str .nil)))))), (1, (.ro (.list 97 (.st (.cons (.int .i64) (.cons .str .nil))))))], []⟩
def f42out : SS := ⟨[(0, (.ro .bool))], []⟩
def f42s4 : SS := ⟨[(0, (.ro (.list 97 (.st (.cons (.int .i64) (.cons .str .nil)))))), (1, (.ro (.list 97 (.st (.cons (.int .i64) (.cons .str .nil)))))), (5, (.ro (.int .i64)))], []⟩
def f42con (F : (List TVal) → (List TVal) → Option Bool) : Con := ⟨f42in, f42out, 2, 1, fun x => F x.1 x.2⟩
def f42ctx (k : Nat) : Ctx := ⟨tyAt tys, conAt [], 26, fun _ => false⟩
theorem f42hc (k : Nat) : CtxOk Try.prog (f42ctx k) := ctxOk tys_ok mixed_ok (consOk_nil)
theorem f42ok (k : Nat) : FnOk Try.prog 42 (f42con (laws_sameVals k)) :=
  let hc := f42hc k
  fnOk (fn := Try.f42) (code := bodyOf Try.f42) (res := [.tmp 4]) hc (by kernel_rfl) (by kernel_rfl) (by decide) (by kernel_rfl) (by kernel_rfl) (by kernel_rfl) (Nat.le_of_ble_eq_true (by kernel_rfl)) _
    (fun x => Snd.seq (by kernel_rfl) (Snd.seq (by kernel_rfl) (Snd.seq (by kernel_rfl) (Snd.exec hc _ _ _ _) (Snd.seq (by kernel_rfl) (Snd.block (id := 0) (by kernel_rfl) (Snd.loop' (by kernel_rfl) f42s4 (fun n x => laws_sameVals.l4 k n x.1 x.2.1 x.2.2) _ (fun _ => rfl) (fun n4 => Snd.exec hc _ _ _ _) (fun n x => by kernel_rfl) k)) (Snd.exec hc _ _ _ _))) (Snd.exec hc _ _ _ _)) (Snd.exec hc _ _ _ _))
    (fun x => by kernel_rfl)

def f6in : SS := ⟨[(0, (.ro (.list 5 (.int .u8))))], []⟩
def f6out : SS := ⟨[(0, (.ro .bool))], []⟩
def f6con (F : (List Int) → Option Bool) : Con := ⟨f6in, f6out, 1, 1, fun x => F x⟩
def f6ctx (k : Nat) : Ctx := ⟨tyAt tys, conAt [(8, [f8con (laws_big k)]), (36, [f36con (spec_DrawFrontPack k)]), (37, [f37con (impl_LengthPack k)]), (38, [f38con (impl_FrontPack k)]), (39, [f39con (spec_FrontPack k)]), (40, [f40con (impl_LengthRead k)]), (41, [f41con (impl_FrontRead k)]), (42, [f42con (laws_sameVals k)])], 99, fun _ => false⟩
theorem f6hc (k : Nat) : CtxOk Try.prog (f6ctx k) := ctxOk tys_ok mixed_ok (consOk_cons (f8ok k) (consOk_cons (f36ok k) (consOk_cons (f37ok k) (consOk_cons (f38ok k) (consOk_cons (f39ok k) (consOk_cons (f40ok k) (consOk_cons (f41ok k) (consOk_cons (f42ok k) (consOk_nil)))))))))
theorem f6ok (k : Nat) : FnOk Try.prog 6 (f6con (laws_FnTexts k)) :=
  let hc := f6hc k
  fnOk (fn := Try.f6) (code := bodyOf Try.f6) (res := [.tmp 2]) hc (by kernel_rfl) (by kernel_rfl) (by decide) (by kernel_rfl) (by kernel_rfl) (by kernel_rfl) (Nat.le_of_ble_eq_true (by kernel_rfl)) _
    (fun x => Snd.exec hc _ _ _ _)
    (fun x => by kernel_rfl)

end Go.Proofs.Ytmdmkakkodeniaa
