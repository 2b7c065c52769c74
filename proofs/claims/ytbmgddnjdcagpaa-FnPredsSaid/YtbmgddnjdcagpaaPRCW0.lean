/- The walks, printed by program. -/
import Derived.Test.YtbmgddnjdcagpaaBase
import Derived.Test.YtbmgddnjdcagpaaPRCF0
set_option linter.unusedVariables false
set_option maxRecDepth 100000
namespace Go.Proofs.Ytbmgddnjdcagpaa
open Go.Am Go.Fn

def f13in : SS := ⟨[(0, (.ro (.list 5 (.int .u8))))], []⟩
def f13out : SS := ⟨[(0, (.ro .bool))], []⟩
def f13con (F : (List Int) → Option Bool) : Con := ⟨f13in, f13out, 1, 1, fun x => F x⟩
def f13ctx (k : Nat) : Ctx := ⟨tyAt tys, conAt [], 6, fun _ => false⟩
theorem f13hc (k : Nat) : CtxOk Try.prog (f13ctx k) := ctxOk tys_ok mixed_ok (consOk_nil)
theorem f13ok (k : Nat) : FnOk Try.prog 13 (f13con (laws_big k)) :=
  let hc := f13hc k
  fnOk (fn := Try.f13) (code := bodyOf Try.f13) (res := [.tmp 2]) hc (by kernel_rfl) (by kernel_rfl) (by decide) (by kernel_rfl) (by kernel_rfl) (by kernel_rfl) (Nat.le_of_ble_eq_true (by kernel_rfl)) _
    (fun x => Snd.exec hc _ _ _ _)
    (fun x => by kernel_rfl)

def f73in : SS := ⟨[(0, (.ro (.list 5 (.int .u8))))], []⟩
def f73out : SS := ⟨[(0, (.p 100))], [(100, (.box (.st (.cons (.list 5 (.int .u8)) (.cons (.int .i64) (.cons (.int .i64) .nil)))) (.agg (.cons (.ro (.list 5 (.int .u8))) (.cons (.ro (.int .i64)) (.cons (.ro (.int .i64)) .nil))))))]⟩
def f73s3 : SS := ⟨[(0, (.ro (.list 5 (.int .u8)))), (3, (.ro (.int .i64))), (4, (.ro (.int .i64)))], []⟩
def f73con (F : (List Int) → Option (Unit × TL1Cur)) : Con := ⟨f73in, f73out, 1, 1, fun x => F x⟩
def f73ctx (k : Nat) : Ctx := ⟨tyAt tys, conAt [], 32, fun _ => false⟩
theorem f73hc (k : Nat) : CtxOk Try.prog (f73ctx k) := ctxOk tys_ok mixed_ok (consOk_nil)
theorem f73ok (k : Nat) : FnOk Try.prog 73 (f73con (spec_l1New k)) :=
  let hc := f73hc k
  fnOk (fn := Try.f73) (code := bodyOf Try.f73) (res := [.tmp 2]) hc (by kernel_rfl) (by kernel_rfl) (by decide) (by kernel_rfl) (by kernel_rfl) (by kernel_rfl) (Nat.le_of_ble_eq_true (by kernel_rfl)) _
    (fun x => Snd.seq (by kernel_rfl) (Snd.seq (by kernel_rfl) (Snd.seq (by kernel_rfl) (Snd.exec hc _ _ _ _) (Snd.seq (by kernel_rfl) (Snd.block (id := 0) (by kernel_rfl) (Snd.loop' (by kernel_rfl) f73s3 (fun n x => spec_l1New.l3 k n x.1 x.2.1 x.2.2) _ (fun _ => rfl) (fun n3 => Snd.exec hc _ _ _ _) (fun n x => by kernel_rfl) k)) (Snd.exec hc _ _ _ _))) (Snd.exec hc _ _ _ _)) (Snd.exec hc _ _ _ _))
    (fun x => by kernel_rfl)

def f109in : SS := ⟨[(0, (.p 0))], [(0, (.box (.st (.cons (.list 5 (.int .u8)) (.cons (.int .i64) (.cons (.int .i64) .nil)))) (.agg (.cons (.ro (.list 5 (.int .u8))) (.cons (.ro (.int .i64)) (.cons (.ro (.int .i64)) .nil))))))]⟩
def f109out : SS := ⟨[(0, (.ro (.int .i64)))], [(0, (.box (.st (.cons (.list 5 (.int .u8)) (.cons (.int .i64) (.cons (.int .i64) .nil)))) (.agg (.cons (.ro (.list 5 (.int .u8))) (.cons (.ro (.int .i64)) (.cons (.ro (.int .i64)) .nil))))))]⟩
def f109s6 : SS := ⟨[(3, (.ro (.int .i64)))], [(0, (.box (.st (.cons (.list 5 (.int .u8)) (.cons (.int .i64) (.cons (.int .i64) .nil)))) (.agg (.cons (.ro (.list 5 (.int .u8))) (.cons (.ro (.int .i64)) (.cons (.ro (.int .i64)) .nil))))))]⟩
def f109con (F : TL1Cur → Option (Int × TL1Cur)) : Con := ⟨f109in, f109out, 1, 1, fun x => F x.2⟩
def f109ctx (k : Nat) : Ctx := ⟨tyAt tys, conAt [], 58, fun _ => false⟩
theorem f109hc (k : Nat) : CtxOk Try.prog (f109ctx k) := ctxOk tys_ok mixed_ok (consOk_nil)
theorem f109ok (k : Nat) : FnOk Try.prog 109 (f109con (spec_l1Byte k)) :=
  let hc := f109hc k
  fnOk (fn := Try.f109) (code := bodyOf Try.f109) (res := [.tmp 2]) hc (by kernel_rfl) (by kernel_rfl) (by decide) (by kernel_rfl) (by kernel_rfl) (by kernel_rfl) (Nat.le_of_ble_eq_true (by kernel_rfl)) _
    (fun x => Snd.seq (by kernel_rfl) (Snd.seq (by kernel_rfl) (Snd.seq (by kernel_rfl) (Snd.seq (by kernel_rfl) (Snd.cut (Snd.exec hc _ _ _ _) ⟨f109s6, fun x => spec_l1Byte.c6 k x.1 x.2⟩ (fun x => by kernel_rfl)) (Snd.exec hc _ _ _ _)) (Snd.exec hc _ _ _ _)) (Snd.exec hc _ _ _ _)) (Snd.exec hc _ _ _ _))
    (fun x => by kernel_rfl)

def f76in : SS := ⟨[(0, (.p 0)), (1, (.ro (.int .i64)))], [(0, (.box (.st (.cons (.list 5 (.int .u8)) (.cons (.int .i64) (.cons (.int .i64) .nil)))) (.agg (.cons (.ro (.list 5 (.int .u8))) (.cons (.ro (.int .i64)) (.cons (.ro (.int .i64)) .nil))))))]⟩
def f76out : SS := ⟨[(0, (.ro (.int .i64)))], [(0, (.box (.st (.cons (.list 5 (.int .u8)) (.cons (.int .i64) (.cons (.int .i64) .nil)))) (.agg (.cons (.ro (.list 5 (.int .u8))) (.cons (.ro (.int .i64)) (.cons (.ro (.int .i64)) .nil))))))]⟩
def f76con (F : Int → TL1Cur → Option (Int × TL1Cur)) : Con := ⟨f76in, f76out, 2, 1, fun x => F x.1.2 x.2⟩
def f76ctx (k : Nat) : Ctx := ⟨tyAt tys, conAt [(109, [f109con (spec_l1Byte k)])], 37, fun _ => false⟩
theorem f76hc (k : Nat) : CtxOk Try.prog (f76ctx k) := ctxOk tys_ok mixed_ok (consOk_cons (f109ok k) (consOk_nil))
theorem f76ok (k : Nat) : FnOk Try.prog 76 (f76con (spec_l1Below k)) :=
  let hc := f76hc k
  fnOk (fn := Try.f76) (code := bodyOf Try.f76) (res := [.tmp 4]) hc (by kernel_rfl) (by kernel_rfl) (by decide) (by kernel_rfl) (by kernel_rfl) (by kernel_rfl) (Nat.le_of_ble_eq_true (by kernel_rfl)) _
    (fun x => Snd.exec hc _ _ _ _)
    (fun x => by kernel_rfl)

def f101in : SS := ⟨[(0, (.ro (.int .i64))), (1, (.ro (.int .i64))), (2, (.ro (.int .i64)))], []⟩
def f101out : SS := ⟨[(0, (.ro .bool))], []⟩
def f101con (F : Int → Int → Int → Option Bool) : Con := ⟨f101in, f101out, 3, 1, fun x => F x.1 x.2.1 x.2.2⟩
def f101ctx (k : Nat) : Ctx := ⟨tyAt tys, conAt [], 15, fun _ => false⟩
theorem f101hc (k : Nat) : CtxOk Try.prog (f101ctx k) := ctxOk tys_ok mixed_ok (consOk_nil)
theorem f101ok (k : Nat) : FnOk Try.prog 101 (f101con (spec_l1In k)) :=
  let hc := f101hc k
  fnOk (fn := Try.f101) (code := bodyOf Try.f101) (res := [.tmp 6]) hc (by kernel_rfl) (by kernel_rfl) (by decide) (by kernel_rfl) (by kernel_rfl) (by kernel_rfl) (Nat.le_of_ble_eq_true (by kernel_rfl)) _
    (fun x => Snd.exec hc _ _ _ _)
    (fun x => by kernel_rfl)

def f233in : SS := ⟨[(0, (.ro (.int .i64)))], []⟩
def f233out : SS := ⟨[(0, (.ro .bool))], []⟩
def f233s7 : SS := ⟨[(4, (.ro .bool))], []⟩
def f233con (F : Int → Option Bool) : Con := ⟨f233in, f233out, 1, 1, fun x => F x⟩
def f233ctx (k : Nat) : Ctx := ⟨tyAt tys, conAt [], 10, fun _ => false⟩
theorem f233hc (k : Nat) : CtxOk Try.prog (f233ctx k) := ctxOk tys_ok mixed_ok (consOk_nil)
theorem f233ok (k : Nat) : FnOk Try.prog 233 (f233con (spec_l5Type k)) :=
  let hc := f233hc k
  fnOk (fn := Try.f233) (code := bodyOf Try.f233) (res := [.tmp 2]) hc (by kernel_rfl) (by kernel_rfl) (by decide) (by kernel_rfl) (by kernel_rfl) (by kernel_rfl) (Nat.le_of_ble_eq_true (by kernel_rfl)) _
    (fun x => Snd.seq (by kernel_rfl) (Snd.seq (by kernel_rfl) (Snd.exec hc _ _ _ _) (Snd.seq (by kernel_rfl) (Snd.block (id := 0) (by kernel_rfl) (Snd.seq (by kernel_rfl) (Snd.cut (Snd.exec hc _ _ _ _) ⟨f233s7, fun x => spec_l5Type.c7 k x⟩ (fun x => by kernel_rfl)) (Snd.exec hc _ _ _ _))) (Snd.exec hc _ _ _ _))) (Snd.exec hc _ _ _ _))
    (fun x => by kernel_rfl)

def f288in : SS := ⟨[(0, (.ro .str))], []⟩
def f288out : SS := ⟨[(0, (.ro .bool))], []⟩
def f288s4 : SS := ⟨[(0, (.ro .str)), (3, (.ro (.int .i64)))], []⟩
def f288con (F : ByteArray → Option Bool) : Con := ⟨f288in, f288out, 1, 1, fun x => F x⟩
def f288ctx (k : Nat) : Ctx := ⟨tyAt tys, conAt [(101, [f101con (spec_l1In k)])], 24, fun _ => false⟩
theorem f288hc (k : Nat) : CtxOk Try.prog (f288ctx k) := ctxOk tys_ok mixed_ok (consOk_cons (f101ok k) (consOk_nil))
theorem f288ok (k : Nat) : FnOk Try.prog 288 (f288con (spec_l5Name k)) :=
  let hc := f288hc k
  fnOk (fn := Try.f288) (code := bodyOf Try.f288) (res := [.tmp 2]) hc (by kernel_rfl) (by kernel_rfl) (by decide) (by kernel_rfl) (by kernel_rfl) (by kernel_rfl) (Nat.le_of_ble_eq_true (by kernel_rfl)) _
    (fun x => Snd.seq (by kernel_rfl) (Snd.seq (by kernel_rfl) (Snd.seq (by kernel_rfl) (Snd.exec hc _ _ _ _) (Snd.seq (by kernel_rfl) (Snd.block (id := 0) (by kernel_rfl) (Snd.loop' (by kernel_rfl) f288s4 (fun n x => spec_l5Name.l4 k n x.1 x.2) _ (fun _ => rfl) (fun n4 => Snd.exec hc _ _ _ _) (fun n x => by kernel_rfl) k)) (Snd.exec hc _ _ _ _))) (Snd.exec hc _ _ _ _)) (Snd.exec hc _ _ _ _))
    (fun x => by kernel_rfl)

def f186in : SS := ⟨[(0, (.ro (.list 174 (.st (.cons .str (.cons (.int .i64) (.cons (.int .i64) (.cons (.int .i64) .nil)))))))), (1, (.ro (.int .i64))), (2, (.ro (.int .i64)))], []⟩
def f186out : SS := ⟨[(0, (.ro (.int .i64)))], []⟩
def f186s20 : SS := ⟨[(0, (.ro (.list 174 (.st (.cons .str (.cons (.int .i64) (.cons (.int .i64) (.cons (.int .i64) .nil)))))))), (2, (.ro (.int .i64))), (7, (.p 100)), (8, (.ro (.int .i64))), (9, (.h 101)), (10, (.ro (.int .i64))), (11, (.ro (.int .i64)))], [(100, (.box (.st (.cons .str (.cons (.int .i64) (.cons (.int .i64) (.cons (.int .i64) .nil))))) (.agg (.cons (.ro .str) (.cons (.ro (.int .i64)) (.cons (.ro (.int .i64)) (.cons (.ro (.int .i64)) .nil))))))), (101, (.sl 9 .str))]⟩
def f186s15 : SS := ⟨[(0, (.ro (.list 174 (.st (.cons .str (.cons (.int .i64) (.cons (.int .i64) (.cons (.int .i64) .nil)))))))), (2, (.ro (.int .i64))), (7, (.p 100)), (8, (.ro (.int .i64))), (9, (.h 101)), (10, (.ro (.int .i64)))], [(100, (.box (.st (.cons .str (.cons (.int .i64) (.cons (.int .i64) (.cons (.int .i64) .nil))))) (.agg (.cons (.ro .str) (.cons (.ro (.int .i64)) (.cons (.ro (.int .i64)) (.cons (.ro (.int .i64)) .nil))))))), (101, (.sl 9 .str))]⟩
def f186con (F : (List TCol) → Int → Int → Option Int) : Con := ⟨f186in, f186out, 3, 1, fun x => F x.1 x.2.1 x.2.2⟩
def f186ctx (k : Nat) (S186 : (List TCol) → Int → Int → Option Int) : Ctx := ⟨tyAt tys, conAt [(101, [f101con (spec_l1In k)]), (186, [f186con S186]), (233, [f233con (spec_l5Type k)]), (288, [f288con (spec_l5Name k)])], 119, fun _ => false⟩
theorem f186hc (k : Nat) (S186 : (List TCol) → Int → Int → Option Int) (h186 : FnOk Try.prog 186 (f186con S186)) : CtxOk Try.prog (f186ctx k S186) := ctxOk tys_ok mixed_ok (consOk_cons (f101ok k) (consOk_cons (h186) (consOk_cons (f233ok k) (consOk_cons (f288ok k) (consOk_nil)))))
theorem f186okb (k : Nat) (S186 : (List TCol) → Int → Int → Option Int) (h186 : FnOk Try.prog 186 (f186con S186)) : FnOk Try.prog 186 (f186con (spec_l5Check.b k S186)) :=
  let hc := f186hc k S186 h186
  fnOk (fn := Try.f186) (code := bodyOf Try.f186) (res := [.tmp 6]) hc (by kernel_rfl) (by kernel_rfl) (by decide) (by kernel_rfl) (by kernel_rfl) (by kernel_rfl) (Nat.le_of_ble_eq_true (by kernel_rfl)) _
    (fun x => Snd.seq (by kernel_rfl) (Snd.seq (by kernel_rfl) (Snd.seq (by kernel_rfl) (Snd.seq (by kernel_rfl) (Snd.seq (by kernel_rfl) (Snd.seq (by kernel_rfl) (Snd.seq (by kernel_rfl) (Snd.seq (by kernel_rfl) (Snd.seq (by kernel_rfl) (Snd.exec hc _ _ _ _) (Snd.seq (by kernel_rfl) (Snd.block (id := 0) (by kernel_rfl) (Snd.loop' (by kernel_rfl) f186s15 (fun n x => spec_l5Check.l15 k S186 n x.1.1 x.1.2.1 x.1.2.2.2.1 x.1.2.2.2.2.2 x.2.1 x.2.2) _ (fun _ => rfl) (fun n15 => Snd.seq (by kernel_rfl) (Snd.seq (by kernel_rfl) (Snd.exec hc _ _ _ _) (Snd.block (id := 1) (by kernel_rfl) (Snd.seq (by kernel_rfl) (Snd.seq (by kernel_rfl) (Snd.exec hc _ _ _ _) (Snd.seq (by kernel_rfl) (Snd.block (id := 2) (by kernel_rfl) (Snd.loop' (by kernel_rfl) f186s20 (fun n x => spec_l5Check.l20 k S186 (spec_l5Check.l15 k S186 n15) n x.1.1 x.1.2.1 x.1.2.2.2.1 x.1.2.2.2.2.2.1 x.1.2.2.2.2.2.2 x.2.1 x.2.2) _ (fun _ => rfl) (fun n20 => Snd.exec hc _ _ _ _) (fun n x => by kernel_rfl) k)) (Snd.exec hc _ _ _ _))) (Snd.exec hc _ _ _ _)))) (Snd.exec hc _ _ _ _)) (fun n x => by kernel_rfl) k)) (Snd.exec hc _ _ _ _))) (Snd.exec hc _ _ _ _)) (Snd.exec hc _ _ _ _)) (Snd.exec hc _ _ _ _)) (Snd.exec hc _ _ _ _)) (Snd.exec hc _ _ _ _)) (Snd.exec hc _ _ _ _)) (Snd.exec hc _ _ _ _)) (Snd.exec hc _ _ _ _))
    (fun x => by kernel_rfl)
theorem f186rec (k : Nat) : ∀ d, FnOk Try.prog 186 (f186con (spec_l5Check.d k d))
  | 0 => FnOk_none (fun _ => rfl)
  | d + 1 => let ih := f186rec k d
    f186okb k (spec_l5Check.d k d) ih
theorem f186ok (k : Nat) : FnOk Try.prog 186 (f186con (spec_l5Check k)) := (f186rec k k)

def f85in : SS := ⟨[(0, (.ro (.list 174 (.st (.cons .str (.cons (.int .i64) (.cons (.int .i64) (.cons (.int .i64) .nil))))))))], []⟩
def f85out : SS := ⟨[(0, (.ro .bool))], []⟩
def f85con (F : (List TCol) → Option Bool) : Con := ⟨f85in, f85out, 1, 1, fun x => F x⟩
def f85ctx (k : Nat) : Ctx := ⟨tyAt tys, conAt [(101, [f101con (spec_l1In k)]), (186, [f186con (spec_l5Check k)])], 13, fun _ => false⟩
theorem f85hc (k : Nat) : CtxOk Try.prog (f85ctx k) := ctxOk tys_ok mixed_ok (consOk_cons (f101ok k) (consOk_cons (f186ok k) (consOk_nil)))
theorem f85ok (k : Nat) : FnOk Try.prog 85 (f85con (spec_SchemaOk k)) :=
  let hc := f85hc k
  fnOk (fn := Try.f85) (code := bodyOf Try.f85) (res := [.tmp 2]) hc (by kernel_rfl) (by kernel_rfl) (by decide) (by kernel_rfl) (by kernel_rfl) (by kernel_rfl) (Nat.le_of_ble_eq_true (by kernel_rfl)) _
    (fun x => Snd.exec hc _ _ _ _)
    (fun x => by kernel_rfl)

def f110in : SS := ⟨[(0, (.p 0)), (1, (.ro (.list 3 (.int .i64))))], [(0, (.box (.st (.cons (.list 5 (.int .u8)) (.cons (.int .i64) (.cons (.int .i64) .nil)))) (.agg (.cons (.ro (.list 5 (.int .u8))) (.cons (.ro (.int .i64)) (.cons (.ro (.int .i64)) .nil))))))]⟩
def f110out : SS := ⟨[(0, (.ro (.int .i64)))], [(0, (.box (.st (.cons (.list 5 (.int .u8)) (.cons (.int .i64) (.cons (.int .i64) .nil)))) (.agg (.cons (.ro (.list 5 (.int .u8))) (.cons (.ro (.int .i64)) (.cons (.ro (.int .i64)) .nil))))))]⟩
def f110con (F : (List Int) → TL1Cur → Option (Int × TL1Cur)) : Con := ⟨f110in, f110out, 2, 1, fun x => F x.1.2 x.2⟩
def f110ctx (k : Nat) : Ctx := ⟨tyAt tys, conAt [(76, [f76con (spec_l1Below k)])], 12, fun _ => false⟩
theorem f110hc (k : Nat) : CtxOk Try.prog (f110ctx k) := ctxOk tys_ok mixed_ok (consOk_cons (f76ok k) (consOk_nil))
theorem f110ok (k : Nat) : FnOk Try.prog 110 (f110con (spec_l1PickInt k)) :=
  let hc := f110hc k
  fnOk (fn := Try.f110) (code := bodyOf Try.f110) (res := [.tmp 4]) hc (by kernel_rfl) (by kernel_rfl) (by decide) (by kernel_rfl) (by kernel_rfl) (by kernel_rfl) (Nat.le_of_ble_eq_true (by kernel_rfl)) _
    (fun x => Snd.exec hc _ _ _ _)
    (fun x => by kernel_rfl)

def f116in : SS := ⟨[(0, (.p 0)), (1, (.ro (.int .i64)))], [(0, (.box (.st (.cons (.list 5 (.int .u8)) (.cons (.int .i64) (.cons (.int .i64) .nil)))) (.agg (.cons (.ro (.list 5 (.int .u8))) (.cons (.ro (.int .i64)) (.cons (.ro (.int .i64)) .nil))))))]⟩
def f116out : SS := ⟨[(0, (.ro .bool))], [(0, (.box (.st (.cons (.list 5 (.int .u8)) (.cons (.int .i64) (.cons (.int .i64) .nil)))) (.agg (.cons (.ro (.list 5 (.int .u8))) (.cons (.ro (.int .i64)) (.cons (.ro (.int .i64)) .nil))))))]⟩
def f116con (F : Int → TL1Cur → Option (Bool × TL1Cur)) : Con := ⟨f116in, f116out, 2, 1, fun x => F x.1.2 x.2⟩
def f116ctx (k : Nat) : Ctx := ⟨tyAt tys, conAt [(76, [f76con (spec_l1Below k)])], 9, fun _ => false⟩
theorem f116hc (k : Nat) : CtxOk Try.prog (f116ctx k) := ctxOk tys_ok mixed_ok (consOk_cons (f76ok k) (consOk_nil))
theorem f116ok (k : Nat) : FnOk Try.prog 116 (f116con (spec_l1Once k)) :=
  let hc := f116hc k
  fnOk (fn := Try.f116) (code := bodyOf Try.f116) (res := [.tmp 4]) hc (by kernel_rfl) (by kernel_rfl) (by decide) (by kernel_rfl) (by kernel_rfl) (by kernel_rfl) (Nat.le_of_ble_eq_true (by kernel_rfl)) _
    (fun x => Snd.exec hc _ _ _ _)
    (fun x => by kernel_rfl)

def f182in : SS := ⟨[(0, (.p 0)), (1, (.ro .str)), (2, (.ro (.int .i64))), (3, (.h 10))], [(0, (.box (.st (.cons (.list 5 (.int .u8)) (.cons (.int .i64) (.cons (.int .i64) .nil)))) (.agg (.cons (.ro (.list 5 (.int .u8))) (.cons (.ro (.int .i64)) (.cons (.ro (.int .i64)) .nil)))))), (10, (.sl 174 (.st (.cons .str (.cons (.int .i64) (.cons (.int .i64) (.cons (.int .i64) .nil)))))))]⟩
def f182out : SS := ⟨[(0, (.h 100))], [(0, (.box (.st (.cons (.list 5 (.int .u8)) (.cons (.int .i64) (.cons (.int .i64) .nil)))) (.agg (.cons (.ro (.list 5 (.int .u8))) (.cons (.ro (.int .i64)) (.cons (.ro (.int .i64)) .nil)))))), (100, (.sl 174 (.st (.cons .str (.cons (.int .i64) (.cons (.int .i64) (.cons (.int .i64) .nil)))))))]⟩
def f182s13 : SS := ⟨[(0, (.p 0)), (2, (.ro (.int .i64))), (3, (.h 100)), (11, (.ro (.int .i64))), (12, (.ro (.int .i64)))], [(0, (.box (.st (.cons (.list 5 (.int .u8)) (.cons (.int .i64) (.cons (.int .i64) .nil)))) (.agg (.cons (.ro (.list 5 (.int .u8))) (.cons (.ro (.int .i64)) (.cons (.ro (.int .i64)) .nil)))))), (100, (.sl 174 (.st (.cons .str (.cons (.int .i64) (.cons (.int .i64) (.cons (.int .i64) .nil)))))))]⟩
def f182s12 : SS := ⟨[(0, (.p 0)), (2, (.ro (.int .i64))), (3, (.h 100)), (11, (.ro (.int .i64)))], [(0, (.box (.st (.cons (.list 5 (.int .u8)) (.cons (.int .i64) (.cons (.int .i64) .nil)))) (.agg (.cons (.ro (.list 5 (.int .u8))) (.cons (.ro (.int .i64)) (.cons (.ro (.int .i64)) .nil)))))), (100, (.sl 174 (.st (.cons .str (.cons (.int .i64) (.cons (.int .i64) (.cons (.int .i64) .nil)))))))]⟩
def f182s4 : SS := ⟨[(0, (.p 0)), (1, (.ro .str)), (2, (.ro (.int .i64))), (3, (.h 10)), (9, (.p 100))], [(0, (.box (.st (.cons (.list 5 (.int .u8)) (.cons (.int .i64) (.cons (.int .i64) .nil)))) (.agg (.cons (.ro (.list 5 (.int .u8))) (.cons (.ro (.int .i64)) (.cons (.ro (.int .i64)) .nil)))))), (10, (.sl 174 (.st (.cons .str (.cons (.int .i64) (.cons (.int .i64) (.cons (.int .i64) .nil))))))), (100, (.box (.st (.cons .str (.cons (.int .i64) (.cons (.int .i64) (.cons (.int .i64) .nil))))) (.agg (.cons (.ro .str) (.cons (.ro (.int .i64)) (.cons (.ro (.int .i64)) (.cons (.ro (.int .i64)) .nil)))))))]⟩
def f182con (F : ByteArray → Int → TL1Cur → (List TCol) → Option (Unit × TL1Cur × (List TCol))) : Con := ⟨f182in, f182out, 4, 1, fun x => F x.1.2.1 x.1.2.2.1 x.2.1 x.2.2⟩
def f182ctx (k : Nat) (S182 : ByteArray → Int → TL1Cur → (List TCol) → Option (Unit × TL1Cur × (List TCol))) : Ctx := ⟨tyAt tys, conAt [(76, [f76con (spec_l1Below k)]), (110, [f110con (spec_l1PickInt k)]), (116, [f116con (spec_l1Once k)]), (182, [f182con S182])], 75, fun s => Nat.beq s 22 || Nat.beq s 25⟩
theorem f182hc (k : Nat) (S182 : ByteArray → Int → TL1Cur → (List TCol) → Option (Unit × TL1Cur × (List TCol))) (h182 : FnOk Try.prog 182 (f182con S182)) : CtxOk Try.prog (f182ctx k S182) := ctxOk tys_ok mixed_ok (consOk_cons (f76ok k) (consOk_cons (f110ok k) (consOk_cons (f116ok k) (consOk_cons (h182) (consOk_nil)))))
theorem f182okb (k : Nat) (S182 : ByteArray → Int → TL1Cur → (List TCol) → Option (Unit × TL1Cur × (List TCol))) (h182 : FnOk Try.prog 182 (f182con S182)) : FnOk Try.prog 182 (f182con (spec_l5DrawCol.b k S182)) :=
  let hc := f182hc k S182 h182
  fnOk (fn := Try.f182) (code := bodyOf Try.f182) (res := [.tmp 8]) hc (by kernel_rfl) (by kernel_rfl) (by decide) (by kernel_rfl) (by kernel_rfl) (by kernel_rfl) (Nat.le_of_ble_eq_true (by kernel_rfl)) _
    (fun x => Snd.seq (by kernel_rfl) (Snd.seq (by kernel_rfl) (Snd.seq (by kernel_rfl) (Snd.cut (Snd.seq (by kernel_rfl) (Snd.seq (by kernel_rfl) (Snd.seq (by kernel_rfl) (Snd.seq (by kernel_rfl) (Snd.seq (by kernel_rfl) (Snd.seq (by kernel_rfl) (Snd.cut (Snd.seq (by kernel_rfl) (Snd.exec hc _ _ _ _) (Snd.seq (by kernel_rfl) (Snd.block (id := 0) (by kernel_rfl) (Snd.loop' (by kernel_rfl) f182s13 (fun n x => spec_l5DrawCol.l13 k S182 n x.1.2.1 x.1.2.2.2.1 x.1.2.2.2.2 x.2.1 x.2.2) _ (fun _ => rfl) (fun n13 => Snd.exec hc _ _ _ _) (fun n x => by kernel_rfl) k)) (Snd.exec hc _ _ _ _))) ⟨f182s12, fun x => spec_l5DrawCol.c12 k S182 x.1.2.1 x.1.2.2.2 x.2.1 x.2.2⟩ (fun x => by kernel_rfl)) (Snd.exec hc _ _ _ _)) (Snd.exec hc _ _ _ _)) (Snd.exec hc _ _ _ _)) (Snd.exec hc _ _ _ _)) (Snd.exec hc _ _ _ _)) (Snd.exec hc _ _ _ _)) ⟨f182s4, fun x => spec_l5DrawCol.c4 k S182 x.1.2.1 x.1.2.2.1 x.2.1 x.2.2.1 x.2.2.2⟩ (fun x => by kernel_rfl)) (Snd.exec hc _ _ _ _)) (Snd.exec hc _ _ _ _)) (Snd.exec hc _ _ _ _))
    (fun x => by kernel_rfl)
theorem f182rec (k : Nat) : ∀ d, FnOk Try.prog 182 (f182con (spec_l5DrawCol.d k d))
  | 0 => FnOk_none (fun _ => rfl)
  | d + 1 => let ih := f182rec k d
    f182okb k (spec_l5DrawCol.d k d) ih
theorem f182ok (k : Nat) : FnOk Try.prog 182 (f182con (spec_l5DrawCol k)) := (f182rec k k)

def f74in : SS := ⟨[(0, (.p 0))], [(0, (.box (.st (.cons (.list 5 (.int .u8)) (.cons (.int .i64) (.cons (.int .i64) .nil)))) (.agg (.cons (.ro (.list 5 (.int .u8))) (.cons (.ro (.int .i64)) (.cons (.ro (.int .i64)) .nil))))))]⟩
def f74out : SS := ⟨[(0, (.h 100))], [(0, (.box (.st (.cons (.list 5 (.int .u8)) (.cons (.int .i64) (.cons (.int .i64) .nil)))) (.agg (.cons (.ro (.list 5 (.int .u8))) (.cons (.ro (.int .i64)) (.cons (.ro (.int .i64)) .nil)))))), (100, (.sl 174 (.st (.cons .str (.cons (.int .i64) (.cons (.int .i64) (.cons (.int .i64) .nil)))))))]⟩
def f74s2 : SS := ⟨[(0, (.p 0)), (3, (.ro (.int .i64)))], [(0, (.box (.st (.cons (.list 5 (.int .u8)) (.cons (.int .i64) (.cons (.int .i64) .nil)))) (.agg (.cons (.ro (.list 5 (.int .u8))) (.cons (.ro (.int .i64)) (.cons (.ro (.int .i64)) .nil))))))]⟩
def f74con (F : TL1Cur → Option (Unit × TL1Cur × (List TCol))) : Con := ⟨f74in, f74out, 1, 1, fun x => F x.2⟩
def f74ctx (k : Nat) : Ctx := ⟨tyAt tys, conAt [(76, [f76con (spec_l1Below k)]), (85, [f85con (spec_SchemaOk k)]), (182, [f182con (spec_l5DrawCol k)])], 21, fun _ => false⟩
theorem f74hc (k : Nat) : CtxOk Try.prog (f74ctx k) := ctxOk tys_ok mixed_ok (consOk_cons (f76ok k) (consOk_cons (f85ok k) (consOk_cons (f182ok k) (consOk_nil))))
theorem f74ok (k : Nat) : FnOk Try.prog 74 (f74con (spec_l5DrawRight k)) :=
  let hc := f74hc k
  fnOk (fn := Try.f74) (code := bodyOf Try.f74) (res := [.tmp 2]) hc (by kernel_rfl) (by kernel_rfl) (by decide) (by kernel_rfl) (by kernel_rfl) (by kernel_rfl) (Nat.le_of_ble_eq_true (by kernel_rfl)) _
    (fun x => Snd.seq (by kernel_rfl) (Snd.seq (by kernel_rfl) (Snd.exec hc _ _ _ _) (Snd.seq (by kernel_rfl) (Snd.block (id := 0) (by kernel_rfl) (Snd.loop' (by kernel_rfl) f74s2 (fun n x => spec_l5DrawRight.l2 k n x.1.2 x.2) _ (fun _ => rfl) (fun n2 => Snd.exec hc _ _ _ _) (fun n x => by kernel_rfl) k)) (Snd.exec hc _ _ _ _))) (Snd.exec hc _ _ _ _))
    (fun x => by kernel_rfl)

def f86in : SS := ⟨[(0, (.ro (.list 174 (.st (.cons .str (.cons (.int .i64) (.cons (.int .i64) (.cons (.int .i64) .nil))))))))], []⟩
def f86out : SS := ⟨[(0, (.h 100))], [(100, (.sl 3 (.int .i64)))]⟩
def f86s4 : SS := ⟨[(0, (.ro (.list 174 (.st (.cons .str (.cons (.int .i64) (.cons (.int .i64) (.cons (.int .i64) .nil)))))))), (3, (.h 100)), (4, (.ro (.int .i64)))], [(100, (.sl 3 (.int .i64)))]⟩
def f86s3 : SS := ⟨[(0, (.ro (.list 174 (.st (.cons .str (.cons (.int .i64) (.cons (.int .i64) (.cons (.int .i64) .nil)))))))), (3, (.h 100)), (4, (.ro (.int .i64)))], [(100, (.sl 3 (.int .i64)))]⟩
def f86con (F : (List TCol) → Option (Unit × (List Int))) : Con := ⟨f86in, f86out, 1, 1, fun x => F x⟩
def f86ctx (k : Nat) : Ctx := ⟨tyAt tys, conAt [], 23, fun _ => false⟩
theorem f86hc (k : Nat) : CtxOk Try.prog (f86ctx k) := ctxOk tys_ok mixed_ok (consOk_nil)
theorem f86ok (k : Nat) : FnOk Try.prog 86 (f86con (spec_l5Leaves k)) :=
  let hc := f86hc k
  fnOk (fn := Try.f86) (code := bodyOf Try.f86) (res := [.tmp 2]) hc (by kernel_rfl) (by kernel_rfl) (by decide) (by kernel_rfl) (by kernel_rfl) (by kernel_rfl) (Nat.le_of_ble_eq_true (by kernel_rfl)) _
    (fun x => Snd.seq (by kernel_rfl) (Snd.seq (by kernel_rfl) (Snd.seq (by kernel_rfl) (Snd.exec hc _ _ _ _) (Snd.seq (by kernel_rfl) (Snd.block (id := 0) (by kernel_rfl) (Snd.loop' (by kernel_rfl) f86s3 (fun n x => spec_l5Leaves.l3 k n x.1.1 x.1.2.2 x.2) _ (fun _ => rfl) (fun n3 => Snd.seq (by kernel_rfl) (Snd.seq (by kernel_rfl) (Snd.cut (Snd.exec hc _ _ _ _) ⟨f86s4, fun x => spec_l5Leaves.c4 k (spec_l5Leaves.l3 k n3) x.1.1 x.1.2.2 x.2⟩ (fun x => by kernel_rfl)) (Snd.exec hc _ _ _ _)) (Snd.exec hc _ _ _ _)) (fun n x => by kernel_rfl) k)) (Snd.exec hc _ _ _ _))) (Snd.exec hc _ _ _ _)) (Snd.exec hc _ _ _ _))
    (fun x => by kernel_rfl)

def f123in : SS := ⟨[(0, (.ro (.list 174 (.st (.cons .str (.cons (.int .i64) (.cons (.int .i64) (.cons (.int .i64) .nil))))))))], []⟩
def f123out : SS := ⟨[(0, (.h 100))], [(100, (.sl 3 (.int .i64)))]⟩
def f123con (F : (List TCol) → Option (Unit × (List Int))) : Con := ⟨f123in, f123out, 1, 1, fun x => F x⟩
def f123ctx (k : Nat) : Ctx := ⟨tyAt tys, conAt [(85, [f85con (spec_SchemaOk k)]), (86, [f86con (spec_l5Leaves k)])], 9, fun _ => false⟩
theorem f123hc (k : Nat) : CtxOk Try.prog (f123ctx k) := ctxOk tys_ok mixed_ok (consOk_cons (f85ok k) (consOk_cons (f86ok k) (consOk_nil)))
theorem f123ok (k : Nat) : FnOk Try.prog 123 (f123con (spec_SchemaLeaves k)) :=
  let hc := f123hc k
  fnOk (fn := Try.f123) (code := bodyOf Try.f123) (res := [.tmp 2]) hc (by kernel_rfl) (by kernel_rfl) (by decide) (by kernel_rfl) (by kernel_rfl) (by kernel_rfl) (Nat.le_of_ble_eq_true (by kernel_rfl)) _
    (fun x => Snd.exec hc _ _ _ _)
    (fun x => by kernel_rfl)

def f189in : SS := ⟨[(0, (.ro (.list 174 (.st (.cons .str (.cons (.int .i64) (.cons (.int .i64) (.cons (.int .i64) .nil)))))))), (1, (.ro (.int .i64)))], []⟩
def f189out : SS := ⟨[(0, (.ro (.int .i64)))], []⟩
def f189s3 : SS := ⟨[(0, (.ro (.list 174 (.st (.cons .str (.cons (.int .i64) (.cons (.int .i64) (.cons (.int .i64) .nil)))))))), (1, (.ro (.int .i64))), (5, (.ro (.int .i64))), (6, (.ro (.int .i64)))], []⟩
def f189con (F : (List TCol) → Int → Option Int) : Con := ⟨f189in, f189out, 2, 1, fun x => F x.1 x.2⟩
def f189ctx (k : Nat) (S189 : (List TCol) → Int → Option Int) : Ctx := ⟨tyAt tys, conAt [(189, [f189con S189])], 22, fun _ => false⟩
theorem f189hc (k : Nat) (S189 : (List TCol) → Int → Option Int) (h189 : FnOk Try.prog 189 (f189con S189)) : CtxOk Try.prog (f189ctx k S189) := ctxOk tys_ok mixed_ok (consOk_cons (h189) (consOk_nil))
theorem f189okb (k : Nat) (S189 : (List TCol) → Int → Option Int) (h189 : FnOk Try.prog 189 (f189con S189)) : FnOk Try.prog 189 (f189con (spec_l5After.b k S189)) :=
  let hc := f189hc k S189 h189
  fnOk (fn := Try.f189) (code := bodyOf Try.f189) (res := [.tmp 4]) hc (by kernel_rfl) (by kernel_rfl) (by decide) (by kernel_rfl) (by kernel_rfl) (by kernel_rfl) (Nat.le_of_ble_eq_true (by kernel_rfl)) _
    (fun x => Snd.seq (by kernel_rfl) (Snd.seq (by kernel_rfl) (Snd.seq (by kernel_rfl) (Snd.exec hc _ _ _ _) (Snd.seq (by kernel_rfl) (Snd.block (id := 0) (by kernel_rfl) (Snd.loop' (by kernel_rfl) f189s3 (fun n x => spec_l5After.l3 k S189 n x.1 x.2.1 x.2.2.1 x.2.2.2) _ (fun _ => rfl) (fun n3 => Snd.exec hc _ _ _ _) (fun n x => by kernel_rfl) k)) (Snd.exec hc _ _ _ _))) (Snd.exec hc _ _ _ _)) (Snd.exec hc _ _ _ _))
    (fun x => by kernel_rfl)
theorem f189rec (k : Nat) : ∀ d, FnOk Try.prog 189 (f189con (spec_l5After.d k d))
  | 0 => FnOk_none (fun _ => rfl)
  | d + 1 => let ih := f189rec k d
    f189okb k (spec_l5After.d k d) ih
theorem f189ok (k : Nat) : FnOk Try.prog 189 (f189con (spec_l5After k)) := (f189rec k k)

def f231in : SS := ⟨[(0, (.ro (.list 174 (.st (.cons .str (.cons (.int .i64) (.cons (.int .i64) (.cons (.int .i64) .nil)))))))), (1, (.ro (.int .i64)))], []⟩
def f231out : SS := ⟨[(0, (.h 100))], [(100, (.sl 3 (.int .i64)))]⟩
def f231s4 : SS := ⟨[(0, (.ro (.list 174 (.st (.cons .str (.cons (.int .i64) (.cons (.int .i64) (.cons (.int .i64) .nil)))))))), (1, (.ro (.int .i64))), (5, (.h 100)), (6, (.ro (.int .i64)))], [(100, (.sl 3 (.int .i64)))]⟩
def f231s3 : SS := ⟨[(0, (.ro (.list 174 (.st (.cons .str (.cons (.int .i64) (.cons (.int .i64) (.cons (.int .i64) .nil)))))))), (1, (.ro (.int .i64))), (5, (.h 100)), (6, (.ro (.int .i64)))], [(100, (.sl 3 (.int .i64)))]⟩
def f231con (F : (List TCol) → Int → Option (Unit × (List Int))) : Con := ⟨f231in, f231out, 2, 1, fun x => F x.1 x.2⟩
def f231ctx (k : Nat) : Ctx := ⟨tyAt tys, conAt [(189, [f189con (spec_l5After k)])], 23, fun _ => false⟩
theorem f231hc (k : Nat) : CtxOk Try.prog (f231ctx k) := ctxOk tys_ok mixed_ok (consOk_cons (f189ok k) (consOk_nil))
theorem f231ok (k : Nat) : FnOk Try.prog 231 (f231con (spec_l5Way k)) :=
  let hc := f231hc k
  fnOk (fn := Try.f231) (code := bodyOf Try.f231) (res := [.tmp 4]) hc (by kernel_rfl) (by kernel_rfl) (by decide) (by kernel_rfl) (by kernel_rfl) (by kernel_rfl) (Nat.le_of_ble_eq_true (by kernel_rfl)) _
    (fun x => Snd.seq (by kernel_rfl) (Snd.seq (by kernel_rfl) (Snd.seq (by kernel_rfl) (Snd.exec hc _ _ _ _) (Snd.seq (by kernel_rfl) (Snd.block (id := 0) (by kernel_rfl) (Snd.loop' (by kernel_rfl) f231s3 (fun n x => spec_l5Way.l3 k n x.1.1 x.1.2.1 x.1.2.2.2 x.2) _ (fun _ => rfl) (fun n3 => Snd.seq (by kernel_rfl) (Snd.seq (by kernel_rfl) (Snd.cut (Snd.exec hc _ _ _ _) ⟨f231s4, fun x => spec_l5Way.c4 k (spec_l5Way.l3 k n3) x.1.1 x.1.2.1 x.1.2.2.2 x.2⟩ (fun x => by kernel_rfl)) (Snd.exec hc _ _ _ _)) (Snd.exec hc _ _ _ _)) (fun n x => by kernel_rfl) k)) (Snd.exec hc _ _ _ _))) (Snd.exec hc _ _ _ _)) (Snd.exec hc _ _ _ _))
    (fun x => by kernel_rfl)

def f124in : SS := ⟨[(0, (.ro (.list 174 (.st (.cons .str (.cons (.int .i64) (.cons (.int .i64) (.cons (.int .i64) .nil)))))))), (1, (.ro (.int .i64)))], []⟩
def f124out : SS := ⟨[(0, (.ro (.int .i64))), (1, (.ro (.int .i64)))], []⟩
def f124s5 : SS := ⟨[(0, (.ro (.list 174 (.st (.cons .str (.cons (.int .i64) (.cons (.int .i64) (.cons (.int .i64) .nil)))))))), (6, (.ro (.int .i64))), (7, (.ro (.int .i64))), (8, (.h 100)), (9, (.ro (.int .i64)))], [(100, (.sl 3 (.int .i64)))]⟩
def f124s8 : SS := ⟨[(0, (.ro (.list 174 (.st (.cons .str (.cons (.int .i64) (.cons (.int .i64) (.cons (.int .i64) .nil)))))))), (6, (.ro (.int .i64))), (7, (.ro (.int .i64))), (8, (.h 100)), (9, (.ro (.int .i64)))], [(100, (.sl 3 (.int .i64)))]⟩
def f124s4 : SS := ⟨[(0, (.ro (.list 174 (.st (.cons .str (.cons (.int .i64) (.cons (.int .i64) (.cons (.int .i64) .nil)))))))), (6, (.ro (.int .i64))), (7, (.ro (.int .i64))), (8, (.h 100)), (9, (.ro (.int .i64)))], [(100, (.sl 3 (.int .i64)))]⟩
def f124con (F : (List TCol) → Int → Option (Int × Int)) : Con := ⟨f124in, f124out, 2, 2, fun x => F x.1 x.2⟩
def f124ctx (k : Nat) : Ctx := ⟨tyAt tys, conAt [(231, [f231con (spec_l5Way k)])], 43, fun _ => false⟩
theorem f124hc (k : Nat) : CtxOk Try.prog (f124ctx k) := ctxOk tys_ok mixed_ok (consOk_cons (f231ok k) (consOk_nil))
theorem f124ok (k : Nat) : FnOk Try.prog 124 (f124con (spec_l5Max k)) :=
  let hc := f124hc k
  fnOk (fn := Try.f124) (code := bodyOf Try.f124) (res := [.tmp 4, .tmp 5]) hc (by kernel_rfl) (by kernel_rfl) (by decide) (by kernel_rfl) (by kernel_rfl) (by kernel_rfl) (Nat.le_of_ble_eq_true (by kernel_rfl)) _
    (fun x => Snd.seq (by kernel_rfl) (Snd.seq (by kernel_rfl) (Snd.seq (by kernel_rfl) (Snd.seq (by kernel_rfl) (Snd.exec hc _ _ _ _) (Snd.seq (by kernel_rfl) (Snd.block (id := 0) (by kernel_rfl) (Snd.loop' (by kernel_rfl) f124s4 (fun n x => spec_l5Max.l4 k n x.1.1 x.1.2.1 x.1.2.2.1 x.1.2.2.2.2 x.2) _ (fun _ => rfl) (fun n4 => Snd.seq (by kernel_rfl) (Snd.seq (by kernel_rfl) (Snd.cut (Snd.exec hc _ _ _ _) ⟨f124s5, fun x => spec_l5Max.c5 k (spec_l5Max.l4 k n4) x.1.1 x.1.2.1 x.1.2.2.1 x.1.2.2.2.2 x.2⟩ (fun x => by kernel_rfl)) (Snd.block (id := 1) (by kernel_rfl) (Snd.seq (by kernel_rfl) (Snd.cut (Snd.exec hc _ _ _ _) ⟨f124s8, fun x => spec_l5Max.c8 k (spec_l5Max.l4 k n4) x.1.1 x.1.2.1 x.1.2.2.1 x.1.2.2.2.2 x.2⟩ (fun x => by kernel_rfl)) (Snd.exec hc _ _ _ _)))) (Snd.exec hc _ _ _ _)) (fun n x => by kernel_rfl) k)) (Snd.exec hc _ _ _ _))) (Snd.exec hc _ _ _ _)) (Snd.exec hc _ _ _ _)) (Snd.exec hc _ _ _ _))
    (fun x => by kernel_rfl)

def f40in : SS := ⟨[(0, (.ro (.list 174 (.st (.cons .str (.cons (.int .i64) (.cons (.int .i64) (.cons (.int .i64) .nil)))))))), (1, (.ro (.int .i64)))], []⟩
def f40out : SS := ⟨[(0, (.agg (.cons (.ro (.int .i64)) (.cons (.ro (.int .i64)) (.cons (.ro (.int .i64)) .nil))))), (1, (.ro .bool))], []⟩
def f40con (F : (List TCol) → Int → Option (TLeaf × Bool)) : Con := ⟨f40in, f40out, 2, 2, fun x => F x.1 x.2⟩
def f40ctx (k : Nat) : Ctx := ⟨tyAt tys, conAt [(101, [f101con (spec_l1In k)]), (123, [f123con (spec_SchemaLeaves k)]), (124, [f124con (spec_l5Max k)])], 38, fun _ => false⟩
theorem f40hc (k : Nat) : CtxOk Try.prog (f40ctx k) := ctxOk tys_ok mixed_ok (consOk_cons (f101ok k) (consOk_cons (f123ok k) (consOk_cons (f124ok k) (consOk_nil))))
theorem f40ok (k : Nat) : FnOk Try.prog 40 (f40con (spec_LeafOf k)) :=
  let hc := f40hc k
  fnOk (fn := Try.f40) (code := bodyOf Try.f40) (res := [.cell 4 71, .tmp 5]) hc (by kernel_rfl) (by kernel_rfl) (by decide) (by kernel_rfl) (by kernel_rfl) (by kernel_rfl) (Nat.le_of_ble_eq_true (by kernel_rfl)) _
    (fun x => Snd.exec hc _ _ _ _)
    (fun x => by kernel_rfl)

def f195in : SS := ⟨[(0, (.ro (.list 174 (.st (.cons .str (.cons (.int .i64) (.cons (.int .i64) (.cons (.int .i64) .nil))))))))], []⟩
def f195out : SS := ⟨[(0, (.h 100))], [(100, (.sl 3 (.int .i64)))]⟩
def f195s4 : SS := ⟨[(0, (.ro (.list 174 (.st (.cons .str (.cons (.int .i64) (.cons (.int .i64) (.cons (.int .i64) .nil)))))))), (3, (.h 100)), (4, (.ro (.int .i64)))], [(100, (.sl 3 (.int .i64)))]⟩
def f195s3 : SS := ⟨[(0, (.ro (.list 174 (.st (.cons .str (.cons (.int .i64) (.cons (.int .i64) (.cons (.int .i64) .nil)))))))), (3, (.h 100)), (4, (.ro (.int .i64)))], [(100, (.sl 3 (.int .i64)))]⟩
def f195con (F : (List TCol) → Option (Unit × (List Int))) : Con := ⟨f195in, f195out, 1, 1, fun x => F x⟩
def f195ctx (k : Nat) : Ctx := ⟨tyAt tys, conAt [(40, [f40con (spec_LeafOf k)]), (86, [f86con (spec_l5Leaves k)])], 32, fun _ => false⟩
theorem f195hc (k : Nat) : CtxOk Try.prog (f195ctx k) := ctxOk tys_ok mixed_ok (consOk_cons (f40ok k) (consOk_cons (f86ok k) (consOk_nil)))
theorem f195ok (k : Nat) : FnOk Try.prog 195 (f195con (spec_l20Leaves k)) :=
  let hc := f195hc k
  fnOk (fn := Try.f195) (code := bodyOf Try.f195) (res := [.tmp 2]) hc (by kernel_rfl) (by kernel_rfl) (by decide) (by kernel_rfl) (by kernel_rfl) (by kernel_rfl) (Nat.le_of_ble_eq_true (by kernel_rfl)) _
    (fun x => Snd.seq (by kernel_rfl) (Snd.seq (by kernel_rfl) (Snd.seq (by kernel_rfl) (Snd.exec hc _ _ _ _) (Snd.seq (by kernel_rfl) (Snd.block (id := 0) (by kernel_rfl) (Snd.loop' (by kernel_rfl) f195s3 (fun n x => spec_l20Leaves.l3 k n x.1.1 x.1.2.2 x.2) _ (fun _ => rfl) (fun n3 => Snd.seq (by kernel_rfl) (Snd.seq (by kernel_rfl) (Snd.cut (Snd.exec hc _ _ _ _) ⟨f195s4, fun x => spec_l20Leaves.c4 k (spec_l20Leaves.l3 k n3) x.1.1 x.1.2.2 x.2⟩ (fun x => by kernel_rfl)) (Snd.exec hc _ _ _ _)) (Snd.exec hc _ _ _ _)) (fun n x => by kernel_rfl) k)) (Snd.exec hc _ _ _ _))) (Snd.exec hc _ _ _ _)) (Snd.exec hc _ _ _ _))
    (fun x => by kernel_rfl)

def f94in : SS := ⟨[(0, (.p 0))], [(0, (.box (.st (.cons (.list 5 (.int .u8)) (.cons (.int .i64) (.cons (.int .i64) .nil)))) (.agg (.cons (.ro (.list 5 (.int .u8))) (.cons (.ro (.int .i64)) (.cons (.ro (.int .i64)) .nil))))))]⟩
def f94out : SS := ⟨[(0, (.h 100))], [(0, (.box (.st (.cons (.list 5 (.int .u8)) (.cons (.int .i64) (.cons (.int .i64) .nil)))) (.agg (.cons (.ro (.list 5 (.int .u8))) (.cons (.ro (.int .i64)) (.cons (.ro (.int .i64)) .nil)))))), (100, (.sl 174 (.st (.cons .str (.cons (.int .i64) (.cons (.int .i64) (.cons (.int .i64) .nil)))))))]⟩
def f94s3 : SS := ⟨[(0, (.p 0)), (3, (.h 100)), (4, (.ro (.int .i64)))], [(0, (.box (.st (.cons (.list 5 (.int .u8)) (.cons (.int .i64) (.cons (.int .i64) .nil)))) (.agg (.cons (.ro (.list 5 (.int .u8))) (.cons (.ro (.int .i64)) (.cons (.ro (.int .i64)) .nil)))))), (100, (.sl 174 (.st (.cons .str (.cons (.int .i64) (.cons (.int .i64) (.cons (.int .i64) .nil)))))))]⟩
def f94con (F : TL1Cur → Option (Unit × TL1Cur × (List TCol))) : Con := ⟨f94in, f94out, 1, 1, fun x => F x.2⟩
def f94ctx (k : Nat) : Ctx := ⟨tyAt tys, conAt [(74, [f74con (spec_l5DrawRight k)]), (195, [f195con (spec_l20Leaves k)])], 20, fun _ => false⟩
theorem f94hc (k : Nat) : CtxOk Try.prog (f94ctx k) := ctxOk tys_ok mixed_ok (consOk_cons (f74ok k) (consOk_cons (f195ok k) (consOk_nil)))
theorem f94ok (k : Nat) : FnOk Try.prog 94 (f94con (spec_l20DrawSchema k)) :=
  let hc := f94hc k
  fnOk (fn := Try.f94) (code := bodyOf Try.f94) (res := [.tmp 2]) hc (by kernel_rfl) (by kernel_rfl) (by decide) (by kernel_rfl) (by kernel_rfl) (by kernel_rfl) (Nat.le_of_ble_eq_true (by kernel_rfl)) _
    (fun x => Snd.seq (by kernel_rfl) (Snd.seq (by kernel_rfl) (Snd.seq (by kernel_rfl) (Snd.exec hc _ _ _ _) (Snd.seq (by kernel_rfl) (Snd.block (id := 0) (by kernel_rfl) (Snd.loop' (by kernel_rfl) f94s3 (fun n x => spec_l20DrawSchema.l3 k n x.1.2.2 x.2.1 x.2.2) _ (fun _ => rfl) (fun n3 => Snd.exec hc _ _ _ _) (fun n x => by kernel_rfl) k)) (Snd.exec hc _ _ _ _))) (Snd.exec hc _ _ _ _)) (Snd.exec hc _ _ _ _))
    (fun x => by kernel_rfl)

def f25in : SS := ⟨[(0, (.ro (.list 150 (.st (.cons (.int .i64) (.cons (.int .i64) (.cons (.st (.cons (.int .i64) (.cons .str .nil))) (.cons (.int .i64) (.cons (.int .i64) .nil)))))))))], []⟩
def f25out : SS := ⟨[(0, (.h 100)), (1, (.ro .bool))], [(100, (.sl 150 (.st (.cons (.int .i64) (.cons (.int .i64) (.cons (.st (.cons (.int .i64) (.cons .str .nil))) (.cons (.int .i64) (.cons (.int .i64) .nil))))))))]⟩
def f25con (F : (List TPred) → Option ((Unit × Bool) × (List TPred))) : Con := ⟨f25in, f25out, 1, 2, fun x => F x⟩
def f25ctx (k : Nat) : Ctx := ⟨tyAt tys, conAt [], 25, fun _ => false⟩
theorem f25hc (k : Nat) : CtxOk Try.prog (f25ctx k) := ctxOk tys_ok mixed_ok (consOk_nil)
theorem f25ok (k : Nat) : FnOk Try.prog 25 (f25con (spec_PredNot k)) :=
  let hc := f25hc k
  fnOk (fn := Try.f25) (code := bodyOf Try.f25) (res := [.tmp 2, .tmp 3]) hc (by kernel_rfl) (by kernel_rfl) (by decide) (by kernel_rfl) (by kernel_rfl) (by kernel_rfl) (Nat.le_of_ble_eq_true (by kernel_rfl)) _
    (fun x => Snd.exec hc _ _ _ _)
    (fun x => by kernel_rfl)

def f312in : SS := ⟨[(0, (.ro (.list 150 (.st (.cons (.int .i64) (.cons (.int .i64) (.cons (.st (.cons (.int .i64) (.cons .str .nil))) (.cons (.int .i64) (.cons (.int .i64) .nil))))))))), (1, (.ro (.int .i64)))], []⟩
def f312out : SS := ⟨[(0, (.h 100))], [(100, (.sl 150 (.st (.cons (.int .i64) (.cons (.int .i64) (.cons (.st (.cons (.int .i64) (.cons .str .nil))) (.cons (.int .i64) (.cons (.int .i64) .nil))))))))]⟩
def f312s13 : SS := ⟨[(0, (.ro (.list 150 (.st (.cons (.int .i64) (.cons (.int .i64) (.cons (.st (.cons (.int .i64) (.cons .str .nil))) (.cons (.int .i64) (.cons (.int .i64) .nil))))))))), (1, (.ro (.int .i64))), (5, (.h 100)), (6, (.ro (.int .i64))), (7, (.p 101))], [(100, (.sl 150 (.st (.cons (.int .i64) (.cons (.int .i64) (.cons (.st (.cons (.int .i64) (.cons .str .nil))) (.cons (.int .i64) (.cons (.int .i64) .nil)))))))), (101, (.box (.st (.cons (.int .i64) (.cons (.int .i64) (.cons (.st (.cons (.int .i64) (.cons .str .nil))) (.cons (.int .i64) (.cons (.int .i64) .nil)))))) (.agg (.cons (.ro (.int .i64)) (.cons (.ro (.int .i64)) (.cons (.agg (.cons (.ro (.int .i64)) (.cons (.ro .str) .nil))) (.cons (.ro (.int .i64)) (.cons (.ro (.int .i64)) .nil))))))))]⟩
def f312s9 : SS := ⟨[(0, (.ro (.list 150 (.st (.cons (.int .i64) (.cons (.int .i64) (.cons (.st (.cons (.int .i64) (.cons .str .nil))) (.cons (.int .i64) (.cons (.int .i64) .nil))))))))), (1, (.ro (.int .i64))), (5, (.h 100)), (6, (.ro (.int .i64))), (7, (.p 101)), (20, (.ro (.int .i64))), (21, (.ro .bool))], [(100, (.sl 150 (.st (.cons (.int .i64) (.cons (.int .i64) (.cons (.st (.cons (.int .i64) (.cons .str .nil))) (.cons (.int .i64) (.cons (.int .i64) .nil)))))))), (101, (.box (.st (.cons (.int .i64) (.cons (.int .i64) (.cons (.st (.cons (.int .i64) (.cons .str .nil))) (.cons (.int .i64) (.cons (.int .i64) .nil)))))) (.agg (.cons (.ro (.int .i64)) (.cons (.ro (.int .i64)) (.cons (.agg (.cons (.ro (.int .i64)) (.cons (.ro .str) .nil))) (.cons (.ro (.int .i64)) (.cons (.ro (.int .i64)) .nil))))))))]⟩
def f312s3 : SS := ⟨[(0, (.ro (.list 150 (.st (.cons (.int .i64) (.cons (.int .i64) (.cons (.st (.cons (.int .i64) (.cons .str .nil))) (.cons (.int .i64) (.cons (.int .i64) .nil))))))))), (1, (.ro (.int .i64))), (5, (.h 100)), (6, (.ro (.int .i64)))], [(100, (.sl 150 (.st (.cons (.int .i64) (.cons (.int .i64) (.cons (.st (.cons (.int .i64) (.cons .str .nil))) (.cons (.int .i64) (.cons (.int .i64) .nil))))))))]⟩
def f312con (F : (List TPred) → Int → Option (Unit × (List TPred))) : Con := ⟨f312in, f312out, 2, 1, fun x => F x.1 x.2⟩
def f312ctx (k : Nat) : Ctx := ⟨tyAt tys, conAt [], 46, fun _ => false⟩
theorem f312hc (k : Nat) : CtxOk Try.prog (f312ctx k) := ctxOk tys_ok mixed_ok (consOk_nil)
theorem f312ok (k : Nat) : FnOk Try.prog 312 (f312con (spec_l20Shift k)) :=
  let hc := f312hc k
  fnOk (fn := Try.f312) (code := bodyOf Try.f312) (res := [.tmp 4]) hc (by kernel_rfl) (by kernel_rfl) (by decide) (by kernel_rfl) (by kernel_rfl) (by kernel_rfl) (Nat.le_of_ble_eq_true (by kernel_rfl)) _
    (fun x => Snd.seq (by kernel_rfl) (Snd.seq (by kernel_rfl) (Snd.seq (by kernel_rfl) (Snd.exec hc _ _ _ _) (Snd.seq (by kernel_rfl) (Snd.block (id := 0) (by kernel_rfl) (Snd.loop' (by kernel_rfl) f312s3 (fun n x => spec_l20Shift.l3 k n x.1.1 x.1.2.1 x.1.2.2.2 x.2) _ (fun _ => rfl) (fun n3 => Snd.seq (by kernel_rfl) (Snd.seq (by kernel_rfl) (Snd.exec hc _ _ _ _) (Snd.block (id := 1) (by kernel_rfl) (Snd.seq (by kernel_rfl) (Snd.seq (by kernel_rfl) (Snd.cut (Snd.exec hc _ _ _ _) ⟨f312s13, fun x => spec_l20Shift.c13 k (spec_l20Shift.l3 k n3) x.1.1 x.1.2.1 x.1.2.2.2.1 x.2.1 x.2.2⟩ (fun x => by kernel_rfl)) (Snd.seq (by kernel_rfl) (Snd.block (id := 2) (by kernel_rfl) (Snd.seq (by kernel_rfl) (Snd.cut (Snd.exec hc _ _ _ _) ⟨f312s9, fun x => spec_l20Shift.c9 k (spec_l20Shift.l3 k n3) x.1.1 x.1.2.1 x.1.2.2.2.1 x.1.2.2.2.2.2.1 x.1.2.2.2.2.2.2 x.2.1 x.2.2⟩ (fun x => by kernel_rfl)) (Snd.exec hc _ _ _ _))) (Snd.exec hc _ _ _ _))) (Snd.exec hc _ _ _ _)))) (Snd.exec hc _ _ _ _)) (fun n x => by kernel_rfl) k)) (Snd.exec hc _ _ _ _))) (Snd.exec hc _ _ _ _)) (Snd.exec hc _ _ _ _))
    (fun x => by kernel_rfl)

def f229in : SS := ⟨[(0, (.ro (.int .i64))), (1, (.ro (.list 150 (.st (.cons (.int .i64) (.cons (.int .i64) (.cons (.st (.cons (.int .i64) (.cons .str .nil))) (.cons (.int .i64) (.cons (.int .i64) .nil))))))))), (2, (.ro (.list 150 (.st (.cons (.int .i64) (.cons (.int .i64) (.cons (.st (.cons (.int .i64) (.cons .str .nil))) (.cons (.int .i64) (.cons (.int .i64) .nil)))))))))], []⟩
def f229out : SS := ⟨[(0, (.h 100)), (1, (.ro .bool))], [(100, (.sl 150 (.st (.cons (.int .i64) (.cons (.int .i64) (.cons (.st (.cons (.int .i64) (.cons .str .nil))) (.cons (.int .i64) (.cons (.int .i64) .nil))))))))]⟩
def f229con (F : Int → (List TPred) → (List TPred) → Option ((Unit × Bool) × (List TPred))) : Con := ⟨f229in, f229out, 3, 2, fun x => F x.1 x.2.1 x.2.2⟩
def f229ctx (k : Nat) : Ctx := ⟨tyAt tys, conAt [(312, [f312con (spec_l20Shift k)])], 54, fun _ => false⟩
theorem f229hc (k : Nat) : CtxOk Try.prog (f229ctx k) := ctxOk tys_ok mixed_ok (consOk_cons (f312ok k) (consOk_nil))
theorem f229ok (k : Nat) : FnOk Try.prog 229 (f229con (spec_PredPair k)) :=
  let hc := f229hc k
  fnOk (fn := Try.f229) (code := bodyOf Try.f229) (res := [.tmp 6, .tmp 7]) hc (by kernel_rfl) (by kernel_rfl) (by decide) (by kernel_rfl) (by kernel_rfl) (by kernel_rfl) (Nat.le_of_ble_eq_true (by kernel_rfl)) _
    (fun x => Snd.exec hc _ _ _ _)
    (fun x => by kernel_rfl)

def f160in : SS := ⟨[(0, (.p 0)), (1, (.ro (.list 9 .str)))], [(0, (.box (.st (.cons (.list 5 (.int .u8)) (.cons (.int .i64) (.cons (.int .i64) .nil)))) (.agg (.cons (.ro (.list 5 (.int .u8))) (.cons (.ro (.int .i64)) (.cons (.ro (.int .i64)) .nil))))))]⟩
def f160out : SS := ⟨[(0, (.ro .str))], [(0, (.box (.st (.cons (.list 5 (.int .u8)) (.cons (.int .i64) (.cons (.int .i64) .nil)))) (.agg (.cons (.ro (.list 5 (.int .u8))) (.cons (.ro (.int .i64)) (.cons (.ro (.int .i64)) .nil))))))]⟩
def f160con (F : (List ByteArray) → TL1Cur → Option (ByteArray × TL1Cur)) : Con := ⟨f160in, f160out, 2, 1, fun x => F x.1.2 x.2⟩
def f160ctx (k : Nat) : Ctx := ⟨tyAt tys, conAt [(76, [f76con (spec_l1Below k)])], 12, fun _ => false⟩
theorem f160hc (k : Nat) : CtxOk Try.prog (f160ctx k) := ctxOk tys_ok mixed_ok (consOk_cons (f76ok k) (consOk_nil))
theorem f160ok (k : Nat) : FnOk Try.prog 160 (f160con (spec_l1Pick k)) :=
  let hc := f160hc k
  fnOk (fn := Try.f160) (code := bodyOf Try.f160) (res := [.tmp 4]) hc (by kernel_rfl) (by kernel_rfl) (by decide) (by kernel_rfl) (by kernel_rfl) (by kernel_rfl) (Nat.le_of_ble_eq_true (by kernel_rfl)) _
    (fun x => Snd.exec hc _ _ _ _)
    (fun x => by kernel_rfl)

def f294in : SS := ⟨[(0, (.p 0)), (1, (.ro (.int .i64)))], [(0, (.box (.st (.cons (.list 5 (.int .u8)) (.cons (.int .i64) (.cons (.int .i64) .nil)))) (.agg (.cons (.ro (.list 5 (.int .u8))) (.cons (.ro (.int .i64)) (.cons (.ro (.int .i64)) .nil))))))]⟩
def f294out : SS := ⟨[(0, (.h 100))], [(0, (.box (.st (.cons (.list 5 (.int .u8)) (.cons (.int .i64) (.cons (.int .i64) .nil)))) (.agg (.cons (.ro (.list 5 (.int .u8))) (.cons (.ro (.int .i64)) (.cons (.ro (.int .i64)) .nil)))))), (100, (.sl 5 (.int .u8)))]⟩
def f294s4 : SS := ⟨[(0, (.p 0)), (5, (.h 100)), (6, (.ro (.int .i64))), (7, (.ro (.int .i64)))], [(0, (.box (.st (.cons (.list 5 (.int .u8)) (.cons (.int .i64) (.cons (.int .i64) .nil)))) (.agg (.cons (.ro (.list 5 (.int .u8))) (.cons (.ro (.int .i64)) (.cons (.ro (.int .i64)) .nil)))))), (100, (.sl 5 (.int .u8)))]⟩
def f294con (F : Int → TL1Cur → Option (Unit × TL1Cur × (List Int))) : Con := ⟨f294in, f294out, 2, 1, fun x => F x.1.2 x.2⟩
def f294ctx (k : Nat) : Ctx := ⟨tyAt tys, conAt [(76, [f76con (spec_l1Below k)]), (109, [f109con (spec_l1Byte k)])], 25, fun _ => false⟩
theorem f294hc (k : Nat) : CtxOk Try.prog (f294ctx k) := ctxOk tys_ok mixed_ok (consOk_cons (f76ok k) (consOk_cons (f109ok k) (consOk_nil)))
theorem f294ok (k : Nat) : FnOk Try.prog 294 (f294con (spec_l1DrawBytes k)) :=
  let hc := f294hc k
  fnOk (fn := Try.f294) (code := bodyOf Try.f294) (res := [.tmp 4]) hc (by kernel_rfl) (by kernel_rfl) (by decide) (by kernel_rfl) (by kernel_rfl) (by kernel_rfl) (Nat.le_of_ble_eq_true (by kernel_rfl)) _
    (fun x => Snd.seq (by kernel_rfl) (Snd.seq (by kernel_rfl) (Snd.seq (by kernel_rfl) (Snd.seq (by kernel_rfl) (Snd.exec hc _ _ _ _) (Snd.seq (by kernel_rfl) (Snd.block (id := 0) (by kernel_rfl) (Snd.loop' (by kernel_rfl) f294s4 (fun n x => spec_l1DrawBytes.l4 k n x.1.2.2.1 x.1.2.2.2 x.2.1 x.2.2) _ (fun _ => rfl) (fun n4 => Snd.exec hc _ _ _ _) (fun n x => by kernel_rfl) k)) (Snd.exec hc _ _ _ _))) (Snd.exec hc _ _ _ _)) (Snd.exec hc _ _ _ _)) (Snd.exec hc _ _ _ _))
    (fun x => by kernel_rfl)

def f196in : SS := ⟨[(0, (.p 0)), (1, (.ro (.int .i64)))], [(0, (.box (.st (.cons (.list 5 (.int .u8)) (.cons (.int .i64) (.cons (.int .i64) .nil)))) (.agg (.cons (.ro (.list 5 (.int .u8))) (.cons (.ro (.int .i64)) (.cons (.ro (.int .i64)) .nil))))))]⟩
def f196out : SS := ⟨[(0, (.ro .str))], [(0, (.box (.st (.cons (.list 5 (.int .u8)) (.cons (.int .i64) (.cons (.int .i64) .nil)))) (.agg (.cons (.ro (.list 5 (.int .u8))) (.cons (.ro (.int .i64)) (.cons (.ro (.int .i64)) .nil))))))]⟩
def f196con (F : Int → TL1Cur → Option (ByteArray × TL1Cur)) : Con := ⟨f196in, f196out, 2, 1, fun x => F x.1.2 x.2⟩
def f196ctx (k : Nat) : Ctx := ⟨tyAt tys, conAt [(294, [f294con (spec_l1DrawBytes k)])], 9, fun _ => false⟩
theorem f196hc (k : Nat) : CtxOk Try.prog (f196ctx k) := ctxOk tys_ok mixed_ok (consOk_cons (f294ok k) (consOk_nil))
theorem f196ok (k : Nat) : FnOk Try.prog 196 (f196con (spec_l4DrawText k)) :=
  let hc := f196hc k
  fnOk (fn := Try.f196) (code := bodyOf Try.f196) (res := [.tmp 4]) hc (by kernel_rfl) (by kernel_rfl) (by decide) (by kernel_rfl) (by kernel_rfl) (by kernel_rfl) (Nat.le_of_ble_eq_true (by kernel_rfl)) _
    (fun x => Snd.exec hc _ _ _ _)
    (fun x => by kernel_rfl)

def f302in : SS := ⟨[(0, (.p 0))], [(0, (.box (.st (.cons (.list 5 (.int .u8)) (.cons (.int .i64) (.cons (.int .i64) .nil)))) (.agg (.cons (.ro (.list 5 (.int .u8))) (.cons (.ro (.int .i64)) (.cons (.ro (.int .i64)) .nil))))))]⟩
def f302out : SS := ⟨[(0, (.ro (.int .i64)))], [(0, (.box (.st (.cons (.list 5 (.int .u8)) (.cons (.int .i64) (.cons (.int .i64) .nil)))) (.agg (.cons (.ro (.list 5 (.int .u8))) (.cons (.ro (.int .i64)) (.cons (.ro (.int .i64)) .nil))))))]⟩
def f302con (F : TL1Cur → Option (Int × TL1Cur)) : Con := ⟨f302in, f302out, 1, 1, fun x => F x.2⟩
def f302ctx (k : Nat) : Ctx := ⟨tyAt tys, conAt [(76, [f76con (spec_l1Below k)]), (110, [f110con (spec_l1PickInt k)])], 13, fun _ => false⟩
theorem f302hc (k : Nat) : CtxOk Try.prog (f302ctx k) := ctxOk tys_ok mixed_ok (consOk_cons (f76ok k) (consOk_cons (f110ok k) (consOk_nil)))
theorem f302ok (k : Nat) : FnOk Try.prog 302 (f302con (spec_l2DrawNum k)) :=
  let hc := f302hc k
  fnOk (fn := Try.f302) (code := bodyOf Try.f302) (res := [.tmp 2]) hc (by kernel_rfl) (by kernel_rfl) (by decide) (by kernel_rfl) (by kernel_rfl) (by kernel_rfl) (Nat.le_of_ble_eq_true (by kernel_rfl)) _
    (fun x => Snd.exec hc _ _ _ _)
    (fun x => by kernel_rfl)

def f230in : SS := ⟨[(0, (.p 0)), (1, (.ro (.int .i64)))], [(0, (.box (.st (.cons (.list 5 (.int .u8)) (.cons (.int .i64) (.cons (.int .i64) .nil)))) (.agg (.cons (.ro (.list 5 (.int .u8))) (.cons (.ro (.int .i64)) (.cons (.ro (.int .i64)) .nil))))))]⟩
def f230out : SS := ⟨[(0, (.agg (.cons (.ro (.int .i64)) (.cons (.ro .str) .nil))))], [(0, (.box (.st (.cons (.list 5 (.int .u8)) (.cons (.int .i64) (.cons (.int .i64) .nil)))) (.agg (.cons (.ro (.list 5 (.int .u8))) (.cons (.ro (.int .i64)) (.cons (.ro (.int .i64)) .nil))))))]⟩
def f230con (F : Int → TL1Cur → Option ((TVal) × TL1Cur)) : Con := ⟨f230in, f230out, 2, 1, fun x => F x.1.2 x.2⟩
def f230ctx (k : Nat) : Ctx := ⟨tyAt tys, conAt [(76, [f76con (spec_l1Below k)]), (110, [f110con (spec_l1PickInt k)]), (116, [f116con (spec_l1Once k)]), (160, [f160con (spec_l1Pick k)]), (196, [f196con (spec_l4DrawText k)]), (302, [f302con (spec_l2DrawNum k)])], 53, fun _ => false⟩
theorem f230hc (k : Nat) : CtxOk Try.prog (f230ctx k) := ctxOk tys_ok mixed_ok (consOk_cons (f76ok k) (consOk_cons (f110ok k) (consOk_cons (f116ok k) (consOk_cons (f160ok k) (consOk_cons (f196ok k) (consOk_cons (f302ok k) (consOk_nil)))))))
theorem f230ok (k : Nat) : FnOk Try.prog 230 (f230con (spec_l6DrawRight k)) :=
  let hc := f230hc k
  fnOk (fn := Try.f230) (code := bodyOf Try.f230) (res := [.cell 4 75]) hc (by kernel_rfl) (by kernel_rfl) (by decide) (by kernel_rfl) (by kernel_rfl) (by kernel_rfl) (Nat.le_of_ble_eq_true (by kernel_rfl)) _
    (fun x => Snd.exec hc _ _ _ _)
    (fun x => by kernel_rfl)

def f121in : SS := ⟨[(0, (.p 0)), (1, (.ro (.list 174 (.st (.cons .str (.cons (.int .i64) (.cons (.int .i64) (.cons (.int .i64) .nil)))))))), (2, (.ro (.int .i64)))], [(0, (.box (.st (.cons (.list 5 (.int .u8)) (.cons (.int .i64) (.cons (.int .i64) .nil)))) (.agg (.cons (.ro (.list 5 (.int .u8))) (.cons (.ro (.int .i64)) (.cons (.ro (.int .i64)) .nil))))))]⟩
def f121out : SS := ⟨[(0, (.h 100))], [(0, (.box (.st (.cons (.list 5 (.int .u8)) (.cons (.int .i64) (.cons (.int .i64) .nil)))) (.agg (.cons (.ro (.list 5 (.int .u8))) (.cons (.ro (.int .i64)) (.cons (.ro (.int .i64)) .nil)))))), (100, (.sl 150 (.st (.cons (.int .i64) (.cons (.int .i64) (.cons (.st (.cons (.int .i64) (.cons .str .nil))) (.cons (.int .i64) (.cons (.int .i64) .nil))))))))]⟩
def f121s18 : SS := ⟨[(13, (.p 100))], [(0, (.box (.st (.cons (.list 5 (.int .u8)) (.cons (.int .i64) (.cons (.int .i64) .nil)))) (.agg (.cons (.ro (.list 5 (.int .u8))) (.cons (.ro (.int .i64)) (.cons (.ro (.int .i64)) .nil)))))), (100, (.box (.st (.cons (.int .i64) (.cons (.int .i64) (.cons (.st (.cons (.int .i64) (.cons .str .nil))) (.cons (.int .i64) (.cons (.int .i64) .nil)))))) (.agg (.cons (.ro (.int .i64)) (.cons (.ro (.int .i64)) (.cons (.agg (.cons (.ro (.int .i64)) (.cons (.ro .str) .nil))) (.cons (.ro (.int .i64)) (.cons (.ro (.int .i64)) .nil))))))))]⟩
def f121s10 : SS := ⟨[(0, (.p 0)), (1, (.ro (.list 174 (.st (.cons .str (.cons (.int .i64) (.cons (.int .i64) (.cons (.int .i64) .nil)))))))), (2, (.ro (.int .i64))), (8, (.h 100))], [(0, (.box (.st (.cons (.list 5 (.int .u8)) (.cons (.int .i64) (.cons (.int .i64) .nil)))) (.agg (.cons (.ro (.list 5 (.int .u8))) (.cons (.ro (.int .i64)) (.cons (.ro (.int .i64)) .nil)))))), (100, (.sl 150 (.st (.cons (.int .i64) (.cons (.int .i64) (.cons (.st (.cons (.int .i64) (.cons .str .nil))) (.cons (.int .i64) (.cons (.int .i64) .nil))))))))]⟩
def f121con (F : (List TCol) → Int → TL1Cur → Option (Unit × TL1Cur × (List TPred))) : Con := ⟨f121in, f121out, 3, 1, fun x => F x.1.2.1 x.1.2.2 x.2⟩
def f121ctx (k : Nat) (S121 : (List TCol) → Int → TL1Cur → Option (Unit × TL1Cur × (List TPred))) : Ctx := ⟨tyAt tys, conAt [(25, [f25con (spec_PredNot k)]), (40, [f40con (spec_LeafOf k)]), (76, [f76con (spec_l1Below k)]), (110, [f110con (spec_l1PickInt k)]), (116, [f116con (spec_l1Once k)]), (121, [f121con S121]), (195, [f195con (spec_l20Leaves k)]), (229, [f229con (spec_PredPair k)]), (230, [f230con (spec_l6DrawRight k)])], 83, fun s => Nat.beq s 25⟩
theorem f121hc (k : Nat) (S121 : (List TCol) → Int → TL1Cur → Option (Unit × TL1Cur × (List TPred))) (h121 : FnOk Try.prog 121 (f121con S121)) : CtxOk Try.prog (f121ctx k S121) := ctxOk tys_ok mixed_ok (consOk_cons (f25ok k) (consOk_cons (f40ok k) (consOk_cons (f76ok k) (consOk_cons (f110ok k) (consOk_cons (f116ok k) (consOk_cons (h121) (consOk_cons (f195ok k) (consOk_cons (f229ok k) (consOk_cons (f230ok k) (consOk_nil))))))))))
theorem f121okb (k : Nat) (S121 : (List TCol) → Int → TL1Cur → Option (Unit × TL1Cur × (List TPred))) (h121 : FnOk Try.prog 121 (f121con S121)) : FnOk Try.prog 121 (f121con (spec_l20DrawTree.b k S121)) :=
  let hc := f121hc k S121 h121
  fnOk (fn := Try.f121) (code := bodyOf Try.f121) (res := [.tmp 6]) hc (by kernel_rfl) (by kernel_rfl) (by decide) (by kernel_rfl) (by kernel_rfl) (by kernel_rfl) (Nat.le_of_ble_eq_true (by kernel_rfl)) _
    (fun x => Snd.seq (by kernel_rfl) (Snd.seq (by kernel_rfl) (Snd.seq (by kernel_rfl) (Snd.seq (by kernel_rfl) (Snd.seq (by kernel_rfl) (Snd.seq (by kernel_rfl) (Snd.cut (Snd.exec hc _ _ _ _) ⟨f121s18, fun x => spec_l20DrawTree.c18 k x.2.1 x.2.2⟩ (fun x => by kernel_rfl)) (Snd.exec hc _ _ _ _)) (Snd.exec hc _ _ _ _)) (Snd.seq (by kernel_rfl) (Snd.cond (x := .tmp 28) (by kernel_rfl) (Snd.seq (by kernel_rfl) (Snd.seq (by kernel_rfl) (Snd.cut (Snd.exec hc _ _ _ _) ⟨f121s10, fun x => spec_l20DrawTree.c10 k S121 x.1.2.1 x.1.2.2.1 x.2.1 x.2.2⟩ (fun x => by kernel_rfl)) (Snd.exec hc _ _ _ _)) (Snd.exec hc _ _ _ _)) (Snd.exec hc _ _ _ _)) (Snd.exec hc _ _ _ _))) (Snd.exec hc _ _ _ _)) (Snd.exec hc _ _ _ _)) (Snd.exec hc _ _ _ _))
    (fun x => by kernel_rfl)
theorem f121rec (k : Nat) : ∀ d, FnOk Try.prog 121 (f121con (spec_l20DrawTree.d k d))
  | 0 => FnOk_none (fun _ => rfl)
  | d + 1 => let ih := f121rec k d
    f121okb k (spec_l20DrawTree.d k d) ih
theorem f121ok (k : Nat) : FnOk Try.prog 121 (f121con (spec_l20DrawTree k)) := (f121rec k k)

def f95in : SS := ⟨[(0, (.p 0)), (1, (.ro (.list 174 (.st (.cons .str (.cons (.int .i64) (.cons (.int .i64) (.cons (.int .i64) .nil))))))))], [(0, (.box (.st (.cons (.list 5 (.int .u8)) (.cons (.int .i64) (.cons (.int .i64) .nil)))) (.agg (.cons (.ro (.list 5 (.int .u8))) (.cons (.ro (.int .i64)) (.cons (.ro (.int .i64)) .nil))))))]⟩
def f95out : SS := ⟨[(0, (.h 100))], [(0, (.box (.st (.cons (.list 5 (.int .u8)) (.cons (.int .i64) (.cons (.int .i64) .nil)))) (.agg (.cons (.ro (.list 5 (.int .u8))) (.cons (.ro (.int .i64)) (.cons (.ro (.int .i64)) .nil)))))), (100, (.sl 150 (.st (.cons (.int .i64) (.cons (.int .i64) (.cons (.st (.cons (.int .i64) (.cons .str .nil))) (.cons (.int .i64) (.cons (.int .i64) .nil))))))))]⟩
def f95s16 : SS := ⟨[(5, (.h 100))], [(0, (.box (.st (.cons (.list 5 (.int .u8)) (.cons (.int .i64) (.cons (.int .i64) .nil)))) (.agg (.cons (.ro (.list 5 (.int .u8))) (.cons (.ro (.int .i64)) (.cons (.ro (.int .i64)) .nil)))))), (100, (.sl 150 (.st (.cons (.int .i64) (.cons (.int .i64) (.cons (.st (.cons (.int .i64) (.cons .str .nil))) (.cons (.int .i64) (.cons (.int .i64) .nil))))))))]⟩
def f95con (F : (List TCol) → TL1Cur → Option (Unit × TL1Cur × (List TPred))) : Con := ⟨f95in, f95out, 2, 1, fun x => F x.1.2 x.2⟩
def f95ctx (k : Nat) : Ctx := ⟨tyAt tys, conAt [(76, [f76con (spec_l1Below k)]), (121, [f121con (spec_l20DrawTree k)]), (196, [f196con (spec_l4DrawText k)])], 65, fun _ => false⟩
theorem f95hc (k : Nat) : CtxOk Try.prog (f95ctx k) := ctxOk tys_ok mixed_ok (consOk_cons (f76ok k) (consOk_cons (f121ok k) (consOk_cons (f196ok k) (consOk_nil))))
theorem f95ok (k : Nat) : FnOk Try.prog 95 (f95con (spec_l20DrawPred k)) :=
  let hc := f95hc k
  fnOk (fn := Try.f95) (code := bodyOf Try.f95) (res := [.tmp 4]) hc (by kernel_rfl) (by kernel_rfl) (by decide) (by kernel_rfl) (by kernel_rfl) (by kernel_rfl) (Nat.le_of_ble_eq_true (by kernel_rfl)) _
    (fun x => Snd.seq (by kernel_rfl) (Snd.seq (by kernel_rfl) (Snd.seq (by kernel_rfl) (Snd.seq (by kernel_rfl) (Snd.cut (Snd.exec hc _ _ _ _) ⟨f95s16, fun x => spec_l20DrawPred.c16 k x.2.1 x.2.2⟩ (fun x => by kernel_rfl)) (Snd.exec hc _ _ _ _)) (Snd.exec hc _ _ _ _)) (Snd.exec hc _ _ _ _)) (Snd.exec hc _ _ _ _))
    (fun x => by kernel_rfl)

def f217in : SS := ⟨[(0, (.ro (.int .i64)))], []⟩
def f217out : SS := ⟨[(0, (.ro .bool))], []⟩
def f217con (F : Int → Option Bool) : Con := ⟨f217in, f217out, 1, 1, fun x => F x⟩
def f217ctx (k : Nat) : Ctx := ⟨tyAt tys, conAt [(101, [f101con (spec_l1In k)])], 5, fun _ => false⟩
theorem f217hc (k : Nat) : CtxOk Try.prog (f217ctx k) := ctxOk tys_ok mixed_ok (consOk_cons (f101ok k) (consOk_nil))
theorem f217ok (k : Nat) : FnOk Try.prog 217 (f217con (spec_l4Int k)) :=
  let hc := f217hc k
  fnOk (fn := Try.f217) (code := bodyOf Try.f217) (res := [.tmp 2]) hc (by kernel_rfl) (by kernel_rfl) (by decide) (by kernel_rfl) (by kernel_rfl) (by kernel_rfl) (Nat.le_of_ble_eq_true (by kernel_rfl)) _
    (fun x => Snd.exec hc _ _ _ _)
    (fun x => by kernel_rfl)

def f203in : SS := ⟨[(0, (.ro (.int .i64))), (1, (.ro (.st (.cons (.int .i64) (.cons .str .nil)))))], []⟩
def f203out : SS := ⟨[(0, (.ro .bool))], []⟩
def f203s8 : SS := ⟨[(3, (.p 100)), (5, (.ro (.int .i64))), (26, (.ro .bool))], [(100, (.box (.st (.cons (.int .i64) (.cons .str .nil))) (.agg (.cons (.ro (.int .i64)) (.cons (.ro .str) .nil)))))]⟩
def f203con (F : Int → TVal → Option Bool) : Con := ⟨f203in, f203out, 2, 1, fun x => F x.1 x.2⟩
def f203ctx (k : Nat) : Ctx := ⟨tyAt tys, conAt [(101, [f101con (spec_l1In k)]), (217, [f217con (spec_l4Int k)])], 43, fun _ => false⟩
theorem f203hc (k : Nat) : CtxOk Try.prog (f203ctx k) := ctxOk tys_ok mixed_ok (consOk_cons (f101ok k) (consOk_cons (f217ok k) (consOk_nil)))
theorem f203ok (k : Nat) : FnOk Try.prog 203 (f203con (spec_ValOk k)) :=
  let hc := f203hc k
  fnOk (fn := Try.f203) (code := bodyOf Try.f203) (res := [.tmp 4]) hc (by kernel_rfl) (by kernel_rfl) (by decide) (by kernel_rfl) (by kernel_rfl) (by kernel_rfl) (Nat.le_of_ble_eq_true (by kernel_rfl)) _
    (fun x => Snd.seq (by kernel_rfl) (Snd.seq (by kernel_rfl) (Snd.exec hc _ _ _ _) (Snd.seq (by kernel_rfl) (Snd.block (id := 0) (by kernel_rfl) (Snd.seq (by kernel_rfl) (Snd.cond (x := .tmp 6) (by kernel_rfl) (Snd.exec hc _ _ _ _) (Snd.seq (by kernel_rfl) (Snd.cond (x := .tmp 16) (by kernel_rfl) (Snd.exec hc _ _ _ _) (Snd.seq (by kernel_rfl) (Snd.cut (Snd.exec hc _ _ _ _) ⟨f203s8, fun x => spec_ValOk.c8 k x.1.2.1 x.1.2.2 x.2⟩ (fun x => by kernel_rfl)) (Snd.exec hc _ _ _ _))) (Snd.exec hc _ _ _ _))) (Snd.exec hc _ _ _ _))) (Snd.exec hc _ _ _ _))) (Snd.exec hc _ _ _ _))
    (fun x => by kernel_rfl)

def f299in : SS := ⟨[(0, (.ro (.st (.cons (.int .i64) (.cons .str .nil))))), (1, (.ro (.int .i64)))], []⟩
def f299out : SS := ⟨[(0, (.ro (.int .i64)))], []⟩
def f299con (F : TVal → Int → Option Int) : Con := ⟨f299in, f299out, 2, 1, fun x => F x.1 x.2⟩
def f299ctx (k : Nat) : Ctx := ⟨tyAt tys, conAt [(101, [f101con (spec_l1In k)])], 17, fun _ => false⟩
theorem f299hc (k : Nat) : CtxOk Try.prog (f299ctx k) := ctxOk tys_ok mixed_ok (consOk_cons (f101ok k) (consOk_nil))
theorem f299ok (k : Nat) : FnOk Try.prog 299 (f299con (spec_l13Count k)) :=
  let hc := f299hc k
  fnOk (fn := Try.f299) (code := bodyOf Try.f299) (res := [.tmp 4]) hc (by kernel_rfl) (by kernel_rfl) (by decide) (by kernel_rfl) (by kernel_rfl) (by kernel_rfl) (Nat.le_of_ble_eq_true (by kernel_rfl)) _
    (fun x => Snd.exec hc _ _ _ _)
    (fun x => by kernel_rfl)

def f104in : SS := ⟨[(0, (.ro (.list 174 (.st (.cons .str (.cons (.int .i64) (.cons (.int .i64) (.cons (.int .i64) .nil)))))))), (1, (.ro (.int .i64))), (2, (.ro (.list 75 (.st (.cons (.int .i64) (.cons .str .nil)))))), (3, (.ro (.int .i64)))], []⟩
def f104out : SS := ⟨[(0, (.ro (.int .i64)))], []⟩
def f104s7 : SS := ⟨[(0, (.ro (.list 174 (.st (.cons .str (.cons (.int .i64) (.cons (.int .i64) (.cons (.int .i64) .nil)))))))), (1, (.ro (.int .i64))), (2, (.ro (.list 75 (.st (.cons (.int .i64) (.cons .str .nil)))))), (3, (.ro (.int .i64))), (9, (.ro (.int .i64))), (10, (.ro (.int .i64)))], []⟩
def f104con (F : (List TCol) → Int → (List TVal) → Int → Option Int) : Con := ⟨f104in, f104out, 4, 1, fun x => F x.1 x.2.1 x.2.2.1 x.2.2.2⟩
def f204in : SS := ⟨[(0, (.ro (.list 174 (.st (.cons .str (.cons (.int .i64) (.cons (.int .i64) (.cons (.int .i64) .nil)))))))), (1, (.ro (.int .i64))), (2, (.ro (.list 75 (.st (.cons (.int .i64) (.cons .str .nil)))))), (3, (.ro (.int .i64)))], []⟩
def f204out : SS := ⟨[(0, (.ro (.int .i64)))], []⟩
def f204s13 : SS := ⟨[(0, (.ro (.list 174 (.st (.cons .str (.cons (.int .i64) (.cons (.int .i64) (.cons (.int .i64) .nil)))))))), (1, (.ro (.int .i64))), (2, (.ro (.list 75 (.st (.cons (.int .i64) (.cons .str .nil)))))), (3, (.ro (.int .i64))), (9, (.ro (.int .i64))), (11, (.ro (.int .i64)))], []⟩
def f204s12 : SS := ⟨[(0, (.ro (.list 174 (.st (.cons .str (.cons (.int .i64) (.cons (.int .i64) (.cons (.int .i64) .nil)))))))), (1, (.ro (.int .i64))), (2, (.ro (.list 75 (.st (.cons (.int .i64) (.cons .str .nil)))))), (3, (.ro (.int .i64))), (9, (.ro (.int .i64)))], []⟩
def f204s6 : SS := ⟨[(0, (.ro (.list 174 (.st (.cons .str (.cons (.int .i64) (.cons (.int .i64) (.cons (.int .i64) .nil)))))))), (1, (.ro (.int .i64))), (2, (.ro (.list 75 (.st (.cons (.int .i64) (.cons .str .nil)))))), (3, (.ro (.int .i64))), (10, (.ro (.int .i64)))], []⟩
def f204con (F : (List TCol) → Int → (List TVal) → Int → Option Int) : Con := ⟨f204in, f204out, 4, 1, fun x => F x.1 x.2.1 x.2.2.1 x.2.2.2⟩
def f104ctx (k : Nat) (S104 : (List TCol) → Int → (List TVal) → Int → Option Int) (S204 : (List TCol) → Int → (List TVal) → Int → Option Int) : Ctx := ⟨tyAt tys, conAt [(189, [f189con (spec_l5After k)]), (203, [f203con (spec_ValOk k)]), (204, [f204con S204])], 58, fun _ => false⟩
theorem f104hc (k : Nat) (S104 : (List TCol) → Int → (List TVal) → Int → Option Int) (S204 : (List TCol) → Int → (List TVal) → Int → Option Int) (h104 : FnOk Try.prog 104 (f104con S104)) (h204 : FnOk Try.prog 204 (f204con S204)) : CtxOk Try.prog (f104ctx k S104 S204) := ctxOk tys_ok mixed_ok (consOk_cons (f189ok k) (consOk_cons (f203ok k) (consOk_cons (h204) (consOk_nil))))
theorem f104okb (k : Nat) (S104 : (List TCol) → Int → (List TVal) → Int → Option Int) (S204 : (List TCol) → Int → (List TVal) → Int → Option Int) (h104 : FnOk Try.prog 104 (f104con S104)) (h204 : FnOk Try.prog 204 (f204con S204)) : FnOk Try.prog 104 (f104con (spec_l13Content.b k S104 S204)) :=
  let hc := f104hc k S104 S204 h104 h204
  fnOk (fn := Try.f104) (code := bodyOf Try.f104) (res := [.tmp 8]) hc (by kernel_rfl) (by kernel_rfl) (by decide) (by kernel_rfl) (by kernel_rfl) (by kernel_rfl) (Nat.le_of_ble_eq_true (by kernel_rfl)) _
    (fun x => Snd.seq (by kernel_rfl) (Snd.seq (by kernel_rfl) (Snd.seq (by kernel_rfl) (Snd.seq (by kernel_rfl) (Snd.exec hc _ _ _ _) (Snd.seq (by kernel_rfl) (Snd.block (id := 0) (by kernel_rfl) (Snd.loop' (by kernel_rfl) f104s7 (fun n x => spec_l13Content.l7 k S204 n x.1 x.2.1 x.2.2.1 x.2.2.2.1 x.2.2.2.2.1 x.2.2.2.2.2) _ (fun _ => rfl) (fun n7 => Snd.exec hc _ _ _ _) (fun n x => by kernel_rfl) k)) (Snd.exec hc _ _ _ _))) (Snd.exec hc _ _ _ _)) (Snd.exec hc _ _ _ _)) (Snd.exec hc _ _ _ _))
    (fun x => by kernel_rfl)
def f204ctx (k : Nat) (S104 : (List TCol) → Int → (List TVal) → Int → Option Int) (S204 : (List TCol) → Int → (List TVal) → Int → Option Int) : Ctx := ⟨tyAt tys, conAt [(104, [f104con S104]), (299, [f299con (spec_l13Count k)])], 51, fun _ => false⟩
theorem f204hc (k : Nat) (S104 : (List TCol) → Int → (List TVal) → Int → Option Int) (S204 : (List TCol) → Int → (List TVal) → Int → Option Int) (h104 : FnOk Try.prog 104 (f104con S104)) (h204 : FnOk Try.prog 204 (f204con S204)) : CtxOk Try.prog (f204ctx k S104 S204) := ctxOk tys_ok mixed_ok (consOk_cons (h104) (consOk_cons (f299ok k) (consOk_nil)))
theorem f204okb (k : Nat) (S104 : (List TCol) → Int → (List TVal) → Int → Option Int) (S204 : (List TCol) → Int → (List TVal) → Int → Option Int) (h104 : FnOk Try.prog 104 (f104con S104)) (h204 : FnOk Try.prog 204 (f204con S204)) : FnOk Try.prog 204 (f204con (spec_l13Part.b k S104 S204)) :=
  let hc := f204hc k S104 S204 h104 h204
  fnOk (fn := Try.f204) (code := bodyOf Try.f204) (res := [.tmp 8]) hc (by kernel_rfl) (by kernel_rfl) (by decide) (by kernel_rfl) (by kernel_rfl) (by kernel_rfl) (Nat.le_of_ble_eq_true (by kernel_rfl)) _
    (fun x => Snd.seq (by kernel_rfl) (Snd.seq (by kernel_rfl) (Snd.seq (by kernel_rfl) (Snd.cut (Snd.seq (by kernel_rfl) (Snd.exec hc _ _ _ _) (Snd.seq (by kernel_rfl) (Snd.block (id := 0) (by kernel_rfl) (Snd.loop' (by kernel_rfl) f204s13 (fun n x => spec_l13Part.l13 k S104 n x.1 x.2.1 x.2.2.1 x.2.2.2.1 x.2.2.2.2.1 x.2.2.2.2.2) _ (fun _ => rfl) (fun n13 => Snd.exec hc _ _ _ _) (fun n x => by kernel_rfl) k)) (Snd.exec hc _ _ _ _))) ⟨f204s12, fun x => spec_l13Part.c12 k S104 x.1 x.2.1 x.2.2.1 x.2.2.2.1 x.2.2.2.2⟩ (fun x => by kernel_rfl)) (Snd.seq (by kernel_rfl) (Snd.cond (x := .tmp 17) (by kernel_rfl) (Snd.seq (by kernel_rfl) (Snd.seq (by kernel_rfl) (Snd.cut (Snd.exec hc _ _ _ _) ⟨f204s6, fun x => spec_l13Part.c6 k S104 x.1 x.2.1 x.2.2.1 x.2.2.2.1 x.2.2.2.2⟩ (fun x => by kernel_rfl)) (Snd.exec hc _ _ _ _)) (Snd.exec hc _ _ _ _)) (Snd.exec hc _ _ _ _)) (Snd.exec hc _ _ _ _))) (Snd.exec hc _ _ _ _)) (Snd.exec hc _ _ _ _))
    (fun x => by kernel_rfl)
theorem f104rec (k : Nat) : ∀ d, FnOk Try.prog 104 (f104con (spec_l13Content.d k d)) ∧ FnOk Try.prog 204 (f204con (spec_l13Part.d k d))
  | 0 => ⟨FnOk_none (fun _ => rfl), FnOk_none (fun _ => rfl)⟩
  | d + 1 => let ih := f104rec k d
    ⟨f104okb k (spec_l13Content.d k d) (spec_l13Part.d k d) ih.1 ih.2, f204okb k (spec_l13Content.d k d) (spec_l13Part.d k d) ih.1 ih.2⟩
theorem f104ok (k : Nat) : FnOk Try.prog 104 (f104con (spec_l13Content k)) := (f104rec k k).1
theorem f204ok (k : Nat) : FnOk Try.prog 204 (f204con (spec_l13Part k)) := (f104rec k k).2

def f28in : SS := ⟨[(0, (.ro (.list 174 (.st (.cons .str (.cons (.int .i64) (.cons (.int .i64) (.cons (.int .i64) .nil)))))))), (1, (.ro (.st (.cons (.list 75 (.st (.cons (.int .i64) (.cons .str .nil)))) .nil))))], []⟩
def f28out : SS := ⟨[(0, (.ro .bool))], []⟩
def f28d1 : SS := ⟨[(0, (.ro (.list 174 (.st (.cons .str (.cons (.int .i64) (.cons (.int .i64) (.cons (.int .i64) .nil)))))))), (3, (.p 100))], [(100, (.box (.st (.cons (.list 75 (.st (.cons (.int .i64) (.cons .str .nil)))) .nil)) (.agg (.cons (.ro (.list 75 (.st (.cons (.int .i64) (.cons .str .nil))))) .nil))))]⟩
def f28con (F : (List TCol) → TRec → Option Bool) : Con := ⟨f28in, f28out, 2, 1, fun x => F x.1 x.2⟩
def f28ctx (k : Nat) : Ctx := ⟨tyAt tys, conAt [(85, [f85con (spec_SchemaOk k)]), (104, [f104con (spec_l13Content k)])], 23, fun _ => false⟩
theorem f28hc (k : Nat) : CtxOk Try.prog (f28ctx k) := ctxOk tys_ok mixed_ok (consOk_cons (f85ok k) (consOk_cons (f104ok k) (consOk_nil)))
theorem f28ok (k : Nat) : FnOk Try.prog 28 (f28con (spec_RecOk k)) :=
  let hc := f28hc k
  fnOk (fn := Try.f28) (code := bodyOf Try.f28) (res := [.tmp 4]) hc (by kernel_rfl) (by kernel_rfl) (by decide) (by kernel_rfl) (by kernel_rfl) (by kernel_rfl) (Nat.le_of_ble_eq_true (by kernel_rfl)) _
    (fun x => Snd.seq (by kernel_rfl) (Snd.seq (by kernel_rfl) (Snd.exec hc _ _ _ _) (Snd.fork hc (id := 1) (by kernel_rfl) ⟨f28d1, fun x => spec_RecOk.d1 k x.1.1 x.2⟩ [[0, 1, 2, 3, 4, 5, 6, 7, 8, 9, 10, 11, 13, 12, 14, 15, 16, 17, 18], [0, 1, 2, 3, 4, 5, 6, 7, 8, 9, 10, 11, 13, 14, 15, 12, 16, 17, 18]] (by kernel_rfl) (ords_cons (fun x => by kernel_rfl) (ords_cons (fun x => by kernel_rfl) (ords_nil))))) (Snd.exec hc _ _ _ _))
    (fun x => by kernel_rfl)

def f183in : SS := ⟨[(0, (.ro (.list 174 (.st (.cons .str (.cons (.int .i64) (.cons (.int .i64) (.cons (.int .i64) .nil)))))))), (1, (.ro (.int .i64)))], []⟩
def f183out : SS := ⟨[(0, (.h 100))], [(100, (.sl 75 (.st (.cons (.int .i64) (.cons .str .nil)))))]⟩
def f183s6 : SS := ⟨[(0, (.ro (.list 174 (.st (.cons .str (.cons (.int .i64) (.cons (.int .i64) (.cons (.int .i64) .nil)))))))), (1, (.ro (.int .i64))), (5, (.h 100)), (6, (.ro (.int .i64))), (7, (.ro (.int .i64)))], [(100, (.sl 75 (.st (.cons (.int .i64) (.cons .str .nil)))))]⟩
def f183con (F : (List TCol) → Int → Option (Unit × (List TVal))) : Con := ⟨f183in, f183out, 2, 1, fun x => F x.1 x.2⟩
def f183ctx (k : Nat) (S183 : (List TCol) → Int → Option (Unit × (List TVal))) : Ctx := ⟨tyAt tys, conAt [(183, [f183con S183]), (189, [f189con (spec_l5After k)])], 49, fun _ => false⟩
theorem f183hc (k : Nat) (S183 : (List TCol) → Int → Option (Unit × (List TVal))) (h183 : FnOk Try.prog 183 (f183con S183)) : CtxOk Try.prog (f183ctx k S183) := ctxOk tys_ok mixed_ok (consOk_cons (h183) (consOk_cons (f189ok k) (consOk_nil)))
theorem f183okb (k : Nat) (S183 : (List TCol) → Int → Option (Unit × (List TVal))) (h183 : FnOk Try.prog 183 (f183con S183)) : FnOk Try.prog 183 (f183con (spec_l13Empty.b k S183)) :=
  let hc := f183hc k S183 h183
  fnOk (fn := Try.f183) (code := bodyOf Try.f183) (res := [.tmp 4]) hc (by kernel_rfl) (by kernel_rfl) (by decide) (by kernel_rfl) (by kernel_rfl) (by kernel_rfl) (Nat.le_of_ble_eq_true (by kernel_rfl)) _
    (fun x => Snd.seq (by kernel_rfl) (Snd.seq (by kernel_rfl) (Snd.seq (by kernel_rfl) (Snd.seq (by kernel_rfl) (Snd.seq (by kernel_rfl) (Snd.exec hc _ _ _ _) (Snd.seq (by kernel_rfl) (Snd.block (id := 0) (by kernel_rfl) (Snd.loop' (by kernel_rfl) f183s6 (fun n x => spec_l13Empty.l6 k S183 n x.1.1 x.1.2.1 x.1.2.2.2.1 x.1.2.2.2.2 x.2) _ (fun _ => rfl) (fun n6 => Snd.exec hc _ _ _ _) (fun n x => by kernel_rfl) k)) (Snd.exec hc _ _ _ _))) (Snd.exec hc _ _ _ _)) (Snd.exec hc _ _ _ _)) (Snd.exec hc _ _ _ _)) (Snd.exec hc _ _ _ _))
    (fun x => by kernel_rfl)
theorem f183rec (k : Nat) : ∀ d, FnOk Try.prog 183 (f183con (spec_l13Empty.d k d))
  | 0 => FnOk_none (fun _ => rfl)
  | d + 1 => let ih := f183rec k d
    f183okb k (spec_l13Empty.d k d) ih
theorem f183ok (k : Nat) : FnOk Try.prog 183 (f183con (spec_l13Empty k)) := (f183rec k k)

def f78in : SS := ⟨[(0, (.ro (.list 174 (.st (.cons .str (.cons (.int .i64) (.cons (.int .i64) (.cons (.int .i64) .nil))))))))], []⟩
def f78out : SS := ⟨[(0, (.agg (.cons (.h 100) .nil))), (1, (.ro .bool))], [(100, (.sl 75 (.st (.cons (.int .i64) (.cons .str .nil)))))]⟩
def f78con (F : (List TCol) → Option (((Unit × Unit) × Bool) × (List TVal))) : Con := ⟨f78in, f78out, 1, 2, fun x => F x⟩
def f78ctx (k : Nat) : Ctx := ⟨tyAt tys, conAt [(85, [f85con (spec_SchemaOk k)]), (183, [f183con (spec_l13Empty k)])], 11, fun _ => false⟩
theorem f78hc (k : Nat) : CtxOk Try.prog (f78ctx k) := ctxOk tys_ok mixed_ok (consOk_cons (f85ok k) (consOk_cons (f183ok k) (consOk_nil)))
theorem f78ok (k : Nat) : FnOk Try.prog 78 (f78con (spec_RecEmpty k)) :=
  let hc := f78hc k
  fnOk (fn := Try.f78) (code := bodyOf Try.f78) (res := [.cell 2 42, .tmp 3]) hc (by kernel_rfl) (by kernel_rfl) (by decide) (by kernel_rfl) (by kernel_rfl) (by kernel_rfl) (Nat.le_of_ble_eq_true (by kernel_rfl)) _
    (fun x => Snd.exec hc _ _ _ _)
    (fun x => by kernel_rfl)

def f197in : SS := ⟨[(0, (.p 0)), (1, (.ro (.list 174 (.st (.cons .str (.cons (.int .i64) (.cons (.int .i64) (.cons (.int .i64) .nil)))))))), (2, (.ro (.int .i64))), (3, (.h 10))], [(0, (.box (.st (.cons (.list 5 (.int .u8)) (.cons (.int .i64) (.cons (.int .i64) .nil)))) (.agg (.cons (.ro (.list 5 (.int .u8))) (.cons (.ro (.int .i64)) (.cons (.ro (.int .i64)) .nil)))))), (10, (.sl 75 (.st (.cons (.int .i64) (.cons .str .nil)))))]⟩
def f197out : SS := ⟨[(0, (.h 100))], [(0, (.box (.st (.cons (.list 5 (.int .u8)) (.cons (.int .i64) (.cons (.int .i64) .nil)))) (.agg (.cons (.ro (.list 5 (.int .u8))) (.cons (.ro (.int .i64)) (.cons (.ro (.int .i64)) .nil)))))), (100, (.sl 75 (.st (.cons (.int .i64) (.cons .str .nil)))))]⟩
def f197s11 : SS := ⟨[(0, (.p 0)), (1, (.ro (.list 174 (.st (.cons .str (.cons (.int .i64) (.cons (.int .i64) (.cons (.int .i64) .nil)))))))), (2, (.ro (.int .i64))), (3, (.h 100)), (9, (.ro (.int .i64))), (10, (.ro (.int .i64)))], [(0, (.box (.st (.cons (.list 5 (.int .u8)) (.cons (.int .i64) (.cons (.int .i64) .nil)))) (.agg (.cons (.ro (.list 5 (.int .u8))) (.cons (.ro (.int .i64)) (.cons (.ro (.int .i64)) .nil)))))), (100, (.sl 75 (.st (.cons (.int .i64) (.cons .str .nil)))))]⟩
def f197s16 : SS := ⟨[(0, (.p 0)), (1, (.ro (.list 174 (.st (.cons .str (.cons (.int .i64) (.cons (.int .i64) (.cons (.int .i64) .nil)))))))), (2, (.ro (.int .i64))), (3, (.h 100)), (9, (.ro (.int .i64))), (10, (.ro (.int .i64))), (11, (.ro (.int .i64))), (12, (.ro (.int .i64)))], [(0, (.box (.st (.cons (.list 5 (.int .u8)) (.cons (.int .i64) (.cons (.int .i64) .nil)))) (.agg (.cons (.ro (.list 5 (.int .u8))) (.cons (.ro (.int .i64)) (.cons (.ro (.int .i64)) .nil)))))), (100, (.sl 75 (.st (.cons (.int .i64) (.cons .str .nil)))))]⟩
def f197s10 : SS := ⟨[(0, (.p 0)), (1, (.ro (.list 174 (.st (.cons .str (.cons (.int .i64) (.cons (.int .i64) (.cons (.int .i64) .nil)))))))), (2, (.ro (.int .i64))), (3, (.h 100)), (9, (.ro (.int .i64))), (10, (.ro (.int .i64)))], [(0, (.box (.st (.cons (.list 5 (.int .u8)) (.cons (.int .i64) (.cons (.int .i64) .nil)))) (.agg (.cons (.ro (.list 5 (.int .u8))) (.cons (.ro (.int .i64)) (.cons (.ro (.int .i64)) .nil)))))), (100, (.sl 75 (.st (.cons (.int .i64) (.cons .str .nil)))))]⟩
def f197s9 : SS := ⟨[(0, (.p 0)), (1, (.ro (.list 174 (.st (.cons .str (.cons (.int .i64) (.cons (.int .i64) (.cons (.int .i64) .nil)))))))), (2, (.ro (.int .i64))), (3, (.h 100)), (9, (.ro (.int .i64)))], [(0, (.box (.st (.cons (.list 5 (.int .u8)) (.cons (.int .i64) (.cons (.int .i64) .nil)))) (.agg (.cons (.ro (.list 5 (.int .u8))) (.cons (.ro (.int .i64)) (.cons (.ro (.int .i64)) .nil)))))), (100, (.sl 75 (.st (.cons (.int .i64) (.cons .str .nil)))))]⟩
def f197s8 : SS := ⟨[(0, (.p 0)), (1, (.ro (.list 174 (.st (.cons .str (.cons (.int .i64) (.cons (.int .i64) (.cons (.int .i64) .nil)))))))), (2, (.ro (.int .i64))), (3, (.h 10)), (9, (.ro (.int .i64)))], [(0, (.box (.st (.cons (.list 5 (.int .u8)) (.cons (.int .i64) (.cons (.int .i64) .nil)))) (.agg (.cons (.ro (.list 5 (.int .u8))) (.cons (.ro (.int .i64)) (.cons (.ro (.int .i64)) .nil)))))), (10, (.sl 75 (.st (.cons (.int .i64) (.cons .str .nil)))))]⟩
def f197con (F : (List TCol) → Int → TL1Cur → (List TVal) → Option (Unit × TL1Cur × (List TVal))) : Con := ⟨f197in, f197out, 4, 1, fun x => F x.1.2.1 x.1.2.2.1 x.2.1 x.2.2⟩
def f197ctx (k : Nat) (S197 : (List TCol) → Int → TL1Cur → (List TVal) → Option (Unit × TL1Cur × (List TVal))) : Ctx := ⟨tyAt tys, conAt [(76, [f76con (spec_l1Below k)]), (116, [f116con (spec_l1Once k)]), (189, [f189con (spec_l5After k)]), (197, [f197con S197]), (230, [f230con (spec_l6DrawRight k)])], 81, fun _ => false⟩
theorem f197hc (k : Nat) (S197 : (List TCol) → Int → TL1Cur → (List TVal) → Option (Unit × TL1Cur × (List TVal))) (h197 : FnOk Try.prog 197 (f197con S197)) : CtxOk Try.prog (f197ctx k S197) := ctxOk tys_ok mixed_ok (consOk_cons (f76ok k) (consOk_cons (f116ok k) (consOk_cons (f189ok k) (consOk_cons (h197) (consOk_cons (f230ok k) (consOk_nil))))))
theorem f197okb (k : Nat) (S197 : (List TCol) → Int → TL1Cur → (List TVal) → Option (Unit × TL1Cur × (List TVal))) (h197 : FnOk Try.prog 197 (f197con S197)) : FnOk Try.prog 197 (f197con (spec_l13DrawPart.b k S197)) :=
  let hc := f197hc k S197 h197
  fnOk (fn := Try.f197) (code := bodyOf Try.f197) (res := [.tmp 8]) hc (by kernel_rfl) (by kernel_rfl) (by decide) (by kernel_rfl) (by kernel_rfl) (by kernel_rfl) (Nat.le_of_ble_eq_true (by kernel_rfl)) _
    (fun x => Snd.seq (by kernel_rfl) (Snd.seq (by kernel_rfl) (Snd.seq (by kernel_rfl) (Snd.cut (Snd.seq (by kernel_rfl) (Snd.exec hc _ _ _ _) (Snd.seq (by kernel_rfl) (Snd.block (id := 0) (by kernel_rfl) (Snd.loop' (by kernel_rfl) f197s10 (fun n x => spec_l13DrawPart.l10 k S197 n x.1.2.1 x.1.2.2.1 x.1.2.2.2.2.1 x.1.2.2.2.2.2 x.2.1 x.2.2) _ (fun _ => rfl) (fun n10 => Snd.seq (by kernel_rfl) (Snd.seq (by kernel_rfl) (Snd.cut (Snd.exec hc _ _ _ _) ⟨f197s11, fun x => spec_l13DrawPart.c11 k (spec_l13DrawPart.l10 k S197 n10) x.1.2.1 x.1.2.2.1 x.1.2.2.2.2.1 x.1.2.2.2.2.2 x.2.1 x.2.2⟩ (fun x => by kernel_rfl)) (Snd.block (id := 1) (by kernel_rfl) (Snd.seq (by kernel_rfl) (Snd.seq (by kernel_rfl) (Snd.seq (by kernel_rfl) (Snd.block (id := 2) (by kernel_rfl) (Snd.loop' (by kernel_rfl) f197s16 (fun n x => spec_l13DrawPart.l16 k S197 (spec_l13DrawPart.l10 k S197 n10) n x.1.2.1 x.1.2.2.1 x.1.2.2.2.2.1 x.1.2.2.2.2.2.1 x.1.2.2.2.2.2.2.1 x.1.2.2.2.2.2.2.2 x.2.1 x.2.2) _ (fun _ => rfl) (fun n16 => Snd.exec hc _ _ _ _) (fun n x => by kernel_rfl) k)) (Snd.exec hc _ _ _ _)) (Snd.exec hc _ _ _ _)) (Snd.exec hc _ _ _ _)))) (Snd.exec hc _ _ _ _)) (fun n x => by kernel_rfl) k)) (Snd.exec hc _ _ _ _))) ⟨f197s9, fun x => spec_l13DrawPart.c9 k S197 x.1.2.1 x.1.2.2.1 x.1.2.2.2.2 x.2.1 x.2.2⟩ (fun x => by kernel_rfl)) (Snd.seq (by kernel_rfl) (Snd.cond (x := .tmp 22) (by kernel_rfl) (Snd.seq (by kernel_rfl) (Snd.seq (by kernel_rfl) (Snd.cut (Snd.exec hc _ _ _ _) ⟨f197s8, fun x => spec_l13DrawPart.c8 k S197 x.1.2.1 x.1.2.2.1 x.1.2.2.2.2 x.2.1 x.2.2⟩ (fun x => by kernel_rfl)) (Snd.exec hc _ _ _ _)) (Snd.exec hc _ _ _ _)) (Snd.exec hc _ _ _ _)) (Snd.exec hc _ _ _ _))) (Snd.exec hc _ _ _ _)) (Snd.exec hc _ _ _ _))
    (fun x => by kernel_rfl)
theorem f197rec (k : Nat) : ∀ d, FnOk Try.prog 197 (f197con (spec_l13DrawPart.d k d))
  | 0 => FnOk_none (fun _ => rfl)
  | d + 1 => let ih := f197rec k d
    f197okb k (spec_l13DrawPart.d k d) ih
theorem f197ok (k : Nat) : FnOk Try.prog 197 (f197con (spec_l13DrawPart k)) := (f197rec k k)

def f96in : SS := ⟨[(0, (.p 0)), (1, (.ro (.list 174 (.st (.cons .str (.cons (.int .i64) (.cons (.int .i64) (.cons (.int .i64) .nil))))))))], [(0, (.box (.st (.cons (.list 5 (.int .u8)) (.cons (.int .i64) (.cons (.int .i64) .nil)))) (.agg (.cons (.ro (.list 5 (.int .u8))) (.cons (.ro (.int .i64)) (.cons (.ro (.int .i64)) .nil))))))]⟩
def f96out : SS := ⟨[(0, (.agg (.cons (.h 100) .nil)))], [(0, (.box (.st (.cons (.list 5 (.int .u8)) (.cons (.int .i64) (.cons (.int .i64) .nil)))) (.agg (.cons (.ro (.list 5 (.int .u8))) (.cons (.ro (.int .i64)) (.cons (.ro (.int .i64)) .nil)))))), (100, (.sl 75 (.st (.cons (.int .i64) (.cons .str .nil)))))]⟩
def f96s4 : SS := ⟨[(4, (.p 100)), (5, (.p 101))], [(0, (.box (.st (.cons (.list 5 (.int .u8)) (.cons (.int .i64) (.cons (.int .i64) .nil)))) (.agg (.cons (.ro (.list 5 (.int .u8))) (.cons (.ro (.int .i64)) (.cons (.ro (.int .i64)) .nil)))))), (100, (.box (.st (.cons (.list 75 (.st (.cons (.int .i64) (.cons .str .nil)))) .nil)) (.agg (.cons (.h 103) .nil)))), (101, (.box (.st (.cons (.list 75 (.st (.cons (.int .i64) (.cons .str .nil)))) .nil)) (.agg (.cons (.h 102) .nil)))), (102, (.sl 75 (.st (.cons (.int .i64) (.cons .str .nil))))), (103, (.sl 75 (.st (.cons (.int .i64) (.cons .str .nil)))))]⟩
def f96con (F : (List TCol) → TL1Cur → Option (((Unit × Unit)) × TL1Cur × (List TVal))) : Con := ⟨f96in, f96out, 2, 1, fun x => F x.1.2 x.2⟩
def f96ctx (k : Nat) : Ctx := ⟨tyAt tys, conAt [(28, [f28con (spec_RecOk k)]), (78, [f78con (spec_RecEmpty k)]), (197, [f197con (spec_l13DrawPart k)])], 21, fun _ => false⟩
theorem f96hc (k : Nat) : CtxOk Try.prog (f96ctx k) := ctxOk tys_ok mixed_ok (consOk_cons (f28ok k) (consOk_cons (f78ok k) (consOk_cons (f197ok k) (consOk_nil))))
theorem f96ok (k : Nat) : FnOk Try.prog 96 (f96con (spec_l13DrawRight k)) :=
  let hc := f96hc k
  fnOk (fn := Try.f96) (code := bodyOf Try.f96) (res := [.cell 4 42]) hc (by kernel_rfl) (by kernel_rfl) (by decide) (by kernel_rfl) (by kernel_rfl) (by kernel_rfl) (Nat.le_of_ble_eq_true (by kernel_rfl)) _
    (fun x => Snd.seq (by kernel_rfl) (Snd.seq (by kernel_rfl) (Snd.seq (by kernel_rfl) (Snd.cut (Snd.exec hc _ _ _ _) ⟨f96s4, fun x => spec_l13DrawRight.c4 k x.2.1 x.2.2.1 x.2.2.2.1 x.2.2.2.2.1 x.2.2.2.2.2⟩ (fun x => by kernel_rfl)) (Snd.exec hc _ _ _ _)) (Snd.exec hc _ _ _ _)) (Snd.exec hc _ _ _ _))
    (fun x => by kernel_rfl)

def f21in : SS := ⟨[(0, (.ro (.list 5 (.int .u8))))], []⟩
def f21out : SS := ⟨[(0, (.ro (.list 174 (.st (.cons .str (.cons (.int .i64) (.cons (.int .i64) (.cons (.int .i64) .nil)))))))), (1, (.h 100)), (2, (.agg (.cons (.h 101) .nil)))], [(100, (.sl 150 (.st (.cons (.int .i64) (.cons (.int .i64) (.cons (.st (.cons (.int .i64) (.cons .str .nil))) (.cons (.int .i64) (.cons (.int .i64) .nil)))))))), (101, (.sl 75 (.st (.cons (.int .i64) (.cons .str .nil)))))]⟩
def f21con (F : (List Int) → Option (((List TCol) × Unit × (Unit × Unit)) × (List TPred) × (List TVal))) : Con := ⟨f21in, f21out, 1, 3, fun x => F x⟩
def f21ctx (k : Nat) : Ctx := ⟨tyAt tys, conAt [(73, [f73con (spec_l1New k)]), (94, [f94con (spec_l20DrawSchema k)]), (95, [f95con (spec_l20DrawPred k)]), (96, [f96con (spec_l13DrawRight k)])], 20, fun _ => false⟩
theorem f21hc (k : Nat) : CtxOk Try.prog (f21ctx k) := ctxOk tys_ok mixed_ok (consOk_cons (f73ok k) (consOk_cons (f94ok k) (consOk_cons (f95ok k) (consOk_cons (f96ok k) (consOk_nil)))))
theorem f21ok (k : Nat) : FnOk Try.prog 21 (f21con (spec_DrawPredHolds k)) :=
  let hc := f21hc k
  fnOk (fn := Try.f21) (code := bodyOf Try.f21) (res := [.tmp 2, .tmp 3, .cell 4 42]) hc (by kernel_rfl) (by kernel_rfl) (by decide) (by kernel_rfl) (by kernel_rfl) (by kernel_rfl) (Nat.le_of_ble_eq_true (by kernel_rfl)) _
    (fun x => Snd.exec hc _ _ _ _)
    (fun x => by kernel_rfl)

def f105in : SS := ⟨[(0, (.ro (.int .i64))), (1, (.ro (.int .i64))), (2, (.ro (.int .i64)))], []⟩
def f105out : SS := ⟨[(0, (.ro .bool))], []⟩
def f105con (F : Int → Int → Int → Option Bool) : Con := ⟨f105in, f105out, 3, 1, fun x => F x.1 x.2.1 x.2.2⟩
def f105ctx (k : Nat) : Ctx := ⟨tyAt tys, conAt [], 15, fun _ => false⟩
theorem f105hc (k : Nat) : CtxOk Try.prog (f105ctx k) := ctxOk tys_ok mixed_ok (consOk_nil)
theorem f105ok (k : Nat) : FnOk Try.prog 105 (f105con (impl_within k)) :=
  let hc := f105hc k
  fnOk (fn := Try.f105) (code := bodyOf Try.f105) (res := [.tmp 6]) hc (by kernel_rfl) (by kernel_rfl) (by decide) (by kernel_rfl) (by kernel_rfl) (by kernel_rfl) (Nat.le_of_ble_eq_true (by kernel_rfl)) _
    (fun x => Snd.exec hc _ _ _ _)
    (fun x => by kernel_rfl)

def f245in : SS := ⟨[(0, (.ro (.int .i64)))], []⟩
def f245out : SS := ⟨[(0, (.ro .bool))], []⟩
def f245con (F : Int → Option Bool) : Con := ⟨f245in, f245out, 1, 1, fun x => F x⟩
def f245ctx (k : Nat) : Ctx := ⟨tyAt tys, conAt [(105, [f105con (impl_within k)])], 13, fun _ => false⟩
theorem f245hc (k : Nat) : CtxOk Try.prog (f245ctx k) := ctxOk tys_ok mixed_ok (consOk_cons (f105ok k) (consOk_nil))
theorem f245ok (k : Nat) : FnOk Try.prog 245 (f245con (impl_TypeOk k)) :=
  let hc := f245hc k
  fnOk (fn := Try.f245) (code := bodyOf Try.f245) (res := [.tmp 2]) hc (by kernel_rfl) (by kernel_rfl) (by decide) (by kernel_rfl) (by kernel_rfl) (by kernel_rfl) (Nat.le_of_ble_eq_true (by kernel_rfl)) _
    (fun x => Snd.exec hc _ _ _ _)
    (fun x => by kernel_rfl)

def f284in : SS := ⟨[(0, (.ro (.st (.cons .str (.cons (.int .i64) (.cons (.int .i64) (.cons (.int .i64) .nil)))))))], []⟩
def f284out : SS := ⟨[(0, (.ro .bool))], []⟩
def f284con (F : TCol → Option Bool) : Con := ⟨f284in, f284out, 1, 1, fun x => F x⟩
def f284ctx (k : Nat) : Ctx := ⟨tyAt tys, conAt [(105, [f105con (impl_within k)]), (245, [f245con (impl_TypeOk k)])], 30, fun _ => false⟩
theorem f284hc (k : Nat) : CtxOk Try.prog (f284ctx k) := ctxOk tys_ok mixed_ok (consOk_cons (f105ok k) (consOk_cons (f245ok k) (consOk_nil)))
theorem f284ok (k : Nat) : FnOk Try.prog 284 (f284con (impl_colOk k)) :=
  let hc := f284hc k
  fnOk (fn := Try.f284) (code := bodyOf Try.f284) (res := [.tmp 2]) hc (by kernel_rfl) (by kernel_rfl) (by decide) (by kernel_rfl) (by kernel_rfl) (by kernel_rfl) (Nat.le_of_ble_eq_true (by kernel_rfl)) _
    (fun x => Snd.exec hc _ _ _ _)
    (fun x => by kernel_rfl)

def f285in : SS := ⟨[(0, (.ro .str))], []⟩
def f285out : SS := ⟨[(0, (.ro .bool))], []⟩
def f285s2 : SS := ⟨[(0, (.ro .str)), (5, (.ro (.int .i64))), (6, (.ro (.int .i64)))], []⟩
def f285con (F : ByteArray → Option Bool) : Con := ⟨f285in, f285out, 1, 1, fun x => F x⟩
def f285ctx (k : Nat) : Ctx := ⟨tyAt tys, conAt [(105, [f105con (impl_within k)])], 19, fun _ => false⟩
theorem f285hc (k : Nat) : CtxOk Try.prog (f285ctx k) := ctxOk tys_ok mixed_ok (consOk_cons (f105ok k) (consOk_nil))
theorem f285ok (k : Nat) : FnOk Try.prog 285 (f285con (impl_isColName k)) :=
  let hc := f285hc k
  fnOk (fn := Try.f285) (code := bodyOf Try.f285) (res := [.tmp 2]) hc (by kernel_rfl) (by kernel_rfl) (by decide) (by kernel_rfl) (by kernel_rfl) (by kernel_rfl) (Nat.le_of_ble_eq_true (by kernel_rfl)) _
    (fun x => Snd.seq (by kernel_rfl) (Snd.seq (by kernel_rfl) (Snd.exec hc _ _ _ _) (Snd.seq (by kernel_rfl) (Snd.block (id := 0) (by kernel_rfl) (Snd.loop' (by kernel_rfl) f285s2 (fun n x => impl_isColName.l2 k n x.1 x.2.1 x.2.2) _ (fun _ => rfl) (fun n2 => Snd.exec hc _ _ _ _) (fun n x => by kernel_rfl) k)) (Snd.exec hc _ _ _ _))) (Snd.exec hc _ _ _ _))
    (fun x => by kernel_rfl)

def f184in : SS := ⟨[(0, (.ro (.list 174 (.st (.cons .str (.cons (.int .i64) (.cons (.int .i64) (.cons (.int .i64) .nil)))))))), (1, (.ro (.int .i64))), (2, (.ro (.int .i64)))], []⟩
def f184out : SS := ⟨[(0, (.ro (.int .i64)))], []⟩
def f184s10 : SS := ⟨[(0, (.ro (.list 174 (.st (.cons .str (.cons (.int .i64) (.cons (.int .i64) (.cons (.int .i64) .nil)))))))), (2, (.ro (.int .i64))), (7, (.ro (.int .i64))), (8, (.h 100)), (47, (.ro (.int .i64))), (48, (.ro (.int .i64))), (54, (.h 100)), (55, (.ro (.int .i64))), (56, (.ro (.int .i64)))], [(100, (.sl 9 .str))]⟩
def f184s6 : SS := ⟨[(0, (.ro (.list 174 (.st (.cons .str (.cons (.int .i64) (.cons (.int .i64) (.cons (.int .i64) .nil)))))))), (2, (.ro (.int .i64))), (7, (.ro (.int .i64))), (8, (.h 100)), (47, (.ro (.int .i64))), (48, (.ro (.int .i64)))], [(100, (.sl 9 .str))]⟩
def f184con (F : (List TCol) → Int → Int → Option Int) : Con := ⟨f184in, f184out, 3, 1, fun x => F x.1 x.2.1 x.2.2⟩
def f184ctx (k : Nat) (S184 : (List TCol) → Int → Int → Option Int) : Ctx := ⟨tyAt tys, conAt [(184, [f184con S184]), (284, [f284con (impl_colOk k)]), (285, [f285con (impl_isColName k)])], 85, fun _ => false⟩
theorem f184hc (k : Nat) (S184 : (List TCol) → Int → Int → Option Int) (h184 : FnOk Try.prog 184 (f184con S184)) : CtxOk Try.prog (f184ctx k S184) := ctxOk tys_ok mixed_ok (consOk_cons (h184) (consOk_cons (f284ok k) (consOk_cons (f285ok k) (consOk_nil))))
theorem f184okb (k : Nat) (S184 : (List TCol) → Int → Int → Option Int) (h184 : FnOk Try.prog 184 (f184con S184)) : FnOk Try.prog 184 (f184con (impl_colAfter.b k S184)) :=
  let hc := f184hc k S184 h184
  fnOk (fn := Try.f184) (code := bodyOf Try.f184) (res := [.tmp 6]) hc (by kernel_rfl) (by kernel_rfl) (by decide) (by kernel_rfl) (by kernel_rfl) (by kernel_rfl) (Nat.le_of_ble_eq_true (by kernel_rfl)) _
    (fun x => Snd.seq (by kernel_rfl) (Snd.seq (by kernel_rfl) (Snd.seq (by kernel_rfl) (Snd.seq (by kernel_rfl) (Snd.seq (by kernel_rfl) (Snd.exec hc _ _ _ _) (Snd.seq (by kernel_rfl) (Snd.block (id := 0) (by kernel_rfl) (Snd.loop' (by kernel_rfl) f184s6 (fun n x => impl_colAfter.l6 k S184 n x.1.1 x.1.2.1 x.1.2.2.1 x.1.2.2.2.2.1 x.1.2.2.2.2.2 x.2) _ (fun _ => rfl) (fun n6 => Snd.seq (by kernel_rfl) (Snd.seq (by kernel_rfl) (Snd.seq (by kernel_rfl) (Snd.exec hc _ _ _ _) (Snd.block (id := 1) (by kernel_rfl) (Snd.seq (by kernel_rfl) (Snd.seq (by kernel_rfl) (Snd.exec hc _ _ _ _) (Snd.seq (by kernel_rfl) (Snd.block (id := 2) (by kernel_rfl) (Snd.loop' (by kernel_rfl) f184s10 (fun n x => impl_colAfter.l10 k S184 (impl_colAfter.l6 k S184 n6) n x.1.1 x.1.2.1 x.1.2.2.1 x.1.2.2.2.2.1 x.1.2.2.2.2.2.1 x.1.2.2.2.2.2.2.2.1 x.1.2.2.2.2.2.2.2.2 x.2) _ (fun _ => rfl) (fun n10 => Snd.exec hc _ _ _ _) (fun n x => by kernel_rfl) k)) (Snd.exec hc _ _ _ _))) (Snd.exec hc _ _ _ _)))) (Snd.exec hc _ _ _ _)) (Snd.exec hc _ _ _ _)) (fun n x => by kernel_rfl) k)) (Snd.exec hc _ _ _ _))) (Snd.exec hc _ _ _ _)) (Snd.exec hc _ _ _ _)) (Snd.exec hc _ _ _ _)) (Snd.exec hc _ _ _ _))
    (fun x => by kernel_rfl)
theorem f184rec (k : Nat) : ∀ d, FnOk Try.prog 184 (f184con (impl_colAfter.d k d))
  | 0 => FnOk_none (fun _ => rfl)
  | d + 1 => let ih := f184rec k d
    f184okb k (impl_colAfter.d k d) ih
theorem f184ok (k : Nat) : FnOk Try.prog 184 (f184con (impl_colAfter k)) := (f184rec k k)

def f79in : SS := ⟨[(0, (.ro (.list 174 (.st (.cons .str (.cons (.int .i64) (.cons (.int .i64) (.cons (.int .i64) .nil))))))))], []⟩
def f79out : SS := ⟨[(0, (.ro .bool))], []⟩
def f79con (F : (List TCol) → Option Bool) : Con := ⟨f79in, f79out, 1, 1, fun x => F x⟩
def f79ctx (k : Nat) : Ctx := ⟨tyAt tys, conAt [(105, [f105con (impl_within k)]), (184, [f184con (impl_colAfter k)])], 33, fun _ => false⟩
theorem f79hc (k : Nat) : CtxOk Try.prog (f79ctx k) := ctxOk tys_ok mixed_ok (consOk_cons (f105ok k) (consOk_cons (f184ok k) (consOk_nil)))
theorem f79ok (k : Nat) : FnOk Try.prog 79 (f79con (impl_SchemaOk k)) :=
  let hc := f79hc k
  fnOk (fn := Try.f79) (code := bodyOf Try.f79) (res := [.tmp 2]) hc (by kernel_rfl) (by kernel_rfl) (by decide) (by kernel_rfl) (by kernel_rfl) (by kernel_rfl) (Nat.le_of_ble_eq_true (by kernel_rfl)) _
    (fun x => Snd.exec hc _ _ _ _)
    (fun x => by kernel_rfl)

def f100in : SS := ⟨[(0, (.ro (.int .i64)))], []⟩
def f100out : SS := ⟨[(0, (.ro .bool))], []⟩
def f100con (F : Int → Option Bool) : Con := ⟨f100in, f100out, 1, 1, fun x => F x⟩
def f100ctx (k : Nat) : Ctx := ⟨tyAt tys, conAt [], 9, fun _ => false⟩
theorem f100hc (k : Nat) : CtxOk Try.prog (f100ctx k) := ctxOk tys_ok mixed_ok (consOk_nil)
theorem f100ok (k : Nat) : FnOk Try.prog 100 (f100con (impl_isPair k)) :=
  let hc := f100hc k
  fnOk (fn := Try.f100) (code := bodyOf Try.f100) (res := [.tmp 2]) hc (by kernel_rfl) (by kernel_rfl) (by decide) (by kernel_rfl) (by kernel_rfl) (by kernel_rfl) (Nat.le_of_ble_eq_true (by kernel_rfl)) _
    (fun x => Snd.exec hc _ _ _ _)
    (fun x => by kernel_rfl)

def f81in : SS := ⟨[(0, (.ro (.list 174 (.st (.cons .str (.cons (.int .i64) (.cons (.int .i64) (.cons (.int .i64) .nil))))))))], []⟩
def f81out : SS := ⟨[(0, (.h 100))], [(100, (.sl 3 (.int .i64)))]⟩
def f81s7 : SS := ⟨[(3, (.h 100)), (7, (.ro (.list 174 (.st (.cons .str (.cons (.int .i64) (.cons (.int .i64) (.cons (.int .i64) .nil)))))))), (8, (.ro (.int .i64))), (9, (.ro (.int .i64)))], [(100, (.sl 3 (.int .i64)))]⟩
def f81s3 : SS := ⟨[(3, (.h 100)), (7, (.ro (.list 174 (.st (.cons .str (.cons (.int .i64) (.cons (.int .i64) (.cons (.int .i64) .nil)))))))), (8, (.ro (.int .i64))), (9, (.ro (.int .i64)))], [(100, (.sl 3 (.int .i64)))]⟩
def f81con (F : (List TCol) → Option (Unit × (List Int))) : Con := ⟨f81in, f81out, 1, 1, fun x => F x⟩
def f81ctx (k : Nat) : Ctx := ⟨tyAt tys, conAt [], 23, fun _ => false⟩
theorem f81hc (k : Nat) : CtxOk Try.prog (f81ctx k) := ctxOk tys_ok mixed_ok (consOk_nil)
theorem f81ok (k : Nat) : FnOk Try.prog 81 (f81con (impl_leavesOf k)) :=
  let hc := f81hc k
  fnOk (fn := Try.f81) (code := bodyOf Try.f81) (res := [.tmp 2]) hc (by kernel_rfl) (by kernel_rfl) (by decide) (by kernel_rfl) (by kernel_rfl) (by kernel_rfl) (Nat.le_of_ble_eq_true (by kernel_rfl)) _
    (fun x => Snd.seq (by kernel_rfl) (Snd.seq (by kernel_rfl) (Snd.seq (by kernel_rfl) (Snd.exec hc _ _ _ _) (Snd.seq (by kernel_rfl) (Snd.block (id := 0) (by kernel_rfl) (Snd.loop' (by kernel_rfl) f81s3 (fun n x => impl_leavesOf.l3 k n x.1.2.1 x.1.2.2.1 x.1.2.2.2 x.2) _ (fun _ => rfl) (fun n3 => Snd.seq (by kernel_rfl) (Snd.seq (by kernel_rfl) (Snd.seq (by kernel_rfl) (Snd.cut (Snd.exec hc _ _ _ _) ⟨f81s7, fun x => impl_leavesOf.c7 k (impl_leavesOf.l3 k n3) x.1.2.1 x.1.2.2.1 x.1.2.2.2 x.2⟩ (fun x => by kernel_rfl)) (Snd.exec hc _ _ _ _)) (Snd.exec hc _ _ _ _)) (Snd.exec hc _ _ _ _)) (fun n x => by kernel_rfl) k)) (Snd.exec hc _ _ _ _))) (Snd.exec hc _ _ _ _)) (Snd.exec hc _ _ _ _))
    (fun x => by kernel_rfl)

def f190in : SS := ⟨[(0, (.ro (.list 174 (.st (.cons .str (.cons (.int .i64) (.cons (.int .i64) (.cons (.int .i64) .nil))))))))], []⟩
def f190out : SS := ⟨[(0, (.h 100))], [(100, (.sl 3 (.int .i64)))]⟩
def f190con (F : (List TCol) → Option (Unit × (List Int))) : Con := ⟨f190in, f190out, 1, 1, fun x => F x⟩
def f190ctx (k : Nat) : Ctx := ⟨tyAt tys, conAt [(79, [f79con (impl_SchemaOk k)]), (81, [f81con (impl_leavesOf k)])], 8, fun _ => false⟩
theorem f190hc (k : Nat) : CtxOk Try.prog (f190ctx k) := ctxOk tys_ok mixed_ok (consOk_cons (f79ok k) (consOk_cons (f81ok k) (consOk_nil)))
theorem f190ok (k : Nat) : FnOk Try.prog 190 (f190con (impl_SchemaLeaves k)) :=
  let hc := f190hc k
  fnOk (fn := Try.f190) (code := bodyOf Try.f190) (res := [.tmp 2]) hc (by kernel_rfl) (by kernel_rfl) (by decide) (by kernel_rfl) (by kernel_rfl) (by kernel_rfl) (Nat.le_of_ble_eq_true (by kernel_rfl)) _
    (fun x => Snd.exec hc _ _ _ _)
    (fun x => by kernel_rfl)

def f290in : SS := ⟨[(0, (.ro (.list 174 (.st (.cons .str (.cons (.int .i64) (.cons (.int .i64) (.cons (.int .i64) .nil)))))))), (1, (.ro (.int .i64)))], []⟩
def f290out : SS := ⟨[(0, (.h 100))], [(100, (.sl 3 (.int .i64)))]⟩
def f290s6 : SS := ⟨[(0, (.ro (.list 174 (.st (.cons .str (.cons (.int .i64) (.cons (.int .i64) (.cons (.int .i64) .nil)))))))), (1, (.ro (.int .i64))), (5, (.h 100)), (6, (.h 101)), (7, (.ro (.int .i64)))], [(100, (.sl 3 (.int .i64))), (101, (.sl 3 (.int .i64)))]⟩
def f290con (F : (List TCol) → Int → Option (Unit × (List Int))) : Con := ⟨f290in, f290out, 2, 1, fun x => F x.1 x.2⟩
def f290ctx (k : Nat) : Ctx := ⟨tyAt tys, conAt [(105, [f105con (impl_within k)]), (184, [f184con (impl_colAfter k)]), (190, [f190con (impl_SchemaLeaves k)])], 41, fun _ => false⟩
theorem f290hc (k : Nat) : CtxOk Try.prog (f290ctx k) := ctxOk tys_ok mixed_ok (consOk_cons (f105ok k) (consOk_cons (f184ok k) (consOk_cons (f190ok k) (consOk_nil))))
theorem f290ok (k : Nat) : FnOk Try.prog 290 (f290con (impl_wayTo k)) :=
  let hc := f290hc k
  fnOk (fn := Try.f290) (code := bodyOf Try.f290) (res := [.tmp 4]) hc (by kernel_rfl) (by kernel_rfl) (by decide) (by kernel_rfl) (by kernel_rfl) (by kernel_rfl) (Nat.le_of_ble_eq_true (by kernel_rfl)) _
    (fun x => Snd.seq (by kernel_rfl) (Snd.seq (by kernel_rfl) (Snd.seq (by kernel_rfl) (Snd.seq (by kernel_rfl) (Snd.seq (by kernel_rfl) (Snd.exec hc _ _ _ _) (Snd.seq (by kernel_rfl) (Snd.block (id := 0) (by kernel_rfl) (Snd.loop' (by kernel_rfl) f290s6 (fun n x => impl_wayTo.l6 k n x.1.1 x.1.2.1 x.1.2.2.2.2 x.2.1 x.2.2) _ (fun _ => rfl) (fun n6 => Snd.exec hc _ _ _ _) (fun n x => by kernel_rfl) k)) (Snd.exec hc _ _ _ _))) (Snd.exec hc _ _ _ _)) (Snd.exec hc _ _ _ _)) (Snd.exec hc _ _ _ _)) (Snd.exec hc _ _ _ _))
    (fun x => by kernel_rfl)

def f191in : SS := ⟨[(0, (.ro (.list 174 (.st (.cons .str (.cons (.int .i64) (.cons (.int .i64) (.cons (.int .i64) .nil)))))))), (1, (.ro (.int .i64)))], []⟩
def f191out : SS := ⟨[(0, (.ro (.int .i64))), (1, (.ro (.int .i64)))], []⟩
def f191s12 : SS := ⟨[(0, (.ro (.list 174 (.st (.cons .str (.cons (.int .i64) (.cons (.int .i64) (.cons (.int .i64) .nil)))))))), (7, (.ro (.int .i64))), (8, (.ro (.int .i64))), (17, (.h 100)), (18, (.ro (.int .i64))), (19, (.ro (.int .i64)))], [(100, (.sl 3 (.int .i64)))]⟩
def f191s10 : SS := ⟨[(0, (.ro (.list 174 (.st (.cons .str (.cons (.int .i64) (.cons (.int .i64) (.cons (.int .i64) .nil)))))))), (7, (.ro (.int .i64))), (8, (.ro (.int .i64))), (10, (.ro (.int .i64))), (17, (.h 100)), (18, (.ro (.int .i64))), (19, (.ro (.int .i64)))], [(100, (.sl 3 (.int .i64)))]⟩
def f191s6 : SS := ⟨[(0, (.ro (.list 174 (.st (.cons .str (.cons (.int .i64) (.cons (.int .i64) (.cons (.int .i64) .nil)))))))), (7, (.ro (.int .i64))), (8, (.ro (.int .i64))), (17, (.h 100)), (18, (.ro (.int .i64))), (19, (.ro (.int .i64)))], [(100, (.sl 3 (.int .i64)))]⟩
def f191con (F : (List TCol) → Int → Option (Int × Int)) : Con := ⟨f191in, f191out, 2, 2, fun x => F x.1 x.2⟩
def f191ctx (k : Nat) : Ctx := ⟨tyAt tys, conAt [(290, [f290con (impl_wayTo k)])], 42, fun _ => false⟩
theorem f191hc (k : Nat) : CtxOk Try.prog (f191ctx k) := ctxOk tys_ok mixed_ok (consOk_cons (f290ok k) (consOk_nil))
theorem f191ok (k : Nat) : FnOk Try.prog 191 (f191con (impl_LeafMax k)) :=
  let hc := f191hc k
  fnOk (fn := Try.f191) (code := bodyOf Try.f191) (res := [.tmp 4, .tmp 5]) hc (by kernel_rfl) (by kernel_rfl) (by decide) (by kernel_rfl) (by kernel_rfl) (by kernel_rfl) (Nat.le_of_ble_eq_true (by kernel_rfl)) _
    (fun x => Snd.seq (by kernel_rfl) (Snd.seq (by kernel_rfl) (Snd.seq (by kernel_rfl) (Snd.seq (by kernel_rfl) (Snd.seq (by kernel_rfl) (Snd.exec hc _ _ _ _) (Snd.seq (by kernel_rfl) (Snd.block (id := 0) (by kernel_rfl) (Snd.loop' (by kernel_rfl) f191s6 (fun n x => impl_LeafMax.l6 k n x.1.1 x.1.2.1 x.1.2.2.1 x.1.2.2.2.2.1 x.1.2.2.2.2.2 x.2) _ (fun _ => rfl) (fun n6 => Snd.seq (by kernel_rfl) (Snd.seq (by kernel_rfl) (Snd.seq (by kernel_rfl) (Snd.cut (Snd.exec hc _ _ _ _) ⟨f191s12, fun x => impl_LeafMax.c12 k (impl_LeafMax.l6 k n6) x.1.1 x.1.2.1 x.1.2.2.1 x.1.2.2.2.2.1 x.1.2.2.2.2.2 x.2⟩ (fun x => by kernel_rfl)) (Snd.block (id := 1) (by kernel_rfl) (Snd.seq (by kernel_rfl) (Snd.seq (by kernel_rfl) (Snd.cut (Snd.exec hc _ _ _ _) ⟨f191s10, fun x => impl_LeafMax.c10 k (impl_LeafMax.l6 k n6) x.1.1 x.1.2.1 x.1.2.2.1 x.1.2.2.2.1 x.1.2.2.2.2.2.1 x.1.2.2.2.2.2.2 x.2⟩ (fun x => by kernel_rfl)) (Snd.exec hc _ _ _ _)) (Snd.exec hc _ _ _ _)))) (Snd.exec hc _ _ _ _)) (Snd.exec hc _ _ _ _)) (fun n x => by kernel_rfl) k)) (Snd.exec hc _ _ _ _))) (Snd.exec hc _ _ _ _)) (Snd.exec hc _ _ _ _)) (Snd.exec hc _ _ _ _)) (Snd.exec hc _ _ _ _))
    (fun x => by kernel_rfl)

def f88in : SS := ⟨[(0, (.ro (.list 174 (.st (.cons .str (.cons (.int .i64) (.cons (.int .i64) (.cons (.int .i64) .nil)))))))), (1, (.ro (.int .i64)))], []⟩
def f88out : SS := ⟨[(0, (.agg (.cons (.ro (.int .i64)) (.cons (.ro (.int .i64)) (.cons (.ro (.int .i64)) .nil))))), (1, (.ro .bool))], []⟩
def f88con (F : (List TCol) → Int → Option (TLeaf × Bool)) : Con := ⟨f88in, f88out, 2, 2, fun x => F x.1 x.2⟩
def f88ctx (k : Nat) : Ctx := ⟨tyAt tys, conAt [(105, [f105con (impl_within k)]), (190, [f190con (impl_SchemaLeaves k)]), (191, [f191con (impl_LeafMax k)])], 35, fun _ => false⟩
theorem f88hc (k : Nat) : CtxOk Try.prog (f88ctx k) := ctxOk tys_ok mixed_ok (consOk_cons (f105ok k) (consOk_cons (f190ok k) (consOk_cons (f191ok k) (consOk_nil))))
theorem f88ok (k : Nat) : FnOk Try.prog 88 (f88con (impl_LeafOf k)) :=
  let hc := f88hc k
  fnOk (fn := Try.f88) (code := bodyOf Try.f88) (res := [.cell 4 71, .tmp 5]) hc (by kernel_rfl) (by kernel_rfl) (by decide) (by kernel_rfl) (by kernel_rfl) (by kernel_rfl) (Nat.le_of_ble_eq_true (by kernel_rfl)) _
    (fun x => Snd.exec hc _ _ _ _)
    (fun x => by kernel_rfl)

def f211in : SS := ⟨[(0, (.ro (.int .i64)))], []⟩
def f211out : SS := ⟨[(0, (.ro .bool))], []⟩
def f211con (F : Int → Option Bool) : Con := ⟨f211in, f211out, 1, 1, fun x => F x⟩
def f211ctx (k : Nat) : Ctx := ⟨tyAt tys, conAt [(105, [f105con (impl_within k)])], 5, fun _ => false⟩
theorem f211hc (k : Nat) : CtxOk Try.prog (f211ctx k) := ctxOk tys_ok mixed_ok (consOk_cons (f105ok k) (consOk_nil))
theorem f211ok (k : Nat) : FnOk Try.prog 211 (f211con (impl_isInt32 k)) :=
  let hc := f211hc k
  fnOk (fn := Try.f211) (code := bodyOf Try.f211) (res := [.tmp 2]) hc (by kernel_rfl) (by kernel_rfl) (by decide) (by kernel_rfl) (by kernel_rfl) (by kernel_rfl) (Nat.le_of_ble_eq_true (by kernel_rfl)) _
    (fun x => Snd.exec hc _ _ _ _)
    (fun x => by kernel_rfl)

def f205in : SS := ⟨[(0, (.ro (.int .i64))), (1, (.ro (.st (.cons (.int .i64) (.cons .str .nil)))))], []⟩
def f205out : SS := ⟨[(0, (.ro .bool))], []⟩
def f205s8 : SS := ⟨[(0, (.ro (.int .i64))), (3, (.p 100)), (26, (.ro .bool))], [(100, (.box (.st (.cons (.int .i64) (.cons .str .nil))) (.agg (.cons (.ro (.int .i64)) (.cons (.ro .str) .nil)))))]⟩
def f205con (F : Int → TVal → Option Bool) : Con := ⟨f205in, f205out, 2, 1, fun x => F x.1 x.2⟩
def f205ctx (k : Nat) : Ctx := ⟨tyAt tys, conAt [(105, [f105con (impl_within k)]), (211, [f211con (impl_isInt32 k)])], 45, fun _ => false⟩
theorem f205hc (k : Nat) : CtxOk Try.prog (f205ctx k) := ctxOk tys_ok mixed_ok (consOk_cons (f105ok k) (consOk_cons (f211ok k) (consOk_nil)))
theorem f205ok (k : Nat) : FnOk Try.prog 205 (f205con (impl_ValOk k)) :=
  let hc := f205hc k
  fnOk (fn := Try.f205) (code := bodyOf Try.f205) (res := [.tmp 4]) hc (by kernel_rfl) (by kernel_rfl) (by decide) (by kernel_rfl) (by kernel_rfl) (by kernel_rfl) (Nat.le_of_ble_eq_true (by kernel_rfl)) _
    (fun x => Snd.seq (by kernel_rfl) (Snd.seq (by kernel_rfl) (Snd.exec hc _ _ _ _) (Snd.seq (by kernel_rfl) (Snd.block (id := 0) (by kernel_rfl) (Snd.seq (by kernel_rfl) (Snd.cond (x := .tmp 6) (by kernel_rfl) (Snd.exec hc _ _ _ _) (Snd.seq (by kernel_rfl) (Snd.cond (x := .tmp 16) (by kernel_rfl) (Snd.exec hc _ _ _ _) (Snd.seq (by kernel_rfl) (Snd.cut (Snd.exec hc _ _ _ _) ⟨f205s8, fun x => impl_ValOk.c8 k x.1.1 x.1.2.2 x.2⟩ (fun x => by kernel_rfl)) (Snd.exec hc _ _ _ _))) (Snd.exec hc _ _ _ _))) (Snd.exec hc _ _ _ _))) (Snd.exec hc _ _ _ _))) (Snd.exec hc _ _ _ _))
    (fun x => by kernel_rfl)

def f106in : SS := ⟨[(0, (.ro (.list 174 (.st (.cons .str (.cons (.int .i64) (.cons (.int .i64) (.cons (.int .i64) .nil)))))))), (1, (.ro (.st (.cons (.int .i64) (.cons (.int .i64) (.cons (.st (.cons (.int .i64) (.cons .str .nil))) (.cons (.int .i64) (.cons (.int .i64) .nil))))))))], []⟩
def f106out : SS := ⟨[(0, (.ro .bool))], []⟩
def f106con (F : (List TCol) → TPred → Option Bool) : Con := ⟨f106in, f106out, 2, 1, fun x => F x.1 x.2⟩
def f106ctx (k : Nat) : Ctx := ⟨tyAt tys, conAt [(88, [f88con (impl_LeafOf k)]), (205, [f205con (impl_ValOk k)])], 43, fun _ => false⟩
theorem f106hc (k : Nat) : CtxOk Try.prog (f106ctx k) := ctxOk tys_ok mixed_ok (consOk_cons (f88ok k) (consOk_cons (f205ok k) (consOk_nil)))
theorem f106ok (k : Nat) : FnOk Try.prog 106 (f106con (impl_plainPred k)) :=
  let hc := f106hc k
  fnOk (fn := Try.f106) (code := bodyOf Try.f106) (res := [.tmp 4]) hc (by kernel_rfl) (by kernel_rfl) (by decide) (by kernel_rfl) (by kernel_rfl) (by kernel_rfl) (Nat.le_of_ble_eq_true (by kernel_rfl)) _
    (fun x => Snd.exec hc _ _ _ _)
    (fun x => by kernel_rfl)

def f29in : SS := ⟨[(0, (.ro (.list 174 (.st (.cons .str (.cons (.int .i64) (.cons (.int .i64) (.cons (.int .i64) .nil)))))))), (1, (.ro (.list 150 (.st (.cons (.int .i64) (.cons (.int .i64) (.cons (.st (.cons (.int .i64) (.cons .str .nil))) (.cons (.int .i64) (.cons (.int .i64) .nil)))))))))], []⟩
def f29out : SS := ⟨[(0, (.ro .bool))], []⟩
def f29s20 : SS := ⟨[(0, (.ro (.list 174 (.st (.cons .str (.cons (.int .i64) (.cons (.int .i64) (.cons (.int .i64) .nil)))))))), (1, (.ro (.list 150 (.st (.cons (.int .i64) (.cons (.int .i64) (.cons (.st (.cons (.int .i64) (.cons .str .nil))) (.cons (.int .i64) (.cons (.int .i64) .nil))))))))), (5, (.h 100)), (20, (.ro (.list 150 (.st (.cons (.int .i64) (.cons (.int .i64) (.cons (.st (.cons (.int .i64) (.cons .str .nil))) (.cons (.int .i64) (.cons (.int .i64) .nil))))))))), (21, (.ro (.int .i64))), (22, (.ro (.int .i64)))], [(100, (.sl 3 (.int .i64)))]⟩
def f29s5 : SS := ⟨[(0, (.ro (.list 174 (.st (.cons .str (.cons (.int .i64) (.cons (.int .i64) (.cons (.int .i64) .nil)))))))), (1, (.ro (.list 150 (.st (.cons (.int .i64) (.cons (.int .i64) (.cons (.st (.cons (.int .i64) (.cons .str .nil))) (.cons (.int .i64) (.cons (.int .i64) .nil))))))))), (5, (.h 100)), (20, (.ro (.list 150 (.st (.cons (.int .i64) (.cons (.int .i64) (.cons (.st (.cons (.int .i64) (.cons .str .nil))) (.cons (.int .i64) (.cons (.int .i64) .nil))))))))), (21, (.ro (.int .i64))), (22, (.ro (.int .i64)))], [(100, (.sl 3 (.int .i64)))]⟩
def f29con (F : (List TCol) → (List TPred) → Option Bool) : Con := ⟨f29in, f29out, 2, 1, fun x => F x.1 x.2⟩
def f29ctx (k : Nat) : Ctx := ⟨tyAt tys, conAt [(79, [f79con (impl_SchemaOk k)]), (100, [f100con (impl_isPair k)]), (105, [f105con (impl_within k)]), (106, [f106con (impl_plainPred k)])], 105, fun _ => false⟩
theorem f29hc (k : Nat) : CtxOk Try.prog (f29ctx k) := ctxOk tys_ok mixed_ok (consOk_cons (f79ok k) (consOk_cons (f100ok k) (consOk_cons (f105ok k) (consOk_cons (f106ok k) (consOk_nil)))))
theorem f29ok (k : Nat) : FnOk Try.prog 29 (f29con (impl_PredOk k)) :=
  let hc := f29hc k
  fnOk (fn := Try.f29) (code := bodyOf Try.f29) (res := [.tmp 4]) hc (by kernel_rfl) (by kernel_rfl) (by decide) (by kernel_rfl) (by kernel_rfl) (by kernel_rfl) (Nat.le_of_ble_eq_true (by kernel_rfl)) _
    (fun x => Snd.seq (by kernel_rfl) (Snd.seq (by kernel_rfl) (Snd.seq (by kernel_rfl) (Snd.seq (by kernel_rfl) (Snd.exec hc _ _ _ _) (Snd.seq (by kernel_rfl) (Snd.block (id := 0) (by kernel_rfl) (Snd.loop' (by kernel_rfl) f29s5 (fun n x => impl_PredOk.l5 k n x.1.1 x.1.2.1 x.1.2.2.2.1 x.1.2.2.2.2.1 x.1.2.2.2.2.2 x.2) _ (fun _ => rfl) (fun n5 => Snd.seq (by kernel_rfl) (Snd.seq (by kernel_rfl) (Snd.seq (by kernel_rfl) (Snd.cut (Snd.exec hc _ _ _ _) ⟨f29s20, fun x => impl_PredOk.c20 k (impl_PredOk.l5 k n5) x.1.1 x.1.2.1 x.1.2.2.2.1 x.1.2.2.2.2.1 x.1.2.2.2.2.2 x.2⟩ (fun x => by kernel_rfl)) (Snd.exec hc _ _ _ _)) (Snd.exec hc _ _ _ _)) (Snd.exec hc _ _ _ _)) (fun n x => by kernel_rfl) k)) (Snd.exec hc _ _ _ _))) (Snd.exec hc _ _ _ _)) (Snd.exec hc _ _ _ _)) (Snd.exec hc _ _ _ _))
    (fun x => by kernel_rfl)

def f198in : SS := ⟨[(0, (.ro (.int .i64))), (1, (.ro (.int .i64))), (2, (.ro (.int .i64))), (3, (.ro (.st (.cons (.int .i64) (.cons .str .nil)))))], []⟩
def f198out : SS := ⟨[], []⟩
def f198con (F : Int → Int → Int → TVal → Option Unit) : Con := ⟨f198in, f198out, 4, 0, fun x => F x.1 x.2.1 x.2.2.1 x.2.2.2⟩
def f198ctx (k : Nat) : Ctx := ⟨tyAt tys, conAt [], 8, fun _ => false⟩
theorem f198hc (k : Nat) : CtxOk Try.prog (f198ctx k) := ctxOk tys_ok mixed_ok (consOk_nil)
theorem f198ok (k : Nat) : FnOk Try.prog 198 (f198con (impl_RecOk_1 k)) :=
  let hc := f198hc k
  fnOk (fn := Try.f198) (code := bodyOf Try.f198) (res := []) hc (by kernel_rfl) (by kernel_rfl) (by decide) (by kernel_rfl) (by kernel_rfl) (by kernel_rfl) (Nat.le_of_ble_eq_true (by kernel_rfl)) _
    (fun x => Snd.exec hc _ _ _ _)
    (fun x => by kernel_rfl)

def f286i5in : SS := ⟨[(0, (.p 0))], [(0, (.box (.st (.cons (.list 174 (.st (.cons .str (.cons (.int .i64) (.cons (.int .i64) (.cons (.int .i64) .nil)))))) (.cons (.list 75 (.st (.cons (.int .i64) (.cons .str .nil)))) (.cons .bool (.cons .ptr (.cons .ptr .nil)))))) (.agg (.cons (.ro (.list 174 (.st (.cons .str (.cons (.int .i64) (.cons (.int .i64) (.cons (.int .i64) .nil))))))) (.cons (.ro (.list 75 (.st (.cons (.int .i64) (.cons .str .nil))))) (.cons (.ro .bool) (.cons (.fn 198 .nil) (.cons (.fn 199 .nil) .nil))))))))]⟩
def f286i5out : SS := ⟨[(0, (.agg (.cons (.ro (.int .i64)) (.cons (.ro .str) .nil))))], [(0, (.box (.st (.cons (.list 174 (.st (.cons .str (.cons (.int .i64) (.cons (.int .i64) (.cons (.int .i64) .nil)))))) (.cons (.list 75 (.st (.cons (.int .i64) (.cons .str .nil)))) (.cons .bool (.cons .ptr (.cons .ptr .nil)))))) (.agg (.cons (.ro (.list 174 (.st (.cons .str (.cons (.int .i64) (.cons (.int .i64) (.cons (.int .i64) .nil))))))) (.cons (.ro (.list 75 (.st (.cons (.int .i64) (.cons .str .nil))))) (.cons (.ro .bool) (.cons (.fn 198 .nil) (.cons (.fn 199 .nil) .nil))))))))]⟩
def f286i5con (F : TWalker → Option ((TVal) × TWalker)) : Con := ⟨f286i5in, f286i5out, 1, 1, fun x => F x.2⟩
def f286i5ctx (k : Nat) : Ctx := ⟨tyAt tys, conAt [], 35, fun _ => false⟩
theorem f286i5hc (k : Nat) : CtxOk Try.prog (f286i5ctx k) := ctxOk tys_ok mixed_ok (consOk_nil)
theorem f286i5ok (k : Nat) : FnOk Try.prog 286 (f286i5con (impl_walker_next_of_RecOk_1_RecOk_2 k)) :=
  let hc := f286i5hc k
  fnOk (fn := Try.f286) (code := bodyOf Try.f286) (res := [.cell 2 75]) hc (by kernel_rfl) (by kernel_rfl) (by decide) (by kernel_rfl) (by kernel_rfl) (by kernel_rfl) (Nat.le_of_ble_eq_true (by kernel_rfl)) _
    (fun x => Snd.exec hc _ _ _ _)
    (fun x => by kernel_rfl)

def f338i9in : SS := ⟨[(0, (.p 0)), (1, (.ro (.int .i64)))], [(0, (.box (.st (.cons (.list 174 (.st (.cons .str (.cons (.int .i64) (.cons (.int .i64) (.cons (.int .i64) .nil)))))) (.cons (.list 75 (.st (.cons (.int .i64) (.cons .str .nil)))) (.cons .bool (.cons .ptr (.cons .ptr .nil)))))) (.agg (.cons (.ro (.list 174 (.st (.cons .str (.cons (.int .i64) (.cons (.int .i64) (.cons (.int .i64) .nil))))))) (.cons (.ro (.list 75 (.st (.cons (.int .i64) (.cons .str .nil))))) (.cons (.ro .bool) (.cons (.fn 198 .nil) (.cons (.fn 199 .nil) .nil))))))))]⟩
def f338i9out : SS := ⟨[(0, (.ro (.int .i64)))], [(0, (.box (.st (.cons (.list 174 (.st (.cons .str (.cons (.int .i64) (.cons (.int .i64) (.cons (.int .i64) .nil)))))) (.cons (.list 75 (.st (.cons (.int .i64) (.cons .str .nil)))) (.cons .bool (.cons .ptr (.cons .ptr .nil)))))) (.agg (.cons (.ro (.list 174 (.st (.cons .str (.cons (.int .i64) (.cons (.int .i64) (.cons (.int .i64) .nil))))))) (.cons (.ro (.list 75 (.st (.cons (.int .i64) (.cons .str .nil))))) (.cons (.ro .bool) (.cons (.fn 198 .nil) (.cons (.fn 199 .nil) .nil))))))))]⟩
def f338i9con (F : Int → TWalker → Option (Int × TWalker)) : Con := ⟨f338i9in, f338i9out, 2, 1, fun x => F x.1.2 x.2⟩
def f338i9ctx (k : Nat) : Ctx := ⟨tyAt tys, conAt [(105, [f105con (impl_within k)]), (286, [f286i5con (impl_walker_next_of_RecOk_1_RecOk_2 k)])], 23, fun _ => false⟩
theorem f338i9hc (k : Nat) : CtxOk Try.prog (f338i9ctx k) := ctxOk tys_ok mixed_ok (consOk_cons (f105ok k) (consOk_cons (f286i5ok k) (consOk_nil)))
theorem f338i9ok (k : Nat) : FnOk Try.prog 338 (f338i9con (impl_walker_count_of_RecOk_1_RecOk_2 k)) :=
  let hc := f338i9hc k
  fnOk (fn := Try.f338) (code := bodyOf Try.f338) (res := [.tmp 4]) hc (by kernel_rfl) (by kernel_rfl) (by decide) (by kernel_rfl) (by kernel_rfl) (by kernel_rfl) (Nat.le_of_ble_eq_true (by kernel_rfl)) _
    (fun x => Snd.exec hc _ _ _ _)
    (fun x => by kernel_rfl)

def f199in : SS := ⟨[(0, (.ro (.int .i64))), (1, (.ro (.int .i64))), (2, (.ro (.int .i64)))], []⟩
def f199out : SS := ⟨[], []⟩
def f199con (F : Int → Int → Int → Option Unit) : Con := ⟨f199in, f199out, 3, 0, fun x => F x.1 x.2.1 x.2.2⟩
def f199ctx (k : Nat) : Ctx := ⟨tyAt tys, conAt [], 6, fun _ => false⟩
theorem f199hc (k : Nat) : CtxOk Try.prog (f199ctx k) := ctxOk tys_ok mixed_ok (consOk_nil)
theorem f199ok (k : Nat) : FnOk Try.prog 199 (f199con (impl_RecOk_2 k)) :=
  let hc := f199hc k
  fnOk (fn := Try.f199) (code := bodyOf Try.f199) (res := []) hc (by kernel_rfl) (by kernel_rfl) (by decide) (by kernel_rfl) (by kernel_rfl) (by kernel_rfl) (Nat.le_of_ble_eq_true (by kernel_rfl)) _
    (fun x => Snd.exec hc _ _ _ _)
    (fun x => by kernel_rfl)

def f339i12in : SS := ⟨[(0, (.p 0)), (1, (.ro (.int .i64))), (2, (.ro (.int .i64))), (3, (.ro (.int .i64)))], [(0, (.box (.st (.cons (.list 174 (.st (.cons .str (.cons (.int .i64) (.cons (.int .i64) (.cons (.int .i64) .nil)))))) (.cons (.list 75 (.st (.cons (.int .i64) (.cons .str .nil)))) (.cons .bool (.cons .ptr (.cons .ptr .nil)))))) (.agg (.cons (.ro (.list 174 (.st (.cons .str (.cons (.int .i64) (.cons (.int .i64) (.cons (.int .i64) .nil))))))) (.cons (.ro (.list 75 (.st (.cons (.int .i64) (.cons .str .nil))))) (.cons (.ro .bool) (.cons (.fn 198 .nil) (.cons (.fn 199 .nil) .nil))))))))]⟩
def f339i12out : SS := ⟨[(0, (.ro (.int .i64)))], [(0, (.box (.st (.cons (.list 174 (.st (.cons .str (.cons (.int .i64) (.cons (.int .i64) (.cons (.int .i64) .nil)))))) (.cons (.list 75 (.st (.cons (.int .i64) (.cons .str .nil)))) (.cons .bool (.cons .ptr (.cons .ptr .nil)))))) (.agg (.cons (.ro (.list 174 (.st (.cons .str (.cons (.int .i64) (.cons (.int .i64) (.cons (.int .i64) .nil))))))) (.cons (.ro (.list 75 (.st (.cons (.int .i64) (.cons .str .nil))))) (.cons (.ro .bool) (.cons (.fn 198 .nil) (.cons (.fn 199 .nil) .nil))))))))]⟩
def f339i12s4 : SS := ⟨[(0, (.p 0)), (2, (.ro (.int .i64))), (3, (.ro (.int .i64))), (9, (.ro (.int .i64))), (10, (.ro (.int .i64)))], [(0, (.box (.st (.cons (.list 174 (.st (.cons .str (.cons (.int .i64) (.cons (.int .i64) (.cons (.int .i64) .nil)))))) (.cons (.list 75 (.st (.cons (.int .i64) (.cons .str .nil)))) (.cons .bool (.cons .ptr (.cons .ptr .nil)))))) (.agg (.cons (.ro (.list 174 (.st (.cons .str (.cons (.int .i64) (.cons (.int .i64) (.cons (.int .i64) .nil))))))) (.cons (.ro (.list 75 (.st (.cons (.int .i64) (.cons .str .nil))))) (.cons (.ro .bool) (.cons (.fn 198 .nil) (.cons (.fn 199 .nil) .nil))))))))]⟩
def f339i12s3 : SS := ⟨[(0, (.p 0)), (2, (.ro (.int .i64))), (3, (.ro (.int .i64))), (9, (.ro (.int .i64))), (10, (.ro (.int .i64)))], [(0, (.box (.st (.cons (.list 174 (.st (.cons .str (.cons (.int .i64) (.cons (.int .i64) (.cons (.int .i64) .nil)))))) (.cons (.list 75 (.st (.cons (.int .i64) (.cons .str .nil)))) (.cons .bool (.cons .ptr (.cons .ptr .nil)))))) (.agg (.cons (.ro (.list 174 (.st (.cons .str (.cons (.int .i64) (.cons (.int .i64) (.cons (.int .i64) .nil))))))) (.cons (.ro (.list 75 (.st (.cons (.int .i64) (.cons .str .nil))))) (.cons (.ro .bool) (.cons (.fn 198 .nil) (.cons (.fn 199 .nil) .nil))))))))]⟩
def f339i12con (F : Int → Int → Int → TWalker → Option (Int × TWalker)) : Con := ⟨f339i12in, f339i12out, 4, 1, fun x => F x.1.2.1 x.1.2.2.1 x.1.2.2.2 x.2⟩
def f339i12ctx (k : Nat) : Ctx := ⟨tyAt tys, conAt [(184, [f184con (impl_colAfter k)]), (199, [f199con (impl_RecOk_2 k)])], 41, fun _ => false⟩
theorem f339i12hc (k : Nat) : CtxOk Try.prog (f339i12ctx k) := ctxOk tys_ok mixed_ok (consOk_cons (f184ok k) (consOk_cons (f199ok k) (consOk_nil)))
theorem f339i12ok (k : Nat) : FnOk Try.prog 339 (f339i12con (impl_walker_missing_of_RecOk_1_RecOk_2 k)) :=
  let hc := f339i12hc k
  fnOk (fn := Try.f339) (code := bodyOf Try.f339) (res := [.tmp 8]) hc (by kernel_rfl) (by kernel_rfl) (by decide) (by kernel_rfl) (by kernel_rfl) (by kernel_rfl) (Nat.le_of_ble_eq_true (by kernel_rfl)) _
    (fun x => Snd.seq (by kernel_rfl) (Snd.seq (by kernel_rfl) (Snd.seq (by kernel_rfl) (Snd.exec hc _ _ _ _) (Snd.seq (by kernel_rfl) (Snd.block (id := 0) (by kernel_rfl) (Snd.loop' (by kernel_rfl) f339i12s3 (fun n x => impl_walker_missing_of_RecOk_1_RecOk_2.l3 k n x.1.2.1 x.1.2.2.1 x.1.2.2.2.1 x.1.2.2.2.2 x.2) _ (fun _ => rfl) (fun n3 => Snd.seq (by kernel_rfl) (Snd.seq (by kernel_rfl) (Snd.cut (Snd.exec hc _ _ _ _) ⟨f339i12s4, fun x => impl_walker_missing_of_RecOk_1_RecOk_2.c4 k (impl_walker_missing_of_RecOk_1_RecOk_2.l3 k n3) x.1.2.1 x.1.2.2.1 x.1.2.2.2.1 x.1.2.2.2.2 x.2⟩ (fun x => by kernel_rfl)) (Snd.exec hc _ _ _ _)) (Snd.exec hc _ _ _ _)) (fun n x => by kernel_rfl) k)) (Snd.exec hc _ _ _ _))) (Snd.exec hc _ _ _ _)) (Snd.exec hc _ _ _ _))
    (fun x => by kernel_rfl)

def f185i3in : SS := ⟨[(0, (.p 0)), (1, (.ro (.int .i64))), (2, (.ro (.int .i64))), (3, (.ro (.int .i64))), (4, (.ro (.int .i64)))], [(0, (.box (.st (.cons (.list 174 (.st (.cons .str (.cons (.int .i64) (.cons (.int .i64) (.cons (.int .i64) .nil)))))) (.cons (.list 75 (.st (.cons (.int .i64) (.cons .str .nil)))) (.cons .bool (.cons .ptr (.cons .ptr .nil)))))) (.agg (.cons (.ro (.list 174 (.st (.cons .str (.cons (.int .i64) (.cons (.int .i64) (.cons (.int .i64) .nil))))))) (.cons (.ro (.list 75 (.st (.cons (.int .i64) (.cons .str .nil))))) (.cons (.ro .bool) (.cons (.fn 198 .nil) (.cons (.fn 199 .nil) .nil))))))))]⟩
def f185i3out : SS := ⟨[(0, (.ro (.int .i64)))], [(0, (.box (.st (.cons (.list 174 (.st (.cons .str (.cons (.int .i64) (.cons (.int .i64) (.cons (.int .i64) .nil)))))) (.cons (.list 75 (.st (.cons (.int .i64) (.cons .str .nil)))) (.cons .bool (.cons .ptr (.cons .ptr .nil)))))) (.agg (.cons (.ro (.list 174 (.st (.cons .str (.cons (.int .i64) (.cons (.int .i64) (.cons (.int .i64) .nil))))))) (.cons (.ro (.list 75 (.st (.cons (.int .i64) (.cons .str .nil))))) (.cons (.ro .bool) (.cons (.fn 198 .nil) (.cons (.fn 199 .nil) .nil))))))))]⟩
def f185i3s14 : SS := ⟨[(12, (.ro (.int .i64)))], [(0, (.box (.st (.cons (.list 174 (.st (.cons .str (.cons (.int .i64) (.cons (.int .i64) (.cons (.int .i64) .nil)))))) (.cons (.list 75 (.st (.cons (.int .i64) (.cons .str .nil)))) (.cons .bool (.cons .ptr (.cons .ptr .nil)))))) (.agg (.cons (.ro (.list 174 (.st (.cons .str (.cons (.int .i64) (.cons (.int .i64) (.cons (.int .i64) .nil))))))) (.cons (.ro (.list 75 (.st (.cons (.int .i64) (.cons .str .nil))))) (.cons (.ro .bool) (.cons (.fn 198 .nil) (.cons (.fn 199 .nil) .nil))))))))]⟩
def f185i3s10 : SS := ⟨[(0, (.p 0)), (2, (.ro (.int .i64))), (3, (.ro (.int .i64))), (4, (.ro (.int .i64))), (12, (.ro (.int .i64))), (70, (.ro (.int .i64))), (71, (.ro (.int .i64)))], [(0, (.box (.st (.cons (.list 174 (.st (.cons .str (.cons (.int .i64) (.cons (.int .i64) (.cons (.int .i64) .nil)))))) (.cons (.list 75 (.st (.cons (.int .i64) (.cons .str .nil)))) (.cons .bool (.cons .ptr (.cons .ptr .nil)))))) (.agg (.cons (.ro (.list 174 (.st (.cons .str (.cons (.int .i64) (.cons (.int .i64) (.cons (.int .i64) .nil))))))) (.cons (.ro (.list 75 (.st (.cons (.int .i64) (.cons .str .nil))))) (.cons (.ro .bool) (.cons (.fn 198 .nil) (.cons (.fn 199 .nil) .nil))))))))]⟩
def f185i3s7 : SS := ⟨[(1, (.ro (.int .i64)))], [(0, (.box (.st (.cons (.list 174 (.st (.cons .str (.cons (.int .i64) (.cons (.int .i64) (.cons (.int .i64) .nil)))))) (.cons (.list 75 (.st (.cons (.int .i64) (.cons .str .nil)))) (.cons .bool (.cons .ptr (.cons .ptr .nil)))))) (.agg (.cons (.ro (.list 174 (.st (.cons .str (.cons (.int .i64) (.cons (.int .i64) (.cons (.int .i64) .nil))))))) (.cons (.ro (.list 75 (.st (.cons (.int .i64) (.cons .str .nil))))) (.cons (.ro .bool) (.cons (.fn 198 .nil) (.cons (.fn 199 .nil) .nil))))))))]⟩
def f185i3s5 : SS := ⟨[(0, (.p 0)), (1, (.ro (.int .i64))), (2, (.ro (.int .i64))), (3, (.ro (.int .i64))), (11, (.p 100))], [(0, (.box (.st (.cons (.list 174 (.st (.cons .str (.cons (.int .i64) (.cons (.int .i64) (.cons (.int .i64) .nil)))))) (.cons (.list 75 (.st (.cons (.int .i64) (.cons .str .nil)))) (.cons .bool (.cons .ptr (.cons .ptr .nil)))))) (.agg (.cons (.ro (.list 174 (.st (.cons .str (.cons (.int .i64) (.cons (.int .i64) (.cons (.int .i64) .nil))))))) (.cons (.ro (.list 75 (.st (.cons (.int .i64) (.cons .str .nil))))) (.cons (.ro .bool) (.cons (.fn 198 .nil) (.cons (.fn 199 .nil) .nil)))))))), (100, (.box (.st (.cons (.int .i64) (.cons .str .nil))) (.agg (.cons (.ro (.int .i64)) (.cons (.ro .str) .nil)))))]⟩
def f185i3d3 : SS := ⟨[(0, (.p 0)), (1, (.ro (.int .i64))), (2, (.ro (.int .i64))), (3, (.ro (.int .i64))), (11, (.p 100))], [(0, (.box (.st (.cons (.list 174 (.st (.cons .str (.cons (.int .i64) (.cons (.int .i64) (.cons (.int .i64) .nil)))))) (.cons (.list 75 (.st (.cons (.int .i64) (.cons .str .nil)))) (.cons .bool (.cons .ptr (.cons .ptr .nil)))))) (.agg (.cons (.ro (.list 174 (.st (.cons .str (.cons (.int .i64) (.cons (.int .i64) (.cons (.int .i64) .nil))))))) (.cons (.ro (.list 75 (.st (.cons (.int .i64) (.cons .str .nil))))) (.cons (.ro .bool) (.cons (.fn 198 .nil) (.cons (.fn 199 .nil) .nil)))))))), (100, (.box (.st (.cons (.int .i64) (.cons .str .nil))) (.agg (.cons (.ro (.int .i64)) (.cons (.ro .str) .nil)))))]⟩
def f185i3con (F : Int → Int → Int → Int → TWalker → Option (Int × TWalker)) : Con := ⟨f185i3in, f185i3out, 5, 1, fun x => F x.1.2.1 x.1.2.2.1 x.1.2.2.2.1 x.1.2.2.2.2 x.2⟩
def f287i6in : SS := ⟨[(0, (.p 0)), (1, (.ro (.int .i64))), (2, (.ro (.int .i64))), (3, (.ro (.int .i64))), (4, (.ro (.int .i64)))], [(0, (.box (.st (.cons (.list 174 (.st (.cons .str (.cons (.int .i64) (.cons (.int .i64) (.cons (.int .i64) .nil)))))) (.cons (.list 75 (.st (.cons (.int .i64) (.cons .str .nil)))) (.cons .bool (.cons .ptr (.cons .ptr .nil)))))) (.agg (.cons (.ro (.list 174 (.st (.cons .str (.cons (.int .i64) (.cons (.int .i64) (.cons (.int .i64) .nil))))))) (.cons (.ro (.list 75 (.st (.cons (.int .i64) (.cons .str .nil))))) (.cons (.ro .bool) (.cons (.fn 198 .nil) (.cons (.fn 199 .nil) .nil))))))))]⟩
def f287i6out : SS := ⟨[(0, (.ro (.int .i64)))], [(0, (.box (.st (.cons (.list 174 (.st (.cons .str (.cons (.int .i64) (.cons (.int .i64) (.cons (.int .i64) .nil)))))) (.cons (.list 75 (.st (.cons (.int .i64) (.cons .str .nil)))) (.cons .bool (.cons .ptr (.cons .ptr .nil)))))) (.agg (.cons (.ro (.list 174 (.st (.cons .str (.cons (.int .i64) (.cons (.int .i64) (.cons (.int .i64) .nil))))))) (.cons (.ro (.list 75 (.st (.cons (.int .i64) (.cons .str .nil))))) (.cons (.ro .bool) (.cons (.fn 198 .nil) (.cons (.fn 199 .nil) .nil))))))))]⟩
def f287i6s18 : SS := ⟨[(0, (.p 0)), (1, (.ro (.int .i64))), (2, (.ro (.int .i64))), (3, (.ro (.int .i64))), (4, (.ro (.int .i64)))], [(0, (.box (.st (.cons (.list 174 (.st (.cons .str (.cons (.int .i64) (.cons (.int .i64) (.cons (.int .i64) .nil)))))) (.cons (.list 75 (.st (.cons (.int .i64) (.cons .str .nil)))) (.cons .bool (.cons .ptr (.cons .ptr .nil)))))) (.agg (.cons (.ro (.list 174 (.st (.cons .str (.cons (.int .i64) (.cons (.int .i64) (.cons (.int .i64) .nil))))))) (.cons (.ro (.list 75 (.st (.cons (.int .i64) (.cons .str .nil))))) (.cons (.ro .bool) (.cons (.fn 198 .nil) (.cons (.fn 199 .nil) .nil))))))))]⟩
def f287i6s14 : SS := ⟨[(0, (.p 0)), (1, (.ro (.int .i64))), (3, (.ro (.int .i64))), (4, (.ro (.int .i64))), (12, (.ro (.int .i64))), (13, (.ro (.int .i64)))], [(0, (.box (.st (.cons (.list 174 (.st (.cons .str (.cons (.int .i64) (.cons (.int .i64) (.cons (.int .i64) .nil)))))) (.cons (.list 75 (.st (.cons (.int .i64) (.cons .str .nil)))) (.cons .bool (.cons .ptr (.cons .ptr .nil)))))) (.agg (.cons (.ro (.list 174 (.st (.cons .str (.cons (.int .i64) (.cons (.int .i64) (.cons (.int .i64) .nil))))))) (.cons (.ro (.list 75 (.st (.cons (.int .i64) (.cons .str .nil))))) (.cons (.ro .bool) (.cons (.fn 198 .nil) (.cons (.fn 199 .nil) .nil))))))))]⟩
def f287i6con (F : Int → Int → Int → Int → TWalker → Option (Int × TWalker)) : Con := ⟨f287i6in, f287i6out, 5, 1, fun x => F x.1.2.1 x.1.2.2.1 x.1.2.2.2.1 x.1.2.2.2.2 x.2⟩
def f185i3ctx (k : Nat) (S185i3 : Int → Int → Int → Int → TWalker → Option (Int × TWalker)) (S287i6 : Int → Int → Int → Int → TWalker → Option (Int × TWalker)) : Ctx := ⟨tyAt tys, conAt [(198, [f198con (impl_RecOk_1 k)]), (205, [f205con (impl_ValOk k)]), (286, [f286i5con (impl_walker_next_of_RecOk_1_RecOk_2 k)]), (287, [f287i6con S287i6])], 85, fun _ => false⟩
theorem f185i3hc (k : Nat) (S185i3 : Int → Int → Int → Int → TWalker → Option (Int × TWalker)) (S287i6 : Int → Int → Int → Int → TWalker → Option (Int × TWalker)) (h185i3 : FnOk Try.prog 185 (f185i3con S185i3)) (h287i6 : FnOk Try.prog 287 (f287i6con S287i6)) : CtxOk Try.prog (f185i3ctx k S185i3 S287i6) := ctxOk tys_ok mixed_ok (consOk_cons (f198ok k) (consOk_cons (f205ok k) (consOk_cons (f286i5ok k) (consOk_cons (h287i6) (consOk_nil)))))
theorem f185i3okb (k : Nat) (S185i3 : Int → Int → Int → Int → TWalker → Option (Int × TWalker)) (S287i6 : Int → Int → Int → Int → TWalker → Option (Int × TWalker)) (h185i3 : FnOk Try.prog 185 (f185i3con S185i3)) (h287i6 : FnOk Try.prog 287 (f287i6con S287i6)) : FnOk Try.prog 185 (f185i3con (impl_walker_body_of_RecOk_1_RecOk_2.b k S185i3 S287i6)) :=
  let hc := f185i3hc k S185i3 S287i6 h185i3 h287i6
  fnOk (fn := Try.f185) (code := bodyOf Try.f185) (res := [.tmp 10]) hc (by kernel_rfl) (by kernel_rfl) (by decide) (by kernel_rfl) (by kernel_rfl) (by kernel_rfl) (Nat.le_of_ble_eq_true (by kernel_rfl)) _
    (fun x => Snd.seq (by kernel_rfl) (Snd.seq (by kernel_rfl) (Snd.seq (by kernel_rfl) (Snd.seq (by kernel_rfl) (Snd.cut (Snd.exec hc _ _ _ _) ⟨f185i3s14, fun x => impl_walker_body_of_RecOk_1_RecOk_2.c14 k x.1 x.2⟩ (fun x => by kernel_rfl)) (Snd.seq (by kernel_rfl) (Snd.block (id := 0) (by kernel_rfl) (Snd.loop' (by kernel_rfl) f185i3s10 (fun n x => impl_walker_body_of_RecOk_1_RecOk_2.l10 k S287i6 n x.1.2.1 x.1.2.2.1 x.1.2.2.2.1 x.1.2.2.2.2.1 x.1.2.2.2.2.2.1 x.1.2.2.2.2.2.2 x.2) _ (fun _ => rfl) (fun n10 => Snd.exec hc _ _ _ _) (fun n x => by kernel_rfl) k)) (Snd.exec hc _ _ _ _))) (Snd.exec hc _ _ _ _)) (Snd.seq (by kernel_rfl) (Snd.cond (x := .tmp 21) (by kernel_rfl) (Snd.seq (by kernel_rfl) (Snd.seq (by kernel_rfl) (Snd.cut (Snd.seq (by kernel_rfl) (Snd.cut (Snd.exec hc _ _ _ _) ⟨f185i3s7, fun x => impl_walker_body_of_RecOk_1_RecOk_2.c7 k x.1 x.2⟩ (fun x => by kernel_rfl)) (Snd.exec hc _ _ _ _)) ⟨f185i3s5, fun x => impl_walker_body_of_RecOk_1_RecOk_2.c5 k x.1.2.1 x.1.2.2.1 x.1.2.2.2.1 x.2.1 x.2.2⟩ (fun x => by kernel_rfl)) (Snd.seq (by kernel_rfl) (Snd.exec hc _ _ _ _) (Snd.fork hc (id := 3) (by kernel_rfl) ⟨f185i3d3, fun x => impl_walker_body_of_RecOk_1_RecOk_2.d3 k x.1.2.1 x.1.2.2.1 x.1.2.2.2.1 x.2.1 x.2.2⟩ [[0, 1, 2, 3, 4, 5, 6, 7, 8, 10, 14, 9, 11, 12, 13, 15, 16, 17]] (by kernel_rfl) (ords_cons (fun x => by kernel_rfl) (ords_nil))))) (Snd.exec hc _ _ _ _)) (Snd.exec hc _ _ _ _)) (Snd.exec hc _ _ _ _))) (Snd.exec hc _ _ _ _))
    (fun x => by kernel_rfl)
def f287i6ctx (k : Nat) (S185i3 : Int → Int → Int → Int → TWalker → Option (Int × TWalker)) (S287i6 : Int → Int → Int → Int → TWalker → Option (Int × TWalker)) : Ctx := ⟨tyAt tys, conAt [(184, [f184con (impl_colAfter k)]), (185, [f185i3con S185i3]), (338, [f338i9con (impl_walker_count_of_RecOk_1_RecOk_2 k)]), (339, [f339i12con (impl_walker_missing_of_RecOk_1_RecOk_2 k)])], 86, fun _ => false⟩
theorem f287i6hc (k : Nat) (S185i3 : Int → Int → Int → Int → TWalker → Option (Int × TWalker)) (S287i6 : Int → Int → Int → Int → TWalker → Option (Int × TWalker)) (h185i3 : FnOk Try.prog 185 (f185i3con S185i3)) (h287i6 : FnOk Try.prog 287 (f287i6con S287i6)) : CtxOk Try.prog (f287i6ctx k S185i3 S287i6) := ctxOk tys_ok mixed_ok (consOk_cons (f184ok k) (consOk_cons (h185i3) (consOk_cons (f338i9ok k) (consOk_cons (f339i12ok k) (consOk_nil)))))
theorem f287i6okb (k : Nat) (S185i3 : Int → Int → Int → Int → TWalker → Option (Int × TWalker)) (S287i6 : Int → Int → Int → Int → TWalker → Option (Int × TWalker)) (h185i3 : FnOk Try.prog 185 (f185i3con S185i3)) (h287i6 : FnOk Try.prog 287 (f287i6con S287i6)) : FnOk Try.prog 287 (f287i6con (impl_walker_col_of_RecOk_1_RecOk_2.b k S185i3 S287i6)) :=
  let hc := f287i6hc k S185i3 S287i6 h185i3 h287i6
  fnOk (fn := Try.f287) (code := bodyOf Try.f287) (res := [.tmp 10]) hc (by kernel_rfl) (by kernel_rfl) (by decide) (by kernel_rfl) (by kernel_rfl) (by kernel_rfl) (Nat.le_of_ble_eq_true (by kernel_rfl)) _
    (fun x => Snd.seq (by kernel_rfl) (Snd.seq (by kernel_rfl) (Snd.cut (Snd.exec hc _ _ _ _) ⟨f287i6s18, fun x => impl_walker_col_of_RecOk_1_RecOk_2.c18 k S185i3 x.1.2.1 x.1.2.2.1 x.1.2.2.2.1 x.1.2.2.2.2 x.2⟩ (fun x => by kernel_rfl)) (Snd.seq (by kernel_rfl) (Snd.block (id := 0) (by kernel_rfl) (Snd.seq (by kernel_rfl) (Snd.cond (x := .tmp 22) (by kernel_rfl) (Snd.exec hc _ _ _ _) (Snd.seq (by kernel_rfl) (Snd.cond (x := .tmp 35) (by kernel_rfl) (Snd.seq (by kernel_rfl) (Snd.seq (by kernel_rfl) (Snd.seq (by kernel_rfl) (Snd.seq (by kernel_rfl) (Snd.seq (by kernel_rfl) (Snd.exec hc _ _ _ _) (Snd.seq (by kernel_rfl) (Snd.block (id := 1) (by kernel_rfl) (Snd.loop' (by kernel_rfl) f287i6s14 (fun n x => impl_walker_col_of_RecOk_1_RecOk_2.l14 k S185i3 n x.1.2.1 x.1.2.2.1 x.1.2.2.2.1 x.1.2.2.2.2.1 x.1.2.2.2.2.2 x.2) _ (fun _ => rfl) (fun n14 => Snd.exec hc _ _ _ _) (fun n x => by kernel_rfl) k)) (Snd.exec hc _ _ _ _))) (Snd.exec hc _ _ _ _)) (Snd.exec hc _ _ _ _)) (Snd.exec hc _ _ _ _)) (Snd.exec hc _ _ _ _)) (Snd.exec hc _ _ _ _)) (Snd.exec hc _ _ _ _))) (Snd.exec hc _ _ _ _))) (Snd.exec hc _ _ _ _))) (Snd.exec hc _ _ _ _))
    (fun x => by kernel_rfl)
theorem f185i3rec (k : Nat) : ∀ d, FnOk Try.prog 185 (f185i3con (impl_walker_body_of_RecOk_1_RecOk_2.d k d)) ∧ FnOk Try.prog 287 (f287i6con (impl_walker_col_of_RecOk_1_RecOk_2.d k d))
  | 0 => ⟨FnOk_none (fun _ => rfl), FnOk_none (fun _ => rfl)⟩
  | d + 1 => let ih := f185i3rec k d
    ⟨f185i3okb k (impl_walker_body_of_RecOk_1_RecOk_2.d k d) (impl_walker_col_of_RecOk_1_RecOk_2.d k d) ih.1 ih.2, f287i6okb k (impl_walker_body_of_RecOk_1_RecOk_2.d k d) (impl_walker_col_of_RecOk_1_RecOk_2.d k d) ih.1 ih.2⟩
theorem f185i3ok (k : Nat) : FnOk Try.prog 185 (f185i3con (impl_walker_body_of_RecOk_1_RecOk_2 k)) := (f185i3rec k k).1
theorem f287i6ok (k : Nat) : FnOk Try.prog 287 (f287i6con (impl_walker_col_of_RecOk_1_RecOk_2 k)) := (f185i3rec k k).2

def f84i1in : SS := ⟨[(0, (.ro (.list 174 (.st (.cons .str (.cons (.int .i64) (.cons (.int .i64) (.cons (.int .i64) .nil)))))))), (1, (.ro (.st (.cons (.list 75 (.st (.cons (.int .i64) (.cons .str .nil)))) .nil)))), (2, (.fn 198 .nil)), (3, (.fn 199 .nil))], []⟩
def f84i1out : SS := ⟨[(0, (.ro .bool))], []⟩
def f84i1con (F : (List TCol) → TRec → Unit → Unit → Option Bool) : Con := ⟨f84i1in, f84i1out, 4, 1, fun x => F x.1 x.2.1 x.2.2.1 x.2.2.2⟩
def f84i1ctx (k : Nat) : Ctx := ⟨tyAt tys, conAt [(185, [f185i3con (impl_walker_body_of_RecOk_1_RecOk_2 k)])], 36, fun _ => false⟩
theorem f84i1hc (k : Nat) : CtxOk Try.prog (f84i1ctx k) := ctxOk tys_ok mixed_ok (consOk_cons (f185i3ok k) (consOk_nil))
theorem f84i1ok (k : Nat) : FnOk Try.prog 84 (f84i1con (impl_walk_of_RecOk_1_RecOk_2 k)) :=
  let hc := f84i1hc k
  fnOk (fn := Try.f84) (code := bodyOf Try.f84) (res := [.tmp 8]) hc (by kernel_rfl) (by kernel_rfl) (by decide) (by kernel_rfl) (by kernel_rfl) (by kernel_rfl) (Nat.le_of_ble_eq_true (by kernel_rfl)) _
    (fun x => Snd.exec hc _ _ _ _)
    (fun x => by kernel_rfl)

def f97in : SS := ⟨[(0, (.ro (.list 174 (.st (.cons .str (.cons (.int .i64) (.cons (.int .i64) (.cons (.int .i64) .nil)))))))), (1, (.ro (.st (.cons (.list 75 (.st (.cons (.int .i64) (.cons .str .nil)))) .nil))))], []⟩
def f97out : SS := ⟨[(0, (.ro .bool))], []⟩
def f97con (F : (List TCol) → TRec → Option Bool) : Con := ⟨f97in, f97out, 2, 1, fun x => F x.1 x.2⟩
def f97ctx (k : Nat) : Ctx := ⟨tyAt tys, conAt [(79, [f79con (impl_SchemaOk k)]), (84, [f84i1con (impl_walk_of_RecOk_1_RecOk_2 k)])], 12, fun _ => false⟩
theorem f97hc (k : Nat) : CtxOk Try.prog (f97ctx k) := ctxOk tys_ok mixed_ok (consOk_cons (f79ok k) (consOk_cons (f84i1ok k) (consOk_nil)))
theorem f97ok (k : Nat) : FnOk Try.prog 97 (f97con (impl_RecOk k)) :=
  let hc := f97hc k
  fnOk (fn := Try.f97) (code := bodyOf Try.f97) (res := [.tmp 4]) hc (by kernel_rfl) (by kernel_rfl) (by decide) (by kernel_rfl) (by kernel_rfl) (by kernel_rfl) (Nat.le_of_ble_eq_true (by kernel_rfl)) _
    (fun x => Snd.exec hc _ _ _ _)
    (fun x => by kernel_rfl)

def f286i7in : SS := ⟨[(0, (.p 0))], [(0, (.box (.st (.cons (.list 174 (.st (.cons .str (.cons (.int .i64) (.cons (.int .i64) (.cons (.int .i64) .nil)))))) (.cons (.list 75 (.st (.cons (.int .i64) (.cons .str .nil)))) (.cons .bool (.cons .ptr (.cons .ptr .nil)))))) (.agg (.cons (.ro (.list 174 (.st (.cons .str (.cons (.int .i64) (.cons (.int .i64) (.cons (.int .i64) .nil))))))) (.cons (.ro (.list 75 (.st (.cons (.int .i64) (.cons .str .nil))))) (.cons (.ro .bool) (.cons (.fn 295 (.cons (.p 10) (.cons (.p 12) (.cons (.p 13) .nil)))) (.cons (.fn 296 .nil) .nil)))))))), (10, (.box (.list 3 (.int .i64)) (.h 11))), (11, (.sl 3 (.int .i64))), (12, (.box (.int .i64) (.ro (.int .i64)))), (13, (.box (.list 75 (.st (.cons (.int .i64) (.cons .str .nil)))) (.h 14))), (14, (.sl 75 (.st (.cons (.int .i64) (.cons .str .nil)))))]⟩
def f286i7out : SS := ⟨[(0, (.agg (.cons (.ro (.int .i64)) (.cons (.ro .str) .nil))))], [(0, (.box (.st (.cons (.list 174 (.st (.cons .str (.cons (.int .i64) (.cons (.int .i64) (.cons (.int .i64) .nil)))))) (.cons (.list 75 (.st (.cons (.int .i64) (.cons .str .nil)))) (.cons .bool (.cons .ptr (.cons .ptr .nil)))))) (.agg (.cons (.ro (.list 174 (.st (.cons .str (.cons (.int .i64) (.cons (.int .i64) (.cons (.int .i64) .nil))))))) (.cons (.ro (.list 75 (.st (.cons (.int .i64) (.cons .str .nil))))) (.cons (.ro .bool) (.cons (.fn 295 (.cons (.p 10) (.cons (.p 12) (.cons (.p 13) .nil)))) (.cons (.fn 296 .nil) .nil)))))))), (10, (.box (.list 3 (.int .i64)) (.h 11))), (11, (.sl 3 (.int .i64))), (12, (.box (.int .i64) (.ro (.int .i64)))), (13, (.box (.list 75 (.st (.cons (.int .i64) (.cons .str .nil)))) (.h 14))), (14, (.sl 75 (.st (.cons (.int .i64) (.cons .str .nil)))))]⟩
def f286i7con (F : TWalkerB → Unit → (List Int) → Int → Unit → (List TVal) → Option ((TVal) × TWalkerB × Unit × (List Int) × Int × Unit × (List TVal))) : Con := ⟨f286i7in, f286i7out, 1, 1, fun x => F x.2.1 x.2.2.1 x.2.2.2.1 x.2.2.2.2.1 x.2.2.2.2.2.1 x.2.2.2.2.2.2⟩
def f286i7ctx (k : Nat) : Ctx := ⟨tyAt tys, conAt [], 35, fun _ => false⟩
theorem f286i7hc (k : Nat) : CtxOk Try.prog (f286i7ctx k) := ctxOk tys_ok mixed_ok (consOk_nil)
theorem f286i7ok (k : Nat) : FnOk Try.prog 286 (f286i7con (impl_walker_next_of_RecValues_1_RecValues_2 k)) :=
  let hc := f286i7hc k
  fnOk (fn := Try.f286) (code := bodyOf Try.f286) (res := [.cell 2 75]) hc (by kernel_rfl) (by kernel_rfl) (by decide) (by kernel_rfl) (by kernel_rfl) (by kernel_rfl) (Nat.le_of_ble_eq_true (by kernel_rfl)) _
    (fun x => Snd.exec hc _ _ _ _)
    (fun x => by kernel_rfl)

def f338i10in : SS := ⟨[(0, (.p 0)), (1, (.ro (.int .i64)))], [(0, (.box (.st (.cons (.list 174 (.st (.cons .str (.cons (.int .i64) (.cons (.int .i64) (.cons (.int .i64) .nil)))))) (.cons (.list 75 (.st (.cons (.int .i64) (.cons .str .nil)))) (.cons .bool (.cons .ptr (.cons .ptr .nil)))))) (.agg (.cons (.ro (.list 174 (.st (.cons .str (.cons (.int .i64) (.cons (.int .i64) (.cons (.int .i64) .nil))))))) (.cons (.ro (.list 75 (.st (.cons (.int .i64) (.cons .str .nil))))) (.cons (.ro .bool) (.cons (.fn 295 (.cons (.p 10) (.cons (.p 12) (.cons (.p 13) .nil)))) (.cons (.fn 296 .nil) .nil)))))))), (10, (.box (.list 3 (.int .i64)) (.h 11))), (11, (.sl 3 (.int .i64))), (12, (.box (.int .i64) (.ro (.int .i64)))), (13, (.box (.list 75 (.st (.cons (.int .i64) (.cons .str .nil)))) (.h 14))), (14, (.sl 75 (.st (.cons (.int .i64) (.cons .str .nil)))))]⟩
def f338i10out : SS := ⟨[(0, (.ro (.int .i64)))], [(0, (.box (.st (.cons (.list 174 (.st (.cons .str (.cons (.int .i64) (.cons (.int .i64) (.cons (.int .i64) .nil)))))) (.cons (.list 75 (.st (.cons (.int .i64) (.cons .str .nil)))) (.cons .bool (.cons .ptr (.cons .ptr .nil)))))) (.agg (.cons (.ro (.list 174 (.st (.cons .str (.cons (.int .i64) (.cons (.int .i64) (.cons (.int .i64) .nil))))))) (.cons (.ro (.list 75 (.st (.cons (.int .i64) (.cons .str .nil))))) (.cons (.ro .bool) (.cons (.fn 295 (.cons (.p 10) (.cons (.p 12) (.cons (.p 13) .nil)))) (.cons (.fn 296 .nil) .nil)))))))), (10, (.box (.list 3 (.int .i64)) (.h 11))), (11, (.sl 3 (.int .i64))), (12, (.box (.int .i64) (.ro (.int .i64)))), (13, (.box (.list 75 (.st (.cons (.int .i64) (.cons .str .nil)))) (.h 14))), (14, (.sl 75 (.st (.cons (.int .i64) (.cons .str .nil)))))]⟩
def f338i10con (F : Int → TWalkerB → Unit → (List Int) → Int → Unit → (List TVal) → Option (Int × TWalkerB × Unit × (List Int) × Int × Unit × (List TVal))) : Con := ⟨f338i10in, f338i10out, 2, 1, fun x => F x.1.2 x.2.1 x.2.2.1 x.2.2.2.1 x.2.2.2.2.1 x.2.2.2.2.2.1 x.2.2.2.2.2.2⟩
def f338i10ctx (k : Nat) : Ctx := ⟨tyAt tys, conAt [(105, [f105con (impl_within k)]), (286, [f286i7con (impl_walker_next_of_RecValues_1_RecValues_2 k)])], 23, fun _ => false⟩
theorem f338i10hc (k : Nat) : CtxOk Try.prog (f338i10ctx k) := ctxOk tys_ok mixed_ok (consOk_cons (f105ok k) (consOk_cons (f286i7ok k) (consOk_nil)))
theorem f338i10ok (k : Nat) : FnOk Try.prog 338 (f338i10con (impl_walker_count_of_RecValues_1_RecValues_2 k)) :=
  let hc := f338i10hc k
  fnOk (fn := Try.f338) (code := bodyOf Try.f338) (res := [.tmp 4]) hc (by kernel_rfl) (by kernel_rfl) (by decide) (by kernel_rfl) (by kernel_rfl) (by kernel_rfl) (Nat.le_of_ble_eq_true (by kernel_rfl)) _
    (fun x => Snd.exec hc _ _ _ _)
    (fun x => by kernel_rfl)

def f296in : SS := ⟨[(0, (.ro (.int .i64))), (1, (.ro (.int .i64))), (2, (.ro (.int .i64)))], []⟩
def f296out : SS := ⟨[], []⟩
def f296con (F : Int → Int → Int → Option Unit) : Con := ⟨f296in, f296out, 3, 0, fun x => F x.1 x.2.1 x.2.2⟩
def f296ctx (k : Nat) : Ctx := ⟨tyAt tys, conAt [], 6, fun _ => false⟩
theorem f296hc (k : Nat) : CtxOk Try.prog (f296ctx k) := ctxOk tys_ok mixed_ok (consOk_nil)
theorem f296ok (k : Nat) : FnOk Try.prog 296 (f296con (impl_RecValues_2 k)) :=
  let hc := f296hc k
  fnOk (fn := Try.f296) (code := bodyOf Try.f296) (res := []) hc (by kernel_rfl) (by kernel_rfl) (by decide) (by kernel_rfl) (by kernel_rfl) (by kernel_rfl) (Nat.le_of_ble_eq_true (by kernel_rfl)) _
    (fun x => Snd.exec hc _ _ _ _)
    (fun x => by kernel_rfl)

def f339i13in : SS := ⟨[(0, (.p 0)), (1, (.ro (.int .i64))), (2, (.ro (.int .i64))), (3, (.ro (.int .i64)))], [(0, (.box (.st (.cons (.list 174 (.st (.cons .str (.cons (.int .i64) (.cons (.int .i64) (.cons (.int .i64) .nil)))))) (.cons (.list 75 (.st (.cons (.int .i64) (.cons .str .nil)))) (.cons .bool (.cons .ptr (.cons .ptr .nil)))))) (.agg (.cons (.ro (.list 174 (.st (.cons .str (.cons (.int .i64) (.cons (.int .i64) (.cons (.int .i64) .nil))))))) (.cons (.ro (.list 75 (.st (.cons (.int .i64) (.cons .str .nil))))) (.cons (.ro .bool) (.cons (.fn 295 (.cons (.p 10) (.cons (.p 12) (.cons (.p 13) .nil)))) (.cons (.fn 296 .nil) .nil)))))))), (10, (.box (.list 3 (.int .i64)) (.h 11))), (11, (.sl 3 (.int .i64))), (12, (.box (.int .i64) (.ro (.int .i64)))), (13, (.box (.list 75 (.st (.cons (.int .i64) (.cons .str .nil)))) (.h 14))), (14, (.sl 75 (.st (.cons (.int .i64) (.cons .str .nil)))))]⟩
def f339i13out : SS := ⟨[(0, (.ro (.int .i64)))], [(0, (.box (.st (.cons (.list 174 (.st (.cons .str (.cons (.int .i64) (.cons (.int .i64) (.cons (.int .i64) .nil)))))) (.cons (.list 75 (.st (.cons (.int .i64) (.cons .str .nil)))) (.cons .bool (.cons .ptr (.cons .ptr .nil)))))) (.agg (.cons (.ro (.list 174 (.st (.cons .str (.cons (.int .i64) (.cons (.int .i64) (.cons (.int .i64) .nil))))))) (.cons (.ro (.list 75 (.st (.cons (.int .i64) (.cons .str .nil))))) (.cons (.ro .bool) (.cons (.fn 295 (.cons (.p 10) (.cons (.p 12) (.cons (.p 13) .nil)))) (.cons (.fn 296 .nil) .nil)))))))), (10, (.box (.list 3 (.int .i64)) (.h 11))), (11, (.sl 3 (.int .i64))), (12, (.box (.int .i64) (.ro (.int .i64)))), (13, (.box (.list 75 (.st (.cons (.int .i64) (.cons .str .nil)))) (.h 14))), (14, (.sl 75 (.st (.cons (.int .i64) (.cons .str .nil)))))]⟩
def f339i13s4 : SS := ⟨[(0, (.p 0)), (2, (.ro (.int .i64))), (3, (.ro (.int .i64))), (9, (.ro (.int .i64))), (10, (.ro (.int .i64)))], [(0, (.box (.st (.cons (.list 174 (.st (.cons .str (.cons (.int .i64) (.cons (.int .i64) (.cons (.int .i64) .nil)))))) (.cons (.list 75 (.st (.cons (.int .i64) (.cons .str .nil)))) (.cons .bool (.cons .ptr (.cons .ptr .nil)))))) (.agg (.cons (.ro (.list 174 (.st (.cons .str (.cons (.int .i64) (.cons (.int .i64) (.cons (.int .i64) .nil))))))) (.cons (.ro (.list 75 (.st (.cons (.int .i64) (.cons .str .nil))))) (.cons (.ro .bool) (.cons (.fn 295 (.cons (.p 10) (.cons (.p 12) (.cons (.p 13) .nil)))) (.cons (.fn 296 .nil) .nil)))))))), (10, (.box (.list 3 (.int .i64)) (.h 11))), (11, (.sl 3 (.int .i64))), (12, (.box (.int .i64) (.ro (.int .i64)))), (13, (.box (.list 75 (.st (.cons (.int .i64) (.cons .str .nil)))) (.h 14))), (14, (.sl 75 (.st (.cons (.int .i64) (.cons .str .nil)))))]⟩
def f339i13s3 : SS := ⟨[(0, (.p 0)), (2, (.ro (.int .i64))), (3, (.ro (.int .i64))), (9, (.ro (.int .i64))), (10, (.ro (.int .i64)))], [(0, (.box (.st (.cons (.list 174 (.st (.cons .str (.cons (.int .i64) (.cons (.int .i64) (.cons (.int .i64) .nil)))))) (.cons (.list 75 (.st (.cons (.int .i64) (.cons .str .nil)))) (.cons .bool (.cons .ptr (.cons .ptr .nil)))))) (.agg (.cons (.ro (.list 174 (.st (.cons .str (.cons (.int .i64) (.cons (.int .i64) (.cons (.int .i64) .nil))))))) (.cons (.ro (.list 75 (.st (.cons (.int .i64) (.cons .str .nil))))) (.cons (.ro .bool) (.cons (.fn 295 (.cons (.p 10) (.cons (.p 12) (.cons (.p 13) .nil)))) (.cons (.fn 296 .nil) .nil)))))))), (10, (.box (.list 3 (.int .i64)) (.h 11))), (11, (.sl 3 (.int .i64))), (12, (.box (.int .i64) (.ro (.int .i64)))), (13, (.box (.list 75 (.st (.cons (.int .i64) (.cons .str .nil)))) (.h 14))), (14, (.sl 75 (.st (.cons (.int .i64) (.cons .str .nil)))))]⟩
def f339i13con (F : Int → Int → Int → TWalkerB → Unit → (List Int) → Int → Unit → (List TVal) → Option (Int × TWalkerB × Unit × (List Int) × Int × Unit × (List TVal))) : Con := ⟨f339i13in, f339i13out, 4, 1, fun x => F x.1.2.1 x.1.2.2.1 x.1.2.2.2 x.2.1 x.2.2.1 x.2.2.2.1 x.2.2.2.2.1 x.2.2.2.2.2.1 x.2.2.2.2.2.2⟩
def f339i13ctx (k : Nat) : Ctx := ⟨tyAt tys, conAt [(184, [f184con (impl_colAfter k)]), (296, [f296con (impl_RecValues_2 k)])], 41, fun _ => false⟩
theorem f339i13hc (k : Nat) : CtxOk Try.prog (f339i13ctx k) := ctxOk tys_ok mixed_ok (consOk_cons (f184ok k) (consOk_cons (f296ok k) (consOk_nil)))
theorem f339i13ok (k : Nat) : FnOk Try.prog 339 (f339i13con (impl_walker_missing_of_RecValues_1_RecValues_2 k)) :=
  let hc := f339i13hc k
  fnOk (fn := Try.f339) (code := bodyOf Try.f339) (res := [.tmp 8]) hc (by kernel_rfl) (by kernel_rfl) (by decide) (by kernel_rfl) (by kernel_rfl) (by kernel_rfl) (Nat.le_of_ble_eq_true (by kernel_rfl)) _
    (fun x => Snd.seq (by kernel_rfl) (Snd.seq (by kernel_rfl) (Snd.seq (by kernel_rfl) (Snd.exec hc _ _ _ _) (Snd.seq (by kernel_rfl) (Snd.block (id := 0) (by kernel_rfl) (Snd.loop' (by kernel_rfl) f339i13s3 (fun n x => impl_walker_missing_of_RecValues_1_RecValues_2.l3 k n x.1.2.1 x.1.2.2.1 x.1.2.2.2.1 x.1.2.2.2.2 x.2.1 x.2.2.1 x.2.2.2.1 x.2.2.2.2.1 x.2.2.2.2.2.1 x.2.2.2.2.2.2) _ (fun _ => rfl) (fun n3 => Snd.seq (by kernel_rfl) (Snd.seq (by kernel_rfl) (Snd.cut (Snd.exec hc _ _ _ _) ⟨f339i13s4, fun x => impl_walker_missing_of_RecValues_1_RecValues_2.c4 k (impl_walker_missing_of_RecValues_1_RecValues_2.l3 k n3) x.1.2.1 x.1.2.2.1 x.1.2.2.2.1 x.1.2.2.2.2 x.2.1 x.2.2.1 x.2.2.2.1 x.2.2.2.2.1 x.2.2.2.2.2.1 x.2.2.2.2.2.2⟩ (fun x => by kernel_rfl)) (Snd.exec hc _ _ _ _)) (Snd.exec hc _ _ _ _)) (fun n x => by kernel_rfl) k)) (Snd.exec hc _ _ _ _))) (Snd.exec hc _ _ _ _)) (Snd.exec hc _ _ _ _))
    (fun x => by kernel_rfl)

def f295i11in : SS := ⟨[(0, (.ro (.int .i64))), (1, (.ro (.int .i64))), (2, (.ro (.int .i64))), (3, (.ro (.st (.cons (.int .i64) (.cons .str .nil))))), (4, (.p 4)), (5, (.p 5)), (6, (.p 6))], [(4, (.box (.list 3 (.int .i64)) (.h 10))), (5, (.box (.int .i64) (.ro (.int .i64)))), (6, (.box (.list 75 (.st (.cons (.int .i64) (.cons .str .nil)))) (.h 11))), (10, (.sl 3 (.int .i64))), (11, (.sl 75 (.st (.cons (.int .i64) (.cons .str .nil)))))]⟩
def f295i11out : SS := ⟨[], [(4, (.box (.list 3 (.int .i64)) (.h 10))), (5, (.box (.int .i64) (.ro (.int .i64)))), (6, (.box (.list 75 (.st (.cons (.int .i64) (.cons .str .nil)))) (.h 100))), (10, (.sl 3 (.int .i64))), (100, (.sl 75 (.st (.cons (.int .i64) (.cons .str .nil)))))]⟩
def f295i11con (F : Int → Int → Int → TVal → Unit → Int → Unit → (List Int) → (List TVal) → Option (Unit × Unit × Int × Unit × (List Int) × (List TVal))) : Con := ⟨f295i11in, f295i11out, 7, 0, fun x => F x.1.1 x.1.2.1 x.1.2.2.1 x.1.2.2.2.1 x.2.1 x.2.2.1 x.2.2.2.1 x.2.2.2.2.1 x.2.2.2.2.2⟩
def f295i11ctx (k : Nat) : Ctx := ⟨tyAt tys, conAt [], 21, fun _ => false⟩
theorem f295i11hc (k : Nat) : CtxOk Try.prog (f295i11ctx k) := ctxOk tys_ok mixed_ok (consOk_nil)
theorem f295i11ok (k : Nat) : FnOk Try.prog 295 (f295i11con (impl_RecValues_1 k)) :=
  let hc := f295i11hc k
  fnOk (fn := Try.f295) (code := bodyOf Try.f295) (res := []) hc (by kernel_rfl) (by kernel_rfl) (by decide) (by kernel_rfl) (by kernel_rfl) (by kernel_rfl) (Nat.le_of_ble_eq_true (by kernel_rfl)) _
    (fun x => Snd.exec hc _ _ _ _)
    (fun x => by kernel_rfl)

def f185i4in : SS := ⟨[(0, (.p 0)), (1, (.ro (.int .i64))), (2, (.ro (.int .i64))), (3, (.ro (.int .i64))), (4, (.ro (.int .i64)))], [(0, (.box (.st (.cons (.list 174 (.st (.cons .str (.cons (.int .i64) (.cons (.int .i64) (.cons (.int .i64) .nil)))))) (.cons (.list 75 (.st (.cons (.int .i64) (.cons .str .nil)))) (.cons .bool (.cons .ptr (.cons .ptr .nil)))))) (.agg (.cons (.ro (.list 174 (.st (.cons .str (.cons (.int .i64) (.cons (.int .i64) (.cons (.int .i64) .nil))))))) (.cons (.ro (.list 75 (.st (.cons (.int .i64) (.cons .str .nil))))) (.cons (.ro .bool) (.cons (.fn 295 (.cons (.p 10) (.cons (.p 12) (.cons (.p 13) .nil)))) (.cons (.fn 296 .nil) .nil)))))))), (10, (.box (.list 3 (.int .i64)) (.h 11))), (11, (.sl 3 (.int .i64))), (12, (.box (.int .i64) (.ro (.int .i64)))), (13, (.box (.list 75 (.st (.cons (.int .i64) (.cons .str .nil)))) (.h 14))), (14, (.sl 75 (.st (.cons (.int .i64) (.cons .str .nil)))))]⟩
def f185i4out : SS := ⟨[(0, (.ro (.int .i64)))], [(0, (.box (.st (.cons (.list 174 (.st (.cons .str (.cons (.int .i64) (.cons (.int .i64) (.cons (.int .i64) .nil)))))) (.cons (.list 75 (.st (.cons (.int .i64) (.cons .str .nil)))) (.cons .bool (.cons .ptr (.cons .ptr .nil)))))) (.agg (.cons (.ro (.list 174 (.st (.cons .str (.cons (.int .i64) (.cons (.int .i64) (.cons (.int .i64) .nil))))))) (.cons (.ro (.list 75 (.st (.cons (.int .i64) (.cons .str .nil))))) (.cons (.ro .bool) (.cons (.fn 295 (.cons (.p 10) (.cons (.p 12) (.cons (.p 13) .nil)))) (.cons (.fn 296 .nil) .nil)))))))), (10, (.box (.list 3 (.int .i64)) (.h 11))), (11, (.sl 3 (.int .i64))), (12, (.box (.int .i64) (.ro (.int .i64)))), (13, (.box (.list 75 (.st (.cons (.int .i64) (.cons .str .nil)))) (.h 100))), (100, (.sl 75 (.st (.cons (.int .i64) (.cons .str .nil)))))]⟩
def f185i4s14 : SS := ⟨[(12, (.ro (.int .i64)))], [(0, (.box (.st (.cons (.list 174 (.st (.cons .str (.cons (.int .i64) (.cons (.int .i64) (.cons (.int .i64) .nil)))))) (.cons (.list 75 (.st (.cons (.int .i64) (.cons .str .nil)))) (.cons .bool (.cons .ptr (.cons .ptr .nil)))))) (.agg (.cons (.ro (.list 174 (.st (.cons .str (.cons (.int .i64) (.cons (.int .i64) (.cons (.int .i64) .nil))))))) (.cons (.ro (.list 75 (.st (.cons (.int .i64) (.cons .str .nil))))) (.cons (.ro .bool) (.cons (.fn 295 (.cons (.p 10) (.cons (.p 12) (.cons (.p 13) .nil)))) (.cons (.fn 296 .nil) .nil)))))))), (10, (.box (.list 3 (.int .i64)) (.h 11))), (11, (.sl 3 (.int .i64))), (12, (.box (.int .i64) (.ro (.int .i64)))), (13, (.box (.list 75 (.st (.cons (.int .i64) (.cons .str .nil)))) (.h 100))), (100, (.sl 75 (.st (.cons (.int .i64) (.cons .str .nil)))))]⟩
def f185i4s10 : SS := ⟨[(0, (.p 0)), (2, (.ro (.int .i64))), (3, (.ro (.int .i64))), (4, (.ro (.int .i64))), (12, (.ro (.int .i64))), (70, (.ro (.int .i64))), (71, (.ro (.int .i64)))], [(0, (.box (.st (.cons (.list 174 (.st (.cons .str (.cons (.int .i64) (.cons (.int .i64) (.cons (.int .i64) .nil)))))) (.cons (.list 75 (.st (.cons (.int .i64) (.cons .str .nil)))) (.cons .bool (.cons .ptr (.cons .ptr .nil)))))) (.agg (.cons (.ro (.list 174 (.st (.cons .str (.cons (.int .i64) (.cons (.int .i64) (.cons (.int .i64) .nil))))))) (.cons (.ro (.list 75 (.st (.cons (.int .i64) (.cons .str .nil))))) (.cons (.ro .bool) (.cons (.fn 295 (.cons (.p 10) (.cons (.p 12) (.cons (.p 13) .nil)))) (.cons (.fn 296 .nil) .nil)))))))), (10, (.box (.list 3 (.int .i64)) (.h 11))), (11, (.sl 3 (.int .i64))), (12, (.box (.int .i64) (.ro (.int .i64)))), (13, (.box (.list 75 (.st (.cons (.int .i64) (.cons .str .nil)))) (.h 100))), (100, (.sl 75 (.st (.cons (.int .i64) (.cons .str .nil)))))]⟩
def f185i4s7 : SS := ⟨[(1, (.ro (.int .i64)))], [(0, (.box (.st (.cons (.list 174 (.st (.cons .str (.cons (.int .i64) (.cons (.int .i64) (.cons (.int .i64) .nil)))))) (.cons (.list 75 (.st (.cons (.int .i64) (.cons .str .nil)))) (.cons .bool (.cons .ptr (.cons .ptr .nil)))))) (.agg (.cons (.ro (.list 174 (.st (.cons .str (.cons (.int .i64) (.cons (.int .i64) (.cons (.int .i64) .nil))))))) (.cons (.ro (.list 75 (.st (.cons (.int .i64) (.cons .str .nil))))) (.cons (.ro .bool) (.cons (.fn 295 (.cons (.p 10) (.cons (.p 12) (.cons (.p 13) .nil)))) (.cons (.fn 296 .nil) .nil)))))))), (10, (.box (.list 3 (.int .i64)) (.h 11))), (11, (.sl 3 (.int .i64))), (12, (.box (.int .i64) (.ro (.int .i64)))), (13, (.box (.list 75 (.st (.cons (.int .i64) (.cons .str .nil)))) (.h 100))), (100, (.sl 75 (.st (.cons (.int .i64) (.cons .str .nil)))))]⟩
def f185i4s5 : SS := ⟨[(0, (.p 0)), (1, (.ro (.int .i64))), (2, (.ro (.int .i64))), (3, (.ro (.int .i64))), (11, (.p 100))], [(0, (.box (.st (.cons (.list 174 (.st (.cons .str (.cons (.int .i64) (.cons (.int .i64) (.cons (.int .i64) .nil)))))) (.cons (.list 75 (.st (.cons (.int .i64) (.cons .str .nil)))) (.cons .bool (.cons .ptr (.cons .ptr .nil)))))) (.agg (.cons (.ro (.list 174 (.st (.cons .str (.cons (.int .i64) (.cons (.int .i64) (.cons (.int .i64) .nil))))))) (.cons (.ro (.list 75 (.st (.cons (.int .i64) (.cons .str .nil))))) (.cons (.ro .bool) (.cons (.fn 295 (.cons (.p 10) (.cons (.p 12) (.cons (.p 13) .nil)))) (.cons (.fn 296 .nil) .nil)))))))), (10, (.box (.list 3 (.int .i64)) (.h 11))), (11, (.sl 3 (.int .i64))), (12, (.box (.int .i64) (.ro (.int .i64)))), (13, (.box (.list 75 (.st (.cons (.int .i64) (.cons .str .nil)))) (.h 14))), (14, (.sl 75 (.st (.cons (.int .i64) (.cons .str .nil))))), (100, (.box (.st (.cons (.int .i64) (.cons .str .nil))) (.agg (.cons (.ro (.int .i64)) (.cons (.ro .str) .nil)))))]⟩
def f185i4d3 : SS := ⟨[(0, (.p 0)), (1, (.ro (.int .i64))), (2, (.ro (.int .i64))), (3, (.ro (.int .i64))), (11, (.p 100))], [(0, (.box (.st (.cons (.list 174 (.st (.cons .str (.cons (.int .i64) (.cons (.int .i64) (.cons (.int .i64) .nil)))))) (.cons (.list 75 (.st (.cons (.int .i64) (.cons .str .nil)))) (.cons .bool (.cons .ptr (.cons .ptr .nil)))))) (.agg (.cons (.ro (.list 174 (.st (.cons .str (.cons (.int .i64) (.cons (.int .i64) (.cons (.int .i64) .nil))))))) (.cons (.ro (.list 75 (.st (.cons (.int .i64) (.cons .str .nil))))) (.cons (.ro .bool) (.cons (.fn 295 (.cons (.p 10) (.cons (.p 12) (.cons (.p 13) .nil)))) (.cons (.fn 296 .nil) .nil)))))))), (10, (.box (.list 3 (.int .i64)) (.h 11))), (11, (.sl 3 (.int .i64))), (12, (.box (.int .i64) (.ro (.int .i64)))), (13, (.box (.list 75 (.st (.cons (.int .i64) (.cons .str .nil)))) (.h 14))), (14, (.sl 75 (.st (.cons (.int .i64) (.cons .str .nil))))), (100, (.box (.st (.cons (.int .i64) (.cons .str .nil))) (.agg (.cons (.ro (.int .i64)) (.cons (.ro .str) .nil)))))]⟩
def f185i4con (F : Int → Int → Int → Int → TWalkerB → Unit → (List Int) → Int → Unit → (List TVal) → Option (Int × TWalkerB × Unit × (List Int) × Int × Unit × (List TVal))) : Con := ⟨f185i4in, f185i4out, 5, 1, fun x => F x.1.2.1 x.1.2.2.1 x.1.2.2.2.1 x.1.2.2.2.2 x.2.1 x.2.2.1 x.2.2.2.1 x.2.2.2.2.1 x.2.2.2.2.2.1 x.2.2.2.2.2.2⟩
def f287i8in : SS := ⟨[(0, (.p 0)), (1, (.ro (.int .i64))), (2, (.ro (.int .i64))), (3, (.ro (.int .i64))), (4, (.ro (.int .i64)))], [(0, (.box (.st (.cons (.list 174 (.st (.cons .str (.cons (.int .i64) (.cons (.int .i64) (.cons (.int .i64) .nil)))))) (.cons (.list 75 (.st (.cons (.int .i64) (.cons .str .nil)))) (.cons .bool (.cons .ptr (.cons .ptr .nil)))))) (.agg (.cons (.ro (.list 174 (.st (.cons .str (.cons (.int .i64) (.cons (.int .i64) (.cons (.int .i64) .nil))))))) (.cons (.ro (.list 75 (.st (.cons (.int .i64) (.cons .str .nil))))) (.cons (.ro .bool) (.cons (.fn 295 (.cons (.p 10) (.cons (.p 12) (.cons (.p 13) .nil)))) (.cons (.fn 296 .nil) .nil)))))))), (10, (.box (.list 3 (.int .i64)) (.h 11))), (11, (.sl 3 (.int .i64))), (12, (.box (.int .i64) (.ro (.int .i64)))), (13, (.box (.list 75 (.st (.cons (.int .i64) (.cons .str .nil)))) (.h 14))), (14, (.sl 75 (.st (.cons (.int .i64) (.cons .str .nil)))))]⟩
def f287i8out : SS := ⟨[(0, (.ro (.int .i64)))], [(0, (.box (.st (.cons (.list 174 (.st (.cons .str (.cons (.int .i64) (.cons (.int .i64) (.cons (.int .i64) .nil)))))) (.cons (.list 75 (.st (.cons (.int .i64) (.cons .str .nil)))) (.cons .bool (.cons .ptr (.cons .ptr .nil)))))) (.agg (.cons (.ro (.list 174 (.st (.cons .str (.cons (.int .i64) (.cons (.int .i64) (.cons (.int .i64) .nil))))))) (.cons (.ro (.list 75 (.st (.cons (.int .i64) (.cons .str .nil))))) (.cons (.ro .bool) (.cons (.fn 295 (.cons (.p 10) (.cons (.p 12) (.cons (.p 13) .nil)))) (.cons (.fn 296 .nil) .nil)))))))), (10, (.box (.list 3 (.int .i64)) (.h 11))), (11, (.sl 3 (.int .i64))), (12, (.box (.int .i64) (.ro (.int .i64)))), (13, (.box (.list 75 (.st (.cons (.int .i64) (.cons .str .nil)))) (.h 100))), (100, (.sl 75 (.st (.cons (.int .i64) (.cons .str .nil)))))]⟩
def f287i8s18 : SS := ⟨[(0, (.p 0)), (1, (.ro (.int .i64))), (2, (.ro (.int .i64))), (3, (.ro (.int .i64))), (4, (.ro (.int .i64)))], [(0, (.box (.st (.cons (.list 174 (.st (.cons .str (.cons (.int .i64) (.cons (.int .i64) (.cons (.int .i64) .nil)))))) (.cons (.list 75 (.st (.cons (.int .i64) (.cons .str .nil)))) (.cons .bool (.cons .ptr (.cons .ptr .nil)))))) (.agg (.cons (.ro (.list 174 (.st (.cons .str (.cons (.int .i64) (.cons (.int .i64) (.cons (.int .i64) .nil))))))) (.cons (.ro (.list 75 (.st (.cons (.int .i64) (.cons .str .nil))))) (.cons (.ro .bool) (.cons (.fn 295 (.cons (.p 10) (.cons (.p 12) (.cons (.p 13) .nil)))) (.cons (.fn 296 .nil) .nil)))))))), (10, (.box (.list 3 (.int .i64)) (.h 11))), (11, (.sl 3 (.int .i64))), (12, (.box (.int .i64) (.ro (.int .i64)))), (13, (.box (.list 75 (.st (.cons (.int .i64) (.cons .str .nil)))) (.h 14))), (14, (.sl 75 (.st (.cons (.int .i64) (.cons .str .nil)))))]⟩
def f287i8s14 : SS := ⟨[(0, (.p 0)), (1, (.ro (.int .i64))), (3, (.ro (.int .i64))), (4, (.ro (.int .i64))), (12, (.ro (.int .i64))), (13, (.ro (.int .i64)))], [(0, (.box (.st (.cons (.list 174 (.st (.cons .str (.cons (.int .i64) (.cons (.int .i64) (.cons (.int .i64) .nil)))))) (.cons (.list 75 (.st (.cons (.int .i64) (.cons .str .nil)))) (.cons .bool (.cons .ptr (.cons .ptr .nil)))))) (.agg (.cons (.ro (.list 174 (.st (.cons .str (.cons (.int .i64) (.cons (.int .i64) (.cons (.int .i64) .nil))))))) (.cons (.ro (.list 75 (.st (.cons (.int .i64) (.cons .str .nil))))) (.cons (.ro .bool) (.cons (.fn 295 (.cons (.p 10) (.cons (.p 12) (.cons (.p 13) .nil)))) (.cons (.fn 296 .nil) .nil)))))))), (10, (.box (.list 3 (.int .i64)) (.h 11))), (11, (.sl 3 (.int .i64))), (12, (.box (.int .i64) (.ro (.int .i64)))), (13, (.box (.list 75 (.st (.cons (.int .i64) (.cons .str .nil)))) (.h 100))), (100, (.sl 75 (.st (.cons (.int .i64) (.cons .str .nil)))))]⟩
def f287i8con (F : Int → Int → Int → Int → TWalkerB → Unit → (List Int) → Int → Unit → (List TVal) → Option (Int × TWalkerB × Unit × (List Int) × Int × Unit × (List TVal))) : Con := ⟨f287i8in, f287i8out, 5, 1, fun x => F x.1.2.1 x.1.2.2.1 x.1.2.2.2.1 x.1.2.2.2.2 x.2.1 x.2.2.1 x.2.2.2.1 x.2.2.2.2.1 x.2.2.2.2.2.1 x.2.2.2.2.2.2⟩
def f185i4ctx (k : Nat) (S185i4 : Int → Int → Int → Int → TWalkerB → Unit → (List Int) → Int → Unit → (List TVal) → Option (Int × TWalkerB × Unit × (List Int) × Int × Unit × (List TVal))) (S287i8 : Int → Int → Int → Int → TWalkerB → Unit → (List Int) → Int → Unit → (List TVal) → Option (Int × TWalkerB × Unit × (List Int) × Int × Unit × (List TVal))) : Ctx := ⟨tyAt tys, conAt [(205, [f205con (impl_ValOk k)]), (286, [f286i7con (impl_walker_next_of_RecValues_1_RecValues_2 k)]), (287, [f287i8con S287i8]), (295, [f295i11con (impl_RecValues_1 k)])], 85, fun _ => false⟩
theorem f185i4hc (k : Nat) (S185i4 : Int → Int → Int → Int → TWalkerB → Unit → (List Int) → Int → Unit → (List TVal) → Option (Int × TWalkerB × Unit × (List Int) × Int × Unit × (List TVal))) (S287i8 : Int → Int → Int → Int → TWalkerB → Unit → (List Int) → Int → Unit → (List TVal) → Option (Int × TWalkerB × Unit × (List Int) × Int × Unit × (List TVal))) (h185i4 : FnOk Try.prog 185 (f185i4con S185i4)) (h287i8 : FnOk Try.prog 287 (f287i8con S287i8)) : CtxOk Try.prog (f185i4ctx k S185i4 S287i8) := ctxOk tys_ok mixed_ok (consOk_cons (f205ok k) (consOk_cons (f286i7ok k) (consOk_cons (h287i8) (consOk_cons (f295i11ok k) (consOk_nil)))))
theorem f185i4okb (k : Nat) (S185i4 : Int → Int → Int → Int → TWalkerB → Unit → (List Int) → Int → Unit → (List TVal) → Option (Int × TWalkerB × Unit × (List Int) × Int × Unit × (List TVal))) (S287i8 : Int → Int → Int → Int → TWalkerB → Unit → (List Int) → Int → Unit → (List TVal) → Option (Int × TWalkerB × Unit × (List Int) × Int × Unit × (List TVal))) (h185i4 : FnOk Try.prog 185 (f185i4con S185i4)) (h287i8 : FnOk Try.prog 287 (f287i8con S287i8)) : FnOk Try.prog 185 (f185i4con (impl_walker_body_of_RecValues_1_RecValues_2.b k S185i4 S287i8)) :=
  let hc := f185i4hc k S185i4 S287i8 h185i4 h287i8
  fnOk (fn := Try.f185) (code := bodyOf Try.f185) (res := [.tmp 10]) hc (by kernel_rfl) (by kernel_rfl) (by decide) (by kernel_rfl) (by kernel_rfl) (by kernel_rfl) (Nat.le_of_ble_eq_true (by kernel_rfl)) _
    (fun x => Snd.seq (by kernel_rfl) (Snd.seq (by kernel_rfl) (Snd.seq (by kernel_rfl) (Snd.seq (by kernel_rfl) (Snd.cut (Snd.exec hc _ _ _ _) ⟨f185i4s14, fun x => impl_walker_body_of_RecValues_1_RecValues_2.c14 k x.1 x.2.1 x.2.2.1 x.2.2.2.1 x.2.2.2.2.1 x.2.2.2.2.2.1 x.2.2.2.2.2.2⟩ (fun x => by kernel_rfl)) (Snd.seq (by kernel_rfl) (Snd.block (id := 0) (by kernel_rfl) (Snd.loop' (by kernel_rfl) f185i4s10 (fun n x => impl_walker_body_of_RecValues_1_RecValues_2.l10 k S287i8 n x.1.2.1 x.1.2.2.1 x.1.2.2.2.1 x.1.2.2.2.2.1 x.1.2.2.2.2.2.1 x.1.2.2.2.2.2.2 x.2.1 x.2.2.1 x.2.2.2.1 x.2.2.2.2.1 x.2.2.2.2.2.1 x.2.2.2.2.2.2) _ (fun _ => rfl) (fun n10 => Snd.exec hc _ _ _ _) (fun n x => by kernel_rfl) k)) (Snd.exec hc _ _ _ _))) (Snd.exec hc _ _ _ _)) (Snd.seq (by kernel_rfl) (Snd.cond (x := .tmp 21) (by kernel_rfl) (Snd.seq (by kernel_rfl) (Snd.seq (by kernel_rfl) (Snd.cut (Snd.seq (by kernel_rfl) (Snd.cut (Snd.exec hc _ _ _ _) ⟨f185i4s7, fun x => impl_walker_body_of_RecValues_1_RecValues_2.c7 k x.1 x.2.1 x.2.2.1 x.2.2.2.1 x.2.2.2.2.1 x.2.2.2.2.2.1 x.2.2.2.2.2.2⟩ (fun x => by kernel_rfl)) (Snd.exec hc _ _ _ _)) ⟨f185i4s5, fun x => impl_walker_body_of_RecValues_1_RecValues_2.c5 k x.1.2.1 x.1.2.2.1 x.1.2.2.2.1 x.2.1 x.2.2.1 x.2.2.2.1 x.2.2.2.2.1 x.2.2.2.2.2.1 x.2.2.2.2.2.2.1 x.2.2.2.2.2.2.2⟩ (fun x => by kernel_rfl)) (Snd.seq (by kernel_rfl) (Snd.exec hc _ _ _ _) (Snd.fork hc (id := 3) (by kernel_rfl) ⟨f185i4d3, fun x => impl_walker_body_of_RecValues_1_RecValues_2.d3 k x.1.2.1 x.1.2.2.1 x.1.2.2.2.1 x.2.1 x.2.2.1 x.2.2.2.1 x.2.2.2.2.1 x.2.2.2.2.2.1 x.2.2.2.2.2.2.1 x.2.2.2.2.2.2.2⟩ [[0, 1, 2, 3, 4, 5, 6, 7, 8, 10, 14, 9, 11, 12, 13, 15, 16, 17]] (by kernel_rfl) (ords_cons (fun x => by kernel_rfl) (ords_nil))))) (Snd.exec hc _ _ _ _)) (Snd.exec hc _ _ _ _)) (Snd.exec hc _ _ _ _))) (Snd.exec hc _ _ _ _))
    (fun x => by kernel_rfl)
def f287i8ctx (k : Nat) (S185i4 : Int → Int → Int → Int → TWalkerB → Unit → (List Int) → Int → Unit → (List TVal) → Option (Int × TWalkerB × Unit × (List Int) × Int × Unit × (List TVal))) (S287i8 : Int → Int → Int → Int → TWalkerB → Unit → (List Int) → Int → Unit → (List TVal) → Option (Int × TWalkerB × Unit × (List Int) × Int × Unit × (List TVal))) : Ctx := ⟨tyAt tys, conAt [(184, [f184con (impl_colAfter k)]), (185, [f185i4con S185i4]), (338, [f338i10con (impl_walker_count_of_RecValues_1_RecValues_2 k)]), (339, [f339i13con (impl_walker_missing_of_RecValues_1_RecValues_2 k)])], 86, fun _ => false⟩
theorem f287i8hc (k : Nat) (S185i4 : Int → Int → Int → Int → TWalkerB → Unit → (List Int) → Int → Unit → (List TVal) → Option (Int × TWalkerB × Unit × (List Int) × Int × Unit × (List TVal))) (S287i8 : Int → Int → Int → Int → TWalkerB → Unit → (List Int) → Int → Unit → (List TVal) → Option (Int × TWalkerB × Unit × (List Int) × Int × Unit × (List TVal))) (h185i4 : FnOk Try.prog 185 (f185i4con S185i4)) (h287i8 : FnOk Try.prog 287 (f287i8con S287i8)) : CtxOk Try.prog (f287i8ctx k S185i4 S287i8) := ctxOk tys_ok mixed_ok (consOk_cons (f184ok k) (consOk_cons (h185i4) (consOk_cons (f338i10ok k) (consOk_cons (f339i13ok k) (consOk_nil)))))
theorem f287i8okb (k : Nat) (S185i4 : Int → Int → Int → Int → TWalkerB → Unit → (List Int) → Int → Unit → (List TVal) → Option (Int × TWalkerB × Unit × (List Int) × Int × Unit × (List TVal))) (S287i8 : Int → Int → Int → Int → TWalkerB → Unit → (List Int) → Int → Unit → (List TVal) → Option (Int × TWalkerB × Unit × (List Int) × Int × Unit × (List TVal))) (h185i4 : FnOk Try.prog 185 (f185i4con S185i4)) (h287i8 : FnOk Try.prog 287 (f287i8con S287i8)) : FnOk Try.prog 287 (f287i8con (impl_walker_col_of_RecValues_1_RecValues_2.b k S185i4 S287i8)) :=
  let hc := f287i8hc k S185i4 S287i8 h185i4 h287i8
  fnOk (fn := Try.f287) (code := bodyOf Try.f287) (res := [.tmp 10]) hc (by kernel_rfl) (by kernel_rfl) (by decide) (by kernel_rfl) (by kernel_rfl) (by kernel_rfl) (Nat.le_of_ble_eq_true (by kernel_rfl)) _
    (fun x => Snd.seq (by kernel_rfl) (Snd.seq (by kernel_rfl) (Snd.cut (Snd.exec hc _ _ _ _) ⟨f287i8s18, fun x => impl_walker_col_of_RecValues_1_RecValues_2.c18 k S185i4 x.1.2.1 x.1.2.2.1 x.1.2.2.2.1 x.1.2.2.2.2 x.2.1 x.2.2.1 x.2.2.2.1 x.2.2.2.2.1 x.2.2.2.2.2.1 x.2.2.2.2.2.2⟩ (fun x => by kernel_rfl)) (Snd.seq (by kernel_rfl) (Snd.block (id := 0) (by kernel_rfl) (Snd.seq (by kernel_rfl) (Snd.cond (x := .tmp 22) (by kernel_rfl) (Snd.exec hc _ _ _ _) (Snd.seq (by kernel_rfl) (Snd.cond (x := .tmp 35) (by kernel_rfl) (Snd.seq (by kernel_rfl) (Snd.seq (by kernel_rfl) (Snd.seq (by kernel_rfl) (Snd.seq (by kernel_rfl) (Snd.seq (by kernel_rfl) (Snd.exec hc _ _ _ _) (Snd.seq (by kernel_rfl) (Snd.block (id := 1) (by kernel_rfl) (Snd.loop' (by kernel_rfl) f287i8s14 (fun n x => impl_walker_col_of_RecValues_1_RecValues_2.l14 k S185i4 n x.1.2.1 x.1.2.2.1 x.1.2.2.2.1 x.1.2.2.2.2.1 x.1.2.2.2.2.2 x.2.1 x.2.2.1 x.2.2.2.1 x.2.2.2.2.1 x.2.2.2.2.2.1 x.2.2.2.2.2.2) _ (fun _ => rfl) (fun n14 => Snd.exec hc _ _ _ _) (fun n x => by kernel_rfl) k)) (Snd.exec hc _ _ _ _))) (Snd.exec hc _ _ _ _)) (Snd.exec hc _ _ _ _)) (Snd.exec hc _ _ _ _)) (Snd.exec hc _ _ _ _)) (Snd.exec hc _ _ _ _)) (Snd.exec hc _ _ _ _))) (Snd.exec hc _ _ _ _))) (Snd.exec hc _ _ _ _))) (Snd.exec hc _ _ _ _))
    (fun x => by kernel_rfl)
theorem f185i4rec (k : Nat) : ∀ d, FnOk Try.prog 185 (f185i4con (impl_walker_body_of_RecValues_1_RecValues_2.d k d)) ∧ FnOk Try.prog 287 (f287i8con (impl_walker_col_of_RecValues_1_RecValues_2.d k d))
  | 0 => ⟨FnOk_none (fun _ => rfl), FnOk_none (fun _ => rfl)⟩
  | d + 1 => let ih := f185i4rec k d
    ⟨f185i4okb k (impl_walker_body_of_RecValues_1_RecValues_2.d k d) (impl_walker_col_of_RecValues_1_RecValues_2.d k d) ih.1 ih.2, f287i8okb k (impl_walker_body_of_RecValues_1_RecValues_2.d k d) (impl_walker_col_of_RecValues_1_RecValues_2.d k d) ih.1 ih.2⟩
theorem f185i4ok (k : Nat) : FnOk Try.prog 185 (f185i4con (impl_walker_body_of_RecValues_1_RecValues_2 k)) := (f185i4rec k k).1
theorem f287i8ok (k : Nat) : FnOk Try.prog 287 (f287i8con (impl_walker_col_of_RecValues_1_RecValues_2 k)) := (f185i4rec k k).2

def f84i2in : SS := ⟨[(0, (.ro (.list 174 (.st (.cons .str (.cons (.int .i64) (.cons (.int .i64) (.cons (.int .i64) .nil)))))))), (1, (.ro (.st (.cons (.list 75 (.st (.cons (.int .i64) (.cons .str .nil)))) .nil)))), (2, (.fn 295 (.cons (.p 10) (.cons (.p 12) (.cons (.p 13) .nil))))), (3, (.fn 296 .nil))], [(10, (.box (.list 3 (.int .i64)) (.h 11))), (11, (.sl 3 (.int .i64))), (12, (.box (.int .i64) (.ro (.int .i64)))), (13, (.box (.list 75 (.st (.cons (.int .i64) (.cons .str .nil)))) (.h 14))), (14, (.sl 75 (.st (.cons (.int .i64) (.cons .str .nil)))))]⟩
def f84i2out : SS := ⟨[(0, (.ro .bool))], [(10, (.box (.list 3 (.int .i64)) (.h 11))), (11, (.sl 3 (.int .i64))), (12, (.box (.int .i64) (.ro (.int .i64)))), (13, (.box (.list 75 (.st (.cons (.int .i64) (.cons .str .nil)))) (.h 100))), (100, (.sl 75 (.st (.cons (.int .i64) (.cons .str .nil)))))]⟩
def f84i2con (F : (List TCol) → TRec → (Unit × Unit × Unit × Unit) → Unit → Unit → (List Int) → Int → Unit → (List TVal) → Option (Bool × Unit × (List Int) × Int × Unit × (List TVal))) : Con := ⟨f84i2in, f84i2out, 4, 1, fun x => F x.1.1 x.1.2.1 x.1.2.2.1 x.1.2.2.2 x.2.1 x.2.2.1 x.2.2.2.1 x.2.2.2.2.1 x.2.2.2.2.2⟩
def f84i2ctx (k : Nat) : Ctx := ⟨tyAt tys, conAt [(185, [f185i4con (impl_walker_body_of_RecValues_1_RecValues_2 k)])], 36, fun _ => false⟩
theorem f84i2hc (k : Nat) : CtxOk Try.prog (f84i2ctx k) := ctxOk tys_ok mixed_ok (consOk_cons (f185i4ok k) (consOk_nil))
theorem f84i2ok (k : Nat) : FnOk Try.prog 84 (f84i2con (impl_walk_of_RecValues_1_RecValues_2 k)) :=
  let hc := f84i2hc k
  fnOk (fn := Try.f84) (code := bodyOf Try.f84) (res := [.tmp 8]) hc (by kernel_rfl) (by kernel_rfl) (by decide) (by kernel_rfl) (by kernel_rfl) (by kernel_rfl) (Nat.le_of_ble_eq_true (by kernel_rfl)) _
    (fun x => Snd.exec hc _ _ _ _)
    (fun x => by kernel_rfl)

def f200in : SS := ⟨[(0, (.ro (.list 174 (.st (.cons .str (.cons (.int .i64) (.cons (.int .i64) (.cons (.int .i64) .nil)))))))), (1, (.ro (.st (.cons (.list 75 (.st (.cons (.int .i64) (.cons .str .nil)))) .nil)))), (2, (.ro (.int .i64)))], []⟩
def f200out : SS := ⟨[(0, (.h 100)), (1, (.ro .bool))], [(100, (.sl 75 (.st (.cons (.int .i64) (.cons .str .nil)))))]⟩
def f200con (F : (List TCol) → TRec → Int → Option ((Unit × Bool) × (List TVal))) : Con := ⟨f200in, f200out, 3, 2, fun x => F x.1 x.2.1 x.2.2⟩
def f200ctx (k : Nat) : Ctx := ⟨tyAt tys, conAt [(84, [f84i2con (impl_walk_of_RecValues_1_RecValues_2 k)]), (105, [f105con (impl_within k)]), (190, [f190con (impl_SchemaLeaves k)])], 27, fun _ => false⟩
theorem f200hc (k : Nat) : CtxOk Try.prog (f200ctx k) := ctxOk tys_ok mixed_ok (consOk_cons (f84i2ok k) (consOk_cons (f105ok k) (consOk_cons (f190ok k) (consOk_nil))))
theorem f200ok (k : Nat) : FnOk Try.prog 200 (f200con (impl_RecValues k)) :=
  let hc := f200hc k
  fnOk (fn := Try.f200) (code := bodyOf Try.f200) (res := [.tmp 6, .tmp 7]) hc (by kernel_rfl) (by kernel_rfl) (by decide) (by kernel_rfl) (by kernel_rfl) (by kernel_rfl) (Nat.le_of_ble_eq_true (by kernel_rfl)) _
    (fun x => Snd.exec hc _ _ _ _)
    (fun x => by kernel_rfl)

def f297in : SS := ⟨[(0, (.ro (.int .i64)))], []⟩
def f297out : SS := ⟨[(0, (.ro (.int .i64)))], []⟩
def f297con (F : Int → Option Int) : Con := ⟨f297in, f297out, 1, 1, fun x => F x⟩
def f297ctx (k : Nat) : Ctx := ⟨tyAt tys, conAt [], 8, fun _ => false⟩
theorem f297hc (k : Nat) : CtxOk Try.prog (f297ctx k) := ctxOk tys_ok mixed_ok (consOk_nil)
theorem f297ok (k : Nat) : FnOk Try.prog 297 (f297con (impl_FloatKey k)) :=
  let hc := f297hc k
  fnOk (fn := Try.f297) (code := bodyOf Try.f297) (res := [.tmp 2]) hc (by kernel_rfl) (by kernel_rfl) (by decide) (by kernel_rfl) (by kernel_rfl) (by kernel_rfl) (Nat.le_of_ble_eq_true (by kernel_rfl)) _
    (fun x => Snd.exec hc _ _ _ _)
    (fun x => by kernel_rfl)

def f201in : SS := ⟨[(0, (.ro (.int .i64))), (1, (.ro (.st (.cons (.int .i64) (.cons .str .nil))))), (2, (.ro (.st (.cons (.int .i64) (.cons .str .nil)))))], []⟩
def f201out : SS := ⟨[(0, (.ro .bool))], []⟩
def f201d5 : SS := ⟨[(4, (.p 100)), (5, (.p 101))], [(100, (.box (.st (.cons (.int .i64) (.cons .str .nil))) (.agg (.cons (.ro (.int .i64)) (.cons (.ro .str) .nil))))), (101, (.box (.st (.cons (.int .i64) (.cons .str .nil))) (.agg (.cons (.ro (.int .i64)) (.cons (.ro .str) .nil)))))]⟩
def f201con (F : Int → TVal → TVal → Option Bool) : Con := ⟨f201in, f201out, 3, 1, fun x => F x.1 x.2.1 x.2.2⟩
def f201ctx (k : Nat) : Ctx := ⟨tyAt tys, conAt [(205, [f205con (impl_ValOk k)]), (297, [f297con (impl_FloatKey k)])], 39, fun _ => false⟩
theorem f201hc (k : Nat) : CtxOk Try.prog (f201ctx k) := ctxOk tys_ok mixed_ok (consOk_cons (f205ok k) (consOk_cons (f297ok k) (consOk_nil)))
theorem f201ok (k : Nat) : FnOk Try.prog 201 (f201con (impl_ValLess k)) :=
  let hc := f201hc k
  fnOk (fn := Try.f201) (code := bodyOf Try.f201) (res := [.tmp 6]) hc (by kernel_rfl) (by kernel_rfl) (by decide) (by kernel_rfl) (by kernel_rfl) (by kernel_rfl) (Nat.le_of_ble_eq_true (by kernel_rfl)) _
    (fun x => Snd.seq (by kernel_rfl) (Snd.seq (by kernel_rfl) (Snd.seq (by kernel_rfl) (Snd.exec hc _ _ _ _) (Snd.seq (by kernel_rfl) (Snd.block (id := 0) (by kernel_rfl) (Snd.seq (by kernel_rfl) (Snd.cond (x := .tmp 18) (by kernel_rfl) (Snd.seq (by kernel_rfl) (Snd.exec hc _ _ _ _) (Snd.fork hc (id := 5) (by kernel_rfl) ⟨f201d5, fun x => impl_ValLess.d5 k x.2.1 x.2.2⟩ [[0, 3, 1, 2, 4, 5, 6, 7], [0, 3, 1, 4, 2, 5, 6, 7], [0, 3, 4, 1, 2, 5, 6, 7]] (by kernel_rfl) (ords_cons (fun x => by kernel_rfl) (ords_cons (fun x => by kernel_rfl) (ords_cons (fun x => by kernel_rfl) (ords_nil)))))) (Snd.exec hc _ _ _ _)) (Snd.exec hc _ _ _ _))) (Snd.exec hc _ _ _ _))) (Snd.exec hc _ _ _ _)) (Snd.exec hc _ _ _ _))
    (fun x => by kernel_rfl)

def f98in : SS := ⟨[(0, (.ro (.list 174 (.st (.cons .str (.cons (.int .i64) (.cons (.int .i64) (.cons (.int .i64) .nil)))))))), (1, (.ro (.st (.cons (.int .i64) (.cons (.int .i64) (.cons (.st (.cons (.int .i64) (.cons .str .nil))) (.cons (.int .i64) (.cons (.int .i64) .nil)))))))), (2, (.ro (.st (.cons (.list 75 (.st (.cons (.int .i64) (.cons .str .nil)))) .nil))))], []⟩
def f98out : SS := ⟨[(0, (.ro .bool))], []⟩
def f98con (F : (List TCol) → TPred → TRec → Option Bool) : Con := ⟨f98in, f98out, 3, 1, fun x => F x.1 x.2.1 x.2.2⟩
def f98ctx (k : Nat) : Ctx := ⟨tyAt tys, conAt [(88, [f88con (impl_LeafOf k)]), (200, [f200con (impl_RecValues k)]), (201, [f201con (impl_ValLess k)])], 71, fun _ => false⟩
theorem f98hc (k : Nat) : CtxOk Try.prog (f98ctx k) := ctxOk tys_ok mixed_ok (consOk_cons (f88ok k) (consOk_cons (f200ok k) (consOk_cons (f201ok k) (consOk_nil))))
theorem f98ok (k : Nat) : FnOk Try.prog 98 (f98con (impl_holds k)) :=
  let hc := f98hc k
  fnOk (fn := Try.f98) (code := bodyOf Try.f98) (res := [.tmp 6]) hc (by kernel_rfl) (by kernel_rfl) (by decide) (by kernel_rfl) (by kernel_rfl) (by kernel_rfl) (Nat.le_of_ble_eq_true (by kernel_rfl)) _
    (fun x => Snd.exec hc _ _ _ _)
    (fun x => by kernel_rfl)

def f22in : SS := ⟨[(0, (.ro (.list 174 (.st (.cons .str (.cons (.int .i64) (.cons (.int .i64) (.cons (.int .i64) .nil)))))))), (1, (.ro (.list 150 (.st (.cons (.int .i64) (.cons (.int .i64) (.cons (.st (.cons (.int .i64) (.cons .str .nil))) (.cons (.int .i64) (.cons (.int .i64) .nil))))))))), (2, (.ro (.st (.cons (.list 75 (.st (.cons (.int .i64) (.cons .str .nil)))) .nil))))], []⟩
def f22out : SS := ⟨[(0, (.ro .bool))], []⟩
def f22s15 : SS := ⟨[(0, (.ro (.list 174 (.st (.cons .str (.cons (.int .i64) (.cons (.int .i64) (.cons (.int .i64) .nil)))))))), (1, (.ro (.list 150 (.st (.cons (.int .i64) (.cons (.int .i64) (.cons (.st (.cons (.int .i64) (.cons .str .nil))) (.cons (.int .i64) (.cons (.int .i64) .nil))))))))), (5, (.p 100)), (7, (.h 101)), (23, (.ro (.list 150 (.st (.cons (.int .i64) (.cons (.int .i64) (.cons (.st (.cons (.int .i64) (.cons .str .nil))) (.cons (.int .i64) (.cons (.int .i64) .nil))))))))), (24, (.ro (.int .i64))), (25, (.ro (.int .i64)))], [(100, (.box (.st (.cons (.list 75 (.st (.cons (.int .i64) (.cons .str .nil)))) .nil)) (.agg (.cons (.ro (.list 75 (.st (.cons (.int .i64) (.cons .str .nil))))) .nil)))), (101, (.sl 4 .bool))]⟩
def f22s5 : SS := ⟨[(0, (.ro (.list 174 (.st (.cons .str (.cons (.int .i64) (.cons (.int .i64) (.cons (.int .i64) .nil)))))))), (1, (.ro (.list 150 (.st (.cons (.int .i64) (.cons (.int .i64) (.cons (.st (.cons (.int .i64) (.cons .str .nil))) (.cons (.int .i64) (.cons (.int .i64) .nil))))))))), (5, (.p 100)), (7, (.h 101)), (23, (.ro (.list 150 (.st (.cons (.int .i64) (.cons (.int .i64) (.cons (.st (.cons (.int .i64) (.cons .str .nil))) (.cons (.int .i64) (.cons (.int .i64) .nil))))))))), (24, (.ro (.int .i64))), (25, (.ro (.int .i64)))], [(100, (.box (.st (.cons (.list 75 (.st (.cons (.int .i64) (.cons .str .nil)))) .nil)) (.agg (.cons (.ro (.list 75 (.st (.cons (.int .i64) (.cons .str .nil))))) .nil)))), (101, (.sl 4 .bool))]⟩
def f22con (F : (List TCol) → (List TPred) → TRec → Option Bool) : Con := ⟨f22in, f22out, 3, 1, fun x => F x.1 x.2.1 x.2.2⟩
def f22ctx (k : Nat) : Ctx := ⟨tyAt tys, conAt [(29, [f29con (impl_PredOk k)]), (97, [f97con (impl_RecOk k)]), (98, [f98con (impl_holds k)])], 91, fun _ => false⟩
theorem f22hc (k : Nat) : CtxOk Try.prog (f22ctx k) := ctxOk tys_ok mixed_ok (consOk_cons (f29ok k) (consOk_cons (f97ok k) (consOk_cons (f98ok k) (consOk_nil))))
theorem f22ok (k : Nat) : FnOk Try.prog 22 (f22con (impl_PredHolds k)) :=
  let hc := f22hc k
  fnOk (fn := Try.f22) (code := bodyOf Try.f22) (res := [.tmp 6]) hc (by kernel_rfl) (by kernel_rfl) (by decide) (by kernel_rfl) (by kernel_rfl) (by kernel_rfl) (Nat.le_of_ble_eq_true (by kernel_rfl)) _
    (fun x => Snd.seq (by kernel_rfl) (Snd.seq (by kernel_rfl) (Snd.seq (by kernel_rfl) (Snd.seq (by kernel_rfl) (Snd.exec hc _ _ _ _) (Snd.seq (by kernel_rfl) (Snd.block (id := 0) (by kernel_rfl) (Snd.loop' (by kernel_rfl) f22s5 (fun n x => impl_PredHolds.l5 k n x.1.1 x.1.2.1 x.1.2.2.2.2.1 x.1.2.2.2.2.2.1 x.1.2.2.2.2.2.2 x.2.1 x.2.2) _ (fun _ => rfl) (fun n5 => Snd.seq (by kernel_rfl) (Snd.seq (by kernel_rfl) (Snd.seq (by kernel_rfl) (Snd.cut (Snd.exec hc _ _ _ _) ⟨f22s15, fun x => impl_PredHolds.c15 k (impl_PredHolds.l5 k n5) x.1.1 x.1.2.1 x.1.2.2.2.2.1 x.1.2.2.2.2.2.1 x.1.2.2.2.2.2.2 x.2.1 x.2.2⟩ (fun x => by kernel_rfl)) (Snd.exec hc _ _ _ _)) (Snd.exec hc _ _ _ _)) (Snd.exec hc _ _ _ _)) (fun n x => by kernel_rfl) k)) (Snd.exec hc _ _ _ _))) (Snd.exec hc _ _ _ _)) (Snd.exec hc _ _ _ _)) (Snd.exec hc _ _ _ _))
    (fun x => by kernel_rfl)

def f102in : SS := ⟨[(0, (.ro (.list 174 (.st (.cons .str (.cons (.int .i64) (.cons (.int .i64) (.cons (.int .i64) .nil)))))))), (1, (.ro (.st (.cons (.int .i64) (.cons (.int .i64) (.cons (.st (.cons (.int .i64) (.cons .str .nil))) (.cons (.int .i64) (.cons (.int .i64) .nil))))))))], []⟩
def f102out : SS := ⟨[(0, (.ro .bool))], []⟩
def f102s14 : SS := ⟨[(3, (.p 100)), (5, (.p 101)), (14, (.ro (.int .i64))), (72, (.ro .bool))], [(100, (.box (.st (.cons (.int .i64) (.cons (.int .i64) (.cons (.st (.cons (.int .i64) (.cons .str .nil))) (.cons (.int .i64) (.cons (.int .i64) .nil)))))) (.agg (.cons (.ro (.int .i64)) (.cons (.ro (.int .i64)) (.cons (.agg (.cons (.ro (.int .i64)) (.cons (.ro .str) .nil))) (.cons (.ro (.int .i64)) (.cons (.ro (.int .i64)) .nil)))))))), (101, (.box (.st (.cons (.int .i64) (.cons (.int .i64) (.cons (.st (.cons (.int .i64) (.cons .str .nil))) (.cons (.int .i64) (.cons (.int .i64) .nil)))))) (.agg (.cons (.ro (.int .i64)) (.cons (.ro (.int .i64)) (.cons (.agg (.cons (.ro (.int .i64)) (.cons (.ro .str) .nil))) (.cons (.ro (.int .i64)) (.cons (.ro (.int .i64)) .nil))))))))]⟩
def f102s6 : SS := ⟨[(0, (.ro (.list 174 (.st (.cons .str (.cons (.int .i64) (.cons (.int .i64) (.cons (.int .i64) .nil)))))))), (3, (.p 100)), (5, (.p 101)), (14, (.ro (.int .i64))), (15, (.ro .bool))], [(100, (.box (.st (.cons (.int .i64) (.cons (.int .i64) (.cons (.st (.cons (.int .i64) (.cons .str .nil))) (.cons (.int .i64) (.cons (.int .i64) .nil)))))) (.agg (.cons (.ro (.int .i64)) (.cons (.ro (.int .i64)) (.cons (.agg (.cons (.ro (.int .i64)) (.cons (.ro .str) .nil))) (.cons (.ro (.int .i64)) (.cons (.ro (.int .i64)) .nil)))))))), (101, (.box (.st (.cons (.int .i64) (.cons (.int .i64) (.cons (.st (.cons (.int .i64) (.cons .str .nil))) (.cons (.int .i64) (.cons (.int .i64) .nil)))))) (.agg (.cons (.ro (.int .i64)) (.cons (.ro (.int .i64)) (.cons (.agg (.cons (.ro (.int .i64)) (.cons (.ro .str) .nil))) (.cons (.ro (.int .i64)) (.cons (.ro (.int .i64)) .nil))))))))]⟩
def f102con (F : (List TCol) → TPred → Option Bool) : Con := ⟨f102in, f102out, 2, 1, fun x => F x.1 x.2⟩
def f102ctx (k : Nat) : Ctx := ⟨tyAt tys, conAt [(40, [f40con (spec_LeafOf k)]), (203, [f203con (spec_ValOk k)])], 92, fun _ => false⟩
theorem f102hc (k : Nat) : CtxOk Try.prog (f102ctx k) := ctxOk tys_ok mixed_ok (consOk_cons (f40ok k) (consOk_cons (f203ok k) (consOk_nil)))
theorem f102ok (k : Nat) : FnOk Try.prog 102 (f102con (spec_l20Plain k)) :=
  let hc := f102hc k
  fnOk (fn := Try.f102) (code := bodyOf Try.f102) (res := [.tmp 4]) hc (by kernel_rfl) (by kernel_rfl) (by decide) (by kernel_rfl) (by kernel_rfl) (by kernel_rfl) (Nat.le_of_ble_eq_true (by kernel_rfl)) _
    (fun x => Snd.seq (by kernel_rfl) (Snd.seq (by kernel_rfl) (Snd.seq (by kernel_rfl) (Snd.exec hc _ _ _ _) (Snd.seq (by kernel_rfl) (Snd.block (id := 0) (by kernel_rfl) (Snd.seq (by kernel_rfl) (Snd.cut (Snd.cond (x := .tmp 15) (by kernel_rfl) (Snd.exec hc _ _ _ _) (Snd.seq (by kernel_rfl) (Snd.cond (x := .tmp 49) (by kernel_rfl) (Snd.exec hc _ _ _ _) (Snd.seq (by kernel_rfl) (Snd.cut (Snd.exec hc _ _ _ _) ⟨f102s14, fun x => spec_l20Plain.c14 k x.1.2.2.1 x.1.2.2.2 x.2.1 x.2.2⟩ (fun x => by kernel_rfl)) (Snd.exec hc _ _ _ _))) (Snd.exec hc _ _ _ _))) ⟨f102s6, fun x => spec_l20Plain.c6 k x.1.1 x.1.2.2.2.1 x.1.2.2.2.2 x.2.1 x.2.2⟩ (fun x => by kernel_rfl)) (Snd.exec hc _ _ _ _))) (Snd.exec hc _ _ _ _))) (Snd.exec hc _ _ _ _)) (Snd.exec hc _ _ _ _))
    (fun x => by kernel_rfl)

def f103in : SS := ⟨[(0, (.ro (.list 150 (.st (.cons (.int .i64) (.cons (.int .i64) (.cons (.st (.cons (.int .i64) (.cons .str .nil))) (.cons (.int .i64) (.cons (.int .i64) .nil))))))))), (1, (.ro (.int .i64)))], []⟩
def f103out : SS := ⟨[(0, (.ro (.int .i64)))], []⟩
def f103s10 : SS := ⟨[(0, (.ro (.list 150 (.st (.cons (.int .i64) (.cons (.int .i64) (.cons (.st (.cons (.int .i64) (.cons .str .nil))) (.cons (.int .i64) (.cons (.int .i64) .nil))))))))), (1, (.ro (.int .i64))), (27, (.ro .bool))], []⟩
def f103con (F : (List TPred) → Int → Option Int) : Con := ⟨f103in, f103out, 2, 1, fun x => F x.1 x.2⟩
def f103ctx (k : Nat) (S103 : (List TPred) → Int → Option Int) : Ctx := ⟨tyAt tys, conAt [(103, [f103con S103])], 59, fun _ => false⟩
theorem f103hc (k : Nat) (S103 : (List TPred) → Int → Option Int) (h103 : FnOk Try.prog 103 (f103con S103)) : CtxOk Try.prog (f103ctx k S103) := ctxOk tys_ok mixed_ok (consOk_cons (h103) (consOk_nil))
theorem f103okb (k : Nat) (S103 : (List TPred) → Int → Option Int) (h103 : FnOk Try.prog 103 (f103con S103)) : FnOk Try.prog 103 (f103con (spec_l20From.b k S103)) :=
  let hc := f103hc k S103 h103
  fnOk (fn := Try.f103) (code := bodyOf Try.f103) (res := [.tmp 4]) hc (by kernel_rfl) (by kernel_rfl) (by decide) (by kernel_rfl) (by kernel_rfl) (by kernel_rfl) (Nat.le_of_ble_eq_true (by kernel_rfl)) _
    (fun x => Snd.seq (by kernel_rfl) (Snd.seq (by kernel_rfl) (Snd.seq (by kernel_rfl) (Snd.exec hc _ _ _ _) (Snd.seq (by kernel_rfl) (Snd.block (id := 0) (by kernel_rfl) (Snd.seq (by kernel_rfl) (Snd.cond (x := .tmp 13) (by kernel_rfl) (Snd.exec hc _ _ _ _) (Snd.seq (by kernel_rfl) (Snd.cut (Snd.exec hc _ _ _ _) ⟨f103s10, fun x => spec_l20From.c10 k S103 x.1 x.2.1 x.2.2⟩ (fun x => by kernel_rfl)) (Snd.exec hc _ _ _ _))) (Snd.exec hc _ _ _ _))) (Snd.exec hc _ _ _ _))) (Snd.exec hc _ _ _ _)) (Snd.exec hc _ _ _ _))
    (fun x => by kernel_rfl)
theorem f103rec (k : Nat) : ∀ d, FnOk Try.prog 103 (f103con (spec_l20From.d k d))
  | 0 => FnOk_none (fun _ => rfl)
  | d + 1 => let ih := f103rec k d
    f103okb k (spec_l20From.d k d) ih
theorem f103ok (k : Nat) : FnOk Try.prog 103 (f103con (spec_l20From k)) := (f103rec k k)

def f27in : SS := ⟨[(0, (.ro (.list 174 (.st (.cons .str (.cons (.int .i64) (.cons (.int .i64) (.cons (.int .i64) .nil)))))))), (1, (.ro (.list 150 (.st (.cons (.int .i64) (.cons (.int .i64) (.cons (.st (.cons (.int .i64) (.cons .str .nil))) (.cons (.int .i64) (.cons (.int .i64) .nil)))))))))], []⟩
def f27out : SS := ⟨[(0, (.ro .bool))], []⟩
def f27s4 : SS := ⟨[(0, (.ro (.list 174 (.st (.cons .str (.cons (.int .i64) (.cons (.int .i64) (.cons (.int .i64) .nil)))))))), (1, (.ro (.list 150 (.st (.cons (.int .i64) (.cons (.int .i64) (.cons (.st (.cons (.int .i64) (.cons .str .nil))) (.cons (.int .i64) (.cons (.int .i64) .nil))))))))), (5, (.ro (.int .i64)))], []⟩
def f27con (F : (List TCol) → (List TPred) → Option Bool) : Con := ⟨f27in, f27out, 2, 1, fun x => F x.1 x.2⟩
def f27ctx (k : Nat) : Ctx := ⟨tyAt tys, conAt [(85, [f85con (spec_SchemaOk k)]), (101, [f101con (spec_l1In k)]), (102, [f102con (spec_l20Plain k)]), (103, [f103con (spec_l20From k)])], 34, fun _ => false⟩
theorem f27hc (k : Nat) : CtxOk Try.prog (f27ctx k) := ctxOk tys_ok mixed_ok (consOk_cons (f85ok k) (consOk_cons (f101ok k) (consOk_cons (f102ok k) (consOk_cons (f103ok k) (consOk_nil)))))
theorem f27ok (k : Nat) : FnOk Try.prog 27 (f27con (spec_PredOk k)) :=
  let hc := f27hc k
  fnOk (fn := Try.f27) (code := bodyOf Try.f27) (res := [.tmp 4]) hc (by kernel_rfl) (by kernel_rfl) (by decide) (by kernel_rfl) (by kernel_rfl) (by kernel_rfl) (Nat.le_of_ble_eq_true (by kernel_rfl)) _
    (fun x => Snd.seq (by kernel_rfl) (Snd.seq (by kernel_rfl) (Snd.seq (by kernel_rfl) (Snd.exec hc _ _ _ _) (Snd.seq (by kernel_rfl) (Snd.block (id := 0) (by kernel_rfl) (Snd.loop' (by kernel_rfl) f27s4 (fun n x => spec_PredOk.l4 k n x.1 x.2.1 x.2.2) _ (fun _ => rfl) (fun n4 => Snd.exec hc _ _ _ _) (fun n x => by kernel_rfl) k)) (Snd.exec hc _ _ _ _))) (Snd.exec hc _ _ _ _)) (Snd.exec hc _ _ _ _))
    (fun x => by kernel_rfl)

def f232in : SS := ⟨[(0, (.ro (.int .i64)))], []⟩
def f232out : SS := ⟨[(0, (.ro (.int .i64)))], []⟩
def f232con (F : Int → Option Int) : Con := ⟨f232in, f232out, 1, 1, fun x => F x⟩
def f232ctx (k : Nat) : Ctx := ⟨tyAt tys, conAt [], 8, fun _ => false⟩
theorem f232hc (k : Nat) : CtxOk Try.prog (f232ctx k) := ctxOk tys_ok mixed_ok (consOk_nil)
theorem f232ok (k : Nat) : FnOk Try.prog 232 (f232con (spec_FloatKey k)) :=
  let hc := f232hc k
  fnOk (fn := Try.f232) (code := bodyOf Try.f232) (res := [.tmp 2]) hc (by kernel_rfl) (by kernel_rfl) (by decide) (by kernel_rfl) (by kernel_rfl) (by kernel_rfl) (Nat.le_of_ble_eq_true (by kernel_rfl)) _
    (fun x => Snd.exec hc _ _ _ _)
    (fun x => by kernel_rfl)

def f126in : SS := ⟨[(0, (.ro (.int .i64))), (1, (.ro (.st (.cons (.int .i64) (.cons .str .nil))))), (2, (.ro (.st (.cons (.int .i64) (.cons .str .nil)))))], []⟩
def f126out : SS := ⟨[(0, (.ro .bool))], []⟩
def f126d5 : SS := ⟨[(4, (.p 100)), (5, (.p 101))], [(100, (.box (.st (.cons (.int .i64) (.cons .str .nil))) (.agg (.cons (.ro (.int .i64)) (.cons (.ro .str) .nil))))), (101, (.box (.st (.cons (.int .i64) (.cons .str .nil))) (.agg (.cons (.ro (.int .i64)) (.cons (.ro .str) .nil)))))]⟩
def f126s8 : SS := ⟨[(4, (.p 100)), (5, (.p 101)), (7, (.ro (.int .i64)))], [(100, (.box (.st (.cons (.int .i64) (.cons .str .nil))) (.agg (.cons (.ro (.int .i64)) (.cons (.ro .str) .nil))))), (101, (.box (.st (.cons (.int .i64) (.cons .str .nil))) (.agg (.cons (.ro (.int .i64)) (.cons (.ro .str) .nil)))))]⟩
def f126con (F : Int → TVal → TVal → Option Bool) : Con := ⟨f126in, f126out, 3, 1, fun x => F x.1 x.2.1 x.2.2⟩
def f126ctx (k : Nat) : Ctx := ⟨tyAt tys, conAt [(203, [f203con (spec_ValOk k)]), (232, [f232con (spec_FloatKey k)])], 74, fun _ => false⟩
theorem f126hc (k : Nat) : CtxOk Try.prog (f126ctx k) := ctxOk tys_ok mixed_ok (consOk_cons (f203ok k) (consOk_cons (f232ok k) (consOk_nil)))
theorem f126ok (k : Nat) : FnOk Try.prog 126 (f126con (spec_ValLess k)) :=
  let hc := f126hc k
  fnOk (fn := Try.f126) (code := bodyOf Try.f126) (res := [.tmp 6]) hc (by kernel_rfl) (by kernel_rfl) (by decide) (by kernel_rfl) (by kernel_rfl) (by kernel_rfl) (Nat.le_of_ble_eq_true (by kernel_rfl)) _
    (fun x => Snd.seq (by kernel_rfl) (Snd.seq (by kernel_rfl) (Snd.seq (by kernel_rfl) (Snd.exec hc _ _ _ _) (Snd.seq (by kernel_rfl) (Snd.block (id := 0) (by kernel_rfl) (Snd.seq (by kernel_rfl) (Snd.cond (x := .tmp 19) (by kernel_rfl) (Snd.seq (by kernel_rfl) (Snd.exec hc _ _ _ _) (Snd.fork hc (id := 5) (by kernel_rfl) ⟨f126d5, fun x => spec_ValLess.d5 k x.2.1 x.2.2⟩ [[0, 3, 1, 2, 4, 5, 6, 7], [0, 3, 1, 4, 2, 5, 6, 7], [0, 3, 4, 1, 2, 5, 6, 7]] (by kernel_rfl) (ords_cons (fun x => by kernel_rfl) (ords_cons (fun x => by kernel_rfl) (ords_cons (fun x => by kernel_rfl) (ords_nil)))))) (Snd.seq (by kernel_rfl) (Snd.cond (x := .tmp 28) (by kernel_rfl) (Snd.seq (by kernel_rfl) (Snd.exec hc _ _ _ _) (Snd.seq (by kernel_rfl) (Snd.block (id := 1) (by kernel_rfl) (Snd.loop' (by kernel_rfl) f126s8 (fun n x => spec_ValLess.l8 k n x.1.2.2 x.2.1 x.2.2) _ (fun _ => rfl) (fun n8 => Snd.exec hc _ _ _ _) (fun n x => by kernel_rfl) k)) (Snd.exec hc _ _ _ _))) (Snd.exec hc _ _ _ _)) (Snd.exec hc _ _ _ _))) (Snd.exec hc _ _ _ _))) (Snd.exec hc _ _ _ _))) (Snd.exec hc _ _ _ _)) (Snd.exec hc _ _ _ _))
    (fun x => by kernel_rfl)

def f298in : SS := ⟨[(0, (.ro (.list 174 (.st (.cons .str (.cons (.int .i64) (.cons (.int .i64) (.cons (.int .i64) .nil)))))))), (1, (.ro (.int .i64))), (2, (.ro .bool)), (3, (.ro (.list 75 (.st (.cons (.int .i64) (.cons .str .nil)))))), (4, (.ro (.int .i64))), (5, (.ro (.int .i64))), (6, (.h 10))], [(10, (.sl 75 (.st (.cons (.int .i64) (.cons .str .nil)))))]⟩
def f298out : SS := ⟨[(0, (.h 100)), (1, (.ro (.int .i64)))], [(100, (.sl 75 (.st (.cons (.int .i64) (.cons .str .nil)))))]⟩
def f298s7 : SS := ⟨[(0, (.ro (.list 174 (.st (.cons .str (.cons (.int .i64) (.cons (.int .i64) (.cons (.int .i64) .nil)))))))), (1, (.ro (.int .i64))), (3, (.ro (.list 75 (.st (.cons (.int .i64) (.cons .str .nil)))))), (4, (.ro (.int .i64))), (5, (.ro (.int .i64))), (6, (.h 100)), (16, (.ro (.int .i64))), (17, (.ro (.int .i64)))], [(100, (.sl 75 (.st (.cons (.int .i64) (.cons .str .nil)))))]⟩
def f298s14 : SS := ⟨[(0, (.ro (.list 174 (.st (.cons .str (.cons (.int .i64) (.cons (.int .i64) (.cons (.int .i64) .nil)))))))), (1, (.ro (.int .i64))), (3, (.ro (.list 75 (.st (.cons (.int .i64) (.cons .str .nil)))))), (4, (.ro (.int .i64))), (5, (.ro (.int .i64))), (6, (.h 100)), (16, (.ro (.int .i64))), (17, (.ro (.int .i64))), (18, (.ro (.int .i64))), (19, (.ro (.int .i64)))], [(100, (.sl 75 (.st (.cons (.int .i64) (.cons .str .nil)))))]⟩
def f298s11 : SS := ⟨[(0, (.ro (.list 174 (.st (.cons .str (.cons (.int .i64) (.cons (.int .i64) (.cons (.int .i64) .nil)))))))), (1, (.ro (.int .i64))), (3, (.ro (.list 75 (.st (.cons (.int .i64) (.cons .str .nil)))))), (4, (.ro (.int .i64))), (5, (.ro (.int .i64))), (6, (.h 100)), (16, (.ro (.int .i64))), (17, (.ro (.int .i64)))], [(100, (.sl 75 (.st (.cons (.int .i64) (.cons .str .nil)))))]⟩
def f298s6 : SS := ⟨[(0, (.ro (.list 174 (.st (.cons .str (.cons (.int .i64) (.cons (.int .i64) (.cons (.int .i64) .nil)))))))), (1, (.ro (.int .i64))), (3, (.ro (.list 75 (.st (.cons (.int .i64) (.cons .str .nil)))))), (4, (.ro (.int .i64))), (5, (.ro (.int .i64))), (6, (.h 100)), (16, (.ro (.int .i64))), (17, (.ro (.int .i64)))], [(100, (.sl 75 (.st (.cons (.int .i64) (.cons .str .nil)))))]⟩
def f298s5 : SS := ⟨[(0, (.ro (.list 174 (.st (.cons .str (.cons (.int .i64) (.cons (.int .i64) (.cons (.int .i64) .nil)))))))), (1, (.ro (.int .i64))), (3, (.ro (.list 75 (.st (.cons (.int .i64) (.cons .str .nil)))))), (4, (.ro (.int .i64))), (5, (.ro (.int .i64))), (6, (.h 10)), (16, (.ro (.int .i64)))], [(10, (.sl 75 (.st (.cons (.int .i64) (.cons .str .nil)))))]⟩
def f298con (F : (List TCol) → Int → Bool → (List TVal) → Int → Int → (List TVal) → Option ((Unit × Int) × (List TVal))) : Con := ⟨f298in, f298out, 7, 2, fun x => F x.1.1 x.1.2.1 x.1.2.2.1 x.1.2.2.2.1 x.1.2.2.2.2.1 x.1.2.2.2.2.2.1 x.2⟩
def f298ctx (k : Nat) (S298 : (List TCol) → Int → Bool → (List TVal) → Int → Int → (List TVal) → Option ((Unit × Int) × (List TVal))) : Ctx := ⟨tyAt tys, conAt [(189, [f189con (spec_l5After k)]), (298, [f298con S298])], 86, fun _ => false⟩
theorem f298hc (k : Nat) (S298 : (List TCol) → Int → Bool → (List TVal) → Int → Int → (List TVal) → Option ((Unit × Int) × (List TVal))) (h298 : FnOk Try.prog 298 (f298con S298)) : CtxOk Try.prog (f298ctx k S298) := ctxOk tys_ok mixed_ok (consOk_cons (f189ok k) (consOk_cons (h298) (consOk_nil)))
theorem f298okb (k : Nat) (S298 : (List TCol) → Int → Bool → (List TVal) → Int → Int → (List TVal) → Option ((Unit × Int) × (List TVal))) (h298 : FnOk Try.prog 298 (f298con S298)) : FnOk Try.prog 298 (f298con (spec_l13Values.b k S298)) :=
  let hc := f298hc k S298 h298
  fnOk (fn := Try.f298) (code := bodyOf Try.f298) (res := [.tmp 14, .tmp 15]) hc (by kernel_rfl) (by kernel_rfl) (by decide) (by kernel_rfl) (by kernel_rfl) (by kernel_rfl) (Nat.le_of_ble_eq_true (by kernel_rfl)) _
    (fun x => Snd.seq (by kernel_rfl) (Snd.seq (by kernel_rfl) (Snd.seq (by kernel_rfl) (Snd.cut (Snd.seq (by kernel_rfl) (Snd.exec hc _ _ _ _) (Snd.seq (by kernel_rfl) (Snd.block (id := 0) (by kernel_rfl) (Snd.loop' (by kernel_rfl) f298s6 (fun n x => spec_l13Values.l6 k S298 n x.1.1 x.1.2.1 x.1.2.2.1 x.1.2.2.2.1 x.1.2.2.2.2.1 x.1.2.2.2.2.2.2.1 x.1.2.2.2.2.2.2.2 x.2) _ (fun _ => rfl) (fun n6 => Snd.seq (by kernel_rfl) (Snd.seq (by kernel_rfl) (Snd.cut (Snd.exec hc _ _ _ _) ⟨f298s7, fun x => spec_l13Values.c7 k (spec_l13Values.l6 k S298 n6) x.1.1 x.1.2.1 x.1.2.2.1 x.1.2.2.2.1 x.1.2.2.2.2.1 x.1.2.2.2.2.2.2.1 x.1.2.2.2.2.2.2.2 x.2⟩ (fun x => by kernel_rfl)) (Snd.block (id := 1) (by kernel_rfl) (Snd.seq (by kernel_rfl) (Snd.seq (by kernel_rfl) (Snd.seq (by kernel_rfl) (Snd.block (id := 2) (by kernel_rfl) (Snd.loop' (by kernel_rfl) f298s14 (fun n x => spec_l13Values.l14 k S298 (spec_l13Values.l6 k S298 n6) n x.1.1 x.1.2.1 x.1.2.2.1 x.1.2.2.2.1 x.1.2.2.2.2.1 x.1.2.2.2.2.2.2.1 x.1.2.2.2.2.2.2.2.1 x.1.2.2.2.2.2.2.2.2.1 x.1.2.2.2.2.2.2.2.2.2 x.2) _ (fun _ => rfl) (fun n14 => Snd.exec hc _ _ _ _) (fun n x => by kernel_rfl) k)) (Snd.exec hc _ _ _ _)) (Snd.exec hc _ _ _ _)) (Snd.seq (by kernel_rfl) (Snd.cond (x := .tmp 47) (by kernel_rfl) (Snd.seq (by kernel_rfl) (Snd.cut (Snd.exec hc _ _ _ _) ⟨f298s11, fun x => spec_l13Values.c11 k (spec_l13Values.l6 k S298 n6) x.1.1 x.1.2.1 x.1.2.2.1 x.1.2.2.2.1 x.1.2.2.2.2.1 x.1.2.2.2.2.2.2.1 x.1.2.2.2.2.2.2.2 x.2⟩ (fun x => by kernel_rfl)) (Snd.exec hc _ _ _ _)) (Snd.exec hc _ _ _ _)) (Snd.exec hc _ _ _ _))))) (Snd.exec hc _ _ _ _)) (fun n x => by kernel_rfl) k)) (Snd.exec hc _ _ _ _))) ⟨f298s5, fun x => spec_l13Values.c5 k S298 x.1.1 x.1.2.1 x.1.2.2.1 x.1.2.2.2.1 x.1.2.2.2.2.1 x.1.2.2.2.2.2.2 x.2⟩ (fun x => by kernel_rfl)) (Snd.exec hc _ _ _ _)) (Snd.exec hc _ _ _ _)) (Snd.exec hc _ _ _ _))
    (fun x => by kernel_rfl)
theorem f298rec (k : Nat) : ∀ d, FnOk Try.prog 298 (f298con (spec_l13Values.d k d))
  | 0 => FnOk_none (fun _ => rfl)
  | d + 1 => let ih := f298rec k d
    f298okb k (spec_l13Values.d k d) ih
theorem f298ok (k : Nat) : FnOk Try.prog 298 (f298con (spec_l13Values k)) := (f298rec k k)

def f202in : SS := ⟨[(0, (.ro (.list 174 (.st (.cons .str (.cons (.int .i64) (.cons (.int .i64) (.cons (.int .i64) .nil)))))))), (1, (.ro (.st (.cons (.list 75 (.st (.cons (.int .i64) (.cons .str .nil)))) .nil)))), (2, (.ro (.int .i64)))], []⟩
def f202out : SS := ⟨[(0, (.h 100)), (1, (.ro .bool))], [(100, (.sl 75 (.st (.cons (.int .i64) (.cons .str .nil)))))]⟩
def f202con (F : (List TCol) → TRec → Int → Option ((Unit × Bool) × (List TVal))) : Con := ⟨f202in, f202out, 3, 2, fun x => F x.1 x.2.1 x.2.2⟩
def f202ctx (k : Nat) : Ctx := ⟨tyAt tys, conAt [(28, [f28con (spec_RecOk k)]), (101, [f101con (spec_l1In k)]), (123, [f123con (spec_SchemaLeaves k)]), (298, [f298con (spec_l13Values k)])], 39, fun _ => false⟩
theorem f202hc (k : Nat) : CtxOk Try.prog (f202ctx k) := ctxOk tys_ok mixed_ok (consOk_cons (f28ok k) (consOk_cons (f101ok k) (consOk_cons (f123ok k) (consOk_cons (f298ok k) (consOk_nil)))))
theorem f202ok (k : Nat) : FnOk Try.prog 202 (f202con (spec_RecValues k)) :=
  let hc := f202hc k
  fnOk (fn := Try.f202) (code := bodyOf Try.f202) (res := [.tmp 6, .tmp 7]) hc (by kernel_rfl) (by kernel_rfl) (by decide) (by kernel_rfl) (by kernel_rfl) (by kernel_rfl) (Nat.le_of_ble_eq_true (by kernel_rfl)) _
    (fun x => Snd.exec hc _ _ _ _)
    (fun x => by kernel_rfl)

def f99in : SS := ⟨[(0, (.ro (.list 174 (.st (.cons .str (.cons (.int .i64) (.cons (.int .i64) (.cons (.int .i64) .nil)))))))), (1, (.ro (.list 150 (.st (.cons (.int .i64) (.cons (.int .i64) (.cons (.st (.cons (.int .i64) (.cons .str .nil))) (.cons (.int .i64) (.cons (.int .i64) .nil))))))))), (2, (.ro (.int .i64))), (3, (.ro (.st (.cons (.list 75 (.st (.cons (.int .i64) (.cons .str .nil)))) .nil))))], []⟩
def f99out : SS := ⟨[(0, (.ro .bool))], []⟩
def f99con (F : (List TCol) → (List TPred) → Int → TRec → Option Bool) : Con := ⟨f99in, f99out, 4, 1, fun x => F x.1 x.2.1 x.2.2.1 x.2.2.2⟩
def f99ctx (k : Nat) (S99 : (List TCol) → (List TPred) → Int → TRec → Option Bool) : Ctx := ⟨tyAt tys, conAt [(40, [f40con (spec_LeafOf k)]), (99, [f99con S99]), (126, [f126con (spec_ValLess k)]), (202, [f202con (spec_RecValues k)])], 113, fun _ => false⟩
theorem f99hc (k : Nat) (S99 : (List TCol) → (List TPred) → Int → TRec → Option Bool) (h99 : FnOk Try.prog 99 (f99con S99)) : CtxOk Try.prog (f99ctx k S99) := ctxOk tys_ok mixed_ok (consOk_cons (f40ok k) (consOk_cons (h99) (consOk_cons (f126ok k) (consOk_cons (f202ok k) (consOk_nil)))))
theorem f99okb (k : Nat) (S99 : (List TCol) → (List TPred) → Int → TRec → Option Bool) (h99 : FnOk Try.prog 99 (f99con S99)) : FnOk Try.prog 99 (f99con (spec_l20Holds.b k S99)) :=
  let hc := f99hc k S99 h99
  fnOk (fn := Try.f99) (code := bodyOf Try.f99) (res := [.tmp 8]) hc (by kernel_rfl) (by kernel_rfl) (by decide) (by kernel_rfl) (by kernel_rfl) (by kernel_rfl) (Nat.le_of_ble_eq_true (by kernel_rfl)) _
    (fun x => Snd.exec hc _ _ _ _)
    (fun x => by kernel_rfl)
theorem f99rec (k : Nat) : ∀ d, FnOk Try.prog 99 (f99con (spec_l20Holds.d k d))
  | 0 => FnOk_none (fun _ => rfl)
  | d + 1 => let ih := f99rec k d
    f99okb k (spec_l20Holds.d k d) ih
theorem f99ok (k : Nat) : FnOk Try.prog 99 (f99con (spec_l20Holds k)) := (f99rec k k)

def f23in : SS := ⟨[(0, (.ro (.list 174 (.st (.cons .str (.cons (.int .i64) (.cons (.int .i64) (.cons (.int .i64) .nil)))))))), (1, (.ro (.list 150 (.st (.cons (.int .i64) (.cons (.int .i64) (.cons (.st (.cons (.int .i64) (.cons .str .nil))) (.cons (.int .i64) (.cons (.int .i64) .nil))))))))), (2, (.ro (.st (.cons (.list 75 (.st (.cons (.int .i64) (.cons .str .nil)))) .nil))))], []⟩
def f23out : SS := ⟨[(0, (.ro .bool))], []⟩
def f23con (F : (List TCol) → (List TPred) → TRec → Option Bool) : Con := ⟨f23in, f23out, 3, 1, fun x => F x.1 x.2.1 x.2.2⟩
def f23ctx (k : Nat) : Ctx := ⟨tyAt tys, conAt [(27, [f27con (spec_PredOk k)]), (28, [f28con (spec_RecOk k)]), (99, [f99con (spec_l20Holds k)])], 24, fun _ => false⟩
theorem f23hc (k : Nat) : CtxOk Try.prog (f23ctx k) := ctxOk tys_ok mixed_ok (consOk_cons (f27ok k) (consOk_cons (f28ok k) (consOk_cons (f99ok k) (consOk_nil))))
theorem f23ok (k : Nat) : FnOk Try.prog 23 (f23con (spec_PredHolds k)) :=
  let hc := f23hc k
  fnOk (fn := Try.f23) (code := bodyOf Try.f23) (res := [.tmp 6]) hc (by kernel_rfl) (by kernel_rfl) (by decide) (by kernel_rfl) (by kernel_rfl) (by kernel_rfl) (Nat.le_of_ble_eq_true (by kernel_rfl)) _
    (fun x => Snd.exec hc _ _ _ _)
    (fun x => by kernel_rfl)

def f24in : SS := ⟨[(0, (.ro (.list 150 (.st (.cons (.int .i64) (.cons (.int .i64) (.cons (.st (.cons (.int .i64) (.cons .str .nil))) (.cons (.int .i64) (.cons (.int .i64) .nil)))))))))], []⟩
def f24out : SS := ⟨[(0, (.h 100)), (1, (.ro .bool))], [(100, (.sl 150 (.st (.cons (.int .i64) (.cons (.int .i64) (.cons (.st (.cons (.int .i64) (.cons .str .nil))) (.cons (.int .i64) (.cons (.int .i64) .nil))))))))]⟩
def f24con (F : (List TPred) → Option ((Unit × Bool) × (List TPred))) : Con := ⟨f24in, f24out, 1, 2, fun x => F x⟩
def f24ctx (k : Nat) : Ctx := ⟨tyAt tys, conAt [], 22, fun _ => false⟩
theorem f24hc (k : Nat) : CtxOk Try.prog (f24ctx k) := ctxOk tys_ok mixed_ok (consOk_nil)
theorem f24ok (k : Nat) : FnOk Try.prog 24 (f24con (impl_PredNot k)) :=
  let hc := f24hc k
  fnOk (fn := Try.f24) (code := bodyOf Try.f24) (res := [.tmp 2, .tmp 3]) hc (by kernel_rfl) (by kernel_rfl) (by decide) (by kernel_rfl) (by kernel_rfl) (by kernel_rfl) (Nat.le_of_ble_eq_true (by kernel_rfl)) _
    (fun x => Snd.exec hc _ _ _ _)
    (fun x => by kernel_rfl)

def f26in : SS := ⟨[(0, (.ro (.int .i64))), (1, (.ro (.list 150 (.st (.cons (.int .i64) (.cons (.int .i64) (.cons (.st (.cons (.int .i64) (.cons .str .nil))) (.cons (.int .i64) (.cons (.int .i64) .nil))))))))), (2, (.ro (.list 150 (.st (.cons (.int .i64) (.cons (.int .i64) (.cons (.st (.cons (.int .i64) (.cons .str .nil))) (.cons (.int .i64) (.cons (.int .i64) .nil)))))))))], []⟩
def f26out : SS := ⟨[(0, (.h 100)), (1, (.ro .bool))], [(100, (.sl 150 (.st (.cons (.int .i64) (.cons (.int .i64) (.cons (.st (.cons (.int .i64) (.cons .str .nil))) (.cons (.int .i64) (.cons (.int .i64) .nil))))))))]⟩
def f26s11 : SS := ⟨[(0, (.ro (.int .i64))), (1, (.ro (.list 150 (.st (.cons (.int .i64) (.cons (.int .i64) (.cons (.st (.cons (.int .i64) (.cons .str .nil))) (.cons (.int .i64) (.cons (.int .i64) .nil))))))))), (8, (.h 100)), (10, (.p 101)), (36, (.ro (.list 150 (.st (.cons (.int .i64) (.cons (.int .i64) (.cons (.st (.cons (.int .i64) (.cons .str .nil))) (.cons (.int .i64) (.cons (.int .i64) .nil))))))))), (37, (.ro (.int .i64))), (38, (.ro (.int .i64)))], [(100, (.sl 150 (.st (.cons (.int .i64) (.cons (.int .i64) (.cons (.st (.cons (.int .i64) (.cons .str .nil))) (.cons (.int .i64) (.cons (.int .i64) .nil)))))))), (101, (.box (.st (.cons (.int .i64) (.cons (.int .i64) (.cons (.st (.cons (.int .i64) (.cons .str .nil))) (.cons (.int .i64) (.cons (.int .i64) .nil)))))) (.agg (.cons (.ro (.int .i64)) (.cons (.ro (.int .i64)) (.cons (.agg (.cons (.ro (.int .i64)) (.cons (.ro .str) .nil))) (.cons (.ro (.int .i64)) (.cons (.ro (.int .i64)) .nil))))))))]⟩
def f26s9 : SS := ⟨[(0, (.ro (.int .i64))), (1, (.ro (.list 150 (.st (.cons (.int .i64) (.cons (.int .i64) (.cons (.st (.cons (.int .i64) (.cons .str .nil))) (.cons (.int .i64) (.cons (.int .i64) .nil))))))))), (8, (.h 100)), (10, (.p 101)), (36, (.ro (.list 150 (.st (.cons (.int .i64) (.cons (.int .i64) (.cons (.st (.cons (.int .i64) (.cons .str .nil))) (.cons (.int .i64) (.cons (.int .i64) .nil))))))))), (37, (.ro (.int .i64))), (38, (.ro (.int .i64)))], [(100, (.sl 150 (.st (.cons (.int .i64) (.cons (.int .i64) (.cons (.st (.cons (.int .i64) (.cons .str .nil))) (.cons (.int .i64) (.cons (.int .i64) .nil)))))))), (101, (.box (.st (.cons (.int .i64) (.cons (.int .i64) (.cons (.st (.cons (.int .i64) (.cons .str .nil))) (.cons (.int .i64) (.cons (.int .i64) .nil)))))) (.agg (.cons (.ro (.int .i64)) (.cons (.ro (.int .i64)) (.cons (.agg (.cons (.ro (.int .i64)) (.cons (.ro .str) .nil))) (.cons (.ro (.int .i64)) (.cons (.ro (.int .i64)) .nil))))))))]⟩
def f26s5 : SS := ⟨[(0, (.ro (.int .i64))), (1, (.ro (.list 150 (.st (.cons (.int .i64) (.cons (.int .i64) (.cons (.st (.cons (.int .i64) (.cons .str .nil))) (.cons (.int .i64) (.cons (.int .i64) .nil))))))))), (8, (.h 100)), (36, (.ro (.list 150 (.st (.cons (.int .i64) (.cons (.int .i64) (.cons (.st (.cons (.int .i64) (.cons .str .nil))) (.cons (.int .i64) (.cons (.int .i64) .nil))))))))), (37, (.ro (.int .i64))), (38, (.ro (.int .i64)))], [(100, (.sl 150 (.st (.cons (.int .i64) (.cons (.int .i64) (.cons (.st (.cons (.int .i64) (.cons .str .nil))) (.cons (.int .i64) (.cons (.int .i64) .nil))))))))]⟩
def f26con (F : Int → (List TPred) → (List TPred) → Option ((Unit × Bool) × (List TPred))) : Con := ⟨f26in, f26out, 3, 2, fun x => F x.1 x.2.1 x.2.2⟩
def f26ctx (k : Nat) : Ctx := ⟨tyAt tys, conAt [(100, [f100con (impl_isPair k)])], 81, fun _ => false⟩
theorem f26hc (k : Nat) : CtxOk Try.prog (f26ctx k) := ctxOk tys_ok mixed_ok (consOk_cons (f100ok k) (consOk_nil))
theorem f26ok (k : Nat) : FnOk Try.prog 26 (f26con (impl_PredPair k)) :=
  let hc := f26hc k
  fnOk (fn := Try.f26) (code := bodyOf Try.f26) (res := [.tmp 6, .tmp 7]) hc (by kernel_rfl) (by kernel_rfl) (by decide) (by kernel_rfl) (by kernel_rfl) (by kernel_rfl) (Nat.le_of_ble_eq_true (by kernel_rfl)) _
    (fun x => Snd.seq (by kernel_rfl) (Snd.seq (by kernel_rfl) (Snd.seq (by kernel_rfl) (Snd.seq (by kernel_rfl) (Snd.exec hc _ _ _ _) (Snd.seq (by kernel_rfl) (Snd.block (id := 0) (by kernel_rfl) (Snd.loop' (by kernel_rfl) f26s5 (fun n x => impl_PredPair.l5 k n x.1.1 x.1.2.1 x.1.2.2.2.1 x.1.2.2.2.2.1 x.1.2.2.2.2.2 x.2) _ (fun _ => rfl) (fun n5 => Snd.seq (by kernel_rfl) (Snd.seq (by kernel_rfl) (Snd.seq (by kernel_rfl) (Snd.exec hc _ _ _ _) (Snd.block (id := 1) (by kernel_rfl) (Snd.seq (by kernel_rfl) (Snd.seq (by kernel_rfl) (Snd.cut (Snd.seq (by kernel_rfl) (Snd.cut (Snd.exec hc _ _ _ _) ⟨f26s11, fun x => impl_PredPair.c11 k (impl_PredPair.l5 k n5) x.1.1 x.1.2.1 x.1.2.2.2.2.1 x.1.2.2.2.2.2.1 x.1.2.2.2.2.2.2 x.2.1 x.2.2⟩ (fun x => by kernel_rfl)) (Snd.exec hc _ _ _ _)) ⟨f26s9, fun x => impl_PredPair.c9 k (impl_PredPair.l5 k n5) x.1.1 x.1.2.1 x.1.2.2.2.2.1 x.1.2.2.2.2.2.1 x.1.2.2.2.2.2.2 x.2.1 x.2.2⟩ (fun x => by kernel_rfl)) (Snd.exec hc _ _ _ _)) (Snd.exec hc _ _ _ _)))) (Snd.exec hc _ _ _ _)) (Snd.exec hc _ _ _ _)) (fun n x => by kernel_rfl) k)) (Snd.exec hc _ _ _ _))) (Snd.exec hc _ _ _ _)) (Snd.exec hc _ _ _ _)) (Snd.exec hc _ _ _ _))
    (fun x => by kernel_rfl)

def f4in : SS := ⟨[(0, (.ro (.list 5 (.int .u8))))], []⟩
def f4out : SS := ⟨[(0, (.ro .bool))], []⟩
def f4con (F : (List Int) → Option Bool) : Con := ⟨f4in, f4out, 1, 1, fun x => F x⟩
def f4ctx (k : Nat) : Ctx := ⟨tyAt tys, conAt [(13, [f13con (laws_big k)]), (21, [f21con (spec_DrawPredHolds k)]), (22, [f22con (impl_PredHolds k)]), (23, [f23con (spec_PredHolds k)]), (24, [f24con (impl_PredNot k)]), (25, [f25con (spec_PredNot k)]), (26, [f26con (impl_PredPair k)]), (27, [f27con (spec_PredOk k)]), (28, [f28con (spec_RecOk k)]), (29, [f29con (impl_PredOk k)])], 110, fun _ => false⟩
theorem f4hc (k : Nat) : CtxOk Try.prog (f4ctx k) := ctxOk tys_ok mixed_ok (consOk_cons (f13ok k) (consOk_cons (f21ok k) (consOk_cons (f22ok k) (consOk_cons (f23ok k) (consOk_cons (f24ok k) (consOk_cons (f25ok k) (consOk_cons (f26ok k) (consOk_cons (f27ok k) (consOk_cons (f28ok k) (consOk_cons (f29ok k) (consOk_nil)))))))))))
theorem f4ok (k : Nat) : FnOk Try.prog 4 (f4con (laws_FnPreds k)) :=
  let hc := f4hc k
  fnOk (fn := Try.f4) (code := bodyOf Try.f4) (res := [.tmp 2]) hc (by kernel_rfl) (by kernel_rfl) (by decide) (by kernel_rfl) (by kernel_rfl) (by kernel_rfl) (Nat.le_of_ble_eq_true (by kernel_rfl)) _
    (fun x => Snd.exec hc _ _ _ _)
    (fun x => by kernel_rfl)

end Go.Proofs.Ytbmgddnjdcagpaa
