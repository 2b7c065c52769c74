/- The walks, printed by program. -/
import Derived.Test.YtifcflanpjkgkaaBase
import Derived.Test.YtifcflanpjkgkaaVACF0
set_option linter.unusedVariables false
set_option maxRecDepth 100000
namespace Go.Proofs.Ytifcflanpjkgkaa
open Go.Am Go.Fn

def f12in : SS := ⟨[(0, (.ro (.list 5 (.int .u8))))], []⟩
def f12out : SS := ⟨[(0, (.ro .bool))], []⟩
def f12con (F : (List Int) → Option Bool) : Con := ⟨f12in, f12out, 1, 1, fun x => F x⟩
def f12ctx (k : Nat) : Ctx := ⟨tyAt tys, conAt [], 6, fun _ => false⟩
theorem f12hc (k : Nat) : CtxOk Try.prog (f12ctx k) := ctxOk tys_ok mixed_ok (consOk_nil)
theorem f12ok (k : Nat) : FnOk Try.prog 12 (f12con (laws_big k)) :=
  let hc := f12hc k
  fnOk (fn := Try.f12) (code := bodyOf Try.f12) (res := [.tmp 2]) hc (by kernel_rfl) (by kernel_rfl) (by decide) (by kernel_rfl) (by kernel_rfl) (by kernel_rfl) (Nat.le_of_ble_eq_true (by kernel_rfl)) _
    (fun x => Snd.exec hc _ _ _ _)
    (fun x => by kernel_rfl)

def f84in : SS := ⟨[(0, (.ro (.list 5 (.int .u8))))], []⟩
def f84out : SS := ⟨[(0, (.p 100))], [(100, (.box (.st (.cons (.list 5 (.int .u8)) (.cons (.int .i64) (.cons (.int .i64) .nil)))) (.agg (.cons (.ro (.list 5 (.int .u8))) (.cons (.ro (.int .i64)) (.cons (.ro (.int .i64)) .nil))))))]⟩
def f84s3 : SS := ⟨[(0, (.ro (.list 5 (.int .u8)))), (3, (.ro (.int .i64))), (4, (.ro (.int .i64)))], []⟩
def f84con (F : (List Int) → Option (Unit × TL1Cur)) : Con := ⟨f84in, f84out, 1, 1, fun x => F x⟩
def f84ctx (k : Nat) : Ctx := ⟨tyAt tys, conAt [], 32, fun _ => false⟩
theorem f84hc (k : Nat) : CtxOk Try.prog (f84ctx k) := ctxOk tys_ok mixed_ok (consOk_nil)
theorem f84ok (k : Nat) : FnOk Try.prog 84 (f84con (spec_l1New k)) :=
  let hc := f84hc k
  fnOk (fn := Try.f84) (code := bodyOf Try.f84) (res := [.tmp 2]) hc (by kernel_rfl) (by kernel_rfl) (by decide) (by kernel_rfl) (by kernel_rfl) (by kernel_rfl) (Nat.le_of_ble_eq_true (by kernel_rfl)) _
    (fun x => Snd.seq (by kernel_rfl) (Snd.seq (by kernel_rfl) (Snd.seq (by kernel_rfl) (Snd.exec hc _ _ _ _) (Snd.seq (by kernel_rfl) (Snd.block (id := 0) (by kernel_rfl) (Snd.loop' (by kernel_rfl) f84s3 (fun n x => spec_l1New.l3 k n x.1 x.2.1 x.2.2) _ (fun _ => rfl) (fun n3 => Snd.exec hc _ _ _ _) (fun n x => by kernel_rfl) k)) (Snd.exec hc _ _ _ _))) (Snd.exec hc _ _ _ _)) (Snd.exec hc _ _ _ _))
    (fun x => by kernel_rfl)

def f74in : SS := ⟨[(0, (.ro (.int .i64))), (1, (.ro (.int .i64))), (2, (.ro (.int .i64)))], []⟩
def f74out : SS := ⟨[(0, (.ro .bool))], []⟩
def f74con (F : Int → Int → Int → Option Bool) : Con := ⟨f74in, f74out, 3, 1, fun x => F x.1 x.2.1 x.2.2⟩
def f74ctx (k : Nat) : Ctx := ⟨tyAt tys, conAt [], 15, fun _ => false⟩
theorem f74hc (k : Nat) : CtxOk Try.prog (f74ctx k) := ctxOk tys_ok mixed_ok (consOk_nil)
theorem f74ok (k : Nat) : FnOk Try.prog 74 (f74con (spec_l1In k)) :=
  let hc := f74hc k
  fnOk (fn := Try.f74) (code := bodyOf Try.f74) (res := [.tmp 6]) hc (by kernel_rfl) (by kernel_rfl) (by decide) (by kernel_rfl) (by kernel_rfl) (by kernel_rfl) (Nat.le_of_ble_eq_true (by kernel_rfl)) _
    (fun x => Snd.exec hc _ _ _ _)
    (fun x => by kernel_rfl)

def f145in : SS := ⟨[(0, (.ro .str))], []⟩
def f145out : SS := ⟨[(0, (.ro .bool))], []⟩
def f145s4 : SS := ⟨[(0, (.ro .str)), (3, (.ro (.int .i64)))], []⟩
def f145con (F : ByteArray → Option Bool) : Con := ⟨f145in, f145out, 1, 1, fun x => F x⟩
def f145ctx (k : Nat) : Ctx := ⟨tyAt tys, conAt [(74, [f74con (spec_l1In k)])], 24, fun _ => false⟩
theorem f145hc (k : Nat) : CtxOk Try.prog (f145ctx k) := ctxOk tys_ok mixed_ok (consOk_cons (f74ok k) (consOk_nil))
theorem f145ok (k : Nat) : FnOk Try.prog 145 (f145con (spec_l5Name k)) :=
  let hc := f145hc k
  fnOk (fn := Try.f145) (code := bodyOf Try.f145) (res := [.tmp 2]) hc (by kernel_rfl) (by kernel_rfl) (by decide) (by kernel_rfl) (by kernel_rfl) (by kernel_rfl) (Nat.le_of_ble_eq_true (by kernel_rfl)) _
    (fun x => Snd.seq (by kernel_rfl) (Snd.seq (by kernel_rfl) (Snd.seq (by kernel_rfl) (Snd.exec hc _ _ _ _) (Snd.seq (by kernel_rfl) (Snd.block (id := 0) (by kernel_rfl) (Snd.loop' (by kernel_rfl) f145s4 (fun n x => spec_l5Name.l4 k n x.1 x.2) _ (fun _ => rfl) (fun n4 => Snd.exec hc _ _ _ _) (fun n x => by kernel_rfl) k)) (Snd.exec hc _ _ _ _))) (Snd.exec hc _ _ _ _)) (Snd.exec hc _ _ _ _))
    (fun x => by kernel_rfl)

def f146in : SS := ⟨[(0, (.ro (.int .i64)))], []⟩
def f146out : SS := ⟨[(0, (.ro .bool))], []⟩
def f146s7 : SS := ⟨[(4, (.ro .bool))], []⟩
def f146con (F : Int → Option Bool) : Con := ⟨f146in, f146out, 1, 1, fun x => F x⟩
def f146ctx (k : Nat) : Ctx := ⟨tyAt tys, conAt [], 10, fun _ => false⟩
theorem f146hc (k : Nat) : CtxOk Try.prog (f146ctx k) := ctxOk tys_ok mixed_ok (consOk_nil)
theorem f146ok (k : Nat) : FnOk Try.prog 146 (f146con (spec_l5Type k)) :=
  let hc := f146hc k
  fnOk (fn := Try.f146) (code := bodyOf Try.f146) (res := [.tmp 2]) hc (by kernel_rfl) (by kernel_rfl) (by decide) (by kernel_rfl) (by kernel_rfl) (by kernel_rfl) (Nat.le_of_ble_eq_true (by kernel_rfl)) _
    (fun x => Snd.seq (by kernel_rfl) (Snd.seq (by kernel_rfl) (Snd.exec hc _ _ _ _) (Snd.seq (by kernel_rfl) (Snd.block (id := 0) (by kernel_rfl) (Snd.seq (by kernel_rfl) (Snd.cut (Snd.exec hc _ _ _ _) ⟨f146s7, fun x => spec_l5Type.c7 k x⟩ (fun x => by kernel_rfl)) (Snd.exec hc _ _ _ _))) (Snd.exec hc _ _ _ _))) (Snd.exec hc _ _ _ _))
    (fun x => by kernel_rfl)

def f75in : SS := ⟨[(0, (.ro (.list 126 (.st (.cons .str (.cons (.int .i64) (.cons (.int .i64) (.cons (.int .i64) .nil)))))))), (1, (.ro (.int .i64))), (2, (.ro (.int .i64)))], []⟩
def f75out : SS := ⟨[(0, (.ro (.int .i64)))], []⟩
def f75s20 : SS := ⟨[(0, (.ro (.list 126 (.st (.cons .str (.cons (.int .i64) (.cons (.int .i64) (.cons (.int .i64) .nil)))))))), (2, (.ro (.int .i64))), (7, (.p 100)), (8, (.ro (.int .i64))), (9, (.h 101)), (10, (.ro (.int .i64))), (11, (.ro (.int .i64)))], [(100, (.box (.st (.cons .str (.cons (.int .i64) (.cons (.int .i64) (.cons (.int .i64) .nil))))) (.agg (.cons (.ro .str) (.cons (.ro (.int .i64)) (.cons (.ro (.int .i64)) (.cons (.ro (.int .i64)) .nil))))))), (101, (.sl 9 .str))]⟩
def f75s15 : SS := ⟨[(0, (.ro (.list 126 (.st (.cons .str (.cons (.int .i64) (.cons (.int .i64) (.cons (.int .i64) .nil)))))))), (2, (.ro (.int .i64))), (7, (.p 100)), (8, (.ro (.int .i64))), (9, (.h 101)), (10, (.ro (.int .i64)))], [(100, (.box (.st (.cons .str (.cons (.int .i64) (.cons (.int .i64) (.cons (.int .i64) .nil))))) (.agg (.cons (.ro .str) (.cons (.ro (.int .i64)) (.cons (.ro (.int .i64)) (.cons (.ro (.int .i64)) .nil))))))), (101, (.sl 9 .str))]⟩
def f75con (F : (List TCol) → Int → Int → Option Int) : Con := ⟨f75in, f75out, 3, 1, fun x => F x.1 x.2.1 x.2.2⟩
def f75ctx (k : Nat) (S75 : (List TCol) → Int → Int → Option Int) : Ctx := ⟨tyAt tys, conAt [(74, [f74con (spec_l1In k)]), (75, [f75con S75]), (145, [f145con (spec_l5Name k)]), (146, [f146con (spec_l5Type k)])], 119, fun _ => false⟩
theorem f75hc (k : Nat) (S75 : (List TCol) → Int → Int → Option Int) (h75 : FnOk Try.prog 75 (f75con S75)) : CtxOk Try.prog (f75ctx k S75) := ctxOk tys_ok mixed_ok (consOk_cons (f74ok k) (consOk_cons (h75) (consOk_cons (f145ok k) (consOk_cons (f146ok k) (consOk_nil)))))
theorem f75okb (k : Nat) (S75 : (List TCol) → Int → Int → Option Int) (h75 : FnOk Try.prog 75 (f75con S75)) : FnOk Try.prog 75 (f75con (spec_l5Check.b k S75)) :=
  let hc := f75hc k S75 h75
  fnOk (fn := Try.f75) (code := bodyOf Try.f75) (res := [.tmp 6]) hc (by kernel_rfl) (by kernel_rfl) (by decide) (by kernel_rfl) (by kernel_rfl) (by kernel_rfl) (Nat.le_of_ble_eq_true (by kernel_rfl)) _
    (fun x => Snd.seq (by kernel_rfl) (Snd.seq (by kernel_rfl) (Snd.seq (by kernel_rfl) (Snd.seq (by kernel_rfl) (Snd.seq (by kernel_rfl) (Snd.seq (by kernel_rfl) (Snd.seq (by kernel_rfl) (Snd.seq (by kernel_rfl) (Snd.seq (by kernel_rfl) (Snd.exec hc _ _ _ _) (Snd.seq (by kernel_rfl) (Snd.block (id := 0) (by kernel_rfl) (Snd.loop' (by kernel_rfl) f75s15 (fun n x => spec_l5Check.l15 k S75 n x.1.1 x.1.2.1 x.1.2.2.2.1 x.1.2.2.2.2.2 x.2.1 x.2.2) _ (fun _ => rfl) (fun n15 => Snd.seq (by kernel_rfl) (Snd.seq (by kernel_rfl) (Snd.exec hc _ _ _ _) (Snd.block (id := 1) (by kernel_rfl) (Snd.seq (by kernel_rfl) (Snd.seq (by kernel_rfl) (Snd.exec hc _ _ _ _) (Snd.seq (by kernel_rfl) (Snd.block (id := 2) (by kernel_rfl) (Snd.loop' (by kernel_rfl) f75s20 (fun n x => spec_l5Check.l20 k S75 (spec_l5Check.l15 k S75 n15) n x.1.1 x.1.2.1 x.1.2.2.2.1 x.1.2.2.2.2.2.1 x.1.2.2.2.2.2.2 x.2.1 x.2.2) _ (fun _ => rfl) (fun n20 => Snd.exec hc _ _ _ _) (fun n x => by kernel_rfl) k)) (Snd.exec hc _ _ _ _))) (Snd.exec hc _ _ _ _)))) (Snd.exec hc _ _ _ _)) (fun n x => by kernel_rfl) k)) (Snd.exec hc _ _ _ _))) (Snd.exec hc _ _ _ _)) (Snd.exec hc _ _ _ _)) (Snd.exec hc _ _ _ _)) (Snd.exec hc _ _ _ _)) (Snd.exec hc _ _ _ _)) (Snd.exec hc _ _ _ _)) (Snd.exec hc _ _ _ _)) (Snd.exec hc _ _ _ _))
    (fun x => by kernel_rfl)
theorem f75rec (k : Nat) : ∀ d, FnOk Try.prog 75 (f75con (spec_l5Check.d k d))
  | 0 => FnOk_none (fun _ => rfl)
  | d + 1 => let ih := f75rec k d
    f75okb k (spec_l5Check.d k d) ih
theorem f75ok (k : Nat) : FnOk Try.prog 75 (f75con (spec_l5Check k)) := (f75rec k k)

def f17in : SS := ⟨[(0, (.ro (.list 126 (.st (.cons .str (.cons (.int .i64) (.cons (.int .i64) (.cons (.int .i64) .nil))))))))], []⟩
def f17out : SS := ⟨[(0, (.ro .bool))], []⟩
def f17con (F : (List TCol) → Option Bool) : Con := ⟨f17in, f17out, 1, 1, fun x => F x⟩
def f17ctx (k : Nat) : Ctx := ⟨tyAt tys, conAt [(74, [f74con (spec_l1In k)]), (75, [f75con (spec_l5Check k)])], 13, fun _ => false⟩
theorem f17hc (k : Nat) : CtxOk Try.prog (f17ctx k) := ctxOk tys_ok mixed_ok (consOk_cons (f74ok k) (consOk_cons (f75ok k) (consOk_nil)))
theorem f17ok (k : Nat) : FnOk Try.prog 17 (f17con (spec_SchemaOk k)) :=
  let hc := f17hc k
  fnOk (fn := Try.f17) (code := bodyOf Try.f17) (res := [.tmp 2]) hc (by kernel_rfl) (by kernel_rfl) (by decide) (by kernel_rfl) (by kernel_rfl) (by kernel_rfl) (Nat.le_of_ble_eq_true (by kernel_rfl)) _
    (fun x => Snd.exec hc _ _ _ _)
    (fun x => by kernel_rfl)

def f105in : SS := ⟨[(0, (.p 0))], [(0, (.box (.st (.cons (.list 5 (.int .u8)) (.cons (.int .i64) (.cons (.int .i64) .nil)))) (.agg (.cons (.ro (.list 5 (.int .u8))) (.cons (.ro (.int .i64)) (.cons (.ro (.int .i64)) .nil))))))]⟩
def f105out : SS := ⟨[(0, (.ro (.int .i64)))], [(0, (.box (.st (.cons (.list 5 (.int .u8)) (.cons (.int .i64) (.cons (.int .i64) .nil)))) (.agg (.cons (.ro (.list 5 (.int .u8))) (.cons (.ro (.int .i64)) (.cons (.ro (.int .i64)) .nil))))))]⟩
def f105s6 : SS := ⟨[(3, (.ro (.int .i64)))], [(0, (.box (.st (.cons (.list 5 (.int .u8)) (.cons (.int .i64) (.cons (.int .i64) .nil)))) (.agg (.cons (.ro (.list 5 (.int .u8))) (.cons (.ro (.int .i64)) (.cons (.ro (.int .i64)) .nil))))))]⟩
def f105con (F : TL1Cur → Option (Int × TL1Cur)) : Con := ⟨f105in, f105out, 1, 1, fun x => F x.2⟩
def f105ctx (k : Nat) : Ctx := ⟨tyAt tys, conAt [], 58, fun _ => false⟩
theorem f105hc (k : Nat) : CtxOk Try.prog (f105ctx k) := ctxOk tys_ok mixed_ok (consOk_nil)
theorem f105ok (k : Nat) : FnOk Try.prog 105 (f105con (spec_l1Byte k)) :=
  let hc := f105hc k
  fnOk (fn := Try.f105) (code := bodyOf Try.f105) (res := [.tmp 2]) hc (by kernel_rfl) (by kernel_rfl) (by decide) (by kernel_rfl) (by kernel_rfl) (by kernel_rfl) (Nat.le_of_ble_eq_true (by kernel_rfl)) _
    (fun x => Snd.seq (by kernel_rfl) (Snd.seq (by kernel_rfl) (Snd.seq (by kernel_rfl) (Snd.seq (by kernel_rfl) (Snd.cut (Snd.exec hc _ _ _ _) ⟨f105s6, fun x => spec_l1Byte.c6 k x.1 x.2⟩ (fun x => by kernel_rfl)) (Snd.exec hc _ _ _ _)) (Snd.exec hc _ _ _ _)) (Snd.exec hc _ _ _ _)) (Snd.exec hc _ _ _ _))
    (fun x => by kernel_rfl)

def f87in : SS := ⟨[(0, (.p 0)), (1, (.ro (.int .i64)))], [(0, (.box (.st (.cons (.list 5 (.int .u8)) (.cons (.int .i64) (.cons (.int .i64) .nil)))) (.agg (.cons (.ro (.list 5 (.int .u8))) (.cons (.ro (.int .i64)) (.cons (.ro (.int .i64)) .nil))))))]⟩
def f87out : SS := ⟨[(0, (.ro (.int .i64)))], [(0, (.box (.st (.cons (.list 5 (.int .u8)) (.cons (.int .i64) (.cons (.int .i64) .nil)))) (.agg (.cons (.ro (.list 5 (.int .u8))) (.cons (.ro (.int .i64)) (.cons (.ro (.int .i64)) .nil))))))]⟩
def f87con (F : Int → TL1Cur → Option (Int × TL1Cur)) : Con := ⟨f87in, f87out, 2, 1, fun x => F x.1.2 x.2⟩
def f87ctx (k : Nat) : Ctx := ⟨tyAt tys, conAt [(105, [f105con (spec_l1Byte k)])], 37, fun _ => false⟩
theorem f87hc (k : Nat) : CtxOk Try.prog (f87ctx k) := ctxOk tys_ok mixed_ok (consOk_cons (f105ok k) (consOk_nil))
theorem f87ok (k : Nat) : FnOk Try.prog 87 (f87con (spec_l1Below k)) :=
  let hc := f87hc k
  fnOk (fn := Try.f87) (code := bodyOf Try.f87) (res := [.tmp 4]) hc (by kernel_rfl) (by kernel_rfl) (by decide) (by kernel_rfl) (by kernel_rfl) (by kernel_rfl) (Nat.le_of_ble_eq_true (by kernel_rfl)) _
    (fun x => Snd.exec hc _ _ _ _)
    (fun x => by kernel_rfl)

def f106in : SS := ⟨[(0, (.p 0)), (1, (.ro (.list 3 (.int .i64))))], [(0, (.box (.st (.cons (.list 5 (.int .u8)) (.cons (.int .i64) (.cons (.int .i64) .nil)))) (.agg (.cons (.ro (.list 5 (.int .u8))) (.cons (.ro (.int .i64)) (.cons (.ro (.int .i64)) .nil))))))]⟩
def f106out : SS := ⟨[(0, (.ro (.int .i64)))], [(0, (.box (.st (.cons (.list 5 (.int .u8)) (.cons (.int .i64) (.cons (.int .i64) .nil)))) (.agg (.cons (.ro (.list 5 (.int .u8))) (.cons (.ro (.int .i64)) (.cons (.ro (.int .i64)) .nil))))))]⟩
def f106con (F : (List Int) → TL1Cur → Option (Int × TL1Cur)) : Con := ⟨f106in, f106out, 2, 1, fun x => F x.1.2 x.2⟩
def f106ctx (k : Nat) : Ctx := ⟨tyAt tys, conAt [(87, [f87con (spec_l1Below k)])], 12, fun _ => false⟩
theorem f106hc (k : Nat) : CtxOk Try.prog (f106ctx k) := ctxOk tys_ok mixed_ok (consOk_cons (f87ok k) (consOk_nil))
theorem f106ok (k : Nat) : FnOk Try.prog 106 (f106con (spec_l1PickInt k)) :=
  let hc := f106hc k
  fnOk (fn := Try.f106) (code := bodyOf Try.f106) (res := [.tmp 4]) hc (by kernel_rfl) (by kernel_rfl) (by decide) (by kernel_rfl) (by kernel_rfl) (by kernel_rfl) (Nat.le_of_ble_eq_true (by kernel_rfl)) _
    (fun x => Snd.exec hc _ _ _ _)
    (fun x => by kernel_rfl)

def f138in : SS := ⟨[(0, (.p 0)), (1, (.ro (.int .i64)))], [(0, (.box (.st (.cons (.list 5 (.int .u8)) (.cons (.int .i64) (.cons (.int .i64) .nil)))) (.agg (.cons (.ro (.list 5 (.int .u8))) (.cons (.ro (.int .i64)) (.cons (.ro (.int .i64)) .nil))))))]⟩
def f138out : SS := ⟨[(0, (.ro .bool))], [(0, (.box (.st (.cons (.list 5 (.int .u8)) (.cons (.int .i64) (.cons (.int .i64) .nil)))) (.agg (.cons (.ro (.list 5 (.int .u8))) (.cons (.ro (.int .i64)) (.cons (.ro (.int .i64)) .nil))))))]⟩
def f138con (F : Int → TL1Cur → Option (Bool × TL1Cur)) : Con := ⟨f138in, f138out, 2, 1, fun x => F x.1.2 x.2⟩
def f138ctx (k : Nat) : Ctx := ⟨tyAt tys, conAt [(87, [f87con (spec_l1Below k)])], 9, fun _ => false⟩
theorem f138hc (k : Nat) : CtxOk Try.prog (f138ctx k) := ctxOk tys_ok mixed_ok (consOk_cons (f87ok k) (consOk_nil))
theorem f138ok (k : Nat) : FnOk Try.prog 138 (f138con (spec_l1Once k)) :=
  let hc := f138hc k
  fnOk (fn := Try.f138) (code := bodyOf Try.f138) (res := [.tmp 4]) hc (by kernel_rfl) (by kernel_rfl) (by decide) (by kernel_rfl) (by kernel_rfl) (by kernel_rfl) (Nat.le_of_ble_eq_true (by kernel_rfl)) _
    (fun x => Snd.exec hc _ _ _ _)
    (fun x => by kernel_rfl)

def f148in : SS := ⟨[(0, (.p 0)), (1, (.ro .str)), (2, (.ro (.int .i64))), (3, (.h 10))], [(0, (.box (.st (.cons (.list 5 (.int .u8)) (.cons (.int .i64) (.cons (.int .i64) .nil)))) (.agg (.cons (.ro (.list 5 (.int .u8))) (.cons (.ro (.int .i64)) (.cons (.ro (.int .i64)) .nil)))))), (10, (.sl 126 (.st (.cons .str (.cons (.int .i64) (.cons (.int .i64) (.cons (.int .i64) .nil)))))))]⟩
def f148out : SS := ⟨[(0, (.h 100))], [(0, (.box (.st (.cons (.list 5 (.int .u8)) (.cons (.int .i64) (.cons (.int .i64) .nil)))) (.agg (.cons (.ro (.list 5 (.int .u8))) (.cons (.ro (.int .i64)) (.cons (.ro (.int .i64)) .nil)))))), (100, (.sl 126 (.st (.cons .str (.cons (.int .i64) (.cons (.int .i64) (.cons (.int .i64) .nil)))))))]⟩
def f148s13 : SS := ⟨[(0, (.p 0)), (2, (.ro (.int .i64))), (3, (.h 100)), (11, (.ro (.int .i64))), (12, (.ro (.int .i64)))], [(0, (.box (.st (.cons (.list 5 (.int .u8)) (.cons (.int .i64) (.cons (.int .i64) .nil)))) (.agg (.cons (.ro (.list 5 (.int .u8))) (.cons (.ro (.int .i64)) (.cons (.ro (.int .i64)) .nil)))))), (100, (.sl 126 (.st (.cons .str (.cons (.int .i64) (.cons (.int .i64) (.cons (.int .i64) .nil)))))))]⟩
def f148s12 : SS := ⟨[(0, (.p 0)), (2, (.ro (.int .i64))), (3, (.h 100)), (11, (.ro (.int .i64)))], [(0, (.box (.st (.cons (.list 5 (.int .u8)) (.cons (.int .i64) (.cons (.int .i64) .nil)))) (.agg (.cons (.ro (.list 5 (.int .u8))) (.cons (.ro (.int .i64)) (.cons (.ro (.int .i64)) .nil)))))), (100, (.sl 126 (.st (.cons .str (.cons (.int .i64) (.cons (.int .i64) (.cons (.int .i64) .nil)))))))]⟩
def f148s4 : SS := ⟨[(0, (.p 0)), (1, (.ro .str)), (2, (.ro (.int .i64))), (3, (.h 10)), (9, (.p 100))], [(0, (.box (.st (.cons (.list 5 (.int .u8)) (.cons (.int .i64) (.cons (.int .i64) .nil)))) (.agg (.cons (.ro (.list 5 (.int .u8))) (.cons (.ro (.int .i64)) (.cons (.ro (.int .i64)) .nil)))))), (10, (.sl 126 (.st (.cons .str (.cons (.int .i64) (.cons (.int .i64) (.cons (.int .i64) .nil))))))), (100, (.box (.st (.cons .str (.cons (.int .i64) (.cons (.int .i64) (.cons (.int .i64) .nil))))) (.agg (.cons (.ro .str) (.cons (.ro (.int .i64)) (.cons (.ro (.int .i64)) (.cons (.ro (.int .i64)) .nil)))))))]⟩
def f148con (F : ByteArray → Int → TL1Cur → (List TCol) → Option (Unit × TL1Cur × (List TCol))) : Con := ⟨f148in, f148out, 4, 1, fun x => F x.1.2.1 x.1.2.2.1 x.2.1 x.2.2⟩
def f148ctx (k : Nat) (S148 : ByteArray → Int → TL1Cur → (List TCol) → Option (Unit × TL1Cur × (List TCol))) : Ctx := ⟨tyAt tys, conAt [(87, [f87con (spec_l1Below k)]), (106, [f106con (spec_l1PickInt k)]), (138, [f138con (spec_l1Once k)]), (148, [f148con S148])], 75, fun s => Nat.beq s 22 || Nat.beq s 25⟩
theorem f148hc (k : Nat) (S148 : ByteArray → Int → TL1Cur → (List TCol) → Option (Unit × TL1Cur × (List TCol))) (h148 : FnOk Try.prog 148 (f148con S148)) : CtxOk Try.prog (f148ctx k S148) := ctxOk tys_ok mixed_ok (consOk_cons (f87ok k) (consOk_cons (f106ok k) (consOk_cons (f138ok k) (consOk_cons (h148) (consOk_nil)))))
theorem f148okb (k : Nat) (S148 : ByteArray → Int → TL1Cur → (List TCol) → Option (Unit × TL1Cur × (List TCol))) (h148 : FnOk Try.prog 148 (f148con S148)) : FnOk Try.prog 148 (f148con (spec_l5DrawCol.b k S148)) :=
  let hc := f148hc k S148 h148
  fnOk (fn := Try.f148) (code := bodyOf Try.f148) (res := [.tmp 8]) hc (by kernel_rfl) (by kernel_rfl) (by decide) (by kernel_rfl) (by kernel_rfl) (by kernel_rfl) (Nat.le_of_ble_eq_true (by kernel_rfl)) _
    (fun x => Snd.seq (by kernel_rfl) (Snd.seq (by kernel_rfl) (Snd.seq (by kernel_rfl) (Snd.cut (Snd.seq (by kernel_rfl) (Snd.seq (by kernel_rfl) (Snd.seq (by kernel_rfl) (Snd.seq (by kernel_rfl) (Snd.seq (by kernel_rfl) (Snd.seq (by kernel_rfl) (Snd.cut (Snd.seq (by kernel_rfl) (Snd.exec hc _ _ _ _) (Snd.seq (by kernel_rfl) (Snd.block (id := 0) (by kernel_rfl) (Snd.loop' (by kernel_rfl) f148s13 (fun n x => spec_l5DrawCol.l13 k S148 n x.1.2.1 x.1.2.2.2.1 x.1.2.2.2.2 x.2.1 x.2.2) _ (fun _ => rfl) (fun n13 => Snd.exec hc _ _ _ _) (fun n x => by kernel_rfl) k)) (Snd.exec hc _ _ _ _))) ⟨f148s12, fun x => spec_l5DrawCol.c12 k S148 x.1.2.1 x.1.2.2.2 x.2.1 x.2.2⟩ (fun x => by kernel_rfl)) (Snd.exec hc _ _ _ _)) (Snd.exec hc _ _ _ _)) (Snd.exec hc _ _ _ _)) (Snd.exec hc _ _ _ _)) (Snd.exec hc _ _ _ _)) (Snd.exec hc _ _ _ _)) ⟨f148s4, fun x => spec_l5DrawCol.c4 k S148 x.1.2.1 x.1.2.2.1 x.2.1 x.2.2.1 x.2.2.2⟩ (fun x => by kernel_rfl)) (Snd.exec hc _ _ _ _)) (Snd.exec hc _ _ _ _)) (Snd.exec hc _ _ _ _))
    (fun x => by kernel_rfl)
theorem f148rec (k : Nat) : ∀ d, FnOk Try.prog 148 (f148con (spec_l5DrawCol.d k d))
  | 0 => FnOk_none (fun _ => rfl)
  | d + 1 => let ih := f148rec k d
    f148okb k (spec_l5DrawCol.d k d) ih
theorem f148ok (k : Nat) : FnOk Try.prog 148 (f148con (spec_l5DrawCol k)) := (f148rec k k)

def f85in : SS := ⟨[(0, (.p 0))], [(0, (.box (.st (.cons (.list 5 (.int .u8)) (.cons (.int .i64) (.cons (.int .i64) .nil)))) (.agg (.cons (.ro (.list 5 (.int .u8))) (.cons (.ro (.int .i64)) (.cons (.ro (.int .i64)) .nil))))))]⟩
def f85out : SS := ⟨[(0, (.h 100))], [(0, (.box (.st (.cons (.list 5 (.int .u8)) (.cons (.int .i64) (.cons (.int .i64) .nil)))) (.agg (.cons (.ro (.list 5 (.int .u8))) (.cons (.ro (.int .i64)) (.cons (.ro (.int .i64)) .nil)))))), (100, (.sl 126 (.st (.cons .str (.cons (.int .i64) (.cons (.int .i64) (.cons (.int .i64) .nil)))))))]⟩
def f85s2 : SS := ⟨[(0, (.p 0)), (3, (.ro (.int .i64)))], [(0, (.box (.st (.cons (.list 5 (.int .u8)) (.cons (.int .i64) (.cons (.int .i64) .nil)))) (.agg (.cons (.ro (.list 5 (.int .u8))) (.cons (.ro (.int .i64)) (.cons (.ro (.int .i64)) .nil))))))]⟩
def f85con (F : TL1Cur → Option (Unit × TL1Cur × (List TCol))) : Con := ⟨f85in, f85out, 1, 1, fun x => F x.2⟩
def f85ctx (k : Nat) : Ctx := ⟨tyAt tys, conAt [(17, [f17con (spec_SchemaOk k)]), (87, [f87con (spec_l1Below k)]), (148, [f148con (spec_l5DrawCol k)])], 21, fun _ => false⟩
theorem f85hc (k : Nat) : CtxOk Try.prog (f85ctx k) := ctxOk tys_ok mixed_ok (consOk_cons (f17ok k) (consOk_cons (f87ok k) (consOk_cons (f148ok k) (consOk_nil))))
theorem f85ok (k : Nat) : FnOk Try.prog 85 (f85con (spec_l5DrawRight k)) :=
  let hc := f85hc k
  fnOk (fn := Try.f85) (code := bodyOf Try.f85) (res := [.tmp 2]) hc (by kernel_rfl) (by kernel_rfl) (by decide) (by kernel_rfl) (by kernel_rfl) (by kernel_rfl) (Nat.le_of_ble_eq_true (by kernel_rfl)) _
    (fun x => Snd.seq (by kernel_rfl) (Snd.seq (by kernel_rfl) (Snd.exec hc _ _ _ _) (Snd.seq (by kernel_rfl) (Snd.block (id := 0) (by kernel_rfl) (Snd.loop' (by kernel_rfl) f85s2 (fun n x => spec_l5DrawRight.l2 k n x.1.2 x.2) _ (fun _ => rfl) (fun n2 => Snd.exec hc _ _ _ _) (fun n x => by kernel_rfl) k)) (Snd.exec hc _ _ _ _))) (Snd.exec hc _ _ _ _))
    (fun x => by kernel_rfl)

def f149in : SS := ⟨[(0, (.p 0)), (1, (.ro (.list 9 .str)))], [(0, (.box (.st (.cons (.list 5 (.int .u8)) (.cons (.int .i64) (.cons (.int .i64) .nil)))) (.agg (.cons (.ro (.list 5 (.int .u8))) (.cons (.ro (.int .i64)) (.cons (.ro (.int .i64)) .nil))))))]⟩
def f149out : SS := ⟨[(0, (.ro .str))], [(0, (.box (.st (.cons (.list 5 (.int .u8)) (.cons (.int .i64) (.cons (.int .i64) .nil)))) (.agg (.cons (.ro (.list 5 (.int .u8))) (.cons (.ro (.int .i64)) (.cons (.ro (.int .i64)) .nil))))))]⟩
def f149con (F : (List ByteArray) → TL1Cur → Option (ByteArray × TL1Cur)) : Con := ⟨f149in, f149out, 2, 1, fun x => F x.1.2 x.2⟩
def f149ctx (k : Nat) : Ctx := ⟨tyAt tys, conAt [(87, [f87con (spec_l1Below k)])], 12, fun _ => false⟩
theorem f149hc (k : Nat) : CtxOk Try.prog (f149ctx k) := ctxOk tys_ok mixed_ok (consOk_cons (f87ok k) (consOk_nil))
theorem f149ok (k : Nat) : FnOk Try.prog 149 (f149con (spec_l1Pick k)) :=
  let hc := f149hc k
  fnOk (fn := Try.f149) (code := bodyOf Try.f149) (res := [.tmp 4]) hc (by kernel_rfl) (by kernel_rfl) (by decide) (by kernel_rfl) (by kernel_rfl) (by kernel_rfl) (Nat.le_of_ble_eq_true (by kernel_rfl)) _
    (fun x => Snd.exec hc _ _ _ _)
    (fun x => by kernel_rfl)

def f88in : SS := ⟨[(0, (.p 0))], [(0, (.box (.st (.cons (.list 5 (.int .u8)) (.cons (.int .i64) (.cons (.int .i64) .nil)))) (.agg (.cons (.ro (.list 5 (.int .u8))) (.cons (.ro (.int .i64)) (.cons (.ro (.int .i64)) .nil))))))]⟩
def f88out : SS := ⟨[(0, (.h 100))], [(0, (.box (.st (.cons (.list 5 (.int .u8)) (.cons (.int .i64) (.cons (.int .i64) .nil)))) (.agg (.cons (.ro (.list 5 (.int .u8))) (.cons (.ro (.int .i64)) (.cons (.ro (.int .i64)) .nil)))))), (100, (.sl 126 (.st (.cons .str (.cons (.int .i64) (.cons (.int .i64) (.cons (.int .i64) .nil)))))))]⟩
def f88s22 : SS := ⟨[(3, (.h 100))], [(0, (.box (.st (.cons (.list 5 (.int .u8)) (.cons (.int .i64) (.cons (.int .i64) .nil)))) (.agg (.cons (.ro (.list 5 (.int .u8))) (.cons (.ro (.int .i64)) (.cons (.ro (.int .i64)) .nil)))))), (100, (.sl 126 (.st (.cons .str (.cons (.int .i64) (.cons (.int .i64) (.cons (.int .i64) .nil)))))))]⟩
def f88d9 : SS := ⟨[(0, (.p 0)), (3, (.h 100)), (4, (.ro (.int .i64)))], [(0, (.box (.st (.cons (.list 5 (.int .u8)) (.cons (.int .i64) (.cons (.int .i64) .nil)))) (.agg (.cons (.ro (.list 5 (.int .u8))) (.cons (.ro (.int .i64)) (.cons (.ro (.int .i64)) .nil)))))), (100, (.sl 126 (.st (.cons .str (.cons (.int .i64) (.cons (.int .i64) (.cons (.int .i64) .nil)))))))]⟩
def f88s18 : SS := ⟨[(3, (.h 100)), (5, (.ro (.int .i64))), (6, (.ro (.int .i64)))], [(0, (.box (.st (.cons (.list 5 (.int .u8)) (.cons (.int .i64) (.cons (.int .i64) .nil)))) (.agg (.cons (.ro (.list 5 (.int .u8))) (.cons (.ro (.int .i64)) (.cons (.ro (.int .i64)) .nil)))))), (100, (.sl 126 (.st (.cons .str (.cons (.int .i64) (.cons (.int .i64) (.cons (.int .i64) .nil)))))))]⟩
def f88con (F : TL1Cur → Option (Unit × TL1Cur × (List TCol))) : Con := ⟨f88in, f88out, 1, 1, fun x => F x.2⟩
def f88ctx (k : Nat) : Ctx := ⟨tyAt tys, conAt [(85, [f85con (spec_l5DrawRight k)]), (87, [f87con (spec_l1Below k)]), (149, [f149con (spec_l1Pick k)])], 85, fun _ => false⟩
theorem f88hc (k : Nat) : CtxOk Try.prog (f88ctx k) := ctxOk tys_ok mixed_ok (consOk_cons (f85ok k) (consOk_cons (f87ok k) (consOk_cons (f149ok k) (consOk_nil))))
theorem f88ok (k : Nat) : FnOk Try.prog 88 (f88con (spec_l5DrawSchema k)) :=
  let hc := f88hc k
  fnOk (fn := Try.f88) (code := bodyOf Try.f88) (res := [.tmp 2]) hc (by kernel_rfl) (by kernel_rfl) (by decide) (by kernel_rfl) (by kernel_rfl) (by kernel_rfl) (Nat.le_of_ble_eq_true (by kernel_rfl)) _
    (fun x => Snd.seq (by kernel_rfl) (Snd.seq (by kernel_rfl) (Snd.seq (by kernel_rfl) (Snd.seq (by kernel_rfl) (Snd.cut (Snd.exec hc _ _ _ _) ⟨f88s22, fun x => spec_l5DrawSchema.c22 k x.2.1 x.2.2⟩ (fun x => by kernel_rfl)) (Snd.seq (by kernel_rfl) (Snd.block (id := 0) (by kernel_rfl) (Snd.seq (by kernel_rfl) (Snd.cond (x := .tmp 15) (by kernel_rfl) (Snd.exec hc _ _ _ _) (Snd.seq (by kernel_rfl) (Snd.cond (x := .tmp 23) (by kernel_rfl) (Snd.exec hc _ _ _ _) (Snd.seq (by kernel_rfl) (Snd.cond (x := .tmp 32) (by kernel_rfl) (Snd.fork hc (id := 9) (by kernel_rfl) ⟨f88d9, fun x => spec_l5DrawSchema.d9 k x.1.2.2 x.2.1 x.2.2⟩ [[0, 1, 2, 3, 4, 5, 8, 6, 7, 9, 10, 11, 12, 13], [0, 1, 2, 3, 4, 5, 8, 9, 6, 7, 10, 11, 12, 13]] (by kernel_rfl) (ords_cons (fun x => by kernel_rfl) (ords_cons (fun x => by kernel_rfl) (ords_nil)))) (Snd.seq (by kernel_rfl) (Snd.cond (x := .tmp 47) (by kernel_rfl) (Snd.exec hc _ _ _ _) (Snd.seq (by kernel_rfl) (Snd.cond (x := .tmp 56) (by kernel_rfl) (Snd.exec hc _ _ _ _) (Snd.seq (by kernel_rfl) (Snd.cond (x := .tmp 62) (by kernel_rfl) (Snd.seq (by kernel_rfl) (Snd.seq (by kernel_rfl) (Snd.seq (by kernel_rfl) (Snd.exec hc _ _ _ _) (Snd.seq (by kernel_rfl) (Snd.block (id := 1) (by kernel_rfl) (Snd.loop' (by kernel_rfl) f88s18 (fun n x => spec_l5DrawSchema.l18 k n x.1.2.1 x.1.2.2 x.2.1 x.2.2) _ (fun _ => rfl) (fun n18 => Snd.exec hc _ _ _ _) (fun n x => by kernel_rfl) k)) (Snd.exec hc _ _ _ _))) (Snd.exec hc _ _ _ _)) (Snd.exec hc _ _ _ _)) (Snd.exec hc _ _ _ _)) (Snd.exec hc _ _ _ _))) (Snd.exec hc _ _ _ _))) (Snd.exec hc _ _ _ _))) (Snd.exec hc _ _ _ _))) (Snd.exec hc _ _ _ _))) (Snd.exec hc _ _ _ _))) (Snd.exec hc _ _ _ _))) (Snd.exec hc _ _ _ _)) (Snd.exec hc _ _ _ _)) (Snd.exec hc _ _ _ _))
    (fun x => by kernel_rfl)

def f166in : SS := ⟨[(0, (.ro (.int .i64)))], []⟩
def f166out : SS := ⟨[(0, (.ro .bool))], []⟩
def f166con (F : Int → Option Bool) : Con := ⟨f166in, f166out, 1, 1, fun x => F x⟩
def f166ctx (k : Nat) : Ctx := ⟨tyAt tys, conAt [(74, [f74con (spec_l1In k)])], 5, fun _ => false⟩
theorem f166hc (k : Nat) : CtxOk Try.prog (f166ctx k) := ctxOk tys_ok mixed_ok (consOk_cons (f74ok k) (consOk_nil))
theorem f166ok (k : Nat) : FnOk Try.prog 166 (f166con (spec_l4Int k)) :=
  let hc := f166hc k
  fnOk (fn := Try.f166) (code := bodyOf Try.f166) (res := [.tmp 2]) hc (by kernel_rfl) (by kernel_rfl) (by decide) (by kernel_rfl) (by kernel_rfl) (by kernel_rfl) (Nat.le_of_ble_eq_true (by kernel_rfl)) _
    (fun x => Snd.exec hc _ _ _ _)
    (fun x => by kernel_rfl)

def f142in : SS := ⟨[(0, (.ro (.int .i64))), (1, (.ro (.st (.cons (.int .i64) (.cons .str .nil)))))], []⟩
def f142out : SS := ⟨[(0, (.ro .bool))], []⟩
def f142s8 : SS := ⟨[(3, (.p 100)), (5, (.ro (.int .i64))), (26, (.ro .bool))], [(100, (.box (.st (.cons (.int .i64) (.cons .str .nil))) (.agg (.cons (.ro (.int .i64)) (.cons (.ro .str) .nil)))))]⟩
def f142con (F : Int → TVal → Option Bool) : Con := ⟨f142in, f142out, 2, 1, fun x => F x.1 x.2⟩
def f142ctx (k : Nat) : Ctx := ⟨tyAt tys, conAt [(74, [f74con (spec_l1In k)]), (166, [f166con (spec_l4Int k)])], 43, fun _ => false⟩
theorem f142hc (k : Nat) : CtxOk Try.prog (f142ctx k) := ctxOk tys_ok mixed_ok (consOk_cons (f74ok k) (consOk_cons (f166ok k) (consOk_nil)))
theorem f142ok (k : Nat) : FnOk Try.prog 142 (f142con (spec_ValOk k)) :=
  let hc := f142hc k
  fnOk (fn := Try.f142) (code := bodyOf Try.f142) (res := [.tmp 4]) hc (by kernel_rfl) (by kernel_rfl) (by decide) (by kernel_rfl) (by kernel_rfl) (by kernel_rfl) (Nat.le_of_ble_eq_true (by kernel_rfl)) _
    (fun x => Snd.seq (by kernel_rfl) (Snd.seq (by kernel_rfl) (Snd.exec hc _ _ _ _) (Snd.seq (by kernel_rfl) (Snd.block (id := 0) (by kernel_rfl) (Snd.seq (by kernel_rfl) (Snd.cond (x := .tmp 6) (by kernel_rfl) (Snd.exec hc _ _ _ _) (Snd.seq (by kernel_rfl) (Snd.cond (x := .tmp 16) (by kernel_rfl) (Snd.exec hc _ _ _ _) (Snd.seq (by kernel_rfl) (Snd.cut (Snd.exec hc _ _ _ _) ⟨f142s8, fun x => spec_ValOk.c8 k x.1.2.1 x.1.2.2 x.2⟩ (fun x => by kernel_rfl)) (Snd.exec hc _ _ _ _))) (Snd.exec hc _ _ _ _))) (Snd.exec hc _ _ _ _))) (Snd.exec hc _ _ _ _))) (Snd.exec hc _ _ _ _))
    (fun x => by kernel_rfl)

def f198in : SS := ⟨[(0, (.ro (.st (.cons (.int .i64) (.cons .str .nil))))), (1, (.ro (.int .i64)))], []⟩
def f198out : SS := ⟨[(0, (.ro (.int .i64)))], []⟩
def f198con (F : TVal → Int → Option Int) : Con := ⟨f198in, f198out, 2, 1, fun x => F x.1 x.2⟩
def f198ctx (k : Nat) : Ctx := ⟨tyAt tys, conAt [(74, [f74con (spec_l1In k)])], 17, fun _ => false⟩
theorem f198hc (k : Nat) : CtxOk Try.prog (f198ctx k) := ctxOk tys_ok mixed_ok (consOk_cons (f74ok k) (consOk_nil))
theorem f198ok (k : Nat) : FnOk Try.prog 198 (f198con (spec_l13Count k)) :=
  let hc := f198hc k
  fnOk (fn := Try.f198) (code := bodyOf Try.f198) (res := [.tmp 4]) hc (by kernel_rfl) (by kernel_rfl) (by decide) (by kernel_rfl) (by kernel_rfl) (by kernel_rfl) (Nat.le_of_ble_eq_true (by kernel_rfl)) _
    (fun x => Snd.exec hc _ _ _ _)
    (fun x => by kernel_rfl)

def f144in : SS := ⟨[(0, (.ro (.list 126 (.st (.cons .str (.cons (.int .i64) (.cons (.int .i64) (.cons (.int .i64) .nil)))))))), (1, (.ro (.int .i64)))], []⟩
def f144out : SS := ⟨[(0, (.ro (.int .i64)))], []⟩
def f144s3 : SS := ⟨[(0, (.ro (.list 126 (.st (.cons .str (.cons (.int .i64) (.cons (.int .i64) (.cons (.int .i64) .nil)))))))), (1, (.ro (.int .i64))), (5, (.ro (.int .i64))), (6, (.ro (.int .i64)))], []⟩
def f144con (F : (List TCol) → Int → Option Int) : Con := ⟨f144in, f144out, 2, 1, fun x => F x.1 x.2⟩
def f144ctx (k : Nat) (S144 : (List TCol) → Int → Option Int) : Ctx := ⟨tyAt tys, conAt [(144, [f144con S144])], 22, fun _ => false⟩
theorem f144hc (k : Nat) (S144 : (List TCol) → Int → Option Int) (h144 : FnOk Try.prog 144 (f144con S144)) : CtxOk Try.prog (f144ctx k S144) := ctxOk tys_ok mixed_ok (consOk_cons (h144) (consOk_nil))
theorem f144okb (k : Nat) (S144 : (List TCol) → Int → Option Int) (h144 : FnOk Try.prog 144 (f144con S144)) : FnOk Try.prog 144 (f144con (spec_l5After.b k S144)) :=
  let hc := f144hc k S144 h144
  fnOk (fn := Try.f144) (code := bodyOf Try.f144) (res := [.tmp 4]) hc (by kernel_rfl) (by kernel_rfl) (by decide) (by kernel_rfl) (by kernel_rfl) (by kernel_rfl) (Nat.le_of_ble_eq_true (by kernel_rfl)) _
    (fun x => Snd.seq (by kernel_rfl) (Snd.seq (by kernel_rfl) (Snd.seq (by kernel_rfl) (Snd.exec hc _ _ _ _) (Snd.seq (by kernel_rfl) (Snd.block (id := 0) (by kernel_rfl) (Snd.loop' (by kernel_rfl) f144s3 (fun n x => spec_l5After.l3 k S144 n x.1 x.2.1 x.2.2.1 x.2.2.2) _ (fun _ => rfl) (fun n3 => Snd.exec hc _ _ _ _) (fun n x => by kernel_rfl) k)) (Snd.exec hc _ _ _ _))) (Snd.exec hc _ _ _ _)) (Snd.exec hc _ _ _ _))
    (fun x => by kernel_rfl)
theorem f144rec (k : Nat) : ∀ d, FnOk Try.prog 144 (f144con (spec_l5After.d k d))
  | 0 => FnOk_none (fun _ => rfl)
  | d + 1 => let ih := f144rec k d
    f144okb k (spec_l5After.d k d) ih
theorem f144ok (k : Nat) : FnOk Try.prog 144 (f144con (spec_l5After k)) := (f144rec k k)

def f72in : SS := ⟨[(0, (.ro (.list 126 (.st (.cons .str (.cons (.int .i64) (.cons (.int .i64) (.cons (.int .i64) .nil)))))))), (1, (.ro (.int .i64))), (2, (.ro (.list 52 (.st (.cons (.int .i64) (.cons .str .nil)))))), (3, (.ro (.int .i64)))], []⟩
def f72out : SS := ⟨[(0, (.ro (.int .i64)))], []⟩
def f72s7 : SS := ⟨[(0, (.ro (.list 126 (.st (.cons .str (.cons (.int .i64) (.cons (.int .i64) (.cons (.int .i64) .nil)))))))), (1, (.ro (.int .i64))), (2, (.ro (.list 52 (.st (.cons (.int .i64) (.cons .str .nil)))))), (3, (.ro (.int .i64))), (9, (.ro (.int .i64))), (10, (.ro (.int .i64)))], []⟩
def f72con (F : (List TCol) → Int → (List TVal) → Int → Option Int) : Con := ⟨f72in, f72out, 4, 1, fun x => F x.1 x.2.1 x.2.2.1 x.2.2.2⟩
def f143in : SS := ⟨[(0, (.ro (.list 126 (.st (.cons .str (.cons (.int .i64) (.cons (.int .i64) (.cons (.int .i64) .nil)))))))), (1, (.ro (.int .i64))), (2, (.ro (.list 52 (.st (.cons (.int .i64) (.cons .str .nil)))))), (3, (.ro (.int .i64)))], []⟩
def f143out : SS := ⟨[(0, (.ro (.int .i64)))], []⟩
def f143s13 : SS := ⟨[(0, (.ro (.list 126 (.st (.cons .str (.cons (.int .i64) (.cons (.int .i64) (.cons (.int .i64) .nil)))))))), (1, (.ro (.int .i64))), (2, (.ro (.list 52 (.st (.cons (.int .i64) (.cons .str .nil)))))), (3, (.ro (.int .i64))), (9, (.ro (.int .i64))), (11, (.ro (.int .i64)))], []⟩
def f143s12 : SS := ⟨[(0, (.ro (.list 126 (.st (.cons .str (.cons (.int .i64) (.cons (.int .i64) (.cons (.int .i64) .nil)))))))), (1, (.ro (.int .i64))), (2, (.ro (.list 52 (.st (.cons (.int .i64) (.cons .str .nil)))))), (3, (.ro (.int .i64))), (9, (.ro (.int .i64)))], []⟩
def f143s6 : SS := ⟨[(0, (.ro (.list 126 (.st (.cons .str (.cons (.int .i64) (.cons (.int .i64) (.cons (.int .i64) .nil)))))))), (1, (.ro (.int .i64))), (2, (.ro (.list 52 (.st (.cons (.int .i64) (.cons .str .nil)))))), (3, (.ro (.int .i64))), (10, (.ro (.int .i64)))], []⟩
def f143con (F : (List TCol) → Int → (List TVal) → Int → Option Int) : Con := ⟨f143in, f143out, 4, 1, fun x => F x.1 x.2.1 x.2.2.1 x.2.2.2⟩
def f72ctx (k : Nat) (S72 : (List TCol) → Int → (List TVal) → Int → Option Int) (S143 : (List TCol) → Int → (List TVal) → Int → Option Int) : Ctx := ⟨tyAt tys, conAt [(142, [f142con (spec_ValOk k)]), (143, [f143con S143]), (144, [f144con (spec_l5After k)])], 58, fun _ => false⟩
theorem f72hc (k : Nat) (S72 : (List TCol) → Int → (List TVal) → Int → Option Int) (S143 : (List TCol) → Int → (List TVal) → Int → Option Int) (h72 : FnOk Try.prog 72 (f72con S72)) (h143 : FnOk Try.prog 143 (f143con S143)) : CtxOk Try.prog (f72ctx k S72 S143) := ctxOk tys_ok mixed_ok (consOk_cons (f142ok k) (consOk_cons (h143) (consOk_cons (f144ok k) (consOk_nil))))
theorem f72okb (k : Nat) (S72 : (List TCol) → Int → (List TVal) → Int → Option Int) (S143 : (List TCol) → Int → (List TVal) → Int → Option Int) (h72 : FnOk Try.prog 72 (f72con S72)) (h143 : FnOk Try.prog 143 (f143con S143)) : FnOk Try.prog 72 (f72con (spec_l13Content.b k S72 S143)) :=
  let hc := f72hc k S72 S143 h72 h143
  fnOk (fn := Try.f72) (code := bodyOf Try.f72) (res := [.tmp 8]) hc (by kernel_rfl) (by kernel_rfl) (by decide) (by kernel_rfl) (by kernel_rfl) (by kernel_rfl) (Nat.le_of_ble_eq_true (by kernel_rfl)) _
    (fun x => Snd.seq (by kernel_rfl) (Snd.seq (by kernel_rfl) (Snd.seq (by kernel_rfl) (Snd.seq (by kernel_rfl) (Snd.exec hc _ _ _ _) (Snd.seq (by kernel_rfl) (Snd.block (id := 0) (by kernel_rfl) (Snd.loop' (by kernel_rfl) f72s7 (fun n x => spec_l13Content.l7 k S143 n x.1 x.2.1 x.2.2.1 x.2.2.2.1 x.2.2.2.2.1 x.2.2.2.2.2) _ (fun _ => rfl) (fun n7 => Snd.exec hc _ _ _ _) (fun n x => by kernel_rfl) k)) (Snd.exec hc _ _ _ _))) (Snd.exec hc _ _ _ _)) (Snd.exec hc _ _ _ _)) (Snd.exec hc _ _ _ _))
    (fun x => by kernel_rfl)
def f143ctx (k : Nat) (S72 : (List TCol) → Int → (List TVal) → Int → Option Int) (S143 : (List TCol) → Int → (List TVal) → Int → Option Int) : Ctx := ⟨tyAt tys, conAt [(72, [f72con S72]), (198, [f198con (spec_l13Count k)])], 51, fun _ => false⟩
theorem f143hc (k : Nat) (S72 : (List TCol) → Int → (List TVal) → Int → Option Int) (S143 : (List TCol) → Int → (List TVal) → Int → Option Int) (h72 : FnOk Try.prog 72 (f72con S72)) (h143 : FnOk Try.prog 143 (f143con S143)) : CtxOk Try.prog (f143ctx k S72 S143) := ctxOk tys_ok mixed_ok (consOk_cons (h72) (consOk_cons (f198ok k) (consOk_nil)))
theorem f143okb (k : Nat) (S72 : (List TCol) → Int → (List TVal) → Int → Option Int) (S143 : (List TCol) → Int → (List TVal) → Int → Option Int) (h72 : FnOk Try.prog 72 (f72con S72)) (h143 : FnOk Try.prog 143 (f143con S143)) : FnOk Try.prog 143 (f143con (spec_l13Part.b k S72 S143)) :=
  let hc := f143hc k S72 S143 h72 h143
  fnOk (fn := Try.f143) (code := bodyOf Try.f143) (res := [.tmp 8]) hc (by kernel_rfl) (by kernel_rfl) (by decide) (by kernel_rfl) (by kernel_rfl) (by kernel_rfl) (Nat.le_of_ble_eq_true (by kernel_rfl)) _
    (fun x => Snd.seq (by kernel_rfl) (Snd.seq (by kernel_rfl) (Snd.seq (by kernel_rfl) (Snd.cut (Snd.seq (by kernel_rfl) (Snd.exec hc _ _ _ _) (Snd.seq (by kernel_rfl) (Snd.block (id := 0) (by kernel_rfl) (Snd.loop' (by kernel_rfl) f143s13 (fun n x => spec_l13Part.l13 k S72 n x.1 x.2.1 x.2.2.1 x.2.2.2.1 x.2.2.2.2.1 x.2.2.2.2.2) _ (fun _ => rfl) (fun n13 => Snd.exec hc _ _ _ _) (fun n x => by kernel_rfl) k)) (Snd.exec hc _ _ _ _))) ⟨f143s12, fun x => spec_l13Part.c12 k S72 x.1 x.2.1 x.2.2.1 x.2.2.2.1 x.2.2.2.2⟩ (fun x => by kernel_rfl)) (Snd.seq (by kernel_rfl) (Snd.cond (x := .tmp 17) (by kernel_rfl) (Snd.seq (by kernel_rfl) (Snd.seq (by kernel_rfl) (Snd.cut (Snd.exec hc _ _ _ _) ⟨f143s6, fun x => spec_l13Part.c6 k S72 x.1 x.2.1 x.2.2.1 x.2.2.2.1 x.2.2.2.2⟩ (fun x => by kernel_rfl)) (Snd.exec hc _ _ _ _)) (Snd.exec hc _ _ _ _)) (Snd.exec hc _ _ _ _)) (Snd.exec hc _ _ _ _))) (Snd.exec hc _ _ _ _)) (Snd.exec hc _ _ _ _))
    (fun x => by kernel_rfl)
theorem f72rec (k : Nat) : ∀ d, FnOk Try.prog 72 (f72con (spec_l13Content.d k d)) ∧ FnOk Try.prog 143 (f143con (spec_l13Part.d k d))
  | 0 => ⟨FnOk_none (fun _ => rfl), FnOk_none (fun _ => rfl)⟩
  | d + 1 => let ih := f72rec k d
    ⟨f72okb k (spec_l13Content.d k d) (spec_l13Part.d k d) ih.1 ih.2, f143okb k (spec_l13Content.d k d) (spec_l13Part.d k d) ih.1 ih.2⟩
theorem f72ok (k : Nat) : FnOk Try.prog 72 (f72con (spec_l13Content k)) := (f72rec k k).1
theorem f143ok (k : Nat) : FnOk Try.prog 143 (f143con (spec_l13Part k)) := (f72rec k k).2

def f15in : SS := ⟨[(0, (.ro (.list 126 (.st (.cons .str (.cons (.int .i64) (.cons (.int .i64) (.cons (.int .i64) .nil)))))))), (1, (.ro (.st (.cons (.list 52 (.st (.cons (.int .i64) (.cons .str .nil)))) .nil))))], []⟩
def f15out : SS := ⟨[(0, (.ro .bool))], []⟩
def f15d1 : SS := ⟨[(0, (.ro (.list 126 (.st (.cons .str (.cons (.int .i64) (.cons (.int .i64) (.cons (.int .i64) .nil)))))))), (3, (.p 100))], [(100, (.box (.st (.cons (.list 52 (.st (.cons (.int .i64) (.cons .str .nil)))) .nil)) (.agg (.cons (.ro (.list 52 (.st (.cons (.int .i64) (.cons .str .nil))))) .nil))))]⟩
def f15con (F : (List TCol) → TRec → Option Bool) : Con := ⟨f15in, f15out, 2, 1, fun x => F x.1 x.2⟩
def f15ctx (k : Nat) : Ctx := ⟨tyAt tys, conAt [(17, [f17con (spec_SchemaOk k)]), (72, [f72con (spec_l13Content k)])], 23, fun _ => false⟩
theorem f15hc (k : Nat) : CtxOk Try.prog (f15ctx k) := ctxOk tys_ok mixed_ok (consOk_cons (f17ok k) (consOk_cons (f72ok k) (consOk_nil)))
theorem f15ok (k : Nat) : FnOk Try.prog 15 (f15con (spec_RecOk k)) :=
  let hc := f15hc k
  fnOk (fn := Try.f15) (code := bodyOf Try.f15) (res := [.tmp 4]) hc (by kernel_rfl) (by kernel_rfl) (by decide) (by kernel_rfl) (by kernel_rfl) (by kernel_rfl) (Nat.le_of_ble_eq_true (by kernel_rfl)) _
    (fun x => Snd.seq (by kernel_rfl) (Snd.seq (by kernel_rfl) (Snd.exec hc _ _ _ _) (Snd.fork hc (id := 1) (by kernel_rfl) ⟨f15d1, fun x => spec_RecOk.d1 k x.1.1 x.2⟩ [[0, 1, 2, 3, 4, 5, 6, 7, 8, 9, 10, 11, 13, 12, 14, 15, 16, 17, 18], [0, 1, 2, 3, 4, 5, 6, 7, 8, 9, 10, 11, 13, 14, 15, 12, 16, 17, 18]] (by kernel_rfl) (ords_cons (fun x => by kernel_rfl) (ords_cons (fun x => by kernel_rfl) (ords_nil))))) (Snd.exec hc _ _ _ _))
    (fun x => by kernel_rfl)

def f150in : SS := ⟨[(0, (.ro (.list 126 (.st (.cons .str (.cons (.int .i64) (.cons (.int .i64) (.cons (.int .i64) .nil)))))))), (1, (.ro (.int .i64)))], []⟩
def f150out : SS := ⟨[(0, (.h 100))], [(100, (.sl 52 (.st (.cons (.int .i64) (.cons .str .nil)))))]⟩
def f150s6 : SS := ⟨[(0, (.ro (.list 126 (.st (.cons .str (.cons (.int .i64) (.cons (.int .i64) (.cons (.int .i64) .nil)))))))), (1, (.ro (.int .i64))), (5, (.h 100)), (6, (.ro (.int .i64))), (7, (.ro (.int .i64)))], [(100, (.sl 52 (.st (.cons (.int .i64) (.cons .str .nil)))))]⟩
def f150con (F : (List TCol) → Int → Option (Unit × (List TVal))) : Con := ⟨f150in, f150out, 2, 1, fun x => F x.1 x.2⟩
def f150ctx (k : Nat) (S150 : (List TCol) → Int → Option (Unit × (List TVal))) : Ctx := ⟨tyAt tys, conAt [(144, [f144con (spec_l5After k)]), (150, [f150con S150])], 49, fun _ => false⟩
theorem f150hc (k : Nat) (S150 : (List TCol) → Int → Option (Unit × (List TVal))) (h150 : FnOk Try.prog 150 (f150con S150)) : CtxOk Try.prog (f150ctx k S150) := ctxOk tys_ok mixed_ok (consOk_cons (f144ok k) (consOk_cons (h150) (consOk_nil)))
theorem f150okb (k : Nat) (S150 : (List TCol) → Int → Option (Unit × (List TVal))) (h150 : FnOk Try.prog 150 (f150con S150)) : FnOk Try.prog 150 (f150con (spec_l13Empty.b k S150)) :=
  let hc := f150hc k S150 h150
  fnOk (fn := Try.f150) (code := bodyOf Try.f150) (res := [.tmp 4]) hc (by kernel_rfl) (by kernel_rfl) (by decide) (by kernel_rfl) (by kernel_rfl) (by kernel_rfl) (Nat.le_of_ble_eq_true (by kernel_rfl)) _
    (fun x => Snd.seq (by kernel_rfl) (Snd.seq (by kernel_rfl) (Snd.seq (by kernel_rfl) (Snd.seq (by kernel_rfl) (Snd.seq (by kernel_rfl) (Snd.exec hc _ _ _ _) (Snd.seq (by kernel_rfl) (Snd.block (id := 0) (by kernel_rfl) (Snd.loop' (by kernel_rfl) f150s6 (fun n x => spec_l13Empty.l6 k S150 n x.1.1 x.1.2.1 x.1.2.2.2.1 x.1.2.2.2.2 x.2) _ (fun _ => rfl) (fun n6 => Snd.exec hc _ _ _ _) (fun n x => by kernel_rfl) k)) (Snd.exec hc _ _ _ _))) (Snd.exec hc _ _ _ _)) (Snd.exec hc _ _ _ _)) (Snd.exec hc _ _ _ _)) (Snd.exec hc _ _ _ _))
    (fun x => by kernel_rfl)
theorem f150rec (k : Nat) : ∀ d, FnOk Try.prog 150 (f150con (spec_l13Empty.d k d))
  | 0 => FnOk_none (fun _ => rfl)
  | d + 1 => let ih := f150rec k d
    f150okb k (spec_l13Empty.d k d) ih
theorem f150ok (k : Nat) : FnOk Try.prog 150 (f150con (spec_l13Empty k)) := (f150rec k k)

def f89in : SS := ⟨[(0, (.ro (.list 126 (.st (.cons .str (.cons (.int .i64) (.cons (.int .i64) (.cons (.int .i64) .nil))))))))], []⟩
def f89out : SS := ⟨[(0, (.agg (.cons (.h 100) .nil))), (1, (.ro .bool))], [(100, (.sl 52 (.st (.cons (.int .i64) (.cons .str .nil)))))]⟩
def f89con (F : (List TCol) → Option (((Unit × Unit) × Bool) × (List TVal))) : Con := ⟨f89in, f89out, 1, 2, fun x => F x⟩
def f89ctx (k : Nat) : Ctx := ⟨tyAt tys, conAt [(17, [f17con (spec_SchemaOk k)]), (150, [f150con (spec_l13Empty k)])], 11, fun _ => false⟩
theorem f89hc (k : Nat) : CtxOk Try.prog (f89ctx k) := ctxOk tys_ok mixed_ok (consOk_cons (f17ok k) (consOk_cons (f150ok k) (consOk_nil)))
theorem f89ok (k : Nat) : FnOk Try.prog 89 (f89con (spec_RecEmpty k)) :=
  let hc := f89hc k
  fnOk (fn := Try.f89) (code := bodyOf Try.f89) (res := [.cell 2 27, .tmp 3]) hc (by kernel_rfl) (by kernel_rfl) (by decide) (by kernel_rfl) (by kernel_rfl) (by kernel_rfl) (Nat.le_of_ble_eq_true (by kernel_rfl)) _
    (fun x => Snd.exec hc _ _ _ _)
    (fun x => by kernel_rfl)

def f193in : SS := ⟨[(0, (.p 0)), (1, (.ro (.int .i64)))], [(0, (.box (.st (.cons (.list 5 (.int .u8)) (.cons (.int .i64) (.cons (.int .i64) .nil)))) (.agg (.cons (.ro (.list 5 (.int .u8))) (.cons (.ro (.int .i64)) (.cons (.ro (.int .i64)) .nil))))))]⟩
def f193out : SS := ⟨[(0, (.h 100))], [(0, (.box (.st (.cons (.list 5 (.int .u8)) (.cons (.int .i64) (.cons (.int .i64) .nil)))) (.agg (.cons (.ro (.list 5 (.int .u8))) (.cons (.ro (.int .i64)) (.cons (.ro (.int .i64)) .nil)))))), (100, (.sl 5 (.int .u8)))]⟩
def f193s4 : SS := ⟨[(0, (.p 0)), (5, (.h 100)), (6, (.ro (.int .i64))), (7, (.ro (.int .i64)))], [(0, (.box (.st (.cons (.list 5 (.int .u8)) (.cons (.int .i64) (.cons (.int .i64) .nil)))) (.agg (.cons (.ro (.list 5 (.int .u8))) (.cons (.ro (.int .i64)) (.cons (.ro (.int .i64)) .nil)))))), (100, (.sl 5 (.int .u8)))]⟩
def f193con (F : Int → TL1Cur → Option (Unit × TL1Cur × (List Int))) : Con := ⟨f193in, f193out, 2, 1, fun x => F x.1.2 x.2⟩
def f193ctx (k : Nat) : Ctx := ⟨tyAt tys, conAt [(87, [f87con (spec_l1Below k)]), (105, [f105con (spec_l1Byte k)])], 25, fun _ => false⟩
theorem f193hc (k : Nat) : CtxOk Try.prog (f193ctx k) := ctxOk tys_ok mixed_ok (consOk_cons (f87ok k) (consOk_cons (f105ok k) (consOk_nil)))
theorem f193ok (k : Nat) : FnOk Try.prog 193 (f193con (spec_l1DrawBytes k)) :=
  let hc := f193hc k
  fnOk (fn := Try.f193) (code := bodyOf Try.f193) (res := [.tmp 4]) hc (by kernel_rfl) (by kernel_rfl) (by decide) (by kernel_rfl) (by kernel_rfl) (by kernel_rfl) (Nat.le_of_ble_eq_true (by kernel_rfl)) _
    (fun x => Snd.seq (by kernel_rfl) (Snd.seq (by kernel_rfl) (Snd.seq (by kernel_rfl) (Snd.seq (by kernel_rfl) (Snd.exec hc _ _ _ _) (Snd.seq (by kernel_rfl) (Snd.block (id := 0) (by kernel_rfl) (Snd.loop' (by kernel_rfl) f193s4 (fun n x => spec_l1DrawBytes.l4 k n x.1.2.2.1 x.1.2.2.2 x.2.1 x.2.2) _ (fun _ => rfl) (fun n4 => Snd.exec hc _ _ _ _) (fun n x => by kernel_rfl) k)) (Snd.exec hc _ _ _ _))) (Snd.exec hc _ _ _ _)) (Snd.exec hc _ _ _ _)) (Snd.exec hc _ _ _ _))
    (fun x => by kernel_rfl)

def f139in : SS := ⟨[(0, (.p 0)), (1, (.ro (.int .i64)))], [(0, (.box (.st (.cons (.list 5 (.int .u8)) (.cons (.int .i64) (.cons (.int .i64) .nil)))) (.agg (.cons (.ro (.list 5 (.int .u8))) (.cons (.ro (.int .i64)) (.cons (.ro (.int .i64)) .nil))))))]⟩
def f139out : SS := ⟨[(0, (.ro .str))], [(0, (.box (.st (.cons (.list 5 (.int .u8)) (.cons (.int .i64) (.cons (.int .i64) .nil)))) (.agg (.cons (.ro (.list 5 (.int .u8))) (.cons (.ro (.int .i64)) (.cons (.ro (.int .i64)) .nil))))))]⟩
def f139con (F : Int → TL1Cur → Option (ByteArray × TL1Cur)) : Con := ⟨f139in, f139out, 2, 1, fun x => F x.1.2 x.2⟩
def f139ctx (k : Nat) : Ctx := ⟨tyAt tys, conAt [(193, [f193con (spec_l1DrawBytes k)])], 9, fun _ => false⟩
theorem f139hc (k : Nat) : CtxOk Try.prog (f139ctx k) := ctxOk tys_ok mixed_ok (consOk_cons (f193ok k) (consOk_nil))
theorem f139ok (k : Nat) : FnOk Try.prog 139 (f139con (spec_l4DrawText k)) :=
  let hc := f139hc k
  fnOk (fn := Try.f139) (code := bodyOf Try.f139) (res := [.tmp 4]) hc (by kernel_rfl) (by kernel_rfl) (by decide) (by kernel_rfl) (by kernel_rfl) (by kernel_rfl) (Nat.le_of_ble_eq_true (by kernel_rfl)) _
    (fun x => Snd.exec hc _ _ _ _)
    (fun x => by kernel_rfl)

def f204in : SS := ⟨[(0, (.p 0))], [(0, (.box (.st (.cons (.list 5 (.int .u8)) (.cons (.int .i64) (.cons (.int .i64) .nil)))) (.agg (.cons (.ro (.list 5 (.int .u8))) (.cons (.ro (.int .i64)) (.cons (.ro (.int .i64)) .nil))))))]⟩
def f204out : SS := ⟨[(0, (.ro (.int .i64)))], [(0, (.box (.st (.cons (.list 5 (.int .u8)) (.cons (.int .i64) (.cons (.int .i64) .nil)))) (.agg (.cons (.ro (.list 5 (.int .u8))) (.cons (.ro (.int .i64)) (.cons (.ro (.int .i64)) .nil))))))]⟩
def f204con (F : TL1Cur → Option (Int × TL1Cur)) : Con := ⟨f204in, f204out, 1, 1, fun x => F x.2⟩
def f204ctx (k : Nat) : Ctx := ⟨tyAt tys, conAt [(87, [f87con (spec_l1Below k)]), (106, [f106con (spec_l1PickInt k)])], 13, fun _ => false⟩
theorem f204hc (k : Nat) : CtxOk Try.prog (f204ctx k) := ctxOk tys_ok mixed_ok (consOk_cons (f87ok k) (consOk_cons (f106ok k) (consOk_nil)))
theorem f204ok (k : Nat) : FnOk Try.prog 204 (f204con (spec_l2DrawNum k)) :=
  let hc := f204hc k
  fnOk (fn := Try.f204) (code := bodyOf Try.f204) (res := [.tmp 2]) hc (by kernel_rfl) (by kernel_rfl) (by decide) (by kernel_rfl) (by kernel_rfl) (by kernel_rfl) (Nat.le_of_ble_eq_true (by kernel_rfl)) _
    (fun x => Snd.exec hc _ _ _ _)
    (fun x => by kernel_rfl)

def f221in : SS := ⟨[(0, (.p 0)), (1, (.ro (.int .i64)))], [(0, (.box (.st (.cons (.list 5 (.int .u8)) (.cons (.int .i64) (.cons (.int .i64) .nil)))) (.agg (.cons (.ro (.list 5 (.int .u8))) (.cons (.ro (.int .i64)) (.cons (.ro (.int .i64)) .nil))))))]⟩
def f221out : SS := ⟨[(0, (.agg (.cons (.ro (.int .i64)) (.cons (.ro .str) .nil))))], [(0, (.box (.st (.cons (.list 5 (.int .u8)) (.cons (.int .i64) (.cons (.int .i64) .nil)))) (.agg (.cons (.ro (.list 5 (.int .u8))) (.cons (.ro (.int .i64)) (.cons (.ro (.int .i64)) .nil))))))]⟩
def f221con (F : Int → TL1Cur → Option ((TVal) × TL1Cur)) : Con := ⟨f221in, f221out, 2, 1, fun x => F x.1.2 x.2⟩
def f221ctx (k : Nat) : Ctx := ⟨tyAt tys, conAt [(87, [f87con (spec_l1Below k)]), (106, [f106con (spec_l1PickInt k)]), (138, [f138con (spec_l1Once k)]), (139, [f139con (spec_l4DrawText k)]), (149, [f149con (spec_l1Pick k)]), (204, [f204con (spec_l2DrawNum k)])], 53, fun _ => false⟩
theorem f221hc (k : Nat) : CtxOk Try.prog (f221ctx k) := ctxOk tys_ok mixed_ok (consOk_cons (f87ok k) (consOk_cons (f106ok k) (consOk_cons (f138ok k) (consOk_cons (f139ok k) (consOk_cons (f149ok k) (consOk_cons (f204ok k) (consOk_nil)))))))
theorem f221ok (k : Nat) : FnOk Try.prog 221 (f221con (spec_l6DrawRight k)) :=
  let hc := f221hc k
  fnOk (fn := Try.f221) (code := bodyOf Try.f221) (res := [.cell 4 52]) hc (by kernel_rfl) (by kernel_rfl) (by decide) (by kernel_rfl) (by kernel_rfl) (by kernel_rfl) (Nat.le_of_ble_eq_true (by kernel_rfl)) _
    (fun x => Snd.exec hc _ _ _ _)
    (fun x => by kernel_rfl)

def f186in : SS := ⟨[(0, (.p 0)), (1, (.ro (.list 126 (.st (.cons .str (.cons (.int .i64) (.cons (.int .i64) (.cons (.int .i64) .nil)))))))), (2, (.ro (.int .i64))), (3, (.h 10))], [(0, (.box (.st (.cons (.list 5 (.int .u8)) (.cons (.int .i64) (.cons (.int .i64) .nil)))) (.agg (.cons (.ro (.list 5 (.int .u8))) (.cons (.ro (.int .i64)) (.cons (.ro (.int .i64)) .nil)))))), (10, (.sl 52 (.st (.cons (.int .i64) (.cons .str .nil)))))]⟩
def f186out : SS := ⟨[(0, (.h 100))], [(0, (.box (.st (.cons (.list 5 (.int .u8)) (.cons (.int .i64) (.cons (.int .i64) .nil)))) (.agg (.cons (.ro (.list 5 (.int .u8))) (.cons (.ro (.int .i64)) (.cons (.ro (.int .i64)) .nil)))))), (100, (.sl 52 (.st (.cons (.int .i64) (.cons .str .nil)))))]⟩
def f186s11 : SS := ⟨[(0, (.p 0)), (1, (.ro (.list 126 (.st (.cons .str (.cons (.int .i64) (.cons (.int .i64) (.cons (.int .i64) .nil)))))))), (2, (.ro (.int .i64))), (3, (.h 100)), (9, (.ro (.int .i64))), (10, (.ro (.int .i64)))], [(0, (.box (.st (.cons (.list 5 (.int .u8)) (.cons (.int .i64) (.cons (.int .i64) .nil)))) (.agg (.cons (.ro (.list 5 (.int .u8))) (.cons (.ro (.int .i64)) (.cons (.ro (.int .i64)) .nil)))))), (100, (.sl 52 (.st (.cons (.int .i64) (.cons .str .nil)))))]⟩
def f186s16 : SS := ⟨[(0, (.p 0)), (1, (.ro (.list 126 (.st (.cons .str (.cons (.int .i64) (.cons (.int .i64) (.cons (.int .i64) .nil)))))))), (2, (.ro (.int .i64))), (3, (.h 100)), (9, (.ro (.int .i64))), (10, (.ro (.int .i64))), (11, (.ro (.int .i64))), (12, (.ro (.int .i64)))], [(0, (.box (.st (.cons (.list 5 (.int .u8)) (.cons (.int .i64) (.cons (.int .i64) .nil)))) (.agg (.cons (.ro (.list 5 (.int .u8))) (.cons (.ro (.int .i64)) (.cons (.ro (.int .i64)) .nil)))))), (100, (.sl 52 (.st (.cons (.int .i64) (.cons .str .nil)))))]⟩
def f186s10 : SS := ⟨[(0, (.p 0)), (1, (.ro (.list 126 (.st (.cons .str (.cons (.int .i64) (.cons (.int .i64) (.cons (.int .i64) .nil)))))))), (2, (.ro (.int .i64))), (3, (.h 100)), (9, (.ro (.int .i64))), (10, (.ro (.int .i64)))], [(0, (.box (.st (.cons (.list 5 (.int .u8)) (.cons (.int .i64) (.cons (.int .i64) .nil)))) (.agg (.cons (.ro (.list 5 (.int .u8))) (.cons (.ro (.int .i64)) (.cons (.ro (.int .i64)) .nil)))))), (100, (.sl 52 (.st (.cons (.int .i64) (.cons .str .nil)))))]⟩
def f186s9 : SS := ⟨[(0, (.p 0)), (1, (.ro (.list 126 (.st (.cons .str (.cons (.int .i64) (.cons (.int .i64) (.cons (.int .i64) .nil)))))))), (2, (.ro (.int .i64))), (3, (.h 100)), (9, (.ro (.int .i64)))], [(0, (.box (.st (.cons (.list 5 (.int .u8)) (.cons (.int .i64) (.cons (.int .i64) .nil)))) (.agg (.cons (.ro (.list 5 (.int .u8))) (.cons (.ro (.int .i64)) (.cons (.ro (.int .i64)) .nil)))))), (100, (.sl 52 (.st (.cons (.int .i64) (.cons .str .nil)))))]⟩
def f186s8 : SS := ⟨[(0, (.p 0)), (1, (.ro (.list 126 (.st (.cons .str (.cons (.int .i64) (.cons (.int .i64) (.cons (.int .i64) .nil)))))))), (2, (.ro (.int .i64))), (3, (.h 10)), (9, (.ro (.int .i64)))], [(0, (.box (.st (.cons (.list 5 (.int .u8)) (.cons (.int .i64) (.cons (.int .i64) .nil)))) (.agg (.cons (.ro (.list 5 (.int .u8))) (.cons (.ro (.int .i64)) (.cons (.ro (.int .i64)) .nil)))))), (10, (.sl 52 (.st (.cons (.int .i64) (.cons .str .nil)))))]⟩
def f186con (F : (List TCol) → Int → TL1Cur → (List TVal) → Option (Unit × TL1Cur × (List TVal))) : Con := ⟨f186in, f186out, 4, 1, fun x => F x.1.2.1 x.1.2.2.1 x.2.1 x.2.2⟩
def f186ctx (k : Nat) (S186 : (List TCol) → Int → TL1Cur → (List TVal) → Option (Unit × TL1Cur × (List TVal))) : Ctx := ⟨tyAt tys, conAt [(87, [f87con (spec_l1Below k)]), (138, [f138con (spec_l1Once k)]), (144, [f144con (spec_l5After k)]), (186, [f186con S186]), (221, [f221con (spec_l6DrawRight k)])], 81, fun _ => false⟩
theorem f186hc (k : Nat) (S186 : (List TCol) → Int → TL1Cur → (List TVal) → Option (Unit × TL1Cur × (List TVal))) (h186 : FnOk Try.prog 186 (f186con S186)) : CtxOk Try.prog (f186ctx k S186) := ctxOk tys_ok mixed_ok (consOk_cons (f87ok k) (consOk_cons (f138ok k) (consOk_cons (f144ok k) (consOk_cons (h186) (consOk_cons (f221ok k) (consOk_nil))))))
theorem f186okb (k : Nat) (S186 : (List TCol) → Int → TL1Cur → (List TVal) → Option (Unit × TL1Cur × (List TVal))) (h186 : FnOk Try.prog 186 (f186con S186)) : FnOk Try.prog 186 (f186con (spec_l13DrawPart.b k S186)) :=
  let hc := f186hc k S186 h186
  fnOk (fn := Try.f186) (code := bodyOf Try.f186) (res := [.tmp 8]) hc (by kernel_rfl) (by kernel_rfl) (by decide) (by kernel_rfl) (by kernel_rfl) (by kernel_rfl) (Nat.le_of_ble_eq_true (by kernel_rfl)) _
    (fun x => Snd.seq (by kernel_rfl) (Snd.seq (by kernel_rfl) (Snd.seq (by kernel_rfl) (Snd.cut (Snd.seq (by kernel_rfl) (Snd.exec hc _ _ _ _) (Snd.seq (by kernel_rfl) (Snd.block (id := 0) (by kernel_rfl) (Snd.loop' (by kernel_rfl) f186s10 (fun n x => spec_l13DrawPart.l10 k S186 n x.1.2.1 x.1.2.2.1 x.1.2.2.2.2.1 x.1.2.2.2.2.2 x.2.1 x.2.2) _ (fun _ => rfl) (fun n10 => Snd.seq (by kernel_rfl) (Snd.seq (by kernel_rfl) (Snd.cut (Snd.exec hc _ _ _ _) ⟨f186s11, fun x => spec_l13DrawPart.c11 k (spec_l13DrawPart.l10 k S186 n10) x.1.2.1 x.1.2.2.1 x.1.2.2.2.2.1 x.1.2.2.2.2.2 x.2.1 x.2.2⟩ (fun x => by kernel_rfl)) (Snd.block (id := 1) (by kernel_rfl) (Snd.seq (by kernel_rfl) (Snd.seq (by kernel_rfl) (Snd.seq (by kernel_rfl) (Snd.block (id := 2) (by kernel_rfl) (Snd.loop' (by kernel_rfl) f186s16 (fun n x => spec_l13DrawPart.l16 k S186 (spec_l13DrawPart.l10 k S186 n10) n x.1.2.1 x.1.2.2.1 x.1.2.2.2.2.1 x.1.2.2.2.2.2.1 x.1.2.2.2.2.2.2.1 x.1.2.2.2.2.2.2.2 x.2.1 x.2.2) _ (fun _ => rfl) (fun n16 => Snd.exec hc _ _ _ _) (fun n x => by kernel_rfl) k)) (Snd.exec hc _ _ _ _)) (Snd.exec hc _ _ _ _)) (Snd.exec hc _ _ _ _)))) (Snd.exec hc _ _ _ _)) (fun n x => by kernel_rfl) k)) (Snd.exec hc _ _ _ _))) ⟨f186s9, fun x => spec_l13DrawPart.c9 k S186 x.1.2.1 x.1.2.2.1 x.1.2.2.2.2 x.2.1 x.2.2⟩ (fun x => by kernel_rfl)) (Snd.seq (by kernel_rfl) (Snd.cond (x := .tmp 22) (by kernel_rfl) (Snd.seq (by kernel_rfl) (Snd.seq (by kernel_rfl) (Snd.cut (Snd.exec hc _ _ _ _) ⟨f186s8, fun x => spec_l13DrawPart.c8 k S186 x.1.2.1 x.1.2.2.1 x.1.2.2.2.2 x.2.1 x.2.2⟩ (fun x => by kernel_rfl)) (Snd.exec hc _ _ _ _)) (Snd.exec hc _ _ _ _)) (Snd.exec hc _ _ _ _)) (Snd.exec hc _ _ _ _))) (Snd.exec hc _ _ _ _)) (Snd.exec hc _ _ _ _))
    (fun x => by kernel_rfl)
theorem f186rec (k : Nat) : ∀ d, FnOk Try.prog 186 (f186con (spec_l13DrawPart.d k d))
  | 0 => FnOk_none (fun _ => rfl)
  | d + 1 => let ih := f186rec k d
    f186okb k (spec_l13DrawPart.d k d) ih
theorem f186ok (k : Nat) : FnOk Try.prog 186 (f186con (spec_l13DrawPart k)) := (f186rec k k)

def f126in : SS := ⟨[(0, (.p 0)), (1, (.ro (.list 126 (.st (.cons .str (.cons (.int .i64) (.cons (.int .i64) (.cons (.int .i64) .nil))))))))], [(0, (.box (.st (.cons (.list 5 (.int .u8)) (.cons (.int .i64) (.cons (.int .i64) .nil)))) (.agg (.cons (.ro (.list 5 (.int .u8))) (.cons (.ro (.int .i64)) (.cons (.ro (.int .i64)) .nil))))))]⟩
def f126out : SS := ⟨[(0, (.agg (.cons (.h 100) .nil)))], [(0, (.box (.st (.cons (.list 5 (.int .u8)) (.cons (.int .i64) (.cons (.int .i64) .nil)))) (.agg (.cons (.ro (.list 5 (.int .u8))) (.cons (.ro (.int .i64)) (.cons (.ro (.int .i64)) .nil)))))), (100, (.sl 52 (.st (.cons (.int .i64) (.cons .str .nil)))))]⟩
def f126s4 : SS := ⟨[(4, (.p 100)), (5, (.p 101))], [(0, (.box (.st (.cons (.list 5 (.int .u8)) (.cons (.int .i64) (.cons (.int .i64) .nil)))) (.agg (.cons (.ro (.list 5 (.int .u8))) (.cons (.ro (.int .i64)) (.cons (.ro (.int .i64)) .nil)))))), (100, (.box (.st (.cons (.list 52 (.st (.cons (.int .i64) (.cons .str .nil)))) .nil)) (.agg (.cons (.h 103) .nil)))), (101, (.box (.st (.cons (.list 52 (.st (.cons (.int .i64) (.cons .str .nil)))) .nil)) (.agg (.cons (.h 102) .nil)))), (102, (.sl 52 (.st (.cons (.int .i64) (.cons .str .nil))))), (103, (.sl 52 (.st (.cons (.int .i64) (.cons .str .nil)))))]⟩
def f126con (F : (List TCol) → TL1Cur → Option (((Unit × Unit)) × TL1Cur × (List TVal))) : Con := ⟨f126in, f126out, 2, 1, fun x => F x.1.2 x.2⟩
def f126ctx (k : Nat) : Ctx := ⟨tyAt tys, conAt [(15, [f15con (spec_RecOk k)]), (89, [f89con (spec_RecEmpty k)]), (186, [f186con (spec_l13DrawPart k)])], 21, fun _ => false⟩
theorem f126hc (k : Nat) : CtxOk Try.prog (f126ctx k) := ctxOk tys_ok mixed_ok (consOk_cons (f15ok k) (consOk_cons (f89ok k) (consOk_cons (f186ok k) (consOk_nil))))
theorem f126ok (k : Nat) : FnOk Try.prog 126 (f126con (spec_l13DrawRight k)) :=
  let hc := f126hc k
  fnOk (fn := Try.f126) (code := bodyOf Try.f126) (res := [.cell 4 27]) hc (by kernel_rfl) (by kernel_rfl) (by decide) (by kernel_rfl) (by kernel_rfl) (by kernel_rfl) (Nat.le_of_ble_eq_true (by kernel_rfl)) _
    (fun x => Snd.seq (by kernel_rfl) (Snd.seq (by kernel_rfl) (Snd.seq (by kernel_rfl) (Snd.cut (Snd.exec hc _ _ _ _) ⟨f126s4, fun x => spec_l13DrawRight.c4 k x.2.1 x.2.2.1 x.2.2.2.1 x.2.2.2.2.1 x.2.2.2.2.2⟩ (fun x => by kernel_rfl)) (Snd.exec hc _ _ _ _)) (Snd.exec hc _ _ _ _)) (Snd.exec hc _ _ _ _))
    (fun x => by kernel_rfl)

def f67in : SS := ⟨[(0, (.ro (.list 5 (.int .u8))))], []⟩
def f67out : SS := ⟨[(0, (.ro (.list 126 (.st (.cons .str (.cons (.int .i64) (.cons (.int .i64) (.cons (.int .i64) .nil)))))))), (1, (.agg (.cons (.ro (.list 52 (.st (.cons (.int .i64) (.cons .str .nil))))) .nil)))], []⟩
def f67s15 : SS := ⟨[(3, (.p 100)), (5, (.ro (.list 126 (.st (.cons .str (.cons (.int .i64) (.cons (.int .i64) (.cons (.int .i64) .nil)))))))), (6, (.p 101))], [(100, (.box (.st (.cons (.list 52 (.st (.cons (.int .i64) (.cons .str .nil)))) .nil)) (.agg (.cons (.h 102) .nil)))), (101, (.box (.st (.cons (.list 52 (.st (.cons (.int .i64) (.cons .str .nil)))) .nil)) (.agg (.cons (.ro (.list 52 (.st (.cons (.int .i64) (.cons .str .nil))))) .nil)))), (102, (.sl 52 (.st (.cons (.int .i64) (.cons .str .nil)))))]⟩
def f67d9 : SS := ⟨[(3, (.p 100)), (4, (.p 101)), (5, (.ro (.list 126 (.st (.cons .str (.cons (.int .i64) (.cons (.int .i64) (.cons (.int .i64) .nil)))))))), (6, (.p 102))], [(100, (.box (.st (.cons (.list 52 (.st (.cons (.int .i64) (.cons .str .nil)))) .nil)) (.agg (.cons (.h 104) .nil)))), (101, (.box (.st (.cons (.list 5 (.int .u8)) (.cons (.int .i64) (.cons (.int .i64) .nil)))) (.agg (.cons (.ro (.list 5 (.int .u8))) (.cons (.ro (.int .i64)) (.cons (.ro (.int .i64)) .nil)))))), (102, (.box (.st (.cons (.list 52 (.st (.cons (.int .i64) (.cons .str .nil)))) .nil)) (.agg (.cons (.h 103) .nil)))), (103, (.sl 52 (.st (.cons (.int .i64) (.cons .str .nil))))), (104, (.sl 52 (.st (.cons (.int .i64) (.cons .str .nil)))))]⟩
def f67con (F : (List Int) → Option ((List TCol) × TRec)) : Con := ⟨f67in, f67out, 1, 2, fun x => F x⟩
def f67ctx (k : Nat) : Ctx := ⟨tyAt tys, conAt [(84, [f84con (spec_l1New k)]), (85, [f85con (spec_l5DrawRight k)]), (87, [f87con (spec_l1Below k)]), (88, [f88con (spec_l5DrawSchema k)]), (106, [f106con (spec_l1PickInt k)]), (126, [f126con (spec_l13DrawRight k)]), (139, [f139con (spec_l4DrawText k)])], 60, fun _ => false⟩
theorem f67hc (k : Nat) : CtxOk Try.prog (f67ctx k) := ctxOk tys_ok mixed_ok (consOk_cons (f84ok k) (consOk_cons (f85ok k) (consOk_cons (f87ok k) (consOk_cons (f88ok k) (consOk_cons (f106ok k) (consOk_cons (f126ok k) (consOk_cons (f139ok k) (consOk_nil))))))))
theorem f67ok (k : Nat) : FnOk Try.prog 67 (f67con (spec_l13Draw k)) :=
  let hc := f67hc k
  fnOk (fn := Try.f67) (code := bodyOf Try.f67) (res := [.tmp 2, .cell 3 27]) hc (by kernel_rfl) (by kernel_rfl) (by decide) (by kernel_rfl) (by kernel_rfl) (by kernel_rfl) (Nat.le_of_ble_eq_true (by kernel_rfl)) _
    (fun x => Snd.seq (by kernel_rfl) (Snd.seq (by kernel_rfl) (Snd.seq (by kernel_rfl) (Snd.seq (by kernel_rfl) (Snd.seq (by kernel_rfl) (Snd.cut (Snd.exec hc _ _ _ _) ⟨f67s15, fun x => spec_l13Draw.c15 k x.1.2.1 x.2.1 x.2.2.1 x.2.2.2⟩ (fun x => by kernel_rfl)) (Snd.seq (by kernel_rfl) (Snd.block (id := 0) (by kernel_rfl) (Snd.seq (by kernel_rfl) (Snd.cond (x := .tmp 16) (by kernel_rfl) (Snd.exec hc _ _ _ _) (Snd.seq (by kernel_rfl) (Snd.cond (x := .tmp 24) (by kernel_rfl) (Snd.seq (by kernel_rfl) (Snd.cond (x := .tmp 29) (by kernel_rfl) (Snd.fork hc (id := 9) (by kernel_rfl) ⟨f67d9, fun x => spec_l13Draw.d9 k x.1.2.2.1 x.2.1 x.2.2.1 x.2.2.2.1 x.2.2.2.2.1 x.2.2.2.2.2⟩ [[0, 2, 3, 7, 10, 1, 4, 5, 6, 8, 9, 11, 12, 13, 14], [0, 2, 3, 7, 10, 1, 4, 5, 8, 6, 9, 11, 12, 13, 14], [0, 2, 3, 7, 10, 1, 8, 4, 5, 6, 9, 11, 12, 13, 14], [0, 2, 3, 7, 10, 4, 5, 1, 6, 8, 9, 11, 12, 13, 14], [0, 2, 3, 7, 10, 4, 5, 1, 8, 6, 9, 11, 12, 13, 14], [0, 2, 3, 7, 10, 4, 5, 6, 1, 8, 9, 11, 12, 13, 14], [0, 2, 3, 7, 10, 4, 5, 6, 8, 1, 9, 11, 12, 13, 14], [0, 2, 3, 7, 10, 4, 5, 6, 8, 9, 1, 11, 12, 13, 14], [0, 2, 3, 7, 10, 4, 5, 6, 8, 9, 11, 1, 12, 13, 14], [0, 2, 3, 7, 10, 4, 5, 8, 1, 6, 9, 11, 12, 13, 14], [0, 2, 3, 7, 10, 4, 5, 8, 6, 1, 9, 11, 12, 13, 14], [0, 2, 3, 7, 10, 4, 5, 8, 6, 9, 1, 11, 12, 13, 14], [0, 2, 3, 7, 10, 4, 5, 8, 6, 9, 11, 1, 12, 13, 14], [0, 2, 3, 7, 10, 8, 1, 4, 5, 6, 9, 11, 12, 13, 14], [0, 2, 3, 7, 10, 8, 4, 5, 1, 6, 9, 11, 12, 13, 14], [0, 2, 3, 7, 10, 8, 4, 5, 6, 1, 9, 11, 12, 13, 14], [0, 2, 3, 7, 10, 8, 4, 5, 6, 9, 1, 11, 12, 13, 14], [0, 2, 3, 7, 10, 8, 4, 5, 6, 9, 11, 1, 12, 13, 14]] (by kernel_rfl) (ords_cons (fun x => by kernel_rfl) (ords_cons (fun x => by kernel_rfl) (ords_cons (fun x => by kernel_rfl) (ords_cons (fun x => by kernel_rfl) (ords_cons (fun x => by kernel_rfl) (ords_cons (fun x => by kernel_rfl) (ords_cons (fun x => by kernel_rfl) (ords_cons (fun x => by kernel_rfl) (ords_cons (fun x => by kernel_rfl) (ords_cons (fun x => by kernel_rfl) (ords_cons (fun x => by kernel_rfl) (ords_cons (fun x => by kernel_rfl) (ords_cons (fun x => by kernel_rfl) (ords_cons (fun x => by kernel_rfl) (ords_cons (fun x => by kernel_rfl) (ords_cons (fun x => by kernel_rfl) (ords_cons (fun x => by kernel_rfl) (ords_cons (fun x => by kernel_rfl) (ords_nil)))))))))))))))))))) (Snd.exec hc _ _ _ _)) (Snd.exec hc _ _ _ _)) (Snd.exec hc _ _ _ _)) (Snd.exec hc _ _ _ _))) (Snd.exec hc _ _ _ _))) (Snd.exec hc _ _ _ _))) (Snd.exec hc _ _ _ _)) (Snd.exec hc _ _ _ _)) (Snd.exec hc _ _ _ _)) (Snd.exec hc _ _ _ _))
    (fun x => by kernel_rfl)

def f13in : SS := ⟨[(0, (.ro (.list 5 (.int .u8))))], []⟩
def f13out : SS := ⟨[(0, (.ro (.list 126 (.st (.cons .str (.cons (.int .i64) (.cons (.int .i64) (.cons (.int .i64) .nil)))))))), (1, (.agg (.cons (.ro (.list 52 (.st (.cons (.int .i64) (.cons .str .nil))))) .nil)))], []⟩
def f13con (F : (List Int) → Option ((List TCol) × TRec)) : Con := ⟨f13in, f13out, 1, 2, fun x => F x⟩
def f13ctx (k : Nat) : Ctx := ⟨tyAt tys, conAt [(67, [f67con (spec_l13Draw k)])], 13, fun _ => false⟩
theorem f13hc (k : Nat) : CtxOk Try.prog (f13ctx k) := ctxOk tys_ok mixed_ok (consOk_cons (f67ok k) (consOk_nil))
theorem f13ok (k : Nat) : FnOk Try.prog 13 (f13con (spec_DrawRecOk k)) :=
  let hc := f13hc k
  fnOk (fn := Try.f13) (code := bodyOf Try.f13) (res := [.tmp 2, .cell 3 27]) hc (by kernel_rfl) (by kernel_rfl) (by decide) (by kernel_rfl) (by kernel_rfl) (by kernel_rfl) (Nat.le_of_ble_eq_true (by kernel_rfl)) _
    (fun x => Snd.exec hc _ _ _ _)
    (fun x => by kernel_rfl)

def f77in : SS := ⟨[(0, (.ro (.int .i64))), (1, (.ro (.int .i64))), (2, (.ro (.int .i64)))], []⟩
def f77out : SS := ⟨[(0, (.ro .bool))], []⟩
def f77con (F : Int → Int → Int → Option Bool) : Con := ⟨f77in, f77out, 3, 1, fun x => F x.1 x.2.1 x.2.2⟩
def f77ctx (k : Nat) : Ctx := ⟨tyAt tys, conAt [], 15, fun _ => false⟩
theorem f77hc (k : Nat) : CtxOk Try.prog (f77ctx k) := ctxOk tys_ok mixed_ok (consOk_nil)
theorem f77ok (k : Nat) : FnOk Try.prog 77 (f77con (impl_within k)) :=
  let hc := f77hc k
  fnOk (fn := Try.f77) (code := bodyOf Try.f77) (res := [.tmp 6]) hc (by kernel_rfl) (by kernel_rfl) (by decide) (by kernel_rfl) (by kernel_rfl) (by kernel_rfl) (Nat.le_of_ble_eq_true (by kernel_rfl)) _
    (fun x => Snd.exec hc _ _ _ _)
    (fun x => by kernel_rfl)

def f224in : SS := ⟨[(0, (.ro (.int .i64)))], []⟩
def f224out : SS := ⟨[(0, (.ro .bool))], []⟩
def f224con (F : Int → Option Bool) : Con := ⟨f224in, f224out, 1, 1, fun x => F x⟩
def f224ctx (k : Nat) : Ctx := ⟨tyAt tys, conAt [(77, [f77con (impl_within k)])], 13, fun _ => false⟩
theorem f224hc (k : Nat) : CtxOk Try.prog (f224ctx k) := ctxOk tys_ok mixed_ok (consOk_cons (f77ok k) (consOk_nil))
theorem f224ok (k : Nat) : FnOk Try.prog 224 (f224con (impl_TypeOk k)) :=
  let hc := f224hc k
  fnOk (fn := Try.f224) (code := bodyOf Try.f224) (res := [.tmp 2]) hc (by kernel_rfl) (by kernel_rfl) (by decide) (by kernel_rfl) (by kernel_rfl) (by kernel_rfl) (Nat.le_of_ble_eq_true (by kernel_rfl)) _
    (fun x => Snd.exec hc _ _ _ _)
    (fun x => by kernel_rfl)

def f194in : SS := ⟨[(0, (.ro (.st (.cons .str (.cons (.int .i64) (.cons (.int .i64) (.cons (.int .i64) .nil)))))))], []⟩
def f194out : SS := ⟨[(0, (.ro .bool))], []⟩
def f194con (F : TCol → Option Bool) : Con := ⟨f194in, f194out, 1, 1, fun x => F x⟩
def f194ctx (k : Nat) : Ctx := ⟨tyAt tys, conAt [(77, [f77con (impl_within k)]), (224, [f224con (impl_TypeOk k)])], 30, fun _ => false⟩
theorem f194hc (k : Nat) : CtxOk Try.prog (f194ctx k) := ctxOk tys_ok mixed_ok (consOk_cons (f77ok k) (consOk_cons (f224ok k) (consOk_nil)))
theorem f194ok (k : Nat) : FnOk Try.prog 194 (f194con (impl_colOk k)) :=
  let hc := f194hc k
  fnOk (fn := Try.f194) (code := bodyOf Try.f194) (res := [.tmp 2]) hc (by kernel_rfl) (by kernel_rfl) (by decide) (by kernel_rfl) (by kernel_rfl) (by kernel_rfl) (Nat.le_of_ble_eq_true (by kernel_rfl)) _
    (fun x => Snd.exec hc _ _ _ _)
    (fun x => by kernel_rfl)

def f195in : SS := ⟨[(0, (.ro .str))], []⟩
def f195out : SS := ⟨[(0, (.ro .bool))], []⟩
def f195s2 : SS := ⟨[(0, (.ro .str)), (5, (.ro (.int .i64))), (6, (.ro (.int .i64)))], []⟩
def f195con (F : ByteArray → Option Bool) : Con := ⟨f195in, f195out, 1, 1, fun x => F x⟩
def f195ctx (k : Nat) : Ctx := ⟨tyAt tys, conAt [(77, [f77con (impl_within k)])], 19, fun _ => false⟩
theorem f195hc (k : Nat) : CtxOk Try.prog (f195ctx k) := ctxOk tys_ok mixed_ok (consOk_cons (f77ok k) (consOk_nil))
theorem f195ok (k : Nat) : FnOk Try.prog 195 (f195con (impl_isColName k)) :=
  let hc := f195hc k
  fnOk (fn := Try.f195) (code := bodyOf Try.f195) (res := [.tmp 2]) hc (by kernel_rfl) (by kernel_rfl) (by decide) (by kernel_rfl) (by kernel_rfl) (by kernel_rfl) (Nat.le_of_ble_eq_true (by kernel_rfl)) _
    (fun x => Snd.seq (by kernel_rfl) (Snd.seq (by kernel_rfl) (Snd.exec hc _ _ _ _) (Snd.seq (by kernel_rfl) (Snd.block (id := 0) (by kernel_rfl) (Snd.loop' (by kernel_rfl) f195s2 (fun n x => impl_isColName.l2 k n x.1 x.2.1 x.2.2) _ (fun _ => rfl) (fun n2 => Snd.exec hc _ _ _ _) (fun n x => by kernel_rfl) k)) (Snd.exec hc _ _ _ _))) (Snd.exec hc _ _ _ _))
    (fun x => by kernel_rfl)

def f140in : SS := ⟨[(0, (.ro (.list 126 (.st (.cons .str (.cons (.int .i64) (.cons (.int .i64) (.cons (.int .i64) .nil)))))))), (1, (.ro (.int .i64))), (2, (.ro (.int .i64)))], []⟩
def f140out : SS := ⟨[(0, (.ro (.int .i64)))], []⟩
def f140s10 : SS := ⟨[(0, (.ro (.list 126 (.st (.cons .str (.cons (.int .i64) (.cons (.int .i64) (.cons (.int .i64) .nil)))))))), (2, (.ro (.int .i64))), (7, (.ro (.int .i64))), (8, (.h 100)), (47, (.ro (.int .i64))), (48, (.ro (.int .i64))), (54, (.h 100)), (55, (.ro (.int .i64))), (56, (.ro (.int .i64)))], [(100, (.sl 9 .str))]⟩
def f140s6 : SS := ⟨[(0, (.ro (.list 126 (.st (.cons .str (.cons (.int .i64) (.cons (.int .i64) (.cons (.int .i64) .nil)))))))), (2, (.ro (.int .i64))), (7, (.ro (.int .i64))), (8, (.h 100)), (47, (.ro (.int .i64))), (48, (.ro (.int .i64)))], [(100, (.sl 9 .str))]⟩
def f140con (F : (List TCol) → Int → Int → Option Int) : Con := ⟨f140in, f140out, 3, 1, fun x => F x.1 x.2.1 x.2.2⟩
def f140ctx (k : Nat) (S140 : (List TCol) → Int → Int → Option Int) : Ctx := ⟨tyAt tys, conAt [(140, [f140con S140]), (194, [f194con (impl_colOk k)]), (195, [f195con (impl_isColName k)])], 85, fun _ => false⟩
theorem f140hc (k : Nat) (S140 : (List TCol) → Int → Int → Option Int) (h140 : FnOk Try.prog 140 (f140con S140)) : CtxOk Try.prog (f140ctx k S140) := ctxOk tys_ok mixed_ok (consOk_cons (h140) (consOk_cons (f194ok k) (consOk_cons (f195ok k) (consOk_nil))))
theorem f140okb (k : Nat) (S140 : (List TCol) → Int → Int → Option Int) (h140 : FnOk Try.prog 140 (f140con S140)) : FnOk Try.prog 140 (f140con (impl_colAfter.b k S140)) :=
  let hc := f140hc k S140 h140
  fnOk (fn := Try.f140) (code := bodyOf Try.f140) (res := [.tmp 6]) hc (by kernel_rfl) (by kernel_rfl) (by decide) (by kernel_rfl) (by kernel_rfl) (by kernel_rfl) (Nat.le_of_ble_eq_true (by kernel_rfl)) _
    (fun x => Snd.seq (by kernel_rfl) (Snd.seq (by kernel_rfl) (Snd.seq (by kernel_rfl) (Snd.seq (by kernel_rfl) (Snd.seq (by kernel_rfl) (Snd.exec hc _ _ _ _) (Snd.seq (by kernel_rfl) (Snd.block (id := 0) (by kernel_rfl) (Snd.loop' (by kernel_rfl) f140s6 (fun n x => impl_colAfter.l6 k S140 n x.1.1 x.1.2.1 x.1.2.2.1 x.1.2.2.2.2.1 x.1.2.2.2.2.2 x.2) _ (fun _ => rfl) (fun n6 => Snd.seq (by kernel_rfl) (Snd.seq (by kernel_rfl) (Snd.seq (by kernel_rfl) (Snd.exec hc _ _ _ _) (Snd.block (id := 1) (by kernel_rfl) (Snd.seq (by kernel_rfl) (Snd.seq (by kernel_rfl) (Snd.exec hc _ _ _ _) (Snd.seq (by kernel_rfl) (Snd.block (id := 2) (by kernel_rfl) (Snd.loop' (by kernel_rfl) f140s10 (fun n x => impl_colAfter.l10 k S140 (impl_colAfter.l6 k S140 n6) n x.1.1 x.1.2.1 x.1.2.2.1 x.1.2.2.2.2.1 x.1.2.2.2.2.2.1 x.1.2.2.2.2.2.2.2.1 x.1.2.2.2.2.2.2.2.2 x.2) _ (fun _ => rfl) (fun n10 => Snd.exec hc _ _ _ _) (fun n x => by kernel_rfl) k)) (Snd.exec hc _ _ _ _))) (Snd.exec hc _ _ _ _)))) (Snd.exec hc _ _ _ _)) (Snd.exec hc _ _ _ _)) (fun n x => by kernel_rfl) k)) (Snd.exec hc _ _ _ _))) (Snd.exec hc _ _ _ _)) (Snd.exec hc _ _ _ _)) (Snd.exec hc _ _ _ _)) (Snd.exec hc _ _ _ _))
    (fun x => by kernel_rfl)
theorem f140rec (k : Nat) : ∀ d, FnOk Try.prog 140 (f140con (impl_colAfter.d k d))
  | 0 => FnOk_none (fun _ => rfl)
  | d + 1 => let ih := f140rec k d
    f140okb k (impl_colAfter.d k d) ih
theorem f140ok (k : Nat) : FnOk Try.prog 140 (f140con (impl_colAfter k)) := (f140rec k k)

def f68in : SS := ⟨[(0, (.ro (.list 126 (.st (.cons .str (.cons (.int .i64) (.cons (.int .i64) (.cons (.int .i64) .nil))))))))], []⟩
def f68out : SS := ⟨[(0, (.ro .bool))], []⟩
def f68con (F : (List TCol) → Option Bool) : Con := ⟨f68in, f68out, 1, 1, fun x => F x⟩
def f68ctx (k : Nat) : Ctx := ⟨tyAt tys, conAt [(77, [f77con (impl_within k)]), (140, [f140con (impl_colAfter k)])], 33, fun _ => false⟩
theorem f68hc (k : Nat) : CtxOk Try.prog (f68ctx k) := ctxOk tys_ok mixed_ok (consOk_cons (f77ok k) (consOk_cons (f140ok k) (consOk_nil)))
theorem f68ok (k : Nat) : FnOk Try.prog 68 (f68con (impl_SchemaOk k)) :=
  let hc := f68hc k
  fnOk (fn := Try.f68) (code := bodyOf Try.f68) (res := [.tmp 2]) hc (by kernel_rfl) (by kernel_rfl) (by decide) (by kernel_rfl) (by kernel_rfl) (by kernel_rfl) (Nat.le_of_ble_eq_true (by kernel_rfl)) _
    (fun x => Snd.exec hc _ _ _ _)
    (fun x => by kernel_rfl)

def f70in : SS := ⟨[(0, (.ro (.int .i64))), (1, (.ro (.int .i64))), (2, (.ro (.int .i64))), (3, (.ro (.st (.cons (.int .i64) (.cons .str .nil)))))], []⟩
def f70out : SS := ⟨[], []⟩
def f70con (F : Int → Int → Int → TVal → Option Unit) : Con := ⟨f70in, f70out, 4, 0, fun x => F x.1 x.2.1 x.2.2.1 x.2.2.2⟩
def f70ctx (k : Nat) : Ctx := ⟨tyAt tys, conAt [], 8, fun _ => false⟩
theorem f70hc (k : Nat) : CtxOk Try.prog (f70ctx k) := ctxOk tys_ok mixed_ok (consOk_nil)
theorem f70ok (k : Nat) : FnOk Try.prog 70 (f70con (impl_RecOk_1 k)) :=
  let hc := f70hc k
  fnOk (fn := Try.f70) (code := bodyOf Try.f70) (res := []) hc (by kernel_rfl) (by kernel_rfl) (by decide) (by kernel_rfl) (by kernel_rfl) (by kernel_rfl) (Nat.le_of_ble_eq_true (by kernel_rfl)) _
    (fun x => Snd.exec hc _ _ _ _)
    (fun x => by kernel_rfl)

def f160in : SS := ⟨[(0, (.ro (.int .i64)))], []⟩
def f160out : SS := ⟨[(0, (.ro .bool))], []⟩
def f160con (F : Int → Option Bool) : Con := ⟨f160in, f160out, 1, 1, fun x => F x⟩
def f160ctx (k : Nat) : Ctx := ⟨tyAt tys, conAt [(77, [f77con (impl_within k)])], 5, fun _ => false⟩
theorem f160hc (k : Nat) : CtxOk Try.prog (f160ctx k) := ctxOk tys_ok mixed_ok (consOk_cons (f77ok k) (consOk_nil))
theorem f160ok (k : Nat) : FnOk Try.prog 160 (f160con (impl_isInt32 k)) :=
  let hc := f160hc k
  fnOk (fn := Try.f160) (code := bodyOf Try.f160) (res := [.tmp 2]) hc (by kernel_rfl) (by kernel_rfl) (by decide) (by kernel_rfl) (by kernel_rfl) (by kernel_rfl) (Nat.le_of_ble_eq_true (by kernel_rfl)) _
    (fun x => Snd.exec hc _ _ _ _)
    (fun x => by kernel_rfl)

def f187in : SS := ⟨[(0, (.ro (.int .i64))), (1, (.ro (.st (.cons (.int .i64) (.cons .str .nil)))))], []⟩
def f187out : SS := ⟨[(0, (.ro .bool))], []⟩
def f187s8 : SS := ⟨[(0, (.ro (.int .i64))), (3, (.p 100)), (26, (.ro .bool))], [(100, (.box (.st (.cons (.int .i64) (.cons .str .nil))) (.agg (.cons (.ro (.int .i64)) (.cons (.ro .str) .nil)))))]⟩
def f187con (F : Int → TVal → Option Bool) : Con := ⟨f187in, f187out, 2, 1, fun x => F x.1 x.2⟩
def f187ctx (k : Nat) : Ctx := ⟨tyAt tys, conAt [(77, [f77con (impl_within k)]), (160, [f160con (impl_isInt32 k)])], 45, fun _ => false⟩
theorem f187hc (k : Nat) : CtxOk Try.prog (f187ctx k) := ctxOk tys_ok mixed_ok (consOk_cons (f77ok k) (consOk_cons (f160ok k) (consOk_nil)))
theorem f187ok (k : Nat) : FnOk Try.prog 187 (f187con (impl_ValOk k)) :=
  let hc := f187hc k
  fnOk (fn := Try.f187) (code := bodyOf Try.f187) (res := [.tmp 4]) hc (by kernel_rfl) (by kernel_rfl) (by decide) (by kernel_rfl) (by kernel_rfl) (by kernel_rfl) (Nat.le_of_ble_eq_true (by kernel_rfl)) _
    (fun x => Snd.seq (by kernel_rfl) (Snd.seq (by kernel_rfl) (Snd.exec hc _ _ _ _) (Snd.seq (by kernel_rfl) (Snd.block (id := 0) (by kernel_rfl) (Snd.seq (by kernel_rfl) (Snd.cond (x := .tmp 6) (by kernel_rfl) (Snd.exec hc _ _ _ _) (Snd.seq (by kernel_rfl) (Snd.cond (x := .tmp 16) (by kernel_rfl) (Snd.exec hc _ _ _ _) (Snd.seq (by kernel_rfl) (Snd.cut (Snd.exec hc _ _ _ _) ⟨f187s8, fun x => impl_ValOk.c8 k x.1.1 x.1.2.2 x.2⟩ (fun x => by kernel_rfl)) (Snd.exec hc _ _ _ _))) (Snd.exec hc _ _ _ _))) (Snd.exec hc _ _ _ _))) (Snd.exec hc _ _ _ _))) (Snd.exec hc _ _ _ _))
    (fun x => by kernel_rfl)

def f196i7in : SS := ⟨[(0, (.p 0))], [(0, (.box (.st (.cons (.list 126 (.st (.cons .str (.cons (.int .i64) (.cons (.int .i64) (.cons (.int .i64) .nil)))))) (.cons (.list 52 (.st (.cons (.int .i64) (.cons .str .nil)))) (.cons .bool (.cons .ptr (.cons .ptr .nil)))))) (.agg (.cons (.ro (.list 126 (.st (.cons .str (.cons (.int .i64) (.cons (.int .i64) (.cons (.int .i64) .nil))))))) (.cons (.ro (.list 52 (.st (.cons (.int .i64) (.cons .str .nil))))) (.cons (.ro .bool) (.cons (.fn 70 .nil) (.cons (.fn 71 .nil) .nil))))))))]⟩
def f196i7out : SS := ⟨[(0, (.agg (.cons (.ro (.int .i64)) (.cons (.ro .str) .nil))))], [(0, (.box (.st (.cons (.list 126 (.st (.cons .str (.cons (.int .i64) (.cons (.int .i64) (.cons (.int .i64) .nil)))))) (.cons (.list 52 (.st (.cons (.int .i64) (.cons .str .nil)))) (.cons .bool (.cons .ptr (.cons .ptr .nil)))))) (.agg (.cons (.ro (.list 126 (.st (.cons .str (.cons (.int .i64) (.cons (.int .i64) (.cons (.int .i64) .nil))))))) (.cons (.ro (.list 52 (.st (.cons (.int .i64) (.cons .str .nil))))) (.cons (.ro .bool) (.cons (.fn 70 .nil) (.cons (.fn 71 .nil) .nil))))))))]⟩
def f196i7con (F : TWalker → Option ((TVal) × TWalker)) : Con := ⟨f196i7in, f196i7out, 1, 1, fun x => F x.2⟩
def f196i7ctx (k : Nat) : Ctx := ⟨tyAt tys, conAt [], 35, fun _ => false⟩
theorem f196i7hc (k : Nat) : CtxOk Try.prog (f196i7ctx k) := ctxOk tys_ok mixed_ok (consOk_nil)
theorem f196i7ok (k : Nat) : FnOk Try.prog 196 (f196i7con (impl_walker_next_of_RecOk_1_RecOk_2 k)) :=
  let hc := f196i7hc k
  fnOk (fn := Try.f196) (code := bodyOf Try.f196) (res := [.cell 2 52]) hc (by kernel_rfl) (by kernel_rfl) (by decide) (by kernel_rfl) (by kernel_rfl) (by kernel_rfl) (Nat.le_of_ble_eq_true (by kernel_rfl)) _
    (fun x => Snd.exec hc _ _ _ _)
    (fun x => by kernel_rfl)

def f225i13in : SS := ⟨[(0, (.p 0)), (1, (.ro (.int .i64)))], [(0, (.box (.st (.cons (.list 126 (.st (.cons .str (.cons (.int .i64) (.cons (.int .i64) (.cons (.int .i64) .nil)))))) (.cons (.list 52 (.st (.cons (.int .i64) (.cons .str .nil)))) (.cons .bool (.cons .ptr (.cons .ptr .nil)))))) (.agg (.cons (.ro (.list 126 (.st (.cons .str (.cons (.int .i64) (.cons (.int .i64) (.cons (.int .i64) .nil))))))) (.cons (.ro (.list 52 (.st (.cons (.int .i64) (.cons .str .nil))))) (.cons (.ro .bool) (.cons (.fn 70 .nil) (.cons (.fn 71 .nil) .nil))))))))]⟩
def f225i13out : SS := ⟨[(0, (.ro (.int .i64)))], [(0, (.box (.st (.cons (.list 126 (.st (.cons .str (.cons (.int .i64) (.cons (.int .i64) (.cons (.int .i64) .nil)))))) (.cons (.list 52 (.st (.cons (.int .i64) (.cons .str .nil)))) (.cons .bool (.cons .ptr (.cons .ptr .nil)))))) (.agg (.cons (.ro (.list 126 (.st (.cons .str (.cons (.int .i64) (.cons (.int .i64) (.cons (.int .i64) .nil))))))) (.cons (.ro (.list 52 (.st (.cons (.int .i64) (.cons .str .nil))))) (.cons (.ro .bool) (.cons (.fn 70 .nil) (.cons (.fn 71 .nil) .nil))))))))]⟩
def f225i13con (F : Int → TWalker → Option (Int × TWalker)) : Con := ⟨f225i13in, f225i13out, 2, 1, fun x => F x.1.2 x.2⟩
def f225i13ctx (k : Nat) : Ctx := ⟨tyAt tys, conAt [(77, [f77con (impl_within k)]), (196, [f196i7con (impl_walker_next_of_RecOk_1_RecOk_2 k)])], 23, fun _ => false⟩
theorem f225i13hc (k : Nat) : CtxOk Try.prog (f225i13ctx k) := ctxOk tys_ok mixed_ok (consOk_cons (f77ok k) (consOk_cons (f196i7ok k) (consOk_nil)))
theorem f225i13ok (k : Nat) : FnOk Try.prog 225 (f225i13con (impl_walker_count_of_RecOk_1_RecOk_2 k)) :=
  let hc := f225i13hc k
  fnOk (fn := Try.f225) (code := bodyOf Try.f225) (res := [.tmp 4]) hc (by kernel_rfl) (by kernel_rfl) (by decide) (by kernel_rfl) (by kernel_rfl) (by kernel_rfl) (Nat.le_of_ble_eq_true (by kernel_rfl)) _
    (fun x => Snd.exec hc _ _ _ _)
    (fun x => by kernel_rfl)

def f71in : SS := ⟨[(0, (.ro (.int .i64))), (1, (.ro (.int .i64))), (2, (.ro (.int .i64)))], []⟩
def f71out : SS := ⟨[], []⟩
def f71con (F : Int → Int → Int → Option Unit) : Con := ⟨f71in, f71out, 3, 0, fun x => F x.1 x.2.1 x.2.2⟩
def f71ctx (k : Nat) : Ctx := ⟨tyAt tys, conAt [], 6, fun _ => false⟩
theorem f71hc (k : Nat) : CtxOk Try.prog (f71ctx k) := ctxOk tys_ok mixed_ok (consOk_nil)
theorem f71ok (k : Nat) : FnOk Try.prog 71 (f71con (impl_RecOk_2 k)) :=
  let hc := f71hc k
  fnOk (fn := Try.f71) (code := bodyOf Try.f71) (res := []) hc (by kernel_rfl) (by kernel_rfl) (by decide) (by kernel_rfl) (by kernel_rfl) (by kernel_rfl) (Nat.le_of_ble_eq_true (by kernel_rfl)) _
    (fun x => Snd.exec hc _ _ _ _)
    (fun x => by kernel_rfl)

def f226i18in : SS := ⟨[(0, (.p 0)), (1, (.ro (.int .i64))), (2, (.ro (.int .i64))), (3, (.ro (.int .i64)))], [(0, (.box (.st (.cons (.list 126 (.st (.cons .str (.cons (.int .i64) (.cons (.int .i64) (.cons (.int .i64) .nil)))))) (.cons (.list 52 (.st (.cons (.int .i64) (.cons .str .nil)))) (.cons .bool (.cons .ptr (.cons .ptr .nil)))))) (.agg (.cons (.ro (.list 126 (.st (.cons .str (.cons (.int .i64) (.cons (.int .i64) (.cons (.int .i64) .nil))))))) (.cons (.ro (.list 52 (.st (.cons (.int .i64) (.cons .str .nil))))) (.cons (.ro .bool) (.cons (.fn 70 .nil) (.cons (.fn 71 .nil) .nil))))))))]⟩
def f226i18out : SS := ⟨[(0, (.ro (.int .i64)))], [(0, (.box (.st (.cons (.list 126 (.st (.cons .str (.cons (.int .i64) (.cons (.int .i64) (.cons (.int .i64) .nil)))))) (.cons (.list 52 (.st (.cons (.int .i64) (.cons .str .nil)))) (.cons .bool (.cons .ptr (.cons .ptr .nil)))))) (.agg (.cons (.ro (.list 126 (.st (.cons .str (.cons (.int .i64) (.cons (.int .i64) (.cons (.int .i64) .nil))))))) (.cons (.ro (.list 52 (.st (.cons (.int .i64) (.cons .str .nil))))) (.cons (.ro .bool) (.cons (.fn 70 .nil) (.cons (.fn 71 .nil) .nil))))))))]⟩
def f226i18s4 : SS := ⟨[(0, (.p 0)), (2, (.ro (.int .i64))), (3, (.ro (.int .i64))), (9, (.ro (.int .i64))), (10, (.ro (.int .i64)))], [(0, (.box (.st (.cons (.list 126 (.st (.cons .str (.cons (.int .i64) (.cons (.int .i64) (.cons (.int .i64) .nil)))))) (.cons (.list 52 (.st (.cons (.int .i64) (.cons .str .nil)))) (.cons .bool (.cons .ptr (.cons .ptr .nil)))))) (.agg (.cons (.ro (.list 126 (.st (.cons .str (.cons (.int .i64) (.cons (.int .i64) (.cons (.int .i64) .nil))))))) (.cons (.ro (.list 52 (.st (.cons (.int .i64) (.cons .str .nil))))) (.cons (.ro .bool) (.cons (.fn 70 .nil) (.cons (.fn 71 .nil) .nil))))))))]⟩
def f226i18s3 : SS := ⟨[(0, (.p 0)), (2, (.ro (.int .i64))), (3, (.ro (.int .i64))), (9, (.ro (.int .i64))), (10, (.ro (.int .i64)))], [(0, (.box (.st (.cons (.list 126 (.st (.cons .str (.cons (.int .i64) (.cons (.int .i64) (.cons (.int .i64) .nil)))))) (.cons (.list 52 (.st (.cons (.int .i64) (.cons .str .nil)))) (.cons .bool (.cons .ptr (.cons .ptr .nil)))))) (.agg (.cons (.ro (.list 126 (.st (.cons .str (.cons (.int .i64) (.cons (.int .i64) (.cons (.int .i64) .nil))))))) (.cons (.ro (.list 52 (.st (.cons (.int .i64) (.cons .str .nil))))) (.cons (.ro .bool) (.cons (.fn 70 .nil) (.cons (.fn 71 .nil) .nil))))))))]⟩
def f226i18con (F : Int → Int → Int → TWalker → Option (Int × TWalker)) : Con := ⟨f226i18in, f226i18out, 4, 1, fun x => F x.1.2.1 x.1.2.2.1 x.1.2.2.2 x.2⟩
def f226i18ctx (k : Nat) : Ctx := ⟨tyAt tys, conAt [(71, [f71con (impl_RecOk_2 k)]), (140, [f140con (impl_colAfter k)])], 41, fun _ => false⟩
theorem f226i18hc (k : Nat) : CtxOk Try.prog (f226i18ctx k) := ctxOk tys_ok mixed_ok (consOk_cons (f71ok k) (consOk_cons (f140ok k) (consOk_nil)))
theorem f226i18ok (k : Nat) : FnOk Try.prog 226 (f226i18con (impl_walker_missing_of_RecOk_1_RecOk_2 k)) :=
  let hc := f226i18hc k
  fnOk (fn := Try.f226) (code := bodyOf Try.f226) (res := [.tmp 8]) hc (by kernel_rfl) (by kernel_rfl) (by decide) (by kernel_rfl) (by kernel_rfl) (by kernel_rfl) (Nat.le_of_ble_eq_true (by kernel_rfl)) _
    (fun x => Snd.seq (by kernel_rfl) (Snd.seq (by kernel_rfl) (Snd.seq (by kernel_rfl) (Snd.exec hc _ _ _ _) (Snd.seq (by kernel_rfl) (Snd.block (id := 0) (by kernel_rfl) (Snd.loop' (by kernel_rfl) f226i18s3 (fun n x => impl_walker_missing_of_RecOk_1_RecOk_2.l3 k n x.1.2.1 x.1.2.2.1 x.1.2.2.2.1 x.1.2.2.2.2 x.2) _ (fun _ => rfl) (fun n3 => Snd.seq (by kernel_rfl) (Snd.seq (by kernel_rfl) (Snd.cut (Snd.exec hc _ _ _ _) ⟨f226i18s4, fun x => impl_walker_missing_of_RecOk_1_RecOk_2.c4 k (impl_walker_missing_of_RecOk_1_RecOk_2.l3 k n3) x.1.2.1 x.1.2.2.1 x.1.2.2.2.1 x.1.2.2.2.2 x.2⟩ (fun x => by kernel_rfl)) (Snd.exec hc _ _ _ _)) (Snd.exec hc _ _ _ _)) (fun n x => by kernel_rfl) k)) (Snd.exec hc _ _ _ _))) (Snd.exec hc _ _ _ _)) (Snd.exec hc _ _ _ _))
    (fun x => by kernel_rfl)

def f141i4in : SS := ⟨[(0, (.p 0)), (1, (.ro (.int .i64))), (2, (.ro (.int .i64))), (3, (.ro (.int .i64))), (4, (.ro (.int .i64)))], [(0, (.box (.st (.cons (.list 126 (.st (.cons .str (.cons (.int .i64) (.cons (.int .i64) (.cons (.int .i64) .nil)))))) (.cons (.list 52 (.st (.cons (.int .i64) (.cons .str .nil)))) (.cons .bool (.cons .ptr (.cons .ptr .nil)))))) (.agg (.cons (.ro (.list 126 (.st (.cons .str (.cons (.int .i64) (.cons (.int .i64) (.cons (.int .i64) .nil))))))) (.cons (.ro (.list 52 (.st (.cons (.int .i64) (.cons .str .nil))))) (.cons (.ro .bool) (.cons (.fn 70 .nil) (.cons (.fn 71 .nil) .nil))))))))]⟩
def f141i4out : SS := ⟨[(0, (.ro (.int .i64)))], [(0, (.box (.st (.cons (.list 126 (.st (.cons .str (.cons (.int .i64) (.cons (.int .i64) (.cons (.int .i64) .nil)))))) (.cons (.list 52 (.st (.cons (.int .i64) (.cons .str .nil)))) (.cons .bool (.cons .ptr (.cons .ptr .nil)))))) (.agg (.cons (.ro (.list 126 (.st (.cons .str (.cons (.int .i64) (.cons (.int .i64) (.cons (.int .i64) .nil))))))) (.cons (.ro (.list 52 (.st (.cons (.int .i64) (.cons .str .nil))))) (.cons (.ro .bool) (.cons (.fn 70 .nil) (.cons (.fn 71 .nil) .nil))))))))]⟩
def f141i4s14 : SS := ⟨[(12, (.ro (.int .i64)))], [(0, (.box (.st (.cons (.list 126 (.st (.cons .str (.cons (.int .i64) (.cons (.int .i64) (.cons (.int .i64) .nil)))))) (.cons (.list 52 (.st (.cons (.int .i64) (.cons .str .nil)))) (.cons .bool (.cons .ptr (.cons .ptr .nil)))))) (.agg (.cons (.ro (.list 126 (.st (.cons .str (.cons (.int .i64) (.cons (.int .i64) (.cons (.int .i64) .nil))))))) (.cons (.ro (.list 52 (.st (.cons (.int .i64) (.cons .str .nil))))) (.cons (.ro .bool) (.cons (.fn 70 .nil) (.cons (.fn 71 .nil) .nil))))))))]⟩
def f141i4s10 : SS := ⟨[(0, (.p 0)), (2, (.ro (.int .i64))), (3, (.ro (.int .i64))), (4, (.ro (.int .i64))), (12, (.ro (.int .i64))), (70, (.ro (.int .i64))), (71, (.ro (.int .i64)))], [(0, (.box (.st (.cons (.list 126 (.st (.cons .str (.cons (.int .i64) (.cons (.int .i64) (.cons (.int .i64) .nil)))))) (.cons (.list 52 (.st (.cons (.int .i64) (.cons .str .nil)))) (.cons .bool (.cons .ptr (.cons .ptr .nil)))))) (.agg (.cons (.ro (.list 126 (.st (.cons .str (.cons (.int .i64) (.cons (.int .i64) (.cons (.int .i64) .nil))))))) (.cons (.ro (.list 52 (.st (.cons (.int .i64) (.cons .str .nil))))) (.cons (.ro .bool) (.cons (.fn 70 .nil) (.cons (.fn 71 .nil) .nil))))))))]⟩
def f141i4s7 : SS := ⟨[(1, (.ro (.int .i64)))], [(0, (.box (.st (.cons (.list 126 (.st (.cons .str (.cons (.int .i64) (.cons (.int .i64) (.cons (.int .i64) .nil)))))) (.cons (.list 52 (.st (.cons (.int .i64) (.cons .str .nil)))) (.cons .bool (.cons .ptr (.cons .ptr .nil)))))) (.agg (.cons (.ro (.list 126 (.st (.cons .str (.cons (.int .i64) (.cons (.int .i64) (.cons (.int .i64) .nil))))))) (.cons (.ro (.list 52 (.st (.cons (.int .i64) (.cons .str .nil))))) (.cons (.ro .bool) (.cons (.fn 70 .nil) (.cons (.fn 71 .nil) .nil))))))))]⟩
def f141i4s5 : SS := ⟨[(0, (.p 0)), (1, (.ro (.int .i64))), (2, (.ro (.int .i64))), (3, (.ro (.int .i64))), (11, (.p 100))], [(0, (.box (.st (.cons (.list 126 (.st (.cons .str (.cons (.int .i64) (.cons (.int .i64) (.cons (.int .i64) .nil)))))) (.cons (.list 52 (.st (.cons (.int .i64) (.cons .str .nil)))) (.cons .bool (.cons .ptr (.cons .ptr .nil)))))) (.agg (.cons (.ro (.list 126 (.st (.cons .str (.cons (.int .i64) (.cons (.int .i64) (.cons (.int .i64) .nil))))))) (.cons (.ro (.list 52 (.st (.cons (.int .i64) (.cons .str .nil))))) (.cons (.ro .bool) (.cons (.fn 70 .nil) (.cons (.fn 71 .nil) .nil)))))))), (100, (.box (.st (.cons (.int .i64) (.cons .str .nil))) (.agg (.cons (.ro (.int .i64)) (.cons (.ro .str) .nil)))))]⟩
def f141i4d3 : SS := ⟨[(0, (.p 0)), (1, (.ro (.int .i64))), (2, (.ro (.int .i64))), (3, (.ro (.int .i64))), (11, (.p 100))], [(0, (.box (.st (.cons (.list 126 (.st (.cons .str (.cons (.int .i64) (.cons (.int .i64) (.cons (.int .i64) .nil)))))) (.cons (.list 52 (.st (.cons (.int .i64) (.cons .str .nil)))) (.cons .bool (.cons .ptr (.cons .ptr .nil)))))) (.agg (.cons (.ro (.list 126 (.st (.cons .str (.cons (.int .i64) (.cons (.int .i64) (.cons (.int .i64) .nil))))))) (.cons (.ro (.list 52 (.st (.cons (.int .i64) (.cons .str .nil))))) (.cons (.ro .bool) (.cons (.fn 70 .nil) (.cons (.fn 71 .nil) .nil)))))))), (100, (.box (.st (.cons (.int .i64) (.cons .str .nil))) (.agg (.cons (.ro (.int .i64)) (.cons (.ro .str) .nil)))))]⟩
def f141i4con (F : Int → Int → Int → Int → TWalker → Option (Int × TWalker)) : Con := ⟨f141i4in, f141i4out, 5, 1, fun x => F x.1.2.1 x.1.2.2.1 x.1.2.2.2.1 x.1.2.2.2.2 x.2⟩
def f197i8in : SS := ⟨[(0, (.p 0)), (1, (.ro (.int .i64))), (2, (.ro (.int .i64))), (3, (.ro (.int .i64))), (4, (.ro (.int .i64)))], [(0, (.box (.st (.cons (.list 126 (.st (.cons .str (.cons (.int .i64) (.cons (.int .i64) (.cons (.int .i64) .nil)))))) (.cons (.list 52 (.st (.cons (.int .i64) (.cons .str .nil)))) (.cons .bool (.cons .ptr (.cons .ptr .nil)))))) (.agg (.cons (.ro (.list 126 (.st (.cons .str (.cons (.int .i64) (.cons (.int .i64) (.cons (.int .i64) .nil))))))) (.cons (.ro (.list 52 (.st (.cons (.int .i64) (.cons .str .nil))))) (.cons (.ro .bool) (.cons (.fn 70 .nil) (.cons (.fn 71 .nil) .nil))))))))]⟩
def f197i8out : SS := ⟨[(0, (.ro (.int .i64)))], [(0, (.box (.st (.cons (.list 126 (.st (.cons .str (.cons (.int .i64) (.cons (.int .i64) (.cons (.int .i64) .nil)))))) (.cons (.list 52 (.st (.cons (.int .i64) (.cons .str .nil)))) (.cons .bool (.cons .ptr (.cons .ptr .nil)))))) (.agg (.cons (.ro (.list 126 (.st (.cons .str (.cons (.int .i64) (.cons (.int .i64) (.cons (.int .i64) .nil))))))) (.cons (.ro (.list 52 (.st (.cons (.int .i64) (.cons .str .nil))))) (.cons (.ro .bool) (.cons (.fn 70 .nil) (.cons (.fn 71 .nil) .nil))))))))]⟩
def f197i8s18 : SS := ⟨[(0, (.p 0)), (1, (.ro (.int .i64))), (2, (.ro (.int .i64))), (3, (.ro (.int .i64))), (4, (.ro (.int .i64)))], [(0, (.box (.st (.cons (.list 126 (.st (.cons .str (.cons (.int .i64) (.cons (.int .i64) (.cons (.int .i64) .nil)))))) (.cons (.list 52 (.st (.cons (.int .i64) (.cons .str .nil)))) (.cons .bool (.cons .ptr (.cons .ptr .nil)))))) (.agg (.cons (.ro (.list 126 (.st (.cons .str (.cons (.int .i64) (.cons (.int .i64) (.cons (.int .i64) .nil))))))) (.cons (.ro (.list 52 (.st (.cons (.int .i64) (.cons .str .nil))))) (.cons (.ro .bool) (.cons (.fn 70 .nil) (.cons (.fn 71 .nil) .nil))))))))]⟩
def f197i8s14 : SS := ⟨[(0, (.p 0)), (1, (.ro (.int .i64))), (3, (.ro (.int .i64))), (4, (.ro (.int .i64))), (12, (.ro (.int .i64))), (13, (.ro (.int .i64)))], [(0, (.box (.st (.cons (.list 126 (.st (.cons .str (.cons (.int .i64) (.cons (.int .i64) (.cons (.int .i64) .nil)))))) (.cons (.list 52 (.st (.cons (.int .i64) (.cons .str .nil)))) (.cons .bool (.cons .ptr (.cons .ptr .nil)))))) (.agg (.cons (.ro (.list 126 (.st (.cons .str (.cons (.int .i64) (.cons (.int .i64) (.cons (.int .i64) .nil))))))) (.cons (.ro (.list 52 (.st (.cons (.int .i64) (.cons .str .nil))))) (.cons (.ro .bool) (.cons (.fn 70 .nil) (.cons (.fn 71 .nil) .nil))))))))]⟩
def f197i8con (F : Int → Int → Int → Int → TWalker → Option (Int × TWalker)) : Con := ⟨f197i8in, f197i8out, 5, 1, fun x => F x.1.2.1 x.1.2.2.1 x.1.2.2.2.1 x.1.2.2.2.2 x.2⟩
def f141i4ctx (k : Nat) (S141i4 : Int → Int → Int → Int → TWalker → Option (Int × TWalker)) (S197i8 : Int → Int → Int → Int → TWalker → Option (Int × TWalker)) : Ctx := ⟨tyAt tys, conAt [(70, [f70con (impl_RecOk_1 k)]), (187, [f187con (impl_ValOk k)]), (196, [f196i7con (impl_walker_next_of_RecOk_1_RecOk_2 k)]), (197, [f197i8con S197i8])], 85, fun _ => false⟩
theorem f141i4hc (k : Nat) (S141i4 : Int → Int → Int → Int → TWalker → Option (Int × TWalker)) (S197i8 : Int → Int → Int → Int → TWalker → Option (Int × TWalker)) (h141i4 : FnOk Try.prog 141 (f141i4con S141i4)) (h197i8 : FnOk Try.prog 197 (f197i8con S197i8)) : CtxOk Try.prog (f141i4ctx k S141i4 S197i8) := ctxOk tys_ok mixed_ok (consOk_cons (f70ok k) (consOk_cons (f187ok k) (consOk_cons (f196i7ok k) (consOk_cons (h197i8) (consOk_nil)))))
theorem f141i4okb (k : Nat) (S141i4 : Int → Int → Int → Int → TWalker → Option (Int × TWalker)) (S197i8 : Int → Int → Int → Int → TWalker → Option (Int × TWalker)) (h141i4 : FnOk Try.prog 141 (f141i4con S141i4)) (h197i8 : FnOk Try.prog 197 (f197i8con S197i8)) : FnOk Try.prog 141 (f141i4con (impl_walker_body_of_RecOk_1_RecOk_2.b k S141i4 S197i8)) :=
  let hc := f141i4hc k S141i4 S197i8 h141i4 h197i8
  fnOk (fn := Try.f141) (code := bodyOf Try.f141) (res := [.tmp 10]) hc (by kernel_rfl) (by kernel_rfl) (by decide) (by kernel_rfl) (by kernel_rfl) (by kernel_rfl) (Nat.le_of_ble_eq_true (by kernel_rfl)) _
    (fun x => Snd.seq (by kernel_rfl) (Snd.seq (by kernel_rfl) (Snd.seq (by kernel_rfl) (Snd.seq (by kernel_rfl) (Snd.cut (Snd.exec hc _ _ _ _) ⟨f141i4s14, fun x => impl_walker_body_of_RecOk_1_RecOk_2.c14 k x.1 x.2⟩ (fun x => by kernel_rfl)) (Snd.seq (by kernel_rfl) (Snd.block (id := 0) (by kernel_rfl) (Snd.loop' (by kernel_rfl) f141i4s10 (fun n x => impl_walker_body_of_RecOk_1_RecOk_2.l10 k S197i8 n x.1.2.1 x.1.2.2.1 x.1.2.2.2.1 x.1.2.2.2.2.1 x.1.2.2.2.2.2.1 x.1.2.2.2.2.2.2 x.2) _ (fun _ => rfl) (fun n10 => Snd.exec hc _ _ _ _) (fun n x => by kernel_rfl) k)) (Snd.exec hc _ _ _ _))) (Snd.exec hc _ _ _ _)) (Snd.seq (by kernel_rfl) (Snd.cond (x := .tmp 21) (by kernel_rfl) (Snd.seq (by kernel_rfl) (Snd.seq (by kernel_rfl) (Snd.cut (Snd.seq (by kernel_rfl) (Snd.cut (Snd.exec hc _ _ _ _) ⟨f141i4s7, fun x => impl_walker_body_of_RecOk_1_RecOk_2.c7 k x.1 x.2⟩ (fun x => by kernel_rfl)) (Snd.exec hc _ _ _ _)) ⟨f141i4s5, fun x => impl_walker_body_of_RecOk_1_RecOk_2.c5 k x.1.2.1 x.1.2.2.1 x.1.2.2.2.1 x.2.1 x.2.2⟩ (fun x => by kernel_rfl)) (Snd.seq (by kernel_rfl) (Snd.exec hc _ _ _ _) (Snd.fork hc (id := 3) (by kernel_rfl) ⟨f141i4d3, fun x => impl_walker_body_of_RecOk_1_RecOk_2.d3 k x.1.2.1 x.1.2.2.1 x.1.2.2.2.1 x.2.1 x.2.2⟩ [[0, 1, 2, 3, 4, 5, 6, 7, 8, 10, 14, 9, 11, 12, 13, 15, 16, 17]] (by kernel_rfl) (ords_cons (fun x => by kernel_rfl) (ords_nil))))) (Snd.exec hc _ _ _ _)) (Snd.exec hc _ _ _ _)) (Snd.exec hc _ _ _ _))) (Snd.exec hc _ _ _ _))
    (fun x => by kernel_rfl)
def f197i8ctx (k : Nat) (S141i4 : Int → Int → Int → Int → TWalker → Option (Int × TWalker)) (S197i8 : Int → Int → Int → Int → TWalker → Option (Int × TWalker)) : Ctx := ⟨tyAt tys, conAt [(140, [f140con (impl_colAfter k)]), (141, [f141i4con S141i4]), (225, [f225i13con (impl_walker_count_of_RecOk_1_RecOk_2 k)]), (226, [f226i18con (impl_walker_missing_of_RecOk_1_RecOk_2 k)])], 86, fun _ => false⟩
theorem f197i8hc (k : Nat) (S141i4 : Int → Int → Int → Int → TWalker → Option (Int × TWalker)) (S197i8 : Int → Int → Int → Int → TWalker → Option (Int × TWalker)) (h141i4 : FnOk Try.prog 141 (f141i4con S141i4)) (h197i8 : FnOk Try.prog 197 (f197i8con S197i8)) : CtxOk Try.prog (f197i8ctx k S141i4 S197i8) := ctxOk tys_ok mixed_ok (consOk_cons (f140ok k) (consOk_cons (h141i4) (consOk_cons (f225i13ok k) (consOk_cons (f226i18ok k) (consOk_nil)))))
theorem f197i8okb (k : Nat) (S141i4 : Int → Int → Int → Int → TWalker → Option (Int × TWalker)) (S197i8 : Int → Int → Int → Int → TWalker → Option (Int × TWalker)) (h141i4 : FnOk Try.prog 141 (f141i4con S141i4)) (h197i8 : FnOk Try.prog 197 (f197i8con S197i8)) : FnOk Try.prog 197 (f197i8con (impl_walker_col_of_RecOk_1_RecOk_2.b k S141i4 S197i8)) :=
  let hc := f197i8hc k S141i4 S197i8 h141i4 h197i8
  fnOk (fn := Try.f197) (code := bodyOf Try.f197) (res := [.tmp 10]) hc (by kernel_rfl) (by kernel_rfl) (by decide) (by kernel_rfl) (by kernel_rfl) (by kernel_rfl) (Nat.le_of_ble_eq_true (by kernel_rfl)) _
    (fun x => Snd.seq (by kernel_rfl) (Snd.seq (by kernel_rfl) (Snd.cut (Snd.exec hc _ _ _ _) ⟨f197i8s18, fun x => impl_walker_col_of_RecOk_1_RecOk_2.c18 k S141i4 x.1.2.1 x.1.2.2.1 x.1.2.2.2.1 x.1.2.2.2.2 x.2⟩ (fun x => by kernel_rfl)) (Snd.seq (by kernel_rfl) (Snd.block (id := 0) (by kernel_rfl) (Snd.seq (by kernel_rfl) (Snd.cond (x := .tmp 22) (by kernel_rfl) (Snd.exec hc _ _ _ _) (Snd.seq (by kernel_rfl) (Snd.cond (x := .tmp 35) (by kernel_rfl) (Snd.seq (by kernel_rfl) (Snd.seq (by kernel_rfl) (Snd.seq (by kernel_rfl) (Snd.seq (by kernel_rfl) (Snd.seq (by kernel_rfl) (Snd.exec hc _ _ _ _) (Snd.seq (by kernel_rfl) (Snd.block (id := 1) (by kernel_rfl) (Snd.loop' (by kernel_rfl) f197i8s14 (fun n x => impl_walker_col_of_RecOk_1_RecOk_2.l14 k S141i4 n x.1.2.1 x.1.2.2.1 x.1.2.2.2.1 x.1.2.2.2.2.1 x.1.2.2.2.2.2 x.2) _ (fun _ => rfl) (fun n14 => Snd.exec hc _ _ _ _) (fun n x => by kernel_rfl) k)) (Snd.exec hc _ _ _ _))) (Snd.exec hc _ _ _ _)) (Snd.exec hc _ _ _ _)) (Snd.exec hc _ _ _ _)) (Snd.exec hc _ _ _ _)) (Snd.exec hc _ _ _ _)) (Snd.exec hc _ _ _ _))) (Snd.exec hc _ _ _ _))) (Snd.exec hc _ _ _ _))) (Snd.exec hc _ _ _ _))
    (fun x => by kernel_rfl)
theorem f141i4rec (k : Nat) : ∀ d, FnOk Try.prog 141 (f141i4con (impl_walker_body_of_RecOk_1_RecOk_2.d k d)) ∧ FnOk Try.prog 197 (f197i8con (impl_walker_col_of_RecOk_1_RecOk_2.d k d))
  | 0 => ⟨FnOk_none (fun _ => rfl), FnOk_none (fun _ => rfl)⟩
  | d + 1 => let ih := f141i4rec k d
    ⟨f141i4okb k (impl_walker_body_of_RecOk_1_RecOk_2.d k d) (impl_walker_col_of_RecOk_1_RecOk_2.d k d) ih.1 ih.2, f197i8okb k (impl_walker_body_of_RecOk_1_RecOk_2.d k d) (impl_walker_col_of_RecOk_1_RecOk_2.d k d) ih.1 ih.2⟩
theorem f141i4ok (k : Nat) : FnOk Try.prog 141 (f141i4con (impl_walker_body_of_RecOk_1_RecOk_2 k)) := (f141i4rec k k).1
theorem f197i8ok (k : Nat) : FnOk Try.prog 197 (f197i8con (impl_walker_col_of_RecOk_1_RecOk_2 k)) := (f141i4rec k k).2

def f69i1in : SS := ⟨[(0, (.ro (.list 126 (.st (.cons .str (.cons (.int .i64) (.cons (.int .i64) (.cons (.int .i64) .nil)))))))), (1, (.ro (.st (.cons (.list 52 (.st (.cons (.int .i64) (.cons .str .nil)))) .nil)))), (2, (.fn 70 .nil)), (3, (.fn 71 .nil))], []⟩
def f69i1out : SS := ⟨[(0, (.ro .bool))], []⟩
def f69i1con (F : (List TCol) → TRec → Unit → Unit → Option Bool) : Con := ⟨f69i1in, f69i1out, 4, 1, fun x => F x.1 x.2.1 x.2.2.1 x.2.2.2⟩
def f69i1ctx (k : Nat) : Ctx := ⟨tyAt tys, conAt [(141, [f141i4con (impl_walker_body_of_RecOk_1_RecOk_2 k)])], 36, fun _ => false⟩
theorem f69i1hc (k : Nat) : CtxOk Try.prog (f69i1ctx k) := ctxOk tys_ok mixed_ok (consOk_cons (f141i4ok k) (consOk_nil))
theorem f69i1ok (k : Nat) : FnOk Try.prog 69 (f69i1con (impl_walk_of_RecOk_1_RecOk_2 k)) :=
  let hc := f69i1hc k
  fnOk (fn := Try.f69) (code := bodyOf Try.f69) (res := [.tmp 8]) hc (by kernel_rfl) (by kernel_rfl) (by decide) (by kernel_rfl) (by kernel_rfl) (by kernel_rfl) (Nat.le_of_ble_eq_true (by kernel_rfl)) _
    (fun x => Snd.exec hc _ _ _ _)
    (fun x => by kernel_rfl)

def f14in : SS := ⟨[(0, (.ro (.list 126 (.st (.cons .str (.cons (.int .i64) (.cons (.int .i64) (.cons (.int .i64) .nil)))))))), (1, (.ro (.st (.cons (.list 52 (.st (.cons (.int .i64) (.cons .str .nil)))) .nil))))], []⟩
def f14out : SS := ⟨[(0, (.ro .bool))], []⟩
def f14con (F : (List TCol) → TRec → Option Bool) : Con := ⟨f14in, f14out, 2, 1, fun x => F x.1 x.2⟩
def f14ctx (k : Nat) : Ctx := ⟨tyAt tys, conAt [(68, [f68con (impl_SchemaOk k)]), (69, [f69i1con (impl_walk_of_RecOk_1_RecOk_2 k)])], 12, fun _ => false⟩
theorem f14hc (k : Nat) : CtxOk Try.prog (f14ctx k) := ctxOk tys_ok mixed_ok (consOk_cons (f68ok k) (consOk_cons (f69i1ok k) (consOk_nil)))
theorem f14ok (k : Nat) : FnOk Try.prog 14 (f14con (impl_RecOk k)) :=
  let hc := f14hc k
  fnOk (fn := Try.f14) (code := bodyOf Try.f14) (res := [.tmp 4]) hc (by kernel_rfl) (by kernel_rfl) (by decide) (by kernel_rfl) (by kernel_rfl) (by kernel_rfl) (Nat.le_of_ble_eq_true (by kernel_rfl)) _
    (fun x => Snd.exec hc _ _ _ _)
    (fun x => by kernel_rfl)

def f73in : SS := ⟨[(0, (.ro (.list 126 (.st (.cons .str (.cons (.int .i64) (.cons (.int .i64) (.cons (.int .i64) .nil)))))))), (1, (.ro (.int .i64)))], []⟩
def f73out : SS := ⟨[(0, (.h 100))], [(100, (.sl 52 (.st (.cons (.int .i64) (.cons .str .nil)))))]⟩
def f73s8 : SS := ⟨[(0, (.ro (.list 126 (.st (.cons .str (.cons (.int .i64) (.cons (.int .i64) (.cons (.int .i64) .nil)))))))), (5, (.h 100)), (6, (.ro (.int .i64))), (14, (.ro (.int .i64))), (15, (.ro (.int .i64)))], [(100, (.sl 52 (.st (.cons (.int .i64) (.cons .str .nil)))))]⟩
def f73s4 : SS := ⟨[(0, (.ro (.list 126 (.st (.cons .str (.cons (.int .i64) (.cons (.int .i64) (.cons (.int .i64) .nil)))))))), (5, (.h 100)), (6, (.ro (.int .i64))), (14, (.ro (.int .i64))), (15, (.ro (.int .i64)))], [(100, (.sl 52 (.st (.cons (.int .i64) (.cons .str .nil)))))]⟩
def f73con (F : (List TCol) → Int → Option (Unit × (List TVal))) : Con := ⟨f73in, f73out, 2, 1, fun x => F x.1 x.2⟩
def f73ctx (k : Nat) (S73 : (List TCol) → Int → Option (Unit × (List TVal))) : Ctx := ⟨tyAt tys, conAt [(73, [f73con S73]), (140, [f140con (impl_colAfter k)])], 45, fun _ => false⟩
theorem f73hc (k : Nat) (S73 : (List TCol) → Int → Option (Unit × (List TVal))) (h73 : FnOk Try.prog 73 (f73con S73)) : CtxOk Try.prog (f73ctx k S73) := ctxOk tys_ok mixed_ok (consOk_cons (h73) (consOk_cons (f140ok k) (consOk_nil)))
theorem f73okb (k : Nat) (S73 : (List TCol) → Int → Option (Unit × (List TVal))) (h73 : FnOk Try.prog 73 (f73con S73)) : FnOk Try.prog 73 (f73con (impl_emptyOf.b k S73)) :=
  let hc := f73hc k S73 h73
  fnOk (fn := Try.f73) (code := bodyOf Try.f73) (res := [.tmp 4]) hc (by kernel_rfl) (by kernel_rfl) (by decide) (by kernel_rfl) (by kernel_rfl) (by kernel_rfl) (Nat.le_of_ble_eq_true (by kernel_rfl)) _
    (fun x => Snd.seq (by kernel_rfl) (Snd.seq (by kernel_rfl) (Snd.seq (by kernel_rfl) (Snd.seq (by kernel_rfl) (Snd.exec hc _ _ _ _) (Snd.seq (by kernel_rfl) (Snd.block (id := 0) (by kernel_rfl) (Snd.loop' (by kernel_rfl) f73s4 (fun n x => impl_emptyOf.l4 k S73 n x.1.1 x.1.2.2.1 x.1.2.2.2.1 x.1.2.2.2.2 x.2) _ (fun _ => rfl) (fun n4 => Snd.seq (by kernel_rfl) (Snd.seq (by kernel_rfl) (Snd.seq (by kernel_rfl) (Snd.exec hc _ _ _ _) (Snd.block (id := 1) (by kernel_rfl) (Snd.seq (by kernel_rfl) (Snd.cut (Snd.exec hc _ _ _ _) ⟨f73s8, fun x => impl_emptyOf.c8 k (impl_emptyOf.l4 k S73 n4) x.1.1 x.1.2.2.1 x.1.2.2.2.1 x.1.2.2.2.2 x.2⟩ (fun x => by kernel_rfl)) (Snd.exec hc _ _ _ _)))) (Snd.exec hc _ _ _ _)) (Snd.exec hc _ _ _ _)) (fun n x => by kernel_rfl) k)) (Snd.exec hc _ _ _ _))) (Snd.exec hc _ _ _ _)) (Snd.exec hc _ _ _ _)) (Snd.exec hc _ _ _ _))
    (fun x => by kernel_rfl)
theorem f73rec (k : Nat) : ∀ d, FnOk Try.prog 73 (f73con (impl_emptyOf.d k d))
  | 0 => FnOk_none (fun _ => rfl)
  | d + 1 => let ih := f73rec k d
    f73okb k (impl_emptyOf.d k d) ih
theorem f73ok (k : Nat) : FnOk Try.prog 73 (f73con (impl_emptyOf k)) := (f73rec k k)

def f16in : SS := ⟨[(0, (.ro (.list 126 (.st (.cons .str (.cons (.int .i64) (.cons (.int .i64) (.cons (.int .i64) .nil))))))))], []⟩
def f16out : SS := ⟨[(0, (.agg (.cons (.h 100) .nil))), (1, (.ro .bool))], [(100, (.sl 52 (.st (.cons (.int .i64) (.cons .str .nil)))))]⟩
def f16con (F : (List TCol) → Option (((Unit × Unit) × Bool) × (List TVal))) : Con := ⟨f16in, f16out, 1, 2, fun x => F x⟩
def f16ctx (k : Nat) : Ctx := ⟨tyAt tys, conAt [(68, [f68con (impl_SchemaOk k)]), (73, [f73con (impl_emptyOf k)])], 11, fun _ => false⟩
theorem f16hc (k : Nat) : CtxOk Try.prog (f16ctx k) := ctxOk tys_ok mixed_ok (consOk_cons (f68ok k) (consOk_cons (f73ok k) (consOk_nil)))
theorem f16ok (k : Nat) : FnOk Try.prog 16 (f16con (impl_RecEmpty k)) :=
  let hc := f16hc k
  fnOk (fn := Try.f16) (code := bodyOf Try.f16) (res := [.cell 2 27, .tmp 3]) hc (by kernel_rfl) (by kernel_rfl) (by decide) (by kernel_rfl) (by kernel_rfl) (by kernel_rfl) (Nat.le_of_ble_eq_true (by kernel_rfl)) _
    (fun x => Snd.exec hc _ _ _ _)
    (fun x => by kernel_rfl)

def f91in : SS := ⟨[(0, (.ro (.list 126 (.st (.cons .str (.cons (.int .i64) (.cons (.int .i64) (.cons (.int .i64) .nil))))))))], []⟩
def f91out : SS := ⟨[(0, (.h 100))], [(100, (.sl 3 (.int .i64)))]⟩
def f91s7 : SS := ⟨[(3, (.h 100)), (7, (.ro (.list 126 (.st (.cons .str (.cons (.int .i64) (.cons (.int .i64) (.cons (.int .i64) .nil)))))))), (8, (.ro (.int .i64))), (9, (.ro (.int .i64)))], [(100, (.sl 3 (.int .i64)))]⟩
def f91s3 : SS := ⟨[(3, (.h 100)), (7, (.ro (.list 126 (.st (.cons .str (.cons (.int .i64) (.cons (.int .i64) (.cons (.int .i64) .nil)))))))), (8, (.ro (.int .i64))), (9, (.ro (.int .i64)))], [(100, (.sl 3 (.int .i64)))]⟩
def f91con (F : (List TCol) → Option (Unit × (List Int))) : Con := ⟨f91in, f91out, 1, 1, fun x => F x⟩
def f91ctx (k : Nat) : Ctx := ⟨tyAt tys, conAt [], 23, fun _ => false⟩
theorem f91hc (k : Nat) : CtxOk Try.prog (f91ctx k) := ctxOk tys_ok mixed_ok (consOk_nil)
theorem f91ok (k : Nat) : FnOk Try.prog 91 (f91con (impl_leavesOf k)) :=
  let hc := f91hc k
  fnOk (fn := Try.f91) (code := bodyOf Try.f91) (res := [.tmp 2]) hc (by kernel_rfl) (by kernel_rfl) (by decide) (by kernel_rfl) (by kernel_rfl) (by kernel_rfl) (Nat.le_of_ble_eq_true (by kernel_rfl)) _
    (fun x => Snd.seq (by kernel_rfl) (Snd.seq (by kernel_rfl) (Snd.seq (by kernel_rfl) (Snd.exec hc _ _ _ _) (Snd.seq (by kernel_rfl) (Snd.block (id := 0) (by kernel_rfl) (Snd.loop' (by kernel_rfl) f91s3 (fun n x => impl_leavesOf.l3 k n x.1.2.1 x.1.2.2.1 x.1.2.2.2 x.2) _ (fun _ => rfl) (fun n3 => Snd.seq (by kernel_rfl) (Snd.seq (by kernel_rfl) (Snd.seq (by kernel_rfl) (Snd.cut (Snd.exec hc _ _ _ _) ⟨f91s7, fun x => impl_leavesOf.c7 k (impl_leavesOf.l3 k n3) x.1.2.1 x.1.2.2.1 x.1.2.2.2 x.2⟩ (fun x => by kernel_rfl)) (Snd.exec hc _ _ _ _)) (Snd.exec hc _ _ _ _)) (Snd.exec hc _ _ _ _)) (fun n x => by kernel_rfl) k)) (Snd.exec hc _ _ _ _))) (Snd.exec hc _ _ _ _)) (Snd.exec hc _ _ _ _))
    (fun x => by kernel_rfl)

def f76in : SS := ⟨[(0, (.ro (.list 126 (.st (.cons .str (.cons (.int .i64) (.cons (.int .i64) (.cons (.int .i64) .nil))))))))], []⟩
def f76out : SS := ⟨[(0, (.h 100))], [(100, (.sl 3 (.int .i64)))]⟩
def f76con (F : (List TCol) → Option (Unit × (List Int))) : Con := ⟨f76in, f76out, 1, 1, fun x => F x⟩
def f76ctx (k : Nat) : Ctx := ⟨tyAt tys, conAt [(68, [f68con (impl_SchemaOk k)]), (91, [f91con (impl_leavesOf k)])], 8, fun _ => false⟩
theorem f76hc (k : Nat) : CtxOk Try.prog (f76ctx k) := ctxOk tys_ok mixed_ok (consOk_cons (f68ok k) (consOk_cons (f91ok k) (consOk_nil)))
theorem f76ok (k : Nat) : FnOk Try.prog 76 (f76con (impl_SchemaLeaves k)) :=
  let hc := f76hc k
  fnOk (fn := Try.f76) (code := bodyOf Try.f76) (res := [.tmp 2]) hc (by kernel_rfl) (by kernel_rfl) (by decide) (by kernel_rfl) (by kernel_rfl) (by kernel_rfl) (Nat.le_of_ble_eq_true (by kernel_rfl)) _
    (fun x => Snd.exec hc _ _ _ _)
    (fun x => by kernel_rfl)

def f196i9in : SS := ⟨[(0, (.p 0))], [(0, (.box (.st (.cons (.list 126 (.st (.cons .str (.cons (.int .i64) (.cons (.int .i64) (.cons (.int .i64) .nil)))))) (.cons (.list 52 (.st (.cons (.int .i64) (.cons .str .nil)))) (.cons .bool (.cons .ptr (.cons .ptr .nil)))))) (.agg (.cons (.ro (.list 126 (.st (.cons .str (.cons (.int .i64) (.cons (.int .i64) (.cons (.int .i64) .nil))))))) (.cons (.ro (.list 52 (.st (.cons (.int .i64) (.cons .str .nil))))) (.cons (.ro .bool) (.cons (.fn 78 (.cons (.p 10) (.cons (.p 12) (.cons (.p 13) .nil)))) (.cons (.fn 79 .nil) .nil)))))))), (10, (.box (.list 3 (.int .i64)) (.h 11))), (11, (.sl 3 (.int .i64))), (12, (.box (.int .i64) (.ro (.int .i64)))), (13, (.box (.list 52 (.st (.cons (.int .i64) (.cons .str .nil)))) (.h 14))), (14, (.sl 52 (.st (.cons (.int .i64) (.cons .str .nil)))))]⟩
def f196i9out : SS := ⟨[(0, (.agg (.cons (.ro (.int .i64)) (.cons (.ro .str) .nil))))], [(0, (.box (.st (.cons (.list 126 (.st (.cons .str (.cons (.int .i64) (.cons (.int .i64) (.cons (.int .i64) .nil)))))) (.cons (.list 52 (.st (.cons (.int .i64) (.cons .str .nil)))) (.cons .bool (.cons .ptr (.cons .ptr .nil)))))) (.agg (.cons (.ro (.list 126 (.st (.cons .str (.cons (.int .i64) (.cons (.int .i64) (.cons (.int .i64) .nil))))))) (.cons (.ro (.list 52 (.st (.cons (.int .i64) (.cons .str .nil))))) (.cons (.ro .bool) (.cons (.fn 78 (.cons (.p 10) (.cons (.p 12) (.cons (.p 13) .nil)))) (.cons (.fn 79 .nil) .nil)))))))), (10, (.box (.list 3 (.int .i64)) (.h 11))), (11, (.sl 3 (.int .i64))), (12, (.box (.int .i64) (.ro (.int .i64)))), (13, (.box (.list 52 (.st (.cons (.int .i64) (.cons .str .nil)))) (.h 14))), (14, (.sl 52 (.st (.cons (.int .i64) (.cons .str .nil)))))]⟩
def f196i9con (F : TWalkerB → Unit → (List Int) → Int → Unit → (List TVal) → Option ((TVal) × TWalkerB × Unit × (List Int) × Int × Unit × (List TVal))) : Con := ⟨f196i9in, f196i9out, 1, 1, fun x => F x.2.1 x.2.2.1 x.2.2.2.1 x.2.2.2.2.1 x.2.2.2.2.2.1 x.2.2.2.2.2.2⟩
def f196i9ctx (k : Nat) : Ctx := ⟨tyAt tys, conAt [], 35, fun _ => false⟩
theorem f196i9hc (k : Nat) : CtxOk Try.prog (f196i9ctx k) := ctxOk tys_ok mixed_ok (consOk_nil)
theorem f196i9ok (k : Nat) : FnOk Try.prog 196 (f196i9con (impl_walker_next_of_RecValues_1_RecValues_2 k)) :=
  let hc := f196i9hc k
  fnOk (fn := Try.f196) (code := bodyOf Try.f196) (res := [.cell 2 52]) hc (by kernel_rfl) (by kernel_rfl) (by decide) (by kernel_rfl) (by kernel_rfl) (by kernel_rfl) (Nat.le_of_ble_eq_true (by kernel_rfl)) _
    (fun x => Snd.exec hc _ _ _ _)
    (fun x => by kernel_rfl)

def f225i14in : SS := ⟨[(0, (.p 0)), (1, (.ro (.int .i64)))], [(0, (.box (.st (.cons (.list 126 (.st (.cons .str (.cons (.int .i64) (.cons (.int .i64) (.cons (.int .i64) .nil)))))) (.cons (.list 52 (.st (.cons (.int .i64) (.cons .str .nil)))) (.cons .bool (.cons .ptr (.cons .ptr .nil)))))) (.agg (.cons (.ro (.list 126 (.st (.cons .str (.cons (.int .i64) (.cons (.int .i64) (.cons (.int .i64) .nil))))))) (.cons (.ro (.list 52 (.st (.cons (.int .i64) (.cons .str .nil))))) (.cons (.ro .bool) (.cons (.fn 78 (.cons (.p 10) (.cons (.p 12) (.cons (.p 13) .nil)))) (.cons (.fn 79 .nil) .nil)))))))), (10, (.box (.list 3 (.int .i64)) (.h 11))), (11, (.sl 3 (.int .i64))), (12, (.box (.int .i64) (.ro (.int .i64)))), (13, (.box (.list 52 (.st (.cons (.int .i64) (.cons .str .nil)))) (.h 14))), (14, (.sl 52 (.st (.cons (.int .i64) (.cons .str .nil)))))]⟩
def f225i14out : SS := ⟨[(0, (.ro (.int .i64)))], [(0, (.box (.st (.cons (.list 126 (.st (.cons .str (.cons (.int .i64) (.cons (.int .i64) (.cons (.int .i64) .nil)))))) (.cons (.list 52 (.st (.cons (.int .i64) (.cons .str .nil)))) (.cons .bool (.cons .ptr (.cons .ptr .nil)))))) (.agg (.cons (.ro (.list 126 (.st (.cons .str (.cons (.int .i64) (.cons (.int .i64) (.cons (.int .i64) .nil))))))) (.cons (.ro (.list 52 (.st (.cons (.int .i64) (.cons .str .nil))))) (.cons (.ro .bool) (.cons (.fn 78 (.cons (.p 10) (.cons (.p 12) (.cons (.p 13) .nil)))) (.cons (.fn 79 .nil) .nil)))))))), (10, (.box (.list 3 (.int .i64)) (.h 11))), (11, (.sl 3 (.int .i64))), (12, (.box (.int .i64) (.ro (.int .i64)))), (13, (.box (.list 52 (.st (.cons (.int .i64) (.cons .str .nil)))) (.h 14))), (14, (.sl 52 (.st (.cons (.int .i64) (.cons .str .nil)))))]⟩
def f225i14con (F : Int → TWalkerB → Unit → (List Int) → Int → Unit → (List TVal) → Option (Int × TWalkerB × Unit × (List Int) × Int × Unit × (List TVal))) : Con := ⟨f225i14in, f225i14out, 2, 1, fun x => F x.1.2 x.2.1 x.2.2.1 x.2.2.2.1 x.2.2.2.2.1 x.2.2.2.2.2.1 x.2.2.2.2.2.2⟩
def f225i14ctx (k : Nat) : Ctx := ⟨tyAt tys, conAt [(77, [f77con (impl_within k)]), (196, [f196i9con (impl_walker_next_of_RecValues_1_RecValues_2 k)])], 23, fun _ => false⟩
theorem f225i14hc (k : Nat) : CtxOk Try.prog (f225i14ctx k) := ctxOk tys_ok mixed_ok (consOk_cons (f77ok k) (consOk_cons (f196i9ok k) (consOk_nil)))
theorem f225i14ok (k : Nat) : FnOk Try.prog 225 (f225i14con (impl_walker_count_of_RecValues_1_RecValues_2 k)) :=
  let hc := f225i14hc k
  fnOk (fn := Try.f225) (code := bodyOf Try.f225) (res := [.tmp 4]) hc (by kernel_rfl) (by kernel_rfl) (by decide) (by kernel_rfl) (by kernel_rfl) (by kernel_rfl) (Nat.le_of_ble_eq_true (by kernel_rfl)) _
    (fun x => Snd.exec hc _ _ _ _)
    (fun x => by kernel_rfl)

def f79in : SS := ⟨[(0, (.ro (.int .i64))), (1, (.ro (.int .i64))), (2, (.ro (.int .i64)))], []⟩
def f79out : SS := ⟨[], []⟩
def f79con (F : Int → Int → Int → Option Unit) : Con := ⟨f79in, f79out, 3, 0, fun x => F x.1 x.2.1 x.2.2⟩
def f79ctx (k : Nat) : Ctx := ⟨tyAt tys, conAt [], 6, fun _ => false⟩
theorem f79hc (k : Nat) : CtxOk Try.prog (f79ctx k) := ctxOk tys_ok mixed_ok (consOk_nil)
theorem f79ok (k : Nat) : FnOk Try.prog 79 (f79con (impl_RecValues_2 k)) :=
  let hc := f79hc k
  fnOk (fn := Try.f79) (code := bodyOf Try.f79) (res := []) hc (by kernel_rfl) (by kernel_rfl) (by decide) (by kernel_rfl) (by kernel_rfl) (by kernel_rfl) (Nat.le_of_ble_eq_true (by kernel_rfl)) _
    (fun x => Snd.exec hc _ _ _ _)
    (fun x => by kernel_rfl)

def f226i19in : SS := ⟨[(0, (.p 0)), (1, (.ro (.int .i64))), (2, (.ro (.int .i64))), (3, (.ro (.int .i64)))], [(0, (.box (.st (.cons (.list 126 (.st (.cons .str (.cons (.int .i64) (.cons (.int .i64) (.cons (.int .i64) .nil)))))) (.cons (.list 52 (.st (.cons (.int .i64) (.cons .str .nil)))) (.cons .bool (.cons .ptr (.cons .ptr .nil)))))) (.agg (.cons (.ro (.list 126 (.st (.cons .str (.cons (.int .i64) (.cons (.int .i64) (.cons (.int .i64) .nil))))))) (.cons (.ro (.list 52 (.st (.cons (.int .i64) (.cons .str .nil))))) (.cons (.ro .bool) (.cons (.fn 78 (.cons (.p 10) (.cons (.p 12) (.cons (.p 13) .nil)))) (.cons (.fn 79 .nil) .nil)))))))), (10, (.box (.list 3 (.int .i64)) (.h 11))), (11, (.sl 3 (.int .i64))), (12, (.box (.int .i64) (.ro (.int .i64)))), (13, (.box (.list 52 (.st (.cons (.int .i64) (.cons .str .nil)))) (.h 14))), (14, (.sl 52 (.st (.cons (.int .i64) (.cons .str .nil)))))]⟩
def f226i19out : SS := ⟨[(0, (.ro (.int .i64)))], [(0, (.box (.st (.cons (.list 126 (.st (.cons .str (.cons (.int .i64) (.cons (.int .i64) (.cons (.int .i64) .nil)))))) (.cons (.list 52 (.st (.cons (.int .i64) (.cons .str .nil)))) (.cons .bool (.cons .ptr (.cons .ptr .nil)))))) (.agg (.cons (.ro (.list 126 (.st (.cons .str (.cons (.int .i64) (.cons (.int .i64) (.cons (.int .i64) .nil))))))) (.cons (.ro (.list 52 (.st (.cons (.int .i64) (.cons .str .nil))))) (.cons (.ro .bool) (.cons (.fn 78 (.cons (.p 10) (.cons (.p 12) (.cons (.p 13) .nil)))) (.cons (.fn 79 .nil) .nil)))))))), (10, (.box (.list 3 (.int .i64)) (.h 11))), (11, (.sl 3 (.int .i64))), (12, (.box (.int .i64) (.ro (.int .i64)))), (13, (.box (.list 52 (.st (.cons (.int .i64) (.cons .str .nil)))) (.h 14))), (14, (.sl 52 (.st (.cons (.int .i64) (.cons .str .nil)))))]⟩
def f226i19s4 : SS := ⟨[(0, (.p 0)), (2, (.ro (.int .i64))), (3, (.ro (.int .i64))), (9, (.ro (.int .i64))), (10, (.ro (.int .i64)))], [(0, (.box (.st (.cons (.list 126 (.st (.cons .str (.cons (.int .i64) (.cons (.int .i64) (.cons (.int .i64) .nil)))))) (.cons (.list 52 (.st (.cons (.int .i64) (.cons .str .nil)))) (.cons .bool (.cons .ptr (.cons .ptr .nil)))))) (.agg (.cons (.ro (.list 126 (.st (.cons .str (.cons (.int .i64) (.cons (.int .i64) (.cons (.int .i64) .nil))))))) (.cons (.ro (.list 52 (.st (.cons (.int .i64) (.cons .str .nil))))) (.cons (.ro .bool) (.cons (.fn 78 (.cons (.p 10) (.cons (.p 12) (.cons (.p 13) .nil)))) (.cons (.fn 79 .nil) .nil)))))))), (10, (.box (.list 3 (.int .i64)) (.h 11))), (11, (.sl 3 (.int .i64))), (12, (.box (.int .i64) (.ro (.int .i64)))), (13, (.box (.list 52 (.st (.cons (.int .i64) (.cons .str .nil)))) (.h 14))), (14, (.sl 52 (.st (.cons (.int .i64) (.cons .str .nil)))))]⟩
def f226i19s3 : SS := ⟨[(0, (.p 0)), (2, (.ro (.int .i64))), (3, (.ro (.int .i64))), (9, (.ro (.int .i64))), (10, (.ro (.int .i64)))], [(0, (.box (.st (.cons (.list 126 (.st (.cons .str (.cons (.int .i64) (.cons (.int .i64) (.cons (.int .i64) .nil)))))) (.cons (.list 52 (.st (.cons (.int .i64) (.cons .str .nil)))) (.cons .bool (.cons .ptr (.cons .ptr .nil)))))) (.agg (.cons (.ro (.list 126 (.st (.cons .str (.cons (.int .i64) (.cons (.int .i64) (.cons (.int .i64) .nil))))))) (.cons (.ro (.list 52 (.st (.cons (.int .i64) (.cons .str .nil))))) (.cons (.ro .bool) (.cons (.fn 78 (.cons (.p 10) (.cons (.p 12) (.cons (.p 13) .nil)))) (.cons (.fn 79 .nil) .nil)))))))), (10, (.box (.list 3 (.int .i64)) (.h 11))), (11, (.sl 3 (.int .i64))), (12, (.box (.int .i64) (.ro (.int .i64)))), (13, (.box (.list 52 (.st (.cons (.int .i64) (.cons .str .nil)))) (.h 14))), (14, (.sl 52 (.st (.cons (.int .i64) (.cons .str .nil)))))]⟩
def f226i19con (F : Int → Int → Int → TWalkerB → Unit → (List Int) → Int → Unit → (List TVal) → Option (Int × TWalkerB × Unit × (List Int) × Int × Unit × (List TVal))) : Con := ⟨f226i19in, f226i19out, 4, 1, fun x => F x.1.2.1 x.1.2.2.1 x.1.2.2.2 x.2.1 x.2.2.1 x.2.2.2.1 x.2.2.2.2.1 x.2.2.2.2.2.1 x.2.2.2.2.2.2⟩
def f226i19ctx (k : Nat) : Ctx := ⟨tyAt tys, conAt [(79, [f79con (impl_RecValues_2 k)]), (140, [f140con (impl_colAfter k)])], 41, fun _ => false⟩
theorem f226i19hc (k : Nat) : CtxOk Try.prog (f226i19ctx k) := ctxOk tys_ok mixed_ok (consOk_cons (f79ok k) (consOk_cons (f140ok k) (consOk_nil)))
theorem f226i19ok (k : Nat) : FnOk Try.prog 226 (f226i19con (impl_walker_missing_of_RecValues_1_RecValues_2 k)) :=
  let hc := f226i19hc k
  fnOk (fn := Try.f226) (code := bodyOf Try.f226) (res := [.tmp 8]) hc (by kernel_rfl) (by kernel_rfl) (by decide) (by kernel_rfl) (by kernel_rfl) (by kernel_rfl) (Nat.le_of_ble_eq_true (by kernel_rfl)) _
    (fun x => Snd.seq (by kernel_rfl) (Snd.seq (by kernel_rfl) (Snd.seq (by kernel_rfl) (Snd.exec hc _ _ _ _) (Snd.seq (by kernel_rfl) (Snd.block (id := 0) (by kernel_rfl) (Snd.loop' (by kernel_rfl) f226i19s3 (fun n x => impl_walker_missing_of_RecValues_1_RecValues_2.l3 k n x.1.2.1 x.1.2.2.1 x.1.2.2.2.1 x.1.2.2.2.2 x.2.1 x.2.2.1 x.2.2.2.1 x.2.2.2.2.1 x.2.2.2.2.2.1 x.2.2.2.2.2.2) _ (fun _ => rfl) (fun n3 => Snd.seq (by kernel_rfl) (Snd.seq (by kernel_rfl) (Snd.cut (Snd.exec hc _ _ _ _) ⟨f226i19s4, fun x => impl_walker_missing_of_RecValues_1_RecValues_2.c4 k (impl_walker_missing_of_RecValues_1_RecValues_2.l3 k n3) x.1.2.1 x.1.2.2.1 x.1.2.2.2.1 x.1.2.2.2.2 x.2.1 x.2.2.1 x.2.2.2.1 x.2.2.2.2.1 x.2.2.2.2.2.1 x.2.2.2.2.2.2⟩ (fun x => by kernel_rfl)) (Snd.exec hc _ _ _ _)) (Snd.exec hc _ _ _ _)) (fun n x => by kernel_rfl) k)) (Snd.exec hc _ _ _ _))) (Snd.exec hc _ _ _ _)) (Snd.exec hc _ _ _ _))
    (fun x => by kernel_rfl)

def f78i16in : SS := ⟨[(0, (.ro (.int .i64))), (1, (.ro (.int .i64))), (2, (.ro (.int .i64))), (3, (.ro (.st (.cons (.int .i64) (.cons .str .nil))))), (4, (.p 4)), (5, (.p 5)), (6, (.p 6))], [(4, (.box (.list 3 (.int .i64)) (.h 10))), (5, (.box (.int .i64) (.ro (.int .i64)))), (6, (.box (.list 52 (.st (.cons (.int .i64) (.cons .str .nil)))) (.h 11))), (10, (.sl 3 (.int .i64))), (11, (.sl 52 (.st (.cons (.int .i64) (.cons .str .nil)))))]⟩
def f78i16out : SS := ⟨[], [(4, (.box (.list 3 (.int .i64)) (.h 10))), (5, (.box (.int .i64) (.ro (.int .i64)))), (6, (.box (.list 52 (.st (.cons (.int .i64) (.cons .str .nil)))) (.h 100))), (10, (.sl 3 (.int .i64))), (100, (.sl 52 (.st (.cons (.int .i64) (.cons .str .nil)))))]⟩
def f78i16con (F : Int → Int → Int → TVal → Unit → Int → Unit → (List Int) → (List TVal) → Option (Unit × Unit × Int × Unit × (List Int) × (List TVal))) : Con := ⟨f78i16in, f78i16out, 7, 0, fun x => F x.1.1 x.1.2.1 x.1.2.2.1 x.1.2.2.2.1 x.2.1 x.2.2.1 x.2.2.2.1 x.2.2.2.2.1 x.2.2.2.2.2⟩
def f78i16ctx (k : Nat) : Ctx := ⟨tyAt tys, conAt [], 21, fun _ => false⟩
theorem f78i16hc (k : Nat) : CtxOk Try.prog (f78i16ctx k) := ctxOk tys_ok mixed_ok (consOk_nil)
theorem f78i16ok (k : Nat) : FnOk Try.prog 78 (f78i16con (impl_RecValues_1 k)) :=
  let hc := f78i16hc k
  fnOk (fn := Try.f78) (code := bodyOf Try.f78) (res := []) hc (by kernel_rfl) (by kernel_rfl) (by decide) (by kernel_rfl) (by kernel_rfl) (by kernel_rfl) (Nat.le_of_ble_eq_true (by kernel_rfl)) _
    (fun x => Snd.exec hc _ _ _ _)
    (fun x => by kernel_rfl)

def f141i5in : SS := ⟨[(0, (.p 0)), (1, (.ro (.int .i64))), (2, (.ro (.int .i64))), (3, (.ro (.int .i64))), (4, (.ro (.int .i64)))], [(0, (.box (.st (.cons (.list 126 (.st (.cons .str (.cons (.int .i64) (.cons (.int .i64) (.cons (.int .i64) .nil)))))) (.cons (.list 52 (.st (.cons (.int .i64) (.cons .str .nil)))) (.cons .bool (.cons .ptr (.cons .ptr .nil)))))) (.agg (.cons (.ro (.list 126 (.st (.cons .str (.cons (.int .i64) (.cons (.int .i64) (.cons (.int .i64) .nil))))))) (.cons (.ro (.list 52 (.st (.cons (.int .i64) (.cons .str .nil))))) (.cons (.ro .bool) (.cons (.fn 78 (.cons (.p 10) (.cons (.p 12) (.cons (.p 13) .nil)))) (.cons (.fn 79 .nil) .nil)))))))), (10, (.box (.list 3 (.int .i64)) (.h 11))), (11, (.sl 3 (.int .i64))), (12, (.box (.int .i64) (.ro (.int .i64)))), (13, (.box (.list 52 (.st (.cons (.int .i64) (.cons .str .nil)))) (.h 14))), (14, (.sl 52 (.st (.cons (.int .i64) (.cons .str .nil)))))]⟩
def f141i5out : SS := ⟨[(0, (.ro (.int .i64)))], [(0, (.box (.st (.cons (.list 126 (.st (.cons .str (.cons (.int .i64) (.cons (.int .i64) (.cons (.int .i64) .nil)))))) (.cons (.list 52 (.st (.cons (.int .i64) (.cons .str .nil)))) (.cons .bool (.cons .ptr (.cons .ptr .nil)))))) (.agg (.cons (.ro (.list 126 (.st (.cons .str (.cons (.int .i64) (.cons (.int .i64) (.cons (.int .i64) .nil))))))) (.cons (.ro (.list 52 (.st (.cons (.int .i64) (.cons .str .nil))))) (.cons (.ro .bool) (.cons (.fn 78 (.cons (.p 10) (.cons (.p 12) (.cons (.p 13) .nil)))) (.cons (.fn 79 .nil) .nil)))))))), (10, (.box (.list 3 (.int .i64)) (.h 11))), (11, (.sl 3 (.int .i64))), (12, (.box (.int .i64) (.ro (.int .i64)))), (13, (.box (.list 52 (.st (.cons (.int .i64) (.cons .str .nil)))) (.h 100))), (100, (.sl 52 (.st (.cons (.int .i64) (.cons .str .nil)))))]⟩
def f141i5s14 : SS := ⟨[(12, (.ro (.int .i64)))], [(0, (.box (.st (.cons (.list 126 (.st (.cons .str (.cons (.int .i64) (.cons (.int .i64) (.cons (.int .i64) .nil)))))) (.cons (.list 52 (.st (.cons (.int .i64) (.cons .str .nil)))) (.cons .bool (.cons .ptr (.cons .ptr .nil)))))) (.agg (.cons (.ro (.list 126 (.st (.cons .str (.cons (.int .i64) (.cons (.int .i64) (.cons (.int .i64) .nil))))))) (.cons (.ro (.list 52 (.st (.cons (.int .i64) (.cons .str .nil))))) (.cons (.ro .bool) (.cons (.fn 78 (.cons (.p 10) (.cons (.p 12) (.cons (.p 13) .nil)))) (.cons (.fn 79 .nil) .nil)))))))), (10, (.box (.list 3 (.int .i64)) (.h 11))), (11, (.sl 3 (.int .i64))), (12, (.box (.int .i64) (.ro (.int .i64)))), (13, (.box (.list 52 (.st (.cons (.int .i64) (.cons .str .nil)))) (.h 100))), (100, (.sl 52 (.st (.cons (.int .i64) (.cons .str .nil)))))]⟩
def f141i5s10 : SS := ⟨[(0, (.p 0)), (2, (.ro (.int .i64))), (3, (.ro (.int .i64))), (4, (.ro (.int .i64))), (12, (.ro (.int .i64))), (70, (.ro (.int .i64))), (71, (.ro (.int .i64)))], [(0, (.box (.st (.cons (.list 126 (.st (.cons .str (.cons (.int .i64) (.cons (.int .i64) (.cons (.int .i64) .nil)))))) (.cons (.list 52 (.st (.cons (.int .i64) (.cons .str .nil)))) (.cons .bool (.cons .ptr (.cons .ptr .nil)))))) (.agg (.cons (.ro (.list 126 (.st (.cons .str (.cons (.int .i64) (.cons (.int .i64) (.cons (.int .i64) .nil))))))) (.cons (.ro (.list 52 (.st (.cons (.int .i64) (.cons .str .nil))))) (.cons (.ro .bool) (.cons (.fn 78 (.cons (.p 10) (.cons (.p 12) (.cons (.p 13) .nil)))) (.cons (.fn 79 .nil) .nil)))))))), (10, (.box (.list 3 (.int .i64)) (.h 11))), (11, (.sl 3 (.int .i64))), (12, (.box (.int .i64) (.ro (.int .i64)))), (13, (.box (.list 52 (.st (.cons (.int .i64) (.cons .str .nil)))) (.h 100))), (100, (.sl 52 (.st (.cons (.int .i64) (.cons .str .nil)))))]⟩
def f141i5s7 : SS := ⟨[(1, (.ro (.int .i64)))], [(0, (.box (.st (.cons (.list 126 (.st (.cons .str (.cons (.int .i64) (.cons (.int .i64) (.cons (.int .i64) .nil)))))) (.cons (.list 52 (.st (.cons (.int .i64) (.cons .str .nil)))) (.cons .bool (.cons .ptr (.cons .ptr .nil)))))) (.agg (.cons (.ro (.list 126 (.st (.cons .str (.cons (.int .i64) (.cons (.int .i64) (.cons (.int .i64) .nil))))))) (.cons (.ro (.list 52 (.st (.cons (.int .i64) (.cons .str .nil))))) (.cons (.ro .bool) (.cons (.fn 78 (.cons (.p 10) (.cons (.p 12) (.cons (.p 13) .nil)))) (.cons (.fn 79 .nil) .nil)))))))), (10, (.box (.list 3 (.int .i64)) (.h 11))), (11, (.sl 3 (.int .i64))), (12, (.box (.int .i64) (.ro (.int .i64)))), (13, (.box (.list 52 (.st (.cons (.int .i64) (.cons .str .nil)))) (.h 100))), (100, (.sl 52 (.st (.cons (.int .i64) (.cons .str .nil)))))]⟩
def f141i5s5 : SS := ⟨[(0, (.p 0)), (1, (.ro (.int .i64))), (2, (.ro (.int .i64))), (3, (.ro (.int .i64))), (11, (.p 100))], [(0, (.box (.st (.cons (.list 126 (.st (.cons .str (.cons (.int .i64) (.cons (.int .i64) (.cons (.int .i64) .nil)))))) (.cons (.list 52 (.st (.cons (.int .i64) (.cons .str .nil)))) (.cons .bool (.cons .ptr (.cons .ptr .nil)))))) (.agg (.cons (.ro (.list 126 (.st (.cons .str (.cons (.int .i64) (.cons (.int .i64) (.cons (.int .i64) .nil))))))) (.cons (.ro (.list 52 (.st (.cons (.int .i64) (.cons .str .nil))))) (.cons (.ro .bool) (.cons (.fn 78 (.cons (.p 10) (.cons (.p 12) (.cons (.p 13) .nil)))) (.cons (.fn 79 .nil) .nil)))))))), (10, (.box (.list 3 (.int .i64)) (.h 11))), (11, (.sl 3 (.int .i64))), (12, (.box (.int .i64) (.ro (.int .i64)))), (13, (.box (.list 52 (.st (.cons (.int .i64) (.cons .str .nil)))) (.h 14))), (14, (.sl 52 (.st (.cons (.int .i64) (.cons .str .nil))))), (100, (.box (.st (.cons (.int .i64) (.cons .str .nil))) (.agg (.cons (.ro (.int .i64)) (.cons (.ro .str) .nil)))))]⟩
def f141i5d3 : SS := ⟨[(0, (.p 0)), (1, (.ro (.int .i64))), (2, (.ro (.int .i64))), (3, (.ro (.int .i64))), (11, (.p 100))], [(0, (.box (.st (.cons (.list 126 (.st (.cons .str (.cons (.int .i64) (.cons (.int .i64) (.cons (.int .i64) .nil)))))) (.cons (.list 52 (.st (.cons (.int .i64) (.cons .str .nil)))) (.cons .bool (.cons .ptr (.cons .ptr .nil)))))) (.agg (.cons (.ro (.list 126 (.st (.cons .str (.cons (.int .i64) (.cons (.int .i64) (.cons (.int .i64) .nil))))))) (.cons (.ro (.list 52 (.st (.cons (.int .i64) (.cons .str .nil))))) (.cons (.ro .bool) (.cons (.fn 78 (.cons (.p 10) (.cons (.p 12) (.cons (.p 13) .nil)))) (.cons (.fn 79 .nil) .nil)))))))), (10, (.box (.list 3 (.int .i64)) (.h 11))), (11, (.sl 3 (.int .i64))), (12, (.box (.int .i64) (.ro (.int .i64)))), (13, (.box (.list 52 (.st (.cons (.int .i64) (.cons .str .nil)))) (.h 14))), (14, (.sl 52 (.st (.cons (.int .i64) (.cons .str .nil))))), (100, (.box (.st (.cons (.int .i64) (.cons .str .nil))) (.agg (.cons (.ro (.int .i64)) (.cons (.ro .str) .nil)))))]⟩
def f141i5con (F : Int → Int → Int → Int → TWalkerB → Unit → (List Int) → Int → Unit → (List TVal) → Option (Int × TWalkerB × Unit × (List Int) × Int × Unit × (List TVal))) : Con := ⟨f141i5in, f141i5out, 5, 1, fun x => F x.1.2.1 x.1.2.2.1 x.1.2.2.2.1 x.1.2.2.2.2 x.2.1 x.2.2.1 x.2.2.2.1 x.2.2.2.2.1 x.2.2.2.2.2.1 x.2.2.2.2.2.2⟩
def f197i10in : SS := ⟨[(0, (.p 0)), (1, (.ro (.int .i64))), (2, (.ro (.int .i64))), (3, (.ro (.int .i64))), (4, (.ro (.int .i64)))], [(0, (.box (.st (.cons (.list 126 (.st (.cons .str (.cons (.int .i64) (.cons (.int .i64) (.cons (.int .i64) .nil)))))) (.cons (.list 52 (.st (.cons (.int .i64) (.cons .str .nil)))) (.cons .bool (.cons .ptr (.cons .ptr .nil)))))) (.agg (.cons (.ro (.list 126 (.st (.cons .str (.cons (.int .i64) (.cons (.int .i64) (.cons (.int .i64) .nil))))))) (.cons (.ro (.list 52 (.st (.cons (.int .i64) (.cons .str .nil))))) (.cons (.ro .bool) (.cons (.fn 78 (.cons (.p 10) (.cons (.p 12) (.cons (.p 13) .nil)))) (.cons (.fn 79 .nil) .nil)))))))), (10, (.box (.list 3 (.int .i64)) (.h 11))), (11, (.sl 3 (.int .i64))), (12, (.box (.int .i64) (.ro (.int .i64)))), (13, (.box (.list 52 (.st (.cons (.int .i64) (.cons .str .nil)))) (.h 14))), (14, (.sl 52 (.st (.cons (.int .i64) (.cons .str .nil)))))]⟩
def f197i10out : SS := ⟨[(0, (.ro (.int .i64)))], [(0, (.box (.st (.cons (.list 126 (.st (.cons .str (.cons (.int .i64) (.cons (.int .i64) (.cons (.int .i64) .nil)))))) (.cons (.list 52 (.st (.cons (.int .i64) (.cons .str .nil)))) (.cons .bool (.cons .ptr (.cons .ptr .nil)))))) (.agg (.cons (.ro (.list 126 (.st (.cons .str (.cons (.int .i64) (.cons (.int .i64) (.cons (.int .i64) .nil))))))) (.cons (.ro (.list 52 (.st (.cons (.int .i64) (.cons .str .nil))))) (.cons (.ro .bool) (.cons (.fn 78 (.cons (.p 10) (.cons (.p 12) (.cons (.p 13) .nil)))) (.cons (.fn 79 .nil) .nil)))))))), (10, (.box (.list 3 (.int .i64)) (.h 11))), (11, (.sl 3 (.int .i64))), (12, (.box (.int .i64) (.ro (.int .i64)))), (13, (.box (.list 52 (.st (.cons (.int .i64) (.cons .str .nil)))) (.h 100))), (100, (.sl 52 (.st (.cons (.int .i64) (.cons .str .nil)))))]⟩
def f197i10s18 : SS := ⟨[(0, (.p 0)), (1, (.ro (.int .i64))), (2, (.ro (.int .i64))), (3, (.ro (.int .i64))), (4, (.ro (.int .i64)))], [(0, (.box (.st (.cons (.list 126 (.st (.cons .str (.cons (.int .i64) (.cons (.int .i64) (.cons (.int .i64) .nil)))))) (.cons (.list 52 (.st (.cons (.int .i64) (.cons .str .nil)))) (.cons .bool (.cons .ptr (.cons .ptr .nil)))))) (.agg (.cons (.ro (.list 126 (.st (.cons .str (.cons (.int .i64) (.cons (.int .i64) (.cons (.int .i64) .nil))))))) (.cons (.ro (.list 52 (.st (.cons (.int .i64) (.cons .str .nil))))) (.cons (.ro .bool) (.cons (.fn 78 (.cons (.p 10) (.cons (.p 12) (.cons (.p 13) .nil)))) (.cons (.fn 79 .nil) .nil)))))))), (10, (.box (.list 3 (.int .i64)) (.h 11))), (11, (.sl 3 (.int .i64))), (12, (.box (.int .i64) (.ro (.int .i64)))), (13, (.box (.list 52 (.st (.cons (.int .i64) (.cons .str .nil)))) (.h 14))), (14, (.sl 52 (.st (.cons (.int .i64) (.cons .str .nil)))))]⟩
def f197i10s14 : SS := ⟨[(0, (.p 0)), (1, (.ro (.int .i64))), (3, (.ro (.int .i64))), (4, (.ro (.int .i64))), (12, (.ro (.int .i64))), (13, (.ro (.int .i64)))], [(0, (.box (.st (.cons (.list 126 (.st (.cons .str (.cons (.int .i64) (.cons (.int .i64) (.cons (.int .i64) .nil)))))) (.cons (.list 52 (.st (.cons (.int .i64) (.cons .str .nil)))) (.cons .bool (.cons .ptr (.cons .ptr .nil)))))) (.agg (.cons (.ro (.list 126 (.st (.cons .str (.cons (.int .i64) (.cons (.int .i64) (.cons (.int .i64) .nil))))))) (.cons (.ro (.list 52 (.st (.cons (.int .i64) (.cons .str .nil))))) (.cons (.ro .bool) (.cons (.fn 78 (.cons (.p 10) (.cons (.p 12) (.cons (.p 13) .nil)))) (.cons (.fn 79 .nil) .nil)))))))), (10, (.box (.list 3 (.int .i64)) (.h 11))), (11, (.sl 3 (.int .i64))), (12, (.box (.int .i64) (.ro (.int .i64)))), (13, (.box (.list 52 (.st (.cons (.int .i64) (.cons .str .nil)))) (.h 100))), (100, (.sl 52 (.st (.cons (.int .i64) (.cons .str .nil)))))]⟩
def f197i10con (F : Int → Int → Int → Int → TWalkerB → Unit → (List Int) → Int → Unit → (List TVal) → Option (Int × TWalkerB × Unit × (List Int) × Int × Unit × (List TVal))) : Con := ⟨f197i10in, f197i10out, 5, 1, fun x => F x.1.2.1 x.1.2.2.1 x.1.2.2.2.1 x.1.2.2.2.2 x.2.1 x.2.2.1 x.2.2.2.1 x.2.2.2.2.1 x.2.2.2.2.2.1 x.2.2.2.2.2.2⟩
def f141i5ctx (k : Nat) (S141i5 : Int → Int → Int → Int → TWalkerB → Unit → (List Int) → Int → Unit → (List TVal) → Option (Int × TWalkerB × Unit × (List Int) × Int × Unit × (List TVal))) (S197i10 : Int → Int → Int → Int → TWalkerB → Unit → (List Int) → Int → Unit → (List TVal) → Option (Int × TWalkerB × Unit × (List Int) × Int × Unit × (List TVal))) : Ctx := ⟨tyAt tys, conAt [(78, [f78i16con (impl_RecValues_1 k)]), (187, [f187con (impl_ValOk k)]), (196, [f196i9con (impl_walker_next_of_RecValues_1_RecValues_2 k)]), (197, [f197i10con S197i10])], 85, fun _ => false⟩
theorem f141i5hc (k : Nat) (S141i5 : Int → Int → Int → Int → TWalkerB → Unit → (List Int) → Int → Unit → (List TVal) → Option (Int × TWalkerB × Unit × (List Int) × Int × Unit × (List TVal))) (S197i10 : Int → Int → Int → Int → TWalkerB → Unit → (List Int) → Int → Unit → (List TVal) → Option (Int × TWalkerB × Unit × (List Int) × Int × Unit × (List TVal))) (h141i5 : FnOk Try.prog 141 (f141i5con S141i5)) (h197i10 : FnOk Try.prog 197 (f197i10con S197i10)) : CtxOk Try.prog (f141i5ctx k S141i5 S197i10) := ctxOk tys_ok mixed_ok (consOk_cons (f78i16ok k) (consOk_cons (f187ok k) (consOk_cons (f196i9ok k) (consOk_cons (h197i10) (consOk_nil)))))
theorem f141i5okb (k : Nat) (S141i5 : Int → Int → Int → Int → TWalkerB → Unit → (List Int) → Int → Unit → (List TVal) → Option (Int × TWalkerB × Unit × (List Int) × Int × Unit × (List TVal))) (S197i10 : Int → Int → Int → Int → TWalkerB → Unit → (List Int) → Int → Unit → (List TVal) → Option (Int × TWalkerB × Unit × (List Int) × Int × Unit × (List TVal))) (h141i5 : FnOk Try.prog 141 (f141i5con S141i5)) (h197i10 : FnOk Try.prog 197 (f197i10con S197i10)) : FnOk Try.prog 141 (f141i5con (impl_walker_body_of_RecValues_1_RecValues_2.b k S141i5 S197i10)) :=
  let hc := f141i5hc k S141i5 S197i10 h141i5 h197i10
  fnOk (fn := Try.f141) (code := bodyOf Try.f141) (res := [.tmp 10]) hc (by kernel_rfl) (by kernel_rfl) (by decide) (by kernel_rfl) (by kernel_rfl) (by kernel_rfl) (Nat.le_of_ble_eq_true (by kernel_rfl)) _
    (fun x => Snd.seq (by kernel_rfl) (Snd.seq (by kernel_rfl) (Snd.seq (by kernel_rfl) (Snd.seq (by kernel_rfl) (Snd.cut (Snd.exec hc _ _ _ _) ⟨f141i5s14, fun x => impl_walker_body_of_RecValues_1_RecValues_2.c14 k x.1 x.2.1 x.2.2.1 x.2.2.2.1 x.2.2.2.2.1 x.2.2.2.2.2.1 x.2.2.2.2.2.2⟩ (fun x => by kernel_rfl)) (Snd.seq (by kernel_rfl) (Snd.block (id := 0) (by kernel_rfl) (Snd.loop' (by kernel_rfl) f141i5s10 (fun n x => impl_walker_body_of_RecValues_1_RecValues_2.l10 k S197i10 n x.1.2.1 x.1.2.2.1 x.1.2.2.2.1 x.1.2.2.2.2.1 x.1.2.2.2.2.2.1 x.1.2.2.2.2.2.2 x.2.1 x.2.2.1 x.2.2.2.1 x.2.2.2.2.1 x.2.2.2.2.2.1 x.2.2.2.2.2.2) _ (fun _ => rfl) (fun n10 => Snd.exec hc _ _ _ _) (fun n x => by kernel_rfl) k)) (Snd.exec hc _ _ _ _))) (Snd.exec hc _ _ _ _)) (Snd.seq (by kernel_rfl) (Snd.cond (x := .tmp 21) (by kernel_rfl) (Snd.seq (by kernel_rfl) (Snd.seq (by kernel_rfl) (Snd.cut (Snd.seq (by kernel_rfl) (Snd.cut (Snd.exec hc _ _ _ _) ⟨f141i5s7, fun x => impl_walker_body_of_RecValues_1_RecValues_2.c7 k x.1 x.2.1 x.2.2.1 x.2.2.2.1 x.2.2.2.2.1 x.2.2.2.2.2.1 x.2.2.2.2.2.2⟩ (fun x => by kernel_rfl)) (Snd.exec hc _ _ _ _)) ⟨f141i5s5, fun x => impl_walker_body_of_RecValues_1_RecValues_2.c5 k x.1.2.1 x.1.2.2.1 x.1.2.2.2.1 x.2.1 x.2.2.1 x.2.2.2.1 x.2.2.2.2.1 x.2.2.2.2.2.1 x.2.2.2.2.2.2.1 x.2.2.2.2.2.2.2⟩ (fun x => by kernel_rfl)) (Snd.seq (by kernel_rfl) (Snd.exec hc _ _ _ _) (Snd.fork hc (id := 3) (by kernel_rfl) ⟨f141i5d3, fun x => impl_walker_body_of_RecValues_1_RecValues_2.d3 k x.1.2.1 x.1.2.2.1 x.1.2.2.2.1 x.2.1 x.2.2.1 x.2.2.2.1 x.2.2.2.2.1 x.2.2.2.2.2.1 x.2.2.2.2.2.2.1 x.2.2.2.2.2.2.2⟩ [[0, 1, 2, 3, 4, 5, 6, 7, 8, 10, 14, 9, 11, 12, 13, 15, 16, 17]] (by kernel_rfl) (ords_cons (fun x => by kernel_rfl) (ords_nil))))) (Snd.exec hc _ _ _ _)) (Snd.exec hc _ _ _ _)) (Snd.exec hc _ _ _ _))) (Snd.exec hc _ _ _ _))
    (fun x => by kernel_rfl)
def f197i10ctx (k : Nat) (S141i5 : Int → Int → Int → Int → TWalkerB → Unit → (List Int) → Int → Unit → (List TVal) → Option (Int × TWalkerB × Unit × (List Int) × Int × Unit × (List TVal))) (S197i10 : Int → Int → Int → Int → TWalkerB → Unit → (List Int) → Int → Unit → (List TVal) → Option (Int × TWalkerB × Unit × (List Int) × Int × Unit × (List TVal))) : Ctx := ⟨tyAt tys, conAt [(140, [f140con (impl_colAfter k)]), (141, [f141i5con S141i5]), (225, [f225i14con (impl_walker_count_of_RecValues_1_RecValues_2 k)]), (226, [f226i19con (impl_walker_missing_of_RecValues_1_RecValues_2 k)])], 86, fun _ => false⟩
theorem f197i10hc (k : Nat) (S141i5 : Int → Int → Int → Int → TWalkerB → Unit → (List Int) → Int → Unit → (List TVal) → Option (Int × TWalkerB × Unit × (List Int) × Int × Unit × (List TVal))) (S197i10 : Int → Int → Int → Int → TWalkerB → Unit → (List Int) → Int → Unit → (List TVal) → Option (Int × TWalkerB × Unit × (List Int) × Int × Unit × (List TVal))) (h141i5 : FnOk Try.prog 141 (f141i5con S141i5)) (h197i10 : FnOk Try.prog 197 (f197i10con S197i10)) : CtxOk Try.prog (f197i10ctx k S141i5 S197i10) := ctxOk tys_ok mixed_ok (consOk_cons (f140ok k) (consOk_cons (h141i5) (consOk_cons (f225i14ok k) (consOk_cons (f226i19ok k) (consOk_nil)))))
theorem f197i10okb (k : Nat) (S141i5 : Int → Int → Int → Int → TWalkerB → Unit → (List Int) → Int → Unit → (List TVal) → Option (Int × TWalkerB × Unit × (List Int) × Int × Unit × (List TVal))) (S197i10 : Int → Int → Int → Int → TWalkerB → Unit → (List Int) → Int → Unit → (List TVal) → Option (Int × TWalkerB × Unit × (List Int) × Int × Unit × (List TVal))) (h141i5 : FnOk Try.prog 141 (f141i5con S141i5)) (h197i10 : FnOk Try.prog 197 (f197i10con S197i10)) : FnOk Try.prog 197 (f197i10con (impl_walker_col_of_RecValues_1_RecValues_2.b k S141i5 S197i10)) :=
  let hc := f197i10hc k S141i5 S197i10 h141i5 h197i10
  fnOk (fn := Try.f197) (code := bodyOf Try.f197) (res := [.tmp 10]) hc (by kernel_rfl) (by kernel_rfl) (by decide) (by kernel_rfl) (by kernel_rfl) (by kernel_rfl) (Nat.le_of_ble_eq_true (by kernel_rfl)) _
    (fun x => Snd.seq (by kernel_rfl) (Snd.seq (by kernel_rfl) (Snd.cut (Snd.exec hc _ _ _ _) ⟨f197i10s18, fun x => impl_walker_col_of_RecValues_1_RecValues_2.c18 k S141i5 x.1.2.1 x.1.2.2.1 x.1.2.2.2.1 x.1.2.2.2.2 x.2.1 x.2.2.1 x.2.2.2.1 x.2.2.2.2.1 x.2.2.2.2.2.1 x.2.2.2.2.2.2⟩ (fun x => by kernel_rfl)) (Snd.seq (by kernel_rfl) (Snd.block (id := 0) (by kernel_rfl) (Snd.seq (by kernel_rfl) (Snd.cond (x := .tmp 22) (by kernel_rfl) (Snd.exec hc _ _ _ _) (Snd.seq (by kernel_rfl) (Snd.cond (x := .tmp 35) (by kernel_rfl) (Snd.seq (by kernel_rfl) (Snd.seq (by kernel_rfl) (Snd.seq (by kernel_rfl) (Snd.seq (by kernel_rfl) (Snd.seq (by kernel_rfl) (Snd.exec hc _ _ _ _) (Snd.seq (by kernel_rfl) (Snd.block (id := 1) (by kernel_rfl) (Snd.loop' (by kernel_rfl) f197i10s14 (fun n x => impl_walker_col_of_RecValues_1_RecValues_2.l14 k S141i5 n x.1.2.1 x.1.2.2.1 x.1.2.2.2.1 x.1.2.2.2.2.1 x.1.2.2.2.2.2 x.2.1 x.2.2.1 x.2.2.2.1 x.2.2.2.2.1 x.2.2.2.2.2.1 x.2.2.2.2.2.2) _ (fun _ => rfl) (fun n14 => Snd.exec hc _ _ _ _) (fun n x => by kernel_rfl) k)) (Snd.exec hc _ _ _ _))) (Snd.exec hc _ _ _ _)) (Snd.exec hc _ _ _ _)) (Snd.exec hc _ _ _ _)) (Snd.exec hc _ _ _ _)) (Snd.exec hc _ _ _ _)) (Snd.exec hc _ _ _ _))) (Snd.exec hc _ _ _ _))) (Snd.exec hc _ _ _ _))) (Snd.exec hc _ _ _ _))
    (fun x => by kernel_rfl)
theorem f141i5rec (k : Nat) : ∀ d, FnOk Try.prog 141 (f141i5con (impl_walker_body_of_RecValues_1_RecValues_2.d k d)) ∧ FnOk Try.prog 197 (f197i10con (impl_walker_col_of_RecValues_1_RecValues_2.d k d))
  | 0 => ⟨FnOk_none (fun _ => rfl), FnOk_none (fun _ => rfl)⟩
  | d + 1 => let ih := f141i5rec k d
    ⟨f141i5okb k (impl_walker_body_of_RecValues_1_RecValues_2.d k d) (impl_walker_col_of_RecValues_1_RecValues_2.d k d) ih.1 ih.2, f197i10okb k (impl_walker_body_of_RecValues_1_RecValues_2.d k d) (impl_walker_col_of_RecValues_1_RecValues_2.d k d) ih.1 ih.2⟩
theorem f141i5ok (k : Nat) : FnOk Try.prog 141 (f141i5con (impl_walker_body_of_RecValues_1_RecValues_2 k)) := (f141i5rec k k).1
theorem f197i10ok (k : Nat) : FnOk Try.prog 197 (f197i10con (impl_walker_col_of_RecValues_1_RecValues_2 k)) := (f141i5rec k k).2

def f69i2in : SS := ⟨[(0, (.ro (.list 126 (.st (.cons .str (.cons (.int .i64) (.cons (.int .i64) (.cons (.int .i64) .nil)))))))), (1, (.ro (.st (.cons (.list 52 (.st (.cons (.int .i64) (.cons .str .nil)))) .nil)))), (2, (.fn 78 (.cons (.p 10) (.cons (.p 12) (.cons (.p 13) .nil))))), (3, (.fn 79 .nil))], [(10, (.box (.list 3 (.int .i64)) (.h 11))), (11, (.sl 3 (.int .i64))), (12, (.box (.int .i64) (.ro (.int .i64)))), (13, (.box (.list 52 (.st (.cons (.int .i64) (.cons .str .nil)))) (.h 14))), (14, (.sl 52 (.st (.cons (.int .i64) (.cons .str .nil)))))]⟩
def f69i2out : SS := ⟨[(0, (.ro .bool))], [(10, (.box (.list 3 (.int .i64)) (.h 11))), (11, (.sl 3 (.int .i64))), (12, (.box (.int .i64) (.ro (.int .i64)))), (13, (.box (.list 52 (.st (.cons (.int .i64) (.cons .str .nil)))) (.h 100))), (100, (.sl 52 (.st (.cons (.int .i64) (.cons .str .nil)))))]⟩
def f69i2con (F : (List TCol) → TRec → (Unit × Unit × Unit × Unit) → Unit → Unit → (List Int) → Int → Unit → (List TVal) → Option (Bool × Unit × (List Int) × Int × Unit × (List TVal))) : Con := ⟨f69i2in, f69i2out, 4, 1, fun x => F x.1.1 x.1.2.1 x.1.2.2.1 x.1.2.2.2 x.2.1 x.2.2.1 x.2.2.2.1 x.2.2.2.2.1 x.2.2.2.2.2⟩
def f69i2ctx (k : Nat) : Ctx := ⟨tyAt tys, conAt [(141, [f141i5con (impl_walker_body_of_RecValues_1_RecValues_2 k)])], 36, fun _ => false⟩
theorem f69i2hc (k : Nat) : CtxOk Try.prog (f69i2ctx k) := ctxOk tys_ok mixed_ok (consOk_cons (f141i5ok k) (consOk_nil))
theorem f69i2ok (k : Nat) : FnOk Try.prog 69 (f69i2con (impl_walk_of_RecValues_1_RecValues_2 k)) :=
  let hc := f69i2hc k
  fnOk (fn := Try.f69) (code := bodyOf Try.f69) (res := [.tmp 8]) hc (by kernel_rfl) (by kernel_rfl) (by decide) (by kernel_rfl) (by kernel_rfl) (by kernel_rfl) (Nat.le_of_ble_eq_true (by kernel_rfl)) _
    (fun x => Snd.exec hc _ _ _ _)
    (fun x => by kernel_rfl)

def f18in : SS := ⟨[(0, (.ro (.list 126 (.st (.cons .str (.cons (.int .i64) (.cons (.int .i64) (.cons (.int .i64) .nil)))))))), (1, (.ro (.st (.cons (.list 52 (.st (.cons (.int .i64) (.cons .str .nil)))) .nil)))), (2, (.ro (.int .i64)))], []⟩
def f18out : SS := ⟨[(0, (.h 100)), (1, (.ro .bool))], [(100, (.sl 52 (.st (.cons (.int .i64) (.cons .str .nil)))))]⟩
def f18con (F : (List TCol) → TRec → Int → Option ((Unit × Bool) × (List TVal))) : Con := ⟨f18in, f18out, 3, 2, fun x => F x.1 x.2.1 x.2.2⟩
def f18ctx (k : Nat) : Ctx := ⟨tyAt tys, conAt [(69, [f69i2con (impl_walk_of_RecValues_1_RecValues_2 k)]), (76, [f76con (impl_SchemaLeaves k)]), (77, [f77con (impl_within k)])], 27, fun _ => false⟩
theorem f18hc (k : Nat) : CtxOk Try.prog (f18ctx k) := ctxOk tys_ok mixed_ok (consOk_cons (f69i2ok k) (consOk_cons (f76ok k) (consOk_cons (f77ok k) (consOk_nil))))
theorem f18ok (k : Nat) : FnOk Try.prog 18 (f18con (impl_RecValues k)) :=
  let hc := f18hc k
  fnOk (fn := Try.f18) (code := bodyOf Try.f18) (res := [.tmp 6, .tmp 7]) hc (by kernel_rfl) (by kernel_rfl) (by decide) (by kernel_rfl) (by kernel_rfl) (by kernel_rfl) (Nat.le_of_ble_eq_true (by kernel_rfl)) _
    (fun x => Snd.exec hc _ _ _ _)
    (fun x => by kernel_rfl)

def f80in : SS := ⟨[(0, (.ro (.list 126 (.st (.cons .str (.cons (.int .i64) (.cons (.int .i64) (.cons (.int .i64) .nil))))))))], []⟩
def f80out : SS := ⟨[(0, (.h 100))], [(100, (.sl 3 (.int .i64)))]⟩
def f80s4 : SS := ⟨[(0, (.ro (.list 126 (.st (.cons .str (.cons (.int .i64) (.cons (.int .i64) (.cons (.int .i64) .nil)))))))), (3, (.h 100)), (4, (.ro (.int .i64)))], [(100, (.sl 3 (.int .i64)))]⟩
def f80s3 : SS := ⟨[(0, (.ro (.list 126 (.st (.cons .str (.cons (.int .i64) (.cons (.int .i64) (.cons (.int .i64) .nil)))))))), (3, (.h 100)), (4, (.ro (.int .i64)))], [(100, (.sl 3 (.int .i64)))]⟩
def f80con (F : (List TCol) → Option (Unit × (List Int))) : Con := ⟨f80in, f80out, 1, 1, fun x => F x⟩
def f80ctx (k : Nat) : Ctx := ⟨tyAt tys, conAt [], 23, fun _ => false⟩
theorem f80hc (k : Nat) : CtxOk Try.prog (f80ctx k) := ctxOk tys_ok mixed_ok (consOk_nil)
theorem f80ok (k : Nat) : FnOk Try.prog 80 (f80con (spec_l5Leaves k)) :=
  let hc := f80hc k
  fnOk (fn := Try.f80) (code := bodyOf Try.f80) (res := [.tmp 2]) hc (by kernel_rfl) (by kernel_rfl) (by decide) (by kernel_rfl) (by kernel_rfl) (by kernel_rfl) (Nat.le_of_ble_eq_true (by kernel_rfl)) _
    (fun x => Snd.seq (by kernel_rfl) (Snd.seq (by kernel_rfl) (Snd.seq (by kernel_rfl) (Snd.exec hc _ _ _ _) (Snd.seq (by kernel_rfl) (Snd.block (id := 0) (by kernel_rfl) (Snd.loop' (by kernel_rfl) f80s3 (fun n x => spec_l5Leaves.l3 k n x.1.1 x.1.2.2 x.2) _ (fun _ => rfl) (fun n3 => Snd.seq (by kernel_rfl) (Snd.seq (by kernel_rfl) (Snd.cut (Snd.exec hc _ _ _ _) ⟨f80s4, fun x => spec_l5Leaves.c4 k (spec_l5Leaves.l3 k n3) x.1.1 x.1.2.2 x.2⟩ (fun x => by kernel_rfl)) (Snd.exec hc _ _ _ _)) (Snd.exec hc _ _ _ _)) (fun n x => by kernel_rfl) k)) (Snd.exec hc _ _ _ _))) (Snd.exec hc _ _ _ _)) (Snd.exec hc _ _ _ _))
    (fun x => by kernel_rfl)

def f19in : SS := ⟨[(0, (.ro (.list 126 (.st (.cons .str (.cons (.int .i64) (.cons (.int .i64) (.cons (.int .i64) .nil))))))))], []⟩
def f19out : SS := ⟨[(0, (.h 100))], [(100, (.sl 3 (.int .i64)))]⟩
def f19con (F : (List TCol) → Option (Unit × (List Int))) : Con := ⟨f19in, f19out, 1, 1, fun x => F x⟩
def f19ctx (k : Nat) : Ctx := ⟨tyAt tys, conAt [(17, [f17con (spec_SchemaOk k)]), (80, [f80con (spec_l5Leaves k)])], 9, fun _ => false⟩
theorem f19hc (k : Nat) : CtxOk Try.prog (f19ctx k) := ctxOk tys_ok mixed_ok (consOk_cons (f17ok k) (consOk_cons (f80ok k) (consOk_nil)))
theorem f19ok (k : Nat) : FnOk Try.prog 19 (f19con (spec_SchemaLeaves k)) :=
  let hc := f19hc k
  fnOk (fn := Try.f19) (code := bodyOf Try.f19) (res := [.tmp 2]) hc (by kernel_rfl) (by kernel_rfl) (by decide) (by kernel_rfl) (by kernel_rfl) (by kernel_rfl) (Nat.le_of_ble_eq_true (by kernel_rfl)) _
    (fun x => Snd.exec hc _ _ _ _)
    (fun x => by kernel_rfl)

def f81in : SS := ⟨[(0, (.ro (.list 126 (.st (.cons .str (.cons (.int .i64) (.cons (.int .i64) (.cons (.int .i64) .nil)))))))), (1, (.ro (.int .i64))), (2, (.ro .bool)), (3, (.ro (.list 52 (.st (.cons (.int .i64) (.cons .str .nil)))))), (4, (.ro (.int .i64))), (5, (.ro (.int .i64))), (6, (.h 10))], [(10, (.sl 52 (.st (.cons (.int .i64) (.cons .str .nil)))))]⟩
def f81out : SS := ⟨[(0, (.h 100)), (1, (.ro (.int .i64)))], [(100, (.sl 52 (.st (.cons (.int .i64) (.cons .str .nil)))))]⟩
def f81s7 : SS := ⟨[(0, (.ro (.list 126 (.st (.cons .str (.cons (.int .i64) (.cons (.int .i64) (.cons (.int .i64) .nil)))))))), (1, (.ro (.int .i64))), (3, (.ro (.list 52 (.st (.cons (.int .i64) (.cons .str .nil)))))), (4, (.ro (.int .i64))), (5, (.ro (.int .i64))), (6, (.h 100)), (16, (.ro (.int .i64))), (17, (.ro (.int .i64)))], [(100, (.sl 52 (.st (.cons (.int .i64) (.cons .str .nil)))))]⟩
def f81s14 : SS := ⟨[(0, (.ro (.list 126 (.st (.cons .str (.cons (.int .i64) (.cons (.int .i64) (.cons (.int .i64) .nil)))))))), (1, (.ro (.int .i64))), (3, (.ro (.list 52 (.st (.cons (.int .i64) (.cons .str .nil)))))), (4, (.ro (.int .i64))), (5, (.ro (.int .i64))), (6, (.h 100)), (16, (.ro (.int .i64))), (17, (.ro (.int .i64))), (18, (.ro (.int .i64))), (19, (.ro (.int .i64)))], [(100, (.sl 52 (.st (.cons (.int .i64) (.cons .str .nil)))))]⟩
def f81s11 : SS := ⟨[(0, (.ro (.list 126 (.st (.cons .str (.cons (.int .i64) (.cons (.int .i64) (.cons (.int .i64) .nil)))))))), (1, (.ro (.int .i64))), (3, (.ro (.list 52 (.st (.cons (.int .i64) (.cons .str .nil)))))), (4, (.ro (.int .i64))), (5, (.ro (.int .i64))), (6, (.h 100)), (16, (.ro (.int .i64))), (17, (.ro (.int .i64)))], [(100, (.sl 52 (.st (.cons (.int .i64) (.cons .str .nil)))))]⟩
def f81s6 : SS := ⟨[(0, (.ro (.list 126 (.st (.cons .str (.cons (.int .i64) (.cons (.int .i64) (.cons (.int .i64) .nil)))))))), (1, (.ro (.int .i64))), (3, (.ro (.list 52 (.st (.cons (.int .i64) (.cons .str .nil)))))), (4, (.ro (.int .i64))), (5, (.ro (.int .i64))), (6, (.h 100)), (16, (.ro (.int .i64))), (17, (.ro (.int .i64)))], [(100, (.sl 52 (.st (.cons (.int .i64) (.cons .str .nil)))))]⟩
def f81s5 : SS := ⟨[(0, (.ro (.list 126 (.st (.cons .str (.cons (.int .i64) (.cons (.int .i64) (.cons (.int .i64) .nil)))))))), (1, (.ro (.int .i64))), (3, (.ro (.list 52 (.st (.cons (.int .i64) (.cons .str .nil)))))), (4, (.ro (.int .i64))), (5, (.ro (.int .i64))), (6, (.h 10)), (16, (.ro (.int .i64)))], [(10, (.sl 52 (.st (.cons (.int .i64) (.cons .str .nil)))))]⟩
def f81con (F : (List TCol) → Int → Bool → (List TVal) → Int → Int → (List TVal) → Option ((Unit × Int) × (List TVal))) : Con := ⟨f81in, f81out, 7, 2, fun x => F x.1.1 x.1.2.1 x.1.2.2.1 x.1.2.2.2.1 x.1.2.2.2.2.1 x.1.2.2.2.2.2.1 x.2⟩
def f81ctx (k : Nat) (S81 : (List TCol) → Int → Bool → (List TVal) → Int → Int → (List TVal) → Option ((Unit × Int) × (List TVal))) : Ctx := ⟨tyAt tys, conAt [(81, [f81con S81]), (144, [f144con (spec_l5After k)])], 86, fun _ => false⟩
theorem f81hc (k : Nat) (S81 : (List TCol) → Int → Bool → (List TVal) → Int → Int → (List TVal) → Option ((Unit × Int) × (List TVal))) (h81 : FnOk Try.prog 81 (f81con S81)) : CtxOk Try.prog (f81ctx k S81) := ctxOk tys_ok mixed_ok (consOk_cons (h81) (consOk_cons (f144ok k) (consOk_nil)))
theorem f81okb (k : Nat) (S81 : (List TCol) → Int → Bool → (List TVal) → Int → Int → (List TVal) → Option ((Unit × Int) × (List TVal))) (h81 : FnOk Try.prog 81 (f81con S81)) : FnOk Try.prog 81 (f81con (spec_l13Values.b k S81)) :=
  let hc := f81hc k S81 h81
  fnOk (fn := Try.f81) (code := bodyOf Try.f81) (res := [.tmp 14, .tmp 15]) hc (by kernel_rfl) (by kernel_rfl) (by decide) (by kernel_rfl) (by kernel_rfl) (by kernel_rfl) (Nat.le_of_ble_eq_true (by kernel_rfl)) _
    (fun x => Snd.seq (by kernel_rfl) (Snd.seq (by kernel_rfl) (Snd.seq (by kernel_rfl) (Snd.cut (Snd.seq (by kernel_rfl) (Snd.exec hc _ _ _ _) (Snd.seq (by kernel_rfl) (Snd.block (id := 0) (by kernel_rfl) (Snd.loop' (by kernel_rfl) f81s6 (fun n x => spec_l13Values.l6 k S81 n x.1.1 x.1.2.1 x.1.2.2.1 x.1.2.2.2.1 x.1.2.2.2.2.1 x.1.2.2.2.2.2.2.1 x.1.2.2.2.2.2.2.2 x.2) _ (fun _ => rfl) (fun n6 => Snd.seq (by kernel_rfl) (Snd.seq (by kernel_rfl) (Snd.cut (Snd.exec hc _ _ _ _) ⟨f81s7, fun x => spec_l13Values.c7 k (spec_l13Values.l6 k S81 n6) x.1.1 x.1.2.1 x.1.2.2.1 x.1.2.2.2.1 x.1.2.2.2.2.1 x.1.2.2.2.2.2.2.1 x.1.2.2.2.2.2.2.2 x.2⟩ (fun x => by kernel_rfl)) (Snd.block (id := 1) (by kernel_rfl) (Snd.seq (by kernel_rfl) (Snd.seq (by kernel_rfl) (Snd.seq (by kernel_rfl) (Snd.block (id := 2) (by kernel_rfl) (Snd.loop' (by kernel_rfl) f81s14 (fun n x => spec_l13Values.l14 k S81 (spec_l13Values.l6 k S81 n6) n x.1.1 x.1.2.1 x.1.2.2.1 x.1.2.2.2.1 x.1.2.2.2.2.1 x.1.2.2.2.2.2.2.1 x.1.2.2.2.2.2.2.2.1 x.1.2.2.2.2.2.2.2.2.1 x.1.2.2.2.2.2.2.2.2.2 x.2) _ (fun _ => rfl) (fun n14 => Snd.exec hc _ _ _ _) (fun n x => by kernel_rfl) k)) (Snd.exec hc _ _ _ _)) (Snd.exec hc _ _ _ _)) (Snd.seq (by kernel_rfl) (Snd.cond (x := .tmp 47) (by kernel_rfl) (Snd.seq (by kernel_rfl) (Snd.cut (Snd.exec hc _ _ _ _) ⟨f81s11, fun x => spec_l13Values.c11 k (spec_l13Values.l6 k S81 n6) x.1.1 x.1.2.1 x.1.2.2.1 x.1.2.2.2.1 x.1.2.2.2.2.1 x.1.2.2.2.2.2.2.1 x.1.2.2.2.2.2.2.2 x.2⟩ (fun x => by kernel_rfl)) (Snd.exec hc _ _ _ _)) (Snd.exec hc _ _ _ _)) (Snd.exec hc _ _ _ _))))) (Snd.exec hc _ _ _ _)) (fun n x => by kernel_rfl) k)) (Snd.exec hc _ _ _ _))) ⟨f81s5, fun x => spec_l13Values.c5 k S81 x.1.1 x.1.2.1 x.1.2.2.1 x.1.2.2.2.1 x.1.2.2.2.2.1 x.1.2.2.2.2.2.2 x.2⟩ (fun x => by kernel_rfl)) (Snd.exec hc _ _ _ _)) (Snd.exec hc _ _ _ _)) (Snd.exec hc _ _ _ _))
    (fun x => by kernel_rfl)
theorem f81rec (k : Nat) : ∀ d, FnOk Try.prog 81 (f81con (spec_l13Values.d k d))
  | 0 => FnOk_none (fun _ => rfl)
  | d + 1 => let ih := f81rec k d
    f81okb k (spec_l13Values.d k d) ih
theorem f81ok (k : Nat) : FnOk Try.prog 81 (f81con (spec_l13Values k)) := (f81rec k k)

def f20in : SS := ⟨[(0, (.ro (.list 126 (.st (.cons .str (.cons (.int .i64) (.cons (.int .i64) (.cons (.int .i64) .nil)))))))), (1, (.ro (.st (.cons (.list 52 (.st (.cons (.int .i64) (.cons .str .nil)))) .nil)))), (2, (.ro (.int .i64)))], []⟩
def f20out : SS := ⟨[(0, (.h 100)), (1, (.ro .bool))], [(100, (.sl 52 (.st (.cons (.int .i64) (.cons .str .nil)))))]⟩
def f20con (F : (List TCol) → TRec → Int → Option ((Unit × Bool) × (List TVal))) : Con := ⟨f20in, f20out, 3, 2, fun x => F x.1 x.2.1 x.2.2⟩
def f20ctx (k : Nat) : Ctx := ⟨tyAt tys, conAt [(15, [f15con (spec_RecOk k)]), (19, [f19con (spec_SchemaLeaves k)]), (74, [f74con (spec_l1In k)]), (81, [f81con (spec_l13Values k)])], 39, fun _ => false⟩
theorem f20hc (k : Nat) : CtxOk Try.prog (f20ctx k) := ctxOk tys_ok mixed_ok (consOk_cons (f15ok k) (consOk_cons (f19ok k) (consOk_cons (f74ok k) (consOk_cons (f81ok k) (consOk_nil)))))
theorem f20ok (k : Nat) : FnOk Try.prog 20 (f20con (spec_RecValues k)) :=
  let hc := f20hc k
  fnOk (fn := Try.f20) (code := bodyOf Try.f20) (res := [.tmp 6, .tmp 7]) hc (by kernel_rfl) (by kernel_rfl) (by decide) (by kernel_rfl) (by kernel_rfl) (by kernel_rfl) (Nat.le_of_ble_eq_true (by kernel_rfl)) _
    (fun x => Snd.exec hc _ _ _ _)
    (fun x => by kernel_rfl)

def f147in : SS := ⟨[(0, (.ro (.list 126 (.st (.cons .str (.cons (.int .i64) (.cons (.int .i64) (.cons (.int .i64) .nil)))))))), (1, (.ro (.int .i64)))], []⟩
def f147out : SS := ⟨[(0, (.h 100))], [(100, (.sl 3 (.int .i64)))]⟩
def f147s4 : SS := ⟨[(0, (.ro (.list 126 (.st (.cons .str (.cons (.int .i64) (.cons (.int .i64) (.cons (.int .i64) .nil)))))))), (1, (.ro (.int .i64))), (5, (.h 100)), (6, (.ro (.int .i64)))], [(100, (.sl 3 (.int .i64)))]⟩
def f147s3 : SS := ⟨[(0, (.ro (.list 126 (.st (.cons .str (.cons (.int .i64) (.cons (.int .i64) (.cons (.int .i64) .nil)))))))), (1, (.ro (.int .i64))), (5, (.h 100)), (6, (.ro (.int .i64)))], [(100, (.sl 3 (.int .i64)))]⟩
def f147con (F : (List TCol) → Int → Option (Unit × (List Int))) : Con := ⟨f147in, f147out, 2, 1, fun x => F x.1 x.2⟩
def f147ctx (k : Nat) : Ctx := ⟨tyAt tys, conAt [(144, [f144con (spec_l5After k)])], 23, fun _ => false⟩
theorem f147hc (k : Nat) : CtxOk Try.prog (f147ctx k) := ctxOk tys_ok mixed_ok (consOk_cons (f144ok k) (consOk_nil))
theorem f147ok (k : Nat) : FnOk Try.prog 147 (f147con (spec_l5Way k)) :=
  let hc := f147hc k
  fnOk (fn := Try.f147) (code := bodyOf Try.f147) (res := [.tmp 4]) hc (by kernel_rfl) (by kernel_rfl) (by decide) (by kernel_rfl) (by kernel_rfl) (by kernel_rfl) (Nat.le_of_ble_eq_true (by kernel_rfl)) _
    (fun x => Snd.seq (by kernel_rfl) (Snd.seq (by kernel_rfl) (Snd.seq (by kernel_rfl) (Snd.exec hc _ _ _ _) (Snd.seq (by kernel_rfl) (Snd.block (id := 0) (by kernel_rfl) (Snd.loop' (by kernel_rfl) f147s3 (fun n x => spec_l5Way.l3 k n x.1.1 x.1.2.1 x.1.2.2.2 x.2) _ (fun _ => rfl) (fun n3 => Snd.seq (by kernel_rfl) (Snd.seq (by kernel_rfl) (Snd.cut (Snd.exec hc _ _ _ _) ⟨f147s4, fun x => spec_l5Way.c4 k (spec_l5Way.l3 k n3) x.1.1 x.1.2.1 x.1.2.2.2 x.2⟩ (fun x => by kernel_rfl)) (Snd.exec hc _ _ _ _)) (Snd.exec hc _ _ _ _)) (fun n x => by kernel_rfl) k)) (Snd.exec hc _ _ _ _))) (Snd.exec hc _ _ _ _)) (Snd.exec hc _ _ _ _))
    (fun x => by kernel_rfl)

def f82in : SS := ⟨[(0, (.ro (.list 126 (.st (.cons .str (.cons (.int .i64) (.cons (.int .i64) (.cons (.int .i64) .nil)))))))), (1, (.ro (.int .i64)))], []⟩
def f82out : SS := ⟨[(0, (.ro (.int .i64))), (1, (.ro (.int .i64)))], []⟩
def f82s5 : SS := ⟨[(0, (.ro (.list 126 (.st (.cons .str (.cons (.int .i64) (.cons (.int .i64) (.cons (.int .i64) .nil)))))))), (6, (.ro (.int .i64))), (7, (.ro (.int .i64))), (8, (.h 100)), (9, (.ro (.int .i64)))], [(100, (.sl 3 (.int .i64)))]⟩
def f82s8 : SS := ⟨[(0, (.ro (.list 126 (.st (.cons .str (.cons (.int .i64) (.cons (.int .i64) (.cons (.int .i64) .nil)))))))), (6, (.ro (.int .i64))), (7, (.ro (.int .i64))), (8, (.h 100)), (9, (.ro (.int .i64)))], [(100, (.sl 3 (.int .i64)))]⟩
def f82s4 : SS := ⟨[(0, (.ro (.list 126 (.st (.cons .str (.cons (.int .i64) (.cons (.int .i64) (.cons (.int .i64) .nil)))))))), (6, (.ro (.int .i64))), (7, (.ro (.int .i64))), (8, (.h 100)), (9, (.ro (.int .i64)))], [(100, (.sl 3 (.int .i64)))]⟩
def f82con (F : (List TCol) → Int → Option (Int × Int)) : Con := ⟨f82in, f82out, 2, 2, fun x => F x.1 x.2⟩
def f82ctx (k : Nat) : Ctx := ⟨tyAt tys, conAt [(147, [f147con (spec_l5Way k)])], 43, fun _ => false⟩
theorem f82hc (k : Nat) : CtxOk Try.prog (f82ctx k) := ctxOk tys_ok mixed_ok (consOk_cons (f147ok k) (consOk_nil))
theorem f82ok (k : Nat) : FnOk Try.prog 82 (f82con (spec_l5Max k)) :=
  let hc := f82hc k
  fnOk (fn := Try.f82) (code := bodyOf Try.f82) (res := [.tmp 4, .tmp 5]) hc (by kernel_rfl) (by kernel_rfl) (by decide) (by kernel_rfl) (by kernel_rfl) (by kernel_rfl) (Nat.le_of_ble_eq_true (by kernel_rfl)) _
    (fun x => Snd.seq (by kernel_rfl) (Snd.seq (by kernel_rfl) (Snd.seq (by kernel_rfl) (Snd.seq (by kernel_rfl) (Snd.exec hc _ _ _ _) (Snd.seq (by kernel_rfl) (Snd.block (id := 0) (by kernel_rfl) (Snd.loop' (by kernel_rfl) f82s4 (fun n x => spec_l5Max.l4 k n x.1.1 x.1.2.1 x.1.2.2.1 x.1.2.2.2.2 x.2) _ (fun _ => rfl) (fun n4 => Snd.seq (by kernel_rfl) (Snd.seq (by kernel_rfl) (Snd.cut (Snd.exec hc _ _ _ _) ⟨f82s5, fun x => spec_l5Max.c5 k (spec_l5Max.l4 k n4) x.1.1 x.1.2.1 x.1.2.2.1 x.1.2.2.2.2 x.2⟩ (fun x => by kernel_rfl)) (Snd.block (id := 1) (by kernel_rfl) (Snd.seq (by kernel_rfl) (Snd.cut (Snd.exec hc _ _ _ _) ⟨f82s8, fun x => spec_l5Max.c8 k (spec_l5Max.l4 k n4) x.1.1 x.1.2.1 x.1.2.2.1 x.1.2.2.2.2 x.2⟩ (fun x => by kernel_rfl)) (Snd.exec hc _ _ _ _)))) (Snd.exec hc _ _ _ _)) (fun n x => by kernel_rfl) k)) (Snd.exec hc _ _ _ _))) (Snd.exec hc _ _ _ _)) (Snd.exec hc _ _ _ _)) (Snd.exec hc _ _ _ _))
    (fun x => by kernel_rfl)

def f21in : SS := ⟨[(0, (.ro (.list 126 (.st (.cons .str (.cons (.int .i64) (.cons (.int .i64) (.cons (.int .i64) .nil)))))))), (1, (.ro (.int .i64)))], []⟩
def f21out : SS := ⟨[(0, (.ro (.int .i64))), (1, (.ro (.int .i64)))], []⟩
def f21con (F : (List TCol) → Int → Option (Int × Int)) : Con := ⟨f21in, f21out, 2, 2, fun x => F x.1 x.2⟩
def f21ctx (k : Nat) : Ctx := ⟨tyAt tys, conAt [(19, [f19con (spec_SchemaLeaves k)]), (74, [f74con (spec_l1In k)]), (82, [f82con (spec_l5Max k)])], 28, fun _ => false⟩
theorem f21hc (k : Nat) : CtxOk Try.prog (f21ctx k) := ctxOk tys_ok mixed_ok (consOk_cons (f19ok k) (consOk_cons (f74ok k) (consOk_cons (f82ok k) (consOk_nil))))
theorem f21ok (k : Nat) : FnOk Try.prog 21 (f21con (spec_LeafMax k)) :=
  let hc := f21hc k
  fnOk (fn := Try.f21) (code := bodyOf Try.f21) (res := [.tmp 4, .tmp 5]) hc (by kernel_rfl) (by kernel_rfl) (by decide) (by kernel_rfl) (by kernel_rfl) (by kernel_rfl) (Nat.le_of_ble_eq_true (by kernel_rfl)) _
    (fun x => Snd.exec hc _ _ _ _)
    (fun x => by kernel_rfl)

def f22in : SS := ⟨[(0, (.ro (.list 52 (.st (.cons (.int .i64) (.cons .str .nil)))))), (1, (.ro (.list 52 (.st (.cons (.int .i64) (.cons .str .nil))))))], []⟩
def f22out : SS := ⟨[(0, (.ro .bool))], []⟩
def f22s4 : SS := ⟨[(0, (.ro (.list 52 (.st (.cons (.int .i64) (.cons .str .nil)))))), (1, (.ro (.list 52 (.st (.cons (.int .i64) (.cons .str .nil)))))), (5, (.ro (.int .i64)))], []⟩
def f22con (F : (List TVal) → (List TVal) → Option Bool) : Con := ⟨f22in, f22out, 2, 1, fun x => F x.1 x.2⟩
def f22ctx (k : Nat) : Ctx := ⟨tyAt tys, conAt [], 26, fun _ => false⟩
theorem f22hc (k : Nat) : CtxOk Try.prog (f22ctx k) := ctxOk tys_ok mixed_ok (consOk_nil)
theorem f22ok (k : Nat) : FnOk Try.prog 22 (f22con (laws_sameVals k)) :=
  let hc := f22hc k
  fnOk (fn := Try.f22) (code := bodyOf Try.f22) (res := [.tmp 4]) hc (by kernel_rfl) (by kernel_rfl) (by decide) (by kernel_rfl) (by kernel_rfl) (by kernel_rfl) (Nat.le_of_ble_eq_true (by kernel_rfl)) _
    (fun x => Snd.seq (by kernel_rfl) (Snd.seq (by kernel_rfl) (Snd.seq (by kernel_rfl) (Snd.exec hc _ _ _ _) (Snd.seq (by kernel_rfl) (Snd.block (id := 0) (by kernel_rfl) (Snd.loop' (by kernel_rfl) f22s4 (fun n x => laws_sameVals.l4 k n x.1 x.2.1 x.2.2) _ (fun _ => rfl) (fun n4 => Snd.exec hc _ _ _ _) (fun n x => by kernel_rfl) k)) (Snd.exec hc _ _ _ _))) (Snd.exec hc _ _ _ _)) (Snd.exec hc _ _ _ _))
    (fun x => by kernel_rfl)

def f83in : SS := ⟨[(0, (.ro (.list 52 (.st (.cons (.int .i64) (.cons .str .nil)))))), (1, (.ro (.list 52 (.st (.cons (.int .i64) (.cons .str .nil))))))], []⟩
def f83out : SS := ⟨[(0, (.ro .bool))], []⟩
def f83s4 : SS := ⟨[(0, (.ro (.list 52 (.st (.cons (.int .i64) (.cons .str .nil)))))), (1, (.ro (.list 52 (.st (.cons (.int .i64) (.cons .str .nil)))))), (12, (.ro (.int .i64))), (13, (.ro (.int .i64)))], []⟩
def f83con (F : (List TVal) → (List TVal) → Option Bool) : Con := ⟨f83in, f83out, 2, 1, fun x => F x.1 x.2⟩
def f83ctx (k : Nat) : Ctx := ⟨tyAt tys, conAt [], 26, fun _ => false⟩
theorem f83hc (k : Nat) : CtxOk Try.prog (f83ctx k) := ctxOk tys_ok mixed_ok (consOk_nil)
theorem f83ok (k : Nat) : FnOk Try.prog 83 (f83con (slices_Equal_impl_Val_impl_Val k)) :=
  let hc := f83hc k
  fnOk (fn := Try.f83) (code := bodyOf Try.f83) (res := [.tmp 4]) hc (by kernel_rfl) (by kernel_rfl) (by decide) (by kernel_rfl) (by kernel_rfl) (by kernel_rfl) (Nat.le_of_ble_eq_true (by kernel_rfl)) _
    (fun x => Snd.seq (by kernel_rfl) (Snd.seq (by kernel_rfl) (Snd.seq (by kernel_rfl) (Snd.exec hc _ _ _ _) (Snd.seq (by kernel_rfl) (Snd.block (id := 0) (by kernel_rfl) (Snd.loop' (by kernel_rfl) f83s4 (fun n x => slices_Equal_impl_Val_impl_Val.l4 k n x.1 x.2.1 x.2.2.1 x.2.2.2) _ (fun _ => rfl) (fun n4 => Snd.exec hc _ _ _ _) (fun n x => by kernel_rfl) k)) (Snd.exec hc _ _ _ _))) (Snd.exec hc _ _ _ _)) (Snd.exec hc _ _ _ _))
    (fun x => by kernel_rfl)

def f23in : SS := ⟨[(0, (.ro (.st (.cons (.list 52 (.st (.cons (.int .i64) (.cons .str .nil)))) .nil)))), (1, (.ro (.st (.cons (.list 52 (.st (.cons (.int .i64) (.cons .str .nil)))) .nil))))], []⟩
def f23out : SS := ⟨[(0, (.ro .bool))], []⟩
def f23con (F : TRec → TRec → Option Bool) : Con := ⟨f23in, f23out, 2, 1, fun x => F x.1 x.2⟩
def f23ctx (k : Nat) : Ctx := ⟨tyAt tys, conAt [(83, [f83con (slices_Equal_impl_Val_impl_Val k)])], 10, fun _ => false⟩
theorem f23hc (k : Nat) : CtxOk Try.prog (f23ctx k) := ctxOk tys_ok mixed_ok (consOk_cons (f83ok k) (consOk_nil))
theorem f23ok (k : Nat) : FnOk Try.prog 23 (f23con (impl_RecSame k)) :=
  let hc := f23hc k
  fnOk (fn := Try.f23) (code := bodyOf Try.f23) (res := [.tmp 4]) hc (by kernel_rfl) (by kernel_rfl) (by decide) (by kernel_rfl) (by kernel_rfl) (by kernel_rfl) (Nat.le_of_ble_eq_true (by kernel_rfl)) _
    (fun x => Snd.exec hc _ _ _ _)
    (fun x => by kernel_rfl)

def f3in : SS := ⟨[(0, (.ro (.list 5 (.int .u8))))], []⟩
def f3out : SS := ⟨[(0, (.ro .bool))], []⟩
def f3s15 : SS := ⟨[(3, (.ro (.list 126 (.st (.cons .str (.cons (.int .i64) (.cons (.int .i64) (.cons (.int .i64) .nil)))))))), (4, (.p 100)), (6, (.p 101)), (10, (.ro (.int .i64))), (11, (.ro (.int .i64)))], [(100, (.box (.st (.cons (.list 52 (.st (.cons (.int .i64) (.cons .str .nil)))) .nil)) (.agg (.cons (.ro (.list 52 (.st (.cons (.int .i64) (.cons .str .nil))))) .nil)))), (101, (.box (.st (.cons (.list 52 (.st (.cons (.int .i64) (.cons .str .nil)))) .nil)) (.agg (.cons (.h 102) .nil)))), (102, (.sl 52 (.st (.cons (.int .i64) (.cons .str .nil)))))]⟩
def f3con (F : (List Int) → Option Bool) : Con := ⟨f3in, f3out, 1, 1, fun x => F x⟩
def f3ctx (k : Nat) : Ctx := ⟨tyAt tys, conAt [(12, [f12con (laws_big k)]), (13, [f13con (spec_DrawRecOk k)]), (14, [f14con (impl_RecOk k)]), (15, [f15con (spec_RecOk k)]), (16, [f16con (impl_RecEmpty k)]), (17, [f17con (spec_SchemaOk k)]), (18, [f18con (impl_RecValues k)]), (19, [f19con (spec_SchemaLeaves k)]), (20, [f20con (spec_RecValues k)]), (21, [f21con (spec_LeafMax k)]), (22, [f22con (laws_sameVals k)]), (23, [f23con (impl_RecSame k)])], 136, fun _ => false⟩
theorem f3hc (k : Nat) : CtxOk Try.prog (f3ctx k) := ctxOk tys_ok mixed_ok (consOk_cons (f12ok k) (consOk_cons (f13ok k) (consOk_cons (f14ok k) (consOk_cons (f15ok k) (consOk_cons (f16ok k) (consOk_cons (f17ok k) (consOk_cons (f18ok k) (consOk_cons (f19ok k) (consOk_cons (f20ok k) (consOk_cons (f21ok k) (consOk_cons (f22ok k) (consOk_cons (f23ok k) (consOk_nil)))))))))))))
theorem f3ok (k : Nat) : FnOk Try.prog 3 (f3con (laws_FnValues k)) :=
  let hc := f3hc k
  fnOk (fn := Try.f3) (code := bodyOf Try.f3) (res := [.tmp 2]) hc (by kernel_rfl) (by kernel_rfl) (by decide) (by kernel_rfl) (by kernel_rfl) (by kernel_rfl) (Nat.le_of_ble_eq_true (by kernel_rfl)) _
    (fun x => Snd.seq (by kernel_rfl) (Snd.seq (by kernel_rfl) (Snd.seq (by kernel_rfl) (Snd.seq (by kernel_rfl) (Snd.seq (by kernel_rfl) (Snd.seq (by kernel_rfl) (Snd.seq (by kernel_rfl) (Snd.seq (by kernel_rfl) (Snd.seq (by kernel_rfl) (Snd.seq (by kernel_rfl) (Snd.exec hc _ _ _ _) (Snd.seq (by kernel_rfl) (Snd.block (id := 0) (by kernel_rfl) (Snd.loop' (by kernel_rfl) f3s15 (fun n x => laws_FnValues.l15 k n x.1.1 x.1.2.2.2.1 x.1.2.2.2.2 x.2.1 x.2.2.1 x.2.2.2) _ (fun _ => rfl) (fun n15 => Snd.exec hc _ _ _ _) (fun n x => by kernel_rfl) k)) (Snd.exec hc _ _ _ _))) (Snd.exec hc _ _ _ _)) (Snd.exec hc _ _ _ _)) (Snd.exec hc _ _ _ _)) (Snd.exec hc _ _ _ _)) (Snd.exec hc _ _ _ _)) (Snd.exec hc _ _ _ _)) (Snd.exec hc _ _ _ _)) (Snd.exec hc _ _ _ _)) (Snd.exec hc _ _ _ _))
    (fun x => by kernel_rfl)

end Go.Proofs.Ytifcflanpjkgkaa
