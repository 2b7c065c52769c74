/- The walks, printed by program. -/
import Derived.Test.YtifcflanpjkgkaaBase
import Derived.Test.YtifcflanpjkgkaaSVCF0
set_option linter.unusedVariables false
set_option maxRecDepth 100000
namespace Go.Proofs.Ytifcflanpjkgkaa
open Go.Am Go.Fn

def f12in : SS := ⟨[(0, (.ro (.list 5 (.int .u8))))], []⟩
def f12out : SS := ⟨[(0, (.ro .bool))], []⟩
def f12con (F : (List Int) → Option Bool) : Con := ⟨f12in, f12out, 1, 1, fun x => F x⟩
def f12ctx (k : Nat) : Ctx := ⟨tyAt tys, conAt [], 6, fun _ => false⟩
theorem f12hc (k : Nat) : CtxOk Try.prog (f12ctx k) := ctxOk tys_ok mixed_ok (consOk_nil)
theorem f12ok (k : Nat) : FnOk Try.prog 12 (f12con (laws_big k)) :=
  let hc := f12hc k
  fnOk (fn := Try.f12) (code := bodyOf Try.f12) (res := [.tmp 2]) hc (by kernel_rfl) (by kernel_rfl) (by decide) (by kernel_rfl) (by kernel_rfl) (by kernel_rfl) (Nat.le_of_ble_eq_true (by kernel_rfl)) _
    (fun x => Snd.exec hc _ _ _ _)
    (fun x => by kernel_rfl)

def f74in : SS := ⟨[(0, (.ro (.int .i64))), (1, (.ro (.int .i64))), (2, (.ro (.int .i64)))], []⟩
def f74out : SS := ⟨[(0, (.ro .bool))], []⟩
def f74con (F : Int → Int → Int → Option Bool) : Con := ⟨f74in, f74out, 3, 1, fun x => F x.1 x.2.1 x.2.2⟩
def f74ctx (k : Nat) : Ctx := ⟨tyAt tys, conAt [], 15, fun _ => false⟩
theorem f74hc (k : Nat) : CtxOk Try.prog (f74ctx k) := ctxOk tys_ok mixed_ok (consOk_nil)
theorem f74ok (k : Nat) : FnOk Try.prog 74 (f74con (spec_l1In k)) :=
  let hc := f74hc k
  fnOk (fn := Try.f74) (code := bodyOf Try.f74) (res := [.tmp 6]) hc (by kernel_rfl) (by kernel_rfl) (by decide) (by kernel_rfl) (by kernel_rfl) (by kernel_rfl) (Nat.le_of_ble_eq_true (by kernel_rfl)) _
    (fun x => Snd.exec hc _ _ _ _)
    (fun x => by kernel_rfl)

def f145in : SS := ⟨[(0, (.ro .str))], []⟩
def f145out : SS := ⟨[(0, (.ro .bool))], []⟩
def f145s4 : SS := ⟨[(0, (.ro .str)), (3, (.ro (.int .i64)))], []⟩
def f145con (F : ByteArray → Option Bool) : Con := ⟨f145in, f145out, 1, 1, fun x => F x⟩
def f145ctx (k : Nat) : Ctx := ⟨tyAt tys, conAt [(74, [f74con (spec_l1In k)])], 24, fun _ => false⟩
theorem f145hc (k : Nat) : CtxOk Try.prog (f145ctx k) := ctxOk tys_ok mixed_ok (consOk_cons (f74ok k) (consOk_nil))
theorem f145ok (k : Nat) : FnOk Try.prog 145 (f145con (spec_l5Name k)) :=
  let hc := f145hc k
  fnOk (fn := Try.f145) (code := bodyOf Try.f145) (res := [.tmp 2]) hc (by kernel_rfl) (by kernel_rfl) (by decide) (by kernel_rfl) (by kernel_rfl) (by kernel_rfl) (Nat.le_of_ble_eq_true (by kernel_rfl)) _
    (fun x => Snd.seq (by kernel_rfl) (Snd.seq (by kernel_rfl) (Snd.seq (by kernel_rfl) (Snd.exec hc _ _ _ _) (Snd.seq (by kernel_rfl) (Snd.block (id := 0) (by kernel_rfl) (Snd.loop' (by kernel_rfl) f145s4 (fun n x => spec_l5Name.l4 k n x.1 x.2) _ (fun _ => rfl) (fun n4 => Snd.exec hc _ _ _ _) (fun n x => by kernel_rfl) k)) (Snd.exec hc _ _ _ _))) (Snd.exec hc _ _ _ _)) (Snd.exec hc _ _ _ _))
    (fun x => by kernel_rfl)

def f146in : SS := ⟨[(0, (.ro (.int .i64)))], []⟩
def f146out : SS := ⟨[(0, (.ro .bool))], []⟩
def f146s7 : SS := ⟨[(4, (.ro .bool))], []⟩
def f146con (F : Int → Option Bool) : Con := ⟨f146in, f146out, 1, 1, fun x => F x⟩
def f146ctx (k : Nat) : Ctx := ⟨tyAt tys, conAt [], 10, fun _ => false⟩
theorem f146hc (k : Nat) : CtxOk Try.prog (f146ctx k) := ctxOk tys_ok mixed_ok (consOk_nil)
theorem f146ok (k : Nat) : FnOk Try.prog 146 (f146con (spec_l5Type k)) :=
  let hc := f146hc k
  fnOk (fn := Try.f146) (code := bodyOf Try.f146) (res := [.tmp 2]) hc (by kernel_rfl) (by kernel_rfl) (by decide) (by kernel_rfl) (by kernel_rfl) (by kernel_rfl) (Nat.le_of_ble_eq_true (by kernel_rfl)) _
    (fun x => Snd.seq (by kernel_rfl) (Snd.seq (by kernel_rfl) (Snd.exec hc _ _ _ _) (Snd.seq (by kernel_rfl) (Snd.block (id := 0) (by kernel_rfl) (Snd.seq (by kernel_rfl) (Snd.cut (Snd.exec hc _ _ _ _) ⟨f146s7, fun x => spec_l5Type.c7 k x⟩ (fun x => by kernel_rfl)) (Snd.exec hc _ _ _ _))) (Snd.exec hc _ _ _ _))) (Snd.exec hc _ _ _ _))
    (fun x => by kernel_rfl)

def f75in : SS := ⟨[(0, (.ro (.list 126 (.st (.cons .str (.cons (.int .i64) (.cons (.int .i64) (.cons (.int .i64) .nil)))))))), (1, (.ro (.int .i64))), (2, (.ro (.int .i64)))], []⟩
def f75out : SS := ⟨[(0, (.ro (.int .i64)))], []⟩
def f75s20 : SS := ⟨[(0, (.ro (.list 126 (.st (.cons .str (.cons (.int .i64) (.cons (.int .i64) (.cons (.int .i64) .nil)))))))), (2, (.ro (.int .i64))), (7, (.p 100)), (8, (.ro (.int .i64))), (9, (.h 101)), (10, (.ro (.int .i64))), (11, (.ro (.int .i64)))], [(100, (.box (.st (.cons .str (.cons (.int .i64) (.cons (.int .i64) (.cons (.int .i64) .nil))))) (.agg (.cons (.ro .str) (.cons (.ro (.int .i64)) (.cons (.ro (.int .i64)) (.cons (.ro (.int .i64)) .nil))))))), (101, (.sl 9 .str))]⟩
def f75s15 : SS := ⟨[(0, (.ro (.list 126 (.st (.cons .str (.cons (.int .i64) (.cons (.int .i64) (.cons (.int .i64) .nil)))))))), (2, (.ro (.int .i64))), (7, (.p 100)), (8, (.ro (.int .i64))), (9, (.h 101)), (10, (.ro (.int .i64)))], [(100, (.box (.st (.cons .str (.cons (.int .i64) (.cons (.int .i64) (.cons (.int .i64) .nil))))) (.agg (.cons (.ro .str) (.cons (.ro (.int .i64)) (.cons (.ro (.int .i64)) (.cons (.ro (.int .i64)) .nil))))))), (101, (.sl 9 .str))]⟩
def f75con (F : (List TCol) → Int → Int → Option Int) : Con := ⟨f75in, f75out, 3, 1, fun x => F x.1 x.2.1 x.2.2⟩
def f75ctx (k : Nat) (S75 : (List TCol) → Int → Int → Option Int) : Ctx := ⟨tyAt tys, conAt [(74, [f74con (spec_l1In k)]), (75, [f75con S75]), (145, [f145con (spec_l5Name k)]), (146, [f146con (spec_l5Type k)])], 119, fun _ => false⟩
theorem f75hc (k : Nat) (S75 : (List TCol) → Int → Int → Option Int) (h75 : FnOk Try.prog 75 (f75con S75)) : CtxOk Try.prog (f75ctx k S75) := ctxOk tys_ok mixed_ok (consOk_cons (f74ok k) (consOk_cons (h75) (consOk_cons (f145ok k) (consOk_cons (f146ok k) (consOk_nil)))))
theorem f75okb (k : Nat) (S75 : (List TCol) → Int → Int → Option Int) (h75 : FnOk Try.prog 75 (f75con S75)) : FnOk Try.prog 75 (f75con (spec_l5Check.b k S75)) :=
  let hc := f75hc k S75 h75
  fnOk (fn := Try.f75) (code := bodyOf Try.f75) (res := [.tmp 6]) hc (by kernel_rfl) (by kernel_rfl) (by decide) (by kernel_rfl) (by kernel_rfl) (by kernel_rfl) (Nat.le_of_ble_eq_true (by kernel_rfl)) _
    (fun x => Snd.seq (by kernel_rfl) (Snd.seq (by kernel_rfl) (Snd.seq (by kernel_rfl) (Snd.seq (by kernel_rfl) (Snd.seq (by kernel_rfl) (Snd.seq (by kernel_rfl) (Snd.seq (by kernel_rfl) (Snd.seq (by kernel_rfl) (Snd.seq (by kernel_rfl) (Snd.exec hc _ _ _ _) (Snd.seq (by kernel_rfl) (Snd.block (id := 0) (by kernel_rfl) (Snd.loop' (by kernel_rfl) f75s15 (fun n x => spec_l5Check.l15 k S75 n x.1.1 x.1.2.1 x.1.2.2.2.1 x.1.2.2.2.2.2 x.2.1 x.2.2) _ (fun _ => rfl) (fun n15 => Snd.seq (by kernel_rfl) (Snd.seq (by kernel_rfl) (Snd.exec hc _ _ _ _) (Snd.block (id := 1) (by kernel_rfl) (Snd.seq (by kernel_rfl) (Snd.seq (by kernel_rfl) (Snd.exec hc _ _ _ _) (Snd.seq (by kernel_rfl) (Snd.block (id := 2) (by kernel_rfl) (Snd.loop' (by kernel_rfl) f75s20 (fun n x => spec_l5Check.l20 k S75 (spec_l5Check.l15 k S75 n15) n x.1.1 x.1.2.1 x.1.2.2.2.1 x.1.2.2.2.2.2.1 x.1.2.2.2.2.2.2 x.2.1 x.2.2) _ (fun _ => rfl) (fun n20 => Snd.exec hc _ _ _ _) (fun n x => by kernel_rfl) k)) (Snd.exec hc _ _ _ _))) (Snd.exec hc _ _ _ _)))) (Snd.exec hc _ _ _ _)) (fun n x => by kernel_rfl) k)) (Snd.exec hc _ _ _ _))) (Snd.exec hc _ _ _ _)) (Snd.exec hc _ _ _ _)) (Snd.exec hc _ _ _ _)) (Snd.exec hc _ _ _ _)) (Snd.exec hc _ _ _ _)) (Snd.exec hc _ _ _ _)) (Snd.exec hc _ _ _ _)) (Snd.exec hc _ _ _ _))
    (fun x => by kernel_rfl)
theorem f75rec (k : Nat) : ∀ d, FnOk Try.prog 75 (f75con (spec_l5Check.d k d))
  | 0 => FnOk_none (fun _ => rfl)
  | d + 1 => let ih := f75rec k d
    f75okb k (spec_l5Check.d k d) ih
theorem f75ok (k : Nat) : FnOk Try.prog 75 (f75con (spec_l5Check k)) := (f75rec k k)

def f17in : SS := ⟨[(0, (.ro (.list 126 (.st (.cons .str (.cons (.int .i64) (.cons (.int .i64) (.cons (.int .i64) .nil))))))))], []⟩
def f17out : SS := ⟨[(0, (.ro .bool))], []⟩
def f17con (F : (List TCol) → Option Bool) : Con := ⟨f17in, f17out, 1, 1, fun x => F x⟩
def f17ctx (k : Nat) : Ctx := ⟨tyAt tys, conAt [(74, [f74con (spec_l1In k)]), (75, [f75con (spec_l5Check k)])], 13, fun _ => false⟩
theorem f17hc (k : Nat) : CtxOk Try.prog (f17ctx k) := ctxOk tys_ok mixed_ok (consOk_cons (f74ok k) (consOk_cons (f75ok k) (consOk_nil)))
theorem f17ok (k : Nat) : FnOk Try.prog 17 (f17con (spec_SchemaOk k)) :=
  let hc := f17hc k
  fnOk (fn := Try.f17) (code := bodyOf Try.f17) (res := [.tmp 2]) hc (by kernel_rfl) (by kernel_rfl) (by decide) (by kernel_rfl) (by kernel_rfl) (by kernel_rfl) (Nat.le_of_ble_eq_true (by kernel_rfl)) _
    (fun x => Snd.exec hc _ _ _ _)
    (fun x => by kernel_rfl)

def f166in : SS := ⟨[(0, (.ro (.int .i64)))], []⟩
def f166out : SS := ⟨[(0, (.ro .bool))], []⟩
def f166con (F : Int → Option Bool) : Con := ⟨f166in, f166out, 1, 1, fun x => F x⟩
def f166ctx (k : Nat) : Ctx := ⟨tyAt tys, conAt [(74, [f74con (spec_l1In k)])], 5, fun _ => false⟩
theorem f166hc (k : Nat) : CtxOk Try.prog (f166ctx k) := ctxOk tys_ok mixed_ok (consOk_cons (f74ok k) (consOk_nil))
theorem f166ok (k : Nat) : FnOk Try.prog 166 (f166con (spec_l4Int k)) :=
  let hc := f166hc k
  fnOk (fn := Try.f166) (code := bodyOf Try.f166) (res := [.tmp 2]) hc (by kernel_rfl) (by kernel_rfl) (by decide) (by kernel_rfl) (by kernel_rfl) (by kernel_rfl) (Nat.le_of_ble_eq_true (by kernel_rfl)) _
    (fun x => Snd.exec hc _ _ _ _)
    (fun x => by kernel_rfl)

def f142in : SS := ⟨[(0, (.ro (.int .i64))), (1, (.ro (.st (.cons (.int .i64) (.cons .str .nil)))))], []⟩
def f142out : SS := ⟨[(0, (.ro .bool))], []⟩
def f142s8 : SS := ⟨[(3, (.p 100)), (5, (.ro (.int .i64))), (26, (.ro .bool))], [(100, (.box (.st (.cons (.int .i64) (.cons .str .nil))) (.agg (.cons (.ro (.int .i64)) (.cons (.ro .str) .nil)))))]⟩
def f142con (F : Int → TVal → Option Bool) : Con := ⟨f142in, f142out, 2, 1, fun x => F x.1 x.2⟩
def f142ctx (k : Nat) : Ctx := ⟨tyAt tys, conAt [(74, [f74con (spec_l1In k)]), (166, [f166con (spec_l4Int k)])], 43, fun _ => false⟩
theorem f142hc (k : Nat) : CtxOk Try.prog (f142ctx k) := ctxOk tys_ok mixed_ok (consOk_cons (f74ok k) (consOk_cons (f166ok k) (consOk_nil)))
theorem f142ok (k : Nat) : FnOk Try.prog 142 (f142con (spec_ValOk k)) :=
  let hc := f142hc k
  fnOk (fn := Try.f142) (code := bodyOf Try.f142) (res := [.tmp 4]) hc (by kernel_rfl) (by kernel_rfl) (by decide) (by kernel_rfl) (by kernel_rfl) (by kernel_rfl) (Nat.le_of_ble_eq_true (by kernel_rfl)) _
    (fun x => Snd.seq (by kernel_rfl) (Snd.seq (by kernel_rfl) (Snd.exec hc _ _ _ _) (Snd.seq (by kernel_rfl) (Snd.block (id := 0) (by kernel_rfl) (Snd.seq (by kernel_rfl) (Snd.cond (x := .tmp 6) (by kernel_rfl) (Snd.exec hc _ _ _ _) (Snd.seq (by kernel_rfl) (Snd.cond (x := .tmp 16) (by kernel_rfl) (Snd.exec hc _ _ _ _) (Snd.seq (by kernel_rfl) (Snd.cut (Snd.exec hc _ _ _ _) ⟨f142s8, fun x => spec_ValOk.c8 k x.1.2.1 x.1.2.2 x.2⟩ (fun x => by kernel_rfl)) (Snd.exec hc _ _ _ _))) (Snd.exec hc _ _ _ _))) (Snd.exec hc _ _ _ _))) (Snd.exec hc _ _ _ _))) (Snd.exec hc _ _ _ _))
    (fun x => by kernel_rfl)

def f198in : SS := ⟨[(0, (.ro (.st (.cons (.int .i64) (.cons .str .nil))))), (1, (.ro (.int .i64)))], []⟩
def f198out : SS := ⟨[(0, (.ro (.int .i64)))], []⟩
def f198con (F : TVal → Int → Option Int) : Con := ⟨f198in, f198out, 2, 1, fun x => F x.1 x.2⟩
def f198ctx (k : Nat) : Ctx := ⟨tyAt tys, conAt [(74, [f74con (spec_l1In k)])], 17, fun _ => false⟩
theorem f198hc (k : Nat) : CtxOk Try.prog (f198ctx k) := ctxOk tys_ok mixed_ok (consOk_cons (f74ok k) (consOk_nil))
theorem f198ok (k : Nat) : FnOk Try.prog 198 (f198con (spec_l13Count k)) :=
  let hc := f198hc k
  fnOk (fn := Try.f198) (code := bodyOf Try.f198) (res := [.tmp 4]) hc (by kernel_rfl) (by kernel_rfl) (by decide) (by kernel_rfl) (by kernel_rfl) (by kernel_rfl) (Nat.le_of_ble_eq_true (by kernel_rfl)) _
    (fun x => Snd.exec hc _ _ _ _)
    (fun x => by kernel_rfl)

def f144in : SS := ⟨[(0, (.ro (.list 126 (.st (.cons .str (.cons (.int .i64) (.cons (.int .i64) (.cons (.int .i64) .nil)))))))), (1, (.ro (.int .i64)))], []⟩
def f144out : SS := ⟨[(0, (.ro (.int .i64)))], []⟩
def f144s3 : SS := ⟨[(0, (.ro (.list 126 (.st (.cons .str (.cons (.int .i64) (.cons (.int .i64) (.cons (.int .i64) .nil)))))))), (1, (.ro (.int .i64))), (5, (.ro (.int .i64))), (6, (.ro (.int .i64)))], []⟩
def f144con (F : (List TCol) → Int → Option Int) : Con := ⟨f144in, f144out, 2, 1, fun x => F x.1 x.2⟩
def f144ctx (k : Nat) (S144 : (List TCol) → Int → Option Int) : Ctx := ⟨tyAt tys, conAt [(144, [f144con S144])], 22, fun _ => false⟩
theorem f144hc (k : Nat) (S144 : (List TCol) → Int → Option Int) (h144 : FnOk Try.prog 144 (f144con S144)) : CtxOk Try.prog (f144ctx k S144) := ctxOk tys_ok mixed_ok (consOk_cons (h144) (consOk_nil))
theorem f144okb (k : Nat) (S144 : (List TCol) → Int → Option Int) (h144 : FnOk Try.prog 144 (f144con S144)) : FnOk Try.prog 144 (f144con (spec_l5After.b k S144)) :=
  let hc := f144hc k S144 h144
  fnOk (fn := Try.f144) (code := bodyOf Try.f144) (res := [.tmp 4]) hc (by kernel_rfl) (by kernel_rfl) (by decide) (by kernel_rfl) (by kernel_rfl) (by kernel_rfl) (Nat.le_of_ble_eq_true (by kernel_rfl)) _
    (fun x => Snd.seq (by kernel_rfl) (Snd.seq (by kernel_rfl) (Snd.seq (by kernel_rfl) (Snd.exec hc _ _ _ _) (Snd.seq (by kernel_rfl) (Snd.block (id := 0) (by kernel_rfl) (Snd.loop' (by kernel_rfl) f144s3 (fun n x => spec_l5After.l3 k S144 n x.1 x.2.1 x.2.2.1 x.2.2.2) _ (fun _ => rfl) (fun n3 => Snd.exec hc _ _ _ _) (fun n x => by kernel_rfl) k)) (Snd.exec hc _ _ _ _))) (Snd.exec hc _ _ _ _)) (Snd.exec hc _ _ _ _))
    (fun x => by kernel_rfl)
theorem f144rec (k : Nat) : ∀ d, FnOk Try.prog 144 (f144con (spec_l5After.d k d))
  | 0 => FnOk_none (fun _ => rfl)
  | d + 1 => let ih := f144rec k d
    f144okb k (spec_l5After.d k d) ih
theorem f144ok (k : Nat) : FnOk Try.prog 144 (f144con (spec_l5After k)) := (f144rec k k)

def f72in : SS := ⟨[(0, (.ro (.list 126 (.st (.cons .str (.cons (.int .i64) (.cons (.int .i64) (.cons (.int .i64) .nil)))))))), (1, (.ro (.int .i64))), (2, (.ro (.list 52 (.st (.cons (.int .i64) (.cons .str .nil)))))), (3, (.ro (.int .i64)))], []⟩
def f72out : SS := ⟨[(0, (.ro (.int .i64)))], []⟩
def f72s7 : SS := ⟨[(0, (.ro (.list 126 (.st (.cons .str (.cons (.int .i64) (.cons (.int .i64) (.cons (.int .i64) .nil)))))))), (1, (.ro (.int .i64))), (2, (.ro (.list 52 (.st (.cons (.int .i64) (.cons .str .nil)))))), (3, (.ro (.int .i64))), (9, (.ro (.int .i64))), (10, (.ro (.int .i64)))], []⟩
def f72con (F : (List TCol) → Int → (List TVal) → Int → Option Int) : Con := ⟨f72in, f72out, 4, 1, fun x => F x.1 x.2.1 x.2.2.1 x.2.2.2⟩
def f143in : SS := ⟨[(0, (.ro (.list 126 (.st (.cons .str (.cons (.int .i64) (.cons (.int .i64) (.cons (.int .i64) .nil)))))))), (1, (.ro (.int .i64))), (2, (.ro (.list 52 (.st (.cons (.int .i64) (.cons .str .nil)))))), (3, (.ro (.int .i64)))], []⟩
def f143out : SS := ⟨[(0, (.ro (.int .i64)))], []⟩
def f143s13 : SS := ⟨[(0, (.ro (.list 126 (.st (.cons .str (.cons (.int .i64) (.cons (.int .i64) (.cons (.int .i64) .nil)))))))), (1, (.ro (.int .i64))), (2, (.ro (.list 52 (.st (.cons (.int .i64) (.cons .str .nil)))))), (3, (.ro (.int .i64))), (9, (.ro (.int .i64))), (11, (.ro (.int .i64)))], []⟩
def f143s12 : SS := ⟨[(0, (.ro (.list 126 (.st (.cons .str (.cons (.int .i64) (.cons (.int .i64) (.cons (.int .i64) .nil)))))))), (1, (.ro (.int .i64))), (2, (.ro (.list 52 (.st (.cons (.int .i64) (.cons .str .nil)))))), (3, (.ro (.int .i64))), (9, (.ro (.int .i64)))], []⟩
def f143s6 : SS := ⟨[(0, (.ro (.list 126 (.st (.cons .str (.cons (.int .i64) (.cons (.int .i64) (.cons (.int .i64) .nil)))))))), (1, (.ro (.int .i64))), (2, (.ro (.list 52 (.st (.cons (.int .i64) (.cons .str .nil)))))), (3, (.ro (.int .i64))), (10, (.ro (.int .i64)))], []⟩
def f143con (F : (List TCol) → Int → (List TVal) → Int → Option Int) : Con := ⟨f143in, f143out, 4, 1, fun x => F x.1 x.2.1 x.2.2.1 x.2.2.2⟩
def f72ctx (k : Nat) (S72 : (List TCol) → Int → (List TVal) → Int → Option Int) (S143 : (List TCol) → Int → (List TVal) → Int → Option Int) : Ctx := ⟨tyAt tys, conAt [(142, [f142con (spec_ValOk k)]), (143, [f143con S143]), (144, [f144con (spec_l5After k)])], 58, fun _ => false⟩
theorem f72hc (k : Nat) (S72 : (List TCol) → Int → (List TVal) → Int → Option Int) (S143 : (List TCol) → Int → (List TVal) → Int → Option Int) (h72 : FnOk Try.prog 72 (f72con S72)) (h143 : FnOk Try.prog 143 (f143con S143)) : CtxOk Try.prog (f72ctx k S72 S143) := ctxOk tys_ok mixed_ok (consOk_cons (f142ok k) (consOk_cons (h143) (consOk_cons (f144ok k) (consOk_nil))))
theorem f72okb (k : Nat) (S72 : (List TCol) → Int → (List TVal) → Int → Option Int) (S143 : (List TCol) → Int → (List TVal) → Int → Option Int) (h72 : FnOk Try.prog 72 (f72con S72)) (h143 : FnOk Try.prog 143 (f143con S143)) : FnOk Try.prog 72 (f72con (spec_l13Content.b k S72 S143)) :=
  let hc := f72hc k S72 S143 h72 h143
  fnOk (fn := Try.f72) (code := bodyOf Try.f72) (res := [.tmp 8]) hc (by kernel_rfl) (by kernel_rfl) (by decide) (by kernel_rfl) (by kernel_rfl) (by kernel_rfl) (Nat.le_of_ble_eq_true (by kernel_rfl)) _
    (fun x => Snd.seq (by kernel_rfl) (Snd.seq (by kernel_rfl) (Snd.seq (by kernel_rfl) (Snd.seq (by kernel_rfl) (Snd.exec hc _ _ _ _) (Snd.seq (by kernel_rfl) (Snd.block (id := 0) (by kernel_rfl) (Snd.loop' (by kernel_rfl) f72s7 (fun n x => spec_l13Content.l7 k S143 n x.1 x.2.1 x.2.2.1 x.2.2.2.1 x.2.2.2.2.1 x.2.2.2.2.2) _ (fun _ => rfl) (fun n7 => Snd.exec hc _ _ _ _) (fun n x => by kernel_rfl) k)) (Snd.exec hc _ _ _ _))) (Snd.exec hc _ _ _ _)) (Snd.exec hc _ _ _ _)) (Snd.exec hc _ _ _ _))
    (fun x => by kernel_rfl)
def f143ctx (k : Nat) (S72 : (List TCol) → Int → (List TVal) → Int → Option Int) (S143 : (List TCol) → Int → (List TVal) → Int → Option Int) : Ctx := ⟨tyAt tys, conAt [(72, [f72con S72]), (198, [f198con (spec_l13Count k)])], 51, fun _ => false⟩
theorem f143hc (k : Nat) (S72 : (List TCol) → Int → (List TVal) → Int → Option Int) (S143 : (List TCol) → Int → (List TVal) → Int → Option Int) (h72 : FnOk Try.prog 72 (f72con S72)) (h143 : FnOk Try.prog 143 (f143con S143)) : CtxOk Try.prog (f143ctx k S72 S143) := ctxOk tys_ok mixed_ok (consOk_cons (h72) (consOk_cons (f198ok k) (consOk_nil)))
theorem f143okb (k : Nat) (S72 : (List TCol) → Int → (List TVal) → Int → Option Int) (S143 : (List TCol) → Int → (List TVal) → Int → Option Int) (h72 : FnOk Try.prog 72 (f72con S72)) (h143 : FnOk Try.prog 143 (f143con S143)) : FnOk Try.prog 143 (f143con (spec_l13Part.b k S72 S143)) :=
  let hc := f143hc k S72 S143 h72 h143
  fnOk (fn := Try.f143) (code := bodyOf Try.f143) (res := [.tmp 8]) hc (by kernel_rfl) (by kernel_rfl) (by decide) (by kernel_rfl) (by kernel_rfl) (by kernel_rfl) (Nat.le_of_ble_eq_true (by kernel_rfl)) _
    (fun x => Snd.seq (by kernel_rfl) (Snd.seq (by kernel_rfl) (Snd.seq (by kernel_rfl) (Snd.cut (Snd.seq (by kernel_rfl) (Snd.exec hc _ _ _ _) (Snd.seq (by kernel_rfl) (Snd.block (id := 0) (by kernel_rfl) (Snd.loop' (by kernel_rfl) f143s13 (fun n x => spec_l13Part.l13 k S72 n x.1 x.2.1 x.2.2.1 x.2.2.2.1 x.2.2.2.2.1 x.2.2.2.2.2) _ (fun _ => rfl) (fun n13 => Snd.exec hc _ _ _ _) (fun n x => by kernel_rfl) k)) (Snd.exec hc _ _ _ _))) ⟨f143s12, fun x => spec_l13Part.c12 k S72 x.1 x.2.1 x.2.2.1 x.2.2.2.1 x.2.2.2.2⟩ (fun x => by kernel_rfl)) (Snd.seq (by kernel_rfl) (Snd.cond (x := .tmp 17) (by kernel_rfl) (Snd.seq (by kernel_rfl) (Snd.seq (by kernel_rfl) (Snd.cut (Snd.exec hc _ _ _ _) ⟨f143s6, fun x => spec_l13Part.c6 k S72 x.1 x.2.1 x.2.2.1 x.2.2.2.1 x.2.2.2.2⟩ (fun x => by kernel_rfl)) (Snd.exec hc _ _ _ _)) (Snd.exec hc _ _ _ _)) (Snd.exec hc _ _ _ _)) (Snd.exec hc _ _ _ _))) (Snd.exec hc _ _ _ _)) (Snd.exec hc _ _ _ _))
    (fun x => by kernel_rfl)
theorem f72rec (k : Nat) : ∀ d, FnOk Try.prog 72 (f72con (spec_l13Content.d k d)) ∧ FnOk Try.prog 143 (f143con (spec_l13Part.d k d))
  | 0 => ⟨FnOk_none (fun _ => rfl), FnOk_none (fun _ => rfl)⟩
  | d + 1 => let ih := f72rec k d
    ⟨f72okb k (spec_l13Content.d k d) (spec_l13Part.d k d) ih.1 ih.2, f143okb k (spec_l13Content.d k d) (spec_l13Part.d k d) ih.1 ih.2⟩
theorem f72ok (k : Nat) : FnOk Try.prog 72 (f72con (spec_l13Content k)) := (f72rec k k).1
theorem f143ok (k : Nat) : FnOk Try.prog 143 (f143con (spec_l13Part k)) := (f72rec k k).2

def f15in : SS := ⟨[(0, (.ro (.list 126 (.st (.cons .str (.cons (.int .i64) (.cons (.int .i64) (.cons (.int .i64) .nil)))))))), (1, (.ro (.st (.cons (.list 52 (.st (.cons (.int .i64) (.cons .str .nil)))) .nil))))], []⟩
def f15out : SS := ⟨[(0, (.ro .bool))], []⟩
def f15d1 : SS := ⟨[(0, (.ro (.list 126 (.st (.cons .str (.cons (.int .i64) (.cons (.int .i64) (.cons (.int .i64) .nil)))))))), (3, (.p 100))], [(100, (.box (.st (.cons (.list 52 (.st (.cons (.int .i64) (.cons .str .nil)))) .nil)) (.agg (.cons (.ro (.list 52 (.st (.cons (.int .i64) (.cons .str .nil))))) .nil))))]⟩
def f15con (F : (List TCol) → TRec → Option Bool) : Con := ⟨f15in, f15out, 2, 1, fun x => F x.1 x.2⟩
def f15ctx (k : Nat) : Ctx := ⟨tyAt tys, conAt [(17, [f17con (spec_SchemaOk k)]), (72, [f72con (spec_l13Content k)])], 23, fun _ => false⟩
theorem f15hc (k : Nat) : CtxOk Try.prog (f15ctx k) := ctxOk tys_ok mixed_ok (consOk_cons (f17ok k) (consOk_cons (f72ok k) (consOk_nil)))
theorem f15ok (k : Nat) : FnOk Try.prog 15 (f15con (spec_RecOk k)) :=
  let hc := f15hc k
  fnOk (fn := Try.f15) (code := bodyOf Try.f15) (res := [.tmp 4]) hc (by kernel_rfl) (by kernel_rfl) (by decide) (by kernel_rfl) (by kernel_rfl) (by kernel_rfl) (Nat.le_of_ble_eq_true (by kernel_rfl)) _
    (fun x => Snd.seq (by kernel_rfl) (Snd.seq (by kernel_rfl) (Snd.exec hc _ _ _ _) (Snd.fork hc (id := 1) (by kernel_rfl) ⟨f15d1, fun x => spec_RecOk.d1 k x.1.1 x.2⟩ [[0, 1, 2, 3, 4, 5, 6, 7, 8, 9, 10, 11, 13, 12, 14, 15, 16, 17, 18], [0, 1, 2, 3, 4, 5, 6, 7, 8, 9, 10, 11, 13, 14, 15, 12, 16, 17, 18]] (by kernel_rfl) (ords_cons (fun x => by kernel_rfl) (ords_cons (fun x => by kernel_rfl) (ords_nil))))) (Snd.exec hc _ _ _ _))
    (fun x => by kernel_rfl)

def f80in : SS := ⟨[(0, (.ro (.list 126 (.st (.cons .str (.cons (.int .i64) (.cons (.int .i64) (.cons (.int .i64) .nil))))))))], []⟩
def f80out : SS := ⟨[(0, (.h 100))], [(100, (.sl 3 (.int .i64)))]⟩
def f80s4 : SS := ⟨[(0, (.ro (.list 126 (.st (.cons .str (.cons (.int .i64) (.cons (.int .i64) (.cons (.int .i64) .nil)))))))), (3, (.h 100)), (4, (.ro (.int .i64)))], [(100, (.sl 3 (.int .i64)))]⟩
def f80s3 : SS := ⟨[(0, (.ro (.list 126 (.st (.cons .str (.cons (.int .i64) (.cons (.int .i64) (.cons (.int .i64) .nil)))))))), (3, (.h 100)), (4, (.ro (.int .i64)))], [(100, (.sl 3 (.int .i64)))]⟩
def f80con (F : (List TCol) → Option (Unit × (List Int))) : Con := ⟨f80in, f80out, 1, 1, fun x => F x⟩
def f80ctx (k : Nat) : Ctx := ⟨tyAt tys, conAt [], 23, fun _ => false⟩
theorem f80hc (k : Nat) : CtxOk Try.prog (f80ctx k) := ctxOk tys_ok mixed_ok (consOk_nil)
theorem f80ok (k : Nat) : FnOk Try.prog 80 (f80con (spec_l5Leaves k)) :=
  let hc := f80hc k
  fnOk (fn := Try.f80) (code := bodyOf Try.f80) (res := [.tmp 2]) hc (by kernel_rfl) (by kernel_rfl) (by decide) (by kernel_rfl) (by kernel_rfl) (by kernel_rfl) (Nat.le_of_ble_eq_true (by kernel_rfl)) _
    (fun x => Snd.seq (by kernel_rfl) (Snd.seq (by kernel_rfl) (Snd.seq (by kernel_rfl) (Snd.exec hc _ _ _ _) (Snd.seq (by kernel_rfl) (Snd.block (id := 0) (by kernel_rfl) (Snd.loop' (by kernel_rfl) f80s3 (fun n x => spec_l5Leaves.l3 k n x.1.1 x.1.2.2 x.2) _ (fun _ => rfl) (fun n3 => Snd.seq (by kernel_rfl) (Snd.seq (by kernel_rfl) (Snd.cut (Snd.exec hc _ _ _ _) ⟨f80s4, fun x => spec_l5Leaves.c4 k (spec_l5Leaves.l3 k n3) x.1.1 x.1.2.2 x.2⟩ (fun x => by kernel_rfl)) (Snd.exec hc _ _ _ _)) (Snd.exec hc _ _ _ _)) (fun n x => by kernel_rfl) k)) (Snd.exec hc _ _ _ _))) (Snd.exec hc _ _ _ _)) (Snd.exec hc _ _ _ _))
    (fun x => by kernel_rfl)

def f19in : SS := ⟨[(0, (.ro (.list 126 (.st (.cons .str (.cons (.int .i64) (.cons (.int .i64) (.cons (.int .i64) .nil))))))))], []⟩
def f19out : SS := ⟨[(0, (.h 100))], [(100, (.sl 3 (.int .i64)))]⟩
def f19con (F : (List TCol) → Option (Unit × (List Int))) : Con := ⟨f19in, f19out, 1, 1, fun x => F x⟩
def f19ctx (k : Nat) : Ctx := ⟨tyAt tys, conAt [(17, [f17con (spec_SchemaOk k)]), (80, [f80con (spec_l5Leaves k)])], 9, fun _ => false⟩
theorem f19hc (k : Nat) : CtxOk Try.prog (f19ctx k) := ctxOk tys_ok mixed_ok (consOk_cons (f17ok k) (consOk_cons (f80ok k) (consOk_nil)))
theorem f19ok (k : Nat) : FnOk Try.prog 19 (f19con (spec_SchemaLeaves k)) :=
  let hc := f19hc k
  fnOk (fn := Try.f19) (code := bodyOf Try.f19) (res := [.tmp 2]) hc (by kernel_rfl) (by kernel_rfl) (by decide) (by kernel_rfl) (by kernel_rfl) (by kernel_rfl) (Nat.le_of_ble_eq_true (by kernel_rfl)) _
    (fun x => Snd.exec hc _ _ _ _)
    (fun x => by kernel_rfl)

def f81in : SS := ⟨[(0, (.ro (.list 126 (.st (.cons .str (.cons (.int .i64) (.cons (.int .i64) (.cons (.int .i64) .nil)))))))), (1, (.ro (.int .i64))), (2, (.ro .bool)), (3, (.ro (.list 52 (.st (.cons (.int .i64) (.cons .str .nil)))))), (4, (.ro (.int .i64))), (5, (.ro (.int .i64))), (6, (.h 10))], [(10, (.sl 52 (.st (.cons (.int .i64) (.cons .str .nil)))))]⟩
def f81out : SS := ⟨[(0, (.h 100)), (1, (.ro (.int .i64)))], [(100, (.sl 52 (.st (.cons (.int .i64) (.cons .str .nil)))))]⟩
def f81s7 : SS := ⟨[(0, (.ro (.list 126 (.st (.cons .str (.cons (.int .i64) (.cons (.int .i64) (.cons (.int .i64) .nil)))))))), (1, (.ro (.int .i64))), (3, (.ro (.list 52 (.st (.cons (.int .i64) (.cons .str .nil)))))), (4, (.ro (.int .i64))), (5, (.ro (.int .i64))), (6, (.h 100)), (16, (.ro (.int .i64))), (17, (.ro (.int .i64)))], [(100, (.sl 52 (.st (.cons (.int .i64) (.cons .str .nil)))))]⟩
def f81s14 : SS := ⟨[(0, (.ro (.list 126 (.st (.cons .str (.cons (.int .i64) (.cons (.int .i64) (.cons (.int .i64) .nil)))))))), (1, (.ro (.int .i64))), (3, (.ro (.list 52 (.st (.cons (.int .i64) (.cons .str .nil)))))), (4, (.ro (.int .i64))), (5, (.ro (.int .i64))), (6, (.h 100)), (16, (.ro (.int .i64))), (17, (.ro (.int .i64))), (18, (.ro (.int .i64))), (19, (.ro (.int .i64)))], [(100, (.sl 52 (.st (.cons (.int .i64) (.cons .str .nil)))))]⟩
def f81s11 : SS := ⟨[(0, (.ro (.list 126 (.st (.cons .str (.cons (.int .i64) (.cons (.int .i64) (.cons (.int .i64) .nil)))))))), (1, (.ro (.int .i64))), (3, (.ro (.list 52 (.st (.cons (.int .i64) (.cons .str .nil)))))), (4, (.ro (.int .i64))), (5, (.ro (.int .i64))), (6, (.h 100)), (16, (.ro (.int .i64))), (17, (.ro (.int .i64)))], [(100, (.sl 52 (.st (.cons (.int .i64) (.cons .str .nil)))))]⟩
def f81s6 : SS := ⟨[(0, (.ro (.list 126 (.st (.cons .str (.cons (.int .i64) (.cons (.int .i64) (.cons (.int .i64) .nil)))))))), (1, (.ro (.int .i64))), (3, (.ro (.list 52 (.st (.cons (.int .i64) (.cons .str .nil)))))), (4, (.ro (.int .i64))), (5, (.ro (.int .i64))), (6, (.h 100)), (16, (.ro (.int .i64))), (17, (.ro (.int .i64)))], [(100, (.sl 52 (.st (.cons (.int .i64) (.cons .str .nil)))))]⟩
def f81s5 : SS := ⟨[(0, (.ro (.list 126 (.st (.cons .str (.cons (.int .i64) (.cons (.int .i64) (.cons (.int .i64) .nil)))))))), (1, (.ro (.int .i64))), (3, (.ro (.list 52 (.st (.cons (.int .i64) (.cons .str .nil)))))), (4, (.ro (.int .i64))), (5, (.ro (.int .i64))), (6, (.h 10)), (16, (.ro (.int .i64)))], [(10, (.sl 52 (.st (.cons (.int .i64) (.cons .str .nil)))))]⟩
def f81con (F : (List TCol) → Int → Bool → (List TVal) → Int → Int → (List TVal) → Option ((Unit × Int) × (List TVal))) : Con := ⟨f81in, f81out, 7, 2, fun x => F x.1.1 x.1.2.1 x.1.2.2.1 x.1.2.2.2.1 x.1.2.2.2.2.1 x.1.2.2.2.2.2.1 x.2⟩
def f81ctx (k : Nat) (S81 : (List TCol) → Int → Bool → (List TVal) → Int → Int → (List TVal) → Option ((Unit × Int) × (List TVal))) : Ctx := ⟨tyAt tys, conAt [(81, [f81con S81]), (144, [f144con (spec_l5After k)])], 86, fun _ => false⟩
theorem f81hc (k : Nat) (S81 : (List TCol) → Int → Bool → (List TVal) → Int → Int → (List TVal) → Option ((Unit × Int) × (List TVal))) (h81 : FnOk Try.prog 81 (f81con S81)) : CtxOk Try.prog (f81ctx k S81) := ctxOk tys_ok mixed_ok (consOk_cons (h81) (consOk_cons (f144ok k) (consOk_nil)))
theorem f81okb (k : Nat) (S81 : (List TCol) → Int → Bool → (List TVal) → Int → Int → (List TVal) → Option ((Unit × Int) × (List TVal))) (h81 : FnOk Try.prog 81 (f81con S81)) : FnOk Try.prog 81 (f81con (spec_l13Values.b k S81)) :=
  let hc := f81hc k S81 h81
  fnOk (fn := Try.f81) (code := bodyOf Try.f81) (res := [.tmp 14, .tmp 15]) hc (by kernel_rfl) (by kernel_rfl) (by decide) (by kernel_rfl) (by kernel_rfl) (by kernel_rfl) (Nat.le_of_ble_eq_true (by kernel_rfl)) _
    (fun x => Snd.seq (by kernel_rfl) (Snd.seq (by kernel_rfl) (Snd.seq (by kernel_rfl) (Snd.cut (Snd.seq (by kernel_rfl) (Snd.exec hc _ _ _ _) (Snd.seq (by kernel_rfl) (Snd.block (id := 0) (by kernel_rfl) (Snd.loop' (by kernel_rfl) f81s6 (fun n x => spec_l13Values.l6 k S81 n x.1.1 x.1.2.1 x.1.2.2.1 x.1.2.2.2.1 x.1.2.2.2.2.1 x.1.2.2.2.2.2.2.1 x.1.2.2.2.2.2.2.2 x.2) _ (fun _ => rfl) (fun n6 => Snd.seq (by kernel_rfl) (Snd.seq (by kernel_rfl) (Snd.cut (Snd.exec hc _ _ _ _) ⟨f81s7, fun x => spec_l13Values.c7 k (spec_l13Values.l6 k S81 n6) x.1.1 x.1.2.1 x.1.2.2.1 x.1.2.2.2.1 x.1.2.2.2.2.1 x.1.2.2.2.2.2.2.1 x.1.2.2.2.2.2.2.2 x.2⟩ (fun x => by kernel_rfl)) (Snd.block (id := 1) (by kernel_rfl) (Snd.seq (by kernel_rfl) (Snd.seq (by kernel_rfl) (Snd.seq (by kernel_rfl) (Snd.block (id := 2) (by kernel_rfl) (Snd.loop' (by kernel_rfl) f81s14 (fun n x => spec_l13Values.l14 k S81 (spec_l13Values.l6 k S81 n6) n x.1.1 x.1.2.1 x.1.2.2.1 x.1.2.2.2.1 x.1.2.2.2.2.1 x.1.2.2.2.2.2.2.1 x.1.2.2.2.2.2.2.2.1 x.1.2.2.2.2.2.2.2.2.1 x.1.2.2.2.2.2.2.2.2.2 x.2) _ (fun _ => rfl) (fun n14 => Snd.exec hc _ _ _ _) (fun n x => by kernel_rfl) k)) (Snd.exec hc _ _ _ _)) (Snd.exec hc _ _ _ _)) (Snd.seq (by kernel_rfl) (Snd.cond (x := .tmp 47) (by kernel_rfl) (Snd.seq (by kernel_rfl) (Snd.cut (Snd.exec hc _ _ _ _) ⟨f81s11, fun x => spec_l13Values.c11 k (spec_l13Values.l6 k S81 n6) x.1.1 x.1.2.1 x.1.2.2.1 x.1.2.2.2.1 x.1.2.2.2.2.1 x.1.2.2.2.2.2.2.1 x.1.2.2.2.2.2.2.2 x.2⟩ (fun x => by kernel_rfl)) (Snd.exec hc _ _ _ _)) (Snd.exec hc _ _ _ _)) (Snd.exec hc _ _ _ _))))) (Snd.exec hc _ _ _ _)) (fun n x => by kernel_rfl) k)) (Snd.exec hc _ _ _ _))) ⟨f81s5, fun x => spec_l13Values.c5 k S81 x.1.1 x.1.2.1 x.1.2.2.1 x.1.2.2.2.1 x.1.2.2.2.2.1 x.1.2.2.2.2.2.2 x.2⟩ (fun x => by kernel_rfl)) (Snd.exec hc _ _ _ _)) (Snd.exec hc _ _ _ _)) (Snd.exec hc _ _ _ _))
    (fun x => by kernel_rfl)
theorem f81rec (k : Nat) : ∀ d, FnOk Try.prog 81 (f81con (spec_l13Values.d k d))
  | 0 => FnOk_none (fun _ => rfl)
  | d + 1 => let ih := f81rec k d
    f81okb k (spec_l13Values.d k d) ih
theorem f81ok (k : Nat) : FnOk Try.prog 81 (f81con (spec_l13Values k)) := (f81rec k k)

def f20in : SS := ⟨[(0, (.ro (.list 126 (.st (.cons .str (.cons (.int .i64) (.cons (.int .i64) (.cons (.int .i64) .nil)))))))), (1, (.ro (.st (.cons (.list 52 (.st (.cons (.int .i64) (.cons .str .nil)))) .nil)))), (2, (.ro (.int .i64)))], []⟩
def f20out : SS := ⟨[(0, (.h 100)), (1, (.ro .bool))], [(100, (.sl 52 (.st (.cons (.int .i64) (.cons .str .nil)))))]⟩
def f20con (F : (List TCol) → TRec → Int → Option ((Unit × Bool) × (List TVal))) : Con := ⟨f20in, f20out, 3, 2, fun x => F x.1 x.2.1 x.2.2⟩
def f20ctx (k : Nat) : Ctx := ⟨tyAt tys, conAt [(15, [f15con (spec_RecOk k)]), (19, [f19con (spec_SchemaLeaves k)]), (74, [f74con (spec_l1In k)]), (81, [f81con (spec_l13Values k)])], 39, fun _ => false⟩
theorem f20hc (k : Nat) : CtxOk Try.prog (f20ctx k) := ctxOk tys_ok mixed_ok (consOk_cons (f15ok k) (consOk_cons (f19ok k) (consOk_cons (f74ok k) (consOk_cons (f81ok k) (consOk_nil)))))
theorem f20ok (k : Nat) : FnOk Try.prog 20 (f20con (spec_RecValues k)) :=
  let hc := f20hc k
  fnOk (fn := Try.f20) (code := bodyOf Try.f20) (res := [.tmp 6, .tmp 7]) hc (by kernel_rfl) (by kernel_rfl) (by decide) (by kernel_rfl) (by kernel_rfl) (by kernel_rfl) (Nat.le_of_ble_eq_true (by kernel_rfl)) _
    (fun x => Snd.exec hc _ _ _ _)
    (fun x => by kernel_rfl)

def f147in : SS := ⟨[(0, (.ro (.list 126 (.st (.cons .str (.cons (.int .i64) (.cons (.int .i64) (.cons (.int .i64) .nil)))))))), (1, (.ro (.int .i64)))], []⟩
def f147out : SS := ⟨[(0, (.h 100))], [(100, (.sl 3 (.int .i64)))]⟩
def f147s4 : SS := ⟨[(0, (.ro (.list 126 (.st (.cons .str (.cons (.int .i64) (.cons (.int .i64) (.cons (.int .i64) .nil)))))))), (1, (.ro (.int .i64))), (5, (.h 100)), (6, (.ro (.int .i64)))], [(100, (.sl 3 (.int .i64)))]⟩
def f147s3 : SS := ⟨[(0, (.ro (.list 126 (.st (.cons .str (.cons (.int .i64) (.cons (.int .i64) (.cons (.int .i64) .nil)))))))), (1, (.ro (.int .i64))), (5, (.h 100)), (6, (.ro (.int .i64)))], [(100, (.sl 3 (.int .i64)))]⟩
def f147con (F : (List TCol) → Int → Option (Unit × (List Int))) : Con := ⟨f147in, f147out, 2, 1, fun x => F x.1 x.2⟩
def f147ctx (k : Nat) : Ctx := ⟨tyAt tys, conAt [(144, [f144con (spec_l5After k)])], 23, fun _ => false⟩
theorem f147hc (k : Nat) : CtxOk Try.prog (f147ctx k) := ctxOk tys_ok mixed_ok (consOk_cons (f144ok k) (consOk_nil))
theorem f147ok (k : Nat) : FnOk Try.prog 147 (f147con (spec_l5Way k)) :=
  let hc := f147hc k
  fnOk (fn := Try.f147) (code := bodyOf Try.f147) (res := [.tmp 4]) hc (by kernel_rfl) (by kernel_rfl) (by decide) (by kernel_rfl) (by kernel_rfl) (by kernel_rfl) (Nat.le_of_ble_eq_true (by kernel_rfl)) _
    (fun x => Snd.seq (by kernel_rfl) (Snd.seq (by kernel_rfl) (Snd.seq (by kernel_rfl) (Snd.exec hc _ _ _ _) (Snd.seq (by kernel_rfl) (Snd.block (id := 0) (by kernel_rfl) (Snd.loop' (by kernel_rfl) f147s3 (fun n x => spec_l5Way.l3 k n x.1.1 x.1.2.1 x.1.2.2.2 x.2) _ (fun _ => rfl) (fun n3 => Snd.seq (by kernel_rfl) (Snd.seq (by kernel_rfl) (Snd.cut (Snd.exec hc _ _ _ _) ⟨f147s4, fun x => spec_l5Way.c4 k (spec_l5Way.l3 k n3) x.1.1 x.1.2.1 x.1.2.2.2 x.2⟩ (fun x => by kernel_rfl)) (Snd.exec hc _ _ _ _)) (Snd.exec hc _ _ _ _)) (fun n x => by kernel_rfl) k)) (Snd.exec hc _ _ _ _))) (Snd.exec hc _ _ _ _)) (Snd.exec hc _ _ _ _))
    (fun x => by kernel_rfl)

def f82in : SS := ⟨[(0, (.ro (.list 126 (.st (.cons .str (.cons (.int .i64) (.cons (.int .i64) (.cons (.int .i64) .nil)))))))), (1, (.ro (.int .i64)))], []⟩
def f82out : SS := ⟨[(0, (.ro (.int .i64))), (1, (.ro (.int .i64)))], []⟩
def f82s5 : SS := ⟨[(0, (.ro (.list 126 (.st (.cons .str (.cons (.int .i64) (.cons (.int .i64) (.cons (.int .i64) .nil)))))))), (6, (.ro (.int .i64))), (7, (.ro (.int .i64))), (8, (.h 100)), (9, (.ro (.int .i64)))], [(100, (.sl 3 (.int .i64)))]⟩
def f82s8 : SS := ⟨[(0, (.ro (.list 126 (.st (.cons .str (.cons (.int .i64) (.cons (.int .i64) (.cons (.int .i64) .nil)))))))), (6, (.ro (.int .i64))), (7, (.ro (.int .i64))), (8, (.h 100)), (9, (.ro (.int .i64)))], [(100, (.sl 3 (.int .i64)))]⟩
def f82s4 : SS := ⟨[(0, (.ro (.list 126 (.st (.cons .str (.cons (.int .i64) (.cons (.int .i64) (.cons (.int .i64) .nil)))))))), (6, (.ro (.int .i64))), (7, (.ro (.int .i64))), (8, (.h 100)), (9, (.ro (.int .i64)))], [(100, (.sl 3 (.int .i64)))]⟩
def f82con (F : (List TCol) → Int → Option (Int × Int)) : Con := ⟨f82in, f82out, 2, 2, fun x => F x.1 x.2⟩
def f82ctx (k : Nat) : Ctx := ⟨tyAt tys, conAt [(147, [f147con (spec_l5Way k)])], 43, fun _ => false⟩
theorem f82hc (k : Nat) : CtxOk Try.prog (f82ctx k) := ctxOk tys_ok mixed_ok (consOk_cons (f147ok k) (consOk_nil))
theorem f82ok (k : Nat) : FnOk Try.prog 82 (f82con (spec_l5Max k)) :=
  let hc := f82hc k
  fnOk (fn := Try.f82) (code := bodyOf Try.f82) (res := [.tmp 4, .tmp 5]) hc (by kernel_rfl) (by kernel_rfl) (by decide) (by kernel_rfl) (by kernel_rfl) (by kernel_rfl) (Nat.le_of_ble_eq_true (by kernel_rfl)) _
    (fun x => Snd.seq (by kernel_rfl) (Snd.seq (by kernel_rfl) (Snd.seq (by kernel_rfl) (Snd.seq (by kernel_rfl) (Snd.exec hc _ _ _ _) (Snd.seq (by kernel_rfl) (Snd.block (id := 0) (by kernel_rfl) (Snd.loop' (by kernel_rfl) f82s4 (fun n x => spec_l5Max.l4 k n x.1.1 x.1.2.1 x.1.2.2.1 x.1.2.2.2.2 x.2) _ (fun _ => rfl) (fun n4 => Snd.seq (by kernel_rfl) (Snd.seq (by kernel_rfl) (Snd.cut (Snd.exec hc _ _ _ _) ⟨f82s5, fun x => spec_l5Max.c5 k (spec_l5Max.l4 k n4) x.1.1 x.1.2.1 x.1.2.2.1 x.1.2.2.2.2 x.2⟩ (fun x => by kernel_rfl)) (Snd.block (id := 1) (by kernel_rfl) (Snd.seq (by kernel_rfl) (Snd.cut (Snd.exec hc _ _ _ _) ⟨f82s8, fun x => spec_l5Max.c8 k (spec_l5Max.l4 k n4) x.1.1 x.1.2.1 x.1.2.2.1 x.1.2.2.2.2 x.2⟩ (fun x => by kernel_rfl)) (Snd.exec hc _ _ _ _)))) (Snd.exec hc _ _ _ _)) (fun n x => by kernel_rfl) k)) (Snd.exec hc _ _ _ _))) (Snd.exec hc _ _ _ _)) (Snd.exec hc _ _ _ _)) (Snd.exec hc _ _ _ _))
    (fun x => by kernel_rfl)

def f21in : SS := ⟨[(0, (.ro (.list 126 (.st (.cons .str (.cons (.int .i64) (.cons (.int .i64) (.cons (.int .i64) .nil)))))))), (1, (.ro (.int .i64)))], []⟩
def f21out : SS := ⟨[(0, (.ro (.int .i64))), (1, (.ro (.int .i64)))], []⟩
def f21con (F : (List TCol) → Int → Option (Int × Int)) : Con := ⟨f21in, f21out, 2, 2, fun x => F x.1 x.2⟩
def f21ctx (k : Nat) : Ctx := ⟨tyAt tys, conAt [(19, [f19con (spec_SchemaLeaves k)]), (74, [f74con (spec_l1In k)]), (82, [f82con (spec_l5Max k)])], 28, fun _ => false⟩
theorem f21hc (k : Nat) : CtxOk Try.prog (f21ctx k) := ctxOk tys_ok mixed_ok (consOk_cons (f19ok k) (consOk_cons (f74ok k) (consOk_cons (f82ok k) (consOk_nil))))
theorem f21ok (k : Nat) : FnOk Try.prog 21 (f21con (spec_LeafMax k)) :=
  let hc := f21hc k
  fnOk (fn := Try.f21) (code := bodyOf Try.f21) (res := [.tmp 4, .tmp 5]) hc (by kernel_rfl) (by kernel_rfl) (by decide) (by kernel_rfl) (by kernel_rfl) (by kernel_rfl) (Nat.le_of_ble_eq_true (by kernel_rfl)) _
    (fun x => Snd.exec hc _ _ _ _)
    (fun x => by kernel_rfl)

def f84in : SS := ⟨[(0, (.ro (.list 5 (.int .u8))))], []⟩
def f84out : SS := ⟨[(0, (.p 100))], [(100, (.box (.st (.cons (.list 5 (.int .u8)) (.cons (.int .i64) (.cons (.int .i64) .nil)))) (.agg (.cons (.ro (.list 5 (.int .u8))) (.cons (.ro (.int .i64)) (.cons (.ro (.int .i64)) .nil))))))]⟩
def f84s3 : SS := ⟨[(0, (.ro (.list 5 (.int .u8)))), (3, (.ro (.int .i64))), (4, (.ro (.int .i64)))], []⟩
def f84con (F : (List Int) → Option (Unit × TL1Cur)) : Con := ⟨f84in, f84out, 1, 1, fun x => F x⟩
def f84ctx (k : Nat) : Ctx := ⟨tyAt tys, conAt [], 32, fun _ => false⟩
theorem f84hc (k : Nat) : CtxOk Try.prog (f84ctx k) := ctxOk tys_ok mixed_ok (consOk_nil)
theorem f84ok (k : Nat) : FnOk Try.prog 84 (f84con (spec_l1New k)) :=
  let hc := f84hc k
  fnOk (fn := Try.f84) (code := bodyOf Try.f84) (res := [.tmp 2]) hc (by kernel_rfl) (by kernel_rfl) (by decide) (by kernel_rfl) (by kernel_rfl) (by kernel_rfl) (Nat.le_of_ble_eq_true (by kernel_rfl)) _
    (fun x => Snd.seq (by kernel_rfl) (Snd.seq (by kernel_rfl) (Snd.seq (by kernel_rfl) (Snd.exec hc _ _ _ _) (Snd.seq (by kernel_rfl) (Snd.block (id := 0) (by kernel_rfl) (Snd.loop' (by kernel_rfl) f84s3 (fun n x => spec_l1New.l3 k n x.1 x.2.1 x.2.2) _ (fun _ => rfl) (fun n3 => Snd.exec hc _ _ _ _) (fun n x => by kernel_rfl) k)) (Snd.exec hc _ _ _ _))) (Snd.exec hc _ _ _ _)) (Snd.exec hc _ _ _ _))
    (fun x => by kernel_rfl)

def f105in : SS := ⟨[(0, (.p 0))], [(0, (.box (.st (.cons (.list 5 (.int .u8)) (.cons (.int .i64) (.cons (.int .i64) .nil)))) (.agg (.cons (.ro (.list 5 (.int .u8))) (.cons (.ro (.int .i64)) (.cons (.ro (.int .i64)) .nil))))))]⟩
def f105out : SS := ⟨[(0, (.ro (.int .i64)))], [(0, (.box (.st (.cons (.list 5 (.int .u8)) (.cons (.int .i64) (.cons (.int .i64) .nil)))) (.agg (.cons (.ro (.list 5 (.int .u8))) (.cons (.ro (.int .i64)) (.cons (.ro (.int .i64)) .nil))))))]⟩
def f105s6 : SS := ⟨[(3, (.ro (.int .i64)))], [(0, (.box (.st (.cons (.list 5 (.int .u8)) (.cons (.int .i64) (.cons (.int .i64) .nil)))) (.agg (.cons (.ro (.list 5 (.int .u8))) (.cons (.ro (.int .i64)) (.cons (.ro (.int .i64)) .nil))))))]⟩
def f105con (F : TL1Cur → Option (Int × TL1Cur)) : Con := ⟨f105in, f105out, 1, 1, fun x => F x.2⟩
def f105ctx (k : Nat) : Ctx := ⟨tyAt tys, conAt [], 58, fun _ => false⟩
theorem f105hc (k : Nat) : CtxOk Try.prog (f105ctx k) := ctxOk tys_ok mixed_ok (consOk_nil)
theorem f105ok (k : Nat) : FnOk Try.prog 105 (f105con (spec_l1Byte k)) :=
  let hc := f105hc k
  fnOk (fn := Try.f105) (code := bodyOf Try.f105) (res := [.tmp 2]) hc (by kernel_rfl) (by kernel_rfl) (by decide) (by kernel_rfl) (by kernel_rfl) (by kernel_rfl) (Nat.le_of_ble_eq_true (by kernel_rfl)) _
    (fun x => Snd.seq (by kernel_rfl) (Snd.seq (by kernel_rfl) (Snd.seq (by kernel_rfl) (Snd.seq (by kernel_rfl) (Snd.cut (Snd.exec hc _ _ _ _) ⟨f105s6, fun x => spec_l1Byte.c6 k x.1 x.2⟩ (fun x => by kernel_rfl)) (Snd.exec hc _ _ _ _)) (Snd.exec hc _ _ _ _)) (Snd.exec hc _ _ _ _)) (Snd.exec hc _ _ _ _))
    (fun x => by kernel_rfl)

def f87in : SS := ⟨[(0, (.p 0)), (1, (.ro (.int .i64)))], [(0, (.box (.st (.cons (.list 5 (.int .u8)) (.cons (.int .i64) (.cons (.int .i64) .nil)))) (.agg (.cons (.ro (.list 5 (.int .u8))) (.cons (.ro (.int .i64)) (.cons (.ro (.int .i64)) .nil))))))]⟩
def f87out : SS := ⟨[(0, (.ro (.int .i64)))], [(0, (.box (.st (.cons (.list 5 (.int .u8)) (.cons (.int .i64) (.cons (.int .i64) .nil)))) (.agg (.cons (.ro (.list 5 (.int .u8))) (.cons (.ro (.int .i64)) (.cons (.ro (.int .i64)) .nil))))))]⟩
def f87con (F : Int → TL1Cur → Option (Int × TL1Cur)) : Con := ⟨f87in, f87out, 2, 1, fun x => F x.1.2 x.2⟩
def f87ctx (k : Nat) : Ctx := ⟨tyAt tys, conAt [(105, [f105con (spec_l1Byte k)])], 37, fun _ => false⟩
theorem f87hc (k : Nat) : CtxOk Try.prog (f87ctx k) := ctxOk tys_ok mixed_ok (consOk_cons (f105ok k) (consOk_nil))
theorem f87ok (k : Nat) : FnOk Try.prog 87 (f87con (spec_l1Below k)) :=
  let hc := f87hc k
  fnOk (fn := Try.f87) (code := bodyOf Try.f87) (res := [.tmp 4]) hc (by kernel_rfl) (by kernel_rfl) (by decide) (by kernel_rfl) (by kernel_rfl) (by kernel_rfl) (Nat.le_of_ble_eq_true (by kernel_rfl)) _
    (fun x => Snd.exec hc _ _ _ _)
    (fun x => by kernel_rfl)

def f106in : SS := ⟨[(0, (.p 0)), (1, (.ro (.list 3 (.int .i64))))], [(0, (.box (.st (.cons (.list 5 (.int .u8)) (.cons (.int .i64) (.cons (.int .i64) .nil)))) (.agg (.cons (.ro (.list 5 (.int .u8))) (.cons (.ro (.int .i64)) (.cons (.ro (.int .i64)) .nil))))))]⟩
def f106out : SS := ⟨[(0, (.ro (.int .i64)))], [(0, (.box (.st (.cons (.list 5 (.int .u8)) (.cons (.int .i64) (.cons (.int .i64) .nil)))) (.agg (.cons (.ro (.list 5 (.int .u8))) (.cons (.ro (.int .i64)) (.cons (.ro (.int .i64)) .nil))))))]⟩
def f106con (F : (List Int) → TL1Cur → Option (Int × TL1Cur)) : Con := ⟨f106in, f106out, 2, 1, fun x => F x.1.2 x.2⟩
def f106ctx (k : Nat) : Ctx := ⟨tyAt tys, conAt [(87, [f87con (spec_l1Below k)])], 12, fun _ => false⟩
theorem f106hc (k : Nat) : CtxOk Try.prog (f106ctx k) := ctxOk tys_ok mixed_ok (consOk_cons (f87ok k) (consOk_nil))
theorem f106ok (k : Nat) : FnOk Try.prog 106 (f106con (spec_l1PickInt k)) :=
  let hc := f106hc k
  fnOk (fn := Try.f106) (code := bodyOf Try.f106) (res := [.tmp 4]) hc (by kernel_rfl) (by kernel_rfl) (by decide) (by kernel_rfl) (by kernel_rfl) (by kernel_rfl) (Nat.le_of_ble_eq_true (by kernel_rfl)) _
    (fun x => Snd.exec hc _ _ _ _)
    (fun x => by kernel_rfl)

def f138in : SS := ⟨[(0, (.p 0)), (1, (.ro (.int .i64)))], [(0, (.box (.st (.cons (.list 5 (.int .u8)) (.cons (.int .i64) (.cons (.int .i64) .nil)))) (.agg (.cons (.ro (.list 5 (.int .u8))) (.cons (.ro (.int .i64)) (.cons (.ro (.int .i64)) .nil))))))]⟩
def f138out : SS := ⟨[(0, (.ro .bool))], [(0, (.box (.st (.cons (.list 5 (.int .u8)) (.cons (.int .i64) (.cons (.int .i64) .nil)))) (.agg (.cons (.ro (.list 5 (.int .u8))) (.cons (.ro (.int .i64)) (.cons (.ro (.int .i64)) .nil))))))]⟩
def f138con (F : Int → TL1Cur → Option (Bool × TL1Cur)) : Con := ⟨f138in, f138out, 2, 1, fun x => F x.1.2 x.2⟩
def f138ctx (k : Nat) : Ctx := ⟨tyAt tys, conAt [(87, [f87con (spec_l1Below k)])], 9, fun _ => false⟩
theorem f138hc (k : Nat) : CtxOk Try.prog (f138ctx k) := ctxOk tys_ok mixed_ok (consOk_cons (f87ok k) (consOk_nil))
theorem f138ok (k : Nat) : FnOk Try.prog 138 (f138con (spec_l1Once k)) :=
  let hc := f138hc k
  fnOk (fn := Try.f138) (code := bodyOf Try.f138) (res := [.tmp 4]) hc (by kernel_rfl) (by kernel_rfl) (by decide) (by kernel_rfl) (by kernel_rfl) (by kernel_rfl) (Nat.le_of_ble_eq_true (by kernel_rfl)) _
    (fun x => Snd.exec hc _ _ _ _)
    (fun x => by kernel_rfl)

def f148in : SS := ⟨[(0, (.p 0)), (1, (.ro .str)), (2, (.ro (.int .i64))), (3, (.h 10))], [(0, (.box (.st (.cons (.list 5 (.int .u8)) (.cons (.int .i64) (.cons (.int .i64) .nil)))) (.agg (.cons (.ro (.list 5 (.int .u8))) (.cons (.ro (.int .i64)) (.cons (.ro (.int .i64)) .nil)))))), (10, (.sl 126 (.st (.cons .str (.cons (.int .i64) (.cons (.int .i64) (.cons (.int .i64) .nil)))))))]⟩
def f148out : SS := ⟨[(0, (.h 100))], [(0, (.box (.st (.cons (.list 5 (.int .u8)) (.cons (.int .i64) (.cons (.int .i64) .nil)))) (.agg (.cons (.ro (.list 5 (.int .u8))) (.cons (.ro (.int .i64)) (.cons (.ro (.int .i64)) .nil)))))), (100, (.sl 126 (.st (.cons .str (.cons (.int .i64) (.cons (.int .i64) (.cons (.int .i64) .nil)))))))]⟩
def f148s13 : SS := ⟨[(0, (.p 0)), (2, (.ro (.int .i64))), (3, (.h 100)), (11, (.ro (.int .i64))), (12, (.ro (.int .i64)))], [(0, (.box (.st (.cons (.list 5 (.int .u8)) (.cons (.int .i64) (.cons (.int .i64) .nil)))) (.agg (.cons (.ro (.list 5 (.int .u8))) (.cons (.ro (.int .i64)) (.cons (.ro (.int .i64)) .nil)))))), (100, (.sl 126 (.st (.cons .str (.cons (.int .i64) (.cons (.int .i64) (.cons (.int .i64) .nil)))))))]⟩
def f148s12 : SS := ⟨[(0, (.p 0)), (2, (.ro (.int .i64))), (3, (.h 100)), (11, (.ro (.int .i64)))], [(0, (.box (.st (.cons (.list 5 (.int .u8)) (.cons (.int .i64) (.cons (.int .i64) .nil)))) (.agg (.cons (.ro (.list 5 (.int .u8))) (.cons (.ro (.int .i64)) (.cons (.ro (.int .i64)) .nil)))))), (100, (.sl 126 (.st (.cons .str (.cons (.int .i64) (.cons (.int .i64) (.cons (.int .i64) .nil)))))))]⟩
def f148s4 : SS := ⟨[(0, (.p 0)), (1, (.ro .str)), (2, (.ro (.int .i64))), (3, (.h 10)), (9, (.p 100))], [(0, (.box (.st (.cons (.list 5 (.int .u8)) (.cons (.int .i64) (.cons (.int .i64) .nil)))) (.agg (.cons (.ro (.list 5 (.int .u8))) (.cons (.ro (.int .i64)) (.cons (.ro (.int .i64)) .nil)))))), (10, (.sl 126 (.st (.cons .str (.cons (.int .i64) (.cons (.int .i64) (.cons (.int .i64) .nil))))))), (100, (.box (.st (.cons .str (.cons (.int .i64) (.cons (.int .i64) (.cons (.int .i64) .nil))))) (.agg (.cons (.ro .str) (.cons (.ro (.int .i64)) (.cons (.ro (.int .i64)) (.cons (.ro (.int .i64)) .nil)))))))]⟩
def f148con (F : ByteArray → Int → TL1Cur → (List TCol) → Option (Unit × TL1Cur × (List TCol))) : Con := ⟨f148in, f148out, 4, 1, fun x => F x.1.2.1 x.1.2.2.1 x.2.1 x.2.2⟩
def f148ctx (k : Nat) (S148 : ByteArray → Int → TL1Cur → (List TCol) → Option (Unit × TL1Cur × (List TCol))) : Ctx := ⟨tyAt tys, conAt [(87, [f87con (spec_l1Below k)]), (106, [f106con (spec_l1PickInt k)]), (138, [f138con (spec_l1Once k)]), (148, [f148con S148])], 75, fun s => Nat.beq s 22 || Nat.beq s 25⟩
theorem f148hc (k : Nat) (S148 : ByteArray → Int → TL1Cur → (List TCol) → Option (Unit × TL1Cur × (List TCol))) (h148 : FnOk Try.prog 148 (f148con S148)) : CtxOk Try.prog (f148ctx k S148) := ctxOk tys_ok mixed_ok (consOk_cons (f87ok k) (consOk_cons (f106ok k) (consOk_cons (f138ok k) (consOk_cons (h148) (consOk_nil)))))
theorem f148okb (k : Nat) (S148 : ByteArray → Int → TL1Cur → (List TCol) → Option (Unit × TL1Cur × (List TCol))) (h148 : FnOk Try.prog 148 (f148con S148)) : FnOk Try.prog 148 (f148con (spec_l5DrawCol.b k S148)) :=
  let hc := f148hc k S148 h148
  fnOk (fn := Try.f148) (code := bodyOf Try.f148) (res := [.tmp 8]) hc (by kernel_rfl) (by kernel_rfl) (by decide) (by kernel_rfl) (by kernel_rfl) (by kernel_rfl) (Nat.le_of_ble_eq_true (by kernel_rfl)) _
    (fun x => Snd.seq (by kernel_rfl) (Snd.seq (by kernel_rfl) (Snd.seq (by kernel_rfl) (Snd.cut (Snd.seq (by kernel_rfl) (Snd.seq (by kernel_rfl) (Snd.seq (by kernel_rfl) (Snd.seq (by kernel_rfl) (Snd.seq (by kernel_rfl) (Snd.seq (by kernel_rfl) (Snd.cut (Snd.seq (by kernel_rfl) (Snd.exec hc _ _ _ _) (Snd.seq (by kernel_rfl) (Snd.block (id := 0) (by kernel_rfl) (Snd.loop' (by kernel_rfl) f148s13 (fun n x => spec_l5DrawCol.l13 k S148 n x.1.2.1 x.1.2.2.2.1 x.1.2.2.2.2 x.2.1 x.2.2) _ (fun _ => rfl) (fun n13 => Snd.exec hc _ _ _ _) (fun n x => by kernel_rfl) k)) (Snd.exec hc _ _ _ _))) ⟨f148s12, fun x => spec_l5DrawCol.c12 k S148 x.1.2.1 x.1.2.2.2 x.2.1 x.2.2⟩ (fun x => by kernel_rfl)) (Snd.exec hc _ _ _ _)) (Snd.exec hc _ _ _ _)) (Snd.exec hc _ _ _ _)) (Snd.exec hc _ _ _ _)) (Snd.exec hc _ _ _ _)) (Snd.exec hc _ _ _ _)) ⟨f148s4, fun x => spec_l5DrawCol.c4 k S148 x.1.2.1 x.1.2.2.1 x.2.1 x.2.2.1 x.2.2.2⟩ (fun x => by kernel_rfl)) (Snd.exec hc _ _ _ _)) (Snd.exec hc _ _ _ _)) (Snd.exec hc _ _ _ _))
    (fun x => by kernel_rfl)
theorem f148rec (k : Nat) : ∀ d, FnOk Try.prog 148 (f148con (spec_l5DrawCol.d k d))
  | 0 => FnOk_none (fun _ => rfl)
  | d + 1 => let ih := f148rec k d
    f148okb k (spec_l5DrawCol.d k d) ih
theorem f148ok (k : Nat) : FnOk Try.prog 148 (f148con (spec_l5DrawCol k)) := (f148rec k k)

def f85in : SS := ⟨[(0, (.p 0))], [(0, (.box (.st (.cons (.list 5 (.int .u8)) (.cons (.int .i64) (.cons (.int .i64) .nil)))) (.agg (.cons (.ro (.list 5 (.int .u8))) (.cons (.ro (.int .i64)) (.cons (.ro (.int .i64)) .nil))))))]⟩
def f85out : SS := ⟨[(0, (.h 100))], [(0, (.box (.st (.cons (.list 5 (.int .u8)) (.cons (.int .i64) (.cons (.int .i64) .nil)))) (.agg (.cons (.ro (.list 5 (.int .u8))) (.cons (.ro (.int .i64)) (.cons (.ro (.int .i64)) .nil)))))), (100, (.sl 126 (.st (.cons .str (.cons (.int .i64) (.cons (.int .i64) (.cons (.int .i64) .nil)))))))]⟩
def f85s2 : SS := ⟨[(0, (.p 0)), (3, (.ro (.int .i64)))], [(0, (.box (.st (.cons (.list 5 (.int .u8)) (.cons (.int .i64) (.cons (.int .i64) .nil)))) (.agg (.cons (.ro (.list 5 (.int .u8))) (.cons (.ro (.int .i64)) (.cons (.ro (.int .i64)) .nil))))))]⟩
def f85con (F : TL1Cur → Option (Unit × TL1Cur × (List TCol))) : Con := ⟨f85in, f85out, 1, 1, fun x => F x.2⟩
def f85ctx (k : Nat) : Ctx := ⟨tyAt tys, conAt [(17, [f17con (spec_SchemaOk k)]), (87, [f87con (spec_l1Below k)]), (148, [f148con (spec_l5DrawCol k)])], 21, fun _ => false⟩
theorem f85hc (k : Nat) : CtxOk Try.prog (f85ctx k) := ctxOk tys_ok mixed_ok (consOk_cons (f17ok k) (consOk_cons (f87ok k) (consOk_cons (f148ok k) (consOk_nil))))
theorem f85ok (k : Nat) : FnOk Try.prog 85 (f85con (spec_l5DrawRight k)) :=
  let hc := f85hc k
  fnOk (fn := Try.f85) (code := bodyOf Try.f85) (res := [.tmp 2]) hc (by kernel_rfl) (by kernel_rfl) (by decide) (by kernel_rfl) (by kernel_rfl) (by kernel_rfl) (Nat.le_of_ble_eq_true (by kernel_rfl)) _
    (fun x => Snd.seq (by kernel_rfl) (Snd.seq (by kernel_rfl) (Snd.exec hc _ _ _ _) (Snd.seq (by kernel_rfl) (Snd.block (id := 0) (by kernel_rfl) (Snd.loop' (by kernel_rfl) f85s2 (fun n x => spec_l5DrawRight.l2 k n x.1.2 x.2) _ (fun _ => rfl) (fun n2 => Snd.exec hc _ _ _ _) (fun n x => by kernel_rfl) k)) (Snd.exec hc _ _ _ _))) (Snd.exec hc _ _ _ _))
    (fun x => by kernel_rfl)

def f150in : SS := ⟨[(0, (.ro (.list 126 (.st (.cons .str (.cons (.int .i64) (.cons (.int .i64) (.cons (.int .i64) .nil)))))))), (1, (.ro (.int .i64)))], []⟩
def f150out : SS := ⟨[(0, (.h 100))], [(100, (.sl 52 (.st (.cons (.int .i64) (.cons .str .nil)))))]⟩
def f150s6 : SS := ⟨[(0, (.ro (.list 126 (.st (.cons .str (.cons (.int .i64) (.cons (.int .i64) (.cons (.int .i64) .nil)))))))), (1, (.ro (.int .i64))), (5, (.h 100)), (6, (.ro (.int .i64))), (7, (.ro (.int .i64)))], [(100, (.sl 52 (.st (.cons (.int .i64) (.cons .str .nil)))))]⟩
def f150con (F : (List TCol) → Int → Option (Unit × (List TVal))) : Con := ⟨f150in, f150out, 2, 1, fun x => F x.1 x.2⟩
def f150ctx (k : Nat) (S150 : (List TCol) → Int → Option (Unit × (List TVal))) : Ctx := ⟨tyAt tys, conAt [(144, [f144con (spec_l5After k)]), (150, [f150con S150])], 49, fun _ => false⟩
theorem f150hc (k : Nat) (S150 : (List TCol) → Int → Option (Unit × (List TVal))) (h150 : FnOk Try.prog 150 (f150con S150)) : CtxOk Try.prog (f150ctx k S150) := ctxOk tys_ok mixed_ok (consOk_cons (f144ok k) (consOk_cons (h150) (consOk_nil)))
theorem f150okb (k : Nat) (S150 : (List TCol) → Int → Option (Unit × (List TVal))) (h150 : FnOk Try.prog 150 (f150con S150)) : FnOk Try.prog 150 (f150con (spec_l13Empty.b k S150)) :=
  let hc := f150hc k S150 h150
  fnOk (fn := Try.f150) (code := bodyOf Try.f150) (res := [.tmp 4]) hc (by kernel_rfl) (by kernel_rfl) (by decide) (by kernel_rfl) (by kernel_rfl) (by kernel_rfl) (Nat.le_of_ble_eq_true (by kernel_rfl)) _
    (fun x => Snd.seq (by kernel_rfl) (Snd.seq (by kernel_rfl) (Snd.seq (by kernel_rfl) (Snd.seq (by kernel_rfl) (Snd.seq (by kernel_rfl) (Snd.exec hc _ _ _ _) (Snd.seq (by kernel_rfl) (Snd.block (id := 0) (by kernel_rfl) (Snd.loop' (by kernel_rfl) f150s6 (fun n x => spec_l13Empty.l6 k S150 n x.1.1 x.1.2.1 x.1.2.2.2.1 x.1.2.2.2.2 x.2) _ (fun _ => rfl) (fun n6 => Snd.exec hc _ _ _ _) (fun n x => by kernel_rfl) k)) (Snd.exec hc _ _ _ _))) (Snd.exec hc _ _ _ _)) (Snd.exec hc _ _ _ _)) (Snd.exec hc _ _ _ _)) (Snd.exec hc _ _ _ _))
    (fun x => by kernel_rfl)
theorem f150rec (k : Nat) : ∀ d, FnOk Try.prog 150 (f150con (spec_l13Empty.d k d))
  | 0 => FnOk_none (fun _ => rfl)
  | d + 1 => let ih := f150rec k d
    f150okb k (spec_l13Empty.d k d) ih
theorem f150ok (k : Nat) : FnOk Try.prog 150 (f150con (spec_l13Empty k)) := (f150rec k k)

def f89in : SS := ⟨[(0, (.ro (.list 126 (.st (.cons .str (.cons (.int .i64) (.cons (.int .i64) (.cons (.int .i64) .nil))))))))], []⟩
def f89out : SS := ⟨[(0, (.agg (.cons (.h 100) .nil))), (1, (.ro .bool))], [(100, (.sl 52 (.st (.cons (.int .i64) (.cons .str .nil)))))]⟩
def f89con (F : (List TCol) → Option (((Unit × Unit) × Bool) × (List TVal))) : Con := ⟨f89in, f89out, 1, 2, fun x => F x⟩
def f89ctx (k : Nat) : Ctx := ⟨tyAt tys, conAt [(17, [f17con (spec_SchemaOk k)]), (150, [f150con (spec_l13Empty k)])], 11, fun _ => false⟩
theorem f89hc (k : Nat) : CtxOk Try.prog (f89ctx k) := ctxOk tys_ok mixed_ok (consOk_cons (f17ok k) (consOk_cons (f150ok k) (consOk_nil)))
theorem f89ok (k : Nat) : FnOk Try.prog 89 (f89con (spec_RecEmpty k)) :=
  let hc := f89hc k
  fnOk (fn := Try.f89) (code := bodyOf Try.f89) (res := [.cell 2 27, .tmp 3]) hc (by kernel_rfl) (by kernel_rfl) (by decide) (by kernel_rfl) (by kernel_rfl) (by kernel_rfl) (Nat.le_of_ble_eq_true (by kernel_rfl)) _
    (fun x => Snd.exec hc _ _ _ _)
    (fun x => by kernel_rfl)

def f193in : SS := ⟨[(0, (.p 0)), (1, (.ro (.int .i64)))], [(0, (.box (.st (.cons (.list 5 (.int .u8)) (.cons (.int .i64) (.cons (.int .i64) .nil)))) (.agg (.cons (.ro (.list 5 (.int .u8))) (.cons (.ro (.int .i64)) (.cons (.ro (.int .i64)) .nil))))))]⟩
def f193out : SS := ⟨[(0, (.h 100))], [(0, (.box (.st (.cons (.list 5 (.int .u8)) (.cons (.int .i64) (.cons (.int .i64) .nil)))) (.agg (.cons (.ro (.list 5 (.int .u8))) (.cons (.ro (.int .i64)) (.cons (.ro (.int .i64)) .nil)))))), (100, (.sl 5 (.int .u8)))]⟩
def f193s4 : SS := ⟨[(0, (.p 0)), (5, (.h 100)), (6, (.ro (.int .i64))), (7, (.ro (.int .i64)))], [(0, (.box (.st (.cons (.list 5 (.int .u8)) (.cons (.int .i64) (.cons (.int .i64) .nil)))) (.agg (.cons (.ro (.list 5 (.int .u8))) (.cons (.ro (.int .i64)) (.cons (.ro (.int .i64)) .nil)))))), (100, (.sl 5 (.int .u8)))]⟩
def f193con (F : Int → TL1Cur → Option (Unit × TL1Cur × (List Int))) : Con := ⟨f193in, f193out, 2, 1, fun x => F x.1.2 x.2⟩
def f193ctx (k : Nat) : Ctx := ⟨tyAt tys, conAt [(87, [f87con (spec_l1Below k)]), (105, [f105con (spec_l1Byte k)])], 25, fun _ => false⟩
theorem f193hc (k : Nat) : CtxOk Try.prog (f193ctx k) := ctxOk tys_ok mixed_ok (consOk_cons (f87ok k) (consOk_cons (f105ok k) (consOk_nil)))
theorem f193ok (k : Nat) : FnOk Try.prog 193 (f193con (spec_l1DrawBytes k)) :=
  let hc := f193hc k
  fnOk (fn := Try.f193) (code := bodyOf Try.f193) (res := [.tmp 4]) hc (by kernel_rfl) (by kernel_rfl) (by decide) (by kernel_rfl) (by kernel_rfl) (by kernel_rfl) (Nat.le_of_ble_eq_true (by kernel_rfl)) _
    (fun x => Snd.seq (by kernel_rfl) (Snd.seq (by kernel_rfl) (Snd.seq (by kernel_rfl) (Snd.seq (by kernel_rfl) (Snd.exec hc _ _ _ _) (Snd.seq (by kernel_rfl) (Snd.block (id := 0) (by kernel_rfl) (Snd.loop' (by kernel_rfl) f193s4 (fun n x => spec_l1DrawBytes.l4 k n x.1.2.2.1 x.1.2.2.2 x.2.1 x.2.2) _ (fun _ => rfl) (fun n4 => Snd.exec hc _ _ _ _) (fun n x => by kernel_rfl) k)) (Snd.exec hc _ _ _ _))) (Snd.exec hc _ _ _ _)) (Snd.exec hc _ _ _ _)) (Snd.exec hc _ _ _ _))
    (fun x => by kernel_rfl)

def f139in : SS := ⟨[(0, (.p 0)), (1, (.ro (.int .i64)))], [(0, (.box (.st (.cons (.list 5 (.int .u8)) (.cons (.int .i64) (.cons (.int .i64) .nil)))) (.agg (.cons (.ro (.list 5 (.int .u8))) (.cons (.ro (.int .i64)) (.cons (.ro (.int .i64)) .nil))))))]⟩
def f139out : SS := ⟨[(0, (.ro .str))], [(0, (.box (.st (.cons (.list 5 (.int .u8)) (.cons (.int .i64) (.cons (.int .i64) .nil)))) (.agg (.cons (.ro (.list 5 (.int .u8))) (.cons (.ro (.int .i64)) (.cons (.ro (.int .i64)) .nil))))))]⟩
def f139con (F : Int → TL1Cur → Option (ByteArray × TL1Cur)) : Con := ⟨f139in, f139out, 2, 1, fun x => F x.1.2 x.2⟩
def f139ctx (k : Nat) : Ctx := ⟨tyAt tys, conAt [(193, [f193con (spec_l1DrawBytes k)])], 9, fun _ => false⟩
theorem f139hc (k : Nat) : CtxOk Try.prog (f139ctx k) := ctxOk tys_ok mixed_ok (consOk_cons (f193ok k) (consOk_nil))
theorem f139ok (k : Nat) : FnOk Try.prog 139 (f139con (spec_l4DrawText k)) :=
  let hc := f139hc k
  fnOk (fn := Try.f139) (code := bodyOf Try.f139) (res := [.tmp 4]) hc (by kernel_rfl) (by kernel_rfl) (by decide) (by kernel_rfl) (by kernel_rfl) (by kernel_rfl) (Nat.le_of_ble_eq_true (by kernel_rfl)) _
    (fun x => Snd.exec hc _ _ _ _)
    (fun x => by kernel_rfl)

def f149in : SS := ⟨[(0, (.p 0)), (1, (.ro (.list 9 .str)))], [(0, (.box (.st (.cons (.list 5 (.int .u8)) (.cons (.int .i64) (.cons (.int .i64) .nil)))) (.agg (.cons (.ro (.list 5 (.int .u8))) (.cons (.ro (.int .i64)) (.cons (.ro (.int .i64)) .nil))))))]⟩
def f149out : SS := ⟨[(0, (.ro .str))], [(0, (.box (.st (.cons (.list 5 (.int .u8)) (.cons (.int .i64) (.cons (.int .i64) .nil)))) (.agg (.cons (.ro (.list 5 (.int .u8))) (.cons (.ro (.int .i64)) (.cons (.ro (.int .i64)) .nil))))))]⟩
def f149con (F : (List ByteArray) → TL1Cur → Option (ByteArray × TL1Cur)) : Con := ⟨f149in, f149out, 2, 1, fun x => F x.1.2 x.2⟩
def f149ctx (k : Nat) : Ctx := ⟨tyAt tys, conAt [(87, [f87con (spec_l1Below k)])], 12, fun _ => false⟩
theorem f149hc (k : Nat) : CtxOk Try.prog (f149ctx k) := ctxOk tys_ok mixed_ok (consOk_cons (f87ok k) (consOk_nil))
theorem f149ok (k : Nat) : FnOk Try.prog 149 (f149con (spec_l1Pick k)) :=
  let hc := f149hc k
  fnOk (fn := Try.f149) (code := bodyOf Try.f149) (res := [.tmp 4]) hc (by kernel_rfl) (by kernel_rfl) (by decide) (by kernel_rfl) (by kernel_rfl) (by kernel_rfl) (Nat.le_of_ble_eq_true (by kernel_rfl)) _
    (fun x => Snd.exec hc _ _ _ _)
    (fun x => by kernel_rfl)

def f204in : SS := ⟨[(0, (.p 0))], [(0, (.box (.st (.cons (.list 5 (.int .u8)) (.cons (.int .i64) (.cons (.int .i64) .nil)))) (.agg (.cons (.ro (.list 5 (.int .u8))) (.cons (.ro (.int .i64)) (.cons (.ro (.int .i64)) .nil))))))]⟩
def f204out : SS := ⟨[(0, (.ro (.int .i64)))], [(0, (.box (.st (.cons (.list 5 (.int .u8)) (.cons (.int .i64) (.cons (.int .i64) .nil)))) (.agg (.cons (.ro (.list 5 (.int .u8))) (.cons (.ro (.int .i64)) (.cons (.ro (.int .i64)) .nil))))))]⟩
def f204con (F : TL1Cur → Option (Int × TL1Cur)) : Con := ⟨f204in, f204out, 1, 1, fun x => F x.2⟩
def f204ctx (k : Nat) : Ctx := ⟨tyAt tys, conAt [(87, [f87con (spec_l1Below k)]), (106, [f106con (spec_l1PickInt k)])], 13, fun _ => false⟩
theorem f204hc (k : Nat) : CtxOk Try.prog (f204ctx k) := ctxOk tys_ok mixed_ok (consOk_cons (f87ok k) (consOk_cons (f106ok k) (consOk_nil)))
theorem f204ok (k : Nat) : FnOk Try.prog 204 (f204con (spec_l2DrawNum k)) :=
  let hc := f204hc k
  fnOk (fn := Try.f204) (code := bodyOf Try.f204) (res := [.tmp 2]) hc (by kernel_rfl) (by kernel_rfl) (by decide) (by kernel_rfl) (by kernel_rfl) (by kernel_rfl) (Nat.le_of_ble_eq_true (by kernel_rfl)) _
    (fun x => Snd.exec hc _ _ _ _)
    (fun x => by kernel_rfl)

def f221in : SS := ⟨[(0, (.p 0)), (1, (.ro (.int .i64)))], [(0, (.box (.st (.cons (.list 5 (.int .u8)) (.cons (.int .i64) (.cons (.int .i64) .nil)))) (.agg (.cons (.ro (.list 5 (.int .u8))) (.cons (.ro (.int .i64)) (.cons (.ro (.int .i64)) .nil))))))]⟩
def f221out : SS := ⟨[(0, (.agg (.cons (.ro (.int .i64)) (.cons (.ro .str) .nil))))], [(0, (.box (.st (.cons (.list 5 (.int .u8)) (.cons (.int .i64) (.cons (.int .i64) .nil)))) (.agg (.cons (.ro (.list 5 (.int .u8))) (.cons (.ro (.int .i64)) (.cons (.ro (.int .i64)) .nil))))))]⟩
def f221con (F : Int → TL1Cur → Option ((TVal) × TL1Cur)) : Con := ⟨f221in, f221out, 2, 1, fun x => F x.1.2 x.2⟩
def f221ctx (k : Nat) : Ctx := ⟨tyAt tys, conAt [(87, [f87con (spec_l1Below k)]), (106, [f106con (spec_l1PickInt k)]), (138, [f138con (spec_l1Once k)]), (139, [f139con (spec_l4DrawText k)]), (149, [f149con (spec_l1Pick k)]), (204, [f204con (spec_l2DrawNum k)])], 53, fun _ => false⟩
theorem f221hc (k : Nat) : CtxOk Try.prog (f221ctx k) := ctxOk tys_ok mixed_ok (consOk_cons (f87ok k) (consOk_cons (f106ok k) (consOk_cons (f138ok k) (consOk_cons (f139ok k) (consOk_cons (f149ok k) (consOk_cons (f204ok k) (consOk_nil)))))))
theorem f221ok (k : Nat) : FnOk Try.prog 221 (f221con (spec_l6DrawRight k)) :=
  let hc := f221hc k
  fnOk (fn := Try.f221) (code := bodyOf Try.f221) (res := [.cell 4 52]) hc (by kernel_rfl) (by kernel_rfl) (by decide) (by kernel_rfl) (by kernel_rfl) (by kernel_rfl) (Nat.le_of_ble_eq_true (by kernel_rfl)) _
    (fun x => Snd.exec hc _ _ _ _)
    (fun x => by kernel_rfl)

def f186in : SS := ⟨[(0, (.p 0)), (1, (.ro (.list 126 (.st (.cons .str (.cons (.int .i64) (.cons (.int .i64) (.cons (.int .i64) .nil)))))))), (2, (.ro (.int .i64))), (3, (.h 10))], [(0, (.box (.st (.cons (.list 5 (.int .u8)) (.cons (.int .i64) (.cons (.int .i64) .nil)))) (.agg (.cons (.ro (.list 5 (.int .u8))) (.cons (.ro (.int .i64)) (.cons (.ro (.int .i64)) .nil)))))), (10, (.sl 52 (.st (.cons (.int .i64) (.cons .str .nil)))))]⟩
def f186out : SS := ⟨[(0, (.h 100))], [(0, (.box (.st (.cons (.list 5 (.int .u8)) (.cons (.int .i64) (.cons (.int .i64) .nil)))) (.agg (.cons (.ro (.list 5 (.int .u8))) (.cons (.ro (.int .i64)) (.cons (.ro (.int .i64)) .nil)))))), (100, (.sl 52 (.st (.cons (.int .i64) (.cons .str .nil)))))]⟩
def f186s11 : SS := ⟨[(0, (.p 0)), (1, (.ro (.list 126 (.st (.cons .str (.cons (.int .i64) (.cons (.int .i64) (.cons (.int .i64) .nil)))))))), (2, (.ro (.int .i64))), (3, (.h 100)), (9, (.ro (.int .i64))), (10, (.ro (.int .i64)))], [(0, (.box (.st (.cons (.list 5 (.int .u8)) (.cons (.int .i64) (.cons (.int .i64) .nil)))) (.agg (.cons (.ro (.list 5 (.int .u8))) (.cons (.ro (.int .i64)) (.cons (.ro (.int .i64)) .nil)))))), (100, (.sl 52 (.st (.cons (.int .i64) (.cons .str .nil)))))]⟩
def f186s16 : SS := ⟨[(0, (.p 0)), (1, (.ro (.list 126 (.st (.cons .str (.cons (.int .i64) (.cons (.int .i64) (.cons (.int .i64) .nil)))))))), (2, (.ro (.int .i64))), (3, (.h 100)), (9, (.ro (.int .i64))), (10, (.ro (.int .i64))), (11, (.ro (.int .i64))), (12, (.ro (.int .i64)))], [(0, (.box (.st (.cons (.list 5 (.int .u8)) (.cons (.int .i64) (.cons (.int .i64) .nil)))) (.agg (.cons (.ro (.list 5 (.int .u8))) (.cons (.ro (.int .i64)) (.cons (.ro (.int .i64)) .nil)))))), (100, (.sl 52 (.st (.cons (.int .i64) (.cons .str .nil)))))]⟩
def f186s10 : SS := ⟨[(0, (.p 0)), (1, (.ro (.list 126 (.st (.cons .str (.cons (.int .i64) (.cons (.int .i64) (.cons (.int .i64) .nil)))))))), (2, (.ro (.int .i64))), (3, (.h 100)), (9, (.ro (.int .i64))), (10, (.ro (.int .i64)))], [(0, (.box (.st (.cons (.list 5 (.int .u8)) (.cons (.int .i64) (.cons (.int .i64) .nil)))) (.agg (.cons (.ro (.list 5 (.int .u8))) (.cons (.ro (.int .i64)) (.cons (.ro (.int .i64)) .nil)))))), (100, (.sl 52 (.st (.cons (.int .i64) (.cons .str .nil)))))]⟩
def f186s9 : SS := ⟨[(0, (.p 0)), (1, (.ro (.list 126 (.st (.cons .str (.cons (.int .i64) (.cons (.int .i64) (.cons (.int .i64) .nil)))))))), (2, (.ro (.int .i64))), (3, (.h 100)), (9, (.ro (.int .i64)))], [(0, (.box (.st (.cons (.list 5 (.int .u8)) (.cons (.int .i64) (.cons (.int .i64) .nil)))) (.agg (.cons (.ro (.list 5 (.int .u8))) (.cons (.ro (.int .i64)) (.cons (.ro (.int .i64)) .nil)))))), (100, (.sl 52 (.st (.cons (.int .i64) (.cons .str .nil)))))]⟩
def f186s8 : SS := ⟨[(0, (.p 0)), (1, (.ro (.list 126 (.st (.cons .str (.cons (.int .i64) (.cons (.int .i64) (.cons (.int .i64) .nil)))))))), (2, (.ro (.int .i64))), (3, (.h 10)), (9, (.ro (.int .i64)))], [(0, (.box (.st (.cons (.list 5 (.int .u8)) (.cons (.int .i64) (.cons (.int .i64) .nil)))) (.agg (.cons (.ro (.list 5 (.int .u8))) (.cons (.ro (.int .i64)) (.cons (.ro (.int .i64)) .nil)))))), (10, (.sl 52 (.st (.cons (.int .i64) (.cons .str .nil)))))]⟩
def f186con (F : (List TCol) → Int → TL1Cur → (List TVal) → Option (Unit × TL1Cur × (List TVal))) : Con := ⟨f186in, f186out, 4, 1, fun x => F x.1.2.1 x.1.2.2.1 x.2.1 x.2.2⟩
def f186ctx (k : Nat) (S186 : (List TCol) → Int → TL1Cur → (List TVal) → Option (Unit × TL1Cur × (List TVal))) : Ctx := ⟨tyAt tys, conAt [(87, [f87con (spec_l1Below k)]), (138, [f138con (spec_l1Once k)]), (144, [f144con (spec_l5After k)]), (186, [f186con S186]), (221, [f221con (spec_l6DrawRight k)])], 81, fun _ => false⟩
theorem f186hc (k : Nat) (S186 : (List TCol) → Int → TL1Cur → (List TVal) → Option (Unit × TL1Cur × (List TVal))) (h186 : FnOk Try.prog 186 (f186con S186)) : CtxOk Try.prog (f186ctx k S186) := ctxOk tys_ok mixed_ok (consOk_cons (f87ok k) (consOk_cons (f138ok k) (consOk_cons (f144ok k) (consOk_cons (h186) (consOk_cons (f221ok k) (consOk_nil))))))
theorem f186okb (k : Nat) (S186 : (List TCol) → Int → TL1Cur → (List TVal) → Option (Unit × TL1Cur × (List TVal))) (h186 : FnOk Try.prog 186 (f186con S186)) : FnOk Try.prog 186 (f186con (spec_l13DrawPart.b k S186)) :=
  let hc := f186hc k S186 h186
  fnOk (fn := Try.f186) (code := bodyOf Try.f186) (res := [.tmp 8]) hc (by kernel_rfl) (by kernel_rfl) (by decide) (by kernel_rfl) (by kernel_rfl) (by kernel_rfl) (Nat.le_of_ble_eq_true (by kernel_rfl)) _
    (fun x => Snd.seq (by kernel_rfl) (Snd.seq (by kernel_rfl) (Snd.seq (by kernel_rfl) (Snd.cut (Snd.seq (by kernel_rfl) (Snd.exec hc _ _ _ _) (Snd.seq (by kernel_rfl) (Snd.block (id := 0) (by kernel_rfl) (Snd.loop' (by kernel_rfl) f186s10 (fun n x => spec_l13DrawPart.l10 k S186 n x.1.2.1 x.1.2.2.1 x.1.2.2.2.2.1 x.1.2.2.2.2.2 x.2.1 x.2.2) _ (fun _ => rfl) (fun n10 => Snd.seq (by kernel_rfl) (Snd.seq (by kernel_rfl) (Snd.cut (Snd.exec hc _ _ _ _) ⟨f186s11, fun x => spec_l13DrawPart.c11 k (spec_l13DrawPart.l10 k S186 n10) x.1.2.1 x.1.2.2.1 x.1.2.2.2.2.1 x.1.2.2.2.2.2 x.2.1 x.2.2⟩ (fun x => by kernel_rfl)) (Snd.block (id := 1) (by kernel_rfl) (Snd.seq (by kernel_rfl) (Snd.seq (by kernel_rfl) (Snd.seq (by kernel_rfl) (Snd.block (id := 2) (by kernel_rfl) (Snd.loop' (by kernel_rfl) f186s16 (fun n x => spec_l13DrawPart.l16 k S186 (spec_l13DrawPart.l10 k S186 n10) n x.1.2.1 x.1.2.2.1 x.1.2.2.2.2.1 x.1.2.2.2.2.2.1 x.1.2.2.2.2.2.2.1 x.1.2.2.2.2.2.2.2 x.2.1 x.2.2) _ (fun _ => rfl) (fun n16 => Snd.exec hc _ _ _ _) (fun n x => by kernel_rfl) k)) (Snd.exec hc _ _ _ _)) (Snd.exec hc _ _ _ _)) (Snd.exec hc _ _ _ _)))) (Snd.exec hc _ _ _ _)) (fun n x => by kernel_rfl) k)) (Snd.exec hc _ _ _ _))) ⟨f186s9, fun x => spec_l13DrawPart.c9 k S186 x.1.2.1 x.1.2.2.1 x.1.2.2.2.2 x.2.1 x.2.2⟩ (fun x => by kernel_rfl)) (Snd.seq (by kernel_rfl) (Snd.cond (x := .tmp 22) (by kernel_rfl) (Snd.seq (by kernel_rfl) (Snd.seq (by kernel_rfl) (Snd.cut (Snd.exec hc _ _ _ _) ⟨f186s8, fun x => spec_l13DrawPart.c8 k S186 x.1.2.1 x.1.2.2.1 x.1.2.2.2.2 x.2.1 x.2.2⟩ (fun x => by kernel_rfl)) (Snd.exec hc _ _ _ _)) (Snd.exec hc _ _ _ _)) (Snd.exec hc _ _ _ _)) (Snd.exec hc _ _ _ _))) (Snd.exec hc _ _ _ _)) (Snd.exec hc _ _ _ _))
    (fun x => by kernel_rfl)
theorem f186rec (k : Nat) : ∀ d, FnOk Try.prog 186 (f186con (spec_l13DrawPart.d k d))
  | 0 => FnOk_none (fun _ => rfl)
  | d + 1 => let ih := f186rec k d
    f186okb k (spec_l13DrawPart.d k d) ih
theorem f186ok (k : Nat) : FnOk Try.prog 186 (f186con (spec_l13DrawPart k)) := (f186rec k k)

def f126in : SS := ⟨[(0, (.p 0)), (1, (.ro (.list 126 (.st (.cons .str (.cons (.int .i64) (.cons (.int .i64) (.cons (.int .i64) .nil))))))))], [(0, (.box (.st (.cons (.list 5 (.int .u8)) (.cons (.int .i64) (.cons (.int .i64) .nil)))) (.agg (.cons (.ro (.list 5 (.int .u8))) (.cons (.ro (.int .i64)) (.cons (.ro (.int .i64)) .nil))))))]⟩
def f126out : SS := ⟨[(0, (.agg (.cons (.h 100) .nil)))], [(0, (.box (.st (.cons (.list 5 (.int .u8)) (.cons (.int .i64) (.cons (.int .i64) .nil)))) (.agg (.cons (.ro (.list 5 (.int .u8))) (.cons (.ro (.int .i64)) (.cons (.ro (.int .i64)) .nil)))))), (100, (.sl 52 (.st (.cons (.int .i64) (.cons .str .nil)))))]⟩
def f126s4 : SS := ⟨[(4, (.p 100)), (5, (.p 101))], [(0, (.box (.st (.cons (.list 5 (.int .u8)) (.cons (.int .i64) (.cons (.int .i64) .nil)))) (.agg (.cons (.ro (.list 5 (.int .u8))) (.cons (.ro (.int .i64)) (.cons (.ro (.int .i64)) .nil)))))), (100, (.box (.st (.cons (.list 52 (.st (.cons (.int .i64) (.cons .str .nil)))) .nil)) (.agg (.cons (.h 103) .nil)))), (101, (.box (.st (.cons (.list 52 (.st (.cons (.int .i64) (.cons .str .nil)))) .nil)) (.agg (.cons (.h 102) .nil)))), (102, (.sl 52 (.st (.cons (.int .i64) (.cons .str .nil))))), (103, (.sl 52 (.st (.cons (.int .i64) (.cons .str .nil)))))]⟩
def f126con (F : (List TCol) → TL1Cur → Option (((Unit × Unit)) × TL1Cur × (List TVal))) : Con := ⟨f126in, f126out, 2, 1, fun x => F x.1.2 x.2⟩
def f126ctx (k : Nat) : Ctx := ⟨tyAt tys, conAt [(15, [f15con (spec_RecOk k)]), (89, [f89con (spec_RecEmpty k)]), (186, [f186con (spec_l13DrawPart k)])], 21, fun _ => false⟩
theorem f126hc (k : Nat) : CtxOk Try.prog (f126ctx k) := ctxOk tys_ok mixed_ok (consOk_cons (f15ok k) (consOk_cons (f89ok k) (consOk_cons (f186ok k) (consOk_nil))))
theorem f126ok (k : Nat) : FnOk Try.prog 126 (f126con (spec_l13DrawRight k)) :=
  let hc := f126hc k
  fnOk (fn := Try.f126) (code := bodyOf Try.f126) (res := [.cell 4 27]) hc (by kernel_rfl) (by kernel_rfl) (by decide) (by kernel_rfl) (by kernel_rfl) (by kernel_rfl) (Nat.le_of_ble_eq_true (by kernel_rfl)) _
    (fun x => Snd.seq (by kernel_rfl) (Snd.seq (by kernel_rfl) (Snd.seq (by kernel_rfl) (Snd.cut (Snd.exec hc _ _ _ _) ⟨f126s4, fun x => spec_l13DrawRight.c4 k x.2.1 x.2.2.1 x.2.2.2.1 x.2.2.2.2.1 x.2.2.2.2.2⟩ (fun x => by kernel_rfl)) (Snd.exec hc _ _ _ _)) (Snd.exec hc _ _ _ _)) (Snd.exec hc _ _ _ _))
    (fun x => by kernel_rfl)

def f86in : SS := ⟨[(0, (.p 0)), (1, (.ro (.list 126 (.st (.cons .str (.cons (.int .i64) (.cons (.int .i64) (.cons (.int .i64) .nil)))))))), (2, (.ro (.int .i64)))], [(0, (.box (.st (.cons (.list 5 (.int .u8)) (.cons (.int .i64) (.cons (.int .i64) .nil)))) (.agg (.cons (.ro (.list 5 (.int .u8))) (.cons (.ro (.int .i64)) (.cons (.ro (.int .i64)) .nil))))))]⟩
def f86out : SS := ⟨[(0, (.h 100))], [(0, (.box (.st (.cons (.list 5 (.int .u8)) (.cons (.int .i64) (.cons (.int .i64) .nil)))) (.agg (.cons (.ro (.list 5 (.int .u8))) (.cons (.ro (.int .i64)) (.cons (.ro (.int .i64)) .nil)))))), (100, (.sl 27 (.st (.cons (.list 52 (.st (.cons (.int .i64) (.cons .str .nil)))) .nil))))]⟩
def f86s4 : SS := ⟨[(0, (.p 0)), (1, (.ro (.list 126 (.st (.cons .str (.cons (.int .i64) (.cons (.int .i64) (.cons (.int .i64) .nil)))))))), (7, (.h 100)), (8, (.ro (.int .i64))), (9, (.ro (.int .i64)))], [(0, (.box (.st (.cons (.list 5 (.int .u8)) (.cons (.int .i64) (.cons (.int .i64) .nil)))) (.agg (.cons (.ro (.list 5 (.int .u8))) (.cons (.ro (.int .i64)) (.cons (.ro (.int .i64)) .nil)))))), (100, (.sl 27 (.st (.cons (.list 52 (.st (.cons (.int .i64) (.cons .str .nil)))) .nil))))]⟩
def f86con (F : (List TCol) → Int → TL1Cur → Option (Unit × TL1Cur × (List TRec))) : Con := ⟨f86in, f86out, 3, 1, fun x => F x.1.2.1 x.1.2.2 x.2⟩
def f86ctx (k : Nat) : Ctx := ⟨tyAt tys, conAt [(87, [f87con (spec_l1Below k)]), (126, [f126con (spec_l13DrawRight k)])], 27, fun _ => false⟩
theorem f86hc (k : Nat) : CtxOk Try.prog (f86ctx k) := ctxOk tys_ok mixed_ok (consOk_cons (f87ok k) (consOk_cons (f126ok k) (consOk_nil)))
theorem f86ok (k : Nat) : FnOk Try.prog 86 (f86con (spec_l14DrawRecs k)) :=
  let hc := f86hc k
  fnOk (fn := Try.f86) (code := bodyOf Try.f86) (res := [.tmp 6]) hc (by kernel_rfl) (by kernel_rfl) (by decide) (by kernel_rfl) (by kernel_rfl) (by kernel_rfl) (Nat.le_of_ble_eq_true (by kernel_rfl)) _
    (fun x => Snd.seq (by kernel_rfl) (Snd.seq (by kernel_rfl) (Snd.seq (by kernel_rfl) (Snd.seq (by kernel_rfl) (Snd.exec hc _ _ _ _) (Snd.seq (by kernel_rfl) (Snd.block (id := 0) (by kernel_rfl) (Snd.loop' (by kernel_rfl) f86s4 (fun n x => spec_l14DrawRecs.l4 k n x.1.2.1 x.1.2.2.2.1 x.1.2.2.2.2 x.2.1 x.2.2) _ (fun _ => rfl) (fun n4 => Snd.exec hc _ _ _ _) (fun n x => by kernel_rfl) k)) (Snd.exec hc _ _ _ _))) (Snd.exec hc _ _ _ _)) (Snd.exec hc _ _ _ _)) (Snd.exec hc _ _ _ _))
    (fun x => by kernel_rfl)

def f88in : SS := ⟨[(0, (.p 0))], [(0, (.box (.st (.cons (.list 5 (.int .u8)) (.cons (.int .i64) (.cons (.int .i64) .nil)))) (.agg (.cons (.ro (.list 5 (.int .u8))) (.cons (.ro (.int .i64)) (.cons (.ro (.int .i64)) .nil))))))]⟩
def f88out : SS := ⟨[(0, (.h 100))], [(0, (.box (.st (.cons (.list 5 (.int .u8)) (.cons (.int .i64) (.cons (.int .i64) .nil)))) (.agg (.cons (.ro (.list 5 (.int .u8))) (.cons (.ro (.int .i64)) (.cons (.ro (.int .i64)) .nil)))))), (100, (.sl 126 (.st (.cons .str (.cons (.int .i64) (.cons (.int .i64) (.cons (.int .i64) .nil)))))))]⟩
def f88s22 : SS := ⟨[(3, (.h 100))], [(0, (.box (.st (.cons (.list 5 (.int .u8)) (.cons (.int .i64) (.cons (.int .i64) .nil)))) (.agg (.cons (.ro (.list 5 (.int .u8))) (.cons (.ro (.int .i64)) (.cons (.ro (.int .i64)) .nil)))))), (100, (.sl 126 (.st (.cons .str (.cons (.int .i64) (.cons (.int .i64) (.cons (.int .i64) .nil)))))))]⟩
def f88d9 : SS := ⟨[(0, (.p 0)), (3, (.h 100)), (4, (.ro (.int .i64)))], [(0, (.box (.st (.cons (.list 5 (.int .u8)) (.cons (.int .i64) (.cons (.int .i64) .nil)))) (.agg (.cons (.ro (.list 5 (.int .u8))) (.cons (.ro (.int .i64)) (.cons (.ro (.int .i64)) .nil)))))), (100, (.sl 126 (.st (.cons .str (.cons (.int .i64) (.cons (.int .i64) (.cons (.int .i64) .nil)))))))]⟩
def f88s18 : SS := ⟨[(3, (.h 100)), (5, (.ro (.int .i64))), (6, (.ro (.int .i64)))], [(0, (.box (.st (.cons (.list 5 (.int .u8)) (.cons (.int .i64) (.cons (.int .i64) .nil)))) (.agg (.cons (.ro (.list 5 (.int .u8))) (.cons (.ro (.int .i64)) (.cons (.ro (.int .i64)) .nil)))))), (100, (.sl 126 (.st (.cons .str (.cons (.int .i64) (.cons (.int .i64) (.cons (.int .i64) .nil)))))))]⟩
def f88con (F : TL1Cur → Option (Unit × TL1Cur × (List TCol))) : Con := ⟨f88in, f88out, 1, 1, fun x => F x.2⟩
def f88ctx (k : Nat) : Ctx := ⟨tyAt tys, conAt [(85, [f85con (spec_l5DrawRight k)]), (87, [f87con (spec_l1Below k)]), (149, [f149con (spec_l1Pick k)])], 85, fun _ => false⟩
theorem f88hc (k : Nat) : CtxOk Try.prog (f88ctx k) := ctxOk tys_ok mixed_ok (consOk_cons (f85ok k) (consOk_cons (f87ok k) (consOk_cons (f149ok k) (consOk_nil))))
theorem f88ok (k : Nat) : FnOk Try.prog 88 (f88con (spec_l5DrawSchema k)) :=
  let hc := f88hc k
  fnOk (fn := Try.f88) (code := bodyOf Try.f88) (res := [.tmp 2]) hc (by kernel_rfl) (by kernel_rfl) (by decide) (by kernel_rfl) (by kernel_rfl) (by kernel_rfl) (Nat.le_of_ble_eq_true (by kernel_rfl)) _
    (fun x => Snd.seq (by kernel_rfl) (Snd.seq (by kernel_rfl) (Snd.seq (by kernel_rfl) (Snd.seq (by kernel_rfl) (Snd.cut (Snd.exec hc _ _ _ _) ⟨f88s22, fun x => spec_l5DrawSchema.c22 k x.2.1 x.2.2⟩ (fun x => by kernel_rfl)) (Snd.seq (by kernel_rfl) (Snd.block (id := 0) (by kernel_rfl) (Snd.seq (by kernel_rfl) (Snd.cond (x := .tmp 15) (by kernel_rfl) (Snd.exec hc _ _ _ _) (Snd.seq (by kernel_rfl) (Snd.cond (x := .tmp 23) (by kernel_rfl) (Snd.exec hc _ _ _ _) (Snd.seq (by kernel_rfl) (Snd.cond (x := .tmp 32) (by kernel_rfl) (Snd.fork hc (id := 9) (by kernel_rfl) ⟨f88d9, fun x => spec_l5DrawSchema.d9 k x.1.2.2 x.2.1 x.2.2⟩ [[0, 1, 2, 3, 4, 5, 8, 6, 7, 9, 10, 11, 12, 13], [0, 1, 2, 3, 4, 5, 8, 9, 6, 7, 10, 11, 12, 13]] (by kernel_rfl) (ords_cons (fun x => by kernel_rfl) (ords_cons (fun x => by kernel_rfl) (ords_nil)))) (Snd.seq (by kernel_rfl) (Snd.cond (x := .tmp 47) (by kernel_rfl) (Snd.exec hc _ _ _ _) (Snd.seq (by kernel_rfl) (Snd.cond (x := .tmp 56) (by kernel_rfl) (Snd.exec hc _ _ _ _) (Snd.seq (by kernel_rfl) (Snd.cond (x := .tmp 62) (by kernel_rfl) (Snd.seq (by kernel_rfl) (Snd.seq (by kernel_rfl) (Snd.seq (by kernel_rfl) (Snd.exec hc _ _ _ _) (Snd.seq (by kernel_rfl) (Snd.block (id := 1) (by kernel_rfl) (Snd.loop' (by kernel_rfl) f88s18 (fun n x => spec_l5DrawSchema.l18 k n x.1.2.1 x.1.2.2 x.2.1 x.2.2) _ (fun _ => rfl) (fun n18 => Snd.exec hc _ _ _ _) (fun n x => by kernel_rfl) k)) (Snd.exec hc _ _ _ _))) (Snd.exec hc _ _ _ _)) (Snd.exec hc _ _ _ _)) (Snd.exec hc _ _ _ _)) (Snd.exec hc _ _ _ _))) (Snd.exec hc _ _ _ _))) (Snd.exec hc _ _ _ _))) (Snd.exec hc _ _ _ _))) (Snd.exec hc _ _ _ _))) (Snd.exec hc _ _ _ _))) (Snd.exec hc _ _ _ _))) (Snd.exec hc _ _ _ _)) (Snd.exec hc _ _ _ _)) (Snd.exec hc _ _ _ _))
    (fun x => by kernel_rfl)

def f24in : SS := ⟨[(0, (.ro (.list 5 (.int .u8))))], []⟩
def f24out : SS := ⟨[(0, (.ro (.list 126 (.st (.cons .str (.cons (.int .i64) (.cons (.int .i64) (.cons (.int .i64) .nil)))))))), (1, (.h 100))], [(100, (.sh 27 (.st (.cons (.list 52 (.st (.cons (.int .i64) (.cons .str .nil)))) .nil))))]⟩
def f24s13 : SS := ⟨[(5, (.ro (.list 126 (.st (.cons .str (.cons (.int .i64) (.cons (.int .i64) (.cons (.int .i64) .nil)))))))), (6, (.h 100))], [(100, (.sh 27 (.st (.cons (.list 52 (.st (.cons (.int .i64) (.cons .str .nil)))) .nil))))]⟩
def f24s11 : SS := ⟨[(4, (.p 100)), (5, (.ro (.list 126 (.st (.cons .str (.cons (.int .i64) (.cons (.int .i64) (.cons (.int .i64) .nil)))))))), (6, (.h 101)), (7, (.p 102))], [(100, (.box (.st (.cons (.list 5 (.int .u8)) (.cons (.int .i64) (.cons (.int .i64) .nil)))) (.agg (.cons (.ro (.list 5 (.int .u8))) (.cons (.ro (.int .i64)) (.cons (.ro (.int .i64)) .nil)))))), (101, (.sh 27 (.st (.cons (.list 52 (.st (.cons (.int .i64) (.cons .str .nil)))) .nil)))), (102, (.box (.st (.cons (.list 52 (.st (.cons (.int .i64) (.cons .str .nil)))) .nil)) (.agg (.cons (.ro (.list 52 (.st (.cons (.int .i64) (.cons .str .nil))))) .nil))))]⟩
def f24con (F : (List Int) → Option (((List TCol) × Unit) × (List TRec))) : Con := ⟨f24in, f24out, 1, 2, fun x => F x⟩
def f24ctx (k : Nat) : Ctx := ⟨tyAt tys, conAt [(84, [f84con (spec_l1New k)]), (85, [f85con (spec_l5DrawRight k)]), (86, [f86con (spec_l14DrawRecs k)]), (87, [f87con (spec_l1Below k)]), (88, [f88con (spec_l5DrawSchema k)]), (89, [f89con (spec_RecEmpty k)])], 47, fun _ => false⟩
theorem f24hc (k : Nat) : CtxOk Try.prog (f24ctx k) := ctxOk tys_ok mixed_ok (consOk_cons (f84ok k) (consOk_cons (f85ok k) (consOk_cons (f86ok k) (consOk_cons (f87ok k) (consOk_cons (f88ok k) (consOk_cons (f89ok k) (consOk_nil)))))))
theorem f24ok (k : Nat) : FnOk Try.prog 24 (f24con (spec_DrawShred k)) :=
  let hc := f24hc k
  fnOk (fn := Try.f24) (code := bodyOf Try.f24) (res := [.tmp 2, .tmp 3]) hc (by kernel_rfl) (by kernel_rfl) (by decide) (by kernel_rfl) (by kernel_rfl) (by kernel_rfl) (Nat.le_of_ble_eq_true (by kernel_rfl)) _
    (fun x => Snd.seq (by kernel_rfl) (Snd.seq (by kernel_rfl) (Snd.seq (by kernel_rfl) (Snd.seq (by kernel_rfl) (Snd.seq (by kernel_rfl) (Snd.cut (Snd.exec hc _ _ _ _) ⟨f24s13, fun x => spec_DrawShred.c13 k x.1.1 x.2⟩ (fun x => by kernel_rfl)) (Snd.seq (by kernel_rfl) (Snd.block (id := 0) (by kernel_rfl) (Snd.seq (by kernel_rfl) (Snd.cond (x := .tmp 18) (by kernel_rfl) (Snd.exec hc _ _ _ _) (Snd.seq (by kernel_rfl) (Snd.cond (x := .tmp 24) (by kernel_rfl) (Snd.exec hc _ _ _ _) (Snd.seq (by kernel_rfl) (Snd.cond (x := .tmp 28) (by kernel_rfl) (Snd.seq (by kernel_rfl) (Snd.block (id := 1) (by kernel_rfl) (Snd.loop' (by kernel_rfl) f24s11 (fun n x => spec_DrawShred.l11 k n x.1.2.1 x.2.1 x.2.2.1 x.2.2.2) _ (fun _ => rfl) (fun n11 => Snd.exec hc _ _ _ _) (fun n x => by kernel_rfl) k)) (Snd.exec hc _ _ _ _)) (Snd.exec hc _ _ _ _)) (Snd.exec hc _ _ _ _))) (Snd.exec hc _ _ _ _))) (Snd.exec hc _ _ _ _))) (Snd.exec hc _ _ _ _))) (Snd.exec hc _ _ _ _)) (Snd.exec hc _ _ _ _)) (Snd.exec hc _ _ _ _)) (Snd.exec hc _ _ _ _))
    (fun x => by kernel_rfl)

def f77in : SS := ⟨[(0, (.ro (.int .i64))), (1, (.ro (.int .i64))), (2, (.ro (.int .i64)))], []⟩
def f77out : SS := ⟨[(0, (.ro .bool))], []⟩
def f77con (F : Int → Int → Int → Option Bool) : Con := ⟨f77in, f77out, 3, 1, fun x => F x.1 x.2.1 x.2.2⟩
def f77ctx (k : Nat) : Ctx := ⟨tyAt tys, conAt [], 15, fun _ => false⟩
theorem f77hc (k : Nat) : CtxOk Try.prog (f77ctx k) := ctxOk tys_ok mixed_ok (consOk_nil)
theorem f77ok (k : Nat) : FnOk Try.prog 77 (f77con (impl_within k)) :=
  let hc := f77hc k
  fnOk (fn := Try.f77) (code := bodyOf Try.f77) (res := [.tmp 6]) hc (by kernel_rfl) (by kernel_rfl) (by decide) (by kernel_rfl) (by kernel_rfl) (by kernel_rfl) (Nat.le_of_ble_eq_true (by kernel_rfl)) _
    (fun x => Snd.exec hc _ _ _ _)
    (fun x => by kernel_rfl)

def f224in : SS := ⟨[(0, (.ro (.int .i64)))], []⟩
def f224out : SS := ⟨[(0, (.ro .bool))], []⟩
def f224con (F : Int → Option Bool) : Con := ⟨f224in, f224out, 1, 1, fun x => F x⟩
def f224ctx (k : Nat) : Ctx := ⟨tyAt tys, conAt [(77, [f77con (impl_within k)])], 13, fun _ => false⟩
theorem f224hc (k : Nat) : CtxOk Try.prog (f224ctx k) := ctxOk tys_ok mixed_ok (consOk_cons (f77ok k) (consOk_nil))
theorem f224ok (k : Nat) : FnOk Try.prog 224 (f224con (impl_TypeOk k)) :=
  let hc := f224hc k
  fnOk (fn := Try.f224) (code := bodyOf Try.f224) (res := [.tmp 2]) hc (by kernel_rfl) (by kernel_rfl) (by decide) (by kernel_rfl) (by kernel_rfl) (by kernel_rfl) (Nat.le_of_ble_eq_true (by kernel_rfl)) _
    (fun x => Snd.exec hc _ _ _ _)
    (fun x => by kernel_rfl)

def f194in : SS := ⟨[(0, (.ro (.st (.cons .str (.cons (.int .i64) (.cons (.int .i64) (.cons (.int .i64) .nil)))))))], []⟩
def f194out : SS := ⟨[(0, (.ro .bool))], []⟩
def f194con (F : TCol → Option Bool) : Con := ⟨f194in, f194out, 1, 1, fun x => F x⟩
def f194ctx (k : Nat) : Ctx := ⟨tyAt tys, conAt [(77, [f77con (impl_within k)]), (224, [f224con (impl_TypeOk k)])], 30, fun _ => false⟩
theorem f194hc (k : Nat) : CtxOk Try.prog (f194ctx k) := ctxOk tys_ok mixed_ok (consOk_cons (f77ok k) (consOk_cons (f224ok k) (consOk_nil)))
theorem f194ok (k : Nat) : FnOk Try.prog 194 (f194con (impl_colOk k)) :=
  let hc := f194hc k
  fnOk (fn := Try.f194) (code := bodyOf Try.f194) (res := [.tmp 2]) hc (by kernel_rfl) (by kernel_rfl) (by decide) (by kernel_rfl) (by kernel_rfl) (by kernel_rfl) (Nat.le_of_ble_eq_true (by kernel_rfl)) _
    (fun x => Snd.exec hc _ _ _ _)
    (fun x => by kernel_rfl)

def f195in : SS := ⟨[(0, (.ro .str))], []⟩
def f195out : SS := ⟨[(0, (.ro .bool))], []⟩
def f195s2 : SS := ⟨[(0, (.ro .str)), (5, (.ro (.int .i64))), (6, (.ro (.int .i64)))], []⟩
def f195con (F : ByteArray → Option Bool) : Con := ⟨f195in, f195out, 1, 1, fun x => F x⟩
def f195ctx (k : Nat) : Ctx := ⟨tyAt tys, conAt [(77, [f77con (impl_within k)])], 19, fun _ => false⟩
theorem f195hc (k : Nat) : CtxOk Try.prog (f195ctx k) := ctxOk tys_ok mixed_ok (consOk_cons (f77ok k) (consOk_nil))
theorem f195ok (k : Nat) : FnOk Try.prog 195 (f195con (impl_isColName k)) :=
  let hc := f195hc k
  fnOk (fn := Try.f195) (code := bodyOf Try.f195) (res := [.tmp 2]) hc (by kernel_rfl) (by kernel_rfl) (by decide) (by kernel_rfl) (by kernel_rfl) (by kernel_rfl) (Nat.le_of_ble_eq_true (by kernel_rfl)) _
    (fun x => Snd.seq (by kernel_rfl) (Snd.seq (by kernel_rfl) (Snd.exec hc _ _ _ _) (Snd.seq (by kernel_rfl) (Snd.block (id := 0) (by kernel_rfl) (Snd.loop' (by kernel_rfl) f195s2 (fun n x => impl_isColName.l2 k n x.1 x.2.1 x.2.2) _ (fun _ => rfl) (fun n2 => Snd.exec hc _ _ _ _) (fun n x => by kernel_rfl) k)) (Snd.exec hc _ _ _ _))) (Snd.exec hc _ _ _ _))
    (fun x => by kernel_rfl)

def f140in : SS := ⟨[(0, (.ro (.list 126 (.st (.cons .str (.cons (.int .i64) (.cons (.int .i64) (.cons (.int .i64) .nil)))))))), (1, (.ro (.int .i64))), (2, (.ro (.int .i64)))], []⟩
def f140out : SS := ⟨[(0, (.ro (.int .i64)))], []⟩
def f140s10 : SS := ⟨[(0, (.ro (.list 126 (.st (.cons .str (.cons (.int .i64) (.cons (.int .i64) (.cons (.int .i64) .nil)))))))), (2, (.ro (.int .i64))), (7, (.ro (.int .i64))), (8, (.h 100)), (47, (.ro (.int .i64))), (48, (.ro (.int .i64))), (54, (.h 100)), (55, (.ro (.int .i64))), (56, (.ro (.int .i64)))], [(100, (.sl 9 .str))]⟩
def f140s6 : SS := ⟨[(0, (.ro (.list 126 (.st (.cons .str (.cons (.int .i64) (.cons (.int .i64) (.cons (.int .i64) .nil)))))))), (2, (.ro (.int .i64))), (7, (.ro (.int .i64))), (8, (.h 100)), (47, (.ro (.int .i64))), (48, (.ro (.int .i64)))], [(100, (.sl 9 .str))]⟩
def f140con (F : (List TCol) → Int → Int → Option Int) : Con := ⟨f140in, f140out, 3, 1, fun x => F x.1 x.2.1 x.2.2⟩
def f140ctx (k : Nat) (S140 : (List TCol) → Int → Int → Option Int) : Ctx := ⟨tyAt tys, conAt [(140, [f140con S140]), (194, [f194con (impl_colOk k)]), (195, [f195con (impl_isColName k)])], 85, fun _ => false⟩
theorem f140hc (k : Nat) (S140 : (List TCol) → Int → Int → Option Int) (h140 : FnOk Try.prog 140 (f140con S140)) : CtxOk Try.prog (f140ctx k S140) := ctxOk tys_ok mixed_ok (consOk_cons (h140) (consOk_cons (f194ok k) (consOk_cons (f195ok k) (consOk_nil))))
theorem f140okb (k : Nat) (S140 : (List TCol) → Int → Int → Option Int) (h140 : FnOk Try.prog 140 (f140con S140)) : FnOk Try.prog 140 (f140con (impl_colAfter.b k S140)) :=
  let hc := f140hc k S140 h140
  fnOk (fn := Try.f140) (code := bodyOf Try.f140) (res := [.tmp 6]) hc (by kernel_rfl) (by kernel_rfl) (by decide) (by kernel_rfl) (by kernel_rfl) (by kernel_rfl) (Nat.le_of_ble_eq_true (by kernel_rfl)) _
    (fun x => Snd.seq (by kernel_rfl) (Snd.seq (by kernel_rfl) (Snd.seq (by kernel_rfl) (Snd.seq (by kernel_rfl) (Snd.seq (by kernel_rfl) (Snd.exec hc _ _ _ _) (Snd.seq (by kernel_rfl) (Snd.block (id := 0) (by kernel_rfl) (Snd.loop' (by kernel_rfl) f140s6 (fun n x => impl_colAfter.l6 k S140 n x.1.1 x.1.2.1 x.1.2.2.1 x.1.2.2.2.2.1 x.1.2.2.2.2.2 x.2) _ (fun _ => rfl) (fun n6 => Snd.seq (by kernel_rfl) (Snd.seq (by kernel_rfl) (Snd.seq (by kernel_rfl) (Snd.exec hc _ _ _ _) (Snd.block (id := 1) (by kernel_rfl) (Snd.seq (by kernel_rfl) (Snd.seq (by kernel_rfl) (Snd.exec hc _ _ _ _) (Snd.seq (by kernel_rfl) (Snd.block (id := 2) (by kernel_rfl) (Snd.loop' (by kernel_rfl) f140s10 (fun n x => impl_colAfter.l10 k S140 (impl_colAfter.l6 k S140 n6) n x.1.1 x.1.2.1 x.1.2.2.1 x.1.2.2.2.2.1 x.1.2.2.2.2.2.1 x.1.2.2.2.2.2.2.2.1 x.1.2.2.2.2.2.2.2.2 x.2) _ (fun _ => rfl) (fun n10 => Snd.exec hc _ _ _ _) (fun n x => by kernel_rfl) k)) (Snd.exec hc _ _ _ _))) (Snd.exec hc _ _ _ _)))) (Snd.exec hc _ _ _ _)) (Snd.exec hc _ _ _ _)) (fun n x => by kernel_rfl) k)) (Snd.exec hc _ _ _ _))) (Snd.exec hc _ _ _ _)) (Snd.exec hc _ _ _ _)) (Snd.exec hc _ _ _ _)) (Snd.exec hc _ _ _ _))
    (fun x => by kernel_rfl)
theorem f140rec (k : Nat) : ∀ d, FnOk Try.prog 140 (f140con (impl_colAfter.d k d))
  | 0 => FnOk_none (fun _ => rfl)
  | d + 1 => let ih := f140rec k d
    f140okb k (impl_colAfter.d k d) ih
theorem f140ok (k : Nat) : FnOk Try.prog 140 (f140con (impl_colAfter k)) := (f140rec k k)

def f68in : SS := ⟨[(0, (.ro (.list 126 (.st (.cons .str (.cons (.int .i64) (.cons (.int .i64) (.cons (.int .i64) .nil))))))))], []⟩
def f68out : SS := ⟨[(0, (.ro .bool))], []⟩
def f68con (F : (List TCol) → Option Bool) : Con := ⟨f68in, f68out, 1, 1, fun x => F x⟩
def f68ctx (k : Nat) : Ctx := ⟨tyAt tys, conAt [(77, [f77con (impl_within k)]), (140, [f140con (impl_colAfter k)])], 33, fun _ => false⟩
theorem f68hc (k : Nat) : CtxOk Try.prog (f68ctx k) := ctxOk tys_ok mixed_ok (consOk_cons (f77ok k) (consOk_cons (f140ok k) (consOk_nil)))
theorem f68ok (k : Nat) : FnOk Try.prog 68 (f68con (impl_SchemaOk k)) :=
  let hc := f68hc k
  fnOk (fn := Try.f68) (code := bodyOf Try.f68) (res := [.tmp 2]) hc (by kernel_rfl) (by kernel_rfl) (by decide) (by kernel_rfl) (by kernel_rfl) (by kernel_rfl) (Nat.le_of_ble_eq_true (by kernel_rfl)) _
    (fun x => Snd.exec hc _ _ _ _)
    (fun x => by kernel_rfl)

def f91in : SS := ⟨[(0, (.ro (.list 126 (.st (.cons .str (.cons (.int .i64) (.cons (.int .i64) (.cons (.int .i64) .nil))))))))], []⟩
def f91out : SS := ⟨[(0, (.h 100))], [(100, (.sl 3 (.int .i64)))]⟩
def f91s7 : SS := ⟨[(3, (.h 100)), (7, (.ro (.list 126 (.st (.cons .str (.cons (.int .i64) (.cons (.int .i64) (.cons (.int .i64) .nil)))))))), (8, (.ro (.int .i64))), (9, (.ro (.int .i64)))], [(100, (.sl 3 (.int .i64)))]⟩
def f91s3 : SS := ⟨[(3, (.h 100)), (7, (.ro (.list 126 (.st (.cons .str (.cons (.int .i64) (.cons (.int .i64) (.cons (.int .i64) .nil)))))))), (8, (.ro (.int .i64))), (9, (.ro (.int .i64)))], [(100, (.sl 3 (.int .i64)))]⟩
def f91con (F : (List TCol) → Option (Unit × (List Int))) : Con := ⟨f91in, f91out, 1, 1, fun x => F x⟩
def f91ctx (k : Nat) : Ctx := ⟨tyAt tys, conAt [], 23, fun _ => false⟩
theorem f91hc (k : Nat) : CtxOk Try.prog (f91ctx k) := ctxOk tys_ok mixed_ok (consOk_nil)
theorem f91ok (k : Nat) : FnOk Try.prog 91 (f91con (impl_leavesOf k)) :=
  let hc := f91hc k
  fnOk (fn := Try.f91) (code := bodyOf Try.f91) (res := [.tmp 2]) hc (by kernel_rfl) (by kernel_rfl) (by decide) (by kernel_rfl) (by kernel_rfl) (by kernel_rfl) (Nat.le_of_ble_eq_true (by kernel_rfl)) _
    (fun x => Snd.seq (by kernel_rfl) (Snd.seq (by kernel_rfl) (Snd.seq (by kernel_rfl) (Snd.exec hc _ _ _ _) (Snd.seq (by kernel_rfl) (Snd.block (id := 0) (by kernel_rfl) (Snd.loop' (by kernel_rfl) f91s3 (fun n x => impl_leavesOf.l3 k n x.1.2.1 x.1.2.2.1 x.1.2.2.2 x.2) _ (fun _ => rfl) (fun n3 => Snd.seq (by kernel_rfl) (Snd.seq (by kernel_rfl) (Snd.seq (by kernel_rfl) (Snd.cut (Snd.exec hc _ _ _ _) ⟨f91s7, fun x => impl_leavesOf.c7 k (impl_leavesOf.l3 k n3) x.1.2.1 x.1.2.2.1 x.1.2.2.2 x.2⟩ (fun x => by kernel_rfl)) (Snd.exec hc _ _ _ _)) (Snd.exec hc _ _ _ _)) (Snd.exec hc _ _ _ _)) (fun n x => by kernel_rfl) k)) (Snd.exec hc _ _ _ _))) (Snd.exec hc _ _ _ _)) (Snd.exec hc _ _ _ _))
    (fun x => by kernel_rfl)

def f90in : SS := ⟨[(0, (.ro (.list 126 (.st (.cons .str (.cons (.int .i64) (.cons (.int .i64) (.cons (.int .i64) .nil))))))))], []⟩
def f90out : SS := ⟨[(0, (.h 100))], [(100, (.sl 3 (.int .i64)))]⟩
def f90s3 : SS := ⟨[(3, (.h 100)), (10, (.h 101)), (11, (.ro (.int .i64))), (12, (.ro (.int .i64)))], [(100, (.sl 3 (.int .i64))), (101, (.sl 3 (.int .i64)))]⟩
def f90con (F : (List TCol) → Option (Unit × (List Int))) : Con := ⟨f90in, f90out, 1, 1, fun x => F x⟩
def f90ctx (k : Nat) : Ctx := ⟨tyAt tys, conAt [(91, [f91con (impl_leavesOf k)])], 23, fun _ => false⟩
theorem f90hc (k : Nat) : CtxOk Try.prog (f90ctx k) := ctxOk tys_ok mixed_ok (consOk_cons (f91ok k) (consOk_nil))
theorem f90ok (k : Nat) : FnOk Try.prog 90 (f90con (impl_leafNumbers k)) :=
  let hc := f90hc k
  fnOk (fn := Try.f90) (code := bodyOf Try.f90) (res := [.tmp 2]) hc (by kernel_rfl) (by kernel_rfl) (by decide) (by kernel_rfl) (by kernel_rfl) (by kernel_rfl) (Nat.le_of_ble_eq_true (by kernel_rfl)) _
    (fun x => Snd.seq (by kernel_rfl) (Snd.seq (by kernel_rfl) (Snd.seq (by kernel_rfl) (Snd.exec hc _ _ _ _) (Snd.seq (by kernel_rfl) (Snd.block (id := 0) (by kernel_rfl) (Snd.loop' (by kernel_rfl) f90s3 (fun n x => impl_leafNumbers.l3 k n x.1.2.2.1 x.1.2.2.2 x.2.1 x.2.2) _ (fun _ => rfl) (fun n3 => Snd.exec hc _ _ _ _) (fun n x => by kernel_rfl) k)) (Snd.exec hc _ _ _ _))) (Snd.exec hc _ _ _ _)) (Snd.exec hc _ _ _ _))
    (fun x => by kernel_rfl)

def f160in : SS := ⟨[(0, (.ro (.int .i64)))], []⟩
def f160out : SS := ⟨[(0, (.ro .bool))], []⟩
def f160con (F : Int → Option Bool) : Con := ⟨f160in, f160out, 1, 1, fun x => F x⟩
def f160ctx (k : Nat) : Ctx := ⟨tyAt tys, conAt [(77, [f77con (impl_within k)])], 5, fun _ => false⟩
theorem f160hc (k : Nat) : CtxOk Try.prog (f160ctx k) := ctxOk tys_ok mixed_ok (consOk_cons (f77ok k) (consOk_nil))
theorem f160ok (k : Nat) : FnOk Try.prog 160 (f160con (impl_isInt32 k)) :=
  let hc := f160hc k
  fnOk (fn := Try.f160) (code := bodyOf Try.f160) (res := [.tmp 2]) hc (by kernel_rfl) (by kernel_rfl) (by decide) (by kernel_rfl) (by kernel_rfl) (by kernel_rfl) (Nat.le_of_ble_eq_true (by kernel_rfl)) _
    (fun x => Snd.exec hc _ _ _ _)
    (fun x => by kernel_rfl)

def f187in : SS := ⟨[(0, (.ro (.int .i64))), (1, (.ro (.st (.cons (.int .i64) (.cons .str .nil)))))], []⟩
def f187out : SS := ⟨[(0, (.ro .bool))], []⟩
def f187s8 : SS := ⟨[(0, (.ro (.int .i64))), (3, (.p 100)), (26, (.ro .bool))], [(100, (.box (.st (.cons (.int .i64) (.cons .str .nil))) (.agg (.cons (.ro (.int .i64)) (.cons (.ro .str) .nil)))))]⟩
def f187con (F : Int → TVal → Option Bool) : Con := ⟨f187in, f187out, 2, 1, fun x => F x.1 x.2⟩
def f187ctx (k : Nat) : Ctx := ⟨tyAt tys, conAt [(77, [f77con (impl_within k)]), (160, [f160con (impl_isInt32 k)])], 45, fun _ => false⟩
theorem f187hc (k : Nat) : CtxOk Try.prog (f187ctx k) := ctxOk tys_ok mixed_ok (consOk_cons (f77ok k) (consOk_cons (f160ok k) (consOk_nil)))
theorem f187ok (k : Nat) : FnOk Try.prog 187 (f187con (impl_ValOk k)) :=
  let hc := f187hc k
  fnOk (fn := Try.f187) (code := bodyOf Try.f187) (res := [.tmp 4]) hc (by kernel_rfl) (by kernel_rfl) (by decide) (by kernel_rfl) (by kernel_rfl) (by kernel_rfl) (Nat.le_of_ble_eq_true (by kernel_rfl)) _
    (fun x => Snd.seq (by kernel_rfl) (Snd.seq (by kernel_rfl) (Snd.exec hc _ _ _ _) (Snd.seq (by kernel_rfl) (Snd.block (id := 0) (by kernel_rfl) (Snd.seq (by kernel_rfl) (Snd.cond (x := .tmp 6) (by kernel_rfl) (Snd.exec hc _ _ _ _) (Snd.seq (by kernel_rfl) (Snd.cond (x := .tmp 16) (by kernel_rfl) (Snd.exec hc _ _ _ _) (Snd.seq (by kernel_rfl) (Snd.cut (Snd.exec hc _ _ _ _) ⟨f187s8, fun x => impl_ValOk.c8 k x.1.1 x.1.2.2 x.2⟩ (fun x => by kernel_rfl)) (Snd.exec hc _ _ _ _))) (Snd.exec hc _ _ _ _))) (Snd.exec hc _ _ _ _))) (Snd.exec hc _ _ _ _))) (Snd.exec hc _ _ _ _))
    (fun x => by kernel_rfl)

def f196i7in : SS := ⟨[(0, (.p 0))], [(0, (.box (.st (.cons (.list 126 (.st (.cons .str (.cons (.int .i64) (.cons (.int .i64) (.cons (.int .i64) .nil)))))) (.cons (.list 52 (.st (.cons (.int .i64) (.cons .str .nil)))) (.cons .bool (.cons .ptr (.cons .ptr .nil)))))) (.agg (.cons (.ro (.list 126 (.st (.cons .str (.cons (.int .i64) (.cons (.int .i64) (.cons (.int .i64) .nil))))))) (.cons (.ro (.list 52 (.st (.cons (.int .i64) (.cons .str .nil))))) (.cons (.ro .bool) (.cons (.fn 92 (.cons (.p 10) (.cons (.p 12) .nil))) (.cons (.fn 93 (.cons (.p 14) .nil)) .nil)))))))), (10, (.box (.list 50 (.st (.cons (.list 54 (.st (.cons (.int .i64) (.cons (.int .i64) (.cons (.st (.cons (.int .i64) (.cons .str .nil))) .nil))))) .nil))) (.h 11))), (11, (.sl 50 (.st (.cons (.list 54 (.st (.cons (.int .i64) (.cons (.int .i64) (.cons (.st (.cons (.int .i64) (.cons .str .nil))) .nil))))) .nil)))), (12, (.box (.list 3 (.int .i64)) (.h 13))), (13, (.sl 3 (.int .i64))), (14, (.box .ptr (.fn 92 (.cons (.p 10) (.cons (.p 12) .nil)))))]⟩
def f196i7out : SS := ⟨[(0, (.agg (.cons (.ro (.int .i64)) (.cons (.ro .str) .nil))))], [(0, (.box (.st (.cons (.list 126 (.st (.cons .str (.cons (.int .i64) (.cons (.int .i64) (.cons (.int .i64) .nil)))))) (.cons (.list 52 (.st (.cons (.int .i64) (.cons .str .nil)))) (.cons .bool (.cons .ptr (.cons .ptr .nil)))))) (.agg (.cons (.ro (.list 126 (.st (.cons .str (.cons (.int .i64) (.cons (.int .i64) (.cons (.int .i64) .nil))))))) (.cons (.ro (.list 52 (.st (.cons (.int .i64) (.cons .str .nil))))) (.cons (.ro .bool) (.cons (.fn 92 (.cons (.p 10) (.cons (.p 12) .nil))) (.cons (.fn 93 (.cons (.p 14) .nil)) .nil)))))))), (10, (.box (.list 50 (.st (.cons (.list 54 (.st (.cons (.int .i64) (.cons (.int .i64) (.cons (.st (.cons (.int .i64) (.cons .str .nil))) .nil))))) .nil))) (.h 11))), (11, (.sl 50 (.st (.cons (.list 54 (.st (.cons (.int .i64) (.cons (.int .i64) (.cons (.st (.cons (.int .i64) (.cons .str .nil))) .nil))))) .nil)))), (12, (.box (.list 3 (.int .i64)) (.h 13))), (13, (.sl 3 (.int .i64))), (14, (.box .ptr (.fn 92 (.cons (.p 10) (.cons (.p 12) .nil)))))]⟩
def f196i7con (F : TWalkerB → Unit → (List TColumn) → Unit → (List Int) → (Unit × Unit × Unit) → Option ((TVal) × TWalkerB × Unit × (List TColumn) × Unit × (List Int) × (Unit × Unit × Unit))) : Con := ⟨f196i7in, f196i7out, 1, 1, fun x => F x.2.1 x.2.2.1 x.2.2.2.1 x.2.2.2.2.1 x.2.2.2.2.2.1 x.2.2.2.2.2.2⟩
def f196i7ctx (k : Nat) : Ctx := ⟨tyAt tys, conAt [], 35, fun _ => false⟩
theorem f196i7hc (k : Nat) : CtxOk Try.prog (f196i7ctx k) := ctxOk tys_ok mixed_ok (consOk_nil)
theorem f196i7ok (k : Nat) : FnOk Try.prog 196 (f196i7con (impl_walker_next_of_Shred_1_Shred_2 k)) :=
  let hc := f196i7hc k
  fnOk (fn := Try.f196) (code := bodyOf Try.f196) (res := [.cell 2 52]) hc (by kernel_rfl) (by kernel_rfl) (by decide) (by kernel_rfl) (by kernel_rfl) (by kernel_rfl) (Nat.le_of_ble_eq_true (by kernel_rfl)) _
    (fun x => Snd.exec hc _ _ _ _)
    (fun x => by kernel_rfl)

def f225i13in : SS := ⟨[(0, (.p 0)), (1, (.ro (.int .i64)))], [(0, (.box (.st (.cons (.list 126 (.st (.cons .str (.cons (.int .i64) (.cons (.int .i64) (.cons (.int .i64) .nil)))))) (.cons (.list 52 (.st (.cons (.int .i64) (.cons .str .nil)))) (.cons .bool (.cons .ptr (.cons .ptr .nil)))))) (.agg (.cons (.ro (.list 126 (.st (.cons .str (.cons (.int .i64) (.cons (.int .i64) (.cons (.int .i64) .nil))))))) (.cons (.ro (.list 52 (.st (.cons (.int .i64) (.cons .str .nil))))) (.cons (.ro .bool) (.cons (.fn 92 (.cons (.p 10) (.cons (.p 12) .nil))) (.cons (.fn 93 (.cons (.p 14) .nil)) .nil)))))))), (10, (.box (.list 50 (.st (.cons (.list 54 (.st (.cons (.int .i64) (.cons (.int .i64) (.cons (.st (.cons (.int .i64) (.cons .str .nil))) .nil))))) .nil))) (.h 11))), (11, (.sl 50 (.st (.cons (.list 54 (.st (.cons (.int .i64) (.cons (.int .i64) (.cons (.st (.cons (.int .i64) (.cons .str .nil))) .nil))))) .nil)))), (12, (.box (.list 3 (.int .i64)) (.h 13))), (13, (.sl 3 (.int .i64))), (14, (.box .ptr (.fn 92 (.cons (.p 10) (.cons (.p 12) .nil)))))]⟩
def f225i13out : SS := ⟨[(0, (.ro (.int .i64)))], [(0, (.box (.st (.cons (.list 126 (.st (.cons .str (.cons (.int .i64) (.cons (.int .i64) (.cons (.int .i64) .nil)))))) (.cons (.list 52 (.st (.cons (.int .i64) (.cons .str .nil)))) (.cons .bool (.cons .ptr (.cons .ptr .nil)))))) (.agg (.cons (.ro (.list 126 (.st (.cons .str (.cons (.int .i64) (.cons (.int .i64) (.cons (.int .i64) .nil))))))) (.cons (.ro (.list 52 (.st (.cons (.int .i64) (.cons .str .nil))))) (.cons (.ro .bool) (.cons (.fn 92 (.cons (.p 10) (.cons (.p 12) .nil))) (.cons (.fn 93 (.cons (.p 14) .nil)) .nil)))))))), (10, (.box (.list 50 (.st (.cons (.list 54 (.st (.cons (.int .i64) (.cons (.int .i64) (.cons (.st (.cons (.int .i64) (.cons .str .nil))) .nil))))) .nil))) (.h 11))), (11, (.sl 50 (.st (.cons (.list 54 (.st (.cons (.int .i64) (.cons (.int .i64) (.cons (.st (.cons (.int .i64) (.cons .str .nil))) .nil))))) .nil)))), (12, (.box (.list 3 (.int .i64)) (.h 13))), (13, (.sl 3 (.int .i64))), (14, (.box .ptr (.fn 92 (.cons (.p 10) (.cons (.p 12) .nil)))))]⟩
def f225i13con (F : Int → TWalkerB → Unit → (List TColumn) → Unit → (List Int) → (Unit × Unit × Unit) → Option (Int × TWalkerB × Unit × (List TColumn) × Unit × (List Int) × (Unit × Unit × Unit))) : Con := ⟨f225i13in, f225i13out, 2, 1, fun x => F x.1.2 x.2.1 x.2.2.1 x.2.2.2.1 x.2.2.2.2.1 x.2.2.2.2.2.1 x.2.2.2.2.2.2⟩
def f225i13ctx (k : Nat) : Ctx := ⟨tyAt tys, conAt [(77, [f77con (impl_within k)]), (196, [f196i7con (impl_walker_next_of_Shred_1_Shred_2 k)])], 23, fun _ => false⟩
theorem f225i13hc (k : Nat) : CtxOk Try.prog (f225i13ctx k) := ctxOk tys_ok mixed_ok (consOk_cons (f77ok k) (consOk_cons (f196i7ok k) (consOk_nil)))
theorem f225i13ok (k : Nat) : FnOk Try.prog 225 (f225i13con (impl_walker_count_of_Shred_1_Shred_2 k)) :=
  let hc := f225i13hc k
  fnOk (fn := Try.f225) (code := bodyOf Try.f225) (res := [.tmp 4]) hc (by kernel_rfl) (by kernel_rfl) (by decide) (by kernel_rfl) (by kernel_rfl) (by kernel_rfl) (Nat.le_of_ble_eq_true (by kernel_rfl)) _
    (fun x => Snd.exec hc _ _ _ _)
    (fun x => by kernel_rfl)

def f92i16in : SS := ⟨[(0, (.ro (.int .i64))), (1, (.ro (.int .i64))), (2, (.ro (.int .i64))), (3, (.ro (.st (.cons (.int .i64) (.cons .str .nil))))), (4, (.p 4)), (5, (.p 5))], [(4, (.box (.list 50 (.st (.cons (.list 54 (.st (.cons (.int .i64) (.cons (.int .i64) (.cons (.st (.cons (.int .i64) (.cons .str .nil))) .nil))))) .nil))) (.h 10))), (5, (.box (.list 3 (.int .i64)) (.h 11))), (10, (.sl 50 (.st (.cons (.list 54 (.st (.cons (.int .i64) (.cons (.int .i64) (.cons (.st (.cons (.int .i64) (.cons .str .nil))) .nil))))) .nil)))), (11, (.sl 3 (.int .i64)))]⟩
def f92i16out : SS := ⟨[], [(4, (.box (.list 50 (.st (.cons (.list 54 (.st (.cons (.int .i64) (.cons (.int .i64) (.cons (.st (.cons (.int .i64) (.cons .str .nil))) .nil))))) .nil))) (.h 10))), (5, (.box (.list 3 (.int .i64)) (.h 11))), (10, (.sl 50 (.st (.cons (.list 54 (.st (.cons (.int .i64) (.cons (.int .i64) (.cons (.st (.cons (.int .i64) (.cons .str .nil))) .nil))))) .nil)))), (11, (.sl 3 (.int .i64)))]⟩
def f92i16con (F : Int → Int → Int → TVal → Unit → Unit → (List TColumn) → (List Int) → Option (Unit × Unit × Unit × (List TColumn) × (List Int))) : Con := ⟨f92i16in, f92i16out, 6, 0, fun x => F x.1.1 x.1.2.1 x.1.2.2.1 x.1.2.2.2.1 x.2.1 x.2.2.1 x.2.2.2.1 x.2.2.2.2⟩
def f92i16ctx (k : Nat) : Ctx := ⟨tyAt tys, conAt [], 30, fun _ => false⟩
theorem f92i16hc (k : Nat) : CtxOk Try.prog (f92i16ctx k) := ctxOk tys_ok mixed_ok (consOk_nil)
theorem f92i16ok (k : Nat) : FnOk Try.prog 92 (f92i16con (impl_Shred_1 k)) :=
  let hc := f92i16hc k
  fnOk (fn := Try.f92) (code := bodyOf Try.f92) (res := []) hc (by kernel_rfl) (by kernel_rfl) (by decide) (by kernel_rfl) (by kernel_rfl) (by kernel_rfl) (Nat.le_of_ble_eq_true (by kernel_rfl)) _
    (fun x => Snd.exec hc _ _ _ _)
    (fun x => by kernel_rfl)

def f93i21in : SS := ⟨[(0, (.ro (.int .i64))), (1, (.ro (.int .i64))), (2, (.ro (.int .i64))), (3, (.p 3))], [(3, (.box .ptr (.fn 92 (.cons (.p 10) (.cons (.p 12) .nil))))), (10, (.box (.list 50 (.st (.cons (.list 54 (.st (.cons (.int .i64) (.cons (.int .i64) (.cons (.st (.cons (.int .i64) (.cons .str .nil))) .nil))))) .nil))) (.h 11))), (11, (.sl 50 (.st (.cons (.list 54 (.st (.cons (.int .i64) (.cons (.int .i64) (.cons (.st (.cons (.int .i64) (.cons .str .nil))) .nil))))) .nil)))), (12, (.box (.list 3 (.int .i64)) (.h 13))), (13, (.sl 3 (.int .i64)))]⟩
def f93i21out : SS := ⟨[], [(3, (.box .ptr (.fn 92 (.cons (.p 10) (.cons (.p 12) .nil))))), (10, (.box (.list 50 (.st (.cons (.list 54 (.st (.cons (.int .i64) (.cons (.int .i64) (.cons (.st (.cons (.int .i64) (.cons .str .nil))) .nil))))) .nil))) (.h 11))), (11, (.sl 50 (.st (.cons (.list 54 (.st (.cons (.int .i64) (.cons (.int .i64) (.cons (.st (.cons (.int .i64) (.cons .str .nil))) .nil))))) .nil)))), (12, (.box (.list 3 (.int .i64)) (.h 13))), (13, (.sl 3 (.int .i64)))]⟩
def f93i21con (F : Int → Int → Int → (Unit × Unit × Unit) → Unit → (List TColumn) → Unit → (List Int) → Option (Unit × (Unit × Unit × Unit) × Unit × (List TColumn) × Unit × (List Int))) : Con := ⟨f93i21in, f93i21out, 4, 0, fun x => F x.1.1 x.1.2.1 x.1.2.2.1 x.2.1 x.2.2.1 x.2.2.2.1 x.2.2.2.2.1 x.2.2.2.2.2⟩
def f93i21ctx (k : Nat) : Ctx := ⟨tyAt tys, conAt [(92, [f92i16con (impl_Shred_1 k)])], 13, fun _ => false⟩
theorem f93i21hc (k : Nat) : CtxOk Try.prog (f93i21ctx k) := ctxOk tys_ok mixed_ok (consOk_cons (f92i16ok k) (consOk_nil))
theorem f93i21ok (k : Nat) : FnOk Try.prog 93 (f93i21con (impl_Shred_2_of_Shred_1 k)) :=
  let hc := f93i21hc k
  fnOk (fn := Try.f93) (code := bodyOf Try.f93) (res := []) hc (by kernel_rfl) (by kernel_rfl) (by decide) (by kernel_rfl) (by kernel_rfl) (by kernel_rfl) (Nat.le_of_ble_eq_true (by kernel_rfl)) _
    (fun x => Snd.exec hc _ _ _ _)
    (fun x => by kernel_rfl)

def f226i18in : SS := ⟨[(0, (.p 0)), (1, (.ro (.int .i64))), (2, (.ro (.int .i64))), (3, (.ro (.int .i64)))], [(0, (.box (.st (.cons (.list 126 (.st (.cons .str (.cons (.int .i64) (.cons (.int .i64) (.cons (.int .i64) .nil)))))) (.cons (.list 52 (.st (.cons (.int .i64) (.cons .str .nil)))) (.cons .bool (.cons .ptr (.cons .ptr .nil)))))) (.agg (.cons (.ro (.list 126 (.st (.cons .str (.cons (.int .i64) (.cons (.int .i64) (.cons (.int .i64) .nil))))))) (.cons (.ro (.list 52 (.st (.cons (.int .i64) (.cons .str .nil))))) (.cons (.ro .bool) (.cons (.fn 92 (.cons (.p 10) (.cons (.p 12) .nil))) (.cons (.fn 93 (.cons (.p 14) .nil)) .nil)))))))), (10, (.box (.list 50 (.st (.cons (.list 54 (.st (.cons (.int .i64) (.cons (.int .i64) (.cons (.st (.cons (.int .i64) (.cons .str .nil))) .nil))))) .nil))) (.h 11))), (11, (.sl 50 (.st (.cons (.list 54 (.st (.cons (.int .i64) (.cons (.int .i64) (.cons (.st (.cons (.int .i64) (.cons .str .nil))) .nil))))) .nil)))), (12, (.box (.list 3 (.int .i64)) (.h 13))), (13, (.sl 3 (.int .i64))), (14, (.box .ptr (.fn 92 (.cons (.p 10) (.cons (.p 12) .nil)))))]⟩
def f226i18out : SS := ⟨[(0, (.ro (.int .i64)))], [(0, (.box (.st (.cons (.list 126 (.st (.cons .str (.cons (.int .i64) (.cons (.int .i64) (.cons (.int .i64) .nil)))))) (.cons (.list 52 (.st (.cons (.int .i64) (.cons .str .nil)))) (.cons .bool (.cons .ptr (.cons .ptr .nil)))))) (.agg (.cons (.ro (.list 126 (.st (.cons .str (.cons (.int .i64) (.cons (.int .i64) (.cons (.int .i64) .nil))))))) (.cons (.ro (.list 52 (.st (.cons (.int .i64) (.cons .str .nil))))) (.cons (.ro .bool) (.cons (.fn 92 (.cons (.p 10) (.cons (.p 12) .nil))) (.cons (.fn 93 (.cons (.p 14) .nil)) .nil)))))))), (10, (.box (.list 50 (.st (.cons (.list 54 (.st (.cons (.int .i64) (.cons (.int .i64) (.cons (.st (.cons (.int .i64) (.cons .str .nil))) .nil))))) .nil))) (.h 11))), (11, (.sl 50 (.st (.cons (.list 54 (.st (.cons (.int .i64) (.cons (.int .i64) (.cons (.st (.cons (.int .i64) (.cons .str .nil))) .nil))))) .nil)))), (12, (.box (.list 3 (.int .i64)) (.h 13))), (13, (.sl 3 (.int .i64))), (14, (.box .ptr (.fn 92 (.cons (.p 10) (.cons (.p 12) .nil)))))]⟩
def f226i18s4 : SS := ⟨[(0, (.p 0)), (2, (.ro (.int .i64))), (3, (.ro (.int .i64))), (9, (.ro (.int .i64))), (10, (.ro (.int .i64)))], [(0, (.box (.st (.cons (.list 126 (.st (.cons .str (.cons (.int .i64) (.cons (.int .i64) (.cons (.int .i64) .nil)))))) (.cons (.list 52 (.st (.cons (.int .i64) (.cons .str .nil)))) (.cons .bool (.cons .ptr (.cons .ptr .nil)))))) (.agg (.cons (.ro (.list 126 (.st (.cons .str (.cons (.int .i64) (.cons (.int .i64) (.cons (.int .i64) .nil))))))) (.cons (.ro (.list 52 (.st (.cons (.int .i64) (.cons .str .nil))))) (.cons (.ro .bool) (.cons (.fn 92 (.cons (.p 10) (.cons (.p 12) .nil))) (.cons (.fn 93 (.cons (.p 14) .nil)) .nil)))))))), (10, (.box (.list 50 (.st (.cons (.list 54 (.st (.cons (.int .i64) (.cons (.int .i64) (.cons (.st (.cons (.int .i64) (.cons .str .nil))) .nil))))) .nil))) (.h 11))), (11, (.sl 50 (.st (.cons (.list 54 (.st (.cons (.int .i64) (.cons (.int .i64) (.cons (.st (.cons (.int .i64) (.cons .str .nil))) .nil))))) .nil)))), (12, (.box (.list 3 (.int .i64)) (.h 13))), (13, (.sl 3 (.int .i64))), (14, (.box .ptr (.fn 92 (.cons (.p 10) (.cons (.p 12) .nil)))))]⟩
def f226i18s3 : SS := ⟨[(0, (.p 0)), (2, (.ro (.int .i64))), (3, (.ro (.int .i64))), (9, (.ro (.int .i64))), (10, (.ro (.int .i64)))], [(0, (.box (.st (.cons (.list 126 (.st (.cons .str (.cons (.int .i64) (.cons (.int .i64) (.cons (.int .i64) .nil)))))) (.cons (.list 52 (.st (.cons (.int .i64) (.cons .str .nil)))) (.cons .bool (.cons .ptr (.cons .ptr .nil)))))) (.agg (.cons (.ro (.list 126 (.st (.cons .str (.cons (.int .i64) (.cons (.int .i64) (.cons (.int .i64) .nil))))))) (.cons (.ro (.list 52 (.st (.cons (.int .i64) (.cons .str .nil))))) (.cons (.ro .bool) (.cons (.fn 92 (.cons (.p 10) (.cons (.p 12) .nil))) (.cons (.fn 93 (.cons (.p 14) .nil)) .nil)))))))), (10, (.box (.list 50 (.st (.cons (.list 54 (.st (.cons (.int .i64) (.cons (.int .i64) (.cons (.st (.cons (.int .i64) (.cons .str .nil))) .nil))))) .nil))) (.h 11))), (11, (.sl 50 (.st (.cons (.list 54 (.st (.cons (.int .i64) (.cons (.int .i64) (.cons (.st (.cons (.int .i64) (.cons .str .nil))) .nil))))) .nil)))), (12, (.box (.list 3 (.int .i64)) (.h 13))), (13, (.sl 3 (.int .i64))), (14, (.box .ptr (.fn 92 (.cons (.p 10) (.cons (.p 12) .nil)))))]⟩
def f226i18con (F : Int → Int → Int → TWalkerB → Unit → (List TColumn) → Unit → (List Int) → (Unit × Unit × Unit) → Option (Int × TWalkerB × Unit × (List TColumn) × Unit × (List Int) × (Unit × Unit × Unit))) : Con := ⟨f226i18in, f226i18out, 4, 1, fun x => F x.1.2.1 x.1.2.2.1 x.1.2.2.2 x.2.1 x.2.2.1 x.2.2.2.1 x.2.2.2.2.1 x.2.2.2.2.2.1 x.2.2.2.2.2.2⟩
def f226i18ctx (k : Nat) : Ctx := ⟨tyAt tys, conAt [(93, [f93i21con (impl_Shred_2_of_Shred_1 k)]), (140, [f140con (impl_colAfter k)])], 41, fun _ => false⟩
theorem f226i18hc (k : Nat) : CtxOk Try.prog (f226i18ctx k) := ctxOk tys_ok mixed_ok (consOk_cons (f93i21ok k) (consOk_cons (f140ok k) (consOk_nil)))
theorem f226i18ok (k : Nat) : FnOk Try.prog 226 (f226i18con (impl_walker_missing_of_Shred_1_Shred_2 k)) :=
  let hc := f226i18hc k
  fnOk (fn := Try.f226) (code := bodyOf Try.f226) (res := [.tmp 8]) hc (by kernel_rfl) (by kernel_rfl) (by decide) (by kernel_rfl) (by kernel_rfl) (by kernel_rfl) (Nat.le_of_ble_eq_true (by kernel_rfl)) _
    (fun x => Snd.seq (by kernel_rfl) (Snd.seq (by kernel_rfl) (Snd.seq (by kernel_rfl) (Snd.exec hc _ _ _ _) (Snd.seq (by kernel_rfl) (Snd.block (id := 0) (by kernel_rfl) (Snd.loop' (by kernel_rfl) f226i18s3 (fun n x => impl_walker_missing_of_Shred_1_Shred_2.l3 k n x.1.2.1 x.1.2.2.1 x.1.2.2.2.1 x.1.2.2.2.2 x.2.1 x.2.2.1 x.2.2.2.1 x.2.2.2.2.1 x.2.2.2.2.2.1 x.2.2.2.2.2.2) _ (fun _ => rfl) (fun n3 => Snd.seq (by kernel_rfl) (Snd.seq (by kernel_rfl) (Snd.cut (Snd.exec hc _ _ _ _) ⟨f226i18s4, fun x => impl_walker_missing_of_Shred_1_Shred_2.c4 k (impl_walker_missing_of_Shred_1_Shred_2.l3 k n3) x.1.2.1 x.1.2.2.1 x.1.2.2.2.1 x.1.2.2.2.2 x.2.1 x.2.2.1 x.2.2.2.1 x.2.2.2.2.1 x.2.2.2.2.2.1 x.2.2.2.2.2.2⟩ (fun x => by kernel_rfl)) (Snd.exec hc _ _ _ _)) (Snd.exec hc _ _ _ _)) (fun n x => by kernel_rfl) k)) (Snd.exec hc _ _ _ _))) (Snd.exec hc _ _ _ _)) (Snd.exec hc _ _ _ _))
    (fun x => by kernel_rfl)

def f141i4in : SS := ⟨[(0, (.p 0)), (1, (.ro (.int .i64))), (2, (.ro (.int .i64))), (3, (.ro (.int .i64))), (4, (.ro (.int .i64)))], [(0, (.box (.st (.cons (.list 126 (.st (.cons .str (.cons (.int .i64) (.cons (.int .i64) (.cons (.int .i64) .nil)))))) (.cons (.list 52 (.st (.cons (.int .i64) (.cons .str .nil)))) (.cons .bool (.cons .ptr (.cons .ptr .nil)))))) (.agg (.cons (.ro (.list 126 (.st (.cons .str (.cons (.int .i64) (.cons (.int .i64) (.cons (.int .i64) .nil))))))) (.cons (.ro (.list 52 (.st (.cons (.int .i64) (.cons .str .nil))))) (.cons (.ro .bool) (.cons (.fn 92 (.cons (.p 10) (.cons (.p 12) .nil))) (.cons (.fn 93 (.cons (.p 14) .nil)) .nil)))))))), (10, (.box (.list 50 (.st (.cons (.list 54 (.st (.cons (.int .i64) (.cons (.int .i64) (.cons (.st (.cons (.int .i64) (.cons .str .nil))) .nil))))) .nil))) (.h 11))), (11, (.sl 50 (.st (.cons (.list 54 (.st (.cons (.int .i64) (.cons (.int .i64) (.cons (.st (.cons (.int .i64) (.cons .str .nil))) .nil))))) .nil)))), (12, (.box (.list 3 (.int .i64)) (.h 13))), (13, (.sl 3 (.int .i64))), (14, (.box .ptr (.fn 92 (.cons (.p 10) (.cons (.p 12) .nil)))))]⟩
def f141i4out : SS := ⟨[(0, (.ro (.int .i64)))], [(0, (.box (.st (.cons (.list 126 (.st (.cons .str (.cons (.int .i64) (.cons (.int .i64) (.cons (.int .i64) .nil)))))) (.cons (.list 52 (.st (.cons (.int .i64) (.cons .str .nil)))) (.cons .bool (.cons .ptr (.cons .ptr .nil)))))) (.agg (.cons (.ro (.list 126 (.st (.cons .str (.cons (.int .i64) (.cons (.int .i64) (.cons (.int .i64) .nil))))))) (.cons (.ro (.list 52 (.st (.cons (.int .i64) (.cons .str .nil))))) (.cons (.ro .bool) (.cons (.fn 92 (.cons (.p 10) (.cons (.p 12) .nil))) (.cons (.fn 93 (.cons (.p 14) .nil)) .nil)))))))), (10, (.box (.list 50 (.st (.cons (.list 54 (.st (.cons (.int .i64) (.cons (.int .i64) (.cons (.st (.cons (.int .i64) (.cons .str .nil))) .nil))))) .nil))) (.h 11))), (11, (.sl 50 (.st (.cons (.list 54 (.st (.cons (.int .i64) (.cons (.int .i64) (.cons (.st (.cons (.int .i64) (.cons .str .nil))) .nil))))) .nil)))), (12, (.box (.list 3 (.int .i64)) (.h 13))), (13, (.sl 3 (.int .i64))), (14, (.box .ptr (.fn 92 (.cons (.p 10) (.cons (.p 12) .nil)))))]⟩
def f141i4s14 : SS := ⟨[(12, (.ro (.int .i64)))], [(0, (.box (.st (.cons (.list 126 (.st (.cons .str (.cons (.int .i64) (.cons (.int .i64) (.cons (.int .i64) .nil)))))) (.cons (.list 52 (.st (.cons (.int .i64) (.cons .str .nil)))) (.cons .bool (.cons .ptr (.cons .ptr .nil)))))) (.agg (.cons (.ro (.list 126 (.st (.cons .str (.cons (.int .i64) (.cons (.int .i64) (.cons (.int .i64) .nil))))))) (.cons (.ro (.list 52 (.st (.cons (.int .i64) (.cons .str .nil))))) (.cons (.ro .bool) (.cons (.fn 92 (.cons (.p 10) (.cons (.p 12) .nil))) (.cons (.fn 93 (.cons (.p 14) .nil)) .nil)))))))), (10, (.box (.list 50 (.st (.cons (.list 54 (.st (.cons (.int .i64) (.cons (.int .i64) (.cons (.st (.cons (.int .i64) (.cons .str .nil))) .nil))))) .nil))) (.h 11))), (11, (.sl 50 (.st (.cons (.list 54 (.st (.cons (.int .i64) (.cons (.int .i64) (.cons (.st (.cons (.int .i64) (.cons .str .nil))) .nil))))) .nil)))), (12, (.box (.list 3 (.int .i64)) (.h 13))), (13, (.sl 3 (.int .i64))), (14, (.box .ptr (.fn 92 (.cons (.p 10) (.cons (.p 12) .nil)))))]⟩
def f141i4s10 : SS := ⟨[(0, (.p 0)), (2, (.ro (.int .i64))), (3, (.ro (.int .i64))), (4, (.ro (.int .i64))), (12, (.ro (.int .i64))), (70, (.ro (.int .i64))), (71, (.ro (.int .i64)))], [(0, (.box (.st (.cons (.list 126 (.st (.cons .str (.cons (.int .i64) (.cons (.int .i64) (.cons (.int .i64) .nil)))))) (.cons (.list 52 (.st (.cons (.int .i64) (.cons .str .nil)))) (.cons .bool (.cons .ptr (.cons .ptr .nil)))))) (.agg (.cons (.ro (.list 126 (.st (.cons .str (.cons (.int .i64) (.cons (.int .i64) (.cons (.int .i64) .nil))))))) (.cons (.ro (.list 52 (.st (.cons (.int .i64) (.cons .str .nil))))) (.cons (.ro .bool) (.cons (.fn 92 (.cons (.p 10) (.cons (.p 12) .nil))) (.cons (.fn 93 (.cons (.p 14) .nil)) .nil)))))))), (10, (.box (.list 50 (.st (.cons (.list 54 (.st (.cons (.int .i64) (.cons (.int .i64) (.cons (.st (.cons (.int .i64) (.cons .str .nil))) .nil))))) .nil))) (.h 11))), (11, (.sl 50 (.st (.cons (.list 54 (.st (.cons (.int .i64) (.cons (.int .i64) (.cons (.st (.cons (.int .i64) (.cons .str .nil))) .nil))))) .nil)))), (12, (.box (.list 3 (.int .i64)) (.h 13))), (13, (.sl 3 (.int .i64))), (14, (.box .ptr (.fn 92 (.cons (.p 10) (.cons (.p 12) .nil)))))]⟩
def f141i4s7 : SS := ⟨[(1, (.ro (.int .i64)))], [(0, (.box (.st (.cons (.list 126 (.st (.cons .str (.cons (.int .i64) (.cons (.int .i64) (.cons (.int .i64) .nil)))))) (.cons (.list 52 (.st (.cons (.int .i64) (.cons .str .nil)))) (.cons .bool (.cons .ptr (.cons .ptr .nil)))))) (.agg (.cons (.ro (.list 126 (.st (.cons .str (.cons (.int .i64) (.cons (.int .i64) (.cons (.int .i64) .nil))))))) (.cons (.ro (.list 52 (.st (.cons (.int .i64) (.cons .str .nil))))) (.cons (.ro .bool) (.cons (.fn 92 (.cons (.p 10) (.cons (.p 12) .nil))) (.cons (.fn 93 (.cons (.p 14) .nil)) .nil)))))))), (10, (.box (.list 50 (.st (.cons (.list 54 (.st (.cons (.int .i64) (.cons (.int .i64) (.cons (.st (.cons (.int .i64) (.cons .str .nil))) .nil))))) .nil))) (.h 11))), (11, (.sl 50 (.st (.cons (.list 54 (.st (.cons (.int .i64) (.cons (.int .i64) (.cons (.st (.cons (.int .i64) (.cons .str .nil))) .nil))))) .nil)))), (12, (.box (.list 3 (.int .i64)) (.h 13))), (13, (.sl 3 (.int .i64))), (14, (.box .ptr (.fn 92 (.cons (.p 10) (.cons (.p 12) .nil)))))]⟩
def f141i4s5 : SS := ⟨[(0, (.p 0)), (1, (.ro (.int .i64))), (2, (.ro (.int .i64))), (3, (.ro (.int .i64))), (11, (.p 100))], [(0, (.box (.st (.cons (.list 126 (.st (.cons .str (.cons (.int .i64) (.cons (.int .i64) (.cons (.int .i64) .nil)))))) (.cons (.list 52 (.st (.cons (.int .i64) (.cons .str .nil)))) (.cons .bool (.cons .ptr (.cons .ptr .nil)))))) (.agg (.cons (.ro (.list 126 (.st (.cons .str (.cons (.int .i64) (.cons (.int .i64) (.cons (.int .i64) .nil))))))) (.cons (.ro (.list 52 (.st (.cons (.int .i64) (.cons .str .nil))))) (.cons (.ro .bool) (.cons (.fn 92 (.cons (.p 10) (.cons (.p 12) .nil))) (.cons (.fn 93 (.cons (.p 14) .nil)) .nil)))))))), (10, (.box (.list 50 (.st (.cons (.list 54 (.st (.cons (.int .i64) (.cons (.int .i64) (.cons (.st (.cons (.int .i64) (.cons .str .nil))) .nil))))) .nil))) (.h 11))), (11, (.sl 50 (.st (.cons (.list 54 (.st (.cons (.int .i64) (.cons (.int .i64) (.cons (.st (.cons (.int .i64) (.cons .str .nil))) .nil))))) .nil)))), (12, (.box (.list 3 (.int .i64)) (.h 13))), (13, (.sl 3 (.int .i64))), (14, (.box .ptr (.fn 92 (.cons (.p 10) (.cons (.p 12) .nil))))), (100, (.box (.st (.cons (.int .i64) (.cons .str .nil))) (.agg (.cons (.ro (.int .i64)) (.cons (.ro .str) .nil)))))]⟩
def f141i4d3 : SS := ⟨[(0, (.p 0)), (1, (.ro (.int .i64))), (2, (.ro (.int .i64))), (3, (.ro (.int .i64))), (11, (.p 100))], [(0, (.box (.st (.cons (.list 126 (.st (.cons .str (.cons (.int .i64) (.cons (.int .i64) (.cons (.int .i64) .nil)))))) (.cons (.list 52 (.st (.cons (.int .i64) (.cons .str .nil)))) (.cons .bool (.cons .ptr (.cons .ptr .nil)))))) (.agg (.cons (.ro (.list 126 (.st (.cons .str (.cons (.int .i64) (.cons (.int .i64) (.cons (.int .i64) .nil))))))) (.cons (.ro (.list 52 (.st (.cons (.int .i64) (.cons .str .nil))))) (.cons (.ro .bool) (.cons (.fn 92 (.cons (.p 10) (.cons (.p 12) .nil))) (.cons (.fn 93 (.cons (.p 14) .nil)) .nil)))))))), (10, (.box (.list 50 (.st (.cons (.list 54 (.st (.cons (.int .i64) (.cons (.int .i64) (.cons (.st (.cons (.int .i64) (.cons .str .nil))) .nil))))) .nil))) (.h 11))), (11, (.sl 50 (.st (.cons (.list 54 (.st (.cons (.int .i64) (.cons (.int .i64) (.cons (.st (.cons (.int .i64) (.cons .str .nil))) .nil))))) .nil)))), (12, (.box (.list 3 (.int .i64)) (.h 13))), (13, (.sl 3 (.int .i64))), (14, (.box .ptr (.fn 92 (.cons (.p 10) (.cons (.p 12) .nil))))), (100, (.box (.st (.cons (.int .i64) (.cons .str .nil))) (.agg (.cons (.ro (.int .i64)) (.cons (.ro .str) .nil)))))]⟩
def f141i4con (F : Int → Int → Int → Int → TWalkerB → Unit → (List TColumn) → Unit → (List Int) → (Unit × Unit × Unit) → Option (Int × TWalkerB × Unit × (List TColumn) × Unit × (List Int) × (Unit × Unit × Unit))) : Con := ⟨f141i4in, f141i4out, 5, 1, fun x => F x.1.2.1 x.1.2.2.1 x.1.2.2.2.1 x.1.2.2.2.2 x.2.1 x.2.2.1 x.2.2.2.1 x.2.2.2.2.1 x.2.2.2.2.2.1 x.2.2.2.2.2.2⟩
def f197i8in : SS := ⟨[(0, (.p 0)), (1, (.ro (.int .i64))), (2, (.ro (.int .i64))), (3, (.ro (.int .i64))), (4, (.ro (.int .i64)))], [(0, (.box (.st (.cons (.list 126 (.st (.cons .str (.cons (.int .i64) (.cons (.int .i64) (.cons (.int .i64) .nil)))))) (.cons (.list 52 (.st (.cons (.int .i64) (.cons .str .nil)))) (.cons .bool (.cons .ptr (.cons .ptr .nil)))))) (.agg (.cons (.ro (.list 126 (.st (.cons .str (.cons (.int .i64) (.cons (.int .i64) (.cons (.int .i64) .nil))))))) (.cons (.ro (.list 52 (.st (.cons (.int .i64) (.cons .str .nil))))) (.cons (.ro .bool) (.cons (.fn 92 (.cons (.p 10) (.cons (.p 12) .nil))) (.cons (.fn 93 (.cons (.p 14) .nil)) .nil)))))))), (10, (.box (.list 50 (.st (.cons (.list 54 (.st (.cons (.int .i64) (.cons (.int .i64) (.cons (.st (.cons (.int .i64) (.cons .str .nil))) .nil))))) .nil))) (.h 11))), (11, (.sl 50 (.st (.cons (.list 54 (.st (.cons (.int .i64) (.cons (.int .i64) (.cons (.st (.cons (.int .i64) (.cons .str .nil))) .nil))))) .nil)))), (12, (.box (.list 3 (.int .i64)) (.h 13))), (13, (.sl 3 (.int .i64))), (14, (.box .ptr (.fn 92 (.cons (.p 10) (.cons (.p 12) .nil)))))]⟩
def f197i8out : SS := ⟨[(0, (.ro (.int .i64)))], [(0, (.box (.st (.cons (.list 126 (.st (.cons .str (.cons (.int .i64) (.cons (.int .i64) (.cons (.int .i64) .nil)))))) (.cons (.list 52 (.st (.cons (.int .i64) (.cons .str .nil)))) (.cons .bool (.cons .ptr (.cons .ptr .nil)))))) (.agg (.cons (.ro (.list 126 (.st (.cons .str (.cons (.int .i64) (.cons (.int .i64) (.cons (.int .i64) .nil))))))) (.cons (.ro (.list 52 (.st (.cons (.int .i64) (.cons .str .nil))))) (.cons (.ro .bool) (.cons (.fn 92 (.cons (.p 10) (.cons (.p 12) .nil))) (.cons (.fn 93 (.cons (.p 14) .nil)) .nil)))))))), (10, (.box (.list 50 (.st (.cons (.list 54 (.st (.cons (.int .i64) (.cons (.int .i64) (.cons (.st (.cons (.int .i64) (.cons .str .nil))) .nil))))) .nil))) (.h 11))), (11, (.sl 50 (.st (.cons (.list 54 (.st (.cons (.int .i64) (.cons (.int .i64) (.cons (.st (.cons (.int .i64) (.cons .str .nil))) .nil))))) .nil)))), (12, (.box (.list 3 (.int .i64)) (.h 13))), (13, (.sl 3 (.int .i64))), (14, (.box .ptr (.fn 92 (.cons (.p 10) (.cons (.p 12) .nil)))))]⟩
def f197i8s18 : SS := ⟨[(0, (.p 0)), (1, (.ro (.int .i64))), (2, (.ro (.int .i64))), (3, (.ro (.int .i64))), (4, (.ro (.int .i64)))], [(0, (.box (.st (.cons (.list 126 (.st (.cons .str (.cons (.int .i64) (.cons (.int .i64) (.cons (.int .i64) .nil)))))) (.cons (.list 52 (.st (.cons (.int .i64) (.cons .str .nil)))) (.cons .bool (.cons .ptr (.cons .ptr .nil)))))) (.agg (.cons (.ro (.list 126 (.st (.cons .str (.cons (.int .i64) (.cons (.int .i64) (.cons (.int .i64) .nil))))))) (.cons (.ro (.list 52 (.st (.cons (.int .i64) (.cons .str .nil))))) (.cons (.ro .bool) (.cons (.fn 92 (.cons (.p 10) (.cons (.p 12) .nil))) (.cons (.fn 93 (.cons (.p 14) .nil)) .nil)))))))), (10, (.box (.list 50 (.st (.cons (.list 54 (.st (.cons (.int .i64) (.cons (.int .i64) (.cons (.st (.cons (.int .i64) (.cons .str .nil))) .nil))))) .nil))) (.h 11))), (11, (.sl 50 (.st (.cons (.list 54 (.st (.cons (.int .i64) (.cons (.int .i64) (.cons (.st (.cons (.int .i64) (.cons .str .nil))) .nil))))) .nil)))), (12, (.box (.list 3 (.int .i64)) (.h 13))), (13, (.sl 3 (.int .i64))), (14, (.box .ptr (.fn 92 (.cons (.p 10) (.cons (.p 12) .nil)))))]⟩
def f197i8s14 : SS := ⟨[(0, (.p 0)), (1, (.ro (.int .i64))), (3, (.ro (.int .i64))), (4, (.ro (.int .i64))), (12, (.ro (.int .i64))), (13, (.ro (.int .i64)))], [(0, (.box (.st (.cons (.list 126 (.st (.cons .str (.cons (.int .i64) (.cons (.int .i64) (.cons (.int .i64) .nil)))))) (.cons (.list 52 (.st (.cons (.int .i64) (.cons .str .nil)))) (.cons .bool (.cons .ptr (.cons .ptr .nil)))))) (.agg (.cons (.ro (.list 126 (.st (.cons .str (.cons (.int .i64) (.cons (.int .i64) (.cons (.int .i64) .nil))))))) (.cons (.ro (.list 52 (.st (.cons (.int .i64) (.cons .str .nil))))) (.cons (.ro .bool) (.cons (.fn 92 (.cons (.p 10) (.cons (.p 12) .nil))) (.cons (.fn 93 (.cons (.p 14) .nil)) .nil)))))))), (10, (.box (.list 50 (.st (.cons (.list 54 (.st (.cons (.int .i64) (.cons (.int .i64) (.cons (.st (.cons (.int .i64) (.cons .str .nil))) .nil))))) .nil))) (.h 11))), (11, (.sl 50 (.st (.cons (.list 54 (.st (.cons (.int .i64) (.cons (.int .i64) (.cons (.st (.cons (.int .i64) (.cons .str .nil))) .nil))))) .nil)))), (12, (.box (.list 3 (.int .i64)) (.h 13))), (13, (.sl 3 (.int .i64))), (14, (.box .ptr (.fn 92 (.cons (.p 10) (.cons (.p 12) .nil)))))]⟩
def f197i8con (F : Int → Int → Int → Int → TWalkerB → Unit → (List TColumn) → Unit → (List Int) → (Unit × Unit × Unit) → Option (Int × TWalkerB × Unit × (List TColumn) × Unit × (List Int) × (Unit × Unit × Unit))) : Con := ⟨f197i8in, f197i8out, 5, 1, fun x => F x.1.2.1 x.1.2.2.1 x.1.2.2.2.1 x.1.2.2.2.2 x.2.1 x.2.2.1 x.2.2.2.1 x.2.2.2.2.1 x.2.2.2.2.2.1 x.2.2.2.2.2.2⟩
def f141i4ctx (k : Nat) (S141i4 : Int → Int → Int → Int → TWalkerB → Unit → (List TColumn) → Unit → (List Int) → (Unit × Unit × Unit) → Option (Int × TWalkerB × Unit × (List TColumn) × Unit × (List Int) × (Unit × Unit × Unit))) (S197i8 : Int → Int → Int → Int → TWalkerB → Unit → (List TColumn) → Unit → (List Int) → (Unit × Unit × Unit) → Option (Int × TWalkerB × Unit × (List TColumn) × Unit × (List Int) × (Unit × Unit × Unit))) : Ctx := ⟨tyAt tys, conAt [(92, [f92i16con (impl_Shred_1 k)]), (187, [f187con (impl_ValOk k)]), (196, [f196i7con (impl_walker_next_of_Shred_1_Shred_2 k)]), (197, [f197i8con S197i8])], 85, fun _ => false⟩
theorem f141i4hc (k : Nat) (S141i4 : Int → Int → Int → Int → TWalkerB → Unit → (List TColumn) → Unit → (List Int) → (Unit × Unit × Unit) → Option (Int × TWalkerB × Unit × (List TColumn) × Unit × (List Int) × (Unit × Unit × Unit))) (S197i8 : Int → Int → Int → Int → TWalkerB → Unit → (List TColumn) → Unit → (List Int) → (Unit × Unit × Unit) → Option (Int × TWalkerB × Unit × (List TColumn) × Unit × (List Int) × (Unit × Unit × Unit))) (h141i4 : FnOk Try.prog 141 (f141i4con S141i4)) (h197i8 : FnOk Try.prog 197 (f197i8con S197i8)) : CtxOk Try.prog (f141i4ctx k S141i4 S197i8) := ctxOk tys_ok mixed_ok (consOk_cons (f92i16ok k) (consOk_cons (f187ok k) (consOk_cons (f196i7ok k) (consOk_cons (h197i8) (consOk_nil)))))
theorem f141i4okb (k : Nat) (S141i4 : Int → Int → Int → Int → TWalkerB → Unit → (List TColumn) → Unit → (List Int) → (Unit × Unit × Unit) → Option (Int × TWalkerB × Unit × (List TColumn) × Unit × (List Int) × (Unit × Unit × Unit))) (S197i8 : Int → Int → Int → Int → TWalkerB → Unit → (List TColumn) → Unit → (List Int) → (Unit × Unit × Unit) → Option (Int × TWalkerB × Unit × (List TColumn) × Unit × (List Int) × (Unit × Unit × Unit))) (h141i4 : FnOk Try.prog 141 (f141i4con S141i4)) (h197i8 : FnOk Try.prog 197 (f197i8con S197i8)) : FnOk Try.prog 141 (f141i4con (impl_walker_body_of_Shred_1_Shred_2.b k S141i4 S197i8)) :=
  let hc := f141i4hc k S141i4 S197i8 h141i4 h197i8
  fnOk (fn := Try.f141) (code := bodyOf Try.f141) (res := [.tmp 10]) hc (by kernel_rfl) (by kernel_rfl) (by decide) (by kernel_rfl) (by kernel_rfl) (by kernel_rfl) (Nat.le_of_ble_eq_true (by kernel_rfl)) _
    (fun x => Snd.seq (by kernel_rfl) (Snd.seq (by kernel_rfl) (Snd.seq (by kernel_rfl) (Snd.seq (by kernel_rfl) (Snd.cut (Snd.exec hc _ _ _ _) ⟨f141i4s14, fun x => impl_walker_body_of_Shred_1_Shred_2.c14 k x.1 x.2.1 x.2.2.1 x.2.2.2.1 x.2.2.2.2.1 x.2.2.2.2.2.1 x.2.2.2.2.2.2⟩ (fun x => by kernel_rfl)) (Snd.seq (by kernel_rfl) (Snd.block (id := 0) (by kernel_rfl) (Snd.loop' (by kernel_rfl) f141i4s10 (fun n x => impl_walker_body_of_Shred_1_Shred_2.l10 k S197i8 n x.1.2.1 x.1.2.2.1 x.1.2.2.2.1 x.1.2.2.2.2.1 x.1.2.2.2.2.2.1 x.1.2.2.2.2.2.2 x.2.1 x.2.2.1 x.2.2.2.1 x.2.2.2.2.1 x.2.2.2.2.2.1 x.2.2.2.2.2.2) _ (fun _ => rfl) (fun n10 => Snd.exec hc _ _ _ _) (fun n x => by kernel_rfl) k)) (Snd.exec hc _ _ _ _))) (Snd.exec hc _ _ _ _)) (Snd.seq (by kernel_rfl) (Snd.cond (x := .tmp 21) (by kernel_rfl) (Snd.seq (by kernel_rfl) (Snd.seq (by kernel_rfl) (Snd.cut (Snd.seq (by kernel_rfl) (Snd.cut (Snd.exec hc _ _ _ _) ⟨f141i4s7, fun x => impl_walker_body_of_Shred_1_Shred_2.c7 k x.1 x.2.1 x.2.2.1 x.2.2.2.1 x.2.2.2.2.1 x.2.2.2.2.2.1 x.2.2.2.2.2.2⟩ (fun x => by kernel_rfl)) (Snd.exec hc _ _ _ _)) ⟨f141i4s5, fun x => impl_walker_body_of_Shred_1_Shred_2.c5 k x.1.2.1 x.1.2.2.1 x.1.2.2.2.1 x.2.1 x.2.2.1 x.2.2.2.1 x.2.2.2.2.1 x.2.2.2.2.2.1 x.2.2.2.2.2.2.1 x.2.2.2.2.2.2.2⟩ (fun x => by kernel_rfl)) (Snd.seq (by kernel_rfl) (Snd.exec hc _ _ _ _) (Snd.fork hc (id := 3) (by kernel_rfl) ⟨f141i4d3, fun x => impl_walker_body_of_Shred_1_Shred_2.d3 k x.1.2.1 x.1.2.2.1 x.1.2.2.2.1 x.2.1 x.2.2.1 x.2.2.2.1 x.2.2.2.2.1 x.2.2.2.2.2.1 x.2.2.2.2.2.2.1 x.2.2.2.2.2.2.2⟩ [[0, 1, 2, 3, 4, 5, 6, 7, 8, 10, 14, 9, 11, 12, 13, 15, 16, 17]] (by kernel_rfl) (ords_cons (fun x => by kernel_rfl) (ords_nil))))) (Snd.exec hc _ _ _ _)) (Snd.exec hc _ _ _ _)) (Snd.exec hc _ _ _ _))) (Snd.exec hc _ _ _ _))
    (fun x => by kernel_rfl)
def f197i8ctx (k : Nat) (S141i4 : Int → Int → Int → Int → TWalkerB → Unit → (List TColumn) → Unit → (List Int) → (Unit × Unit × Unit) → Option (Int × TWalkerB × Unit × (List TColumn) × Unit × (List Int) × (Unit × Unit × Unit))) (S197i8 : Int → Int → Int → Int → TWalkerB → Unit → (List TColumn) → Unit → (List Int) → (Unit × Unit × Unit) → Option (Int × TWalkerB × Unit × (List TColumn) × Unit × (List Int) × (Unit × Unit × Unit))) : Ctx := ⟨tyAt tys, conAt [(140, [f140con (impl_colAfter k)]), (141, [f141i4con S141i4]), (225, [f225i13con (impl_walker_count_of_Shred_1_Shred_2 k)]), (226, [f226i18con (impl_walker_missing_of_Shred_1_Shred_2 k)])], 86, fun _ => false⟩
theorem f197i8hc (k : Nat) (S141i4 : Int → Int → Int → Int → TWalkerB → Unit → (List TColumn) → Unit → (List Int) → (Unit × Unit × Unit) → Option (Int × TWalkerB × Unit × (List TColumn) × Unit × (List Int) × (Unit × Unit × Unit))) (S197i8 : Int → Int → Int → Int → TWalkerB → Unit → (List TColumn) → Unit → (List Int) → (Unit × Unit × Unit) → Option (Int × TWalkerB × Unit × (List TColumn) × Unit × (List Int) × (Unit × Unit × Unit))) (h141i4 : FnOk Try.prog 141 (f141i4con S141i4)) (h197i8 : FnOk Try.prog 197 (f197i8con S197i8)) : CtxOk Try.prog (f197i8ctx k S141i4 S197i8) := ctxOk tys_ok mixed_ok (consOk_cons (f140ok k) (consOk_cons (h141i4) (consOk_cons (f225i13ok k) (consOk_cons (f226i18ok k) (consOk_nil)))))
theorem f197i8okb (k : Nat) (S141i4 : Int → Int → Int → Int → TWalkerB → Unit → (List TColumn) → Unit → (List Int) → (Unit × Unit × Unit) → Option (Int × TWalkerB × Unit × (List TColumn) × Unit × (List Int) × (Unit × Unit × Unit))) (S197i8 : Int → Int → Int → Int → TWalkerB → Unit → (List TColumn) → Unit → (List Int) → (Unit × Unit × Unit) → Option (Int × TWalkerB × Unit × (List TColumn) × Unit × (List Int) × (Unit × Unit × Unit))) (h141i4 : FnOk Try.prog 141 (f141i4con S141i4)) (h197i8 : FnOk Try.prog 197 (f197i8con S197i8)) : FnOk Try.prog 197 (f197i8con (impl_walker_col_of_Shred_1_Shred_2.b k S141i4 S197i8)) :=
  let hc := f197i8hc k S141i4 S197i8 h141i4 h197i8
  fnOk (fn := Try.f197) (code := bodyOf Try.f197) (res := [.tmp 10]) hc (by kernel_rfl) (by kernel_rfl) (by decide) (by kernel_rfl) (by kernel_rfl) (by kernel_rfl) (Nat.le_of_ble_eq_true (by kernel_rfl)) _
    (fun x => Snd.seq (by kernel_rfl) (Snd.seq (by kernel_rfl) (Snd.cut (Snd.exec hc _ _ _ _) ⟨f197i8s18, fun x => impl_walker_col_of_Shred_1_Shred_2.c18 k S141i4 x.1.2.1 x.1.2.2.1 x.1.2.2.2.1 x.1.2.2.2.2 x.2.1 x.2.2.1 x.2.2.2.1 x.2.2.2.2.1 x.2.2.2.2.2.1 x.2.2.2.2.2.2⟩ (fun x => by kernel_rfl)) (Snd.seq (by kernel_rfl) (Snd.block (id := 0) (by kernel_rfl) (Snd.seq (by kernel_rfl) (Snd.cond (x := .tmp 22) (by kernel_rfl) (Snd.exec hc _ _ _ _) (Snd.seq (by kernel_rfl) (Snd.cond (x := .tmp 35) (by kernel_rfl) (Snd.seq (by kernel_rfl) (Snd.seq (by kernel_rfl) (Snd.seq (by kernel_rfl) (Snd.seq (by kernel_rfl) (Snd.seq (by kernel_rfl) (Snd.exec hc _ _ _ _) (Snd.seq (by kernel_rfl) (Snd.block (id := 1) (by kernel_rfl) (Snd.loop' (by kernel_rfl) f197i8s14 (fun n x => impl_walker_col_of_Shred_1_Shred_2.l14 k S141i4 n x.1.2.1 x.1.2.2.1 x.1.2.2.2.1 x.1.2.2.2.2.1 x.1.2.2.2.2.2 x.2.1 x.2.2.1 x.2.2.2.1 x.2.2.2.2.1 x.2.2.2.2.2.1 x.2.2.2.2.2.2) _ (fun _ => rfl) (fun n14 => Snd.exec hc _ _ _ _) (fun n x => by kernel_rfl) k)) (Snd.exec hc _ _ _ _))) (Snd.exec hc _ _ _ _)) (Snd.exec hc _ _ _ _)) (Snd.exec hc _ _ _ _)) (Snd.exec hc _ _ _ _)) (Snd.exec hc _ _ _ _)) (Snd.exec hc _ _ _ _))) (Snd.exec hc _ _ _ _))) (Snd.exec hc _ _ _ _))) (Snd.exec hc _ _ _ _))
    (fun x => by kernel_rfl)
theorem f141i4rec (k : Nat) : ∀ d, FnOk Try.prog 141 (f141i4con (impl_walker_body_of_Shred_1_Shred_2.d k d)) ∧ FnOk Try.prog 197 (f197i8con (impl_walker_col_of_Shred_1_Shred_2.d k d))
  | 0 => ⟨FnOk_none (fun _ => rfl), FnOk_none (fun _ => rfl)⟩
  | d + 1 => let ih := f141i4rec k d
    ⟨f141i4okb k (impl_walker_body_of_Shred_1_Shred_2.d k d) (impl_walker_col_of_Shred_1_Shred_2.d k d) ih.1 ih.2, f197i8okb k (impl_walker_body_of_Shred_1_Shred_2.d k d) (impl_walker_col_of_Shred_1_Shred_2.d k d) ih.1 ih.2⟩
theorem f141i4ok (k : Nat) : FnOk Try.prog 141 (f141i4con (impl_walker_body_of_Shred_1_Shred_2 k)) := (f141i4rec k k).1
theorem f197i8ok (k : Nat) : FnOk Try.prog 197 (f197i8con (impl_walker_col_of_Shred_1_Shred_2 k)) := (f141i4rec k k).2

def f69i1in : SS := ⟨[(0, (.ro (.list 126 (.st (.cons .str (.cons (.int .i64) (.cons (.int .i64) (.cons (.int .i64) .nil)))))))), (1, (.ro (.st (.cons (.list 52 (.st (.cons (.int .i64) (.cons .str .nil)))) .nil)))), (2, (.fn 92 (.cons (.p 10) (.cons (.p 12) .nil)))), (3, (.fn 93 (.cons (.p 14) .nil)))], [(10, (.box (.list 50 (.st (.cons (.list 54 (.st (.cons (.int .i64) (.cons (.int .i64) (.cons (.st (.cons (.int .i64) (.cons .str .nil))) .nil))))) .nil))) (.h 11))), (11, (.sl 50 (.st (.cons (.list 54 (.st (.cons (.int .i64) (.cons (.int .i64) (.cons (.st (.cons (.int .i64) (.cons .str .nil))) .nil))))) .nil)))), (12, (.box (.list 3 (.int .i64)) (.h 13))), (13, (.sl 3 (.int .i64))), (14, (.box .ptr (.fn 92 (.cons (.p 10) (.cons (.p 12) .nil)))))]⟩
def f69i1out : SS := ⟨[(0, (.ro .bool))], [(10, (.box (.list 50 (.st (.cons (.list 54 (.st (.cons (.int .i64) (.cons (.int .i64) (.cons (.st (.cons (.int .i64) (.cons .str .nil))) .nil))))) .nil))) (.h 11))), (11, (.sl 50 (.st (.cons (.list 54 (.st (.cons (.int .i64) (.cons (.int .i64) (.cons (.st (.cons (.int .i64) (.cons .str .nil))) .nil))))) .nil)))), (12, (.box (.list 3 (.int .i64)) (.h 13))), (13, (.sl 3 (.int .i64))), (14, (.box .ptr (.fn 92 (.cons (.p 10) (.cons (.p 12) .nil)))))]⟩
def f69i1con (F : (List TCol) → TRec → (Unit × Unit × Unit) → (Unit × Unit) → Unit → (List TColumn) → Unit → (List Int) → (Unit × Unit × Unit) → Option (Bool × Unit × (List TColumn) × Unit × (List Int) × (Unit × Unit × Unit))) : Con := ⟨f69i1in, f69i1out, 4, 1, fun x => F x.1.1 x.1.2.1 x.1.2.2.1 x.1.2.2.2 x.2.1 x.2.2.1 x.2.2.2.1 x.2.2.2.2.1 x.2.2.2.2.2⟩
def f69i1ctx (k : Nat) : Ctx := ⟨tyAt tys, conAt [(141, [f141i4con (impl_walker_body_of_Shred_1_Shred_2 k)])], 36, fun _ => false⟩
theorem f69i1hc (k : Nat) : CtxOk Try.prog (f69i1ctx k) := ctxOk tys_ok mixed_ok (consOk_cons (f141i4ok k) (consOk_nil))
theorem f69i1ok (k : Nat) : FnOk Try.prog 69 (f69i1con (impl_walk_of_Shred_1_Shred_2 k)) :=
  let hc := f69i1hc k
  fnOk (fn := Try.f69) (code := bodyOf Try.f69) (res := [.tmp 8]) hc (by kernel_rfl) (by kernel_rfl) (by decide) (by kernel_rfl) (by kernel_rfl) (by kernel_rfl) (Nat.le_of_ble_eq_true (by kernel_rfl)) _
    (fun x => Snd.exec hc _ _ _ _)
    (fun x => by kernel_rfl)

def f25in : SS := ⟨[(0, (.ro (.list 126 (.st (.cons .str (.cons (.int .i64) (.cons (.int .i64) (.cons (.int .i64) .nil)))))))), (1, (.ro (.list 27 (.st (.cons (.list 52 (.st (.cons (.int .i64) (.cons .str .nil)))) .nil)))))], []⟩
def f25out : SS := ⟨[(0, (.h 100)), (1, (.ro .bool))], [(100, (.sl 50 (.st (.cons (.list 54 (.st (.cons (.int .i64) (.cons (.int .i64) (.cons (.st (.cons (.int .i64) (.cons .str .nil))) .nil))))) .nil))))]⟩
def f25s14 : SS := ⟨[(7, (.p 100)), (43, (.h 101)), (44, (.ro (.int .i64))), (45, (.ro (.int .i64)))], [(100, (.box (.list 50 (.st (.cons (.list 54 (.st (.cons (.int .i64) (.cons (.int .i64) (.cons (.st (.cons (.int .i64) (.cons .str .nil))) .nil))))) .nil))) (.h 101))), (101, (.sl 50 (.st (.cons (.list 54 (.st (.cons (.int .i64) (.cons (.int .i64) (.cons (.st (.cons (.int .i64) (.cons .str .nil))) .nil))))) .nil))))]⟩
def f25s8 : SS := ⟨[(0, (.ro (.list 126 (.st (.cons .str (.cons (.int .i64) (.cons (.int .i64) (.cons (.int .i64) .nil)))))))), (7, (.p 100)), (8, (.p 101)), (9, (.fn 93 (.cons (.p 101) .nil))), (30, (.ro (.list 27 (.st (.cons (.list 52 (.st (.cons (.int .i64) (.cons .str .nil)))) .nil))))), (31, (.ro (.int .i64))), (32, (.ro (.int .i64)))], [(100, (.box (.list 50 (.st (.cons (.list 54 (.st (.cons (.int .i64) (.cons (.int .i64) (.cons (.st (.cons (.int .i64) (.cons .str .nil))) .nil))))) .nil))) (.h 102))), (101, (.box .ptr (.fn 92 (.cons (.p 100) (.cons (.p 103) .nil))))), (102, (.sl 50 (.st (.cons (.list 54 (.st (.cons (.int .i64) (.cons (.int .i64) (.cons (.st (.cons (.int .i64) (.cons .str .nil))) .nil))))) .nil)))), (103, (.box (.list 3 (.int .i64)) (.h 104))), (104, (.sl 3 (.int .i64)))]⟩
def f25con (F : (List TCol) → (List TRec) → Option ((Unit × Bool) × (List TColumn))) : Con := ⟨f25in, f25out, 2, 2, fun x => F x.1 x.2⟩
def f25ctx (k : Nat) : Ctx := ⟨tyAt tys, conAt [(68, [f68con (impl_SchemaOk k)]), (69, [f69i1con (impl_walk_of_Shred_1_Shred_2 k)]), (90, [f90con (impl_leafNumbers k)]), (91, [f91con (impl_leavesOf k)])], 55, fun _ => false⟩
theorem f25hc (k : Nat) : CtxOk Try.prog (f25ctx k) := ctxOk tys_ok mixed_ok (consOk_cons (f68ok k) (consOk_cons (f69i1ok k) (consOk_cons (f90ok k) (consOk_cons (f91ok k) (consOk_nil)))))
theorem f25ok (k : Nat) : FnOk Try.prog 25 (f25con (impl_Shred k)) :=
  let hc := f25hc k
  fnOk (fn := Try.f25) (code := bodyOf Try.f25) (res := [.tmp 4, .tmp 5]) hc (by kernel_rfl) (by kernel_rfl) (by decide) (by kernel_rfl) (by kernel_rfl) (by kernel_rfl) (Nat.le_of_ble_eq_true (by kernel_rfl)) _
    (fun x => Snd.seq (by kernel_rfl) (Snd.seq (by kernel_rfl) (Snd.seq (by kernel_rfl) (Snd.seq (by kernel_rfl) (Snd.seq (by kernel_rfl) (Snd.seq (by kernel_rfl) (Snd.seq (by kernel_rfl) (Snd.seq (by kernel_rfl) (Snd.exec hc _ _ _ _) (Snd.seq (by kernel_rfl) (Snd.block (id := 2) (by kernel_rfl) (Snd.loop' (by kernel_rfl) f25s14 (fun n x => impl_Shred.l14 k n x.1.2.2.1 x.1.2.2.2 x.2.1 x.2.2) _ (fun _ => rfl) (fun n14 => Snd.exec hc _ _ _ _) (fun n x => by kernel_rfl) k)) (Snd.exec hc _ _ _ _))) (Snd.seq (by kernel_rfl) (Snd.block (id := 0) (by kernel_rfl) (Snd.loop' (by kernel_rfl) f25s8 (fun n x => impl_Shred.l8 k n x.1.1 x.1.2.2.2.1 x.1.2.2.2.2.1 x.1.2.2.2.2.2.1 x.1.2.2.2.2.2.2 x.2.1 x.2.2.1 x.2.2.2.1 x.2.2.2.2.1 x.2.2.2.2.2) _ (fun _ => rfl) (fun n8 => Snd.exec hc _ _ _ _) (fun n x => by kernel_rfl) k)) (Snd.exec hc _ _ _ _))) (Snd.exec hc _ _ _ _)) (Snd.exec hc _ _ _ _)) (Snd.exec hc _ _ _ _)) (Snd.exec hc _ _ _ _)) (Snd.exec hc _ _ _ _)) (Snd.exec hc _ _ _ _))
    (fun x => by kernel_rfl)

def f151in : SS := ⟨[(0, (.ro (.list 126 (.st (.cons .str (.cons (.int .i64) (.cons (.int .i64) (.cons (.int .i64) .nil)))))))), (1, (.ro (.int .i64)))], []⟩
def f151out : SS := ⟨[(0, (.ro (.int .i64)))], []⟩
def f151s4 : SS := ⟨[(0, (.ro (.list 126 (.st (.cons .str (.cons (.int .i64) (.cons (.int .i64) (.cons (.int .i64) .nil)))))))), (1, (.ro (.int .i64))), (5, (.ro (.int .i64))), (6, (.ro (.int .i64)))], []⟩
def f151s3 : SS := ⟨[(0, (.ro (.list 126 (.st (.cons .str (.cons (.int .i64) (.cons (.int .i64) (.cons (.int .i64) .nil)))))))), (1, (.ro (.int .i64))), (5, (.ro (.int .i64))), (6, (.ro (.int .i64)))], []⟩
def f151con (F : (List TCol) → Int → Option Int) : Con := ⟨f151in, f151out, 2, 1, fun x => F x.1 x.2⟩
def f151ctx (k : Nat) : Ctx := ⟨tyAt tys, conAt [], 21, fun _ => false⟩
theorem f151hc (k : Nat) : CtxOk Try.prog (f151ctx k) := ctxOk tys_ok mixed_ok (consOk_nil)
theorem f151ok (k : Nat) : FnOk Try.prog 151 (f151con (spec_l14Leaf k)) :=
  let hc := f151hc k
  fnOk (fn := Try.f151) (code := bodyOf Try.f151) (res := [.tmp 4]) hc (by kernel_rfl) (by kernel_rfl) (by decide) (by kernel_rfl) (by kernel_rfl) (by kernel_rfl) (Nat.le_of_ble_eq_true (by kernel_rfl)) _
    (fun x => Snd.seq (by kernel_rfl) (Snd.seq (by kernel_rfl) (Snd.seq (by kernel_rfl) (Snd.exec hc _ _ _ _) (Snd.seq (by kernel_rfl) (Snd.block (id := 0) (by kernel_rfl) (Snd.loop' (by kernel_rfl) f151s3 (fun n x => spec_l14Leaf.l3 k n x.1 x.2.1 x.2.2.1 x.2.2.2) _ (fun _ => rfl) (fun n3 => Snd.seq (by kernel_rfl) (Snd.seq (by kernel_rfl) (Snd.cut (Snd.exec hc _ _ _ _) ⟨f151s4, fun x => spec_l14Leaf.c4 k (spec_l14Leaf.l3 k n3) x.1 x.2.1 x.2.2.1 x.2.2.2⟩ (fun x => by kernel_rfl)) (Snd.exec hc _ _ _ _)) (Snd.exec hc _ _ _ _)) (fun n x => by kernel_rfl) k)) (Snd.exec hc _ _ _ _))) (Snd.exec hc _ _ _ _)) (Snd.exec hc _ _ _ _))
    (fun x => by kernel_rfl)

def f199in : SS := ⟨[(0, (.ro (.list 126 (.st (.cons .str (.cons (.int .i64) (.cons (.int .i64) (.cons (.int .i64) .nil)))))))), (1, (.ro (.int .i64))), (2, (.ro (.st (.cons (.int .i64) (.cons (.int .i64) (.cons (.st (.cons (.int .i64) (.cons .str .nil))) .nil)))))), (3, (.h 10))], [(10, (.sl 48 (.list 54 (.st (.cons (.int .i64) (.cons (.int .i64) (.cons (.st (.cons (.int .i64) (.cons .str .nil))) .nil)))))))]⟩
def f199out : SS := ⟨[(0, (.h 10))], [(10, (.sl 48 (.list 54 (.st (.cons (.int .i64) (.cons (.int .i64) (.cons (.st (.cons (.int .i64) (.cons .str .nil))) .nil)))))))]⟩
def f199s2 : SS := ⟨[(0, (.ro (.list 126 (.st (.cons .str (.cons (.int .i64) (.cons (.int .i64) (.cons (.int .i64) .nil)))))))), (1, (.ro (.int .i64))), (3, (.h 10)), (6, (.p 100)), (9, (.ro (.int .i64)))], [(10, (.sl 48 (.list 54 (.st (.cons (.int .i64) (.cons (.int .i64) (.cons (.st (.cons (.int .i64) (.cons .str .nil))) .nil))))))), (100, (.box (.st (.cons (.int .i64) (.cons (.int .i64) (.cons (.st (.cons (.int .i64) (.cons .str .nil))) .nil)))) (.agg (.cons (.ro (.int .i64)) (.cons (.ro (.int .i64)) (.cons (.agg (.cons (.ro (.int .i64)) (.cons (.ro .str) .nil))) .nil))))))]⟩
def f199con (F : (List TCol) → Int → TTriple → (List (List TTriple)) → Option (Unit × (List (List TTriple)))) : Con := ⟨f199in, f199out, 4, 1, fun x => F x.1.1 x.1.2.1 x.1.2.2.1 x.2⟩
def f199ctx (k : Nat) : Ctx := ⟨tyAt tys, conAt [(144, [f144con (spec_l5After k)]), (151, [f151con (spec_l14Leaf k)])], 33, fun _ => false⟩
theorem f199hc (k : Nat) : CtxOk Try.prog (f199ctx k) := ctxOk tys_ok mixed_ok (consOk_cons (f144ok k) (consOk_cons (f151ok k) (consOk_nil)))
theorem f199ok (k : Nat) : FnOk Try.prog 199 (f199con (spec_l14Null k)) :=
  let hc := f199hc k
  fnOk (fn := Try.f199) (code := bodyOf Try.f199) (res := [.tmp 8]) hc (by kernel_rfl) (by kernel_rfl) (by decide) (by kernel_rfl) (by kernel_rfl) (by kernel_rfl) (Nat.le_of_ble_eq_true (by kernel_rfl)) _
    (fun x => Snd.seq (by kernel_rfl) (Snd.seq (by kernel_rfl) (Snd.exec hc _ _ _ _) (Snd.seq (by kernel_rfl) (Snd.block (id := 0) (by kernel_rfl) (Snd.loop' (by kernel_rfl) f199s2 (fun n x => spec_l14Null.l2 k n x.1.1 x.1.2.1 x.1.2.2.2.2 x.2.1 x.2.2) _ (fun _ => rfl) (fun n2 => Snd.exec hc _ _ _ _) (fun n x => by kernel_rfl) k)) (Snd.exec hc _ _ _ _))) (Snd.exec hc _ _ _ _))
    (fun x => by kernel_rfl)

def f94in : SS := ⟨[(0, (.ro (.list 126 (.st (.cons .str (.cons (.int .i64) (.cons (.int .i64) (.cons (.int .i64) .nil)))))))), (1, (.ro (.int .i64))), (2, (.ro (.list 52 (.st (.cons (.int .i64) (.cons .str .nil)))))), (3, (.ro (.int .i64))), (4, (.ro (.int .i64))), (5, (.ro (.int .i64))), (6, (.ro (.int .i64))), (7, (.h 10))], [(10, (.sl 48 (.list 54 (.st (.cons (.int .i64) (.cons (.int .i64) (.cons (.st (.cons (.int .i64) (.cons .str .nil))) .nil)))))))]⟩
def f94out : SS := ⟨[(0, (.h 10)), (1, (.ro (.int .i64)))], [(10, (.sl 48 (.list 54 (.st (.cons (.int .i64) (.cons (.int .i64) (.cons (.st (.cons (.int .i64) (.cons .str .nil))) .nil)))))))]⟩
def f94s7 : SS := ⟨[(0, (.ro (.list 126 (.st (.cons .str (.cons (.int .i64) (.cons (.int .i64) (.cons (.int .i64) .nil)))))))), (1, (.ro (.int .i64))), (2, (.ro (.list 52 (.st (.cons (.int .i64) (.cons .str .nil)))))), (3, (.ro (.int .i64))), (4, (.ro (.int .i64))), (5, (.ro (.int .i64))), (6, (.ro (.int .i64))), (7, (.h 10)), (19, (.ro (.int .i64))), (20, (.ro (.int .i64)))], [(10, (.sl 48 (.list 54 (.st (.cons (.int .i64) (.cons (.int .i64) (.cons (.st (.cons (.int .i64) (.cons .str .nil))) .nil)))))))]⟩
def f94con (F : (List TCol) → Int → (List TVal) → Int → Int → Int → Int → (List (List TTriple)) → Option ((Unit × Int) × (List (List TTriple)))) : Con := ⟨f94in, f94out, 8, 2, fun x => F x.1.1 x.1.2.1 x.1.2.2.1 x.1.2.2.2.1 x.1.2.2.2.2.1 x.1.2.2.2.2.2.1 x.1.2.2.2.2.2.2.1 x.2⟩
def f152in : SS := ⟨[(0, (.ro (.list 126 (.st (.cons .str (.cons (.int .i64) (.cons (.int .i64) (.cons (.int .i64) .nil)))))))), (1, (.ro (.int .i64))), (2, (.ro (.list 52 (.st (.cons (.int .i64) (.cons .str .nil)))))), (3, (.ro (.int .i64))), (4, (.ro (.int .i64))), (5, (.ro (.int .i64))), (6, (.ro (.int .i64))), (7, (.h 10))], [(10, (.sl 48 (.list 54 (.st (.cons (.int .i64) (.cons (.int .i64) (.cons (.st (.cons (.int .i64) (.cons .str .nil))) .nil)))))))]⟩
def f152out : SS := ⟨[(0, (.h 10)), (1, (.ro (.int .i64)))], [(10, (.sl 48 (.list 54 (.st (.cons (.int .i64) (.cons (.int .i64) (.cons (.st (.cons (.int .i64) (.cons .str .nil))) .nil)))))))]⟩
def f152s10 : SS := ⟨[(0, (.ro (.list 126 (.st (.cons .str (.cons (.int .i64) (.cons (.int .i64) (.cons (.int .i64) .nil)))))))), (1, (.ro (.int .i64))), (2, (.ro (.list 52 (.st (.cons (.int .i64) (.cons .str .nil)))))), (3, (.ro (.int .i64))), (4, (.ro (.int .i64))), (5, (.ro (.int .i64))), (6, (.ro (.int .i64))), (7, (.h 10)), (18, (.ro (.int .i64))), (19, (.ro (.int .i64)))], [(10, (.sl 48 (.list 54 (.st (.cons (.int .i64) (.cons (.int .i64) (.cons (.st (.cons (.int .i64) (.cons .str .nil))) .nil)))))))]⟩
def f152s9 : SS := ⟨[(0, (.ro (.list 126 (.st (.cons .str (.cons (.int .i64) (.cons (.int .i64) (.cons (.int .i64) .nil)))))))), (1, (.ro (.int .i64))), (2, (.ro (.list 52 (.st (.cons (.int .i64) (.cons .str .nil)))))), (3, (.ro (.int .i64))), (4, (.ro (.int .i64))), (5, (.ro (.int .i64))), (6, (.ro (.int .i64))), (7, (.h 10)), (18, (.ro (.int .i64)))], [(10, (.sl 48 (.list 54 (.st (.cons (.int .i64) (.cons (.int .i64) (.cons (.st (.cons (.int .i64) (.cons .str .nil))) .nil)))))))]⟩
def f152con (F : (List TCol) → Int → (List TVal) → Int → Int → Int → Int → (List (List TTriple)) → Option ((Unit × Int) × (List (List TTriple)))) : Con := ⟨f152in, f152out, 8, 2, fun x => F x.1.1 x.1.2.1 x.1.2.2.1 x.1.2.2.2.1 x.1.2.2.2.2.1 x.1.2.2.2.2.2.1 x.1.2.2.2.2.2.2.1 x.2⟩
def f94ctx (k : Nat) (S94 : (List TCol) → Int → (List TVal) → Int → Int → Int → Int → (List (List TTriple)) → Option ((Unit × Int) × (List (List TTriple)))) (S152 : (List TCol) → Int → (List TVal) → Int → Int → Int → Int → (List (List TTriple)) → Option ((Unit × Int) × (List (List TTriple)))) : Ctx := ⟨tyAt tys, conAt [(144, [f144con (spec_l5After k)]), (151, [f151con (spec_l14Leaf k)]), (152, [f152con S152])], 77, fun _ => false⟩
theorem f94hc (k : Nat) (S94 : (List TCol) → Int → (List TVal) → Int → Int → Int → Int → (List (List TTriple)) → Option ((Unit × Int) × (List (List TTriple)))) (S152 : (List TCol) → Int → (List TVal) → Int → Int → Int → Int → (List (List TTriple)) → Option ((Unit × Int) × (List (List TTriple)))) (h94 : FnOk Try.prog 94 (f94con S94)) (h152 : FnOk Try.prog 152 (f152con S152)) : CtxOk Try.prog (f94ctx k S94 S152) := ctxOk tys_ok mixed_ok (consOk_cons (f144ok k) (consOk_cons (f151ok k) (consOk_cons (h152) (consOk_nil))))
theorem f94okb (k : Nat) (S94 : (List TCol) → Int → (List TVal) → Int → Int → Int → Int → (List (List TTriple)) → Option ((Unit × Int) × (List (List TTriple)))) (S152 : (List TCol) → Int → (List TVal) → Int → Int → Int → Int → (List (List TTriple)) → Option ((Unit × Int) × (List (List TTriple)))) (h94 : FnOk Try.prog 94 (f94con S94)) (h152 : FnOk Try.prog 152 (f152con S152)) : FnOk Try.prog 94 (f94con (spec_l14Content.b k S94 S152)) :=
  let hc := f94hc k S94 S152 h94 h152
  fnOk (fn := Try.f94) (code := bodyOf Try.f94) (res := [.tmp 16, .tmp 17]) hc (by kernel_rfl) (by kernel_rfl) (by decide) (by kernel_rfl) (by kernel_rfl) (by kernel_rfl) (Nat.le_of_ble_eq_true (by kernel_rfl)) _
    (fun x => Snd.seq (by kernel_rfl) (Snd.seq (by kernel_rfl) (Snd.seq (by kernel_rfl) (Snd.seq (by kernel_rfl) (Snd.exec hc _ _ _ _) (Snd.seq (by kernel_rfl) (Snd.block (id := 0) (by kernel_rfl) (Snd.loop' (by kernel_rfl) f94s7 (fun n x => spec_l14Content.l7 k S152 n x.1.1 x.1.2.1 x.1.2.2.1 x.1.2.2.2.1 x.1.2.2.2.2.1 x.1.2.2.2.2.2.1 x.1.2.2.2.2.2.2.1 x.1.2.2.2.2.2.2.2.2.1 x.1.2.2.2.2.2.2.2.2.2 x.2) _ (fun _ => rfl) (fun n7 => Snd.exec hc _ _ _ _) (fun n x => by kernel_rfl) k)) (Snd.exec hc _ _ _ _))) (Snd.exec hc _ _ _ _)) (Snd.exec hc _ _ _ _)) (Snd.exec hc _ _ _ _))
    (fun x => by kernel_rfl)
def f152ctx (k : Nat) (S94 : (List TCol) → Int → (List TVal) → Int → Int → Int → Int → (List (List TTriple)) → Option ((Unit × Int) × (List (List TTriple)))) (S152 : (List TCol) → Int → (List TVal) → Int → Int → Int → Int → (List (List TTriple)) → Option ((Unit × Int) × (List (List TTriple)))) : Ctx := ⟨tyAt tys, conAt [(94, [f94con S94]), (199, [f199con (spec_l14Null k)])], 83, fun _ => false⟩
theorem f152hc (k : Nat) (S94 : (List TCol) → Int → (List TVal) → Int → Int → Int → Int → (List (List TTriple)) → Option ((Unit × Int) × (List (List TTriple)))) (S152 : (List TCol) → Int → (List TVal) → Int → Int → Int → Int → (List (List TTriple)) → Option ((Unit × Int) × (List (List TTriple)))) (h94 : FnOk Try.prog 94 (f94con S94)) (h152 : FnOk Try.prog 152 (f152con S152)) : CtxOk Try.prog (f152ctx k S94 S152) := ctxOk tys_ok mixed_ok (consOk_cons (h94) (consOk_cons (f199ok k) (consOk_nil)))
theorem f152okb (k : Nat) (S94 : (List TCol) → Int → (List TVal) → Int → Int → Int → Int → (List (List TTriple)) → Option ((Unit × Int) × (List (List TTriple)))) (S152 : (List TCol) → Int → (List TVal) → Int → Int → Int → Int → (List (List TTriple)) → Option ((Unit × Int) × (List (List TTriple)))) (h94 : FnOk Try.prog 94 (f94con S94)) (h152 : FnOk Try.prog 152 (f152con S152)) : FnOk Try.prog 152 (f152con (spec_l14Part.b k S94 S152)) :=
  let hc := f152hc k S94 S152 h94 h152
  fnOk (fn := Try.f152) (code := bodyOf Try.f152) (res := [.tmp 16, .tmp 17]) hc (by kernel_rfl) (by kernel_rfl) (by decide) (by kernel_rfl) (by kernel_rfl) (by kernel_rfl) (Nat.le_of_ble_eq_true (by kernel_rfl)) _
    (fun x => Snd.seq (by kernel_rfl) (Snd.seq (by kernel_rfl) (Snd.seq (by kernel_rfl) (Snd.seq (by kernel_rfl) (Snd.seq (by kernel_rfl) (Snd.seq (by kernel_rfl) (Snd.cut (Snd.seq (by kernel_rfl) (Snd.exec hc _ _ _ _) (Snd.seq (by kernel_rfl) (Snd.block (id := 0) (by kernel_rfl) (Snd.loop' (by kernel_rfl) f152s10 (fun n x => spec_l14Part.l10 k S94 n x.1.1 x.1.2.1 x.1.2.2.1 x.1.2.2.2.1 x.1.2.2.2.2.1 x.1.2.2.2.2.2.1 x.1.2.2.2.2.2.2.1 x.1.2.2.2.2.2.2.2.2.1 x.1.2.2.2.2.2.2.2.2.2 x.2) _ (fun _ => rfl) (fun n10 => Snd.exec hc _ _ _ _) (fun n x => by kernel_rfl) k)) (Snd.exec hc _ _ _ _))) ⟨f152s9, fun x => spec_l14Part.c9 k S94 x.1.1 x.1.2.1 x.1.2.2.1 x.1.2.2.2.1 x.1.2.2.2.2.1 x.1.2.2.2.2.2.1 x.1.2.2.2.2.2.2.1 x.1.2.2.2.2.2.2.2.2 x.2⟩ (fun x => by kernel_rfl)) (Snd.exec hc _ _ _ _)) (Snd.exec hc _ _ _ _)) (Snd.exec hc _ _ _ _)) (Snd.exec hc _ _ _ _)) (Snd.exec hc _ _ _ _)) (Snd.exec hc _ _ _ _))
    (fun x => by kernel_rfl)
theorem f94rec (k : Nat) : ∀ d, FnOk Try.prog 94 (f94con (spec_l14Content.d k d)) ∧ FnOk Try.prog 152 (f152con (spec_l14Part.d k d))
  | 0 => ⟨FnOk_none (fun _ => rfl), FnOk_none (fun _ => rfl)⟩
  | d + 1 => let ih := f94rec k d
    ⟨f94okb k (spec_l14Content.d k d) (spec_l14Part.d k d) ih.1 ih.2, f152okb k (spec_l14Content.d k d) (spec_l14Part.d k d) ih.1 ih.2⟩
theorem f94ok (k : Nat) : FnOk Try.prog 94 (f94con (spec_l14Content k)) := (f94rec k k).1
theorem f152ok (k : Nat) : FnOk Try.prog 152 (f152con (spec_l14Part k)) := (f94rec k k).2

def f26in : SS := ⟨[(0, (.ro (.list 126 (.st (.cons .str (.cons (.int .i64) (.cons (.int .i64) (.cons (.int .i64) .nil)))))))), (1, (.ro (.list 27 (.st (.cons (.list 52 (.st (.cons (.int .i64) (.cons .str .nil)))) .nil)))))], []⟩
def f26out : SS := ⟨[(0, (.h 100)), (1, (.ro .bool))], [(100, (.sh 50 (.st (.cons (.list 54 (.st (.cons (.int .i64) (.cons (.int .i64) (.cons (.st (.cons (.int .i64) (.cons .str .nil))) .nil))))) .nil))))]⟩
def f26s12 : SS := ⟨[(6, (.h 100)), (7, (.ro (.list 48 (.list 54 (.st (.cons (.int .i64) (.cons (.int .i64) (.cons (.st (.cons (.int .i64) (.cons .str .nil))) .nil)))))))), (9, (.ro (.int .i64)))], [(100, (.sh 50 (.st (.cons (.list 54 (.st (.cons (.int .i64) (.cons (.int .i64) (.cons (.st (.cons (.int .i64) (.cons .str .nil))) .nil))))) .nil))))]⟩
def f26s6 : SS := ⟨[(0, (.ro (.list 126 (.st (.cons .str (.cons (.int .i64) (.cons (.int .i64) (.cons (.int .i64) .nil)))))))), (1, (.ro (.list 27 (.st (.cons (.list 52 (.st (.cons (.int .i64) (.cons .str .nil)))) .nil))))), (6, (.h 100)), (7, (.h 101)), (8, (.ro (.int .i64)))], [(100, (.sl 50 (.st (.cons (.list 54 (.st (.cons (.int .i64) (.cons (.int .i64) (.cons (.st (.cons (.int .i64) (.cons .str .nil))) .nil))))) .nil)))), (101, (.sl 48 (.list 54 (.st (.cons (.int .i64) (.cons (.int .i64) (.cons (.st (.cons (.int .i64) (.cons .str .nil))) .nil)))))))]⟩
def f26con (F : (List TCol) → (List TRec) → Option ((Unit × Bool) × (List TColumn))) : Con := ⟨f26in, f26out, 2, 2, fun x => F x.1 x.2⟩
def f26ctx (k : Nat) : Ctx := ⟨tyAt tys, conAt [(15, [f15con (spec_RecOk k)]), (17, [f17con (spec_SchemaOk k)]), (80, [f80con (spec_l5Leaves k)]), (94, [f94con (spec_l14Content k)])], 71, fun _ => false⟩
theorem f26hc (k : Nat) : CtxOk Try.prog (f26ctx k) := ctxOk tys_ok mixed_ok (consOk_cons (f15ok k) (consOk_cons (f17ok k) (consOk_cons (f80ok k) (consOk_cons (f94ok k) (consOk_nil)))))
theorem f26ok (k : Nat) : FnOk Try.prog 26 (f26con (spec_Shred k)) :=
  let hc := f26hc k
  fnOk (fn := Try.f26) (code := bodyOf Try.f26) (res := [.tmp 4, .tmp 5]) hc (by kernel_rfl) (by kernel_rfl) (by decide) (by kernel_rfl) (by kernel_rfl) (by kernel_rfl) (Nat.le_of_ble_eq_true (by kernel_rfl)) _
    (fun x => Snd.seq (by kernel_rfl) (Snd.seq (by kernel_rfl) (Snd.seq (by kernel_rfl) (Snd.seq (by kernel_rfl) (Snd.seq (by kernel_rfl) (Snd.seq (by kernel_rfl) (Snd.exec hc _ _ _ _) (Snd.seq (by kernel_rfl) (Snd.block (id := 2) (by kernel_rfl) (Snd.loop' (by kernel_rfl) f26s12 (fun n x => spec_Shred.l12 k n x.1.2.1 x.1.2.2 x.2) _ (fun _ => rfl) (fun n12 => Snd.exec hc _ _ _ _) (fun n x => by kernel_rfl) k)) (Snd.exec hc _ _ _ _))) (Snd.seq (by kernel_rfl) (Snd.block (id := 0) (by kernel_rfl) (Snd.loop' (by kernel_rfl) f26s6 (fun n x => spec_Shred.l6 k n x.1.1 x.1.2.1 x.1.2.2.2.2 x.2.1 x.2.2) _ (fun _ => rfl) (fun n6 => Snd.exec hc _ _ _ _) (fun n x => by kernel_rfl) k)) (Snd.exec hc _ _ _ _))) (Snd.exec hc _ _ _ _)) (Snd.exec hc _ _ _ _)) (Snd.exec hc _ _ _ _)) (Snd.exec hc _ _ _ _))
    (fun x => by kernel_rfl)

def f4in : SS := ⟨[(0, (.ro (.list 5 (.int .u8))))], []⟩
def f4out : SS := ⟨[(0, (.ro .bool))], []⟩
def f4s21 : SS := ⟨[(3, (.ro (.list 126 (.st (.cons .str (.cons (.int .i64) (.cons (.int .i64) (.cons (.int .i64) .nil)))))))), (4, (.h 100)), (5, (.h 101)), (9, (.ro (.int .i64))), (10, (.ro (.int .i64))), (12, (.h 102)), (16, (.ro (.int .i64))), (17, (.ro (.int .i64)))], [(100, (.sh 27 (.st (.cons (.list 52 (.st (.cons (.int .i64) (.cons .str .nil)))) .nil)))), (101, (.sl 50 (.st (.cons (.list 54 (.st (.cons (.int .i64) (.cons (.int .i64) (.cons (.st (.cons (.int .i64) (.cons .str .nil))) .nil))))) .nil)))), (102, (.sl 52 (.st (.cons (.int .i64) (.cons .str .nil)))))]⟩
def f4s20 : SS := ⟨[(3, (.ro (.list 126 (.st (.cons .str (.cons (.int .i64) (.cons (.int .i64) (.cons (.int .i64) .nil)))))))), (4, (.h 100)), (5, (.h 101)), (9, (.ro (.int .i64))), (10, (.ro (.int .i64))), (12, (.h 102)), (16, (.ro (.int .i64))), (17, (.ro (.int .i64)))], [(100, (.sh 27 (.st (.cons (.list 52 (.st (.cons (.int .i64) (.cons .str .nil)))) .nil)))), (101, (.sl 50 (.st (.cons (.list 54 (.st (.cons (.int .i64) (.cons (.int .i64) (.cons (.st (.cons (.int .i64) (.cons .str .nil))) .nil))))) .nil)))), (102, (.sl 52 (.st (.cons (.int .i64) (.cons .str .nil)))))]⟩
def f4s14 : SS := ⟨[(3, (.ro (.list 126 (.st (.cons .str (.cons (.int .i64) (.cons (.int .i64) (.cons (.int .i64) .nil)))))))), (4, (.h 100)), (5, (.h 101)), (9, (.ro (.int .i64))), (10, (.ro (.int .i64))), (12, (.h 102)), (13, (.ro (.int .i64)))], [(100, (.sh 27 (.st (.cons (.list 52 (.st (.cons (.int .i64) (.cons .str .nil)))) .nil)))), (101, (.sl 50 (.st (.cons (.list 54 (.st (.cons (.int .i64) (.cons (.int .i64) (.cons (.st (.cons (.int .i64) (.cons .str .nil))) .nil))))) .nil)))), (102, (.sl 52 (.st (.cons (.int .i64) (.cons .str .nil)))))]⟩
def f4s9 : SS := ⟨[(3, (.ro (.list 126 (.st (.cons .str (.cons (.int .i64) (.cons (.int .i64) (.cons (.int .i64) .nil)))))))), (4, (.h 100)), (5, (.h 101)), (9, (.ro (.int .i64)))], [(100, (.sh 27 (.st (.cons (.list 52 (.st (.cons (.int .i64) (.cons .str .nil)))) .nil)))), (101, (.sl 50 (.st (.cons (.list 54 (.st (.cons (.int .i64) (.cons (.int .i64) (.cons (.st (.cons (.int .i64) (.cons .str .nil))) .nil))))) .nil))))]⟩
def f4con (F : (List Int) → Option Bool) : Con := ⟨f4in, f4out, 1, 1, fun x => F x⟩
def f4ctx (k : Nat) : Ctx := ⟨tyAt tys, conAt [(12, [f12con (laws_big k)]), (20, [f20con (spec_RecValues k)]), (21, [f21con (spec_LeafMax k)]), (24, [f24con (spec_DrawShred k)]), (25, [f25con (impl_Shred k)]), (26, [f26con (spec_Shred k)])], 115, fun _ => false⟩
theorem f4hc (k : Nat) : CtxOk Try.prog (f4ctx k) := ctxOk tys_ok mixed_ok (consOk_cons (f12ok k) (consOk_cons (f20ok k) (consOk_cons (f21ok k) (consOk_cons (f24ok k) (consOk_cons (f25ok k) (consOk_cons (f26ok k) (consOk_nil)))))))
theorem f4ok (k : Nat) : FnOk Try.prog 4 (f4con (laws_FnShredValues k)) :=
  let hc := f4hc k
  fnOk (fn := Try.f4) (code := bodyOf Try.f4) (res := [.tmp 2]) hc (by kernel_rfl) (by kernel_rfl) (by decide) (by kernel_rfl) (by kernel_rfl) (by kernel_rfl) (Nat.le_of_ble_eq_true (by kernel_rfl)) _
    (fun x => Snd.seq (by kernel_rfl) (Snd.seq (by kernel_rfl) (Snd.seq (by kernel_rfl) (Snd.seq (by kernel_rfl) (Snd.seq (by kernel_rfl) (Snd.seq (by kernel_rfl) (Snd.exec hc _ _ _ _) (Snd.seq (by kernel_rfl) (Snd.block (id := 0) (by kernel_rfl) (Snd.loop' (by kernel_rfl) f4s9 (fun n x => laws_FnShredValues.l9 k n x.1.1 x.1.2.2.2 x.2.1 x.2.2) _ (fun _ => rfl) (fun n9 => Snd.seq (by kernel_rfl) (Snd.seq (by kernel_rfl) (Snd.exec hc _ _ _ _) (Snd.block (id := 1) (by kernel_rfl) (Snd.seq (by kernel_rfl) (Snd.seq (by kernel_rfl) (Snd.seq (by kernel_rfl) (Snd.seq (by kernel_rfl) (Snd.seq (by kernel_rfl) (Snd.exec hc _ _ _ _) (Snd.seq (by kernel_rfl) (Snd.block (id := 4) (by kernel_rfl) (Snd.loop' (by kernel_rfl) f4s20 (fun n x => laws_FnShredValues.l20 k (laws_FnShredValues.l9 k n9) n x.1.1 x.1.2.2.2.1 x.1.2.2.2.2.1 x.1.2.2.2.2.2.2.1 x.1.2.2.2.2.2.2.2 x.2.1 x.2.2.1 x.2.2.2) _ (fun _ => rfl) (fun n20 => Snd.seq (by kernel_rfl) (Snd.seq (by kernel_rfl) (Snd.cut (Snd.exec hc _ _ _ _) ⟨f4s21, fun x => laws_FnShredValues.c21 k (laws_FnShredValues.l20 k (laws_FnShredValues.l9 k n9) n20) x.1.1 x.1.2.2.2.1 x.1.2.2.2.2.1 x.1.2.2.2.2.2.2.1 x.1.2.2.2.2.2.2.2 x.2.1 x.2.2.1 x.2.2.2⟩ (fun x => by kernel_rfl)) (Snd.exec hc _ _ _ _)) (Snd.exec hc _ _ _ _)) (fun n x => by kernel_rfl) k)) (Snd.exec hc _ _ _ _))) (Snd.exec hc _ _ _ _)) (Snd.seq (by kernel_rfl) (Snd.block (id := 2) (by kernel_rfl) (Snd.loop' (by kernel_rfl) f4s14 (fun n x => laws_FnShredValues.l14 k (laws_FnShredValues.l9 k n9) n x.1.1 x.1.2.2.2.1 x.1.2.2.2.2.1 x.1.2.2.2.2.2.2 x.2.1 x.2.2.1 x.2.2.2) _ (fun _ => rfl) (fun n14 => Snd.exec hc _ _ _ _) (fun n x => by kernel_rfl) k)) (Snd.exec hc _ _ _ _))) (Snd.exec hc _ _ _ _)) (Snd.exec hc _ _ _ _)))) (Snd.exec hc _ _ _ _)) (fun n x => by kernel_rfl) k)) (Snd.exec hc _ _ _ _))) (Snd.exec hc _ _ _ _)) (Snd.exec hc _ _ _ _)) (Snd.exec hc _ _ _ _)) (Snd.exec hc _ _ _ _)) (Snd.exec hc _ _ _ _))
    (fun x => by kernel_rfl)

end Go.Proofs.Ytifcflanpjkgkaa
