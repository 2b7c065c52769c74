/- The walks, printed by program. -/
import Derived.Test.YtifcflanpjkgkaaBase
import Derived.Test.YtifcflanpjkgkaaEPHF0
set_option linter.unusedVariables false
set_option maxRecDepth 100000
namespace Go.Proofs.Ytifcflanpjkgkaa
open Go.Am Go.Fn

def f95in : SS := ⟨[(0, (.ro (.st (.cons .str (.cons (.int .i64) (.cons (.int .i64) (.cons (.int .i64) .nil))))))), (1, (.ro (.int .i64)))], []⟩
def f95out : SS := ⟨[(0, (.ro (.int .i64)))], []⟩
def f95con (F : TCol → Int → Option Int) : Con := ⟨f95in, f95out, 2, 1, fun x => F x.1 x.2⟩
def f95ctx (k : Nat) : Ctx := ⟨tyAt tys, conAt [], 13, fun _ => false⟩
theorem f95hc (k : Nat) : CtxOk Try.prog (f95ctx k) := ctxOk tys_ok mixed_ok (consOk_nil)
theorem f95ok (k : Nat) : FnOk Try.prog 95 (f95con (laws_szCol k)) :=
  let hc := f95hc k
  fnOk (fn := Try.f95) (code := bodyOf Try.f95) (res := [.tmp 4]) hc (by kernel_rfl) (by kernel_rfl) (by decide) (by kernel_rfl) (by kernel_rfl) (by kernel_rfl) (Nat.le_of_ble_eq_true (by kernel_rfl)) _
    (fun x => Snd.exec hc _ _ _ _)
    (fun x => by kernel_rfl)

def f27in : SS := ⟨[(0, (.ro (.list 125 (.st (.cons .str (.cons (.int .i64) (.cons (.int .i64) (.cons (.int .i64) .nil)))))))), (1, (.ro (.int .i64)))], []⟩
def f27out : SS := ⟨[(0, (.ro (.int .i64)))], []⟩
def f27s5 : SS := ⟨[(0, (.ro (.list 125 (.st (.cons .str (.cons (.int .i64) (.cons (.int .i64) (.cons (.int .i64) .nil)))))))), (1, (.ro (.int .i64))), (5, (.ro (.int .i64)))], []⟩
def f27con (F : (List TCol) → Int → Option Int) : Con := ⟨f27in, f27out, 2, 1, fun x => F x.1 x.2⟩
def f27ctx (k : Nat) : Ctx := ⟨tyAt tys, conAt [(95, [f95con (laws_szCol k)])], 27, fun _ => false⟩
theorem f27hc (k : Nat) : CtxOk Try.prog (f27ctx k) := ctxOk tys_ok mixed_ok (consOk_cons (f95ok k) (consOk_nil))
theorem f27ok (k : Nat) : FnOk Try.prog 27 (f27con (laws_szColS k)) :=
  let hc := f27hc k
  fnOk (fn := Try.f27) (code := bodyOf Try.f27) (res := [.tmp 4]) hc (by kernel_rfl) (by kernel_rfl) (by decide) (by kernel_rfl) (by kernel_rfl) (by kernel_rfl) (Nat.le_of_ble_eq_true (by kernel_rfl)) _
    (fun x => Snd.seq (by kernel_rfl) (Snd.seq (by kernel_rfl) (Snd.seq (by kernel_rfl) (Snd.seq (by kernel_rfl) (Snd.exec hc _ _ _ _) (Snd.seq (by kernel_rfl) (Snd.block (id := 0) (by kernel_rfl) (Snd.loop' (by kernel_rfl) f27s5 (fun n x => laws_szColS.l5 k n x.1 x.2.1 x.2.2) _ (fun _ => rfl) (fun n5 => Snd.exec hc _ _ _ _) (fun n x => by kernel_rfl) k)) (Snd.exec hc _ _ _ _))) (Snd.exec hc _ _ _ _)) (Snd.exec hc _ _ _ _)) (Snd.exec hc _ _ _ _))
    (fun x => by kernel_rfl)

def f96in : SS := ⟨[(0, (.ro (.st (.cons .str (.cons (.int .i64) (.cons (.int .i64) (.cons (.int .i64) .nil)))))))], []⟩
def f96out : SS := ⟨[(0, (.agg (.cons (.ro .str) (.cons (.ro (.int .i64)) (.cons (.ro (.int .i64)) (.cons (.ro (.int .i64)) .nil))))))], []⟩
def f96con (F : TCol → Option (TCol)) : Con := ⟨f96in, f96out, 1, 1, fun x => F x⟩
def f96ctx (k : Nat) : Ctx := ⟨tyAt tys, conAt [], 17, fun _ => false⟩
theorem f96hc (k : Nat) : CtxOk Try.prog (f96ctx k) := ctxOk tys_ok mixed_ok (consOk_nil)
theorem f96ok (k : Nat) : FnOk Try.prog 96 (f96con (laws_toCol k)) :=
  let hc := f96hc k
  fnOk (fn := Try.f96) (code := bodyOf Try.f96) (res := [.cell 2 126]) hc (by kernel_rfl) (by kernel_rfl) (by decide) (by kernel_rfl) (by kernel_rfl) (by kernel_rfl) (Nat.le_of_ble_eq_true (by kernel_rfl)) _
    (fun x => Snd.exec hc _ _ _ _)
    (fun x => by kernel_rfl)

def f29in : SS := ⟨[(0, (.ro (.list 125 (.st (.cons .str (.cons (.int .i64) (.cons (.int .i64) (.cons (.int .i64) .nil))))))))], []⟩
def f29out : SS := ⟨[(0, (.h 100))], [(100, (.sl 126 (.st (.cons .str (.cons (.int .i64) (.cons (.int .i64) (.cons (.int .i64) .nil)))))))]⟩
def f29s3 : SS := ⟨[(0, (.ro (.list 125 (.st (.cons .str (.cons (.int .i64) (.cons (.int .i64) (.cons (.int .i64) .nil)))))))), (3, (.h 100)), (4, (.ro (.int .i64)))], [(100, (.sl 126 (.st (.cons .str (.cons (.int .i64) (.cons (.int .i64) (.cons (.int .i64) .nil)))))))]⟩
def f29con (F : (List TCol) → Option (Unit × (List TCol))) : Con := ⟨f29in, f29out, 1, 1, fun x => F x⟩
def f29ctx (k : Nat) : Ctx := ⟨tyAt tys, conAt [(96, [f96con (laws_toCol k)])], 23, fun _ => false⟩
theorem f29hc (k : Nat) : CtxOk Try.prog (f29ctx k) := ctxOk tys_ok mixed_ok (consOk_cons (f96ok k) (consOk_nil))
theorem f29ok (k : Nat) : FnOk Try.prog 29 (f29con (laws_toColS k)) :=
  let hc := f29hc k
  fnOk (fn := Try.f29) (code := bodyOf Try.f29) (res := [.tmp 2]) hc (by kernel_rfl) (by kernel_rfl) (by decide) (by kernel_rfl) (by kernel_rfl) (by kernel_rfl) (Nat.le_of_ble_eq_true (by kernel_rfl)) _
    (fun x => Snd.seq (by kernel_rfl) (Snd.seq (by kernel_rfl) (Snd.seq (by kernel_rfl) (Snd.exec hc _ _ _ _) (Snd.seq (by kernel_rfl) (Snd.block (id := 0) (by kernel_rfl) (Snd.loop' (by kernel_rfl) f29s3 (fun n x => laws_toColS.l3 k n x.1.1 x.1.2.2 x.2) _ (fun _ => rfl) (fun n3 => Snd.exec hc _ _ _ _) (fun n x => by kernel_rfl) k)) (Snd.exec hc _ _ _ _))) (Snd.exec hc _ _ _ _)) (Snd.exec hc _ _ _ _))
    (fun x => by kernel_rfl)

def f98in : SS := ⟨[(0, (.ro (.st (.cons .str (.cons (.int .i64) (.cons (.int .i64) (.cons (.int .i64) .nil))))))), (1, (.ro (.st (.cons .str (.cons (.int .i64) (.cons (.int .i64) (.cons (.int .i64) .nil)))))))], []⟩
def f98out : SS := ⟨[(0, (.ro .bool))], []⟩
def f98con (F : TCol → TCol → Option Bool) : Con := ⟨f98in, f98out, 2, 1, fun x => F x.1 x.2⟩
def f98ctx (k : Nat) : Ctx := ⟨tyAt tys, conAt [], 25, fun _ => false⟩
theorem f98hc (k : Nat) : CtxOk Try.prog (f98ctx k) := ctxOk tys_ok mixed_ok (consOk_nil)
theorem f98ok (k : Nat) : FnOk Try.prog 98 (f98con (laws_eqCol k)) :=
  let hc := f98hc k
  fnOk (fn := Try.f98) (code := bodyOf Try.f98) (res := [.tmp 4]) hc (by kernel_rfl) (by kernel_rfl) (by decide) (by kernel_rfl) (by kernel_rfl) (by kernel_rfl) (Nat.le_of_ble_eq_true (by kernel_rfl)) _
    (fun x => Snd.exec hc _ _ _ _)
    (fun x => by kernel_rfl)

def f32in : SS := ⟨[(0, (.ro (.list 126 (.st (.cons .str (.cons (.int .i64) (.cons (.int .i64) (.cons (.int .i64) .nil)))))))), (1, (.ro (.list 126 (.st (.cons .str (.cons (.int .i64) (.cons (.int .i64) (.cons (.int .i64) .nil))))))))], []⟩
def f32out : SS := ⟨[(0, (.ro .bool))], []⟩
def f32s4 : SS := ⟨[(0, (.ro (.list 126 (.st (.cons .str (.cons (.int .i64) (.cons (.int .i64) (.cons (.int .i64) .nil)))))))), (1, (.ro (.list 126 (.st (.cons .str (.cons (.int .i64) (.cons (.int .i64) (.cons (.int .i64) .nil)))))))), (5, (.ro (.int .i64)))], []⟩
def f32con (F : (List TCol) → (List TCol) → Option Bool) : Con := ⟨f32in, f32out, 2, 1, fun x => F x.1 x.2⟩
def f32ctx (k : Nat) : Ctx := ⟨tyAt tys, conAt [(98, [f98con (laws_eqCol k)])], 27, fun _ => false⟩
theorem f32hc (k : Nat) : CtxOk Try.prog (f32ctx k) := ctxOk tys_ok mixed_ok (consOk_cons (f98ok k) (consOk_nil))
theorem f32ok (k : Nat) : FnOk Try.prog 32 (f32con (laws_eqColS k)) :=
  let hc := f32hc k
  fnOk (fn := Try.f32) (code := bodyOf Try.f32) (res := [.tmp 4]) hc (by kernel_rfl) (by kernel_rfl) (by decide) (by kernel_rfl) (by kernel_rfl) (by kernel_rfl) (Nat.le_of_ble_eq_true (by kernel_rfl)) _
    (fun x => Snd.seq (by kernel_rfl) (Snd.seq (by kernel_rfl) (Snd.seq (by kernel_rfl) (Snd.exec hc _ _ _ _) (Snd.seq (by kernel_rfl) (Snd.block (id := 0) (by kernel_rfl) (Snd.loop' (by kernel_rfl) f32s4 (fun n x => laws_eqColS.l4 k n x.1 x.2.1 x.2.2) _ (fun _ => rfl) (fun n4 => Snd.exec hc _ _ _ _) (fun n x => by kernel_rfl) k)) (Snd.exec hc _ _ _ _))) (Snd.exec hc _ _ _ _)) (Snd.exec hc _ _ _ _))
    (fun x => by kernel_rfl)

def f178in : SS := ⟨[(0, (.ro (.st (.cons (.int .i64) (.cons .str .nil))))), (1, (.ro (.int .i64)))], []⟩
def f178out : SS := ⟨[(0, (.ro (.int .i64)))], []⟩
def f178con (F : TVal → Int → Option Int) : Con := ⟨f178in, f178out, 2, 1, fun x => F x.1 x.2⟩
def f178ctx (k : Nat) : Ctx := ⟨tyAt tys, conAt [], 13, fun _ => false⟩
theorem f178hc (k : Nat) : CtxOk Try.prog (f178ctx k) := ctxOk tys_ok mixed_ok (consOk_nil)
theorem f178ok (k : Nat) : FnOk Try.prog 178 (f178con (laws_szVal k)) :=
  let hc := f178hc k
  fnOk (fn := Try.f178) (code := bodyOf Try.f178) (res := [.tmp 4]) hc (by kernel_rfl) (by kernel_rfl) (by decide) (by kernel_rfl) (by kernel_rfl) (by kernel_rfl) (Nat.le_of_ble_eq_true (by kernel_rfl)) _
    (fun x => Snd.exec hc _ _ _ _)
    (fun x => by kernel_rfl)

def f116in : SS := ⟨[(0, (.ro (.st (.cons (.int .i64) (.cons (.int .i64) (.cons (.st (.cons (.int .i64) (.cons .str .nil))) (.cons (.int .i64) (.cons (.int .i64) .nil)))))))), (1, (.ro (.int .i64)))], []⟩
def f116out : SS := ⟨[(0, (.ro (.int .i64)))], []⟩
def f116con (F : TPred → Int → Option Int) : Con := ⟨f116in, f116out, 2, 1, fun x => F x.1 x.2⟩
def f116ctx (k : Nat) : Ctx := ⟨tyAt tys, conAt [(178, [f178con (laws_szVal k)])], 12, fun _ => false⟩
theorem f116hc (k : Nat) : CtxOk Try.prog (f116ctx k) := ctxOk tys_ok mixed_ok (consOk_cons (f178ok k) (consOk_nil))
theorem f116ok (k : Nat) : FnOk Try.prog 116 (f116con (laws_szPred k)) :=
  let hc := f116hc k
  fnOk (fn := Try.f116) (code := bodyOf Try.f116) (res := [.tmp 4]) hc (by kernel_rfl) (by kernel_rfl) (by decide) (by kernel_rfl) (by kernel_rfl) (by kernel_rfl) (Nat.le_of_ble_eq_true (by kernel_rfl)) _
    (fun x => Snd.exec hc _ _ _ _)
    (fun x => by kernel_rfl)

def f47in : SS := ⟨[(0, (.ro (.list 161 (.st (.cons (.int .i64) (.cons (.int .i64) (.cons (.st (.cons (.int .i64) (.cons .str .nil))) (.cons (.int .i64) (.cons (.int .i64) .nil))))))))), (1, (.ro (.int .i64)))], []⟩
def f47out : SS := ⟨[(0, (.ro (.int .i64)))], []⟩
def f47s5 : SS := ⟨[(0, (.ro (.list 161 (.st (.cons (.int .i64) (.cons (.int .i64) (.cons (.st (.cons (.int .i64) (.cons .str .nil))) (.cons (.int .i64) (.cons (.int .i64) .nil))))))))), (1, (.ro (.int .i64))), (5, (.ro (.int .i64)))], []⟩
def f47con (F : (List TPred) → Int → Option Int) : Con := ⟨f47in, f47out, 2, 1, fun x => F x.1 x.2⟩
def f47ctx (k : Nat) : Ctx := ⟨tyAt tys, conAt [(116, [f116con (laws_szPred k)])], 27, fun _ => false⟩
theorem f47hc (k : Nat) : CtxOk Try.prog (f47ctx k) := ctxOk tys_ok mixed_ok (consOk_cons (f116ok k) (consOk_nil))
theorem f47ok (k : Nat) : FnOk Try.prog 47 (f47con (laws_szPredS k)) :=
  let hc := f47hc k
  fnOk (fn := Try.f47) (code := bodyOf Try.f47) (res := [.tmp 4]) hc (by kernel_rfl) (by kernel_rfl) (by decide) (by kernel_rfl) (by kernel_rfl) (by kernel_rfl) (Nat.le_of_ble_eq_true (by kernel_rfl)) _
    (fun x => Snd.seq (by kernel_rfl) (Snd.seq (by kernel_rfl) (Snd.seq (by kernel_rfl) (Snd.seq (by kernel_rfl) (Snd.exec hc _ _ _ _) (Snd.seq (by kernel_rfl) (Snd.block (id := 0) (by kernel_rfl) (Snd.loop' (by kernel_rfl) f47s5 (fun n x => laws_szPredS.l5 k n x.1 x.2.1 x.2.2) _ (fun _ => rfl) (fun n5 => Snd.exec hc _ _ _ _) (fun n x => by kernel_rfl) k)) (Snd.exec hc _ _ _ _))) (Snd.exec hc _ _ _ _)) (Snd.exec hc _ _ _ _)) (Snd.exec hc _ _ _ _))
    (fun x => by kernel_rfl)

def f117in : SS := ⟨[(0, (.ro (.list 159 (.st (.cons (.int .i64) (.cons .str .nil)))))), (1, (.ro (.int .i64)))], []⟩
def f117out : SS := ⟨[(0, (.ro (.int .i64)))], []⟩
def f117s5 : SS := ⟨[(0, (.ro (.list 159 (.st (.cons (.int .i64) (.cons .str .nil)))))), (1, (.ro (.int .i64))), (5, (.ro (.int .i64)))], []⟩
def f117con (F : (List TVal) → Int → Option Int) : Con := ⟨f117in, f117out, 2, 1, fun x => F x.1 x.2⟩
def f117ctx (k : Nat) : Ctx := ⟨tyAt tys, conAt [(178, [f178con (laws_szVal k)])], 27, fun _ => false⟩
theorem f117hc (k : Nat) : CtxOk Try.prog (f117ctx k) := ctxOk tys_ok mixed_ok (consOk_cons (f178ok k) (consOk_nil))
theorem f117ok (k : Nat) : FnOk Try.prog 117 (f117con (laws_szValS k)) :=
  let hc := f117hc k
  fnOk (fn := Try.f117) (code := bodyOf Try.f117) (res := [.tmp 4]) hc (by kernel_rfl) (by kernel_rfl) (by decide) (by kernel_rfl) (by kernel_rfl) (by kernel_rfl) (Nat.le_of_ble_eq_true (by kernel_rfl)) _
    (fun x => Snd.seq (by kernel_rfl) (Snd.seq (by kernel_rfl) (Snd.seq (by kernel_rfl) (Snd.seq (by kernel_rfl) (Snd.exec hc _ _ _ _) (Snd.seq (by kernel_rfl) (Snd.block (id := 0) (by kernel_rfl) (Snd.loop' (by kernel_rfl) f117s5 (fun n x => laws_szValS.l5 k n x.1 x.2.1 x.2.2) _ (fun _ => rfl) (fun n5 => Snd.exec hc _ _ _ _) (fun n x => by kernel_rfl) k)) (Snd.exec hc _ _ _ _))) (Snd.exec hc _ _ _ _)) (Snd.exec hc _ _ _ _)) (Snd.exec hc _ _ _ _))
    (fun x => by kernel_rfl)

def f48in : SS := ⟨[(0, (.ro (.st (.cons (.list 159 (.st (.cons (.int .i64) (.cons .str .nil)))) .nil)))), (1, (.ro (.int .i64)))], []⟩
def f48out : SS := ⟨[(0, (.ro (.int .i64)))], []⟩
def f48con (F : TRec → Int → Option Int) : Con := ⟨f48in, f48out, 2, 1, fun x => F x.1 x.2⟩
def f48ctx (k : Nat) : Ctx := ⟨tyAt tys, conAt [(117, [f117con (laws_szValS k)])], 12, fun _ => false⟩
theorem f48hc (k : Nat) : CtxOk Try.prog (f48ctx k) := ctxOk tys_ok mixed_ok (consOk_cons (f117ok k) (consOk_nil))
theorem f48ok (k : Nat) : FnOk Try.prog 48 (f48con (laws_szRec k)) :=
  let hc := f48hc k
  fnOk (fn := Try.f48) (code := bodyOf Try.f48) (res := [.tmp 4]) hc (by kernel_rfl) (by kernel_rfl) (by decide) (by kernel_rfl) (by kernel_rfl) (by kernel_rfl) (Nat.le_of_ble_eq_true (by kernel_rfl)) _
    (fun x => Snd.exec hc _ _ _ _)
    (fun x => by kernel_rfl)

def f74in : SS := ⟨[(0, (.ro (.int .i64))), (1, (.ro (.int .i64))), (2, (.ro (.int .i64)))], []⟩
def f74out : SS := ⟨[(0, (.ro .bool))], []⟩
def f74con (F : Int → Int → Int → Option Bool) : Con := ⟨f74in, f74out, 3, 1, fun x => F x.1 x.2.1 x.2.2⟩
def f74ctx (k : Nat) : Ctx := ⟨tyAt tys, conAt [], 15, fun _ => false⟩
theorem f74hc (k : Nat) : CtxOk Try.prog (f74ctx k) := ctxOk tys_ok mixed_ok (consOk_nil)
theorem f74ok (k : Nat) : FnOk Try.prog 74 (f74con (spec_l1In k)) :=
  let hc := f74hc k
  fnOk (fn := Try.f74) (code := bodyOf Try.f74) (res := [.tmp 6]) hc (by kernel_rfl) (by kernel_rfl) (by decide) (by kernel_rfl) (by kernel_rfl) (by kernel_rfl) (Nat.le_of_ble_eq_true (by kernel_rfl)) _
    (fun x => Snd.exec hc _ _ _ _)
    (fun x => by kernel_rfl)

def f145in : SS := ⟨[(0, (.ro .str))], []⟩
def f145out : SS := ⟨[(0, (.ro .bool))], []⟩
def f145s4 : SS := ⟨[(0, (.ro .str)), (3, (.ro (.int .i64)))], []⟩
def f145con (F : ByteArray → Option Bool) : Con := ⟨f145in, f145out, 1, 1, fun x => F x⟩
def f145ctx (k : Nat) : Ctx := ⟨tyAt tys, conAt [(74, [f74con (spec_l1In k)])], 24, fun _ => false⟩
theorem f145hc (k : Nat) : CtxOk Try.prog (f145ctx k) := ctxOk tys_ok mixed_ok (consOk_cons (f74ok k) (consOk_nil))
theorem f145ok (k : Nat) : FnOk Try.prog 145 (f145con (spec_l5Name k)) :=
  let hc := f145hc k
  fnOk (fn := Try.f145) (code := bodyOf Try.f145) (res := [.tmp 2]) hc (by kernel_rfl) (by kernel_rfl) (by decide) (by kernel_rfl) (by kernel_rfl) (by kernel_rfl) (Nat.le_of_ble_eq_true (by kernel_rfl)) _
    (fun x => Snd.seq (by kernel_rfl) (Snd.seq (by kernel_rfl) (Snd.seq (by kernel_rfl) (Snd.exec hc _ _ _ _) (Snd.seq (by kernel_rfl) (Snd.block (id := 0) (by kernel_rfl) (Snd.loop' (by kernel_rfl) f145s4 (fun n x => spec_l5Name.l4 k n x.1 x.2) _ (fun _ => rfl) (fun n4 => Snd.exec hc _ _ _ _) (fun n x => by kernel_rfl) k)) (Snd.exec hc _ _ _ _))) (Snd.exec hc _ _ _ _)) (Snd.exec hc _ _ _ _))
    (fun x => by kernel_rfl)

def f146in : SS := ⟨[(0, (.ro (.int .i64)))], []⟩
def f146out : SS := ⟨[(0, (.ro .bool))], []⟩
def f146s7 : SS := ⟨[(4, (.ro .bool))], []⟩
def f146con (F : Int → Option Bool) : Con := ⟨f146in, f146out, 1, 1, fun x => F x⟩
def f146ctx (k : Nat) : Ctx := ⟨tyAt tys, conAt [], 10, fun _ => false⟩
theorem f146hc (k : Nat) : CtxOk Try.prog (f146ctx k) := ctxOk tys_ok mixed_ok (consOk_nil)
theorem f146ok (k : Nat) : FnOk Try.prog 146 (f146con (spec_l5Type k)) :=
  let hc := f146hc k
  fnOk (fn := Try.f146) (code := bodyOf Try.f146) (res := [.tmp 2]) hc (by kernel_rfl) (by kernel_rfl) (by decide) (by kernel_rfl) (by kernel_rfl) (by kernel_rfl) (Nat.le_of_ble_eq_true (by kernel_rfl)) _
    (fun x => Snd.seq (by kernel_rfl) (Snd.seq (by kernel_rfl) (Snd.exec hc _ _ _ _) (Snd.seq (by kernel_rfl) (Snd.block (id := 0) (by kernel_rfl) (Snd.seq (by kernel_rfl) (Snd.cut (Snd.exec hc _ _ _ _) ⟨f146s7, fun x => spec_l5Type.c7 k x⟩ (fun x => by kernel_rfl)) (Snd.exec hc _ _ _ _))) (Snd.exec hc _ _ _ _))) (Snd.exec hc _ _ _ _))
    (fun x => by kernel_rfl)

def f75in : SS := ⟨[(0, (.ro (.list 126 (.st (.cons .str (.cons (.int .i64) (.cons (.int .i64) (.cons (.int .i64) .nil)))))))), (1, (.ro (.int .i64))), (2, (.ro (.int .i64)))], []⟩
def f75out : SS := ⟨[(0, (.ro (.int .i64)))], []⟩
def f75s20 : SS := ⟨[(0, (.ro (.list 126 (.st (.cons .str (.cons (.int .i64) (.cons (.int .i64) (.cons (.int .i64) .nil)))))))), (2, (.ro (.int .i64))), (7, (.p 100)), (8, (.ro (.int .i64))), (9, (.h 101)), (10, (.ro (.int .i64))), (11, (.ro (.int .i64)))], [(100, (.box (.st (.cons .str (.cons (.int .i64) (.cons (.int .i64) (.cons (.int .i64) .nil))))) (.agg (.cons (.ro .str) (.cons (.ro (.int .i64)) (.cons (.ro (.int .i64)) (.cons (.ro (.int .i64)) .nil))))))), (101, (.sl 9 .str))]⟩
def f75s15 : SS := ⟨[(0, (.ro (.list 126 (.st (.cons .str (.cons (.int .i64) (.cons (.int .i64) (.cons (.int .i64) .nil)))))))), (2, (.ro (.int .i64))), (7, (.p 100)), (8, (.ro (.int .i64))), (9, (.h 101)), (10, (.ro (.int .i64)))], [(100, (.box (.st (.cons .str (.cons (.int .i64) (.cons (.int .i64) (.cons (.int .i64) .nil))))) (.agg (.cons (.ro .str) (.cons (.ro (.int .i64)) (.cons (.ro (.int .i64)) (.cons (.ro (.int .i64)) .nil))))))), (101, (.sl 9 .str))]⟩
def f75con (F : (List TCol) → Int → Int → Option Int) : Con := ⟨f75in, f75out, 3, 1, fun x => F x.1 x.2.1 x.2.2⟩
def f75ctx (k : Nat) (S75 : (List TCol) → Int → Int → Option Int) : Ctx := ⟨tyAt tys, conAt [(74, [f74con (spec_l1In k)]), (75, [f75con S75]), (145, [f145con (spec_l5Name k)]), (146, [f146con (spec_l5Type k)])], 119, fun _ => false⟩
theorem f75hc (k : Nat) (S75 : (List TCol) → Int → Int → Option Int) (h75 : FnOk Try.prog 75 (f75con S75)) : CtxOk Try.prog (f75ctx k S75) := ctxOk tys_ok mixed_ok (consOk_cons (f74ok k) (consOk_cons (h75) (consOk_cons (f145ok k) (consOk_cons (f146ok k) (consOk_nil)))))
theorem f75okb (k : Nat) (S75 : (List TCol) → Int → Int → Option Int) (h75 : FnOk Try.prog 75 (f75con S75)) : FnOk Try.prog 75 (f75con (spec_l5Check.b k S75)) :=
  let hc := f75hc k S75 h75
  fnOk (fn := Try.f75) (code := bodyOf Try.f75) (res := [.tmp 6]) hc (by kernel_rfl) (by kernel_rfl) (by decide) (by kernel_rfl) (by kernel_rfl) (by kernel_rfl) (Nat.le_of_ble_eq_true (by kernel_rfl)) _
    (fun x => Snd.seq (by kernel_rfl) (Snd.seq (by kernel_rfl) (Snd.seq (by kernel_rfl) (Snd.seq (by kernel_rfl) (Snd.seq (by kernel_rfl) (Snd.seq (by kernel_rfl) (Snd.seq (by kernel_rfl) (Snd.seq (by kernel_rfl) (Snd.seq (by kernel_rfl) (Snd.exec hc _ _ _ _) (Snd.seq (by kernel_rfl) (Snd.block (id := 0) (by kernel_rfl) (Snd.loop' (by kernel_rfl) f75s15 (fun n x => spec_l5Check.l15 k S75 n x.1.1 x.1.2.1 x.1.2.2.2.1 x.1.2.2.2.2.2 x.2.1 x.2.2) _ (fun _ => rfl) (fun n15 => Snd.seq (by kernel_rfl) (Snd.seq (by kernel_rfl) (Snd.exec hc _ _ _ _) (Snd.block (id := 1) (by kernel_rfl) (Snd.seq (by kernel_rfl) (Snd.seq (by kernel_rfl) (Snd.exec hc _ _ _ _) (Snd.seq (by kernel_rfl) (Snd.block (id := 2) (by kernel_rfl) (Snd.loop' (by kernel_rfl) f75s20 (fun n x => spec_l5Check.l20 k S75 (spec_l5Check.l15 k S75 n15) n x.1.1 x.1.2.1 x.1.2.2.2.1 x.1.2.2.2.2.2.1 x.1.2.2.2.2.2.2 x.2.1 x.2.2) _ (fun _ => rfl) (fun n20 => Snd.exec hc _ _ _ _) (fun n x => by kernel_rfl) k)) (Snd.exec hc _ _ _ _))) (Snd.exec hc _ _ _ _)))) (Snd.exec hc _ _ _ _)) (fun n x => by kernel_rfl) k)) (Snd.exec hc _ _ _ _))) (Snd.exec hc _ _ _ _)) (Snd.exec hc _ _ _ _)) (Snd.exec hc _ _ _ _)) (Snd.exec hc _ _ _ _)) (Snd.exec hc _ _ _ _)) (Snd.exec hc _ _ _ _)) (Snd.exec hc _ _ _ _)) (Snd.exec hc _ _ _ _))
    (fun x => by kernel_rfl)
theorem f75rec (k : Nat) : ∀ d, FnOk Try.prog 75 (f75con (spec_l5Check.d k d))
  | 0 => FnOk_none (fun _ => rfl)
  | d + 1 => let ih := f75rec k d
    f75okb k (spec_l5Check.d k d) ih
theorem f75ok (k : Nat) : FnOk Try.prog 75 (f75con (spec_l5Check k)) := (f75rec k k)

def f17in : SS := ⟨[(0, (.ro (.list 126 (.st (.cons .str (.cons (.int .i64) (.cons (.int .i64) (.cons (.int .i64) .nil))))))))], []⟩
def f17out : SS := ⟨[(0, (.ro .bool))], []⟩
def f17con (F : (List TCol) → Option Bool) : Con := ⟨f17in, f17out, 1, 1, fun x => F x⟩
def f17ctx (k : Nat) : Ctx := ⟨tyAt tys, conAt [(74, [f74con (spec_l1In k)]), (75, [f75con (spec_l5Check k)])], 13, fun _ => false⟩
theorem f17hc (k : Nat) : CtxOk Try.prog (f17ctx k) := ctxOk tys_ok mixed_ok (consOk_cons (f74ok k) (consOk_cons (f75ok k) (consOk_nil)))
theorem f17ok (k : Nat) : FnOk Try.prog 17 (f17con (spec_SchemaOk k)) :=
  let hc := f17hc k
  fnOk (fn := Try.f17) (code := bodyOf Try.f17) (res := [.tmp 2]) hc (by kernel_rfl) (by kernel_rfl) (by decide) (by kernel_rfl) (by kernel_rfl) (by kernel_rfl) (Nat.le_of_ble_eq_true (by kernel_rfl)) _
    (fun x => Snd.exec hc _ _ _ _)
    (fun x => by kernel_rfl)

def f166in : SS := ⟨[(0, (.ro (.int .i64)))], []⟩
def f166out : SS := ⟨[(0, (.ro .bool))], []⟩
def f166con (F : Int → Option Bool) : Con := ⟨f166in, f166out, 1, 1, fun x => F x⟩
def f166ctx (k : Nat) : Ctx := ⟨tyAt tys, conAt [(74, [f74con (spec_l1In k)])], 5, fun _ => false⟩
theorem f166hc (k : Nat) : CtxOk Try.prog (f166ctx k) := ctxOk tys_ok mixed_ok (consOk_cons (f74ok k) (consOk_nil))
theorem f166ok (k : Nat) : FnOk Try.prog 166 (f166con (spec_l4Int k)) :=
  let hc := f166hc k
  fnOk (fn := Try.f166) (code := bodyOf Try.f166) (res := [.tmp 2]) hc (by kernel_rfl) (by kernel_rfl) (by decide) (by kernel_rfl) (by kernel_rfl) (by kernel_rfl) (Nat.le_of_ble_eq_true (by kernel_rfl)) _
    (fun x => Snd.exec hc _ _ _ _)
    (fun x => by kernel_rfl)

def f142in : SS := ⟨[(0, (.ro (.int .i64))), (1, (.ro (.st (.cons (.int .i64) (.cons .str .nil)))))], []⟩
def f142out : SS := ⟨[(0, (.ro .bool))], []⟩
def f142s8 : SS := ⟨[(3, (.p 100)), (5, (.ro (.int .i64))), (26, (.ro .bool))], [(100, (.box (.st (.cons (.int .i64) (.cons .str .nil))) (.agg (.cons (.ro (.int .i64)) (.cons (.ro .str) .nil)))))]⟩
def f142con (F : Int → TVal → Option Bool) : Con := ⟨f142in, f142out, 2, 1, fun x => F x.1 x.2⟩
def f142ctx (k : Nat) : Ctx := ⟨tyAt tys, conAt [(74, [f74con (spec_l1In k)]), (166, [f166con (spec_l4Int k)])], 43, fun _ => false⟩
theorem f142hc (k : Nat) : CtxOk Try.prog (f142ctx k) := ctxOk tys_ok mixed_ok (consOk_cons (f74ok k) (consOk_cons (f166ok k) (consOk_nil)))
theorem f142ok (k : Nat) : FnOk Try.prog 142 (f142con (spec_ValOk k)) :=
  let hc := f142hc k
  fnOk (fn := Try.f142) (code := bodyOf Try.f142) (res := [.tmp 4]) hc (by kernel_rfl) (by kernel_rfl) (by decide) (by kernel_rfl) (by kernel_rfl) (by kernel_rfl) (Nat.le_of_ble_eq_true (by kernel_rfl)) _
    (fun x => Snd.seq (by kernel_rfl) (Snd.seq (by kernel_rfl) (Snd.exec hc _ _ _ _) (Snd.seq (by kernel_rfl) (Snd.block (id := 0) (by kernel_rfl) (Snd.seq (by kernel_rfl) (Snd.cond (x := .tmp 6) (by kernel_rfl) (Snd.exec hc _ _ _ _) (Snd.seq (by kernel_rfl) (Snd.cond (x := .tmp 16) (by kernel_rfl) (Snd.exec hc _ _ _ _) (Snd.seq (by kernel_rfl) (Snd.cut (Snd.exec hc _ _ _ _) ⟨f142s8, fun x => spec_ValOk.c8 k x.1.2.1 x.1.2.2 x.2⟩ (fun x => by kernel_rfl)) (Snd.exec hc _ _ _ _))) (Snd.exec hc _ _ _ _))) (Snd.exec hc _ _ _ _))) (Snd.exec hc _ _ _ _))) (Snd.exec hc _ _ _ _))
    (fun x => by kernel_rfl)

def f198in : SS := ⟨[(0, (.ro (.st (.cons (.int .i64) (.cons .str .nil))))), (1, (.ro (.int .i64)))], []⟩
def f198out : SS := ⟨[(0, (.ro (.int .i64)))], []⟩
def f198con (F : TVal → Int → Option Int) : Con := ⟨f198in, f198out, 2, 1, fun x => F x.1 x.2⟩
def f198ctx (k : Nat) : Ctx := ⟨tyAt tys, conAt [(74, [f74con (spec_l1In k)])], 17, fun _ => false⟩
theorem f198hc (k : Nat) : CtxOk Try.prog (f198ctx k) := ctxOk tys_ok mixed_ok (consOk_cons (f74ok k) (consOk_nil))
theorem f198ok (k : Nat) : FnOk Try.prog 198 (f198con (spec_l13Count k)) :=
  let hc := f198hc k
  fnOk (fn := Try.f198) (code := bodyOf Try.f198) (res := [.tmp 4]) hc (by kernel_rfl) (by kernel_rfl) (by decide) (by kernel_rfl) (by kernel_rfl) (by kernel_rfl) (Nat.le_of_ble_eq_true (by kernel_rfl)) _
    (fun x => Snd.exec hc _ _ _ _)
    (fun x => by kernel_rfl)

def f144in : SS := ⟨[(0, (.ro (.list 126 (.st (.cons .str (.cons (.int .i64) (.cons (.int .i64) (.cons (.int .i64) .nil)))))))), (1, (.ro (.int .i64)))], []⟩
def f144out : SS := ⟨[(0, (.ro (.int .i64)))], []⟩
def f144s3 : SS := ⟨[(0, (.ro (.list 126 (.st (.cons .str (.cons (.int .i64) (.cons (.int .i64) (.cons (.int .i64) .nil)))))))), (1, (.ro (.int .i64))), (5, (.ro (.int .i64))), (6, (.ro (.int .i64)))], []⟩
def f144con (F : (List TCol) → Int → Option Int) : Con := ⟨f144in, f144out, 2, 1, fun x => F x.1 x.2⟩
def f144ctx (k : Nat) (S144 : (List TCol) → Int → Option Int) : Ctx := ⟨tyAt tys, conAt [(144, [f144con S144])], 22, fun _ => false⟩
theorem f144hc (k : Nat) (S144 : (List TCol) → Int → Option Int) (h144 : FnOk Try.prog 144 (f144con S144)) : CtxOk Try.prog (f144ctx k S144) := ctxOk tys_ok mixed_ok (consOk_cons (h144) (consOk_nil))
theorem f144okb (k : Nat) (S144 : (List TCol) → Int → Option Int) (h144 : FnOk Try.prog 144 (f144con S144)) : FnOk Try.prog 144 (f144con (spec_l5After.b k S144)) :=
  let hc := f144hc k S144 h144
  fnOk (fn := Try.f144) (code := bodyOf Try.f144) (res := [.tmp 4]) hc (by kernel_rfl) (by kernel_rfl) (by decide) (by kernel_rfl) (by kernel_rfl) (by kernel_rfl) (Nat.le_of_ble_eq_true (by kernel_rfl)) _
    (fun x => Snd.seq (by kernel_rfl) (Snd.seq (by kernel_rfl) (Snd.seq (by kernel_rfl) (Snd.exec hc _ _ _ _) (Snd.seq (by kernel_rfl) (Snd.block (id := 0) (by kernel_rfl) (Snd.loop' (by kernel_rfl) f144s3 (fun n x => spec_l5After.l3 k S144 n x.1 x.2.1 x.2.2.1 x.2.2.2) _ (fun _ => rfl) (fun n3 => Snd.exec hc _ _ _ _) (fun n x => by kernel_rfl) k)) (Snd.exec hc _ _ _ _))) (Snd.exec hc _ _ _ _)) (Snd.exec hc _ _ _ _))
    (fun x => by kernel_rfl)
theorem f144rec (k : Nat) : ∀ d, FnOk Try.prog 144 (f144con (spec_l5After.d k d))
  | 0 => FnOk_none (fun _ => rfl)
  | d + 1 => let ih := f144rec k d
    f144okb k (spec_l5After.d k d) ih
theorem f144ok (k : Nat) : FnOk Try.prog 144 (f144con (spec_l5After k)) := (f144rec k k)

def f72in : SS := ⟨[(0, (.ro (.list 126 (.st (.cons .str (.cons (.int .i64) (.cons (.int .i64) (.cons (.int .i64) .nil)))))))), (1, (.ro (.int .i64))), (2, (.ro (.list 52 (.st (.cons (.int .i64) (.cons .str .nil)))))), (3, (.ro (.int .i64)))], []⟩
def f72out : SS := ⟨[(0, (.ro (.int .i64)))], []⟩
def f72s7 : SS := ⟨[(0, (.ro (.list 126 (.st (.cons .str (.cons (.int .i64) (.cons (.int .i64) (.cons (.int .i64) .nil)))))))), (1, (.ro (.int .i64))), (2, (.ro (.list 52 (.st (.cons (.int .i64) (.cons .str .nil)))))), (3, (.ro (.int .i64))), (9, (.ro (.int .i64))), (10, (.ro (.int .i64)))], []⟩
def f72con (F : (List TCol) → Int → (List TVal) → Int → Option Int) : Con := ⟨f72in, f72out, 4, 1, fun x => F x.1 x.2.1 x.2.2.1 x.2.2.2⟩
def f143in : SS := ⟨[(0, (.ro (.list 126 (.st (.cons .str (.cons (.int .i64) (.cons (.int .i64) (.cons (.int .i64) .nil)))))))), (1, (.ro (.int .i64))), (2, (.ro (.list 52 (.st (.cons (.int .i64) (.cons .str .nil)))))), (3, (.ro (.int .i64)))], []⟩
def f143out : SS := ⟨[(0, (.ro (.int .i64)))], []⟩
def f143s13 : SS := ⟨[(0, (.ro (.list 126 (.st (.cons .str (.cons (.int .i64) (.cons (.int .i64) (.cons (.int .i64) .nil)))))))), (1, (.ro (.int .i64))), (2, (.ro (.list 52 (.st (.cons (.int .i64) (.cons .str .nil)))))), (3, (.ro (.int .i64))), (9, (.ro (.int .i64))), (11, (.ro (.int .i64)))], []⟩
def f143s12 : SS := ⟨[(0, (.ro (.list 126 (.st (.cons .str (.cons (.int .i64) (.cons (.int .i64) (.cons (.int .i64) .nil)))))))), (1, (.ro (.int .i64))), (2, (.ro (.list 52 (.st (.cons (.int .i64) (.cons .str .nil)))))), (3, (.ro (.int .i64))), (9, (.ro (.int .i64)))], []⟩
def f143s6 : SS := ⟨[(0, (.ro (.list 126 (.st (.cons .str (.cons (.int .i64) (.cons (.int .i64) (.cons (.int .i64) .nil)))))))), (1, (.ro (.int .i64))), (2, (.ro (.list 52 (.st (.cons (.int .i64) (.cons .str .nil)))))), (3, (.ro (.int .i64))), (10, (.ro (.int .i64)))], []⟩
def f143con (F : (List TCol) → Int → (List TVal) → Int → Option Int) : Con := ⟨f143in, f143out, 4, 1, fun x => F x.1 x.2.1 x.2.2.1 x.2.2.2⟩
def f72ctx (k : Nat) (S72 : (List TCol) → Int → (List TVal) → Int → Option Int) (S143 : (List TCol) → Int → (List TVal) → Int → Option Int) : Ctx := ⟨tyAt tys, conAt [(142, [f142con (spec_ValOk k)]), (143, [f143con S143]), (144, [f144con (spec_l5After k)])], 58, fun _ => false⟩
theorem f72hc (k : Nat) (S72 : (List TCol) → Int → (List TVal) → Int → Option Int) (S143 : (List TCol) → Int → (List TVal) → Int → Option Int) (h72 : FnOk Try.prog 72 (f72con S72)) (h143 : FnOk Try.prog 143 (f143con S143)) : CtxOk Try.prog (f72ctx k S72 S143) := ctxOk tys_ok mixed_ok (consOk_cons (f142ok k) (consOk_cons (h143) (consOk_cons (f144ok k) (consOk_nil))))
theorem f72okb (k : Nat) (S72 : (List TCol) → Int → (List TVal) → Int → Option Int) (S143 : (List TCol) → Int → (List TVal) → Int → Option Int) (h72 : FnOk Try.prog 72 (f72con S72)) (h143 : FnOk Try.prog 143 (f143con S143)) : FnOk Try.prog 72 (f72con (spec_l13Content.b k S72 S143)) :=
  let hc := f72hc k S72 S143 h72 h143
  fnOk (fn := Try.f72) (code := bodyOf Try.f72) (res := [.tmp 8]) hc (by kernel_rfl) (by kernel_rfl) (by decide) (by kernel_rfl) (by kernel_rfl) (by kernel_rfl) (Nat.le_of_ble_eq_true (by kernel_rfl)) _
    (fun x => Snd.seq (by kernel_rfl) (Snd.seq (by kernel_rfl) (Snd.seq (by kernel_rfl) (Snd.seq (by kernel_rfl) (Snd.exec hc _ _ _ _) (Snd.seq (by kernel_rfl) (Snd.block (id := 0) (by kernel_rfl) (Snd.loop' (by kernel_rfl) f72s7 (fun n x => spec_l13Content.l7 k S143 n x.1 x.2.1 x.2.2.1 x.2.2.2.1 x.2.2.2.2.1 x.2.2.2.2.2) _ (fun _ => rfl) (fun n7 => Snd.exec hc _ _ _ _) (fun n x => by kernel_rfl) k)) (Snd.exec hc _ _ _ _))) (Snd.exec hc _ _ _ _)) (Snd.exec hc _ _ _ _)) (Snd.exec hc _ _ _ _))
    (fun x => by kernel_rfl)
def f143ctx (k : Nat) (S72 : (List TCol) → Int → (List TVal) → Int → Option Int) (S143 : (List TCol) → Int → (List TVal) → Int → Option Int) : Ctx := ⟨tyAt tys, conAt [(72, [f72con S72]), (198, [f198con (spec_l13Count k)])], 51, fun _ => false⟩
theorem f143hc (k : Nat) (S72 : (List TCol) → Int → (List TVal) → Int → Option Int) (S143 : (List TCol) → Int → (List TVal) → Int → Option Int) (h72 : FnOk Try.prog 72 (f72con S72)) (h143 : FnOk Try.prog 143 (f143con S143)) : CtxOk Try.prog (f143ctx k S72 S143) := ctxOk tys_ok mixed_ok (consOk_cons (h72) (consOk_cons (f198ok k) (consOk_nil)))
theorem f143okb (k : Nat) (S72 : (List TCol) → Int → (List TVal) → Int → Option Int) (S143 : (List TCol) → Int → (List TVal) → Int → Option Int) (h72 : FnOk Try.prog 72 (f72con S72)) (h143 : FnOk Try.prog 143 (f143con S143)) : FnOk Try.prog 143 (f143con (spec_l13Part.b k S72 S143)) :=
  let hc := f143hc k S72 S143 h72 h143
  fnOk (fn := Try.f143) (code := bodyOf Try.f143) (res := [.tmp 8]) hc (by kernel_rfl) (by kernel_rfl) (by decide) (by kernel_rfl) (by kernel_rfl) (by kernel_rfl) (Nat.le_of_ble_eq_true (by kernel_rfl)) _
    (fun x => Snd.seq (by kernel_rfl) (Snd.seq (by kernel_rfl) (Snd.seq (by kernel_rfl) (Snd.cut (Snd.seq (by kernel_rfl) (Snd.exec hc _ _ _ _) (Snd.seq (by kernel_rfl) (Snd.block (id := 0) (by kernel_rfl) (Snd.loop' (by kernel_rfl) f143s13 (fun n x => spec_l13Part.l13 k S72 n x.1 x.2.1 x.2.2.1 x.2.2.2.1 x.2.2.2.2.1 x.2.2.2.2.2) _ (fun _ => rfl) (fun n13 => Snd.exec hc _ _ _ _) (fun n x => by kernel_rfl) k)) (Snd.exec hc _ _ _ _))) ⟨f143s12, fun x => spec_l13Part.c12 k S72 x.1 x.2.1 x.2.2.1 x.2.2.2.1 x.2.2.2.2⟩ (fun x => by kernel_rfl)) (Snd.seq (by kernel_rfl) (Snd.cond (x := .tmp 17) (by kernel_rfl) (Snd.seq (by kernel_rfl) (Snd.seq (by kernel_rfl) (Snd.cut (Snd.exec hc _ _ _ _) ⟨f143s6, fun x => spec_l13Part.c6 k S72 x.1 x.2.1 x.2.2.1 x.2.2.2.1 x.2.2.2.2⟩ (fun x => by kernel_rfl)) (Snd.exec hc _ _ _ _)) (Snd.exec hc _ _ _ _)) (Snd.exec hc _ _ _ _)) (Snd.exec hc _ _ _ _))) (Snd.exec hc _ _ _ _)) (Snd.exec hc _ _ _ _))
    (fun x => by kernel_rfl)
theorem f72rec (k : Nat) : ∀ d, FnOk Try.prog 72 (f72con (spec_l13Content.d k d)) ∧ FnOk Try.prog 143 (f143con (spec_l13Part.d k d))
  | 0 => ⟨FnOk_none (fun _ => rfl), FnOk_none (fun _ => rfl)⟩
  | d + 1 => let ih := f72rec k d
    ⟨f72okb k (spec_l13Content.d k d) (spec_l13Part.d k d) ih.1 ih.2, f143okb k (spec_l13Content.d k d) (spec_l13Part.d k d) ih.1 ih.2⟩
theorem f72ok (k : Nat) : FnOk Try.prog 72 (f72con (spec_l13Content k)) := (f72rec k k).1
theorem f143ok (k : Nat) : FnOk Try.prog 143 (f143con (spec_l13Part k)) := (f72rec k k).2

def f15in : SS := ⟨[(0, (.ro (.list 126 (.st (.cons .str (.cons (.int .i64) (.cons (.int .i64) (.cons (.int .i64) .nil)))))))), (1, (.ro (.st (.cons (.list 52 (.st (.cons (.int .i64) (.cons .str .nil)))) .nil))))], []⟩
def f15out : SS := ⟨[(0, (.ro .bool))], []⟩
def f15d1 : SS := ⟨[(0, (.ro (.list 126 (.st (.cons .str (.cons (.int .i64) (.cons (.int .i64) (.cons (.int .i64) .nil)))))))), (3, (.p 100))], [(100, (.box (.st (.cons (.list 52 (.st (.cons (.int .i64) (.cons .str .nil)))) .nil)) (.agg (.cons (.ro (.list 52 (.st (.cons (.int .i64) (.cons .str .nil))))) .nil))))]⟩
def f15con (F : (List TCol) → TRec → Option Bool) : Con := ⟨f15in, f15out, 2, 1, fun x => F x.1 x.2⟩
def f15ctx (k : Nat) : Ctx := ⟨tyAt tys, conAt [(17, [f17con (spec_SchemaOk k)]), (72, [f72con (spec_l13Content k)])], 23, fun _ => false⟩
theorem f15hc (k : Nat) : CtxOk Try.prog (f15ctx k) := ctxOk tys_ok mixed_ok (consOk_cons (f17ok k) (consOk_cons (f72ok k) (consOk_nil)))
theorem f15ok (k : Nat) : FnOk Try.prog 15 (f15con (spec_RecOk k)) :=
  let hc := f15hc k
  fnOk (fn := Try.f15) (code := bodyOf Try.f15) (res := [.tmp 4]) hc (by kernel_rfl) (by kernel_rfl) (by decide) (by kernel_rfl) (by kernel_rfl) (by kernel_rfl) (Nat.le_of_ble_eq_true (by kernel_rfl)) _
    (fun x => Snd.seq (by kernel_rfl) (Snd.seq (by kernel_rfl) (Snd.exec hc _ _ _ _) (Snd.fork hc (id := 1) (by kernel_rfl) ⟨f15d1, fun x => spec_RecOk.d1 k x.1.1 x.2⟩ [[0, 1, 2, 3, 4, 5, 6, 7, 8, 9, 10, 11, 13, 12, 14, 15, 16, 17, 18], [0, 1, 2, 3, 4, 5, 6, 7, 8, 9, 10, 11, 13, 14, 15, 12, 16, 17, 18]] (by kernel_rfl) (ords_cons (fun x => by kernel_rfl) (ords_cons (fun x => by kernel_rfl) (ords_nil))))) (Snd.exec hc _ _ _ _))
    (fun x => by kernel_rfl)

def f80in : SS := ⟨[(0, (.ro (.list 126 (.st (.cons .str (.cons (.int .i64) (.cons (.int .i64) (.cons (.int .i64) .nil))))))))], []⟩
def f80out : SS := ⟨[(0, (.h 100))], [(100, (.sl 3 (.int .i64)))]⟩
def f80s4 : SS := ⟨[(0, (.ro (.list 126 (.st (.cons .str (.cons (.int .i64) (.cons (.int .i64) (.cons (.int .i64) .nil)))))))), (3, (.h 100)), (4, (.ro (.int .i64)))], [(100, (.sl 3 (.int .i64)))]⟩
def f80s3 : SS := ⟨[(0, (.ro (.list 126 (.st (.cons .str (.cons (.int .i64) (.cons (.int .i64) (.cons (.int .i64) .nil)))))))), (3, (.h 100)), (4, (.ro (.int .i64)))], [(100, (.sl 3 (.int .i64)))]⟩
def f80con (F : (List TCol) → Option (Unit × (List Int))) : Con := ⟨f80in, f80out, 1, 1, fun x => F x⟩
def f80ctx (k : Nat) : Ctx := ⟨tyAt tys, conAt [], 23, fun _ => false⟩
theorem f80hc (k : Nat) : CtxOk Try.prog (f80ctx k) := ctxOk tys_ok mixed_ok (consOk_nil)
theorem f80ok (k : Nat) : FnOk Try.prog 80 (f80con (spec_l5Leaves k)) :=
  let hc := f80hc k
  fnOk (fn := Try.f80) (code := bodyOf Try.f80) (res := [.tmp 2]) hc (by kernel_rfl) (by kernel_rfl) (by decide) (by kernel_rfl) (by kernel_rfl) (by kernel_rfl) (Nat.le_of_ble_eq_true (by kernel_rfl)) _
    (fun x => Snd.seq (by kernel_rfl) (Snd.seq (by kernel_rfl) (Snd.seq (by kernel_rfl) (Snd.exec hc _ _ _ _) (Snd.seq (by kernel_rfl) (Snd.block (id := 0) (by kernel_rfl) (Snd.loop' (by kernel_rfl) f80s3 (fun n x => spec_l5Leaves.l3 k n x.1.1 x.1.2.2 x.2) _ (fun _ => rfl) (fun n3 => Snd.seq (by kernel_rfl) (Snd.seq (by kernel_rfl) (Snd.cut (Snd.exec hc _ _ _ _) ⟨f80s4, fun x => spec_l5Leaves.c4 k (spec_l5Leaves.l3 k n3) x.1.1 x.1.2.2 x.2⟩ (fun x => by kernel_rfl)) (Snd.exec hc _ _ _ _)) (Snd.exec hc _ _ _ _)) (fun n x => by kernel_rfl) k)) (Snd.exec hc _ _ _ _))) (Snd.exec hc _ _ _ _)) (Snd.exec hc _ _ _ _))
    (fun x => by kernel_rfl)

def f19in : SS := ⟨[(0, (.ro (.list 126 (.st (.cons .str (.cons (.int .i64) (.cons (.int .i64) (.cons (.int .i64) .nil))))))))], []⟩
def f19out : SS := ⟨[(0, (.h 100))], [(100, (.sl 3 (.int .i64)))]⟩
def f19con (F : (List TCol) → Option (Unit × (List Int))) : Con := ⟨f19in, f19out, 1, 1, fun x => F x⟩
def f19ctx (k : Nat) : Ctx := ⟨tyAt tys, conAt [(17, [f17con (spec_SchemaOk k)]), (80, [f80con (spec_l5Leaves k)])], 9, fun _ => false⟩
theorem f19hc (k : Nat) : CtxOk Try.prog (f19ctx k) := ctxOk tys_ok mixed_ok (consOk_cons (f17ok k) (consOk_cons (f80ok k) (consOk_nil)))
theorem f19ok (k : Nat) : FnOk Try.prog 19 (f19con (spec_SchemaLeaves k)) :=
  let hc := f19hc k
  fnOk (fn := Try.f19) (code := bodyOf Try.f19) (res := [.tmp 2]) hc (by kernel_rfl) (by kernel_rfl) (by decide) (by kernel_rfl) (by kernel_rfl) (by kernel_rfl) (Nat.le_of_ble_eq_true (by kernel_rfl)) _
    (fun x => Snd.exec hc _ _ _ _)
    (fun x => by kernel_rfl)

def f147in : SS := ⟨[(0, (.ro (.list 126 (.st (.cons .str (.cons (.int .i64) (.cons (.int .i64) (.cons (.int .i64) .nil)))))))), (1, (.ro (.int .i64)))], []⟩
def f147out : SS := ⟨[(0, (.h 100))], [(100, (.sl 3 (.int .i64)))]⟩
def f147s4 : SS := ⟨[(0, (.ro (.list 126 (.st (.cons .str (.cons (.int .i64) (.cons (.int .i64) (.cons (.int .i64) .nil)))))))), (1, (.ro (.int .i64))), (5, (.h 100)), (6, (.ro (.int .i64)))], [(100, (.sl 3 (.int .i64)))]⟩
def f147s3 : SS := ⟨[(0, (.ro (.list 126 (.st (.cons .str (.cons (.int .i64) (.cons (.int .i64) (.cons (.int .i64) .nil)))))))), (1, (.ro (.int .i64))), (5, (.h 100)), (6, (.ro (.int .i64)))], [(100, (.sl 3 (.int .i64)))]⟩
def f147con (F : (List TCol) → Int → Option (Unit × (List Int))) : Con := ⟨f147in, f147out, 2, 1, fun x => F x.1 x.2⟩
def f147ctx (k : Nat) : Ctx := ⟨tyAt tys, conAt [(144, [f144con (spec_l5After k)])], 23, fun _ => false⟩
theorem f147hc (k : Nat) : CtxOk Try.prog (f147ctx k) := ctxOk tys_ok mixed_ok (consOk_cons (f144ok k) (consOk_nil))
theorem f147ok (k : Nat) : FnOk Try.prog 147 (f147con (spec_l5Way k)) :=
  let hc := f147hc k
  fnOk (fn := Try.f147) (code := bodyOf Try.f147) (res := [.tmp 4]) hc (by kernel_rfl) (by kernel_rfl) (by decide) (by kernel_rfl) (by kernel_rfl) (by kernel_rfl) (Nat.le_of_ble_eq_true (by kernel_rfl)) _
    (fun x => Snd.seq (by kernel_rfl) (Snd.seq (by kernel_rfl) (Snd.seq (by kernel_rfl) (Snd.exec hc _ _ _ _) (Snd.seq (by kernel_rfl) (Snd.block (id := 0) (by kernel_rfl) (Snd.loop' (by kernel_rfl) f147s3 (fun n x => spec_l5Way.l3 k n x.1.1 x.1.2.1 x.1.2.2.2 x.2) _ (fun _ => rfl) (fun n3 => Snd.seq (by kernel_rfl) (Snd.seq (by kernel_rfl) (Snd.cut (Snd.exec hc _ _ _ _) ⟨f147s4, fun x => spec_l5Way.c4 k (spec_l5Way.l3 k n3) x.1.1 x.1.2.1 x.1.2.2.2 x.2⟩ (fun x => by kernel_rfl)) (Snd.exec hc _ _ _ _)) (Snd.exec hc _ _ _ _)) (fun n x => by kernel_rfl) k)) (Snd.exec hc _ _ _ _))) (Snd.exec hc _ _ _ _)) (Snd.exec hc _ _ _ _))
    (fun x => by kernel_rfl)

def f82in : SS := ⟨[(0, (.ro (.list 126 (.st (.cons .str (.cons (.int .i64) (.cons (.int .i64) (.cons (.int .i64) .nil)))))))), (1, (.ro (.int .i64)))], []⟩
def f82out : SS := ⟨[(0, (.ro (.int .i64))), (1, (.ro (.int .i64)))], []⟩
def f82s5 : SS := ⟨[(0, (.ro (.list 126 (.st (.cons .str (.cons (.int .i64) (.cons (.int .i64) (.cons (.int .i64) .nil)))))))), (6, (.ro (.int .i64))), (7, (.ro (.int .i64))), (8, (.h 100)), (9, (.ro (.int .i64)))], [(100, (.sl 3 (.int .i64)))]⟩
def f82s8 : SS := ⟨[(0, (.ro (.list 126 (.st (.cons .str (.cons (.int .i64) (.cons (.int .i64) (.cons (.int .i64) .nil)))))))), (6, (.ro (.int .i64))), (7, (.ro (.int .i64))), (8, (.h 100)), (9, (.ro (.int .i64)))], [(100, (.sl 3 (.int .i64)))]⟩
def f82s4 : SS := ⟨[(0, (.ro (.list 126 (.st (.cons .str (.cons (.int .i64) (.cons (.int .i64) (.cons (.int .i64) .nil)))))))), (6, (.ro (.int .i64))), (7, (.ro (.int .i64))), (8, (.h 100)), (9, (.ro (.int .i64)))], [(100, (.sl 3 (.int .i64)))]⟩
def f82con (F : (List TCol) → Int → Option (Int × Int)) : Con := ⟨f82in, f82out, 2, 2, fun x => F x.1 x.2⟩
def f82ctx (k : Nat) : Ctx := ⟨tyAt tys, conAt [(147, [f147con (spec_l5Way k)])], 43, fun _ => false⟩
theorem f82hc (k : Nat) : CtxOk Try.prog (f82ctx k) := ctxOk tys_ok mixed_ok (consOk_cons (f147ok k) (consOk_nil))
theorem f82ok (k : Nat) : FnOk Try.prog 82 (f82con (spec_l5Max k)) :=
  let hc := f82hc k
  fnOk (fn := Try.f82) (code := bodyOf Try.f82) (res := [.tmp 4, .tmp 5]) hc (by kernel_rfl) (by kernel_rfl) (by decide) (by kernel_rfl) (by kernel_rfl) (by kernel_rfl) (Nat.le_of_ble_eq_true (by kernel_rfl)) _
    (fun x => Snd.seq (by kernel_rfl) (Snd.seq (by kernel_rfl) (Snd.seq (by kernel_rfl) (Snd.seq (by kernel_rfl) (Snd.exec hc _ _ _ _) (Snd.seq (by kernel_rfl) (Snd.block (id := 0) (by kernel_rfl) (Snd.loop' (by kernel_rfl) f82s4 (fun n x => spec_l5Max.l4 k n x.1.1 x.1.2.1 x.1.2.2.1 x.1.2.2.2.2 x.2) _ (fun _ => rfl) (fun n4 => Snd.seq (by kernel_rfl) (Snd.seq (by kernel_rfl) (Snd.cut (Snd.exec hc _ _ _ _) ⟨f82s5, fun x => spec_l5Max.c5 k (spec_l5Max.l4 k n4) x.1.1 x.1.2.1 x.1.2.2.1 x.1.2.2.2.2 x.2⟩ (fun x => by kernel_rfl)) (Snd.block (id := 1) (by kernel_rfl) (Snd.seq (by kernel_rfl) (Snd.cut (Snd.exec hc _ _ _ _) ⟨f82s8, fun x => spec_l5Max.c8 k (spec_l5Max.l4 k n4) x.1.1 x.1.2.1 x.1.2.2.1 x.1.2.2.2.2 x.2⟩ (fun x => by kernel_rfl)) (Snd.exec hc _ _ _ _)))) (Snd.exec hc _ _ _ _)) (fun n x => by kernel_rfl) k)) (Snd.exec hc _ _ _ _))) (Snd.exec hc _ _ _ _)) (Snd.exec hc _ _ _ _)) (Snd.exec hc _ _ _ _))
    (fun x => by kernel_rfl)

def f179in : SS := ⟨[(0, (.ro (.list 126 (.st (.cons .str (.cons (.int .i64) (.cons (.int .i64) (.cons (.int .i64) .nil)))))))), (1, (.ro (.int .i64)))], []⟩
def f179out : SS := ⟨[(0, (.agg (.cons (.ro (.int .i64)) (.cons (.ro (.int .i64)) (.cons (.ro (.int .i64)) .nil))))), (1, (.ro .bool))], []⟩
def f179con (F : (List TCol) → Int → Option (TLeaf × Bool)) : Con := ⟨f179in, f179out, 2, 2, fun x => F x.1 x.2⟩
def f179ctx (k : Nat) : Ctx := ⟨tyAt tys, conAt [(19, [f19con (spec_SchemaLeaves k)]), (74, [f74con (spec_l1In k)]), (82, [f82con (spec_l5Max k)])], 38, fun _ => false⟩
theorem f179hc (k : Nat) : CtxOk Try.prog (f179ctx k) := ctxOk tys_ok mixed_ok (consOk_cons (f19ok k) (consOk_cons (f74ok k) (consOk_cons (f82ok k) (consOk_nil))))
theorem f179ok (k : Nat) : FnOk Try.prog 179 (f179con (spec_LeafOf k)) :=
  let hc := f179hc k
  fnOk (fn := Try.f179) (code := bodyOf Try.f179) (res := [.cell 4 147, .tmp 5]) hc (by kernel_rfl) (by kernel_rfl) (by decide) (by kernel_rfl) (by kernel_rfl) (by kernel_rfl) (Nat.le_of_ble_eq_true (by kernel_rfl)) _
    (fun x => Snd.exec hc _ _ _ _)
    (fun x => by kernel_rfl)

def f128in : SS := ⟨[(0, (.ro (.list 126 (.st (.cons .str (.cons (.int .i64) (.cons (.int .i64) (.cons (.int .i64) .nil)))))))), (1, (.ro (.st (.cons (.int .i64) (.cons (.int .i64) (.cons (.st (.cons (.int .i64) (.cons .str .nil))) (.cons (.int .i64) (.cons (.int .i64) .nil))))))))], []⟩
def f128out : SS := ⟨[(0, (.ro .bool))], []⟩
def f128s14 : SS := ⟨[(3, (.p 100)), (5, (.p 101)), (14, (.ro (.int .i64))), (72, (.ro .bool))], [(100, (.box (.st (.cons (.int .i64) (.cons (.int .i64) (.cons (.st (.cons (.int .i64) (.cons .str .nil))) (.cons (.int .i64) (.cons (.int .i64) .nil)))))) (.agg (.cons (.ro (.int .i64)) (.cons (.ro (.int .i64)) (.cons (.agg (.cons (.ro (.int .i64)) (.cons (.ro .str) .nil))) (.cons (.ro (.int .i64)) (.cons (.ro (.int .i64)) .nil)))))))), (101, (.box (.st (.cons (.int .i64) (.cons (.int .i64) (.cons (.st (.cons (.int .i64) (.cons .str .nil))) (.cons (.int .i64) (.cons (.int .i64) .nil)))))) (.agg (.cons (.ro (.int .i64)) (.cons (.ro (.int .i64)) (.cons (.agg (.cons (.ro (.int .i64)) (.cons (.ro .str) .nil))) (.cons (.ro (.int .i64)) (.cons (.ro (.int .i64)) .nil))))))))]⟩
def f128s6 : SS := ⟨[(0, (.ro (.list 126 (.st (.cons .str (.cons (.int .i64) (.cons (.int .i64) (.cons (.int .i64) .nil)))))))), (3, (.p 100)), (5, (.p 101)), (14, (.ro (.int .i64))), (15, (.ro .bool))], [(100, (.box (.st (.cons (.int .i64) (.cons (.int .i64) (.cons (.st (.cons (.int .i64) (.cons .str .nil))) (.cons (.int .i64) (.cons (.int .i64) .nil)))))) (.agg (.cons (.ro (.int .i64)) (.cons (.ro (.int .i64)) (.cons (.agg (.cons (.ro (.int .i64)) (.cons (.ro .str) .nil))) (.cons (.ro (.int .i64)) (.cons (.ro (.int .i64)) .nil)))))))), (101, (.box (.st (.cons (.int .i64) (.cons (.int .i64) (.cons (.st (.cons (.int .i64) (.cons .str .nil))) (.cons (.int .i64) (.cons (.int .i64) .nil)))))) (.agg (.cons (.ro (.int .i64)) (.cons (.ro (.int .i64)) (.cons (.agg (.cons (.ro (.int .i64)) (.cons (.ro .str) .nil))) (.cons (.ro (.int .i64)) (.cons (.ro (.int .i64)) .nil))))))))]⟩
def f128con (F : (List TCol) → TPred → Option Bool) : Con := ⟨f128in, f128out, 2, 1, fun x => F x.1 x.2⟩
def f128ctx (k : Nat) : Ctx := ⟨tyAt tys, conAt [(142, [f142con (spec_ValOk k)]), (179, [f179con (spec_LeafOf k)])], 92, fun _ => false⟩
theorem f128hc (k : Nat) : CtxOk Try.prog (f128ctx k) := ctxOk tys_ok mixed_ok (consOk_cons (f142ok k) (consOk_cons (f179ok k) (consOk_nil)))
theorem f128ok (k : Nat) : FnOk Try.prog 128 (f128con (spec_l20Plain k)) :=
  let hc := f128hc k
  fnOk (fn := Try.f128) (code := bodyOf Try.f128) (res := [.tmp 4]) hc (by kernel_rfl) (by kernel_rfl) (by decide) (by kernel_rfl) (by kernel_rfl) (by kernel_rfl) (Nat.le_of_ble_eq_true (by kernel_rfl)) _
    (fun x => Snd.seq (by kernel_rfl) (Snd.seq (by kernel_rfl) (Snd.seq (by kernel_rfl) (Snd.exec hc _ _ _ _) (Snd.seq (by kernel_rfl) (Snd.block (id := 0) (by kernel_rfl) (Snd.seq (by kernel_rfl) (Snd.cut (Snd.cond (x := .tmp 15) (by kernel_rfl) (Snd.exec hc _ _ _ _) (Snd.seq (by kernel_rfl) (Snd.cond (x := .tmp 49) (by kernel_rfl) (Snd.exec hc _ _ _ _) (Snd.seq (by kernel_rfl) (Snd.cut (Snd.exec hc _ _ _ _) ⟨f128s14, fun x => spec_l20Plain.c14 k x.1.2.2.1 x.1.2.2.2 x.2.1 x.2.2⟩ (fun x => by kernel_rfl)) (Snd.exec hc _ _ _ _))) (Snd.exec hc _ _ _ _))) ⟨f128s6, fun x => spec_l20Plain.c6 k x.1.1 x.1.2.2.2.1 x.1.2.2.2.2 x.2.1 x.2.2⟩ (fun x => by kernel_rfl)) (Snd.exec hc _ _ _ _))) (Snd.exec hc _ _ _ _))) (Snd.exec hc _ _ _ _)) (Snd.exec hc _ _ _ _))
    (fun x => by kernel_rfl)

def f129in : SS := ⟨[(0, (.ro (.list 165 (.st (.cons (.int .i64) (.cons (.int .i64) (.cons (.st (.cons (.int .i64) (.cons .str .nil))) (.cons (.int .i64) (.cons (.int .i64) .nil))))))))), (1, (.ro (.int .i64)))], []⟩
def f129out : SS := ⟨[(0, (.ro (.int .i64)))], []⟩
def f129s10 : SS := ⟨[(0, (.ro (.list 165 (.st (.cons (.int .i64) (.cons (.int .i64) (.cons (.st (.cons (.int .i64) (.cons .str .nil))) (.cons (.int .i64) (.cons (.int .i64) .nil))))))))), (1, (.ro (.int .i64))), (27, (.ro .bool))], []⟩
def f129con (F : (List TPred) → Int → Option Int) : Con := ⟨f129in, f129out, 2, 1, fun x => F x.1 x.2⟩
def f129ctx (k : Nat) (S129 : (List TPred) → Int → Option Int) : Ctx := ⟨tyAt tys, conAt [(129, [f129con S129])], 59, fun _ => false⟩
theorem f129hc (k : Nat) (S129 : (List TPred) → Int → Option Int) (h129 : FnOk Try.prog 129 (f129con S129)) : CtxOk Try.prog (f129ctx k S129) := ctxOk tys_ok mixed_ok (consOk_cons (h129) (consOk_nil))
theorem f129okb (k : Nat) (S129 : (List TPred) → Int → Option Int) (h129 : FnOk Try.prog 129 (f129con S129)) : FnOk Try.prog 129 (f129con (spec_l20From.b k S129)) :=
  let hc := f129hc k S129 h129
  fnOk (fn := Try.f129) (code := bodyOf Try.f129) (res := [.tmp 4]) hc (by kernel_rfl) (by kernel_rfl) (by decide) (by kernel_rfl) (by kernel_rfl) (by kernel_rfl) (Nat.le_of_ble_eq_true (by kernel_rfl)) _
    (fun x => Snd.seq (by kernel_rfl) (Snd.seq (by kernel_rfl) (Snd.seq (by kernel_rfl) (Snd.exec hc _ _ _ _) (Snd.seq (by kernel_rfl) (Snd.block (id := 0) (by kernel_rfl) (Snd.seq (by kernel_rfl) (Snd.cond (x := .tmp 13) (by kernel_rfl) (Snd.exec hc _ _ _ _) (Snd.seq (by kernel_rfl) (Snd.cut (Snd.exec hc _ _ _ _) ⟨f129s10, fun x => spec_l20From.c10 k S129 x.1 x.2.1 x.2.2⟩ (fun x => by kernel_rfl)) (Snd.exec hc _ _ _ _))) (Snd.exec hc _ _ _ _))) (Snd.exec hc _ _ _ _))) (Snd.exec hc _ _ _ _)) (Snd.exec hc _ _ _ _))
    (fun x => by kernel_rfl)
theorem f129rec (k : Nat) : ∀ d, FnOk Try.prog 129 (f129con (spec_l20From.d k d))
  | 0 => FnOk_none (fun _ => rfl)
  | d + 1 => let ih := f129rec k d
    f129okb k (spec_l20From.d k d) ih
theorem f129ok (k : Nat) : FnOk Try.prog 129 (f129con (spec_l20From k)) := (f129rec k k)

def f59in : SS := ⟨[(0, (.ro (.list 126 (.st (.cons .str (.cons (.int .i64) (.cons (.int .i64) (.cons (.int .i64) .nil)))))))), (1, (.ro (.list 165 (.st (.cons (.int .i64) (.cons (.int .i64) (.cons (.st (.cons (.int .i64) (.cons .str .nil))) (.cons (.int .i64) (.cons (.int .i64) .nil)))))))))], []⟩
def f59out : SS := ⟨[(0, (.ro .bool))], []⟩
def f59s4 : SS := ⟨[(0, (.ro (.list 126 (.st (.cons .str (.cons (.int .i64) (.cons (.int .i64) (.cons (.int .i64) .nil)))))))), (1, (.ro (.list 165 (.st (.cons (.int .i64) (.cons (.int .i64) (.cons (.st (.cons (.int .i64) (.cons .str .nil))) (.cons (.int .i64) (.cons (.int .i64) .nil))))))))), (5, (.ro (.int .i64)))], []⟩
def f59con (F : (List TCol) → (List TPred) → Option Bool) : Con := ⟨f59in, f59out, 2, 1, fun x => F x.1 x.2⟩
def f59ctx (k : Nat) : Ctx := ⟨tyAt tys, conAt [(17, [f17con (spec_SchemaOk k)]), (74, [f74con (spec_l1In k)]), (128, [f128con (spec_l20Plain k)]), (129, [f129con (spec_l20From k)])], 34, fun _ => false⟩
theorem f59hc (k : Nat) : CtxOk Try.prog (f59ctx k) := ctxOk tys_ok mixed_ok (consOk_cons (f17ok k) (consOk_cons (f74ok k) (consOk_cons (f128ok k) (consOk_cons (f129ok k) (consOk_nil)))))
theorem f59ok (k : Nat) : FnOk Try.prog 59 (f59con (spec_PredOk k)) :=
  let hc := f59hc k
  fnOk (fn := Try.f59) (code := bodyOf Try.f59) (res := [.tmp 4]) hc (by kernel_rfl) (by kernel_rfl) (by decide) (by kernel_rfl) (by kernel_rfl) (by kernel_rfl) (Nat.le_of_ble_eq_true (by kernel_rfl)) _
    (fun x => Snd.seq (by kernel_rfl) (Snd.seq (by kernel_rfl) (Snd.seq (by kernel_rfl) (Snd.exec hc _ _ _ _) (Snd.seq (by kernel_rfl) (Snd.block (id := 0) (by kernel_rfl) (Snd.loop' (by kernel_rfl) f59s4 (fun n x => spec_PredOk.l4 k n x.1 x.2.1 x.2.2) _ (fun _ => rfl) (fun n4 => Snd.exec hc _ _ _ _) (fun n x => by kernel_rfl) k)) (Snd.exec hc _ _ _ _))) (Snd.exec hc _ _ _ _)) (Snd.exec hc _ _ _ _))
    (fun x => by kernel_rfl)

def f81in : SS := ⟨[(0, (.ro (.list 126 (.st (.cons .str (.cons (.int .i64) (.cons (.int .i64) (.cons (.int .i64) .nil)))))))), (1, (.ro (.int .i64))), (2, (.ro .bool)), (3, (.ro (.list 52 (.st (.cons (.int .i64) (.cons .str .nil)))))), (4, (.ro (.int .i64))), (5, (.ro (.int .i64))), (6, (.h 10))], [(10, (.sl 52 (.st (.cons (.int .i64) (.cons .str .nil)))))]⟩
def f81out : SS := ⟨[(0, (.h 100)), (1, (.ro (.int .i64)))], [(100, (.sl 52 (.st (.cons (.int .i64) (.cons .str .nil)))))]⟩
def f81s7 : SS := ⟨[(0, (.ro (.list 126 (.st (.cons .str (.cons (.int .i64) (.cons (.int .i64) (.cons (.int .i64) .nil)))))))), (1, (.ro (.int .i64))), (3, (.ro (.list 52 (.st (.cons (.int .i64) (.cons .str .nil)))))), (4, (.ro (.int .i64))), (5, (.ro (.int .i64))), (6, (.h 100)), (16, (.ro (.int .i64))), (17, (.ro (.int .i64)))], [(100, (.sl 52 (.st (.cons (.int .i64) (.cons .str .nil)))))]⟩
def f81s14 : SS := ⟨[(0, (.ro (.list 126 (.st (.cons .str (.cons (.int .i64) (.cons (.int .i64) (.cons (.int .i64) .nil)))))))), (1, (.ro (.int .i64))), (3, (.ro (.list 52 (.st (.cons (.int .i64) (.cons .str .nil)))))), (4, (.ro (.int .i64))), (5, (.ro (.int .i64))), (6, (.h 100)), (16, (.ro (.int .i64))), (17, (.ro (.int .i64))), (18, (.ro (.int .i64))), (19, (.ro (.int .i64)))], [(100, (.sl 52 (.st (.cons (.int .i64) (.cons .str .nil)))))]⟩
def f81s11 : SS := ⟨[(0, (.ro (.list 126 (.st (.cons .str (.cons (.int .i64) (.cons (.int .i64) (.cons (.int .i64) .nil)))))))), (1, (.ro (.int .i64))), (3, (.ro (.list 52 (.st (.cons (.int .i64) (.cons .str .nil)))))), (4, (.ro (.int .i64))), (5, (.ro (.int .i64))), (6, (.h 100)), (16, (.ro (.int .i64))), (17, (.ro (.int .i64)))], [(100, (.sl 52 (.st (.cons (.int .i64) (.cons .str .nil)))))]⟩
def f81s6 : SS := ⟨[(0, (.ro (.list 126 (.st (.cons .str (.cons (.int .i64) (.cons (.int .i64) (.cons (.int .i64) .nil)))))))), (1, (.ro (.int .i64))), (3, (.ro (.list 52 (.st (.cons (.int .i64) (.cons .str .nil)))))), (4, (.ro (.int .i64))), (5, (.ro (.int .i64))), (6, (.h 100)), (16, (.ro (.int .i64))), (17, (.ro (.int .i64)))], [(100, (.sl 52 (.st (.cons (.int .i64) (.cons .str .nil)))))]⟩
def f81s5 : SS := ⟨[(0, (.ro (.list 126 (.st (.cons .str (.cons (.int .i64) (.cons (.int .i64) (.cons (.int .i64) .nil)))))))), (1, (.ro (.int .i64))), (3, (.ro (.list 52 (.st (.cons (.int .i64) (.cons .str .nil)))))), (4, (.ro (.int .i64))), (5, (.ro (.int .i64))), (6, (.h 10)), (16, (.ro (.int .i64)))], [(10, (.sl 52 (.st (.cons (.int .i64) (.cons .str .nil)))))]⟩
def f81con (F : (List TCol) → Int → Bool → (List TVal) → Int → Int → (List TVal) → Option ((Unit × Int) × (List TVal))) : Con := ⟨f81in, f81out, 7, 2, fun x => F x.1.1 x.1.2.1 x.1.2.2.1 x.1.2.2.2.1 x.1.2.2.2.2.1 x.1.2.2.2.2.2.1 x.2⟩
def f81ctx (k : Nat) (S81 : (List TCol) → Int → Bool → (List TVal) → Int → Int → (List TVal) → Option ((Unit × Int) × (List TVal))) : Ctx := ⟨tyAt tys, conAt [(81, [f81con S81]), (144, [f144con (spec_l5After k)])], 86, fun _ => false⟩
theorem f81hc (k : Nat) (S81 : (List TCol) → Int → Bool → (List TVal) → Int → Int → (List TVal) → Option ((Unit × Int) × (List TVal))) (h81 : FnOk Try.prog 81 (f81con S81)) : CtxOk Try.prog (f81ctx k S81) := ctxOk tys_ok mixed_ok (consOk_cons (h81) (consOk_cons (f144ok k) (consOk_nil)))
theorem f81okb (k : Nat) (S81 : (List TCol) → Int → Bool → (List TVal) → Int → Int → (List TVal) → Option ((Unit × Int) × (List TVal))) (h81 : FnOk Try.prog 81 (f81con S81)) : FnOk Try.prog 81 (f81con (spec_l13Values.b k S81)) :=
  let hc := f81hc k S81 h81
  fnOk (fn := Try.f81) (code := bodyOf Try.f81) (res := [.tmp 14, .tmp 15]) hc (by kernel_rfl) (by kernel_rfl) (by decide) (by kernel_rfl) (by kernel_rfl) (by kernel_rfl) (Nat.le_of_ble_eq_true (by kernel_rfl)) _
    (fun x => Snd.seq (by kernel_rfl) (Snd.seq (by kernel_rfl) (Snd.seq (by kernel_rfl) (Snd.cut (Snd.seq (by kernel_rfl) (Snd.exec hc _ _ _ _) (Snd.seq (by kernel_rfl) (Snd.block (id := 0) (by kernel_rfl) (Snd.loop' (by kernel_rfl) f81s6 (fun n x => spec_l13Values.l6 k S81 n x.1.1 x.1.2.1 x.1.2.2.1 x.1.2.2.2.1 x.1.2.2.2.2.1 x.1.2.2.2.2.2.2.1 x.1.2.2.2.2.2.2.2 x.2) _ (fun _ => rfl) (fun n6 => Snd.seq (by kernel_rfl) (Snd.seq (by kernel_rfl) (Snd.cut (Snd.exec hc _ _ _ _) ⟨f81s7, fun x => spec_l13Values.c7 k (spec_l13Values.l6 k S81 n6) x.1.1 x.1.2.1 x.1.2.2.1 x.1.2.2.2.1 x.1.2.2.2.2.1 x.1.2.2.2.2.2.2.1 x.1.2.2.2.2.2.2.2 x.2⟩ (fun x => by kernel_rfl)) (Snd.block (id := 1) (by kernel_rfl) (Snd.seq (by kernel_rfl) (Snd.seq (by kernel_rfl) (Snd.seq (by kernel_rfl) (Snd.block (id := 2) (by kernel_rfl) (Snd.loop' (by kernel_rfl) f81s14 (fun n x => spec_l13Values.l14 k S81 (spec_l13Values.l6 k S81 n6) n x.1.1 x.1.2.1 x.1.2.2.1 x.1.2.2.2.1 x.1.2.2.2.2.1 x.1.2.2.2.2.2.2.1 x.1.2.2.2.2.2.2.2.1 x.1.2.2.2.2.2.2.2.2.1 x.1.2.2.2.2.2.2.2.2.2 x.2) _ (fun _ => rfl) (fun n14 => Snd.exec hc _ _ _ _) (fun n x => by kernel_rfl) k)) (Snd.exec hc _ _ _ _)) (Snd.exec hc _ _ _ _)) (Snd.seq (by kernel_rfl) (Snd.cond (x := .tmp 47) (by kernel_rfl) (Snd.seq (by kernel_rfl) (Snd.cut (Snd.exec hc _ _ _ _) ⟨f81s11, fun x => spec_l13Values.c11 k (spec_l13Values.l6 k S81 n6) x.1.1 x.1.2.1 x.1.2.2.1 x.1.2.2.2.1 x.1.2.2.2.2.1 x.1.2.2.2.2.2.2.1 x.1.2.2.2.2.2.2.2 x.2⟩ (fun x => by kernel_rfl)) (Snd.exec hc _ _ _ _)) (Snd.exec hc _ _ _ _)) (Snd.exec hc _ _ _ _))))) (Snd.exec hc _ _ _ _)) (fun n x => by kernel_rfl) k)) (Snd.exec hc _ _ _ _))) ⟨f81s5, fun x => spec_l13Values.c5 k S81 x.1.1 x.1.2.1 x.1.2.2.1 x.1.2.2.2.1 x.1.2.2.2.2.1 x.1.2.2.2.2.2.2 x.2⟩ (fun x => by kernel_rfl)) (Snd.exec hc _ _ _ _)) (Snd.exec hc _ _ _ _)) (Snd.exec hc _ _ _ _))
    (fun x => by kernel_rfl)
theorem f81rec (k : Nat) : ∀ d, FnOk Try.prog 81 (f81con (spec_l13Values.d k d))
  | 0 => FnOk_none (fun _ => rfl)
  | d + 1 => let ih := f81rec k d
    f81okb k (spec_l13Values.d k d) ih
theorem f81ok (k : Nat) : FnOk Try.prog 81 (f81con (spec_l13Values k)) := (f81rec k k)

def f20in : SS := ⟨[(0, (.ro (.list 126 (.st (.cons .str (.cons (.int .i64) (.cons (.int .i64) (.cons (.int .i64) .nil)))))))), (1, (.ro (.st (.cons (.list 52 (.st (.cons (.int .i64) (.cons .str .nil)))) .nil)))), (2, (.ro (.int .i64)))], []⟩
def f20out : SS := ⟨[(0, (.h 100)), (1, (.ro .bool))], [(100, (.sl 52 (.st (.cons (.int .i64) (.cons .str .nil)))))]⟩
def f20con (F : (List TCol) → TRec → Int → Option ((Unit × Bool) × (List TVal))) : Con := ⟨f20in, f20out, 3, 2, fun x => F x.1 x.2.1 x.2.2⟩
def f20ctx (k : Nat) : Ctx := ⟨tyAt tys, conAt [(15, [f15con (spec_RecOk k)]), (19, [f19con (spec_SchemaLeaves k)]), (74, [f74con (spec_l1In k)]), (81, [f81con (spec_l13Values k)])], 39, fun _ => false⟩
theorem f20hc (k : Nat) : CtxOk Try.prog (f20ctx k) := ctxOk tys_ok mixed_ok (consOk_cons (f15ok k) (consOk_cons (f19ok k) (consOk_cons (f74ok k) (consOk_cons (f81ok k) (consOk_nil)))))
theorem f20ok (k : Nat) : FnOk Try.prog 20 (f20con (spec_RecValues k)) :=
  let hc := f20hc k
  fnOk (fn := Try.f20) (code := bodyOf Try.f20) (res := [.tmp 6, .tmp 7]) hc (by kernel_rfl) (by kernel_rfl) (by decide) (by kernel_rfl) (by kernel_rfl) (by kernel_rfl) (Nat.le_of_ble_eq_true (by kernel_rfl)) _
    (fun x => Snd.exec hc _ _ _ _)
    (fun x => by kernel_rfl)

def f218in : SS := ⟨[(0, (.ro (.int .i64)))], []⟩
def f218out : SS := ⟨[(0, (.ro (.int .i64)))], []⟩
def f218con (F : Int → Option Int) : Con := ⟨f218in, f218out, 1, 1, fun x => F x⟩
def f218ctx (k : Nat) : Ctx := ⟨tyAt tys, conAt [], 8, fun _ => false⟩
theorem f218hc (k : Nat) : CtxOk Try.prog (f218ctx k) := ctxOk tys_ok mixed_ok (consOk_nil)
theorem f218ok (k : Nat) : FnOk Try.prog 218 (f218con (spec_FloatKey k)) :=
  let hc := f218hc k
  fnOk (fn := Try.f218) (code := bodyOf Try.f218) (res := [.tmp 2]) hc (by kernel_rfl) (by kernel_rfl) (by decide) (by kernel_rfl) (by kernel_rfl) (by kernel_rfl) (Nat.le_of_ble_eq_true (by kernel_rfl)) _
    (fun x => Snd.exec hc _ _ _ _)
    (fun x => by kernel_rfl)

def f180in : SS := ⟨[(0, (.ro (.int .i64))), (1, (.ro (.st (.cons (.int .i64) (.cons .str .nil))))), (2, (.ro (.st (.cons (.int .i64) (.cons .str .nil)))))], []⟩
def f180out : SS := ⟨[(0, (.ro .bool))], []⟩
def f180d5 : SS := ⟨[(4, (.p 100)), (5, (.p 101))], [(100, (.box (.st (.cons (.int .i64) (.cons .str .nil))) (.agg (.cons (.ro (.int .i64)) (.cons (.ro .str) .nil))))), (101, (.box (.st (.cons (.int .i64) (.cons .str .nil))) (.agg (.cons (.ro (.int .i64)) (.cons (.ro .str) .nil)))))]⟩
def f180s8 : SS := ⟨[(4, (.p 100)), (5, (.p 101)), (7, (.ro (.int .i64)))], [(100, (.box (.st (.cons (.int .i64) (.cons .str .nil))) (.agg (.cons (.ro (.int .i64)) (.cons (.ro .str) .nil))))), (101, (.box (.st (.cons (.int .i64) (.cons .str .nil))) (.agg (.cons (.ro (.int .i64)) (.cons (.ro .str) .nil)))))]⟩
def f180con (F : Int → TVal → TVal → Option Bool) : Con := ⟨f180in, f180out, 3, 1, fun x => F x.1 x.2.1 x.2.2⟩
def f180ctx (k : Nat) : Ctx := ⟨tyAt tys, conAt [(142, [f142con (spec_ValOk k)]), (218, [f218con (spec_FloatKey k)])], 74, fun _ => false⟩
theorem f180hc (k : Nat) : CtxOk Try.prog (f180ctx k) := ctxOk tys_ok mixed_ok (consOk_cons (f142ok k) (consOk_cons (f218ok k) (consOk_nil)))
theorem f180ok (k : Nat) : FnOk Try.prog 180 (f180con (spec_ValLess k)) :=
  let hc := f180hc k
  fnOk (fn := Try.f180) (code := bodyOf Try.f180) (res := [.tmp 6]) hc (by kernel_rfl) (by kernel_rfl) (by decide) (by kernel_rfl) (by kernel_rfl) (by kernel_rfl) (Nat.le_of_ble_eq_true (by kernel_rfl)) _
    (fun x => Snd.seq (by kernel_rfl) (Snd.seq (by kernel_rfl) (Snd.seq (by kernel_rfl) (Snd.exec hc _ _ _ _) (Snd.seq (by kernel_rfl) (Snd.block (id := 0) (by kernel_rfl) (Snd.seq (by kernel_rfl) (Snd.cond (x := .tmp 19) (by kernel_rfl) (Snd.seq (by kernel_rfl) (Snd.exec hc _ _ _ _) (Snd.fork hc (id := 5) (by kernel_rfl) ⟨f180d5, fun x => spec_ValLess.d5 k x.2.1 x.2.2⟩ [[0, 3, 1, 2, 4, 5, 6, 7], [0, 3, 1, 4, 2, 5, 6, 7], [0, 3, 4, 1, 2, 5, 6, 7]] (by kernel_rfl) (ords_cons (fun x => by kernel_rfl) (ords_cons (fun x => by kernel_rfl) (ords_cons (fun x => by kernel_rfl) (ords_nil)))))) (Snd.seq (by kernel_rfl) (Snd.cond (x := .tmp 28) (by kernel_rfl) (Snd.seq (by kernel_rfl) (Snd.exec hc _ _ _ _) (Snd.seq (by kernel_rfl) (Snd.block (id := 1) (by kernel_rfl) (Snd.loop' (by kernel_rfl) f180s8 (fun n x => spec_ValLess.l8 k n x.1.2.2 x.2.1 x.2.2) _ (fun _ => rfl) (fun n8 => Snd.exec hc _ _ _ _) (fun n x => by kernel_rfl) k)) (Snd.exec hc _ _ _ _))) (Snd.exec hc _ _ _ _)) (Snd.exec hc _ _ _ _))) (Snd.exec hc _ _ _ _))) (Snd.exec hc _ _ _ _))) (Snd.exec hc _ _ _ _)) (Snd.exec hc _ _ _ _))
    (fun x => by kernel_rfl)

def f118in : SS := ⟨[(0, (.ro (.list 126 (.st (.cons .str (.cons (.int .i64) (.cons (.int .i64) (.cons (.int .i64) .nil)))))))), (1, (.ro (.list 165 (.st (.cons (.int .i64) (.cons (.int .i64) (.cons (.st (.cons (.int .i64) (.cons .str .nil))) (.cons (.int .i64) (.cons (.int .i64) .nil))))))))), (2, (.ro (.int .i64))), (3, (.ro (.st (.cons (.list 52 (.st (.cons (.int .i64) (.cons .str .nil)))) .nil))))], []⟩
def f118out : SS := ⟨[(0, (.ro .bool))], []⟩
def f118con (F : (List TCol) → (List TPred) → Int → TRec → Option Bool) : Con := ⟨f118in, f118out, 4, 1, fun x => F x.1 x.2.1 x.2.2.1 x.2.2.2⟩
def f118ctx (k : Nat) (S118 : (List TCol) → (List TPred) → Int → TRec → Option Bool) : Ctx := ⟨tyAt tys, conAt [(20, [f20con (spec_RecValues k)]), (118, [f118con S118]), (179, [f179con (spec_LeafOf k)]), (180, [f180con (spec_ValLess k)])], 113, fun _ => false⟩
theorem f118hc (k : Nat) (S118 : (List TCol) → (List TPred) → Int → TRec → Option Bool) (h118 : FnOk Try.prog 118 (f118con S118)) : CtxOk Try.prog (f118ctx k S118) := ctxOk tys_ok mixed_ok (consOk_cons (f20ok k) (consOk_cons (h118) (consOk_cons (f179ok k) (consOk_cons (f180ok k) (consOk_nil)))))
theorem f118okb (k : Nat) (S118 : (List TCol) → (List TPred) → Int → TRec → Option Bool) (h118 : FnOk Try.prog 118 (f118con S118)) : FnOk Try.prog 118 (f118con (spec_l20Holds.b k S118)) :=
  let hc := f118hc k S118 h118
  fnOk (fn := Try.f118) (code := bodyOf Try.f118) (res := [.tmp 8]) hc (by kernel_rfl) (by kernel_rfl) (by decide) (by kernel_rfl) (by kernel_rfl) (by kernel_rfl) (Nat.le_of_ble_eq_true (by kernel_rfl)) _
    (fun x => Snd.exec hc _ _ _ _)
    (fun x => by kernel_rfl)
theorem f118rec (k : Nat) : ∀ d, FnOk Try.prog 118 (f118con (spec_l20Holds.d k d))
  | 0 => FnOk_none (fun _ => rfl)
  | d + 1 => let ih := f118rec k d
    f118okb k (spec_l20Holds.d k d) ih
theorem f118ok (k : Nat) : FnOk Try.prog 118 (f118con (spec_l20Holds k)) := (f118rec k k)

def f49in : SS := ⟨[(0, (.ro (.list 126 (.st (.cons .str (.cons (.int .i64) (.cons (.int .i64) (.cons (.int .i64) .nil)))))))), (1, (.ro (.list 165 (.st (.cons (.int .i64) (.cons (.int .i64) (.cons (.st (.cons (.int .i64) (.cons .str .nil))) (.cons (.int .i64) (.cons (.int .i64) .nil))))))))), (2, (.ro (.st (.cons (.list 52 (.st (.cons (.int .i64) (.cons .str .nil)))) .nil))))], []⟩
def f49out : SS := ⟨[(0, (.ro .bool))], []⟩
def f49con (F : (List TCol) → (List TPred) → TRec → Option Bool) : Con := ⟨f49in, f49out, 3, 1, fun x => F x.1 x.2.1 x.2.2⟩
def f49ctx (k : Nat) : Ctx := ⟨tyAt tys, conAt [(15, [f15con (spec_RecOk k)]), (59, [f59con (spec_PredOk k)]), (118, [f118con (spec_l20Holds k)])], 24, fun _ => false⟩
theorem f49hc (k : Nat) : CtxOk Try.prog (f49ctx k) := ctxOk tys_ok mixed_ok (consOk_cons (f15ok k) (consOk_cons (f59ok k) (consOk_cons (f118ok k) (consOk_nil))))
theorem f49ok (k : Nat) : FnOk Try.prog 49 (f49con (spec_PredHolds k)) :=
  let hc := f49hc k
  fnOk (fn := Try.f49) (code := bodyOf Try.f49) (res := [.tmp 6]) hc (by kernel_rfl) (by kernel_rfl) (by decide) (by kernel_rfl) (by kernel_rfl) (by kernel_rfl) (Nat.le_of_ble_eq_true (by kernel_rfl)) _
    (fun x => Snd.exec hc _ _ _ _)
    (fun x => by kernel_rfl)

def f181in : SS := ⟨[(0, (.ro (.st (.cons (.int .i64) (.cons .str .nil)))))], []⟩
def f181out : SS := ⟨[(0, (.agg (.cons (.ro (.int .i64)) (.cons (.ro .str) .nil))))], []⟩
def f181con (F : TVal → Option (TVal)) : Con := ⟨f181in, f181out, 1, 1, fun x => F x⟩
def f181ctx (k : Nat) : Ctx := ⟨tyAt tys, conAt [], 11, fun _ => false⟩
theorem f181hc (k : Nat) : CtxOk Try.prog (f181ctx k) := ctxOk tys_ok mixed_ok (consOk_nil)
theorem f181ok (k : Nat) : FnOk Try.prog 181 (f181con (laws_toVal k)) :=
  let hc := f181hc k
  fnOk (fn := Try.f181) (code := bodyOf Try.f181) (res := [.cell 2 52]) hc (by kernel_rfl) (by kernel_rfl) (by decide) (by kernel_rfl) (by kernel_rfl) (by kernel_rfl) (Nat.le_of_ble_eq_true (by kernel_rfl)) _
    (fun x => Snd.exec hc _ _ _ _)
    (fun x => by kernel_rfl)

def f119in : SS := ⟨[(0, (.ro (.st (.cons (.int .i64) (.cons (.int .i64) (.cons (.st (.cons (.int .i64) (.cons .str .nil))) (.cons (.int .i64) (.cons (.int .i64) .nil))))))))], []⟩
def f119out : SS := ⟨[(0, (.agg (.cons (.ro (.int .i64)) (.cons (.ro (.int .i64)) (.cons (.agg (.cons (.ro (.int .i64)) (.cons (.ro .str) .nil))) (.cons (.ro (.int .i64)) (.cons (.ro (.int .i64)) .nil)))))))], []⟩
def f119con (F : TPred → Option (TPred)) : Con := ⟨f119in, f119out, 1, 1, fun x => F x⟩
def f119ctx (k : Nat) : Ctx := ⟨tyAt tys, conAt [(181, [f181con (laws_toVal k)])], 21, fun _ => false⟩
theorem f119hc (k : Nat) : CtxOk Try.prog (f119ctx k) := ctxOk tys_ok mixed_ok (consOk_cons (f181ok k) (consOk_nil))
theorem f119ok (k : Nat) : FnOk Try.prog 119 (f119con (laws_toPred k)) :=
  let hc := f119hc k
  fnOk (fn := Try.f119) (code := bodyOf Try.f119) (res := [.cell 2 165]) hc (by kernel_rfl) (by kernel_rfl) (by decide) (by kernel_rfl) (by kernel_rfl) (by kernel_rfl) (Nat.le_of_ble_eq_true (by kernel_rfl)) _
    (fun x => Snd.exec hc _ _ _ _)
    (fun x => by kernel_rfl)

def f50in : SS := ⟨[(0, (.ro (.list 161 (.st (.cons (.int .i64) (.cons (.int .i64) (.cons (.st (.cons (.int .i64) (.cons .str .nil))) (.cons (.int .i64) (.cons (.int .i64) .nil)))))))))], []⟩
def f50out : SS := ⟨[(0, (.h 100))], [(100, (.sl 165 (.st (.cons (.int .i64) (.cons (.int .i64) (.cons (.st (.cons (.int .i64) (.cons .str .nil))) (.cons (.int .i64) (.cons (.int .i64) .nil))))))))]⟩
def f50s3 : SS := ⟨[(0, (.ro (.list 161 (.st (.cons (.int .i64) (.cons (.int .i64) (.cons (.st (.cons (.int .i64) (.cons .str .nil))) (.cons (.int .i64) (.cons (.int .i64) .nil))))))))), (3, (.h 100)), (4, (.ro (.int .i64)))], [(100, (.sl 165 (.st (.cons (.int .i64) (.cons (.int .i64) (.cons (.st (.cons (.int .i64) (.cons .str .nil))) (.cons (.int .i64) (.cons (.int .i64) .nil))))))))]⟩
def f50con (F : (List TPred) → Option (Unit × (List TPred))) : Con := ⟨f50in, f50out, 1, 1, fun x => F x⟩
def f50ctx (k : Nat) : Ctx := ⟨tyAt tys, conAt [(119, [f119con (laws_toPred k)])], 23, fun _ => false⟩
theorem f50hc (k : Nat) : CtxOk Try.prog (f50ctx k) := ctxOk tys_ok mixed_ok (consOk_cons (f119ok k) (consOk_nil))
theorem f50ok (k : Nat) : FnOk Try.prog 50 (f50con (laws_toPredS k)) :=
  let hc := f50hc k
  fnOk (fn := Try.f50) (code := bodyOf Try.f50) (res := [.tmp 2]) hc (by kernel_rfl) (by kernel_rfl) (by decide) (by kernel_rfl) (by kernel_rfl) (by kernel_rfl) (Nat.le_of_ble_eq_true (by kernel_rfl)) _
    (fun x => Snd.seq (by kernel_rfl) (Snd.seq (by kernel_rfl) (Snd.seq (by kernel_rfl) (Snd.exec hc _ _ _ _) (Snd.seq (by kernel_rfl) (Snd.block (id := 0) (by kernel_rfl) (Snd.loop' (by kernel_rfl) f50s3 (fun n x => laws_toPredS.l3 k n x.1.1 x.1.2.2 x.2) _ (fun _ => rfl) (fun n3 => Snd.exec hc _ _ _ _) (fun n x => by kernel_rfl) k)) (Snd.exec hc _ _ _ _))) (Snd.exec hc _ _ _ _)) (Snd.exec hc _ _ _ _))
    (fun x => by kernel_rfl)

def f120in : SS := ⟨[(0, (.ro (.list 159 (.st (.cons (.int .i64) (.cons .str .nil))))))], []⟩
def f120out : SS := ⟨[(0, (.h 100))], [(100, (.sl 52 (.st (.cons (.int .i64) (.cons .str .nil)))))]⟩
def f120s3 : SS := ⟨[(0, (.ro (.list 159 (.st (.cons (.int .i64) (.cons .str .nil)))))), (3, (.h 100)), (4, (.ro (.int .i64)))], [(100, (.sl 52 (.st (.cons (.int .i64) (.cons .str .nil)))))]⟩
def f120con (F : (List TVal) → Option (Unit × (List TVal))) : Con := ⟨f120in, f120out, 1, 1, fun x => F x⟩
def f120ctx (k : Nat) : Ctx := ⟨tyAt tys, conAt [(181, [f181con (laws_toVal k)])], 23, fun _ => false⟩
theorem f120hc (k : Nat) : CtxOk Try.prog (f120ctx k) := ctxOk tys_ok mixed_ok (consOk_cons (f181ok k) (consOk_nil))
theorem f120ok (k : Nat) : FnOk Try.prog 120 (f120con (laws_toValS k)) :=
  let hc := f120hc k
  fnOk (fn := Try.f120) (code := bodyOf Try.f120) (res := [.tmp 2]) hc (by kernel_rfl) (by kernel_rfl) (by decide) (by kernel_rfl) (by kernel_rfl) (by kernel_rfl) (Nat.le_of_ble_eq_true (by kernel_rfl)) _
    (fun x => Snd.seq (by kernel_rfl) (Snd.seq (by kernel_rfl) (Snd.seq (by kernel_rfl) (Snd.exec hc _ _ _ _) (Snd.seq (by kernel_rfl) (Snd.block (id := 0) (by kernel_rfl) (Snd.loop' (by kernel_rfl) f120s3 (fun n x => laws_toValS.l3 k n x.1.1 x.1.2.2 x.2) _ (fun _ => rfl) (fun n3 => Snd.exec hc _ _ _ _) (fun n x => by kernel_rfl) k)) (Snd.exec hc _ _ _ _))) (Snd.exec hc _ _ _ _)) (Snd.exec hc _ _ _ _))
    (fun x => by kernel_rfl)

def f51in : SS := ⟨[(0, (.ro (.st (.cons (.list 159 (.st (.cons (.int .i64) (.cons .str .nil)))) .nil))))], []⟩
def f51out : SS := ⟨[(0, (.agg (.cons (.h 100) .nil)))], [(100, (.sl 52 (.st (.cons (.int .i64) (.cons .str .nil)))))]⟩
def f51con (F : TRec → Option (((Unit × Unit)) × (List TVal))) : Con := ⟨f51in, f51out, 1, 1, fun x => F x⟩
def f51ctx (k : Nat) : Ctx := ⟨tyAt tys, conAt [(120, [f120con (laws_toValS k)])], 9, fun _ => false⟩
theorem f51hc (k : Nat) : CtxOk Try.prog (f51ctx k) := ctxOk tys_ok mixed_ok (consOk_cons (f120ok k) (consOk_nil))
theorem f51ok (k : Nat) : FnOk Try.prog 51 (f51con (laws_toRec k)) :=
  let hc := f51hc k
  fnOk (fn := Try.f51) (code := bodyOf Try.f51) (res := [.cell 2 27]) hc (by kernel_rfl) (by kernel_rfl) (by decide) (by kernel_rfl) (by kernel_rfl) (by kernel_rfl) (Nat.le_of_ble_eq_true (by kernel_rfl)) _
    (fun x => Snd.exec hc _ _ _ _)
    (fun x => by kernel_rfl)

def f77in : SS := ⟨[(0, (.ro (.int .i64))), (1, (.ro (.int .i64))), (2, (.ro (.int .i64)))], []⟩
def f77out : SS := ⟨[(0, (.ro .bool))], []⟩
def f77con (F : Int → Int → Int → Option Bool) : Con := ⟨f77in, f77out, 3, 1, fun x => F x.1 x.2.1 x.2.2⟩
def f77ctx (k : Nat) : Ctx := ⟨tyAt tys, conAt [], 15, fun _ => false⟩
theorem f77hc (k : Nat) : CtxOk Try.prog (f77ctx k) := ctxOk tys_ok mixed_ok (consOk_nil)
theorem f77ok (k : Nat) : FnOk Try.prog 77 (f77con (impl_within k)) :=
  let hc := f77hc k
  fnOk (fn := Try.f77) (code := bodyOf Try.f77) (res := [.tmp 6]) hc (by kernel_rfl) (by kernel_rfl) (by decide) (by kernel_rfl) (by kernel_rfl) (by kernel_rfl) (Nat.le_of_ble_eq_true (by kernel_rfl)) _
    (fun x => Snd.exec hc _ _ _ _)
    (fun x => by kernel_rfl)

def f224in : SS := ⟨[(0, (.ro (.int .i64)))], []⟩
def f224out : SS := ⟨[(0, (.ro .bool))], []⟩
def f224con (F : Int → Option Bool) : Con := ⟨f224in, f224out, 1, 1, fun x => F x⟩
def f224ctx (k : Nat) : Ctx := ⟨tyAt tys, conAt [(77, [f77con (impl_within k)])], 13, fun _ => false⟩
theorem f224hc (k : Nat) : CtxOk Try.prog (f224ctx k) := ctxOk tys_ok mixed_ok (consOk_cons (f77ok k) (consOk_nil))
theorem f224ok (k : Nat) : FnOk Try.prog 224 (f224con (impl_TypeOk k)) :=
  let hc := f224hc k
  fnOk (fn := Try.f224) (code := bodyOf Try.f224) (res := [.tmp 2]) hc (by kernel_rfl) (by kernel_rfl) (by decide) (by kernel_rfl) (by kernel_rfl) (by kernel_rfl) (Nat.le_of_ble_eq_true (by kernel_rfl)) _
    (fun x => Snd.exec hc _ _ _ _)
    (fun x => by kernel_rfl)

def f194in : SS := ⟨[(0, (.ro (.st (.cons .str (.cons (.int .i64) (.cons (.int .i64) (.cons (.int .i64) .nil)))))))], []⟩
def f194out : SS := ⟨[(0, (.ro .bool))], []⟩
def f194con (F : TCol → Option Bool) : Con := ⟨f194in, f194out, 1, 1, fun x => F x⟩
def f194ctx (k : Nat) : Ctx := ⟨tyAt tys, conAt [(77, [f77con (impl_within k)]), (224, [f224con (impl_TypeOk k)])], 30, fun _ => false⟩
theorem f194hc (k : Nat) : CtxOk Try.prog (f194ctx k) := ctxOk tys_ok mixed_ok (consOk_cons (f77ok k) (consOk_cons (f224ok k) (consOk_nil)))
theorem f194ok (k : Nat) : FnOk Try.prog 194 (f194con (impl_colOk k)) :=
  let hc := f194hc k
  fnOk (fn := Try.f194) (code := bodyOf Try.f194) (res := [.tmp 2]) hc (by kernel_rfl) (by kernel_rfl) (by decide) (by kernel_rfl) (by kernel_rfl) (by kernel_rfl) (Nat.le_of_ble_eq_true (by kernel_rfl)) _
    (fun x => Snd.exec hc _ _ _ _)
    (fun x => by kernel_rfl)

def f195in : SS := ⟨[(0, (.ro .str))], []⟩
def f195out : SS := ⟨[(0, (.ro .bool))], []⟩
def f195s2 : SS := ⟨[(0, (.ro .str)), (5, (.ro (.int .i64))), (6, (.ro (.int .i64)))], []⟩
def f195con (F : ByteArray → Option Bool) : Con := ⟨f195in, f195out, 1, 1, fun x => F x⟩
def f195ctx (k : Nat) : Ctx := ⟨tyAt tys, conAt [(77, [f77con (impl_within k)])], 19, fun _ => false⟩
theorem f195hc (k : Nat) : CtxOk Try.prog (f195ctx k) := ctxOk tys_ok mixed_ok (consOk_cons (f77ok k) (consOk_nil))
theorem f195ok (k : Nat) : FnOk Try.prog 195 (f195con (impl_isColName k)) :=
  let hc := f195hc k
  fnOk (fn := Try.f195) (code := bodyOf Try.f195) (res := [.tmp 2]) hc (by kernel_rfl) (by kernel_rfl) (by decide) (by kernel_rfl) (by kernel_rfl) (by kernel_rfl) (Nat.le_of_ble_eq_true (by kernel_rfl)) _
    (fun x => Snd.seq (by kernel_rfl) (Snd.seq (by kernel_rfl) (Snd.exec hc _ _ _ _) (Snd.seq (by kernel_rfl) (Snd.block (id := 0) (by kernel_rfl) (Snd.loop' (by kernel_rfl) f195s2 (fun n x => impl_isColName.l2 k n x.1 x.2.1 x.2.2) _ (fun _ => rfl) (fun n2 => Snd.exec hc _ _ _ _) (fun n x => by kernel_rfl) k)) (Snd.exec hc _ _ _ _))) (Snd.exec hc _ _ _ _))
    (fun x => by kernel_rfl)

def f140in : SS := ⟨[(0, (.ro (.list 126 (.st (.cons .str (.cons (.int .i64) (.cons (.int .i64) (.cons (.int .i64) .nil)))))))), (1, (.ro (.int .i64))), (2, (.ro (.int .i64)))], []⟩
def f140out : SS := ⟨[(0, (.ro (.int .i64)))], []⟩
def f140s10 : SS := ⟨[(0, (.ro (.list 126 (.st (.cons .str (.cons (.int .i64) (.cons (.int .i64) (.cons (.int .i64) .nil)))))))), (2, (.ro (.int .i64))), (7, (.ro (.int .i64))), (8, (.h 100)), (47, (.ro (.int .i64))), (48, (.ro (.int .i64))), (54, (.h 100)), (55, (.ro (.int .i64))), (56, (.ro (.int .i64)))], [(100, (.sl 9 .str))]⟩
def f140s6 : SS := ⟨[(0, (.ro (.list 126 (.st (.cons .str (.cons (.int .i64) (.cons (.int .i64) (.cons (.int .i64) .nil)))))))), (2, (.ro (.int .i64))), (7, (.ro (.int .i64))), (8, (.h 100)), (47, (.ro (.int .i64))), (48, (.ro (.int .i64)))], [(100, (.sl 9 .str))]⟩
def f140con (F : (List TCol) → Int → Int → Option Int) : Con := ⟨f140in, f140out, 3, 1, fun x => F x.1 x.2.1 x.2.2⟩
def f140ctx (k : Nat) (S140 : (List TCol) → Int → Int → Option Int) : Ctx := ⟨tyAt tys, conAt [(140, [f140con S140]), (194, [f194con (impl_colOk k)]), (195, [f195con (impl_isColName k)])], 85, fun _ => false⟩
theorem f140hc (k : Nat) (S140 : (List TCol) → Int → Int → Option Int) (h140 : FnOk Try.prog 140 (f140con S140)) : CtxOk Try.prog (f140ctx k S140) := ctxOk tys_ok mixed_ok (consOk_cons (h140) (consOk_cons (f194ok k) (consOk_cons (f195ok k) (consOk_nil))))
theorem f140okb (k : Nat) (S140 : (List TCol) → Int → Int → Option Int) (h140 : FnOk Try.prog 140 (f140con S140)) : FnOk Try.prog 140 (f140con (impl_colAfter.b k S140)) :=
  let hc := f140hc k S140 h140
  fnOk (fn := Try.f140) (code := bodyOf Try.f140) (res := [.tmp 6]) hc (by kernel_rfl) (by kernel_rfl) (by decide) (by kernel_rfl) (by kernel_rfl) (by kernel_rfl) (Nat.le_of_ble_eq_true (by kernel_rfl)) _
    (fun x => Snd.seq (by kernel_rfl) (Snd.seq (by kernel_rfl) (Snd.seq (by kernel_rfl) (Snd.seq (by kernel_rfl) (Snd.seq (by kernel_rfl) (Snd.exec hc _ _ _ _) (Snd.seq (by kernel_rfl) (Snd.block (id := 0) (by kernel_rfl) (Snd.loop' (by kernel_rfl) f140s6 (fun n x => impl_colAfter.l6 k S140 n x.1.1 x.1.2.1 x.1.2.2.1 x.1.2.2.2.2.1 x.1.2.2.2.2.2 x.2) _ (fun _ => rfl) (fun n6 => Snd.seq (by kernel_rfl) (Snd.seq (by kernel_rfl) (Snd.seq (by kernel_rfl) (Snd.exec hc _ _ _ _) (Snd.block (id := 1) (by kernel_rfl) (Snd.seq (by kernel_rfl) (Snd.seq (by kernel_rfl) (Snd.exec hc _ _ _ _) (Snd.seq (by kernel_rfl) (Snd.block (id := 2) (by kernel_rfl) (Snd.loop' (by kernel_rfl) f140s10 (fun n x => impl_colAfter.l10 k S140 (impl_colAfter.l6 k S140 n6) n x.1.1 x.1.2.1 x.1.2.2.1 x.1.2.2.2.2.1 x.1.2.2.2.2.2.1 x.1.2.2.2.2.2.2.2.1 x.1.2.2.2.2.2.2.2.2 x.2) _ (fun _ => rfl) (fun n10 => Snd.exec hc _ _ _ _) (fun n x => by kernel_rfl) k)) (Snd.exec hc _ _ _ _))) (Snd.exec hc _ _ _ _)))) (Snd.exec hc _ _ _ _)) (Snd.exec hc _ _ _ _)) (fun n x => by kernel_rfl) k)) (Snd.exec hc _ _ _ _))) (Snd.exec hc _ _ _ _)) (Snd.exec hc _ _ _ _)) (Snd.exec hc _ _ _ _)) (Snd.exec hc _ _ _ _))
    (fun x => by kernel_rfl)
theorem f140rec (k : Nat) : ∀ d, FnOk Try.prog 140 (f140con (impl_colAfter.d k d))
  | 0 => FnOk_none (fun _ => rfl)
  | d + 1 => let ih := f140rec k d
    f140okb k (impl_colAfter.d k d) ih
theorem f140ok (k : Nat) : FnOk Try.prog 140 (f140con (impl_colAfter k)) := (f140rec k k)

def f68in : SS := ⟨[(0, (.ro (.list 126 (.st (.cons .str (.cons (.int .i64) (.cons (.int .i64) (.cons (.int .i64) .nil))))))))], []⟩
def f68out : SS := ⟨[(0, (.ro .bool))], []⟩
def f68con (F : (List TCol) → Option Bool) : Con := ⟨f68in, f68out, 1, 1, fun x => F x⟩
def f68ctx (k : Nat) : Ctx := ⟨tyAt tys, conAt [(77, [f77con (impl_within k)]), (140, [f140con (impl_colAfter k)])], 33, fun _ => false⟩
theorem f68hc (k : Nat) : CtxOk Try.prog (f68ctx k) := ctxOk tys_ok mixed_ok (consOk_cons (f77ok k) (consOk_cons (f140ok k) (consOk_nil)))
theorem f68ok (k : Nat) : FnOk Try.prog 68 (f68con (impl_SchemaOk k)) :=
  let hc := f68hc k
  fnOk (fn := Try.f68) (code := bodyOf Try.f68) (res := [.tmp 2]) hc (by kernel_rfl) (by kernel_rfl) (by decide) (by kernel_rfl) (by kernel_rfl) (by kernel_rfl) (Nat.le_of_ble_eq_true (by kernel_rfl)) _
    (fun x => Snd.exec hc _ _ _ _)
    (fun x => by kernel_rfl)

def f70in : SS := ⟨[(0, (.ro (.int .i64))), (1, (.ro (.int .i64))), (2, (.ro (.int .i64))), (3, (.ro (.st (.cons (.int .i64) (.cons .str .nil)))))], []⟩
def f70out : SS := ⟨[], []⟩
def f70con (F : Int → Int → Int → TVal → Option Unit) : Con := ⟨f70in, f70out, 4, 0, fun x => F x.1 x.2.1 x.2.2.1 x.2.2.2⟩
def f70ctx (k : Nat) : Ctx := ⟨tyAt tys, conAt [], 8, fun _ => false⟩
theorem f70hc (k : Nat) : CtxOk Try.prog (f70ctx k) := ctxOk tys_ok mixed_ok (consOk_nil)
theorem f70ok (k : Nat) : FnOk Try.prog 70 (f70con (impl_RecOk_1 k)) :=
  let hc := f70hc k
  fnOk (fn := Try.f70) (code := bodyOf Try.f70) (res := []) hc (by kernel_rfl) (by kernel_rfl) (by decide) (by kernel_rfl) (by kernel_rfl) (by kernel_rfl) (Nat.le_of_ble_eq_true (by kernel_rfl)) _
    (fun x => Snd.exec hc _ _ _ _)
    (fun x => by kernel_rfl)

def f160in : SS := ⟨[(0, (.ro (.int .i64)))], []⟩
def f160out : SS := ⟨[(0, (.ro .bool))], []⟩
def f160con (F : Int → Option Bool) : Con := ⟨f160in, f160out, 1, 1, fun x => F x⟩
def f160ctx (k : Nat) : Ctx := ⟨tyAt tys, conAt [(77, [f77con (impl_within k)])], 5, fun _ => false⟩
theorem f160hc (k : Nat) : CtxOk Try.prog (f160ctx k) := ctxOk tys_ok mixed_ok (consOk_cons (f77ok k) (consOk_nil))
theorem f160ok (k : Nat) : FnOk Try.prog 160 (f160con (impl_isInt32 k)) :=
  let hc := f160hc k
  fnOk (fn := Try.f160) (code := bodyOf Try.f160) (res := [.tmp 2]) hc (by kernel_rfl) (by kernel_rfl) (by decide) (by kernel_rfl) (by kernel_rfl) (by kernel_rfl) (Nat.le_of_ble_eq_true (by kernel_rfl)) _
    (fun x => Snd.exec hc _ _ _ _)
    (fun x => by kernel_rfl)

def f187in : SS := ⟨[(0, (.ro (.int .i64))), (1, (.ro (.st (.cons (.int .i64) (.cons .str .nil)))))], []⟩
def f187out : SS := ⟨[(0, (.ro .bool))], []⟩
def f187s8 : SS := ⟨[(0, (.ro (.int .i64))), (3, (.p 100)), (26, (.ro .bool))], [(100, (.box (.st (.cons (.int .i64) (.cons .str .nil))) (.agg (.cons (.ro (.int .i64)) (.cons (.ro .str) .nil)))))]⟩
def f187con (F : Int → TVal → Option Bool) : Con := ⟨f187in, f187out, 2, 1, fun x => F x.1 x.2⟩
def f187ctx (k : Nat) : Ctx := ⟨tyAt tys, conAt [(77, [f77con (impl_within k)]), (160, [f160con (impl_isInt32 k)])], 45, fun _ => false⟩
theorem f187hc (k : Nat) : CtxOk Try.prog (f187ctx k) := ctxOk tys_ok mixed_ok (consOk_cons (f77ok k) (consOk_cons (f160ok k) (consOk_nil)))
theorem f187ok (k : Nat) : FnOk Try.prog 187 (f187con (impl_ValOk k)) :=
  let hc := f187hc k
  fnOk (fn := Try.f187) (code := bodyOf Try.f187) (res := [.tmp 4]) hc (by kernel_rfl) (by kernel_rfl) (by decide) (by kernel_rfl) (by kernel_rfl) (by kernel_rfl) (Nat.le_of_ble_eq_true (by kernel_rfl)) _
    (fun x => Snd.seq (by kernel_rfl) (Snd.seq (by kernel_rfl) (Snd.exec hc _ _ _ _) (Snd.seq (by kernel_rfl) (Snd.block (id := 0) (by kernel_rfl) (Snd.seq (by kernel_rfl) (Snd.cond (x := .tmp 6) (by kernel_rfl) (Snd.exec hc _ _ _ _) (Snd.seq (by kernel_rfl) (Snd.cond (x := .tmp 16) (by kernel_rfl) (Snd.exec hc _ _ _ _) (Snd.seq (by kernel_rfl) (Snd.cut (Snd.exec hc _ _ _ _) ⟨f187s8, fun x => impl_ValOk.c8 k x.1.1 x.1.2.2 x.2⟩ (fun x => by kernel_rfl)) (Snd.exec hc _ _ _ _))) (Snd.exec hc _ _ _ _))) (Snd.exec hc _ _ _ _))) (Snd.exec hc _ _ _ _))) (Snd.exec hc _ _ _ _))
    (fun x => by kernel_rfl)

def f196i5in : SS := ⟨[(0, (.p 0))], [(0, (.box (.st (.cons (.list 126 (.st (.cons .str (.cons (.int .i64) (.cons (.int .i64) (.cons (.int .i64) .nil)))))) (.cons (.list 52 (.st (.cons (.int .i64) (.cons .str .nil)))) (.cons .bool (.cons .ptr (.cons .ptr .nil)))))) (.agg (.cons (.ro (.list 126 (.st (.cons .str (.cons (.int .i64) (.cons (.int .i64) (.cons (.int .i64) .nil))))))) (.cons (.ro (.list 52 (.st (.cons (.int .i64) (.cons .str .nil))))) (.cons (.ro .bool) (.cons (.fn 70 .nil) (.cons (.fn 71 .nil) .nil))))))))]⟩
def f196i5out : SS := ⟨[(0, (.agg (.cons (.ro (.int .i64)) (.cons (.ro .str) .nil))))], [(0, (.box (.st (.cons (.list 126 (.st (.cons .str (.cons (.int .i64) (.cons (.int .i64) (.cons (.int .i64) .nil)))))) (.cons (.list 52 (.st (.cons (.int .i64) (.cons .str .nil)))) (.cons .bool (.cons .ptr (.cons .ptr .nil)))))) (.agg (.cons (.ro (.list 126 (.st (.cons .str (.cons (.int .i64) (.cons (.int .i64) (.cons (.int .i64) .nil))))))) (.cons (.ro (.list 52 (.st (.cons (.int .i64) (.cons .str .nil))))) (.cons (.ro .bool) (.cons (.fn 70 .nil) (.cons (.fn 71 .nil) .nil))))))))]⟩
def f196i5con (F : TWalker → Option ((TVal) × TWalker)) : Con := ⟨f196i5in, f196i5out, 1, 1, fun x => F x.2⟩
def f196i5ctx (k : Nat) : Ctx := ⟨tyAt tys, conAt [], 35, fun _ => false⟩
theorem f196i5hc (k : Nat) : CtxOk Try.prog (f196i5ctx k) := ctxOk tys_ok mixed_ok (consOk_nil)
theorem f196i5ok (k : Nat) : FnOk Try.prog 196 (f196i5con (impl_walker_next_of_RecOk_1_RecOk_2 k)) :=
  let hc := f196i5hc k
  fnOk (fn := Try.f196) (code := bodyOf Try.f196) (res := [.cell 2 52]) hc (by kernel_rfl) (by kernel_rfl) (by decide) (by kernel_rfl) (by kernel_rfl) (by kernel_rfl) (Nat.le_of_ble_eq_true (by kernel_rfl)) _
    (fun x => Snd.exec hc _ _ _ _)
    (fun x => by kernel_rfl)

def f225i9in : SS := ⟨[(0, (.p 0)), (1, (.ro (.int .i64)))], [(0, (.box (.st (.cons (.list 126 (.st (.cons .str (.cons (.int .i64) (.cons (.int .i64) (.cons (.int .i64) .nil)))))) (.cons (.list 52 (.st (.cons (.int .i64) (.cons .str .nil)))) (.cons .bool (.cons .ptr (.cons .ptr .nil)))))) (.agg (.cons (.ro (.list 126 (.st (.cons .str (.cons (.int .i64) (.cons (.int .i64) (.cons (.int .i64) .nil))))))) (.cons (.ro (.list 52 (.st (.cons (.int .i64) (.cons .str .nil))))) (.cons (.ro .bool) (.cons (.fn 70 .nil) (.cons (.fn 71 .nil) .nil))))))))]⟩
def f225i9out : SS := ⟨[(0, (.ro (.int .i64)))], [(0, (.box (.st (.cons (.list 126 (.st (.cons .str (.cons (.int .i64) (.cons (.int .i64) (.cons (.int .i64) .nil)))))) (.cons (.list 52 (.st (.cons (.int .i64) (.cons .str .nil)))) (.cons .bool (.cons .ptr (.cons .ptr .nil)))))) (.agg (.cons (.ro (.list 126 (.st (.cons .str (.cons (.int .i64) (.cons (.int .i64) (.cons (.int .i64) .nil))))))) (.cons (.ro (.list 52 (.st (.cons (.int .i64) (.cons .str .nil))))) (.cons (.ro .bool) (.cons (.fn 70 .nil) (.cons (.fn 71 .nil) .nil))))))))]⟩
def f225i9con (F : Int → TWalker → Option (Int × TWalker)) : Con := ⟨f225i9in, f225i9out, 2, 1, fun x => F x.1.2 x.2⟩
def f225i9ctx (k : Nat) : Ctx := ⟨tyAt tys, conAt [(77, [f77con (impl_within k)]), (196, [f196i5con (impl_walker_next_of_RecOk_1_RecOk_2 k)])], 23, fun _ => false⟩
theorem f225i9hc (k : Nat) : CtxOk Try.prog (f225i9ctx k) := ctxOk tys_ok mixed_ok (consOk_cons (f77ok k) (consOk_cons (f196i5ok k) (consOk_nil)))
theorem f225i9ok (k : Nat) : FnOk Try.prog 225 (f225i9con (impl_walker_count_of_RecOk_1_RecOk_2 k)) :=
  let hc := f225i9hc k
  fnOk (fn := Try.f225) (code := bodyOf Try.f225) (res := [.tmp 4]) hc (by kernel_rfl) (by kernel_rfl) (by decide) (by kernel_rfl) (by kernel_rfl) (by kernel_rfl) (Nat.le_of_ble_eq_true (by kernel_rfl)) _
    (fun x => Snd.exec hc _ _ _ _)
    (fun x => by kernel_rfl)

def f71in : SS := ⟨[(0, (.ro (.int .i64))), (1, (.ro (.int .i64))), (2, (.ro (.int .i64)))], []⟩
def f71out : SS := ⟨[], []⟩
def f71con (F : Int → Int → Int → Option Unit) : Con := ⟨f71in, f71out, 3, 0, fun x => F x.1 x.2.1 x.2.2⟩
def f71ctx (k : Nat) : Ctx := ⟨tyAt tys, conAt [], 6, fun _ => false⟩
theorem f71hc (k : Nat) : CtxOk Try.prog (f71ctx k) := ctxOk tys_ok mixed_ok (consOk_nil)
theorem f71ok (k : Nat) : FnOk Try.prog 71 (f71con (impl_RecOk_2 k)) :=
  let hc := f71hc k
  fnOk (fn := Try.f71) (code := bodyOf Try.f71) (res := []) hc (by kernel_rfl) (by kernel_rfl) (by decide) (by kernel_rfl) (by kernel_rfl) (by kernel_rfl) (Nat.le_of_ble_eq_true (by kernel_rfl)) _
    (fun x => Snd.exec hc _ _ _ _)
    (fun x => by kernel_rfl)

def f226i12in : SS := ⟨[(0, (.p 0)), (1, (.ro (.int .i64))), (2, (.ro (.int .i64))), (3, (.ro (.int .i64)))], [(0, (.box (.st (.cons (.list 126 (.st (.cons .str (.cons (.int .i64) (.cons (.int .i64) (.cons (.int .i64) .nil)))))) (.cons (.list 52 (.st (.cons (.int .i64) (.cons .str .nil)))) (.cons .bool (.cons .ptr (.cons .ptr .nil)))))) (.agg (.cons (.ro (.list 126 (.st (.cons .str (.cons (.int .i64) (.cons (.int .i64) (.cons (.int .i64) .nil))))))) (.cons (.ro (.list 52 (.st (.cons (.int .i64) (.cons .str .nil))))) (.cons (.ro .bool) (.cons (.fn 70 .nil) (.cons (.fn 71 .nil) .nil))))))))]⟩
def f226i12out : SS := ⟨[(0, (.ro (.int .i64)))], [(0, (.box (.st (.cons (.list 126 (.st (.cons .str (.cons (.int .i64) (.cons (.int .i64) (.cons (.int .i64) .nil)))))) (.cons (.list 52 (.st (.cons (.int .i64) (.cons .str .nil)))) (.cons .bool (.cons .ptr (.cons .ptr .nil)))))) (.agg (.cons (.ro (.list 126 (.st (.cons .str (.cons (.int .i64) (.cons (.int .i64) (.cons (.int .i64) .nil))))))) (.cons (.ro (.list 52 (.st (.cons (.int .i64) (.cons .str .nil))))) (.cons (.ro .bool) (.cons (.fn 70 .nil) (.cons (.fn 71 .nil) .nil))))))))]⟩
def f226i12s4 : SS := ⟨[(0, (.p 0)), (2, (.ro (.int .i64))), (3, (.ro (.int .i64))), (9, (.ro (.int .i64))), (10, (.ro (.int .i64)))], [(0, (.box (.st (.cons (.list 126 (.st (.cons .str (.cons (.int .i64) (.cons (.int .i64) (.cons (.int .i64) .nil)))))) (.cons (.list 52 (.st (.cons (.int .i64) (.cons .str .nil)))) (.cons .bool (.cons .ptr (.cons .ptr .nil)))))) (.agg (.cons (.ro (.list 126 (.st (.cons .str (.cons (.int .i64) (.cons (.int .i64) (.cons (.int .i64) .nil))))))) (.cons (.ro (.list 52 (.st (.cons (.int .i64) (.cons .str .nil))))) (.cons (.ro .bool) (.cons (.fn 70 .nil) (.cons (.fn 71 .nil) .nil))))))))]⟩
def f226i12s3 : SS := ⟨[(0, (.p 0)), (2, (.ro (.int .i64))), (3, (.ro (.int .i64))), (9, (.ro (.int .i64))), (10, (.ro (.int .i64)))], [(0, (.box (.st (.cons (.list 126 (.st (.cons .str (.cons (.int .i64) (.cons (.int .i64) (.cons (.int .i64) .nil)))))) (.cons (.list 52 (.st (.cons (.int .i64) (.cons .str .nil)))) (.cons .bool (.cons .ptr (.cons .ptr .nil)))))) (.agg (.cons (.ro (.list 126 (.st (.cons .str (.cons (.int .i64) (.cons (.int .i64) (.cons (.int .i64) .nil))))))) (.cons (.ro (.list 52 (.st (.cons (.int .i64) (.cons .str .nil))))) (.cons (.ro .bool) (.cons (.fn 70 .nil) (.cons (.fn 71 .nil) .nil))))))))]⟩
def f226i12con (F : Int → Int → Int → TWalker → Option (Int × TWalker)) : Con := ⟨f226i12in, f226i12out, 4, 1, fun x => F x.1.2.1 x.1.2.2.1 x.1.2.2.2 x.2⟩
def f226i12ctx (k : Nat) : Ctx := ⟨tyAt tys, conAt [(71, [f71con (impl_RecOk_2 k)]), (140, [f140con (impl_colAfter k)])], 41, fun _ => false⟩
theorem f226i12hc (k : Nat) : CtxOk Try.prog (f226i12ctx k) := ctxOk tys_ok mixed_ok (consOk_cons (f71ok k) (consOk_cons (f140ok k) (consOk_nil)))
theorem f226i12ok (k : Nat) : FnOk Try.prog 226 (f226i12con (impl_walker_missing_of_RecOk_1_RecOk_2 k)) :=
  let hc := f226i12hc k
  fnOk (fn := Try.f226) (code := bodyOf Try.f226) (res := [.tmp 8]) hc (by kernel_rfl) (by kernel_rfl) (by decide) (by kernel_rfl) (by kernel_rfl) (by kernel_rfl) (Nat.le_of_ble_eq_true (by kernel_rfl)) _
    (fun x => Snd.seq (by kernel_rfl) (Snd.seq (by kernel_rfl) (Snd.seq (by kernel_rfl) (Snd.exec hc _ _ _ _) (Snd.seq (by kernel_rfl) (Snd.block (id := 0) (by kernel_rfl) (Snd.loop' (by kernel_rfl) f226i12s3 (fun n x => impl_walker_missing_of_RecOk_1_RecOk_2.l3 k n x.1.2.1 x.1.2.2.1 x.1.2.2.2.1 x.1.2.2.2.2 x.2) _ (fun _ => rfl) (fun n3 => Snd.seq (by kernel_rfl) (Snd.seq (by kernel_rfl) (Snd.cut (Snd.exec hc _ _ _ _) ⟨f226i12s4, fun x => impl_walker_missing_of_RecOk_1_RecOk_2.c4 k (impl_walker_missing_of_RecOk_1_RecOk_2.l3 k n3) x.1.2.1 x.1.2.2.1 x.1.2.2.2.1 x.1.2.2.2.2 x.2⟩ (fun x => by kernel_rfl)) (Snd.exec hc _ _ _ _)) (Snd.exec hc _ _ _ _)) (fun n x => by kernel_rfl) k)) (Snd.exec hc _ _ _ _))) (Snd.exec hc _ _ _ _)) (Snd.exec hc _ _ _ _))
    (fun x => by kernel_rfl)

def f141i3in : SS := ⟨[(0, (.p 0)), (1, (.ro (.int .i64))), (2, (.ro (.int .i64))), (3, (.ro (.int .i64))), (4, (.ro (.int .i64)))], [(0, (.box (.st (.cons (.list 126 (.st (.cons .str (.cons (.int .i64) (.cons (.int .i64) (.cons (.int .i64) .nil)))))) (.cons (.list 52 (.st (.cons (.int .i64) (.cons .str .nil)))) (.cons .bool (.cons .ptr (.cons .ptr .nil)))))) (.agg (.cons (.ro (.list 126 (.st (.cons .str (.cons (.int .i64) (.cons (.int .i64) (.cons (.int .i64) .nil))))))) (.cons (.ro (.list 52 (.st (.cons (.int .i64) (.cons .str .nil))))) (.cons (.ro .bool) (.cons (.fn 70 .nil) (.cons (.fn 71 .nil) .nil))))))))]⟩
def f141i3out : SS := ⟨[(0, (.ro (.int .i64)))], [(0, (.box (.st (.cons (.list 126 (.st (.cons .str (.cons (.int .i64) (.cons (.int .i64) (.cons (.int .i64) .nil)))))) (.cons (.list 52 (.st (.cons (.int .i64) (.cons .str .nil)))) (.cons .bool (.cons .ptr (.cons .ptr .nil)))))) (.agg (.cons (.ro (.list 126 (.st (.cons .str (.cons (.int .i64) (.cons (.int .i64) (.cons (.int .i64) .nil))))))) (.cons (.ro (.list 52 (.st (.cons (.int .i64) (.cons .str .nil))))) (.cons (.ro .bool) (.cons (.fn 70 .nil) (.cons (.fn 71 .nil) .nil))))))))]⟩
def f141i3s14 : SS := ⟨[(12, (.ro (.int .i64)))], [(0, (.box (.st (.cons (.list 126 (.st (.cons .str (.cons (.int .i64) (.cons (.int .i64) (.cons (.int .i64) .nil)))))) (.cons (.list 52 (.st (.cons (.int .i64) (.cons .str .nil)))) (.cons .bool (.cons .ptr (.cons .ptr .nil)))))) (.agg (.cons (.ro (.list 126 (.st (.cons .str (.cons (.int .i64) (.cons (.int .i64) (.cons (.int .i64) .nil))))))) (.cons (.ro (.list 52 (.st (.cons (.int .i64) (.cons .str .nil))))) (.cons (.ro .bool) (.cons (.fn 70 .nil) (.cons (.fn 71 .nil) .nil))))))))]⟩
def f141i3s10 : SS := ⟨[(0, (.p 0)), (2, (.ro (.int .i64))), (3, (.ro (.int .i64))), (4, (.ro (.int .i64))), (12, (.ro (.int .i64))), (70, (.ro (.int .i64))), (71, (.ro (.int .i64)))], [(0, (.box (.st (.cons (.list 126 (.st (.cons .str (.cons (.int .i64) (.cons (.int .i64) (.cons (.int .i64) .nil)))))) (.cons (.list 52 (.st (.cons (.int .i64) (.cons .str .nil)))) (.cons .bool (.cons .ptr (.cons .ptr .nil)))))) (.agg (.cons (.ro (.list 126 (.st (.cons .str (.cons (.int .i64) (.cons (.int .i64) (.cons (.int .i64) .nil))))))) (.cons (.ro (.list 52 (.st (.cons (.int .i64) (.cons .str .nil))))) (.cons (.ro .bool) (.cons (.fn 70 .nil) (.cons (.fn 71 .nil) .nil))))))))]⟩
def f141i3s7 : SS := ⟨[(1, (.ro (.int .i64)))], [(0, (.box (.st (.cons (.list 126 (.st (.cons .str (.cons (.int .i64) (.cons (.int .i64) (.cons (.int .i64) .nil)))))) (.cons (.list 52 (.st (.cons (.int .i64) (.cons .str .nil)))) (.cons .bool (.cons .ptr (.cons .ptr .nil)))))) (.agg (.cons (.ro (.list 126 (.st (.cons .str (.cons (.int .i64) (.cons (.int .i64) (.cons (.int .i64) .nil))))))) (.cons (.ro (.list 52 (.st (.cons (.int .i64) (.cons .str .nil))))) (.cons (.ro .bool) (.cons (.fn 70 .nil) (.cons (.fn 71 .nil) .nil))))))))]⟩
def f141i3s5 : SS := ⟨[(0, (.p 0)), (1, (.ro (.int .i64))), (2, (.ro (.int .i64))), (3, (.ro (.int .i64))), (11, (.p 100))], [(0, (.box (.st (.cons (.list 126 (.st (.cons .str (.cons (.int .i64) (.cons (.int .i64) (.cons (.int .i64) .nil)))))) (.cons (.list 52 (.st (.cons (.int .i64) (.cons .str .nil)))) (.cons .bool (.cons .ptr (.cons .ptr .nil)))))) (.agg (.cons (.ro (.list 126 (.st (.cons .str (.cons (.int .i64) (.cons (.int .i64) (.cons (.int .i64) .nil))))))) (.cons (.ro (.list 52 (.st (.cons (.int .i64) (.cons .str .nil))))) (.cons (.ro .bool) (.cons (.fn 70 .nil) (.cons (.fn 71 .nil) .nil)))))))), (100, (.box (.st (.cons (.int .i64) (.cons .str .nil))) (.agg (.cons (.ro (.int .i64)) (.cons (.ro .str) .nil)))))]⟩
def f141i3d3 : SS := ⟨[(0, (.p 0)), (1, (.ro (.int .i64))), (2, (.ro (.int .i64))), (3, (.ro (.int .i64))), (11, (.p 100))], [(0, (.box (.st (.cons (.list 126 (.st (.cons .str (.cons (.int .i64) (.cons (.int .i64) (.cons (.int .i64) .nil)))))) (.cons (.list 52 (.st (.cons (.int .i64) (.cons .str .nil)))) (.cons .bool (.cons .ptr (.cons .ptr .nil)))))) (.agg (.cons (.ro (.list 126 (.st (.cons .str (.cons (.int .i64) (.cons (.int .i64) (.cons (.int .i64) .nil))))))) (.cons (.ro (.list 52 (.st (.cons (.int .i64) (.cons .str .nil))))) (.cons (.ro .bool) (.cons (.fn 70 .nil) (.cons (.fn 71 .nil) .nil)))))))), (100, (.box (.st (.cons (.int .i64) (.cons .str .nil))) (.agg (.cons (.ro (.int .i64)) (.cons (.ro .str) .nil)))))]⟩
def f141i3con (F : Int → Int → Int → Int → TWalker → Option (Int × TWalker)) : Con := ⟨f141i3in, f141i3out, 5, 1, fun x => F x.1.2.1 x.1.2.2.1 x.1.2.2.2.1 x.1.2.2.2.2 x.2⟩
def f197i6in : SS := ⟨[(0, (.p 0)), (1, (.ro (.int .i64))), (2, (.ro (.int .i64))), (3, (.ro (.int .i64))), (4, (.ro (.int .i64)))], [(0, (.box (.st (.cons (.list 126 (.st (.cons .str (.cons (.int .i64) (.cons (.int .i64) (.cons (.int .i64) .nil)))))) (.cons (.list 52 (.st (.cons (.int .i64) (.cons .str .nil)))) (.cons .bool (.cons .ptr (.cons .ptr .nil)))))) (.agg (.cons (.ro (.list 126 (.st (.cons .str (.cons (.int .i64) (.cons (.int .i64) (.cons (.int .i64) .nil))))))) (.cons (.ro (.list 52 (.st (.cons (.int .i64) (.cons .str .nil))))) (.cons (.ro .bool) (.cons (.fn 70 .nil) (.cons (.fn 71 .nil) .nil))))))))]⟩
def f197i6out : SS := ⟨[(0, (.ro (.int .i64)))], [(0, (.box (.st (.cons (.list 126 (.st (.cons .str (.cons (.int .i64) (.cons (.int .i64) (.cons (.int .i64) .nil)))))) (.cons (.list 52 (.st (.cons (.int .i64) (.cons .str .nil)))) (.cons .bool (.cons .ptr (.cons .ptr .nil)))))) (.agg (.cons (.ro (.list 126 (.st (.cons .str (.cons (.int .i64) (.cons (.int .i64) (.cons (.int .i64) .nil))))))) (.cons (.ro (.list 52 (.st (.cons (.int .i64) (.cons .str .nil))))) (.cons (.ro .bool) (.cons (.fn 70 .nil) (.cons (.fn 71 .nil) .nil))))))))]⟩
def f197i6s18 : SS := ⟨[(0, (.p 0)), (1, (.ro (.int .i64))), (2, (.ro (.int .i64))), (3, (.ro (.int .i64))), (4, (.ro (.int .i64)))], [(0, (.box (.st (.cons (.list 126 (.st (.cons .str (.cons (.int .i64) (.cons (.int .i64) (.cons (.int .i64) .nil)))))) (.cons (.list 52 (.st (.cons (.int .i64) (.cons .str .nil)))) (.cons .bool (.cons .ptr (.cons .ptr .nil)))))) (.agg (.cons (.ro (.list 126 (.st (.cons .str (.cons (.int .i64) (.cons (.int .i64) (.cons (.int .i64) .nil))))))) (.cons (.ro (.list 52 (.st (.cons (.int .i64) (.cons .str .nil))))) (.cons (.ro .bool) (.cons (.fn 70 .nil) (.cons (.fn 71 .nil) .nil))))))))]⟩
def f197i6s14 : SS := ⟨[(0, (.p 0)), (1, (.ro (.int .i64))), (3, (.ro (.int .i64))), (4, (.ro (.int .i64))), (12, (.ro (.int .i64))), (13, (.ro (.int .i64)))], [(0, (.box (.st (.cons (.list 126 (.st (.cons .str (.cons (.int .i64) (.cons (.int .i64) (.cons (.int .i64) .nil)))))) (.cons (.list 52 (.st (.cons (.int .i64) (.cons .str .nil)))) (.cons .bool (.cons .ptr (.cons .ptr .nil)))))) (.agg (.cons (.ro (.list 126 (.st (.cons .str (.cons (.int .i64) (.cons (.int .i64) (.cons (.int .i64) .nil))))))) (.cons (.ro (.list 52 (.st (.cons (.int .i64) (.cons .str .nil))))) (.cons (.ro .bool) (.cons (.fn 70 .nil) (.cons (.fn 71 .nil) .nil))))))))]⟩
def f197i6con (F : Int → Int → Int → Int → TWalker → Option (Int × TWalker)) : Con := ⟨f197i6in, f197i6out, 5, 1, fun x => F x.1.2.1 x.1.2.2.1 x.1.2.2.2.1 x.1.2.2.2.2 x.2⟩
def f141i3ctx (k : Nat) (S141i3 : Int → Int → Int → Int → TWalker → Option (Int × TWalker)) (S197i6 : Int → Int → Int → Int → TWalker → Option (Int × TWalker)) : Ctx := ⟨tyAt tys, conAt [(70, [f70con (impl_RecOk_1 k)]), (187, [f187con (impl_ValOk k)]), (196, [f196i5con (impl_walker_next_of_RecOk_1_RecOk_2 k)]), (197, [f197i6con S197i6])], 85, fun _ => false⟩
theorem f141i3hc (k : Nat) (S141i3 : Int → Int → Int → Int → TWalker → Option (Int × TWalker)) (S197i6 : Int → Int → Int → Int → TWalker → Option (Int × TWalker)) (h141i3 : FnOk Try.prog 141 (f141i3con S141i3)) (h197i6 : FnOk Try.prog 197 (f197i6con S197i6)) : CtxOk Try.prog (f141i3ctx k S141i3 S197i6) := ctxOk tys_ok mixed_ok (consOk_cons (f70ok k) (consOk_cons (f187ok k) (consOk_cons (f196i5ok k) (consOk_cons (h197i6) (consOk_nil)))))
theorem f141i3okb (k : Nat) (S141i3 : Int → Int → Int → Int → TWalker → Option (Int × TWalker)) (S197i6 : Int → Int → Int → Int → TWalker → Option (Int × TWalker)) (h141i3 : FnOk Try.prog 141 (f141i3con S141i3)) (h197i6 : FnOk Try.prog 197 (f197i6con S197i6)) : FnOk Try.prog 141 (f141i3con (impl_walker_body_of_RecOk_1_RecOk_2.b k S141i3 S197i6)) :=
  let hc := f141i3hc k S141i3 S197i6 h141i3 h197i6
  fnOk (fn := Try.f141) (code := bodyOf Try.f141) (res := [.tmp 10]) hc (by kernel_rfl) (by kernel_rfl) (by decide) (by kernel_rfl) (by kernel_rfl) (by kernel_rfl) (Nat.le_of_ble_eq_true (by kernel_rfl)) _
    (fun x => Snd.seq (by kernel_rfl) (Snd.seq (by kernel_rfl) (Snd.seq (by kernel_rfl) (Snd.seq (by kernel_rfl) (Snd.cut (Snd.exec hc _ _ _ _) ⟨f141i3s14, fun x => impl_walker_body_of_RecOk_1_RecOk_2.c14 k x.1 x.2⟩ (fun x => by kernel_rfl)) (Snd.seq (by kernel_rfl) (Snd.block (id := 0) (by kernel_rfl) (Snd.loop' (by kernel_rfl) f141i3s10 (fun n x => impl_walker_body_of_RecOk_1_RecOk_2.l10 k S197i6 n x.1.2.1 x.1.2.2.1 x.1.2.2.2.1 x.1.2.2.2.2.1 x.1.2.2.2.2.2.1 x.1.2.2.2.2.2.2 x.2) _ (fun _ => rfl) (fun n10 => Snd.exec hc _ _ _ _) (fun n x => by kernel_rfl) k)) (Snd.exec hc _ _ _ _))) (Snd.exec hc _ _ _ _)) (Snd.seq (by kernel_rfl) (Snd.cond (x := .tmp 21) (by kernel_rfl) (Snd.seq (by kernel_rfl) (Snd.seq (by kernel_rfl) (Snd.cut (Snd.seq (by kernel_rfl) (Snd.cut (Snd.exec hc _ _ _ _) ⟨f141i3s7, fun x => impl_walker_body_of_RecOk_1_RecOk_2.c7 k x.1 x.2⟩ (fun x => by kernel_rfl)) (Snd.exec hc _ _ _ _)) ⟨f141i3s5, fun x => impl_walker_body_of_RecOk_1_RecOk_2.c5 k x.1.2.1 x.1.2.2.1 x.1.2.2.2.1 x.2.1 x.2.2⟩ (fun x => by kernel_rfl)) (Snd.seq (by kernel_rfl) (Snd.exec hc _ _ _ _) (Snd.fork hc (id := 3) (by kernel_rfl) ⟨f141i3d3, fun x => impl_walker_body_of_RecOk_1_RecOk_2.d3 k x.1.2.1 x.1.2.2.1 x.1.2.2.2.1 x.2.1 x.2.2⟩ [[0, 1, 2, 3, 4, 5, 6, 7, 8, 10, 14, 9, 11, 12, 13, 15, 16, 17]] (by kernel_rfl) (ords_cons (fun x => by kernel_rfl) (ords_nil))))) (Snd.exec hc _ _ _ _)) (Snd.exec hc _ _ _ _)) (Snd.exec hc _ _ _ _))) (Snd.exec hc _ _ _ _))
    (fun x => by kernel_rfl)
def f197i6ctx (k : Nat) (S141i3 : Int → Int → Int → Int → TWalker → Option (Int × TWalker)) (S197i6 : Int → Int → Int → Int → TWalker → Option (Int × TWalker)) : Ctx := ⟨tyAt tys, conAt [(140, [f140con (impl_colAfter k)]), (141, [f141i3con S141i3]), (225, [f225i9con (impl_walker_count_of_RecOk_1_RecOk_2 k)]), (226, [f226i12con (impl_walker_missing_of_RecOk_1_RecOk_2 k)])], 86, fun _ => false⟩
theorem f197i6hc (k : Nat) (S141i3 : Int → Int → Int → Int → TWalker → Option (Int × TWalker)) (S197i6 : Int → Int → Int → Int → TWalker → Option (Int × TWalker)) (h141i3 : FnOk Try.prog 141 (f141i3con S141i3)) (h197i6 : FnOk Try.prog 197 (f197i6con S197i6)) : CtxOk Try.prog (f197i6ctx k S141i3 S197i6) := ctxOk tys_ok mixed_ok (consOk_cons (f140ok k) (consOk_cons (h141i3) (consOk_cons (f225i9ok k) (consOk_cons (f226i12ok k) (consOk_nil)))))
theorem f197i6okb (k : Nat) (S141i3 : Int → Int → Int → Int → TWalker → Option (Int × TWalker)) (S197i6 : Int → Int → Int → Int → TWalker → Option (Int × TWalker)) (h141i3 : FnOk Try.prog 141 (f141i3con S141i3)) (h197i6 : FnOk Try.prog 197 (f197i6con S197i6)) : FnOk Try.prog 197 (f197i6con (impl_walker_col_of_RecOk_1_RecOk_2.b k S141i3 S197i6)) :=
  let hc := f197i6hc k S141i3 S197i6 h141i3 h197i6
  fnOk (fn := Try.f197) (code := bodyOf Try.f197) (res := [.tmp 10]) hc (by kernel_rfl) (by kernel_rfl) (by decide) (by kernel_rfl) (by kernel_rfl) (by kernel_rfl) (Nat.le_of_ble_eq_true (by kernel_rfl)) _
    (fun x => Snd.seq (by kernel_rfl) (Snd.seq (by kernel_rfl) (Snd.cut (Snd.exec hc _ _ _ _) ⟨f197i6s18, fun x => impl_walker_col_of_RecOk_1_RecOk_2.c18 k S141i3 x.1.2.1 x.1.2.2.1 x.1.2.2.2.1 x.1.2.2.2.2 x.2⟩ (fun x => by kernel_rfl)) (Snd.seq (by kernel_rfl) (Snd.block (id := 0) (by kernel_rfl) (Snd.seq (by kernel_rfl) (Snd.cond (x := .tmp 22) (by kernel_rfl) (Snd.exec hc _ _ _ _) (Snd.seq (by kernel_rfl) (Snd.cond (x := .tmp 35) (by kernel_rfl) (Snd.seq (by kernel_rfl) (Snd.seq (by kernel_rfl) (Snd.seq (by kernel_rfl) (Snd.seq (by kernel_rfl) (Snd.seq (by kernel_rfl) (Snd.exec hc _ _ _ _) (Snd.seq (by kernel_rfl) (Snd.block (id := 1) (by kernel_rfl) (Snd.loop' (by kernel_rfl) f197i6s14 (fun n x => impl_walker_col_of_RecOk_1_RecOk_2.l14 k S141i3 n x.1.2.1 x.1.2.2.1 x.1.2.2.2.1 x.1.2.2.2.2.1 x.1.2.2.2.2.2 x.2) _ (fun _ => rfl) (fun n14 => Snd.exec hc _ _ _ _) (fun n x => by kernel_rfl) k)) (Snd.exec hc _ _ _ _))) (Snd.exec hc _ _ _ _)) (Snd.exec hc _ _ _ _)) (Snd.exec hc _ _ _ _)) (Snd.exec hc _ _ _ _)) (Snd.exec hc _ _ _ _)) (Snd.exec hc _ _ _ _))) (Snd.exec hc _ _ _ _))) (Snd.exec hc _ _ _ _))) (Snd.exec hc _ _ _ _))
    (fun x => by kernel_rfl)
theorem f141i3rec (k : Nat) : ∀ d, FnOk Try.prog 141 (f141i3con (impl_walker_body_of_RecOk_1_RecOk_2.d k d)) ∧ FnOk Try.prog 197 (f197i6con (impl_walker_col_of_RecOk_1_RecOk_2.d k d))
  | 0 => ⟨FnOk_none (fun _ => rfl), FnOk_none (fun _ => rfl)⟩
  | d + 1 => let ih := f141i3rec k d
    ⟨f141i3okb k (impl_walker_body_of_RecOk_1_RecOk_2.d k d) (impl_walker_col_of_RecOk_1_RecOk_2.d k d) ih.1 ih.2, f197i6okb k (impl_walker_body_of_RecOk_1_RecOk_2.d k d) (impl_walker_col_of_RecOk_1_RecOk_2.d k d) ih.1 ih.2⟩
theorem f141i3ok (k : Nat) : FnOk Try.prog 141 (f141i3con (impl_walker_body_of_RecOk_1_RecOk_2 k)) := (f141i3rec k k).1
theorem f197i6ok (k : Nat) : FnOk Try.prog 197 (f197i6con (impl_walker_col_of_RecOk_1_RecOk_2 k)) := (f141i3rec k k).2

def f69i1in : SS := ⟨[(0, (.ro (.list 126 (.st (.cons .str (.cons (.int .i64) (.cons (.int .i64) (.cons (.int .i64) .nil)))))))), (1, (.ro (.st (.cons (.list 52 (.st (.cons (.int .i64) (.cons .str .nil)))) .nil)))), (2, (.fn 70 .nil)), (3, (.fn 71 .nil))], []⟩
def f69i1out : SS := ⟨[(0, (.ro .bool))], []⟩
def f69i1con (F : (List TCol) → TRec → Unit → Unit → Option Bool) : Con := ⟨f69i1in, f69i1out, 4, 1, fun x => F x.1 x.2.1 x.2.2.1 x.2.2.2⟩
def f69i1ctx (k : Nat) : Ctx := ⟨tyAt tys, conAt [(141, [f141i3con (impl_walker_body_of_RecOk_1_RecOk_2 k)])], 36, fun _ => false⟩
theorem f69i1hc (k : Nat) : CtxOk Try.prog (f69i1ctx k) := ctxOk tys_ok mixed_ok (consOk_cons (f141i3ok k) (consOk_nil))
theorem f69i1ok (k : Nat) : FnOk Try.prog 69 (f69i1con (impl_walk_of_RecOk_1_RecOk_2 k)) :=
  let hc := f69i1hc k
  fnOk (fn := Try.f69) (code := bodyOf Try.f69) (res := [.tmp 8]) hc (by kernel_rfl) (by kernel_rfl) (by decide) (by kernel_rfl) (by kernel_rfl) (by kernel_rfl) (Nat.le_of_ble_eq_true (by kernel_rfl)) _
    (fun x => Snd.exec hc _ _ _ _)
    (fun x => by kernel_rfl)

def f14in : SS := ⟨[(0, (.ro (.list 126 (.st (.cons .str (.cons (.int .i64) (.cons (.int .i64) (.cons (.int .i64) .nil)))))))), (1, (.ro (.st (.cons (.list 52 (.st (.cons (.int .i64) (.cons .str .nil)))) .nil))))], []⟩
def f14out : SS := ⟨[(0, (.ro .bool))], []⟩
def f14con (F : (List TCol) → TRec → Option Bool) : Con := ⟨f14in, f14out, 2, 1, fun x => F x.1 x.2⟩
def f14ctx (k : Nat) : Ctx := ⟨tyAt tys, conAt [(68, [f68con (impl_SchemaOk k)]), (69, [f69i1con (impl_walk_of_RecOk_1_RecOk_2 k)])], 12, fun _ => false⟩
theorem f14hc (k : Nat) : CtxOk Try.prog (f14ctx k) := ctxOk tys_ok mixed_ok (consOk_cons (f68ok k) (consOk_cons (f69i1ok k) (consOk_nil)))
theorem f14ok (k : Nat) : FnOk Try.prog 14 (f14con (impl_RecOk k)) :=
  let hc := f14hc k
  fnOk (fn := Try.f14) (code := bodyOf Try.f14) (res := [.tmp 4]) hc (by kernel_rfl) (by kernel_rfl) (by decide) (by kernel_rfl) (by kernel_rfl) (by kernel_rfl) (Nat.le_of_ble_eq_true (by kernel_rfl)) _
    (fun x => Snd.exec hc _ _ _ _)
    (fun x => by kernel_rfl)

def f127in : SS := ⟨[(0, (.ro (.int .i64)))], []⟩
def f127out : SS := ⟨[(0, (.ro .bool))], []⟩
def f127con (F : Int → Option Bool) : Con := ⟨f127in, f127out, 1, 1, fun x => F x⟩
def f127ctx (k : Nat) : Ctx := ⟨tyAt tys, conAt [], 9, fun _ => false⟩
theorem f127hc (k : Nat) : CtxOk Try.prog (f127ctx k) := ctxOk tys_ok mixed_ok (consOk_nil)
theorem f127ok (k : Nat) : FnOk Try.prog 127 (f127con (impl_isPair k)) :=
  let hc := f127hc k
  fnOk (fn := Try.f127) (code := bodyOf Try.f127) (res := [.tmp 2]) hc (by kernel_rfl) (by kernel_rfl) (by decide) (by kernel_rfl) (by kernel_rfl) (by kernel_rfl) (Nat.le_of_ble_eq_true (by kernel_rfl)) _
    (fun x => Snd.exec hc _ _ _ _)
    (fun x => by kernel_rfl)

def f91in : SS := ⟨[(0, (.ro (.list 126 (.st (.cons .str (.cons (.int .i64) (.cons (.int .i64) (.cons (.int .i64) .nil))))))))], []⟩
def f91out : SS := ⟨[(0, (.h 100))], [(100, (.sl 3 (.int .i64)))]⟩
def f91s7 : SS := ⟨[(3, (.h 100)), (7, (.ro (.list 126 (.st (.cons .str (.cons (.int .i64) (.cons (.int .i64) (.cons (.int .i64) .nil)))))))), (8, (.ro (.int .i64))), (9, (.ro (.int .i64)))], [(100, (.sl 3 (.int .i64)))]⟩
def f91s3 : SS := ⟨[(3, (.h 100)), (7, (.ro (.list 126 (.st (.cons .str (.cons (.int .i64) (.cons (.int .i64) (.cons (.int .i64) .nil)))))))), (8, (.ro (.int .i64))), (9, (.ro (.int .i64)))], [(100, (.sl 3 (.int .i64)))]⟩
def f91con (F : (List TCol) → Option (Unit × (List Int))) : Con := ⟨f91in, f91out, 1, 1, fun x => F x⟩
def f91ctx (k : Nat) : Ctx := ⟨tyAt tys, conAt [], 23, fun _ => false⟩
theorem f91hc (k : Nat) : CtxOk Try.prog (f91ctx k) := ctxOk tys_ok mixed_ok (consOk_nil)
theorem f91ok (k : Nat) : FnOk Try.prog 91 (f91con (impl_leavesOf k)) :=
  let hc := f91hc k
  fnOk (fn := Try.f91) (code := bodyOf Try.f91) (res := [.tmp 2]) hc (by kernel_rfl) (by kernel_rfl) (by decide) (by kernel_rfl) (by kernel_rfl) (by kernel_rfl) (Nat.le_of_ble_eq_true (by kernel_rfl)) _
    (fun x => Snd.seq (by kernel_rfl) (Snd.seq (by kernel_rfl) (Snd.seq (by kernel_rfl) (Snd.exec hc _ _ _ _) (Snd.seq (by kernel_rfl) (Snd.block (id := 0) (by kernel_rfl) (Snd.loop' (by kernel_rfl) f91s3 (fun n x => impl_leavesOf.l3 k n x.1.2.1 x.1.2.2.1 x.1.2.2.2 x.2) _ (fun _ => rfl) (fun n3 => Snd.seq (by kernel_rfl) (Snd.seq (by kernel_rfl) (Snd.seq (by kernel_rfl) (Snd.cut (Snd.exec hc _ _ _ _) ⟨f91s7, fun x => impl_leavesOf.c7 k (impl_leavesOf.l3 k n3) x.1.2.1 x.1.2.2.1 x.1.2.2.2 x.2⟩ (fun x => by kernel_rfl)) (Snd.exec hc _ _ _ _)) (Snd.exec hc _ _ _ _)) (Snd.exec hc _ _ _ _)) (fun n x => by kernel_rfl) k)) (Snd.exec hc _ _ _ _))) (Snd.exec hc _ _ _ _)) (Snd.exec hc _ _ _ _))
    (fun x => by kernel_rfl)

def f76in : SS := ⟨[(0, (.ro (.list 126 (.st (.cons .str (.cons (.int .i64) (.cons (.int .i64) (.cons (.int .i64) .nil))))))))], []⟩
def f76out : SS := ⟨[(0, (.h 100))], [(100, (.sl 3 (.int .i64)))]⟩
def f76con (F : (List TCol) → Option (Unit × (List Int))) : Con := ⟨f76in, f76out, 1, 1, fun x => F x⟩
def f76ctx (k : Nat) : Ctx := ⟨tyAt tys, conAt [(68, [f68con (impl_SchemaOk k)]), (91, [f91con (impl_leavesOf k)])], 8, fun _ => false⟩
theorem f76hc (k : Nat) : CtxOk Try.prog (f76ctx k) := ctxOk tys_ok mixed_ok (consOk_cons (f68ok k) (consOk_cons (f91ok k) (consOk_nil)))
theorem f76ok (k : Nat) : FnOk Try.prog 76 (f76con (impl_SchemaLeaves k)) :=
  let hc := f76hc k
  fnOk (fn := Try.f76) (code := bodyOf Try.f76) (res := [.tmp 2]) hc (by kernel_rfl) (by kernel_rfl) (by decide) (by kernel_rfl) (by kernel_rfl) (by kernel_rfl) (Nat.le_of_ble_eq_true (by kernel_rfl)) _
    (fun x => Snd.exec hc _ _ _ _)
    (fun x => by kernel_rfl)

def f214in : SS := ⟨[(0, (.ro (.list 126 (.st (.cons .str (.cons (.int .i64) (.cons (.int .i64) (.cons (.int .i64) .nil)))))))), (1, (.ro (.int .i64)))], []⟩
def f214out : SS := ⟨[(0, (.h 100))], [(100, (.sl 3 (.int .i64)))]⟩
def f214s6 : SS := ⟨[(0, (.ro (.list 126 (.st (.cons .str (.cons (.int .i64) (.cons (.int .i64) (.cons (.int .i64) .nil)))))))), (1, (.ro (.int .i64))), (5, (.h 100)), (6, (.h 101)), (7, (.ro (.int .i64)))], [(100, (.sl 3 (.int .i64))), (101, (.sl 3 (.int .i64)))]⟩
def f214con (F : (List TCol) → Int → Option (Unit × (List Int))) : Con := ⟨f214in, f214out, 2, 1, fun x => F x.1 x.2⟩
def f214ctx (k : Nat) : Ctx := ⟨tyAt tys, conAt [(76, [f76con (impl_SchemaLeaves k)]), (77, [f77con (impl_within k)]), (140, [f140con (impl_colAfter k)])], 41, fun _ => false⟩
theorem f214hc (k : Nat) : CtxOk Try.prog (f214ctx k) := ctxOk tys_ok mixed_ok (consOk_cons (f76ok k) (consOk_cons (f77ok k) (consOk_cons (f140ok k) (consOk_nil))))
theorem f214ok (k : Nat) : FnOk Try.prog 214 (f214con (impl_wayTo k)) :=
  let hc := f214hc k
  fnOk (fn := Try.f214) (code := bodyOf Try.f214) (res := [.tmp 4]) hc (by kernel_rfl) (by kernel_rfl) (by decide) (by kernel_rfl) (by kernel_rfl) (by kernel_rfl) (Nat.le_of_ble_eq_true (by kernel_rfl)) _
    (fun x => Snd.seq (by kernel_rfl) (Snd.seq (by kernel_rfl) (Snd.seq (by kernel_rfl) (Snd.seq (by kernel_rfl) (Snd.seq (by kernel_rfl) (Snd.exec hc _ _ _ _) (Snd.seq (by kernel_rfl) (Snd.block (id := 0) (by kernel_rfl) (Snd.loop' (by kernel_rfl) f214s6 (fun n x => impl_wayTo.l6 k n x.1.1 x.1.2.1 x.1.2.2.2.2 x.2.1 x.2.2) _ (fun _ => rfl) (fun n6 => Snd.exec hc _ _ _ _) (fun n x => by kernel_rfl) k)) (Snd.exec hc _ _ _ _))) (Snd.exec hc _ _ _ _)) (Snd.exec hc _ _ _ _)) (Snd.exec hc _ _ _ _)) (Snd.exec hc _ _ _ _))
    (fun x => by kernel_rfl)

def f174in : SS := ⟨[(0, (.ro (.list 126 (.st (.cons .str (.cons (.int .i64) (.cons (.int .i64) (.cons (.int .i64) .nil)))))))), (1, (.ro (.int .i64)))], []⟩
def f174out : SS := ⟨[(0, (.ro (.int .i64))), (1, (.ro (.int .i64)))], []⟩
def f174s12 : SS := ⟨[(0, (.ro (.list 126 (.st (.cons .str (.cons (.int .i64) (.cons (.int .i64) (.cons (.int .i64) .nil)))))))), (7, (.ro (.int .i64))), (8, (.ro (.int .i64))), (17, (.h 100)), (18, (.ro (.int .i64))), (19, (.ro (.int .i64)))], [(100, (.sl 3 (.int .i64)))]⟩
def f174s10 : SS := ⟨[(0, (.ro (.list 126 (.st (.cons .str (.cons (.int .i64) (.cons (.int .i64) (.cons (.int .i64) .nil)))))))), (7, (.ro (.int .i64))), (8, (.ro (.int .i64))), (10, (.ro (.int .i64))), (17, (.h 100)), (18, (.ro (.int .i64))), (19, (.ro (.int .i64)))], [(100, (.sl 3 (.int .i64)))]⟩
def f174s6 : SS := ⟨[(0, (.ro (.list 126 (.st (.cons .str (.cons (.int .i64) (.cons (.int .i64) (.cons (.int .i64) .nil)))))))), (7, (.ro (.int .i64))), (8, (.ro (.int .i64))), (17, (.h 100)), (18, (.ro (.int .i64))), (19, (.ro (.int .i64)))], [(100, (.sl 3 (.int .i64)))]⟩
def f174con (F : (List TCol) → Int → Option (Int × Int)) : Con := ⟨f174in, f174out, 2, 2, fun x => F x.1 x.2⟩
def f174ctx (k : Nat) : Ctx := ⟨tyAt tys, conAt [(214, [f214con (impl_wayTo k)])], 42, fun _ => false⟩
theorem f174hc (k : Nat) : CtxOk Try.prog (f174ctx k) := ctxOk tys_ok mixed_ok (consOk_cons (f214ok k) (consOk_nil))
theorem f174ok (k : Nat) : FnOk Try.prog 174 (f174con (impl_LeafMax k)) :=
  let hc := f174hc k
  fnOk (fn := Try.f174) (code := bodyOf Try.f174) (res := [.tmp 4, .tmp 5]) hc (by kernel_rfl) (by kernel_rfl) (by decide) (by kernel_rfl) (by kernel_rfl) (by kernel_rfl) (Nat.le_of_ble_eq_true (by kernel_rfl)) _
    (fun x => Snd.seq (by kernel_rfl) (Snd.seq (by kernel_rfl) (Snd.seq (by kernel_rfl) (Snd.seq (by kernel_rfl) (Snd.seq (by kernel_rfl) (Snd.exec hc _ _ _ _) (Snd.seq (by kernel_rfl) (Snd.block (id := 0) (by kernel_rfl) (Snd.loop' (by kernel_rfl) f174s6 (fun n x => impl_LeafMax.l6 k n x.1.1 x.1.2.1 x.1.2.2.1 x.1.2.2.2.2.1 x.1.2.2.2.2.2 x.2) _ (fun _ => rfl) (fun n6 => Snd.seq (by kernel_rfl) (Snd.seq (by kernel_rfl) (Snd.seq (by kernel_rfl) (Snd.cut (Snd.exec hc _ _ _ _) ⟨f174s12, fun x => impl_LeafMax.c12 k (impl_LeafMax.l6 k n6) x.1.1 x.1.2.1 x.1.2.2.1 x.1.2.2.2.2.1 x.1.2.2.2.2.2 x.2⟩ (fun x => by kernel_rfl)) (Snd.block (id := 1) (by kernel_rfl) (Snd.seq (by kernel_rfl) (Snd.seq (by kernel_rfl) (Snd.cut (Snd.exec hc _ _ _ _) ⟨f174s10, fun x => impl_LeafMax.c10 k (impl_LeafMax.l6 k n6) x.1.1 x.1.2.1 x.1.2.2.1 x.1.2.2.2.1 x.1.2.2.2.2.2.1 x.1.2.2.2.2.2.2 x.2⟩ (fun x => by kernel_rfl)) (Snd.exec hc _ _ _ _)) (Snd.exec hc _ _ _ _)))) (Snd.exec hc _ _ _ _)) (Snd.exec hc _ _ _ _)) (fun n x => by kernel_rfl) k)) (Snd.exec hc _ _ _ _))) (Snd.exec hc _ _ _ _)) (Snd.exec hc _ _ _ _)) (Snd.exec hc _ _ _ _)) (Snd.exec hc _ _ _ _))
    (fun x => by kernel_rfl)

def f111in : SS := ⟨[(0, (.ro (.list 126 (.st (.cons .str (.cons (.int .i64) (.cons (.int .i64) (.cons (.int .i64) .nil)))))))), (1, (.ro (.int .i64)))], []⟩
def f111out : SS := ⟨[(0, (.agg (.cons (.ro (.int .i64)) (.cons (.ro (.int .i64)) (.cons (.ro (.int .i64)) .nil))))), (1, (.ro .bool))], []⟩
def f111con (F : (List TCol) → Int → Option (TLeaf × Bool)) : Con := ⟨f111in, f111out, 2, 2, fun x => F x.1 x.2⟩
def f111ctx (k : Nat) : Ctx := ⟨tyAt tys, conAt [(76, [f76con (impl_SchemaLeaves k)]), (77, [f77con (impl_within k)]), (174, [f174con (impl_LeafMax k)])], 35, fun _ => false⟩
theorem f111hc (k : Nat) : CtxOk Try.prog (f111ctx k) := ctxOk tys_ok mixed_ok (consOk_cons (f76ok k) (consOk_cons (f77ok k) (consOk_cons (f174ok k) (consOk_nil))))
theorem f111ok (k : Nat) : FnOk Try.prog 111 (f111con (impl_LeafOf k)) :=
  let hc := f111hc k
  fnOk (fn := Try.f111) (code := bodyOf Try.f111) (res := [.cell 4 147, .tmp 5]) hc (by kernel_rfl) (by kernel_rfl) (by decide) (by kernel_rfl) (by kernel_rfl) (by kernel_rfl) (Nat.le_of_ble_eq_true (by kernel_rfl)) _
    (fun x => Snd.exec hc _ _ _ _)
    (fun x => by kernel_rfl)

def f130in : SS := ⟨[(0, (.ro (.list 126 (.st (.cons .str (.cons (.int .i64) (.cons (.int .i64) (.cons (.int .i64) .nil)))))))), (1, (.ro (.st (.cons (.int .i64) (.cons (.int .i64) (.cons (.st (.cons (.int .i64) (.cons .str .nil))) (.cons (.int .i64) (.cons (.int .i64) .nil))))))))], []⟩
def f130out : SS := ⟨[(0, (.ro .bool))], []⟩
def f130con (F : (List TCol) → TPred → Option Bool) : Con := ⟨f130in, f130out, 2, 1, fun x => F x.1 x.2⟩
def f130ctx (k : Nat) : Ctx := ⟨tyAt tys, conAt [(111, [f111con (impl_LeafOf k)]), (187, [f187con (impl_ValOk k)])], 43, fun _ => false⟩
theorem f130hc (k : Nat) : CtxOk Try.prog (f130ctx k) := ctxOk tys_ok mixed_ok (consOk_cons (f111ok k) (consOk_cons (f187ok k) (consOk_nil)))
theorem f130ok (k : Nat) : FnOk Try.prog 130 (f130con (impl_plainPred k)) :=
  let hc := f130hc k
  fnOk (fn := Try.f130) (code := bodyOf Try.f130) (res := [.tmp 4]) hc (by kernel_rfl) (by kernel_rfl) (by decide) (by kernel_rfl) (by kernel_rfl) (by kernel_rfl) (Nat.le_of_ble_eq_true (by kernel_rfl)) _
    (fun x => Snd.exec hc _ _ _ _)
    (fun x => by kernel_rfl)

def f60in : SS := ⟨[(0, (.ro (.list 126 (.st (.cons .str (.cons (.int .i64) (.cons (.int .i64) (.cons (.int .i64) .nil)))))))), (1, (.ro (.list 165 (.st (.cons (.int .i64) (.cons (.int .i64) (.cons (.st (.cons (.int .i64) (.cons .str .nil))) (.cons (.int .i64) (.cons (.int .i64) .nil)))))))))], []⟩
def f60out : SS := ⟨[(0, (.ro .bool))], []⟩
def f60s20 : SS := ⟨[(0, (.ro (.list 126 (.st (.cons .str (.cons (.int .i64) (.cons (.int .i64) (.cons (.int .i64) .nil)))))))), (1, (.ro (.list 165 (.st (.cons (.int .i64) (.cons (.int .i64) (.cons (.st (.cons (.int .i64) (.cons .str .nil))) (.cons (.int .i64) (.cons (.int .i64) .nil))))))))), (5, (.h 100)), (20, (.ro (.list 165 (.st (.cons (.int .i64) (.cons (.int .i64) (.cons (.st (.cons (.int .i64) (.cons .str .nil))) (.cons (.int .i64) (.cons (.int .i64) .nil))))))))), (21, (.ro (.int .i64))), (22, (.ro (.int .i64)))], [(100, (.sl 3 (.int .i64)))]⟩
def f60s5 : SS := ⟨[(0, (.ro (.list 126 (.st (.cons .str (.cons (.int .i64) (.cons (.int .i64) (.cons (.int .i64) .nil)))))))), (1, (.ro (.list 165 (.st (.cons (.int .i64) (.cons (.int .i64) (.cons (.st (.cons (.int .i64) (.cons .str .nil))) (.cons (.int .i64) (.cons (.int .i64) .nil))))))))), (5, (.h 100)), (20, (.ro (.list 165 (.st (.cons (.int .i64) (.cons (.int .i64) (.cons (.st (.cons (.int .i64) (.cons .str .nil))) (.cons (.int .i64) (.cons (.int .i64) .nil))))))))), (21, (.ro (.int .i64))), (22, (.ro (.int .i64)))], [(100, (.sl 3 (.int .i64)))]⟩
def f60con (F : (List TCol) → (List TPred) → Option Bool) : Con := ⟨f60in, f60out, 2, 1, fun x => F x.1 x.2⟩
def f60ctx (k : Nat) : Ctx := ⟨tyAt tys, conAt [(68, [f68con (impl_SchemaOk k)]), (77, [f77con (impl_within k)]), (127, [f127con (impl_isPair k)]), (130, [f130con (impl_plainPred k)])], 105, fun _ => false⟩
theorem f60hc (k : Nat) : CtxOk Try.prog (f60ctx k) := ctxOk tys_ok mixed_ok (consOk_cons (f68ok k) (consOk_cons (f77ok k) (consOk_cons (f127ok k) (consOk_cons (f130ok k) (consOk_nil)))))
theorem f60ok (k : Nat) : FnOk Try.prog 60 (f60con (impl_PredOk k)) :=
  let hc := f60hc k
  fnOk (fn := Try.f60) (code := bodyOf Try.f60) (res := [.tmp 4]) hc (by kernel_rfl) (by kernel_rfl) (by decide) (by kernel_rfl) (by kernel_rfl) (by kernel_rfl) (Nat.le_of_ble_eq_true (by kernel_rfl)) _
    (fun x => Snd.seq (by kernel_rfl) (Snd.seq (by kernel_rfl) (Snd.seq (by kernel_rfl) (Snd.seq (by kernel_rfl) (Snd.exec hc _ _ _ _) (Snd.seq (by kernel_rfl) (Snd.block (id := 0) (by kernel_rfl) (Snd.loop' (by kernel_rfl) f60s5 (fun n x => impl_PredOk.l5 k n x.1.1 x.1.2.1 x.1.2.2.2.1 x.1.2.2.2.2.1 x.1.2.2.2.2.2 x.2) _ (fun _ => rfl) (fun n5 => Snd.seq (by kernel_rfl) (Snd.seq (by kernel_rfl) (Snd.seq (by kernel_rfl) (Snd.cut (Snd.exec hc _ _ _ _) ⟨f60s20, fun x => impl_PredOk.c20 k (impl_PredOk.l5 k n5) x.1.1 x.1.2.1 x.1.2.2.2.1 x.1.2.2.2.2.1 x.1.2.2.2.2.2 x.2⟩ (fun x => by kernel_rfl)) (Snd.exec hc _ _ _ _)) (Snd.exec hc _ _ _ _)) (Snd.exec hc _ _ _ _)) (fun n x => by kernel_rfl) k)) (Snd.exec hc _ _ _ _))) (Snd.exec hc _ _ _ _)) (Snd.exec hc _ _ _ _)) (Snd.exec hc _ _ _ _))
    (fun x => by kernel_rfl)

def f196i7in : SS := ⟨[(0, (.p 0))], [(0, (.box (.st (.cons (.list 126 (.st (.cons .str (.cons (.int .i64) (.cons (.int .i64) (.cons (.int .i64) .nil)))))) (.cons (.list 52 (.st (.cons (.int .i64) (.cons .str .nil)))) (.cons .bool (.cons .ptr (.cons .ptr .nil)))))) (.agg (.cons (.ro (.list 126 (.st (.cons .str (.cons (.int .i64) (.cons (.int .i64) (.cons (.int .i64) .nil))))))) (.cons (.ro (.list 52 (.st (.cons (.int .i64) (.cons .str .nil))))) (.cons (.ro .bool) (.cons (.fn 78 (.cons (.p 10) (.cons (.p 12) (.cons (.p 13) .nil)))) (.cons (.fn 79 .nil) .nil)))))))), (10, (.box (.list 3 (.int .i64)) (.h 11))), (11, (.sl 3 (.int .i64))), (12, (.box (.int .i64) (.ro (.int .i64)))), (13, (.box (.list 52 (.st (.cons (.int .i64) (.cons .str .nil)))) (.h 14))), (14, (.sl 52 (.st (.cons (.int .i64) (.cons .str .nil)))))]⟩
def f196i7out : SS := ⟨[(0, (.agg (.cons (.ro (.int .i64)) (.cons (.ro .str) .nil))))], [(0, (.box (.st (.cons (.list 126 (.st (.cons .str (.cons (.int .i64) (.cons (.int .i64) (.cons (.int .i64) .nil)))))) (.cons (.list 52 (.st (.cons (.int .i64) (.cons .str .nil)))) (.cons .bool (.cons .ptr (.cons .ptr .nil)))))) (.agg (.cons (.ro (.list 126 (.st (.cons .str (.cons (.int .i64) (.cons (.int .i64) (.cons (.int .i64) .nil))))))) (.cons (.ro (.list 52 (.st (.cons (.int .i64) (.cons .str .nil))))) (.cons (.ro .bool) (.cons (.fn 78 (.cons (.p 10) (.cons (.p 12) (.cons (.p 13) .nil)))) (.cons (.fn 79 .nil) .nil)))))))), (10, (.box (.list 3 (.int .i64)) (.h 11))), (11, (.sl 3 (.int .i64))), (12, (.box (.int .i64) (.ro (.int .i64)))), (13, (.box (.list 52 (.st (.cons (.int .i64) (.cons .str .nil)))) (.h 14))), (14, (.sl 52 (.st (.cons (.int .i64) (.cons .str .nil)))))]⟩
def f196i7con (F : TWalkerB → Unit → (List Int) → Int → Unit → (List TVal) → Option ((TVal) × TWalkerB × Unit × (List Int) × Int × Unit × (List TVal))) : Con := ⟨f196i7in, f196i7out, 1, 1, fun x => F x.2.1 x.2.2.1 x.2.2.2.1 x.2.2.2.2.1 x.2.2.2.2.2.1 x.2.2.2.2.2.2⟩
def f196i7ctx (k : Nat) : Ctx := ⟨tyAt tys, conAt [], 35, fun _ => false⟩
theorem f196i7hc (k : Nat) : CtxOk Try.prog (f196i7ctx k) := ctxOk tys_ok mixed_ok (consOk_nil)
theorem f196i7ok (k : Nat) : FnOk Try.prog 196 (f196i7con (impl_walker_next_of_RecValues_1_RecValues_2 k)) :=
  let hc := f196i7hc k
  fnOk (fn := Try.f196) (code := bodyOf Try.f196) (res := [.cell 2 52]) hc (by kernel_rfl) (by kernel_rfl) (by decide) (by kernel_rfl) (by kernel_rfl) (by kernel_rfl) (Nat.le_of_ble_eq_true (by kernel_rfl)) _
    (fun x => Snd.exec hc _ _ _ _)
    (fun x => by kernel_rfl)

def f225i10in : SS := ⟨[(0, (.p 0)), (1, (.ro (.int .i64)))], [(0, (.box (.st (.cons (.list 126 (.st (.cons .str (.cons (.int .i64) (.cons (.int .i64) (.cons (.int .i64) .nil)))))) (.cons (.list 52 (.st (.cons (.int .i64) (.cons .str .nil)))) (.cons .bool (.cons .ptr (.cons .ptr .nil)))))) (.agg (.cons (.ro (.list 126 (.st (.cons .str (.cons (.int .i64) (.cons (.int .i64) (.cons (.int .i64) .nil))))))) (.cons (.ro (.list 52 (.st (.cons (.int .i64) (.cons .str .nil))))) (.cons (.ro .bool) (.cons (.fn 78 (.cons (.p 10) (.cons (.p 12) (.cons (.p 13) .nil)))) (.cons (.fn 79 .nil) .nil)))))))), (10, (.box (.list 3 (.int .i64)) (.h 11))), (11, (.sl 3 (.int .i64))), (12, (.box (.int .i64) (.ro (.int .i64)))), (13, (.box (.list 52 (.st (.cons (.int .i64) (.cons .str .nil)))) (.h 14))), (14, (.sl 52 (.st (.cons (.int .i64) (.cons .str .nil)))))]⟩
def f225i10out : SS := ⟨[(0, (.ro (.int .i64)))], [(0, (.box (.st (.cons (.list 126 (.st (.cons .str (.cons (.int .i64) (.cons (.int .i64) (.cons (.int .i64) .nil)))))) (.cons (.list 52 (.st (.cons (.int .i64) (.cons .str .nil)))) (.cons .bool (.cons .ptr (.cons .ptr .nil)))))) (.agg (.cons (.ro (.list 126 (.st (.cons .str (.cons (.int .i64) (.cons (.int .i64) (.cons (.int .i64) .nil))))))) (.cons (.ro (.list 52 (.st (.cons (.int .i64) (.cons .str .nil))))) (.cons (.ro .bool) (.cons (.fn 78 (.cons (.p 10) (.cons (.p 12) (.cons (.p 13) .nil)))) (.cons (.fn 79 .nil) .nil)))))))), (10, (.box (.list 3 (.int .i64)) (.h 11))), (11, (.sl 3 (.int .i64))), (12, (.box (.int .i64) (.ro (.int .i64)))), (13, (.box (.list 52 (.st (.cons (.int .i64) (.cons .str .nil)))) (.h 14))), (14, (.sl 52 (.st (.cons (.int .i64) (.cons .str .nil)))))]⟩
def f225i10con (F : Int → TWalkerB → Unit → (List Int) → Int → Unit → (List TVal) → Option (Int × TWalkerB × Unit × (List Int) × Int × Unit × (List TVal))) : Con := ⟨f225i10in, f225i10out, 2, 1, fun x => F x.1.2 x.2.1 x.2.2.1 x.2.2.2.1 x.2.2.2.2.1 x.2.2.2.2.2.1 x.2.2.2.2.2.2⟩
def f225i10ctx (k : Nat) : Ctx := ⟨tyAt tys, conAt [(77, [f77con (impl_within k)]), (196, [f196i7con (impl_walker_next_of_RecValues_1_RecValues_2 k)])], 23, fun _ => false⟩
theorem f225i10hc (k : Nat) : CtxOk Try.prog (f225i10ctx k) := ctxOk tys_ok mixed_ok (consOk_cons (f77ok k) (consOk_cons (f196i7ok k) (consOk_nil)))
theorem f225i10ok (k : Nat) : FnOk Try.prog 225 (f225i10con (impl_walker_count_of_RecValues_1_RecValues_2 k)) :=
  let hc := f225i10hc k
  fnOk (fn := Try.f225) (code := bodyOf Try.f225) (res := [.tmp 4]) hc (by kernel_rfl) (by kernel_rfl) (by decide) (by kernel_rfl) (by kernel_rfl) (by kernel_rfl) (Nat.le_of_ble_eq_true (by kernel_rfl)) _
    (fun x => Snd.exec hc _ _ _ _)
    (fun x => by kernel_rfl)

def f79in : SS := ⟨[(0, (.ro (.int .i64))), (1, (.ro (.int .i64))), (2, (.ro (.int .i64)))], []⟩
def f79out : SS := ⟨[], []⟩
def f79con (F : Int → Int → Int → Option Unit) : Con := ⟨f79in, f79out, 3, 0, fun x => F x.1 x.2.1 x.2.2⟩
def f79ctx (k : Nat) : Ctx := ⟨tyAt tys, conAt [], 6, fun _ => false⟩
theorem f79hc (k : Nat) : CtxOk Try.prog (f79ctx k) := ctxOk tys_ok mixed_ok (consOk_nil)
theorem f79ok (k : Nat) : FnOk Try.prog 79 (f79con (impl_RecValues_2 k)) :=
  let hc := f79hc k
  fnOk (fn := Try.f79) (code := bodyOf Try.f79) (res := []) hc (by kernel_rfl) (by kernel_rfl) (by decide) (by kernel_rfl) (by kernel_rfl) (by kernel_rfl) (Nat.le_of_ble_eq_true (by kernel_rfl)) _
    (fun x => Snd.exec hc _ _ _ _)
    (fun x => by kernel_rfl)

def f226i13in : SS := ⟨[(0, (.p 0)), (1, (.ro (.int .i64))), (2, (.ro (.int .i64))), (3, (.ro (.int .i64)))], [(0, (.box (.st (.cons (.list 126 (.st (.cons .str (.cons (.int .i64) (.cons (.int .i64) (.cons (.int .i64) .nil)))))) (.cons (.list 52 (.st (.cons (.int .i64) (.cons .str .nil)))) (.cons .bool (.cons .ptr (.cons .ptr .nil)))))) (.agg (.cons (.ro (.list 126 (.st (.cons .str (.cons (.int .i64) (.cons (.int .i64) (.cons (.int .i64) .nil))))))) (.cons (.ro (.list 52 (.st (.cons (.int .i64) (.cons .str .nil))))) (.cons (.ro .bool) (.cons (.fn 78 (.cons (.p 10) (.cons (.p 12) (.cons (.p 13) .nil)))) (.cons (.fn 79 .nil) .nil)))))))), (10, (.box (.list 3 (.int .i64)) (.h 11))), (11, (.sl 3 (.int .i64))), (12, (.box (.int .i64) (.ro (.int .i64)))), (13, (.box (.list 52 (.st (.cons (.int .i64) (.cons .str .nil)))) (.h 14))), (14, (.sl 52 (.st (.cons (.int .i64) (.cons .str .nil)))))]⟩
def f226i13out : SS := ⟨[(0, (.ro (.int .i64)))], [(0, (.box (.st (.cons (.list 126 (.st (.cons .str (.cons (.int .i64) (.cons (.int .i64) (.cons (.int .i64) .nil)))))) (.cons (.list 52 (.st (.cons (.int .i64) (.cons .str .nil)))) (.cons .bool (.cons .ptr (.cons .ptr .nil)))))) (.agg (.cons (.ro (.list 126 (.st (.cons .str (.cons (.int .i64) (.cons (.int .i64) (.cons (.int .i64) .nil))))))) (.cons (.ro (.list 52 (.st (.cons (.int .i64) (.cons .str .nil))))) (.cons (.ro .bool) (.cons (.fn 78 (.cons (.p 10) (.cons (.p 12) (.cons (.p 13) .nil)))) (.cons (.fn 79 .nil) .nil)))))))), (10, (.box (.list 3 (.int .i64)) (.h 11))), (11, (.sl 3 (.int .i64))), (12, (.box (.int .i64) (.ro (.int .i64)))), (13, (.box (.list 52 (.st (.cons (.int .i64) (.cons .str .nil)))) (.h 14))), (14, (.sl 52 (.st (.cons (.int .i64) (.cons .str .nil)))))]⟩
def f226i13s4 : SS := ⟨[(0, (.p 0)), (2, (.ro (.int .i64))), (3, (.ro (.int .i64))), (9, (.ro (.int .i64))), (10, (.ro (.int .i64)))], [(0, (.box (.st (.cons (.list 126 (.st (.cons .str (.cons (.int .i64) (.cons (.int .i64) (.cons (.int .i64) .nil)))))) (.cons (.list 52 (.st (.cons (.int .i64) (.cons .str .nil)))) (.cons .bool (.cons .ptr (.cons .ptr .nil)))))) (.agg (.cons (.ro (.list 126 (.st (.cons .str (.cons (.int .i64) (.cons (.int .i64) (.cons (.int .i64) .nil))))))) (.cons (.ro (.list 52 (.st (.cons (.int .i64) (.cons .str .nil))))) (.cons (.ro .bool) (.cons (.fn 78 (.cons (.p 10) (.cons (.p 12) (.cons (.p 13) .nil)))) (.cons (.fn 79 .nil) .nil)))))))), (10, (.box (.list 3 (.int .i64)) (.h 11))), (11, (.sl 3 (.int .i64))), (12, (.box (.int .i64) (.ro (.int .i64)))), (13, (.box (.list 52 (.st (.cons (.int .i64) (.cons .str .nil)))) (.h 14))), (14, (.sl 52 (.st (.cons (.int .i64) (.cons .str .nil)))))]⟩
def f226i13s3 : SS := ⟨[(0, (.p 0)), (2, (.ro (.int .i64))), (3, (.ro (.int .i64))), (9, (.ro (.int .i64))), (10, (.ro (.int .i64)))], [(0, (.box (.st (.cons (.list 126 (.st (.cons .str (.cons (.int .i64) (.cons (.int .i64) (.cons (.int .i64) .nil)))))) (.cons (.list 52 (.st (.cons (.int .i64) (.cons .str .nil)))) (.cons .bool (.cons .ptr (.cons .ptr .nil)))))) (.agg (.cons (.ro (.list 126 (.st (.cons .str (.cons (.int .i64) (.cons (.int .i64) (.cons (.int .i64) .nil))))))) (.cons (.ro (.list 52 (.st (.cons (.int .i64) (.cons .str .nil))))) (.cons (.ro .bool) (.cons (.fn 78 (.cons (.p 10) (.cons (.p 12) (.cons (.p 13) .nil)))) (.cons (.fn 79 .nil) .nil)))))))), (10, (.box (.list 3 (.int .i64)) (.h 11))), (11, (.sl 3 (.int .i64))), (12, (.box (.int .i64) (.ro (.int .i64)))), (13, (.box (.list 52 (.st (.cons (.int .i64) (.cons .str .nil)))) (.h 14))), (14, (.sl 52 (.st (.cons (.int .i64) (.cons .str .nil)))))]⟩
def f226i13con (F : Int → Int → Int → TWalkerB → Unit → (List Int) → Int → Unit → (List TVal) → Option (Int × TWalkerB × Unit × (List Int) × Int × Unit × (List TVal))) : Con := ⟨f226i13in, f226i13out, 4, 1, fun x => F x.1.2.1 x.1.2.2.1 x.1.2.2.2 x.2.1 x.2.2.1 x.2.2.2.1 x.2.2.2.2.1 x.2.2.2.2.2.1 x.2.2.2.2.2.2⟩
def f226i13ctx (k : Nat) : Ctx := ⟨tyAt tys, conAt [(79, [f79con (impl_RecValues_2 k)]), (140, [f140con (impl_colAfter k)])], 41, fun _ => false⟩
theorem f226i13hc (k : Nat) : CtxOk Try.prog (f226i13ctx k) := ctxOk tys_ok mixed_ok (consOk_cons (f79ok k) (consOk_cons (f140ok k) (consOk_nil)))
theorem f226i13ok (k : Nat) : FnOk Try.prog 226 (f226i13con (impl_walker_missing_of_RecValues_1_RecValues_2 k)) :=
  let hc := f226i13hc k
  fnOk (fn := Try.f226) (code := bodyOf Try.f226) (res := [.tmp 8]) hc (by kernel_rfl) (by kernel_rfl) (by decide) (by kernel_rfl) (by kernel_rfl) (by kernel_rfl) (Nat.le_of_ble_eq_true (by kernel_rfl)) _
    (fun x => Snd.seq (by kernel_rfl) (Snd.seq (by kernel_rfl) (Snd.seq (by kernel_rfl) (Snd.exec hc _ _ _ _) (Snd.seq (by kernel_rfl) (Snd.block (id := 0) (by kernel_rfl) (Snd.loop' (by kernel_rfl) f226i13s3 (fun n x => impl_walker_missing_of_RecValues_1_RecValues_2.l3 k n x.1.2.1 x.1.2.2.1 x.1.2.2.2.1 x.1.2.2.2.2 x.2.1 x.2.2.1 x.2.2.2.1 x.2.2.2.2.1 x.2.2.2.2.2.1 x.2.2.2.2.2.2) _ (fun _ => rfl) (fun n3 => Snd.seq (by kernel_rfl) (Snd.seq (by kernel_rfl) (Snd.cut (Snd.exec hc _ _ _ _) ⟨f226i13s4, fun x => impl_walker_missing_of_RecValues_1_RecValues_2.c4 k (impl_walker_missing_of_RecValues_1_RecValues_2.l3 k n3) x.1.2.1 x.1.2.2.1 x.1.2.2.2.1 x.1.2.2.2.2 x.2.1 x.2.2.1 x.2.2.2.1 x.2.2.2.2.1 x.2.2.2.2.2.1 x.2.2.2.2.2.2⟩ (fun x => by kernel_rfl)) (Snd.exec hc _ _ _ _)) (Snd.exec hc _ _ _ _)) (fun n x => by kernel_rfl) k)) (Snd.exec hc _ _ _ _))) (Snd.exec hc _ _ _ _)) (Snd.exec hc _ _ _ _))
    (fun x => by kernel_rfl)

def f78i11in : SS := ⟨[(0, (.ro (.int .i64))), (1, (.ro (.int .i64))), (2, (.ro (.int .i64))), (3, (.ro (.st (.cons (.int .i64) (.cons .str .nil))))), (4, (.p 4)), (5, (.p 5)), (6, (.p 6))], [(4, (.box (.list 3 (.int .i64)) (.h 10))), (5, (.box (.int .i64) (.ro (.int .i64)))), (6, (.box (.list 52 (.st (.cons (.int .i64) (.cons .str .nil)))) (.h 11))), (10, (.sl 3 (.int .i64))), (11, (.sl 52 (.st (.cons (.int .i64) (.cons .str .nil)))))]⟩
def f78i11out : SS := ⟨[], [(4, (.box (.list 3 (.int .i64)) (.h 10))), (5, (.box (.int .i64) (.ro (.int .i64)))), (6, (.box (.list 52 (.st (.cons (.int .i64) (.cons .str .nil)))) (.h 100))), (10, (.sl 3 (.int .i64))), (100, (.sl 52 (.st (.cons (.int .i64) (.cons .str .nil)))))]⟩
def f78i11con (F : Int → Int → Int → TVal → Unit → Int → Unit → (List Int) → (List TVal) → Option (Unit × Unit × Int × Unit × (List Int) × (List TVal))) : Con := ⟨f78i11in, f78i11out, 7, 0, fun x => F x.1.1 x.1.2.1 x.1.2.2.1 x.1.2.2.2.1 x.2.1 x.2.2.1 x.2.2.2.1 x.2.2.2.2.1 x.2.2.2.2.2⟩
def f78i11ctx (k : Nat) : Ctx := ⟨tyAt tys, conAt [], 21, fun _ => false⟩
theorem f78i11hc (k : Nat) : CtxOk Try.prog (f78i11ctx k) := ctxOk tys_ok mixed_ok (consOk_nil)
theorem f78i11ok (k : Nat) : FnOk Try.prog 78 (f78i11con (impl_RecValues_1 k)) :=
  let hc := f78i11hc k
  fnOk (fn := Try.f78) (code := bodyOf Try.f78) (res := []) hc (by kernel_rfl) (by kernel_rfl) (by decide) (by kernel_rfl) (by kernel_rfl) (by kernel_rfl) (Nat.le_of_ble_eq_true (by kernel_rfl)) _
    (fun x => Snd.exec hc _ _ _ _)
    (fun x => by kernel_rfl)

def f141i4in : SS := ⟨[(0, (.p 0)), (1, (.ro (.int .i64))), (2, (.ro (.int .i64))), (3, (.ro (.int .i64))), (4, (.ro (.int .i64)))], [(0, (.box (.st (.cons (.list 126 (.st (.cons .str (.cons (.int .i64) (.cons (.int .i64) (.cons (.int .i64) .nil)))))) (.cons (.list 52 (.st (.cons (.int .i64) (.cons .str .nil)))) (.cons .bool (.cons .ptr (.cons .ptr .nil)))))) (.agg (.cons (.ro (.list 126 (.st (.cons .str (.cons (.int .i64) (.cons (.int .i64) (.cons (.int .i64) .nil))))))) (.cons (.ro (.list 52 (.st (.cons (.int .i64) (.cons .str .nil))))) (.cons (.ro .bool) (.cons (.fn 78 (.cons (.p 10) (.cons (.p 12) (.cons (.p 13) .nil)))) (.cons (.fn 79 .nil) .nil)))))))), (10, (.box (.list 3 (.int .i64)) (.h 11))), (11, (.sl 3 (.int .i64))), (12, (.box (.int .i64) (.ro (.int .i64)))), (13, (.box (.list 52 (.st (.cons (.int .i64) (.cons .str .nil)))) (.h 14))), (14, (.sl 52 (.st (.cons (.int .i64) (.cons .str .nil)))))]⟩
def f141i4out : SS := ⟨[(0, (.ro (.int .i64)))], [(0, (.box (.st (.cons (.list 126 (.st (.cons .str (.cons (.int .i64) (.cons (.int .i64) (.cons (.int .i64) .nil)))))) (.cons (.list 52 (.st (.cons (.int .i64) (.cons .str .nil)))) (.cons .bool (.cons .ptr (.cons .ptr .nil)))))) (.agg (.cons (.ro (.list 126 (.st (.cons .str (.cons (.int .i64) (.cons (.int .i64) (.cons (.int .i64) .nil))))))) (.cons (.ro (.list 52 (.st (.cons (.int .i64) (.cons .str .nil))))) (.cons (.ro .bool) (.cons (.fn 78 (.cons (.p 10) (.cons (.p 12) (.cons (.p 13) .nil)))) (.cons (.fn 79 .nil) .nil)))))))), (10, (.box (.list 3 (.int .i64)) (.h 11))), (11, (.sl 3 (.int .i64))), (12, (.box (.int .i64) (.ro (.int .i64)))), (13, (.box (.list 52 (.st (.cons (.int .i64) (.cons .str .nil)))) (.h 100))), (100, (.sl 52 (.st (.cons (.int .i64) (.cons .str .nil)))))]⟩
def f141i4s14 : SS := ⟨[(12, (.ro (.int .i64)))], [(0, (.box (.st (.cons (.list 126 (.st (.cons .str (.cons (.int .i64) (.cons (.int .i64) (.cons (.int .i64) .nil)))))) (.cons (.list 52 (.st (.cons (.int .i64) (.cons .str .nil)))) (.cons .bool (.cons .ptr (.cons .ptr .nil)))))) (.agg (.cons (.ro (.list 126 (.st (.cons .str (.cons (.int .i64) (.cons (.int .i64) (.cons (.int .i64) .nil))))))) (.cons (.ro (.list 52 (.st (.cons (.int .i64) (.cons .str .nil))))) (.cons (.ro .bool) (.cons (.fn 78 (.cons (.p 10) (.cons (.p 12) (.cons (.p 13) .nil)))) (.cons (.fn 79 .nil) .nil)))))))), (10, (.box (.list 3 (.int .i64)) (.h 11))), (11, (.sl 3 (.int .i64))), (12, (.box (.int .i64) (.ro (.int .i64)))), (13, (.box (.list 52 (.st (.cons (.int .i64) (.cons .str .nil)))) (.h 100))), (100, (.sl 52 (.st (.cons (.int .i64) (.cons .str .nil)))))]⟩
def f141i4s10 : SS := ⟨[(0, (.p 0)), (2, (.ro (.int .i64))), (3, (.ro (.int .i64))), (4, (.ro (.int .i64))), (12, (.ro (.int .i64))), (70, (.ro (.int .i64))), (71, (.ro (.int .i64)))], [(0, (.box (.st (.cons (.list 126 (.st (.cons .str (.cons (.int .i64) (.cons (.int .i64) (.cons (.int .i64) .nil)))))) (.cons (.list 52 (.st (.cons (.int .i64) (.cons .str .nil)))) (.cons .bool (.cons .ptr (.cons .ptr .nil)))))) (.agg (.cons (.ro (.list 126 (.st (.cons .str (.cons (.int .i64) (.cons (.int .i64) (.cons (.int .i64) .nil))))))) (.cons (.ro (.list 52 (.st (.cons (.int .i64) (.cons .str .nil))))) (.cons (.ro .bool) (.cons (.fn 78 (.cons (.p 10) (.cons (.p 12) (.cons (.p 13) .nil)))) (.cons (.fn 79 .nil) .nil)))))))), (10, (.box (.list 3 (.int .i64)) (.h 11))), (11, (.sl 3 (.int .i64))), (12, (.box (.int .i64) (.ro (.int .i64)))), (13, (.box (.list 52 (.st (.cons (.int .i64) (.cons .str .nil)))) (.h 100))), (100, (.sl 52 (.st (.cons (.int .i64) (.cons .str .nil)))))]⟩
def f141i4s7 : SS := ⟨[(1, (.ro (.int .i64)))], [(0, (.box (.st (.cons (.list 126 (.st (.cons .str (.cons (.int .i64) (.cons (.int .i64) (.cons (.int .i64) .nil)))))) (.cons (.list 52 (.st (.cons (.int .i64) (.cons .str .nil)))) (.cons .bool (.cons .ptr (.cons .ptr .nil)))))) (.agg (.cons (.ro (.list 126 (.st (.cons .str (.cons (.int .i64) (.cons (.int .i64) (.cons (.int .i64) .nil))))))) (.cons (.ro (.list 52 (.st (.cons (.int .i64) (.cons .str .nil))))) (.cons (.ro .bool) (.cons (.fn 78 (.cons (.p 10) (.cons (.p 12) (.cons (.p 13) .nil)))) (.cons (.fn 79 .nil) .nil)))))))), (10, (.box (.list 3 (.int .i64)) (.h 11))), (11, (.sl 3 (.int .i64))), (12, (.box (.int .i64) (.ro (.int .i64)))), (13, (.box (.list 52 (.st (.cons (.int .i64) (.cons .str .nil)))) (.h 100))), (100, (.sl 52 (.st (.cons (.int .i64) (.cons .str .nil)))))]⟩
def f141i4s5 : SS := ⟨[(0, (.p 0)), (1, (.ro (.int .i64))), (2, (.ro (.int .i64))), (3, (.ro (.int .i64))), (11, (.p 100))], [(0, (.box (.st (.cons (.list 126 (.st (.cons .str (.cons (.int .i64) (.cons (.int .i64) (.cons (.int .i64) .nil)))))) (.cons (.list 52 (.st (.cons (.int .i64) (.cons .str .nil)))) (.cons .bool (.cons .ptr (.cons .ptr .nil)))))) (.agg (.cons (.ro (.list 126 (.st (.cons .str (.cons (.int .i64) (.cons (.int .i64) (.cons (.int .i64) .nil))))))) (.cons (.ro (.list 52 (.st (.cons (.int .i64) (.cons .str .nil))))) (.cons (.ro .bool) (.cons (.fn 78 (.cons (.p 10) (.cons (.p 12) (.cons (.p 13) .nil)))) (.cons (.fn 79 .nil) .nil)))))))), (10, (.box (.list 3 (.int .i64)) (.h 11))), (11, (.sl 3 (.int .i64))), (12, (.box (.int .i64) (.ro (.int .i64)))), (13, (.box (.list 52 (.st (.cons (.int .i64) (.cons .str .nil)))) (.h 14))), (14, (.sl 52 (.st (.cons (.int .i64) (.cons .str .nil))))), (100, (.box (.st (.cons (.int .i64) (.cons .str .nil))) (.agg (.cons (.ro (.int .i64)) (.cons (.ro .str) .nil)))))]⟩
def f141i4d3 : SS := ⟨[(0, (.p 0)), (1, (.ro (.int .i64))), (2, (.ro (.int .i64))), (3, (.ro (.int .i64))), (11, (.p 100))], [(0, (.box (.st (.cons (.list 126 (.st (.cons .str (.cons (.int .i64) (.cons (.int .i64) (.cons (.int .i64) .nil)))))) (.cons (.list 52 (.st (.cons (.int .i64) (.cons .str .nil)))) (.cons .bool (.cons .ptr (.cons .ptr .nil)))))) (.agg (.cons (.ro (.list 126 (.st (.cons .str (.cons (.int .i64) (.cons (.int .i64) (.cons (.int .i64) .nil))))))) (.cons (.ro (.list 52 (.st (.cons (.int .i64) (.cons .str .nil))))) (.cons (.ro .bool) (.cons (.fn 78 (.cons (.p 10) (.cons (.p 12) (.cons (.p 13) .nil)))) (.cons (.fn 79 .nil) .nil)))))))), (10, (.box (.list 3 (.int .i64)) (.h 11))), (11, (.sl 3 (.int .i64))), (12, (.box (.int .i64) (.ro (.int .i64)))), (13, (.box (.list 52 (.st (.cons (.int .i64) (.cons .str .nil)))) (.h 14))), (14, (.sl 52 (.st (.cons (.int .i64) (.cons .str .nil))))), (100, (.box (.st (.cons (.int .i64) (.cons .str .nil))) (.agg (.cons (.ro (.int .i64)) (.cons (.ro .str) .nil)))))]⟩
def f141i4con (F : Int → Int → Int → Int → TWalkerB → Unit → (List Int) → Int → Unit → (List TVal) → Option (Int × TWalkerB × Unit × (List Int) × Int × Unit × (List TVal))) : Con := ⟨f141i4in, f141i4out, 5, 1, fun x => F x.1.2.1 x.1.2.2.1 x.1.2.2.2.1 x.1.2.2.2.2 x.2.1 x.2.2.1 x.2.2.2.1 x.2.2.2.2.1 x.2.2.2.2.2.1 x.2.2.2.2.2.2⟩
def f197i8in : SS := ⟨[(0, (.p 0)), (1, (.ro (.int .i64))), (2, (.ro (.int .i64))), (3, (.ro (.int .i64))), (4, (.ro (.int .i64)))], [(0, (.box (.st (.cons (.list 126 (.st (.cons .str (.cons (.int .i64) (.cons (.int .i64) (.cons (.int .i64) .nil)))))) (.cons (.list 52 (.st (.cons (.int .i64) (.cons .str .nil)))) (.cons .bool (.cons .ptr (.cons .ptr .nil)))))) (.agg (.cons (.ro (.list 126 (.st (.cons .str (.cons (.int .i64) (.cons (.int .i64) (.cons (.int .i64) .nil))))))) (.cons (.ro (.list 52 (.st (.cons (.int .i64) (.cons .str .nil))))) (.cons (.ro .bool) (.cons (.fn 78 (.cons (.p 10) (.cons (.p 12) (.cons (.p 13) .nil)))) (.cons (.fn 79 .nil) .nil)))))))), (10, (.box (.list 3 (.int .i64)) (.h 11))), (11, (.sl 3 (.int .i64))), (12, (.box (.int .i64) (.ro (.int .i64)))), (13, (.box (.list 52 (.st (.cons (.int .i64) (.cons .str .nil)))) (.h 14))), (14, (.sl 52 (.st (.cons (.int .i64) (.cons .str .nil)))))]⟩
def f197i8out : SS := ⟨[(0, (.ro (.int .i64)))], [(0, (.box (.st (.cons (.list 126 (.st (.cons .str (.cons (.int .i64) (.cons (.int .i64) (.cons (.int .i64) .nil)))))) (.cons (.list 52 (.st (.cons (.int .i64) (.cons .str .nil)))) (.cons .bool (.cons .ptr (.cons .ptr .nil)))))) (.agg (.cons (.ro (.list 126 (.st (.cons .str (.cons (.int .i64) (.cons (.int .i64) (.cons (.int .i64) .nil))))))) (.cons (.ro (.list 52 (.st (.cons (.int .i64) (.cons .str .nil))))) (.cons (.ro .bool) (.cons (.fn 78 (.cons (.p 10) (.cons (.p 12) (.cons (.p 13) .nil)))) (.cons (.fn 79 .nil) .nil)))))))), (10, (.box (.list 3 (.int .i64)) (.h 11))), (11, (.sl 3 (.int .i64))), (12, (.box (.int .i64) (.ro (.int .i64)))), (13, (.box (.list 52 (.st (.cons (.int .i64) (.cons .str .nil)))) (.h 100))), (100, (.sl 52 (.st (.cons (.int .i64) (.cons .str .nil)))))]⟩
def f197i8s18 : SS := ⟨[(0, (.p 0)), (1, (.ro (.int .i64))), (2, (.ro (.int .i64))), (3, (.ro (.int .i64))), (4, (.ro (.int .i64)))], [(0, (.box (.st (.cons (.list 126 (.st (.cons .str (.cons (.int .i64) (.cons (.int .i64) (.cons (.int .i64) .nil)))))) (.cons (.list 52 (.st (.cons (.int .i64) (.cons .str .nil)))) (.cons .bool (.cons .ptr (.cons .ptr .nil)))))) (.agg (.cons (.ro (.list 126 (.st (.cons .str (.cons (.int .i64) (.cons (.int .i64) (.cons (.int .i64) .nil))))))) (.cons (.ro (.list 52 (.st (.cons (.int .i64) (.cons .str .nil))))) (.cons (.ro .bool) (.cons (.fn 78 (.cons (.p 10) (.cons (.p 12) (.cons (.p 13) .nil)))) (.cons (.fn 79 .nil) .nil)))))))), (10, (.box (.list 3 (.int .i64)) (.h 11))), (11, (.sl 3 (.int .i64))), (12, (.box (.int .i64) (.ro (.int .i64)))), (13, (.box (.list 52 (.st (.cons (.int .i64) (.cons .str .nil)))) (.h 14))), (14, (.sl 52 (.st (.cons (.int .i64) (.cons .str .nil)))))]⟩
def f197i8s14 : SS := ⟨[(0, (.p 0)), (1, (.ro (.int .i64))), (3, (.ro (.int .i64))), (4, (.ro (.int .i64))), (12, (.ro (.int .i64))), (13, (.ro (.int .i64)))], [(0, (.box (.st (.cons (.list 126 (.st (.cons .str (.cons (.int .i64) (.cons (.int .i64) (.cons (.int .i64) .nil)))))) (.cons (.list 52 (.st (.cons (.int .i64) (.cons .str .nil)))) (.cons .bool (.cons .ptr (.cons .ptr .nil)))))) (.agg (.cons (.ro (.list 126 (.st (.cons .str (.cons (.int .i64) (.cons (.int .i64) (.cons (.int .i64) .nil))))))) (.cons (.ro (.list 52 (.st (.cons (.int .i64) (.cons .str .nil))))) (.cons (.ro .bool) (.cons (.fn 78 (.cons (.p 10) (.cons (.p 12) (.cons (.p 13) .nil)))) (.cons (.fn 79 .nil) .nil)))))))), (10, (.box (.list 3 (.int .i64)) (.h 11))), (11, (.sl 3 (.int .i64))), (12, (.box (.int .i64) (.ro (.int .i64)))), (13, (.box (.list 52 (.st (.cons (.int .i64) (.cons .str .nil)))) (.h 100))), (100, (.sl 52 (.st (.cons (.int .i64) (.cons .str .nil)))))]⟩
def f197i8con (F : Int → Int → Int → Int → TWalkerB → Unit → (List Int) → Int → Unit → (List TVal) → Option (Int × TWalkerB × Unit × (List Int) × Int × Unit × (List TVal))) : Con := ⟨f197i8in, f197i8out, 5, 1, fun x => F x.1.2.1 x.1.2.2.1 x.1.2.2.2.1 x.1.2.2.2.2 x.2.1 x.2.2.1 x.2.2.2.1 x.2.2.2.2.1 x.2.2.2.2.2.1 x.2.2.2.2.2.2⟩
def f141i4ctx (k : Nat) (S141i4 : Int → Int → Int → Int → TWalkerB → Unit → (List Int) → Int → Unit → (List TVal) → Option (Int × TWalkerB × Unit × (List Int) × Int × Unit × (List TVal))) (S197i8 : Int → Int → Int → Int → TWalkerB → Unit → (List Int) → Int → Unit → (List TVal) → Option (Int × TWalkerB × Unit × (List Int) × Int × Unit × (List TVal))) : Ctx := ⟨tyAt tys, conAt [(78, [f78i11con (impl_RecValues_1 k)]), (187, [f187con (impl_ValOk k)]), (196, [f196i7con (impl_walker_next_of_RecValues_1_RecValues_2 k)]), (197, [f197i8con S197i8])], 85, fun _ => false⟩
theorem f141i4hc (k : Nat) (S141i4 : Int → Int → Int → Int → TWalkerB → Unit → (List Int) → Int → Unit → (List TVal) → Option (Int × TWalkerB × Unit × (List Int) × Int × Unit × (List TVal))) (S197i8 : Int → Int → Int → Int → TWalkerB → Unit → (List Int) → Int → Unit → (List TVal) → Option (Int × TWalkerB × Unit × (List Int) × Int × Unit × (List TVal))) (h141i4 : FnOk Try.prog 141 (f141i4con S141i4)) (h197i8 : FnOk Try.prog 197 (f197i8con S197i8)) : CtxOk Try.prog (f141i4ctx k S141i4 S197i8) := ctxOk tys_ok mixed_ok (consOk_cons (f78i11ok k) (consOk_cons (f187ok k) (consOk_cons (f196i7ok k) (consOk_cons (h197i8) (consOk_nil)))))
theorem f141i4okb (k : Nat) (S141i4 : Int → Int → Int → Int → TWalkerB → Unit → (List Int) → Int → Unit → (List TVal) → Option (Int × TWalkerB × Unit × (List Int) × Int × Unit × (List TVal))) (S197i8 : Int → Int → Int → Int → TWalkerB → Unit → (List Int) → Int → Unit → (List TVal) → Option (Int × TWalkerB × Unit × (List Int) × Int × Unit × (List TVal))) (h141i4 : FnOk Try.prog 141 (f141i4con S141i4)) (h197i8 : FnOk Try.prog 197 (f197i8con S197i8)) : FnOk Try.prog 141 (f141i4con (impl_walker_body_of_RecValues_1_RecValues_2.b k S141i4 S197i8)) :=
  let hc := f141i4hc k S141i4 S197i8 h141i4 h197i8
  fnOk (fn := Try.f141) (code := bodyOf Try.f141) (res := [.tmp 10]) hc (by kernel_rfl) (by kernel_rfl) (by decide) (by kernel_rfl) (by kernel_rfl) (by kernel_rfl) (Nat.le_of_ble_eq_true (by kernel_rfl)) _
    (fun x => Snd.seq (by kernel_rfl) (Snd.seq (by kernel_rfl) (Snd.seq (by kernel_rfl) (Snd.seq (by kernel_rfl) (Snd.cut (Snd.exec hc _ _ _ _) ⟨f141i4s14, fun x => impl_walker_body_of_RecValues_1_RecValues_2.c14 k x.1 x.2.1 x.2.2.1 x.2.2.2.1 x.2.2.2.2.1 x.2.2.2.2.2.1 x.2.2.2.2.2.2⟩ (fun x => by kernel_rfl)) (Snd.seq (by kernel_rfl) (Snd.block (id := 0) (by kernel_rfl) (Snd.loop' (by kernel_rfl) f141i4s10 (fun n x => impl_walker_body_of_RecValues_1_RecValues_2.l10 k S197i8 n x.1.2.1 x.1.2.2.1 x.1.2.2.2.1 x.1.2.2.2.2.1 x.1.2.2.2.2.2.1 x.1.2.2.2.2.2.2 x.2.1 x.2.2.1 x.2.2.2.1 x.2.2.2.2.1 x.2.2.2.2.2.1 x.2.2.2.2.2.2) _ (fun _ => rfl) (fun n10 => Snd.exec hc _ _ _ _) (fun n x => by kernel_rfl) k)) (Snd.exec hc _ _ _ _))) (Snd.exec hc _ _ _ _)) (Snd.seq (by kernel_rfl) (Snd.cond (x := .tmp 21) (by kernel_rfl) (Snd.seq (by kernel_rfl) (Snd.seq (by kernel_rfl) (Snd.cut (Snd.seq (by kernel_rfl) (Snd.cut (Snd.exec hc _ _ _ _) ⟨f141i4s7, fun x => impl_walker_body_of_RecValues_1_RecValues_2.c7 k x.1 x.2.1 x.2.2.1 x.2.2.2.1 x.2.2.2.2.1 x.2.2.2.2.2.1 x.2.2.2.2.2.2⟩ (fun x => by kernel_rfl)) (Snd.exec hc _ _ _ _)) ⟨f141i4s5, fun x => impl_walker_body_of_RecValues_1_RecValues_2.c5 k x.1.2.1 x.1.2.2.1 x.1.2.2.2.1 x.2.1 x.2.2.1 x.2.2.2.1 x.2.2.2.2.1 x.2.2.2.2.2.1 x.2.2.2.2.2.2.1 x.2.2.2.2.2.2.2⟩ (fun x => by kernel_rfl)) (Snd.seq (by kernel_rfl) (Snd.exec hc _ _ _ _) (Snd.fork hc (id := 3) (by kernel_rfl) ⟨f141i4d3, fun x => impl_walker_body_of_RecValues_1_RecValues_2.d3 k x.1.2.1 x.1.2.2.1 x.1.2.2.2.1 x.2.1 x.2.2.1 x.2.2.2.1 x.2.2.2.2.1 x.2.2.2.2.2.1 x.2.2.2.2.2.2.1 x.2.2.2.2.2.2.2⟩ [[0, 1, 2, 3, 4, 5, 6, 7, 8, 10, 14, 9, 11, 12, 13, 15, 16, 17]] (by kernel_rfl) (ords_cons (fun x => by kernel_rfl) (ords_nil))))) (Snd.exec hc _ _ _ _)) (Snd.exec hc _ _ _ _)) (Snd.exec hc _ _ _ _))) (Snd.exec hc _ _ _ _))
    (fun x => by kernel_rfl)
def f197i8ctx (k : Nat) (S141i4 : Int → Int → Int → Int → TWalkerB → Unit → (List Int) → Int → Unit → (List TVal) → Option (Int × TWalkerB × Unit × (List Int) × Int × Unit × (List TVal))) (S197i8 : Int → Int → Int → Int → TWalkerB → Unit → (List Int) → Int → Unit → (List TVal) → Option (Int × TWalkerB × Unit × (List Int) × Int × Unit × (List TVal))) : Ctx := ⟨tyAt tys, conAt [(140, [f140con (impl_colAfter k)]), (141, [f141i4con S141i4]), (225, [f225i10con (impl_walker_count_of_RecValues_1_RecValues_2 k)]), (226, [f226i13con (impl_walker_missing_of_RecValues_1_RecValues_2 k)])], 86, fun _ => false⟩
theorem f197i8hc (k : Nat) (S141i4 : Int → Int → Int → Int → TWalkerB → Unit → (List Int) → Int → Unit → (List TVal) → Option (Int × TWalkerB × Unit × (List Int) × Int × Unit × (List TVal))) (S197i8 : Int → Int → Int → Int → TWalkerB → Unit → (List Int) → Int → Unit → (List TVal) → Option (Int × TWalkerB × Unit × (List Int) × Int × Unit × (List TVal))) (h141i4 : FnOk Try.prog 141 (f141i4con S141i4)) (h197i8 : FnOk Try.prog 197 (f197i8con S197i8)) : CtxOk Try.prog (f197i8ctx k S141i4 S197i8) := ctxOk tys_ok mixed_ok (consOk_cons (f140ok k) (consOk_cons (h141i4) (consOk_cons (f225i10ok k) (consOk_cons (f226i13ok k) (consOk_nil)))))
theorem f197i8okb (k : Nat) (S141i4 : Int → Int → Int → Int → TWalkerB → Unit → (List Int) → Int → Unit → (List TVal) → Option (Int × TWalkerB × Unit × (List Int) × Int × Unit × (List TVal))) (S197i8 : Int → Int → Int → Int → TWalkerB → Unit → (List Int) → Int → Unit → (List TVal) → Option (Int × TWalkerB × Unit × (List Int) × Int × Unit × (List TVal))) (h141i4 : FnOk Try.prog 141 (f141i4con S141i4)) (h197i8 : FnOk Try.prog 197 (f197i8con S197i8)) : FnOk Try.prog 197 (f197i8con (impl_walker_col_of_RecValues_1_RecValues_2.b k S141i4 S197i8)) :=
  let hc := f197i8hc k S141i4 S197i8 h141i4 h197i8
  fnOk (fn := Try.f197) (code := bodyOf Try.f197) (res := [.tmp 10]) hc (by kernel_rfl) (by kernel_rfl) (by decide) (by kernel_rfl) (by kernel_rfl) (by kernel_rfl) (Nat.le_of_ble_eq_true (by kernel_rfl)) _
    (fun x => Snd.seq (by kernel_rfl) (Snd.seq (by kernel_rfl) (Snd.cut (Snd.exec hc _ _ _ _) ⟨f197i8s18, fun x => impl_walker_col_of_RecValues_1_RecValues_2.c18 k S141i4 x.1.2.1 x.1.2.2.1 x.1.2.2.2.1 x.1.2.2.2.2 x.2.1 x.2.2.1 x.2.2.2.1 x.2.2.2.2.1 x.2.2.2.2.2.1 x.2.2.2.2.2.2⟩ (fun x => by kernel_rfl)) (Snd.seq (by kernel_rfl) (Snd.block (id := 0) (by kernel_rfl) (Snd.seq (by kernel_rfl) (Snd.cond (x := .tmp 22) (by kernel_rfl) (Snd.exec hc _ _ _ _) (Snd.seq (by kernel_rfl) (Snd.cond (x := .tmp 35) (by kernel_rfl) (Snd.seq (by kernel_rfl) (Snd.seq (by kernel_rfl) (Snd.seq (by kernel_rfl) (Snd.seq (by kernel_rfl) (Snd.seq (by kernel_rfl) (Snd.exec hc _ _ _ _) (Snd.seq (by kernel_rfl) (Snd.block (id := 1) (by kernel_rfl) (Snd.loop' (by kernel_rfl) f197i8s14 (fun n x => impl_walker_col_of_RecValues_1_RecValues_2.l14 k S141i4 n x.1.2.1 x.1.2.2.1 x.1.2.2.2.1 x.1.2.2.2.2.1 x.1.2.2.2.2.2 x.2.1 x.2.2.1 x.2.2.2.1 x.2.2.2.2.1 x.2.2.2.2.2.1 x.2.2.2.2.2.2) _ (fun _ => rfl) (fun n14 => Snd.exec hc _ _ _ _) (fun n x => by kernel_rfl) k)) (Snd.exec hc _ _ _ _))) (Snd.exec hc _ _ _ _)) (Snd.exec hc _ _ _ _)) (Snd.exec hc _ _ _ _)) (Snd.exec hc _ _ _ _)) (Snd.exec hc _ _ _ _)) (Snd.exec hc _ _ _ _))) (Snd.exec hc _ _ _ _))) (Snd.exec hc _ _ _ _))) (Snd.exec hc _ _ _ _))
    (fun x => by kernel_rfl)
theorem f141i4rec (k : Nat) : ∀ d, FnOk Try.prog 141 (f141i4con (impl_walker_body_of_RecValues_1_RecValues_2.d k d)) ∧ FnOk Try.prog 197 (f197i8con (impl_walker_col_of_RecValues_1_RecValues_2.d k d))
  | 0 => ⟨FnOk_none (fun _ => rfl), FnOk_none (fun _ => rfl)⟩
  | d + 1 => let ih := f141i4rec k d
    ⟨f141i4okb k (impl_walker_body_of_RecValues_1_RecValues_2.d k d) (impl_walker_col_of_RecValues_1_RecValues_2.d k d) ih.1 ih.2, f197i8okb k (impl_walker_body_of_RecValues_1_RecValues_2.d k d) (impl_walker_col_of_RecValues_1_RecValues_2.d k d) ih.1 ih.2⟩
theorem f141i4ok (k : Nat) : FnOk Try.prog 141 (f141i4con (impl_walker_body_of_RecValues_1_RecValues_2 k)) := (f141i4rec k k).1
theorem f197i8ok (k : Nat) : FnOk Try.prog 197 (f197i8con (impl_walker_col_of_RecValues_1_RecValues_2 k)) := (f141i4rec k k).2

def f69i2in : SS := ⟨[(0, (.ro (.list 126 (.st (.cons .str (.cons (.int .i64) (.cons (.int .i64) (.cons (.int .i64) .nil)))))))), (1, (.ro (.st (.cons (.list 52 (.st (.cons (.int .i64) (.cons .str .nil)))) .nil)))), (2, (.fn 78 (.cons (.p 10) (.cons (.p 12) (.cons (.p 13) .nil))))), (3, (.fn 79 .nil))], [(10, (.box (.list 3 (.int .i64)) (.h 11))), (11, (.sl 3 (.int .i64))), (12, (.box (.int .i64) (.ro (.int .i64)))), (13, (.box (.list 52 (.st (.cons (.int .i64) (.cons .str .nil)))) (.h 14))), (14, (.sl 52 (.st (.cons (.int .i64) (.cons .str .nil)))))]⟩
def f69i2out : SS := ⟨[(0, (.ro .bool))], [(10, (.box (.list 3 (.int .i64)) (.h 11))), (11, (.sl 3 (.int .i64))), (12, (.box (.int .i64) (.ro (.int .i64)))), (13, (.box (.list 52 (.st (.cons (.int .i64) (.cons .str .nil)))) (.h 100))), (100, (.sl 52 (.st (.cons (.int .i64) (.cons .str .nil)))))]⟩
def f69i2con (F : (List TCol) → TRec → (Unit × Unit × Unit × Unit) → Unit → Unit → (List Int) → Int → Unit → (List TVal) → Option (Bool × Unit × (List Int) × Int × Unit × (List TVal))) : Con := ⟨f69i2in, f69i2out, 4, 1, fun x => F x.1.1 x.1.2.1 x.1.2.2.1 x.1.2.2.2 x.2.1 x.2.2.1 x.2.2.2.1 x.2.2.2.2.1 x.2.2.2.2.2⟩
def f69i2ctx (k : Nat) : Ctx := ⟨tyAt tys, conAt [(141, [f141i4con (impl_walker_body_of_RecValues_1_RecValues_2 k)])], 36, fun _ => false⟩
theorem f69i2hc (k : Nat) : CtxOk Try.prog (f69i2ctx k) := ctxOk tys_ok mixed_ok (consOk_cons (f141i4ok k) (consOk_nil))
theorem f69i2ok (k : Nat) : FnOk Try.prog 69 (f69i2con (impl_walk_of_RecValues_1_RecValues_2 k)) :=
  let hc := f69i2hc k
  fnOk (fn := Try.f69) (code := bodyOf Try.f69) (res := [.tmp 8]) hc (by kernel_rfl) (by kernel_rfl) (by decide) (by kernel_rfl) (by kernel_rfl) (by kernel_rfl) (Nat.le_of_ble_eq_true (by kernel_rfl)) _
    (fun x => Snd.exec hc _ _ _ _)
    (fun x => by kernel_rfl)

def f18in : SS := ⟨[(0, (.ro (.list 126 (.st (.cons .str (.cons (.int .i64) (.cons (.int .i64) (.cons (.int .i64) .nil)))))))), (1, (.ro (.st (.cons (.list 52 (.st (.cons (.int .i64) (.cons .str .nil)))) .nil)))), (2, (.ro (.int .i64)))], []⟩
def f18out : SS := ⟨[(0, (.h 100)), (1, (.ro .bool))], [(100, (.sl 52 (.st (.cons (.int .i64) (.cons .str .nil)))))]⟩
def f18con (F : (List TCol) → TRec → Int → Option ((Unit × Bool) × (List TVal))) : Con := ⟨f18in, f18out, 3, 2, fun x => F x.1 x.2.1 x.2.2⟩
def f18ctx (k : Nat) : Ctx := ⟨tyAt tys, conAt [(69, [f69i2con (impl_walk_of_RecValues_1_RecValues_2 k)]), (76, [f76con (impl_SchemaLeaves k)]), (77, [f77con (impl_within k)])], 27, fun _ => false⟩
theorem f18hc (k : Nat) : CtxOk Try.prog (f18ctx k) := ctxOk tys_ok mixed_ok (consOk_cons (f69i2ok k) (consOk_cons (f76ok k) (consOk_cons (f77ok k) (consOk_nil))))
theorem f18ok (k : Nat) : FnOk Try.prog 18 (f18con (impl_RecValues k)) :=
  let hc := f18hc k
  fnOk (fn := Try.f18) (code := bodyOf Try.f18) (res := [.tmp 6, .tmp 7]) hc (by kernel_rfl) (by kernel_rfl) (by decide) (by kernel_rfl) (by kernel_rfl) (by kernel_rfl) (Nat.le_of_ble_eq_true (by kernel_rfl)) _
    (fun x => Snd.exec hc _ _ _ _)
    (fun x => by kernel_rfl)

def f219in : SS := ⟨[(0, (.ro (.int .i64)))], []⟩
def f219out : SS := ⟨[(0, (.ro (.int .i64)))], []⟩
def f219con (F : Int → Option Int) : Con := ⟨f219in, f219out, 1, 1, fun x => F x⟩
def f219ctx (k : Nat) : Ctx := ⟨tyAt tys, conAt [], 8, fun _ => false⟩
theorem f219hc (k : Nat) : CtxOk Try.prog (f219ctx k) := ctxOk tys_ok mixed_ok (consOk_nil)
theorem f219ok (k : Nat) : FnOk Try.prog 219 (f219con (impl_FloatKey k)) :=
  let hc := f219hc k
  fnOk (fn := Try.f219) (code := bodyOf Try.f219) (res := [.tmp 2]) hc (by kernel_rfl) (by kernel_rfl) (by decide) (by kernel_rfl) (by kernel_rfl) (by kernel_rfl) (Nat.le_of_ble_eq_true (by kernel_rfl)) _
    (fun x => Snd.exec hc _ _ _ _)
    (fun x => by kernel_rfl)

def f182in : SS := ⟨[(0, (.ro (.int .i64))), (1, (.ro (.st (.cons (.int .i64) (.cons .str .nil))))), (2, (.ro (.st (.cons (.int .i64) (.cons .str .nil)))))], []⟩
def f182out : SS := ⟨[(0, (.ro .bool))], []⟩
def f182d5 : SS := ⟨[(4, (.p 100)), (5, (.p 101))], [(100, (.box (.st (.cons (.int .i64) (.cons .str .nil))) (.agg (.cons (.ro (.int .i64)) (.cons (.ro .str) .nil))))), (101, (.box (.st (.cons (.int .i64) (.cons .str .nil))) (.agg (.cons (.ro (.int .i64)) (.cons (.ro .str) .nil)))))]⟩
def f182con (F : Int → TVal → TVal → Option Bool) : Con := ⟨f182in, f182out, 3, 1, fun x => F x.1 x.2.1 x.2.2⟩
def f182ctx (k : Nat) : Ctx := ⟨tyAt tys, conAt [(187, [f187con (impl_ValOk k)]), (219, [f219con (impl_FloatKey k)])], 39, fun _ => false⟩
theorem f182hc (k : Nat) : CtxOk Try.prog (f182ctx k) := ctxOk tys_ok mixed_ok (consOk_cons (f187ok k) (consOk_cons (f219ok k) (consOk_nil)))
theorem f182ok (k : Nat) : FnOk Try.prog 182 (f182con (impl_ValLess k)) :=
  let hc := f182hc k
  fnOk (fn := Try.f182) (code := bodyOf Try.f182) (res := [.tmp 6]) hc (by kernel_rfl) (by kernel_rfl) (by decide) (by kernel_rfl) (by kernel_rfl) (by kernel_rfl) (Nat.le_of_ble_eq_true (by kernel_rfl)) _
    (fun x => Snd.seq (by kernel_rfl) (Snd.seq (by kernel_rfl) (Snd.seq (by kernel_rfl) (Snd.exec hc _ _ _ _) (Snd.seq (by kernel_rfl) (Snd.block (id := 0) (by kernel_rfl) (Snd.seq (by kernel_rfl) (Snd.cond (x := .tmp 18) (by kernel_rfl) (Snd.seq (by kernel_rfl) (Snd.exec hc _ _ _ _) (Snd.fork hc (id := 5) (by kernel_rfl) ⟨f182d5, fun x => impl_ValLess.d5 k x.2.1 x.2.2⟩ [[0, 3, 1, 2, 4, 5, 6, 7], [0, 3, 1, 4, 2, 5, 6, 7], [0, 3, 4, 1, 2, 5, 6, 7]] (by kernel_rfl) (ords_cons (fun x => by kernel_rfl) (ords_cons (fun x => by kernel_rfl) (ords_cons (fun x => by kernel_rfl) (ords_nil)))))) (Snd.exec hc _ _ _ _)) (Snd.exec hc _ _ _ _))) (Snd.exec hc _ _ _ _))) (Snd.exec hc _ _ _ _)) (Snd.exec hc _ _ _ _))
    (fun x => by kernel_rfl)

def f121in : SS := ⟨[(0, (.ro (.list 126 (.st (.cons .str (.cons (.int .i64) (.cons (.int .i64) (.cons (.int .i64) .nil)))))))), (1, (.ro (.st (.cons (.int .i64) (.cons (.int .i64) (.cons (.st (.cons (.int .i64) (.cons .str .nil))) (.cons (.int .i64) (.cons (.int .i64) .nil)))))))), (2, (.ro (.st (.cons (.list 52 (.st (.cons (.int .i64) (.cons .str .nil)))) .nil))))], []⟩
def f121out : SS := ⟨[(0, (.ro .bool))], []⟩
def f121con (F : (List TCol) → TPred → TRec → Option Bool) : Con := ⟨f121in, f121out, 3, 1, fun x => F x.1 x.2.1 x.2.2⟩
def f121ctx (k : Nat) : Ctx := ⟨tyAt tys, conAt [(18, [f18con (impl_RecValues k)]), (111, [f111con (impl_LeafOf k)]), (182, [f182con (impl_ValLess k)])], 71, fun _ => false⟩
theorem f121hc (k : Nat) : CtxOk Try.prog (f121ctx k) := ctxOk tys_ok mixed_ok (consOk_cons (f18ok k) (consOk_cons (f111ok k) (consOk_cons (f182ok k) (consOk_nil))))
theorem f121ok (k : Nat) : FnOk Try.prog 121 (f121con (impl_holds k)) :=
  let hc := f121hc k
  fnOk (fn := Try.f121) (code := bodyOf Try.f121) (res := [.tmp 6]) hc (by kernel_rfl) (by kernel_rfl) (by decide) (by kernel_rfl) (by kernel_rfl) (by kernel_rfl) (Nat.le_of_ble_eq_true (by kernel_rfl)) _
    (fun x => Snd.exec hc _ _ _ _)
    (fun x => by kernel_rfl)

def f52in : SS := ⟨[(0, (.ro (.list 126 (.st (.cons .str (.cons (.int .i64) (.cons (.int .i64) (.cons (.int .i64) .nil)))))))), (1, (.ro (.list 165 (.st (.cons (.int .i64) (.cons (.int .i64) (.cons (.st (.cons (.int .i64) (.cons .str .nil))) (.cons (.int .i64) (.cons (.int .i64) .nil))))))))), (2, (.ro (.st (.cons (.list 52 (.st (.cons (.int .i64) (.cons .str .nil)))) .nil))))], []⟩
def f52out : SS := ⟨[(0, (.ro .bool))], []⟩
def f52s15 : SS := ⟨[(0, (.ro (.list 126 (.st (.cons .str (.cons (.int .i64) (.cons (.int .i64) (.cons (.int .i64) .nil)))))))), (1, (.ro (.list 165 (.st (.cons (.int .i64) (.cons (.int .i64) (.cons (.st (.cons (.int .i64) (.cons .str .nil))) (.cons (.int .i64) (.cons (.int .i64) .nil))))))))), (5, (.p 100)), (7, (.h 101)), (23, (.ro (.list 165 (.st (.cons (.int .i64) (.cons (.int .i64) (.cons (.st (.cons (.int .i64) (.cons .str .nil))) (.cons (.int .i64) (.cons (.int .i64) .nil))))))))), (24, (.ro (.int .i64))), (25, (.ro (.int .i64)))], [(100, (.box (.st (.cons (.list 52 (.st (.cons (.int .i64) (.cons .str .nil)))) .nil)) (.agg (.cons (.ro (.list 52 (.st (.cons (.int .i64) (.cons .str .nil))))) .nil)))), (101, (.sl 4 .bool))]⟩
def f52s5 : SS := ⟨[(0, (.ro (.list 126 (.st (.cons .str (.cons (.int .i64) (.cons (.int .i64) (.cons (.int .i64) .nil)))))))), (1, (.ro (.list 165 (.st (.cons (.int .i64) (.cons (.int .i64) (.cons (.st (.cons (.int .i64) (.cons .str .nil))) (.cons (.int .i64) (.cons (.int .i64) .nil))))))))), (5, (.p 100)), (7, (.h 101)), (23, (.ro (.list 165 (.st (.cons (.int .i64) (.cons (.int .i64) (.cons (.st (.cons (.int .i64) (.cons .str .nil))) (.cons (.int .i64) (.cons (.int .i64) .nil))))))))), (24, (.ro (.int .i64))), (25, (.ro (.int .i64)))], [(100, (.box (.st (.cons (.list 52 (.st (.cons (.int .i64) (.cons .str .nil)))) .nil)) (.agg (.cons (.ro (.list 52 (.st (.cons (.int .i64) (.cons .str .nil))))) .nil)))), (101, (.sl 4 .bool))]⟩
def f52con (F : (List TCol) → (List TPred) → TRec → Option Bool) : Con := ⟨f52in, f52out, 3, 1, fun x => F x.1 x.2.1 x.2.2⟩
def f52ctx (k : Nat) : Ctx := ⟨tyAt tys, conAt [(14, [f14con (impl_RecOk k)]), (60, [f60con (impl_PredOk k)]), (121, [f121con (impl_holds k)])], 91, fun _ => false⟩
theorem f52hc (k : Nat) : CtxOk Try.prog (f52ctx k) := ctxOk tys_ok mixed_ok (consOk_cons (f14ok k) (consOk_cons (f60ok k) (consOk_cons (f121ok k) (consOk_nil))))
theorem f52ok (k : Nat) : FnOk Try.prog 52 (f52con (impl_PredHolds k)) :=
  let hc := f52hc k
  fnOk (fn := Try.f52) (code := bodyOf Try.f52) (res := [.tmp 6]) hc (by kernel_rfl) (by kernel_rfl) (by decide) (by kernel_rfl) (by kernel_rfl) (by kernel_rfl) (Nat.le_of_ble_eq_true (by kernel_rfl)) _
    (fun x => Snd.seq (by kernel_rfl) (Snd.seq (by kernel_rfl) (Snd.seq (by kernel_rfl) (Snd.seq (by kernel_rfl) (Snd.exec hc _ _ _ _) (Snd.seq (by kernel_rfl) (Snd.block (id := 0) (by kernel_rfl) (Snd.loop' (by kernel_rfl) f52s5 (fun n x => impl_PredHolds.l5 k n x.1.1 x.1.2.1 x.1.2.2.2.2.1 x.1.2.2.2.2.2.1 x.1.2.2.2.2.2.2 x.2.1 x.2.2) _ (fun _ => rfl) (fun n5 => Snd.seq (by kernel_rfl) (Snd.seq (by kernel_rfl) (Snd.seq (by kernel_rfl) (Snd.cut (Snd.exec hc _ _ _ _) ⟨f52s15, fun x => impl_PredHolds.c15 k (impl_PredHolds.l5 k n5) x.1.1 x.1.2.1 x.1.2.2.2.2.1 x.1.2.2.2.2.2.1 x.1.2.2.2.2.2.2 x.2.1 x.2.2⟩ (fun x => by kernel_rfl)) (Snd.exec hc _ _ _ _)) (Snd.exec hc _ _ _ _)) (Snd.exec hc _ _ _ _)) (fun n x => by kernel_rfl) k)) (Snd.exec hc _ _ _ _))) (Snd.exec hc _ _ _ _)) (Snd.exec hc _ _ _ _)) (Snd.exec hc _ _ _ _))
    (fun x => by kernel_rfl)

def f183in : SS := ⟨[(0, (.ro (.st (.cons (.int .i64) (.cons .str .nil))))), (1, (.ro (.st (.cons (.int .i64) (.cons .str .nil)))))], []⟩
def f183out : SS := ⟨[(0, (.ro .bool))], []⟩
def f183con (F : TVal → TVal → Option Bool) : Con := ⟨f183in, f183out, 2, 1, fun x => F x.1 x.2⟩
def f183ctx (k : Nat) : Ctx := ⟨tyAt tys, conAt [], 15, fun _ => false⟩
theorem f183hc (k : Nat) : CtxOk Try.prog (f183ctx k) := ctxOk tys_ok mixed_ok (consOk_nil)
theorem f183ok (k : Nat) : FnOk Try.prog 183 (f183con (laws_eqVal k)) :=
  let hc := f183hc k
  fnOk (fn := Try.f183) (code := bodyOf Try.f183) (res := [.tmp 4]) hc (by kernel_rfl) (by kernel_rfl) (by decide) (by kernel_rfl) (by kernel_rfl) (by kernel_rfl) (Nat.le_of_ble_eq_true (by kernel_rfl)) _
    (fun x => Snd.exec hc _ _ _ _)
    (fun x => by kernel_rfl)

def f122in : SS := ⟨[(0, (.ro (.st (.cons (.int .i64) (.cons (.int .i64) (.cons (.st (.cons (.int .i64) (.cons .str .nil))) (.cons (.int .i64) (.cons (.int .i64) .nil)))))))), (1, (.ro (.st (.cons (.int .i64) (.cons (.int .i64) (.cons (.st (.cons (.int .i64) (.cons .str .nil))) (.cons (.int .i64) (.cons (.int .i64) .nil))))))))], []⟩
def f122out : SS := ⟨[(0, (.ro .bool))], []⟩
def f122con (F : TPred → TPred → Option Bool) : Con := ⟨f122in, f122out, 2, 1, fun x => F x.1 x.2⟩
def f122ctx (k : Nat) : Ctx := ⟨tyAt tys, conAt [(183, [f183con (laws_eqVal k)])], 31, fun _ => false⟩
theorem f122hc (k : Nat) : CtxOk Try.prog (f122ctx k) := ctxOk tys_ok mixed_ok (consOk_cons (f183ok k) (consOk_nil))
theorem f122ok (k : Nat) : FnOk Try.prog 122 (f122con (laws_eqPred k)) :=
  let hc := f122hc k
  fnOk (fn := Try.f122) (code := bodyOf Try.f122) (res := [.tmp 4]) hc (by kernel_rfl) (by kernel_rfl) (by decide) (by kernel_rfl) (by kernel_rfl) (by kernel_rfl) (Nat.le_of_ble_eq_true (by kernel_rfl)) _
    (fun x => Snd.exec hc _ _ _ _)
    (fun x => by kernel_rfl)

def f53in : SS := ⟨[(0, (.ro (.list 165 (.st (.cons (.int .i64) (.cons (.int .i64) (.cons (.st (.cons (.int .i64) (.cons .str .nil))) (.cons (.int .i64) (.cons (.int .i64) .nil))))))))), (1, (.ro (.list 165 (.st (.cons (.int .i64) (.cons (.int .i64) (.cons (.st (.cons (.int .i64) (.cons .str .nil))) (.cons (.int .i64) (.cons (.int .i64) .nil)))))))))], []⟩
def f53out : SS := ⟨[(0, (.ro .bool))], []⟩
def f53s4 : SS := ⟨[(0, (.ro (.list 165 (.st (.cons (.int .i64) (.cons (.int .i64) (.cons (.st (.cons (.int .i64) (.cons .str .nil))) (.cons (.int .i64) (.cons (.int .i64) .nil))))))))), (1, (.ro (.list 165 (.st (.cons (.int .i64) (.cons (.int .i64) (.cons (.st (.cons (.int .i64) (.cons .str .nil))) (.cons (.int .i64) (.cons (.int .i64) .nil))))))))), (5, (.ro (.int .i64)))], []⟩
def f53con (F : (List TPred) → (List TPred) → Option Bool) : Con := ⟨f53in, f53out, 2, 1, fun x => F x.1 x.2⟩
def f53ctx (k : Nat) : Ctx := ⟨tyAt tys, conAt [(122, [f122con (laws_eqPred k)])], 27, fun _ => false⟩
theorem f53hc (k : Nat) : CtxOk Try.prog (f53ctx k) := ctxOk tys_ok mixed_ok (consOk_cons (f122ok k) (consOk_nil))
theorem f53ok (k : Nat) : FnOk Try.prog 53 (f53con (laws_eqPredS k)) :=
  let hc := f53hc k
  fnOk (fn := Try.f53) (code := bodyOf Try.f53) (res := [.tmp 4]) hc (by kernel_rfl) (by kernel_rfl) (by decide) (by kernel_rfl) (by kernel_rfl) (by kernel_rfl) (Nat.le_of_ble_eq_true (by kernel_rfl)) _
    (fun x => Snd.seq (by kernel_rfl) (Snd.seq (by kernel_rfl) (Snd.seq (by kernel_rfl) (Snd.exec hc _ _ _ _) (Snd.seq (by kernel_rfl) (Snd.block (id := 0) (by kernel_rfl) (Snd.loop' (by kernel_rfl) f53s4 (fun n x => laws_eqPredS.l4 k n x.1 x.2.1 x.2.2) _ (fun _ => rfl) (fun n4 => Snd.exec hc _ _ _ _) (fun n x => by kernel_rfl) k)) (Snd.exec hc _ _ _ _))) (Snd.exec hc _ _ _ _)) (Snd.exec hc _ _ _ _))
    (fun x => by kernel_rfl)

def f123in : SS := ⟨[(0, (.ro (.list 52 (.st (.cons (.int .i64) (.cons .str .nil)))))), (1, (.ro (.list 52 (.st (.cons (.int .i64) (.cons .str .nil))))))], []⟩
def f123out : SS := ⟨[(0, (.ro .bool))], []⟩
def f123s4 : SS := ⟨[(0, (.ro (.list 52 (.st (.cons (.int .i64) (.cons .str .nil)))))), (1, (.ro (.list 52 (.st (.cons (.int .i64) (.cons .str .nil)))))), (5, (.ro (.int .i64)))], []⟩
def f123con (F : (List TVal) → (List TVal) → Option Bool) : Con := ⟨f123in, f123out, 2, 1, fun x => F x.1 x.2⟩
def f123ctx (k : Nat) : Ctx := ⟨tyAt tys, conAt [(183, [f183con (laws_eqVal k)])], 27, fun _ => false⟩
theorem f123hc (k : Nat) : CtxOk Try.prog (f123ctx k) := ctxOk tys_ok mixed_ok (consOk_cons (f183ok k) (consOk_nil))
theorem f123ok (k : Nat) : FnOk Try.prog 123 (f123con (laws_eqValS k)) :=
  let hc := f123hc k
  fnOk (fn := Try.f123) (code := bodyOf Try.f123) (res := [.tmp 4]) hc (by kernel_rfl) (by kernel_rfl) (by decide) (by kernel_rfl) (by kernel_rfl) (by kernel_rfl) (Nat.le_of_ble_eq_true (by kernel_rfl)) _
    (fun x => Snd.seq (by kernel_rfl) (Snd.seq (by kernel_rfl) (Snd.seq (by kernel_rfl) (Snd.exec hc _ _ _ _) (Snd.seq (by kernel_rfl) (Snd.block (id := 0) (by kernel_rfl) (Snd.loop' (by kernel_rfl) f123s4 (fun n x => laws_eqValS.l4 k n x.1 x.2.1 x.2.2) _ (fun _ => rfl) (fun n4 => Snd.exec hc _ _ _ _) (fun n x => by kernel_rfl) k)) (Snd.exec hc _ _ _ _))) (Snd.exec hc _ _ _ _)) (Snd.exec hc _ _ _ _))
    (fun x => by kernel_rfl)

def f54in : SS := ⟨[(0, (.ro (.st (.cons (.list 52 (.st (.cons (.int .i64) (.cons .str .nil)))) .nil)))), (1, (.ro (.st (.cons (.list 52 (.st (.cons (.int .i64) (.cons .str .nil)))) .nil))))], []⟩
def f54out : SS := ⟨[(0, (.ro .bool))], []⟩
def f54con (F : TRec → TRec → Option Bool) : Con := ⟨f54in, f54out, 2, 1, fun x => F x.1 x.2⟩
def f54ctx (k : Nat) : Ctx := ⟨tyAt tys, conAt [(123, [f123con (laws_eqValS k)])], 11, fun _ => false⟩
theorem f54hc (k : Nat) : CtxOk Try.prog (f54ctx k) := ctxOk tys_ok mixed_ok (consOk_cons (f123ok k) (consOk_nil))
theorem f54ok (k : Nat) : FnOk Try.prog 54 (f54con (laws_eqRec k)) :=
  let hc := f54hc k
  fnOk (fn := Try.f54) (code := bodyOf Try.f54) (res := [.tmp 4]) hc (by kernel_rfl) (by kernel_rfl) (by decide) (by kernel_rfl) (by kernel_rfl) (by kernel_rfl) (Nat.le_of_ble_eq_true (by kernel_rfl)) _
    (fun x => Snd.exec hc _ _ _ _)
    (fun x => by kernel_rfl)

def f8in : SS := ⟨[(0, (.ro (.list 125 (.st (.cons .str (.cons (.int .i64) (.cons (.int .i64) (.cons (.int .i64) .nil)))))))), (1, (.ro (.list 161 (.st (.cons (.int .i64) (.cons (.int .i64) (.cons (.st (.cons (.int .i64) (.cons .str .nil))) (.cons (.int .i64) (.cons (.int .i64) .nil))))))))), (2, (.ro (.st (.cons (.list 159 (.st (.cons (.int .i64) (.cons .str .nil)))) .nil))))], []⟩
def f8out : SS := ⟨[(0, (.ro .bool))], []⟩
def f8d22 : SS := ⟨[(5, (.p 100)), (11, (.p 101))], [(100, (.box (.st (.cons (.list 159 (.st (.cons (.int .i64) (.cons .str .nil)))) .nil)) (.agg (.cons (.ro (.list 159 (.st (.cons (.int .i64) (.cons .str .nil))))) .nil)))), (101, (.box (.st (.cons (.list 52 (.st (.cons (.int .i64) (.cons .str .nil)))) .nil)) (.agg (.cons (.h 102) .nil)))), (102, (.sl 52 (.st (.cons (.int .i64) (.cons .str .nil)))))]⟩
def f8d11 : SS := ⟨[(0, (.ro (.list 125 (.st (.cons .str (.cons (.int .i64) (.cons (.int .i64) (.cons (.int .i64) .nil)))))))), (1, (.ro (.list 161 (.st (.cons (.int .i64) (.cons (.int .i64) (.cons (.st (.cons (.int .i64) (.cons .str .nil))) (.cons (.int .i64) (.cons (.int .i64) .nil))))))))), (5, (.p 100))], [(100, (.box (.st (.cons (.list 159 (.st (.cons (.int .i64) (.cons .str .nil)))) .nil)) (.agg (.cons (.ro (.list 159 (.st (.cons (.int .i64) (.cons .str .nil))))) .nil))))]⟩
def f8con (F : (List TCol) → (List TPred) → TRec → Option Bool) : Con := ⟨f8in, f8out, 3, 1, fun x => F x.1 x.2.1 x.2.2⟩
def f8ctx (k : Nat) : Ctx := ⟨tyAt tys, conAt [(27, [f27con (laws_szColS k)]), (29, [f29con (laws_toColS k)]), (32, [f32con (laws_eqColS k)]), (47, [f47con (laws_szPredS k)]), (48, [f48con (laws_szRec k)]), (49, [f49con (spec_PredHolds k)]), (50, [f50con (laws_toPredS k)]), (51, [f51con (laws_toRec k)]), (52, [f52con (impl_PredHolds k)]), (53, [f53con (laws_eqPredS k)]), (54, [f54con (laws_eqRec k)])], 63, fun _ => false⟩
theorem f8hc (k : Nat) : CtxOk Try.prog (f8ctx k) := ctxOk tys_ok mixed_ok (consOk_cons (f27ok k) (consOk_cons (f29ok k) (consOk_cons (f32ok k) (consOk_cons (f47ok k) (consOk_cons (f48ok k) (consOk_cons (f49ok k) (consOk_cons (f50ok k) (consOk_cons (f51ok k) (consOk_cons (f52ok k) (consOk_cons (f53ok k) (consOk_cons (f54ok k) (consOk_nil))))))))))))
theorem f8ok (k : Nat) : FnOk Try.prog 8 (f8con (laws_FnExactPredHolds k)) :=
  let hc := f8hc k
  fnOk (fn := Try.f8) (code := bodyOf Try.f8) (res := [.tmp 6]) hc (by kernel_rfl) (by kernel_rfl) (by decide) (by kernel_rfl) (by kernel_rfl) (by kernel_rfl) (Nat.le_of_ble_eq_true (by kernel_rfl)) _
    (fun x => Snd.seq (by kernel_rfl) (Snd.seq (by kernel_rfl) (Snd.seq (by kernel_rfl) (Snd.seq (by kernel_rfl) (Snd.seq (by kernel_rfl) (Snd.seq (by kernel_rfl) (Snd.seq (by kernel_rfl) (Snd.seq (by kernel_rfl) (Snd.seq (by kernel_rfl) (Snd.seq (by kernel_rfl) (Snd.seq (by kernel_rfl) (Snd.seq (by kernel_rfl) (Snd.seq (by kernel_rfl) (Snd.seq (by kernel_rfl) (Snd.seq (by kernel_rfl) (Snd.seq (by kernel_rfl) (Snd.seq (by kernel_rfl) (Snd.exec hc _ _ _ _) (Snd.seq (by kernel_rfl) (Snd.exec hc _ _ _ _) (Snd.fork hc (id := 22) (by kernel_rfl) ⟨f8d22, fun x => laws_FnExactPredHolds.d22 k x.2.1 x.2.2.1 x.2.2.2⟩ [[0, 1, 2, 3, 4], [1, 0, 2, 3, 4], [1, 2, 0, 3, 4]] (by kernel_rfl) (ords_cons (fun x => by kernel_rfl) (ords_cons (fun x => by kernel_rfl) (ords_cons (fun x => by kernel_rfl) (ords_nil))))))) (Snd.exec hc _ _ _ _)) (Snd.exec hc _ _ _ _)) (Snd.exec hc _ _ _ _)) (Snd.exec hc _ _ _ _)) (Snd.exec hc _ _ _ _)) (Snd.exec hc _ _ _ _)) (Snd.exec hc _ _ _ _)) (Snd.fork hc (id := 11) (by kernel_rfl) ⟨f8d11, fun x => laws_FnExactPredHolds.d11 k x.1.1 x.1.2.1 x.2⟩ [[0, 2, 1, 3, 4, 5, 6, 7], [0, 2, 1, 4, 3, 5, 6, 7], [0, 2, 4, 1, 3, 5, 6, 7]] (by kernel_rfl) (ords_cons (fun x => by kernel_rfl) (ords_cons (fun x => by kernel_rfl) (ords_cons (fun x => by kernel_rfl) (ords_nil)))))) (Snd.exec hc _ _ _ _)) (Snd.exec hc _ _ _ _)) (Snd.exec hc _ _ _ _)) (Snd.exec hc _ _ _ _)) (Snd.exec hc _ _ _ _)) (Snd.exec hc _ _ _ _)) (Snd.exec hc _ _ _ _)) (Snd.exec hc _ _ _ _))
    (fun x => by kernel_rfl)

end Go.Proofs.Ytifcflanpjkgkaa
