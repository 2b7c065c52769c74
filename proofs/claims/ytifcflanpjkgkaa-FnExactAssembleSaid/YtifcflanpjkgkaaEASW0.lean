/- The walks, printed by program. -/
import Derived.Test.YtifcflanpjkgkaaBase
import Derived.Test.YtifcflanpjkgkaaEASF0
set_option linter.unusedVariables false
set_option maxRecDepth 100000
namespace Go.Proofs.Ytifcflanpjkgkaa
open Go.Am Go.Fn

def f95in : SS := ⟨[(0, (.ro (.st (.cons .str (.cons (.int .i64) (.cons (.int .i64) (.cons (.int .i64) .nil))))))), (1, (.ro (.int .i64)))], []⟩
def f95out : SS := ⟨[(0, (.ro (.int .i64)))], []⟩
def f95con (F : TCol → Int → Option Int) : Con := ⟨f95in, f95out, 2, 1, fun x => F x.1 x.2⟩
def f95ctx (k : Nat) : Ctx := ⟨tyAt tys, conAt [], 13, fun _ => false⟩
theorem f95hc (k : Nat) : CtxOk Try.prog (f95ctx k) := ctxOk tys_ok mixed_ok (consOk_nil)
theorem f95ok (k : Nat) : FnOk Try.prog 95 (f95con (laws_szCol k)) :=
  let hc := f95hc k
  fnOk (fn := Try.f95) (code := bodyOf Try.f95) (res := [.tmp 4]) hc (by kernel_rfl) (by kernel_rfl) (by decide) (by kernel_rfl) (by kernel_rfl) (by kernel_rfl) (Nat.le_of_ble_eq_true (by kernel_rfl)) _
    (fun x => Snd.exec hc _ _ _ _)
    (fun x => by kernel_rfl)

def f27in : SS := ⟨[(0, (.ro (.list 125 (.st (.cons .str (.cons (.int .i64) (.cons (.int .i64) (.cons (.int .i64) .nil)))))))), (1, (.ro (.int .i64)))], []⟩
def f27out : SS := ⟨[(0, (.ro (.int .i64)))], []⟩
def f27s5 : SS := ⟨[(0, (.ro (.list 125 (.st (.cons .str (.cons (.int .i64) (.cons (.int .i64) (.cons (.int .i64) .nil)))))))), (1, (.ro (.int .i64))), (5, (.ro (.int .i64)))], []⟩
def f27con (F : (List TCol) → Int → Option Int) : Con := ⟨f27in, f27out, 2, 1, fun x => F x.1 x.2⟩
def f27ctx (k : Nat) : Ctx := ⟨tyAt tys, conAt [(95, [f95con (laws_szCol k)])], 27, fun _ => false⟩
theorem f27hc (k : Nat) : CtxOk Try.prog (f27ctx k) := ctxOk tys_ok mixed_ok (consOk_cons (f95ok k) (consOk_nil))
theorem f27ok (k : Nat) : FnOk Try.prog 27 (f27con (laws_szColS k)) :=
  let hc := f27hc k
  fnOk (fn := Try.f27) (code := bodyOf Try.f27) (res := [.tmp 4]) hc (by kernel_rfl) (by kernel_rfl) (by decide) (by kernel_rfl) (by kernel_rfl) (by kernel_rfl) (Nat.le_of_ble_eq_true (by kernel_rfl)) _
    (fun x => Snd.seq (by kernel_rfl) (Snd.seq (by kernel_rfl) (Snd.seq (by kernel_rfl) (Snd.seq (by kernel_rfl) (Snd.exec hc _ _ _ _) (Snd.seq (by kernel_rfl) (Snd.block (id := 0) (by kernel_rfl) (Snd.loop' (by kernel_rfl) f27s5 (fun n x => laws_szColS.l5 k n x.1 x.2.1 x.2.2) _ (fun _ => rfl) (fun n5 => Snd.exec hc _ _ _ _) (fun n x => by kernel_rfl) k)) (Snd.exec hc _ _ _ _))) (Snd.exec hc _ _ _ _)) (Snd.exec hc _ _ _ _)) (Snd.exec hc _ _ _ _))
    (fun x => by kernel_rfl)

def f96in : SS := ⟨[(0, (.ro (.st (.cons .str (.cons (.int .i64) (.cons (.int .i64) (.cons (.int .i64) .nil)))))))], []⟩
def f96out : SS := ⟨[(0, (.agg (.cons (.ro .str) (.cons (.ro (.int .i64)) (.cons (.ro (.int .i64)) (.cons (.ro (.int .i64)) .nil))))))], []⟩
def f96con (F : TCol → Option (TCol)) : Con := ⟨f96in, f96out, 1, 1, fun x => F x⟩
def f96ctx (k : Nat) : Ctx := ⟨tyAt tys, conAt [], 17, fun _ => false⟩
theorem f96hc (k : Nat) : CtxOk Try.prog (f96ctx k) := ctxOk tys_ok mixed_ok (consOk_nil)
theorem f96ok (k : Nat) : FnOk Try.prog 96 (f96con (laws_toCol k)) :=
  let hc := f96hc k
  fnOk (fn := Try.f96) (code := bodyOf Try.f96) (res := [.cell 2 126]) hc (by kernel_rfl) (by kernel_rfl) (by decide) (by kernel_rfl) (by kernel_rfl) (by kernel_rfl) (Nat.le_of_ble_eq_true (by kernel_rfl)) _
    (fun x => Snd.exec hc _ _ _ _)
    (fun x => by kernel_rfl)

def f29in : SS := ⟨[(0, (.ro (.list 125 (.st (.cons .str (.cons (.int .i64) (.cons (.int .i64) (.cons (.int .i64) .nil))))))))], []⟩
def f29out : SS := ⟨[(0, (.h 100))], [(100, (.sl 126 (.st (.cons .str (.cons (.int .i64) (.cons (.int .i64) (.cons (.int .i64) .nil)))))))]⟩
def f29s3 : SS := ⟨[(0, (.ro (.list 125 (.st (.cons .str (.cons (.int .i64) (.cons (.int .i64) (.cons (.int .i64) .nil)))))))), (3, (.h 100)), (4, (.ro (.int .i64)))], [(100, (.sl 126 (.st (.cons .str (.cons (.int .i64) (.cons (.int .i64) (.cons (.int .i64) .nil)))))))]⟩
def f29con (F : (List TCol) → Option (Unit × (List TCol))) : Con := ⟨f29in, f29out, 1, 1, fun x => F x⟩
def f29ctx (k : Nat) : Ctx := ⟨tyAt tys, conAt [(96, [f96con (laws_toCol k)])], 23, fun _ => false⟩
theorem f29hc (k : Nat) : CtxOk Try.prog (f29ctx k) := ctxOk tys_ok mixed_ok (consOk_cons (f96ok k) (consOk_nil))
theorem f29ok (k : Nat) : FnOk Try.prog 29 (f29con (laws_toColS k)) :=
  let hc := f29hc k
  fnOk (fn := Try.f29) (code := bodyOf Try.f29) (res := [.tmp 2]) hc (by kernel_rfl) (by kernel_rfl) (by decide) (by kernel_rfl) (by kernel_rfl) (by kernel_rfl) (Nat.le_of_ble_eq_true (by kernel_rfl)) _
    (fun x => Snd.seq (by kernel_rfl) (Snd.seq (by kernel_rfl) (Snd.seq (by kernel_rfl) (Snd.exec hc _ _ _ _) (Snd.seq (by kernel_rfl) (Snd.block (id := 0) (by kernel_rfl) (Snd.loop' (by kernel_rfl) f29s3 (fun n x => laws_toColS.l3 k n x.1.1 x.1.2.2 x.2) _ (fun _ => rfl) (fun n3 => Snd.exec hc _ _ _ _) (fun n x => by kernel_rfl) k)) (Snd.exec hc _ _ _ _))) (Snd.exec hc _ _ _ _)) (Snd.exec hc _ _ _ _))
    (fun x => by kernel_rfl)

def f183in : SS := ⟨[(0, (.ro (.st (.cons (.int .i64) (.cons .str .nil))))), (1, (.ro (.st (.cons (.int .i64) (.cons .str .nil)))))], []⟩
def f183out : SS := ⟨[(0, (.ro .bool))], []⟩
def f183con (F : TVal → TVal → Option Bool) : Con := ⟨f183in, f183out, 2, 1, fun x => F x.1 x.2⟩
def f183ctx (k : Nat) : Ctx := ⟨tyAt tys, conAt [], 15, fun _ => false⟩
theorem f183hc (k : Nat) : CtxOk Try.prog (f183ctx k) := ctxOk tys_ok mixed_ok (consOk_nil)
theorem f183ok (k : Nat) : FnOk Try.prog 183 (f183con (laws_eqVal k)) :=
  let hc := f183hc k
  fnOk (fn := Try.f183) (code := bodyOf Try.f183) (res := [.tmp 4]) hc (by kernel_rfl) (by kernel_rfl) (by decide) (by kernel_rfl) (by kernel_rfl) (by kernel_rfl) (Nat.le_of_ble_eq_true (by kernel_rfl)) _
    (fun x => Snd.exec hc _ _ _ _)
    (fun x => by kernel_rfl)

def f200in : SS := ⟨[(0, (.ro (.st (.cons (.int .i64) (.cons (.int .i64) (.cons (.st (.cons (.int .i64) (.cons .str .nil))) .nil)))))), (1, (.ro (.st (.cons (.int .i64) (.cons (.int .i64) (.cons (.st (.cons (.int .i64) (.cons .str .nil))) .nil))))))], []⟩
def f200out : SS := ⟨[(0, (.ro .bool))], []⟩
def f200con (F : TTriple → TTriple → Option Bool) : Con := ⟨f200in, f200out, 2, 1, fun x => F x.1 x.2⟩
def f200ctx (k : Nat) : Ctx := ⟨tyAt tys, conAt [(183, [f183con (laws_eqVal k)])], 21, fun _ => false⟩
theorem f200hc (k : Nat) : CtxOk Try.prog (f200ctx k) := ctxOk tys_ok mixed_ok (consOk_cons (f183ok k) (consOk_nil))
theorem f200ok (k : Nat) : FnOk Try.prog 200 (f200con (laws_eqTriple k)) :=
  let hc := f200hc k
  fnOk (fn := Try.f200) (code := bodyOf Try.f200) (res := [.tmp 4]) hc (by kernel_rfl) (by kernel_rfl) (by decide) (by kernel_rfl) (by kernel_rfl) (by kernel_rfl) (Nat.le_of_ble_eq_true (by kernel_rfl)) _
    (fun x => Snd.exec hc _ _ _ _)
    (fun x => by kernel_rfl)

def f153in : SS := ⟨[(0, (.ro (.list 54 (.st (.cons (.int .i64) (.cons (.int .i64) (.cons (.st (.cons (.int .i64) (.cons .str .nil))) .nil))))))), (1, (.ro (.list 54 (.st (.cons (.int .i64) (.cons (.int .i64) (.cons (.st (.cons (.int .i64) (.cons .str .nil))) .nil)))))))], []⟩
def f153out : SS := ⟨[(0, (.ro .bool))], []⟩
def f153s4 : SS := ⟨[(0, (.ro (.list 54 (.st (.cons (.int .i64) (.cons (.int .i64) (.cons (.st (.cons (.int .i64) (.cons .str .nil))) .nil))))))), (1, (.ro (.list 54 (.st (.cons (.int .i64) (.cons (.int .i64) (.cons (.st (.cons (.int .i64) (.cons .str .nil))) .nil))))))), (5, (.ro (.int .i64)))], []⟩
def f153con (F : (List TTriple) → (List TTriple) → Option Bool) : Con := ⟨f153in, f153out, 2, 1, fun x => F x.1 x.2⟩
def f153ctx (k : Nat) : Ctx := ⟨tyAt tys, conAt [(200, [f200con (laws_eqTriple k)])], 27, fun _ => false⟩
theorem f153hc (k : Nat) : CtxOk Try.prog (f153ctx k) := ctxOk tys_ok mixed_ok (consOk_cons (f200ok k) (consOk_nil))
theorem f153ok (k : Nat) : FnOk Try.prog 153 (f153con (laws_eqTripleS k)) :=
  let hc := f153hc k
  fnOk (fn := Try.f153) (code := bodyOf Try.f153) (res := [.tmp 4]) hc (by kernel_rfl) (by kernel_rfl) (by decide) (by kernel_rfl) (by kernel_rfl) (by kernel_rfl) (Nat.le_of_ble_eq_true (by kernel_rfl)) _
    (fun x => Snd.seq (by kernel_rfl) (Snd.seq (by kernel_rfl) (Snd.seq (by kernel_rfl) (Snd.exec hc _ _ _ _) (Snd.seq (by kernel_rfl) (Snd.block (id := 0) (by kernel_rfl) (Snd.loop' (by kernel_rfl) f153s4 (fun n x => laws_eqTripleS.l4 k n x.1 x.2.1 x.2.2) _ (fun _ => rfl) (fun n4 => Snd.exec hc _ _ _ _) (fun n x => by kernel_rfl) k)) (Snd.exec hc _ _ _ _))) (Snd.exec hc _ _ _ _)) (Snd.exec hc _ _ _ _))
    (fun x => by kernel_rfl)

def f97in : SS := ⟨[(0, (.ro (.st (.cons (.list 54 (.st (.cons (.int .i64) (.cons (.int .i64) (.cons (.st (.cons (.int .i64) (.cons .str .nil))) .nil))))) .nil)))), (1, (.ro (.st (.cons (.list 54 (.st (.cons (.int .i64) (.cons (.int .i64) (.cons (.st (.cons (.int .i64) (.cons .str .nil))) .nil))))) .nil))))], []⟩
def f97out : SS := ⟨[(0, (.ro .bool))], []⟩
def f97con (F : TColumn → TColumn → Option Bool) : Con := ⟨f97in, f97out, 2, 1, fun x => F x.1 x.2⟩
def f97ctx (k : Nat) : Ctx := ⟨tyAt tys, conAt [(153, [f153con (laws_eqTripleS k)])], 11, fun _ => false⟩
theorem f97hc (k : Nat) : CtxOk Try.prog (f97ctx k) := ctxOk tys_ok mixed_ok (consOk_cons (f153ok k) (consOk_nil))
theorem f97ok (k : Nat) : FnOk Try.prog 97 (f97con (laws_eqColumn k)) :=
  let hc := f97hc k
  fnOk (fn := Try.f97) (code := bodyOf Try.f97) (res := [.tmp 4]) hc (by kernel_rfl) (by kernel_rfl) (by decide) (by kernel_rfl) (by kernel_rfl) (by kernel_rfl) (Nat.le_of_ble_eq_true (by kernel_rfl)) _
    (fun x => Snd.exec hc _ _ _ _)
    (fun x => by kernel_rfl)

def f31in : SS := ⟨[(0, (.ro (.list 50 (.st (.cons (.list 54 (.st (.cons (.int .i64) (.cons (.int .i64) (.cons (.st (.cons (.int .i64) (.cons .str .nil))) .nil))))) .nil))))), (1, (.ro (.list 50 (.st (.cons (.list 54 (.st (.cons (.int .i64) (.cons (.int .i64) (.cons (.st (.cons (.int .i64) (.cons .str .nil))) .nil))))) .nil)))))], []⟩
def f31out : SS := ⟨[(0, (.ro .bool))], []⟩
def f31s4 : SS := ⟨[(0, (.ro (.list 50 (.st (.cons (.list 54 (.st (.cons (.int .i64) (.cons (.int .i64) (.cons (.st (.cons (.int .i64) (.cons .str .nil))) .nil))))) .nil))))), (1, (.ro (.list 50 (.st (.cons (.list 54 (.st (.cons (.int .i64) (.cons (.int .i64) (.cons (.st (.cons (.int .i64) (.cons .str .nil))) .nil))))) .nil))))), (5, (.ro (.int .i64)))], []⟩
def f31con (F : (List TColumn) → (List TColumn) → Option Bool) : Con := ⟨f31in, f31out, 2, 1, fun x => F x.1 x.2⟩
def f31ctx (k : Nat) : Ctx := ⟨tyAt tys, conAt [(97, [f97con (laws_eqColumn k)])], 27, fun _ => false⟩
theorem f31hc (k : Nat) : CtxOk Try.prog (f31ctx k) := ctxOk tys_ok mixed_ok (consOk_cons (f97ok k) (consOk_nil))
theorem f31ok (k : Nat) : FnOk Try.prog 31 (f31con (laws_eqColumnS k)) :=
  let hc := f31hc k
  fnOk (fn := Try.f31) (code := bodyOf Try.f31) (res := [.tmp 4]) hc (by kernel_rfl) (by kernel_rfl) (by decide) (by kernel_rfl) (by kernel_rfl) (by kernel_rfl) (Nat.le_of_ble_eq_true (by kernel_rfl)) _
    (fun x => Snd.seq (by kernel_rfl) (Snd.seq (by kernel_rfl) (Snd.seq (by kernel_rfl) (Snd.exec hc _ _ _ _) (Snd.seq (by kernel_rfl) (Snd.block (id := 0) (by kernel_rfl) (Snd.loop' (by kernel_rfl) f31s4 (fun n x => laws_eqColumnS.l4 k n x.1 x.2.1 x.2.2) _ (fun _ => rfl) (fun n4 => Snd.exec hc _ _ _ _) (fun n x => by kernel_rfl) k)) (Snd.exec hc _ _ _ _))) (Snd.exec hc _ _ _ _)) (Snd.exec hc _ _ _ _))
    (fun x => by kernel_rfl)

def f98in : SS := ⟨[(0, (.ro (.st (.cons .str (.cons (.int .i64) (.cons (.int .i64) (.cons (.int .i64) .nil))))))), (1, (.ro (.st (.cons .str (.cons (.int .i64) (.cons (.int .i64) (.cons (.int .i64) .nil)))))))], []⟩
def f98out : SS := ⟨[(0, (.ro .bool))], []⟩
def f98con (F : TCol → TCol → Option Bool) : Con := ⟨f98in, f98out, 2, 1, fun x => F x.1 x.2⟩
def f98ctx (k : Nat) : Ctx := ⟨tyAt tys, conAt [], 25, fun _ => false⟩
theorem f98hc (k : Nat) : CtxOk Try.prog (f98ctx k) := ctxOk tys_ok mixed_ok (consOk_nil)
theorem f98ok (k : Nat) : FnOk Try.prog 98 (f98con (laws_eqCol k)) :=
  let hc := f98hc k
  fnOk (fn := Try.f98) (code := bodyOf Try.f98) (res := [.tmp 4]) hc (by kernel_rfl) (by kernel_rfl) (by decide) (by kernel_rfl) (by kernel_rfl) (by kernel_rfl) (Nat.le_of_ble_eq_true (by kernel_rfl)) _
    (fun x => Snd.exec hc _ _ _ _)
    (fun x => by kernel_rfl)

def f32in : SS := ⟨[(0, (.ro (.list 126 (.st (.cons .str (.cons (.int .i64) (.cons (.int .i64) (.cons (.int .i64) .nil)))))))), (1, (.ro (.list 126 (.st (.cons .str (.cons (.int .i64) (.cons (.int .i64) (.cons (.int .i64) .nil))))))))], []⟩
def f32out : SS := ⟨[(0, (.ro .bool))], []⟩
def f32s4 : SS := ⟨[(0, (.ro (.list 126 (.st (.cons .str (.cons (.int .i64) (.cons (.int .i64) (.cons (.int .i64) .nil)))))))), (1, (.ro (.list 126 (.st (.cons .str (.cons (.int .i64) (.cons (.int .i64) (.cons (.int .i64) .nil)))))))), (5, (.ro (.int .i64)))], []⟩
def f32con (F : (List TCol) → (List TCol) → Option Bool) : Con := ⟨f32in, f32out, 2, 1, fun x => F x.1 x.2⟩
def f32ctx (k : Nat) : Ctx := ⟨tyAt tys, conAt [(98, [f98con (laws_eqCol k)])], 27, fun _ => false⟩
theorem f32hc (k : Nat) : CtxOk Try.prog (f32ctx k) := ctxOk tys_ok mixed_ok (consOk_cons (f98ok k) (consOk_nil))
theorem f32ok (k : Nat) : FnOk Try.prog 32 (f32con (laws_eqColS k)) :=
  let hc := f32hc k
  fnOk (fn := Try.f32) (code := bodyOf Try.f32) (res := [.tmp 4]) hc (by kernel_rfl) (by kernel_rfl) (by decide) (by kernel_rfl) (by kernel_rfl) (by kernel_rfl) (Nat.le_of_ble_eq_true (by kernel_rfl)) _
    (fun x => Snd.seq (by kernel_rfl) (Snd.seq (by kernel_rfl) (Snd.seq (by kernel_rfl) (Snd.exec hc _ _ _ _) (Snd.seq (by kernel_rfl) (Snd.block (id := 0) (by kernel_rfl) (Snd.loop' (by kernel_rfl) f32s4 (fun n x => laws_eqColS.l4 k n x.1 x.2.1 x.2.2) _ (fun _ => rfl) (fun n4 => Snd.exec hc _ _ _ _) (fun n x => by kernel_rfl) k)) (Snd.exec hc _ _ _ _))) (Snd.exec hc _ _ _ _)) (Snd.exec hc _ _ _ _))
    (fun x => by kernel_rfl)

def f123in : SS := ⟨[(0, (.ro (.list 52 (.st (.cons (.int .i64) (.cons .str .nil)))))), (1, (.ro (.list 52 (.st (.cons (.int .i64) (.cons .str .nil))))))], []⟩
def f123out : SS := ⟨[(0, (.ro .bool))], []⟩
def f123s4 : SS := ⟨[(0, (.ro (.list 52 (.st (.cons (.int .i64) (.cons .str .nil)))))), (1, (.ro (.list 52 (.st (.cons (.int .i64) (.cons .str .nil)))))), (5, (.ro (.int .i64)))], []⟩
def f123con (F : (List TVal) → (List TVal) → Option Bool) : Con := ⟨f123in, f123out, 2, 1, fun x => F x.1 x.2⟩
def f123ctx (k : Nat) : Ctx := ⟨tyAt tys, conAt [(183, [f183con (laws_eqVal k)])], 27, fun _ => false⟩
theorem f123hc (k : Nat) : CtxOk Try.prog (f123ctx k) := ctxOk tys_ok mixed_ok (consOk_cons (f183ok k) (consOk_nil))
theorem f123ok (k : Nat) : FnOk Try.prog 123 (f123con (laws_eqValS k)) :=
  let hc := f123hc k
  fnOk (fn := Try.f123) (code := bodyOf Try.f123) (res := [.tmp 4]) hc (by kernel_rfl) (by kernel_rfl) (by decide) (by kernel_rfl) (by kernel_rfl) (by kernel_rfl) (Nat.le_of_ble_eq_true (by kernel_rfl)) _
    (fun x => Snd.seq (by kernel_rfl) (Snd.seq (by kernel_rfl) (Snd.seq (by kernel_rfl) (Snd.exec hc _ _ _ _) (Snd.seq (by kernel_rfl) (Snd.block (id := 0) (by kernel_rfl) (Snd.loop' (by kernel_rfl) f123s4 (fun n x => laws_eqValS.l4 k n x.1 x.2.1 x.2.2) _ (fun _ => rfl) (fun n4 => Snd.exec hc _ _ _ _) (fun n x => by kernel_rfl) k)) (Snd.exec hc _ _ _ _))) (Snd.exec hc _ _ _ _)) (Snd.exec hc _ _ _ _))
    (fun x => by kernel_rfl)

def f54in : SS := ⟨[(0, (.ro (.st (.cons (.list 52 (.st (.cons (.int .i64) (.cons .str .nil)))) .nil)))), (1, (.ro (.st (.cons (.list 52 (.st (.cons (.int .i64) (.cons .str .nil)))) .nil))))], []⟩
def f54out : SS := ⟨[(0, (.ro .bool))], []⟩
def f54con (F : TRec → TRec → Option Bool) : Con := ⟨f54in, f54out, 2, 1, fun x => F x.1 x.2⟩
def f54ctx (k : Nat) : Ctx := ⟨tyAt tys, conAt [(123, [f123con (laws_eqValS k)])], 11, fun _ => false⟩
theorem f54hc (k : Nat) : CtxOk Try.prog (f54ctx k) := ctxOk tys_ok mixed_ok (consOk_cons (f123ok k) (consOk_nil))
theorem f54ok (k : Nat) : FnOk Try.prog 54 (f54con (laws_eqRec k)) :=
  let hc := f54hc k
  fnOk (fn := Try.f54) (code := bodyOf Try.f54) (res := [.tmp 4]) hc (by kernel_rfl) (by kernel_rfl) (by decide) (by kernel_rfl) (by kernel_rfl) (by kernel_rfl) (Nat.le_of_ble_eq_true (by kernel_rfl)) _
    (fun x => Snd.exec hc _ _ _ _)
    (fun x => by kernel_rfl)

def f33in : SS := ⟨[(0, (.ro (.list 27 (.st (.cons (.list 52 (.st (.cons (.int .i64) (.cons .str .nil)))) .nil))))), (1, (.ro (.list 27 (.st (.cons (.list 52 (.st (.cons (.int .i64) (.cons .str .nil)))) .nil)))))], []⟩
def f33out : SS := ⟨[(0, (.ro .bool))], []⟩
def f33s4 : SS := ⟨[(0, (.ro (.list 27 (.st (.cons (.list 52 (.st (.cons (.int .i64) (.cons .str .nil)))) .nil))))), (1, (.ro (.list 27 (.st (.cons (.list 52 (.st (.cons (.int .i64) (.cons .str .nil)))) .nil))))), (5, (.ro (.int .i64)))], []⟩
def f33con (F : (List TRec) → (List TRec) → Option Bool) : Con := ⟨f33in, f33out, 2, 1, fun x => F x.1 x.2⟩
def f33ctx (k : Nat) : Ctx := ⟨tyAt tys, conAt [(54, [f54con (laws_eqRec k)])], 27, fun _ => false⟩
theorem f33hc (k : Nat) : CtxOk Try.prog (f33ctx k) := ctxOk tys_ok mixed_ok (consOk_cons (f54ok k) (consOk_nil))
theorem f33ok (k : Nat) : FnOk Try.prog 33 (f33con (laws_eqRecS k)) :=
  let hc := f33hc k
  fnOk (fn := Try.f33) (code := bodyOf Try.f33) (res := [.tmp 4]) hc (by kernel_rfl) (by kernel_rfl) (by decide) (by kernel_rfl) (by kernel_rfl) (by kernel_rfl) (Nat.le_of_ble_eq_true (by kernel_rfl)) _
    (fun x => Snd.seq (by kernel_rfl) (Snd.seq (by kernel_rfl) (Snd.seq (by kernel_rfl) (Snd.exec hc _ _ _ _) (Snd.seq (by kernel_rfl) (Snd.block (id := 0) (by kernel_rfl) (Snd.loop' (by kernel_rfl) f33s4 (fun n x => laws_eqRecS.l4 k n x.1 x.2.1 x.2.2) _ (fun _ => rfl) (fun n4 => Snd.exec hc _ _ _ _) (fun n x => by kernel_rfl) k)) (Snd.exec hc _ _ _ _))) (Snd.exec hc _ _ _ _)) (Snd.exec hc _ _ _ _))
    (fun x => by kernel_rfl)

def f99in : SS := ⟨[(0, (.ro (.int .i64)))], []⟩
def f99out : SS := ⟨[(0, (.ro .str))], []⟩
def f99s4 : SS := ⟨[(0, (.ro (.int .i64))), (3, (.ro .str))], []⟩
def f99con (F : Int → Option ByteArray) : Con := ⟨f99in, f99out, 1, 1, fun x => F x⟩
def f99ctx (k : Nat) : Ctx := ⟨tyAt tys, conAt [], 20, fun _ => false⟩
theorem f99hc (k : Nat) : CtxOk Try.prog (f99ctx k) := ctxOk tys_ok mixed_ok (consOk_nil)
theorem f99ok (k : Nat) : FnOk Try.prog 99 (f99con (laws_markText k)) :=
  let hc := f99hc k
  fnOk (fn := Try.f99) (code := bodyOf Try.f99) (res := [.tmp 2]) hc (by kernel_rfl) (by kernel_rfl) (by decide) (by kernel_rfl) (by kernel_rfl) (by kernel_rfl) (Nat.le_of_ble_eq_true (by kernel_rfl)) _
    (fun x => Snd.seq (by kernel_rfl) (Snd.seq (by kernel_rfl) (Snd.seq (by kernel_rfl) (Snd.seq (by kernel_rfl) (Snd.exec hc _ _ _ _) (Snd.block (id := 0) (by kernel_rfl) (Snd.loop' (by kernel_rfl) f99s4 (fun n x => laws_markText.l4 k n x.1 x.2) _ (fun _ => rfl) (fun n4 => Snd.exec hc _ _ _ _) (fun n x => by kernel_rfl) k))) (Snd.exec hc _ _ _ _)) (Snd.exec hc _ _ _ _)) (Snd.exec hc _ _ _ _))
    (fun x => by kernel_rfl)

def f34in : SS := ⟨[(0, (.h 10)), (1, (.ro (.int .i64)))], [(10, (.sl 126 (.st (.cons .str (.cons (.int .i64) (.cons (.int .i64) (.cons (.int .i64) .nil)))))))]⟩
def f34out : SS := ⟨[(0, (.ro (.int .i64)))], [(10, (.sl 126 (.st (.cons .str (.cons (.int .i64) (.cons (.int .i64) (.cons (.int .i64) .nil)))))))]⟩
def f34s2 : SS := ⟨[(0, (.h 10)), (1, (.ro (.int .i64))), (5, (.ro (.int .i64)))], [(10, (.sl 126 (.st (.cons .str (.cons (.int .i64) (.cons (.int .i64) (.cons (.int .i64) .nil)))))))]⟩
def f34con (F : Int → (List TCol) → Option (Int × (List TCol))) : Con := ⟨f34in, f34out, 2, 1, fun x => F x.1.2 x.2⟩
def f34ctx (k : Nat) : Ctx := ⟨tyAt tys, conAt [(99, [f99con (laws_markText k)])], 42, fun _ => false⟩
theorem f34hc (k : Nat) : CtxOk Try.prog (f34ctx k) := ctxOk tys_ok mixed_ok (consOk_cons (f99ok k) (consOk_nil))
theorem f34ok (k : Nat) : FnOk Try.prog 34 (f34con (laws_markColS k)) :=
  let hc := f34hc k
  fnOk (fn := Try.f34) (code := bodyOf Try.f34) (res := [.tmp 4]) hc (by kernel_rfl) (by kernel_rfl) (by decide) (by kernel_rfl) (by kernel_rfl) (by kernel_rfl) (Nat.le_of_ble_eq_true (by kernel_rfl)) _
    (fun x => Snd.seq (by kernel_rfl) (Snd.seq (by kernel_rfl) (Snd.exec hc _ _ _ _) (Snd.seq (by kernel_rfl) (Snd.block (id := 0) (by kernel_rfl) (Snd.loop' (by kernel_rfl) f34s2 (fun n x => laws_markColS.l2 k n x.1.2.1 x.1.2.2 x.2) _ (fun _ => rfl) (fun n2 => Snd.exec hc _ _ _ _) (fun n x => by kernel_rfl) k)) (Snd.exec hc _ _ _ _))) (Snd.exec hc _ _ _ _))
    (fun x => by kernel_rfl)

def f100in : SS := ⟨[(0, (.h 10)), (1, (.ro (.int .i64)))], [(10, (.sl 52 (.st (.cons (.int .i64) (.cons .str .nil)))))]⟩
def f100out : SS := ⟨[(0, (.ro (.int .i64)))], [(10, (.sl 52 (.st (.cons (.int .i64) (.cons .str .nil)))))]⟩
def f100s2 : SS := ⟨[(0, (.h 10)), (1, (.ro (.int .i64))), (5, (.ro (.int .i64)))], [(10, (.sl 52 (.st (.cons (.int .i64) (.cons .str .nil)))))]⟩
def f100con (F : Int → (List TVal) → Option (Int × (List TVal))) : Con := ⟨f100in, f100out, 2, 1, fun x => F x.1.2 x.2⟩
def f100ctx (k : Nat) : Ctx := ⟨tyAt tys, conAt [(99, [f99con (laws_markText k)])], 28, fun _ => false⟩
theorem f100hc (k : Nat) : CtxOk Try.prog (f100ctx k) := ctxOk tys_ok mixed_ok (consOk_cons (f99ok k) (consOk_nil))
theorem f100ok (k : Nat) : FnOk Try.prog 100 (f100con (laws_markValS k)) :=
  let hc := f100hc k
  fnOk (fn := Try.f100) (code := bodyOf Try.f100) (res := [.tmp 4]) hc (by kernel_rfl) (by kernel_rfl) (by decide) (by kernel_rfl) (by kernel_rfl) (by kernel_rfl) (Nat.le_of_ble_eq_true (by kernel_rfl)) _
    (fun x => Snd.seq (by kernel_rfl) (Snd.seq (by kernel_rfl) (Snd.exec hc _ _ _ _) (Snd.seq (by kernel_rfl) (Snd.block (id := 0) (by kernel_rfl) (Snd.loop' (by kernel_rfl) f100s2 (fun n x => laws_markValS.l2 k n x.1.2.1 x.1.2.2 x.2) _ (fun _ => rfl) (fun n2 => Snd.exec hc _ _ _ _) (fun n x => by kernel_rfl) k)) (Snd.exec hc _ _ _ _))) (Snd.exec hc _ _ _ _))
    (fun x => by kernel_rfl)

def f35in : SS := ⟨[(0, (.h 10)), (1, (.ro (.int .i64)))], [(10, (.sl 27 (.st (.cons (.list 52 (.st (.cons (.int .i64) (.cons .str .nil)))) .nil))))]⟩
def f35out : SS := ⟨[(0, (.ro (.int .i64)))], [(10, (.sl 27 (.st (.cons (.list 52 (.st (.cons (.int .i64) (.cons .str .nil)))) .nil))))]⟩
def f35s2 : SS := ⟨[(0, (.h 10)), (1, (.ro (.int .i64))), (5, (.ro (.int .i64)))], [(10, (.sl 27 (.st (.cons (.list 52 (.st (.cons (.int .i64) (.cons .str .nil)))) .nil))))]⟩
def f35con (F : Int → (List TRec) → Option (Int × (List TRec))) : Con := ⟨f35in, f35out, 2, 1, fun x => F x.1.2 x.2⟩
def f35ctx (k : Nat) : Ctx := ⟨tyAt tys, conAt [(100, [f100con (laws_markValS k)])], 20, fun _ => false⟩
theorem f35hc (k : Nat) : CtxOk Try.prog (f35ctx k) := ctxOk tys_ok mixed_ok (consOk_cons (f100ok k) (consOk_nil))
theorem f35ok (k : Nat) : FnOk Try.prog 35 (f35con (laws_markRecS k)) :=
  let hc := f35hc k
  fnOk (fn := Try.f35) (code := bodyOf Try.f35) (res := [.tmp 4]) hc (by kernel_rfl) (by kernel_rfl) (by decide) (by kernel_rfl) (by kernel_rfl) (by kernel_rfl) (Nat.le_of_ble_eq_true (by kernel_rfl)) _
    (fun x => Snd.seq (by kernel_rfl) (Snd.seq (by kernel_rfl) (Snd.exec hc _ _ _ _) (Snd.seq (by kernel_rfl) (Snd.block (id := 0) (by kernel_rfl) (Snd.loop' (by kernel_rfl) f35s2 (fun n x => laws_markRecS.l2 k n x.1.2.1 x.1.2.2 x.2) _ (fun _ => rfl) (fun n2 => Snd.exec hc _ _ _ _) (fun n x => by kernel_rfl) k)) (Snd.exec hc _ _ _ _))) (Snd.exec hc _ _ _ _))
    (fun x => by kernel_rfl)

def f101in : SS := ⟨[(0, (.h 10)), (1, (.ro (.int .i64)))], [(10, (.sl 54 (.st (.cons (.int .i64) (.cons (.int .i64) (.cons (.st (.cons (.int .i64) (.cons .str .nil))) .nil))))))]⟩
def f101out : SS := ⟨[(0, (.ro (.int .i64)))], [(10, (.sl 54 (.st (.cons (.int .i64) (.cons (.int .i64) (.cons (.st (.cons (.int .i64) (.cons .str .nil))) .nil))))))]⟩
def f101s2 : SS := ⟨[(0, (.h 10)), (1, (.ro (.int .i64))), (5, (.ro (.int .i64)))], [(10, (.sl 54 (.st (.cons (.int .i64) (.cons (.int .i64) (.cons (.st (.cons (.int .i64) (.cons .str .nil))) .nil))))))]⟩
def f101con (F : Int → (List TTriple) → Option (Int × (List TTriple))) : Con := ⟨f101in, f101out, 2, 1, fun x => F x.1.2 x.2⟩
def f101ctx (k : Nat) : Ctx := ⟨tyAt tys, conAt [(99, [f99con (laws_markText k)])], 44, fun _ => false⟩
theorem f101hc (k : Nat) : CtxOk Try.prog (f101ctx k) := ctxOk tys_ok mixed_ok (consOk_cons (f99ok k) (consOk_nil))
theorem f101ok (k : Nat) : FnOk Try.prog 101 (f101con (laws_markTripleS k)) :=
  let hc := f101hc k
  fnOk (fn := Try.f101) (code := bodyOf Try.f101) (res := [.tmp 4]) hc (by kernel_rfl) (by kernel_rfl) (by decide) (by kernel_rfl) (by kernel_rfl) (by kernel_rfl) (Nat.le_of_ble_eq_true (by kernel_rfl)) _
    (fun x => Snd.seq (by kernel_rfl) (Snd.seq (by kernel_rfl) (Snd.exec hc _ _ _ _) (Snd.seq (by kernel_rfl) (Snd.block (id := 0) (by kernel_rfl) (Snd.loop' (by kernel_rfl) f101s2 (fun n x => laws_markTripleS.l2 k n x.1.2.1 x.1.2.2 x.2) _ (fun _ => rfl) (fun n2 => Snd.exec hc _ _ _ _) (fun n x => by kernel_rfl) k)) (Snd.exec hc _ _ _ _))) (Snd.exec hc _ _ _ _))
    (fun x => by kernel_rfl)

def f36in : SS := ⟨[(0, (.h 10)), (1, (.ro (.int .i64)))], [(10, (.sl 50 (.st (.cons (.list 54 (.st (.cons (.int .i64) (.cons (.int .i64) (.cons (.st (.cons (.int .i64) (.cons .str .nil))) .nil))))) .nil))))]⟩
def f36out : SS := ⟨[(0, (.ro (.int .i64)))], [(10, (.sl 50 (.st (.cons (.list 54 (.st (.cons (.int .i64) (.cons (.int .i64) (.cons (.st (.cons (.int .i64) (.cons .str .nil))) .nil))))) .nil))))]⟩
def f36s2 : SS := ⟨[(0, (.h 10)), (1, (.ro (.int .i64))), (5, (.ro (.int .i64)))], [(10, (.sl 50 (.st (.cons (.list 54 (.st (.cons (.int .i64) (.cons (.int .i64) (.cons (.st (.cons (.int .i64) (.cons .str .nil))) .nil))))) .nil))))]⟩
def f36con (F : Int → (List TColumn) → Option (Int × (List TColumn))) : Con := ⟨f36in, f36out, 2, 1, fun x => F x.1.2 x.2⟩
def f36ctx (k : Nat) : Ctx := ⟨tyAt tys, conAt [(101, [f101con (laws_markTripleS k)])], 20, fun _ => false⟩
theorem f36hc (k : Nat) : CtxOk Try.prog (f36ctx k) := ctxOk tys_ok mixed_ok (consOk_cons (f101ok k) (consOk_nil))
theorem f36ok (k : Nat) : FnOk Try.prog 36 (f36con (laws_markColumnS k)) :=
  let hc := f36hc k
  fnOk (fn := Try.f36) (code := bodyOf Try.f36) (res := [.tmp 4]) hc (by kernel_rfl) (by kernel_rfl) (by decide) (by kernel_rfl) (by kernel_rfl) (by kernel_rfl) (Nat.le_of_ble_eq_true (by kernel_rfl)) _
    (fun x => Snd.seq (by kernel_rfl) (Snd.seq (by kernel_rfl) (Snd.exec hc _ _ _ _) (Snd.seq (by kernel_rfl) (Snd.block (id := 0) (by kernel_rfl) (Snd.loop' (by kernel_rfl) f36s2 (fun n x => laws_markColumnS.l2 k n x.1.2.1 x.1.2.2 x.2) _ (fun _ => rfl) (fun n2 => Snd.exec hc _ _ _ _) (fun n x => by kernel_rfl) k)) (Snd.exec hc _ _ _ _))) (Snd.exec hc _ _ _ _))
    (fun x => by kernel_rfl)

def f77in : SS := ⟨[(0, (.ro (.int .i64))), (1, (.ro (.int .i64))), (2, (.ro (.int .i64)))], []⟩
def f77out : SS := ⟨[(0, (.ro .bool))], []⟩
def f77con (F : Int → Int → Int → Option Bool) : Con := ⟨f77in, f77out, 3, 1, fun x => F x.1 x.2.1 x.2.2⟩
def f77ctx (k : Nat) : Ctx := ⟨tyAt tys, conAt [], 15, fun _ => false⟩
theorem f77hc (k : Nat) : CtxOk Try.prog (f77ctx k) := ctxOk tys_ok mixed_ok (consOk_nil)
theorem f77ok (k : Nat) : FnOk Try.prog 77 (f77con (impl_within k)) :=
  let hc := f77hc k
  fnOk (fn := Try.f77) (code := bodyOf Try.f77) (res := [.tmp 6]) hc (by kernel_rfl) (by kernel_rfl) (by decide) (by kernel_rfl) (by kernel_rfl) (by kernel_rfl) (Nat.le_of_ble_eq_true (by kernel_rfl)) _
    (fun x => Snd.exec hc _ _ _ _)
    (fun x => by kernel_rfl)

def f224in : SS := ⟨[(0, (.ro (.int .i64)))], []⟩
def f224out : SS := ⟨[(0, (.ro .bool))], []⟩
def f224con (F : Int → Option Bool) : Con := ⟨f224in, f224out, 1, 1, fun x => F x⟩
def f224ctx (k : Nat) : Ctx := ⟨tyAt tys, conAt [(77, [f77con (impl_within k)])], 13, fun _ => false⟩
theorem f224hc (k : Nat) : CtxOk Try.prog (f224ctx k) := ctxOk tys_ok mixed_ok (consOk_cons (f77ok k) (consOk_nil))
theorem f224ok (k : Nat) : FnOk Try.prog 224 (f224con (impl_TypeOk k)) :=
  let hc := f224hc k
  fnOk (fn := Try.f224) (code := bodyOf Try.f224) (res := [.tmp 2]) hc (by kernel_rfl) (by kernel_rfl) (by decide) (by kernel_rfl) (by kernel_rfl) (by kernel_rfl) (Nat.le_of_ble_eq_true (by kernel_rfl)) _
    (fun x => Snd.exec hc _ _ _ _)
    (fun x => by kernel_rfl)

def f194in : SS := ⟨[(0, (.ro (.st (.cons .str (.cons (.int .i64) (.cons (.int .i64) (.cons (.int .i64) .nil)))))))], []⟩
def f194out : SS := ⟨[(0, (.ro .bool))], []⟩
def f194con (F : TCol → Option Bool) : Con := ⟨f194in, f194out, 1, 1, fun x => F x⟩
def f194ctx (k : Nat) : Ctx := ⟨tyAt tys, conAt [(77, [f77con (impl_within k)]), (224, [f224con (impl_TypeOk k)])], 30, fun _ => false⟩
theorem f194hc (k : Nat) : CtxOk Try.prog (f194ctx k) := ctxOk tys_ok mixed_ok (consOk_cons (f77ok k) (consOk_cons (f224ok k) (consOk_nil)))
theorem f194ok (k : Nat) : FnOk Try.prog 194 (f194con (impl_colOk k)) :=
  let hc := f194hc k
  fnOk (fn := Try.f194) (code := bodyOf Try.f194) (res := [.tmp 2]) hc (by kernel_rfl) (by kernel_rfl) (by decide) (by kernel_rfl) (by kernel_rfl) (by kernel_rfl) (Nat.le_of_ble_eq_true (by kernel_rfl)) _
    (fun x => Snd.exec hc _ _ _ _)
    (fun x => by kernel_rfl)

def f195in : SS := ⟨[(0, (.ro .str))], []⟩
def f195out : SS := ⟨[(0, (.ro .bool))], []⟩
def f195s2 : SS := ⟨[(0, (.ro .str)), (5, (.ro (.int .i64))), (6, (.ro (.int .i64)))], []⟩
def f195con (F : ByteArray → Option Bool) : Con := ⟨f195in, f195out, 1, 1, fun x => F x⟩
def f195ctx (k : Nat) : Ctx := ⟨tyAt tys, conAt [(77, [f77con (impl_within k)])], 19, fun _ => false⟩
theorem f195hc (k : Nat) : CtxOk Try.prog (f195ctx k) := ctxOk tys_ok mixed_ok (consOk_cons (f77ok k) (consOk_nil))
theorem f195ok (k : Nat) : FnOk Try.prog 195 (f195con (impl_isColName k)) :=
  let hc := f195hc k
  fnOk (fn := Try.f195) (code := bodyOf Try.f195) (res := [.tmp 2]) hc (by kernel_rfl) (by kernel_rfl) (by decide) (by kernel_rfl) (by kernel_rfl) (by kernel_rfl) (Nat.le_of_ble_eq_true (by kernel_rfl)) _
    (fun x => Snd.seq (by kernel_rfl) (Snd.seq (by kernel_rfl) (Snd.exec hc _ _ _ _) (Snd.seq (by kernel_rfl) (Snd.block (id := 0) (by kernel_rfl) (Snd.loop' (by kernel_rfl) f195s2 (fun n x => impl_isColName.l2 k n x.1 x.2.1 x.2.2) _ (fun _ => rfl) (fun n2 => Snd.exec hc _ _ _ _) (fun n x => by kernel_rfl) k)) (Snd.exec hc _ _ _ _))) (Snd.exec hc _ _ _ _))
    (fun x => by kernel_rfl)

def f140in : SS := ⟨[(0, (.ro (.list 126 (.st (.cons .str (.cons (.int .i64) (.cons (.int .i64) (.cons (.int .i64) .nil)))))))), (1, (.ro (.int .i64))), (2, (.ro (.int .i64)))], []⟩
def f140out : SS := ⟨[(0, (.ro (.int .i64)))], []⟩
def f140s10 : SS := ⟨[(0, (.ro (.list 126 (.st (.cons .str (.cons (.int .i64) (.cons (.int .i64) (.cons (.int .i64) .nil)))))))), (2, (.ro (.int .i64))), (7, (.ro (.int .i64))), (8, (.h 100)), (47, (.ro (.int .i64))), (48, (.ro (.int .i64))), (54, (.h 100)), (55, (.ro (.int .i64))), (56, (.ro (.int .i64)))], [(100, (.sl 9 .str))]⟩
def f140s6 : SS := ⟨[(0, (.ro (.list 126 (.st (.cons .str (.cons (.int .i64) (.cons (.int .i64) (.cons (.int .i64) .nil)))))))), (2, (.ro (.int .i64))), (7, (.ro (.int .i64))), (8, (.h 100)), (47, (.ro (.int .i64))), (48, (.ro (.int .i64)))], [(100, (.sl 9 .str))]⟩
def f140con (F : (List TCol) → Int → Int → Option Int) : Con := ⟨f140in, f140out, 3, 1, fun x => F x.1 x.2.1 x.2.2⟩
def f140ctx (k : Nat) (S140 : (List TCol) → Int → Int → Option Int) : Ctx := ⟨tyAt tys, conAt [(140, [f140con S140]), (194, [f194con (impl_colOk k)]), (195, [f195con (impl_isColName k)])], 85, fun _ => false⟩
theorem f140hc (k : Nat) (S140 : (List TCol) → Int → Int → Option Int) (h140 : FnOk Try.prog 140 (f140con S140)) : CtxOk Try.prog (f140ctx k S140) := ctxOk tys_ok mixed_ok (consOk_cons (h140) (consOk_cons (f194ok k) (consOk_cons (f195ok k) (consOk_nil))))
theorem f140okb (k : Nat) (S140 : (List TCol) → Int → Int → Option Int) (h140 : FnOk Try.prog 140 (f140con S140)) : FnOk Try.prog 140 (f140con (impl_colAfter.b k S140)) :=
  let hc := f140hc k S140 h140
  fnOk (fn := Try.f140) (code := bodyOf Try.f140) (res := [.tmp 6]) hc (by kernel_rfl) (by kernel_rfl) (by decide) (by kernel_rfl) (by kernel_rfl) (by kernel_rfl) (Nat.le_of_ble_eq_true (by kernel_rfl)) _
    (fun x => Snd.seq (by kernel_rfl) (Snd.seq (by kernel_rfl) (Snd.seq (by kernel_rfl) (Snd.seq (by kernel_rfl) (Snd.seq (by kernel_rfl) (Snd.exec hc _ _ _ _) (Snd.seq (by kernel_rfl) (Snd.block (id := 0) (by kernel_rfl) (Snd.loop' (by kernel_rfl) f140s6 (fun n x => impl_colAfter.l6 k S140 n x.1.1 x.1.2.1 x.1.2.2.1 x.1.2.2.2.2.1 x.1.2.2.2.2.2 x.2) _ (fun _ => rfl) (fun n6 => Snd.seq (by kernel_rfl) (Snd.seq (by kernel_rfl) (Snd.seq (by kernel_rfl) (Snd.exec hc _ _ _ _) (Snd.block (id := 1) (by kernel_rfl) (Snd.seq (by kernel_rfl) (Snd.seq (by kernel_rfl) (Snd.exec hc _ _ _ _) (Snd.seq (by kernel_rfl) (Snd.block (id := 2) (by kernel_rfl) (Snd.loop' (by kernel_rfl) f140s10 (fun n x => impl_colAfter.l10 k S140 (impl_colAfter.l6 k S140 n6) n x.1.1 x.1.2.1 x.1.2.2.1 x.1.2.2.2.2.1 x.1.2.2.2.2.2.1 x.1.2.2.2.2.2.2.2.1 x.1.2.2.2.2.2.2.2.2 x.2) _ (fun _ => rfl) (fun n10 => Snd.exec hc _ _ _ _) (fun n x => by kernel_rfl) k)) (Snd.exec hc _ _ _ _))) (Snd.exec hc _ _ _ _)))) (Snd.exec hc _ _ _ _)) (Snd.exec hc _ _ _ _)) (fun n x => by kernel_rfl) k)) (Snd.exec hc _ _ _ _))) (Snd.exec hc _ _ _ _)) (Snd.exec hc _ _ _ _)) (Snd.exec hc _ _ _ _)) (Snd.exec hc _ _ _ _))
    (fun x => by kernel_rfl)
theorem f140rec (k : Nat) : ∀ d, FnOk Try.prog 140 (f140con (impl_colAfter.d k d))
  | 0 => FnOk_none (fun _ => rfl)
  | d + 1 => let ih := f140rec k d
    f140okb k (impl_colAfter.d k d) ih
theorem f140ok (k : Nat) : FnOk Try.prog 140 (f140con (impl_colAfter k)) := (f140rec k k)

def f68in : SS := ⟨[(0, (.ro (.list 126 (.st (.cons .str (.cons (.int .i64) (.cons (.int .i64) (.cons (.int .i64) .nil))))))))], []⟩
def f68out : SS := ⟨[(0, (.ro .bool))], []⟩
def f68con (F : (List TCol) → Option Bool) : Con := ⟨f68in, f68out, 1, 1, fun x => F x⟩
def f68ctx (k : Nat) : Ctx := ⟨tyAt tys, conAt [(77, [f77con (impl_within k)]), (140, [f140con (impl_colAfter k)])], 33, fun _ => false⟩
theorem f68hc (k : Nat) : CtxOk Try.prog (f68ctx k) := ctxOk tys_ok mixed_ok (consOk_cons (f77ok k) (consOk_cons (f140ok k) (consOk_nil)))
theorem f68ok (k : Nat) : FnOk Try.prog 68 (f68con (impl_SchemaOk k)) :=
  let hc := f68hc k
  fnOk (fn := Try.f68) (code := bodyOf Try.f68) (res := [.tmp 2]) hc (by kernel_rfl) (by kernel_rfl) (by decide) (by kernel_rfl) (by kernel_rfl) (by kernel_rfl) (Nat.le_of_ble_eq_true (by kernel_rfl)) _
    (fun x => Snd.exec hc _ _ _ _)
    (fun x => by kernel_rfl)

def f91in : SS := ⟨[(0, (.ro (.list 126 (.st (.cons .str (.cons (.int .i64) (.cons (.int .i64) (.cons (.int .i64) .nil))))))))], []⟩
def f91out : SS := ⟨[(0, (.h 100))], [(100, (.sl 3 (.int .i64)))]⟩
def f91s7 : SS := ⟨[(3, (.h 100)), (7, (.ro (.list 126 (.st (.cons .str (.cons (.int .i64) (.cons (.int .i64) (.cons (.int .i64) .nil)))))))), (8, (.ro (.int .i64))), (9, (.ro (.int .i64)))], [(100, (.sl 3 (.int .i64)))]⟩
def f91s3 : SS := ⟨[(3, (.h 100)), (7, (.ro (.list 126 (.st (.cons .str (.cons (.int .i64) (.cons (.int .i64) (.cons (.int .i64) .nil)))))))), (8, (.ro (.int .i64))), (9, (.ro (.int .i64)))], [(100, (.sl 3 (.int .i64)))]⟩
def f91con (F : (List TCol) → Option (Unit × (List Int))) : Con := ⟨f91in, f91out, 1, 1, fun x => F x⟩
def f91ctx (k : Nat) : Ctx := ⟨tyAt tys, conAt [], 23, fun _ => false⟩
theorem f91hc (k : Nat) : CtxOk Try.prog (f91ctx k) := ctxOk tys_ok mixed_ok (consOk_nil)
theorem f91ok (k : Nat) : FnOk Try.prog 91 (f91con (impl_leavesOf k)) :=
  let hc := f91hc k
  fnOk (fn := Try.f91) (code := bodyOf Try.f91) (res := [.tmp 2]) hc (by kernel_rfl) (by kernel_rfl) (by decide) (by kernel_rfl) (by kernel_rfl) (by kernel_rfl) (Nat.le_of_ble_eq_true (by kernel_rfl)) _
    (fun x => Snd.seq (by kernel_rfl) (Snd.seq (by kernel_rfl) (Snd.seq (by kernel_rfl) (Snd.exec hc _ _ _ _) (Snd.seq (by kernel_rfl) (Snd.block (id := 0) (by kernel_rfl) (Snd.loop' (by kernel_rfl) f91s3 (fun n x => impl_leavesOf.l3 k n x.1.2.1 x.1.2.2.1 x.1.2.2.2 x.2) _ (fun _ => rfl) (fun n3 => Snd.seq (by kernel_rfl) (Snd.seq (by kernel_rfl) (Snd.seq (by kernel_rfl) (Snd.cut (Snd.exec hc _ _ _ _) ⟨f91s7, fun x => impl_leavesOf.c7 k (impl_leavesOf.l3 k n3) x.1.2.1 x.1.2.2.1 x.1.2.2.2 x.2⟩ (fun x => by kernel_rfl)) (Snd.exec hc _ _ _ _)) (Snd.exec hc _ _ _ _)) (Snd.exec hc _ _ _ _)) (fun n x => by kernel_rfl) k)) (Snd.exec hc _ _ _ _))) (Snd.exec hc _ _ _ _)) (Snd.exec hc _ _ _ _))
    (fun x => by kernel_rfl)

def f76in : SS := ⟨[(0, (.ro (.list 126 (.st (.cons .str (.cons (.int .i64) (.cons (.int .i64) (.cons (.int .i64) .nil))))))))], []⟩
def f76out : SS := ⟨[(0, (.h 100))], [(100, (.sl 3 (.int .i64)))]⟩
def f76con (F : (List TCol) → Option (Unit × (List Int))) : Con := ⟨f76in, f76out, 1, 1, fun x => F x⟩
def f76ctx (k : Nat) : Ctx := ⟨tyAt tys, conAt [(68, [f68con (impl_SchemaOk k)]), (91, [f91con (impl_leavesOf k)])], 8, fun _ => false⟩
theorem f76hc (k : Nat) : CtxOk Try.prog (f76ctx k) := ctxOk tys_ok mixed_ok (consOk_cons (f68ok k) (consOk_cons (f91ok k) (consOk_nil)))
theorem f76ok (k : Nat) : FnOk Try.prog 76 (f76con (impl_SchemaLeaves k)) :=
  let hc := f76hc k
  fnOk (fn := Try.f76) (code := bodyOf Try.f76) (res := [.tmp 2]) hc (by kernel_rfl) (by kernel_rfl) (by decide) (by kernel_rfl) (by kernel_rfl) (by kernel_rfl) (Nat.le_of_ble_eq_true (by kernel_rfl)) _
    (fun x => Snd.exec hc _ _ _ _)
    (fun x => by kernel_rfl)

def f214in : SS := ⟨[(0, (.ro (.list 126 (.st (.cons .str (.cons (.int .i64) (.cons (.int .i64) (.cons (.int .i64) .nil)))))))), (1, (.ro (.int .i64)))], []⟩
def f214out : SS := ⟨[(0, (.h 100))], [(100, (.sl 3 (.int .i64)))]⟩
def f214s6 : SS := ⟨[(0, (.ro (.list 126 (.st (.cons .str (.cons (.int .i64) (.cons (.int .i64) (.cons (.int .i64) .nil)))))))), (1, (.ro (.int .i64))), (5, (.h 100)), (6, (.h 101)), (7, (.ro (.int .i64)))], [(100, (.sl 3 (.int .i64))), (101, (.sl 3 (.int .i64)))]⟩
def f214con (F : (List TCol) → Int → Option (Unit × (List Int))) : Con := ⟨f214in, f214out, 2, 1, fun x => F x.1 x.2⟩
def f214ctx (k : Nat) : Ctx := ⟨tyAt tys, conAt [(76, [f76con (impl_SchemaLeaves k)]), (77, [f77con (impl_within k)]), (140, [f140con (impl_colAfter k)])], 41, fun _ => false⟩
theorem f214hc (k : Nat) : CtxOk Try.prog (f214ctx k) := ctxOk tys_ok mixed_ok (consOk_cons (f76ok k) (consOk_cons (f77ok k) (consOk_cons (f140ok k) (consOk_nil))))
theorem f214ok (k : Nat) : FnOk Try.prog 214 (f214con (impl_wayTo k)) :=
  let hc := f214hc k
  fnOk (fn := Try.f214) (code := bodyOf Try.f214) (res := [.tmp 4]) hc (by kernel_rfl) (by kernel_rfl) (by decide) (by kernel_rfl) (by kernel_rfl) (by kernel_rfl) (Nat.le_of_ble_eq_true (by kernel_rfl)) _
    (fun x => Snd.seq (by kernel_rfl) (Snd.seq (by kernel_rfl) (Snd.seq (by kernel_rfl) (Snd.seq (by kernel_rfl) (Snd.seq (by kernel_rfl) (Snd.exec hc _ _ _ _) (Snd.seq (by kernel_rfl) (Snd.block (id := 0) (by kernel_rfl) (Snd.loop' (by kernel_rfl) f214s6 (fun n x => impl_wayTo.l6 k n x.1.1 x.1.2.1 x.1.2.2.2.2 x.2.1 x.2.2) _ (fun _ => rfl) (fun n6 => Snd.exec hc _ _ _ _) (fun n x => by kernel_rfl) k)) (Snd.exec hc _ _ _ _))) (Snd.exec hc _ _ _ _)) (Snd.exec hc _ _ _ _)) (Snd.exec hc _ _ _ _)) (Snd.exec hc _ _ _ _))
    (fun x => by kernel_rfl)

def f174in : SS := ⟨[(0, (.ro (.list 126 (.st (.cons .str (.cons (.int .i64) (.cons (.int .i64) (.cons (.int .i64) .nil)))))))), (1, (.ro (.int .i64)))], []⟩
def f174out : SS := ⟨[(0, (.ro (.int .i64))), (1, (.ro (.int .i64)))], []⟩
def f174s12 : SS := ⟨[(0, (.ro (.list 126 (.st (.cons .str (.cons (.int .i64) (.cons (.int .i64) (.cons (.int .i64) .nil)))))))), (7, (.ro (.int .i64))), (8, (.ro (.int .i64))), (17, (.h 100)), (18, (.ro (.int .i64))), (19, (.ro (.int .i64)))], [(100, (.sl 3 (.int .i64)))]⟩
def f174s10 : SS := ⟨[(0, (.ro (.list 126 (.st (.cons .str (.cons (.int .i64) (.cons (.int .i64) (.cons (.int .i64) .nil)))))))), (7, (.ro (.int .i64))), (8, (.ro (.int .i64))), (10, (.ro (.int .i64))), (17, (.h 100)), (18, (.ro (.int .i64))), (19, (.ro (.int .i64)))], [(100, (.sl 3 (.int .i64)))]⟩
def f174s6 : SS := ⟨[(0, (.ro (.list 126 (.st (.cons .str (.cons (.int .i64) (.cons (.int .i64) (.cons (.int .i64) .nil)))))))), (7, (.ro (.int .i64))), (8, (.ro (.int .i64))), (17, (.h 100)), (18, (.ro (.int .i64))), (19, (.ro (.int .i64)))], [(100, (.sl 3 (.int .i64)))]⟩
def f174con (F : (List TCol) → Int → Option (Int × Int)) : Con := ⟨f174in, f174out, 2, 2, fun x => F x.1 x.2⟩
def f174ctx (k : Nat) : Ctx := ⟨tyAt tys, conAt [(214, [f214con (impl_wayTo k)])], 42, fun _ => false⟩
theorem f174hc (k : Nat) : CtxOk Try.prog (f174ctx k) := ctxOk tys_ok mixed_ok (consOk_cons (f214ok k) (consOk_nil))
theorem f174ok (k : Nat) : FnOk Try.prog 174 (f174con (impl_LeafMax k)) :=
  let hc := f174hc k
  fnOk (fn := Try.f174) (code := bodyOf Try.f174) (res := [.tmp 4, .tmp 5]) hc (by kernel_rfl) (by kernel_rfl) (by decide) (by kernel_rfl) (by kernel_rfl) (by kernel_rfl) (Nat.le_of_ble_eq_true (by kernel_rfl)) _
    (fun x => Snd.seq (by kernel_rfl) (Snd.seq (by kernel_rfl) (Snd.seq (by kernel_rfl) (Snd.seq (by kernel_rfl) (Snd.seq (by kernel_rfl) (Snd.exec hc _ _ _ _) (Snd.seq (by kernel_rfl) (Snd.block (id := 0) (by kernel_rfl) (Snd.loop' (by kernel_rfl) f174s6 (fun n x => impl_LeafMax.l6 k n x.1.1 x.1.2.1 x.1.2.2.1 x.1.2.2.2.2.1 x.1.2.2.2.2.2 x.2) _ (fun _ => rfl) (fun n6 => Snd.seq (by kernel_rfl) (Snd.seq (by kernel_rfl) (Snd.seq (by kernel_rfl) (Snd.cut (Snd.exec hc _ _ _ _) ⟨f174s12, fun x => impl_LeafMax.c12 k (impl_LeafMax.l6 k n6) x.1.1 x.1.2.1 x.1.2.2.1 x.1.2.2.2.2.1 x.1.2.2.2.2.2 x.2⟩ (fun x => by kernel_rfl)) (Snd.block (id := 1) (by kernel_rfl) (Snd.seq (by kernel_rfl) (Snd.seq (by kernel_rfl) (Snd.cut (Snd.exec hc _ _ _ _) ⟨f174s10, fun x => impl_LeafMax.c10 k (impl_LeafMax.l6 k n6) x.1.1 x.1.2.1 x.1.2.2.1 x.1.2.2.2.1 x.1.2.2.2.2.2.1 x.1.2.2.2.2.2.2 x.2⟩ (fun x => by kernel_rfl)) (Snd.exec hc _ _ _ _)) (Snd.exec hc _ _ _ _)))) (Snd.exec hc _ _ _ _)) (Snd.exec hc _ _ _ _)) (fun n x => by kernel_rfl) k)) (Snd.exec hc _ _ _ _))) (Snd.exec hc _ _ _ _)) (Snd.exec hc _ _ _ _)) (Snd.exec hc _ _ _ _)) (Snd.exec hc _ _ _ _))
    (fun x => by kernel_rfl)

def f111in : SS := ⟨[(0, (.ro (.list 126 (.st (.cons .str (.cons (.int .i64) (.cons (.int .i64) (.cons (.int .i64) .nil)))))))), (1, (.ro (.int .i64)))], []⟩
def f111out : SS := ⟨[(0, (.agg (.cons (.ro (.int .i64)) (.cons (.ro (.int .i64)) (.cons (.ro (.int .i64)) .nil))))), (1, (.ro .bool))], []⟩
def f111con (F : (List TCol) → Int → Option (TLeaf × Bool)) : Con := ⟨f111in, f111out, 2, 2, fun x => F x.1 x.2⟩
def f111ctx (k : Nat) : Ctx := ⟨tyAt tys, conAt [(76, [f76con (impl_SchemaLeaves k)]), (77, [f77con (impl_within k)]), (174, [f174con (impl_LeafMax k)])], 35, fun _ => false⟩
theorem f111hc (k : Nat) : CtxOk Try.prog (f111ctx k) := ctxOk tys_ok mixed_ok (consOk_cons (f76ok k) (consOk_cons (f77ok k) (consOk_cons (f174ok k) (consOk_nil))))
theorem f111ok (k : Nat) : FnOk Try.prog 111 (f111con (impl_LeafOf k)) :=
  let hc := f111hc k
  fnOk (fn := Try.f111) (code := bodyOf Try.f111) (res := [.cell 4 147, .tmp 5]) hc (by kernel_rfl) (by kernel_rfl) (by decide) (by kernel_rfl) (by kernel_rfl) (by kernel_rfl) (Nat.le_of_ble_eq_true (by kernel_rfl)) _
    (fun x => Snd.exec hc _ _ _ _)
    (fun x => by kernel_rfl)

def f160in : SS := ⟨[(0, (.ro (.int .i64)))], []⟩
def f160out : SS := ⟨[(0, (.ro .bool))], []⟩
def f160con (F : Int → Option Bool) : Con := ⟨f160in, f160out, 1, 1, fun x => F x⟩
def f160ctx (k : Nat) : Ctx := ⟨tyAt tys, conAt [(77, [f77con (impl_within k)])], 5, fun _ => false⟩
theorem f160hc (k : Nat) : CtxOk Try.prog (f160ctx k) := ctxOk tys_ok mixed_ok (consOk_cons (f77ok k) (consOk_nil))
theorem f160ok (k : Nat) : FnOk Try.prog 160 (f160con (impl_isInt32 k)) :=
  let hc := f160hc k
  fnOk (fn := Try.f160) (code := bodyOf Try.f160) (res := [.tmp 2]) hc (by kernel_rfl) (by kernel_rfl) (by decide) (by kernel_rfl) (by kernel_rfl) (by kernel_rfl) (Nat.le_of_ble_eq_true (by kernel_rfl)) _
    (fun x => Snd.exec hc _ _ _ _)
    (fun x => by kernel_rfl)

def f187in : SS := ⟨[(0, (.ro (.int .i64))), (1, (.ro (.st (.cons (.int .i64) (.cons .str .nil)))))], []⟩
def f187out : SS := ⟨[(0, (.ro .bool))], []⟩
def f187s8 : SS := ⟨[(0, (.ro (.int .i64))), (3, (.p 100)), (26, (.ro .bool))], [(100, (.box (.st (.cons (.int .i64) (.cons .str .nil))) (.agg (.cons (.ro (.int .i64)) (.cons (.ro .str) .nil)))))]⟩
def f187con (F : Int → TVal → Option Bool) : Con := ⟨f187in, f187out, 2, 1, fun x => F x.1 x.2⟩
def f187ctx (k : Nat) : Ctx := ⟨tyAt tys, conAt [(77, [f77con (impl_within k)]), (160, [f160con (impl_isInt32 k)])], 45, fun _ => false⟩
theorem f187hc (k : Nat) : CtxOk Try.prog (f187ctx k) := ctxOk tys_ok mixed_ok (consOk_cons (f77ok k) (consOk_cons (f160ok k) (consOk_nil)))
theorem f187ok (k : Nat) : FnOk Try.prog 187 (f187con (impl_ValOk k)) :=
  let hc := f187hc k
  fnOk (fn := Try.f187) (code := bodyOf Try.f187) (res := [.tmp 4]) hc (by kernel_rfl) (by kernel_rfl) (by decide) (by kernel_rfl) (by kernel_rfl) (by kernel_rfl) (Nat.le_of_ble_eq_true (by kernel_rfl)) _
    (fun x => Snd.seq (by kernel_rfl) (Snd.seq (by kernel_rfl) (Snd.exec hc _ _ _ _) (Snd.seq (by kernel_rfl) (Snd.block (id := 0) (by kernel_rfl) (Snd.seq (by kernel_rfl) (Snd.cond (x := .tmp 6) (by kernel_rfl) (Snd.exec hc _ _ _ _) (Snd.seq (by kernel_rfl) (Snd.cond (x := .tmp 16) (by kernel_rfl) (Snd.exec hc _ _ _ _) (Snd.seq (by kernel_rfl) (Snd.cut (Snd.exec hc _ _ _ _) ⟨f187s8, fun x => impl_ValOk.c8 k x.1.1 x.1.2.2 x.2⟩ (fun x => by kernel_rfl)) (Snd.exec hc _ _ _ _))) (Snd.exec hc _ _ _ _))) (Snd.exec hc _ _ _ _))) (Snd.exec hc _ _ _ _))) (Snd.exec hc _ _ _ _))
    (fun x => by kernel_rfl)

def f175in : SS := ⟨[(0, (.ro (.st (.cons (.int .i64) (.cons (.int .i64) (.cons (.int .i64) .nil)))))), (1, (.ro (.st (.cons (.int .i64) (.cons (.int .i64) (.cons (.st (.cons (.int .i64) (.cons .str .nil))) .nil))))))], []⟩
def f175out : SS := ⟨[(0, (.ro .bool))], []⟩
def f175con (F : TLeaf → TTriple → Option Bool) : Con := ⟨f175in, f175out, 2, 1, fun x => F x.1 x.2⟩
def f175ctx (k : Nat) : Ctx := ⟨tyAt tys, conAt [(77, [f77con (impl_within k)]), (187, [f187con (impl_ValOk k)])], 33, fun _ => false⟩
theorem f175hc (k : Nat) : CtxOk Try.prog (f175ctx k) := ctxOk tys_ok mixed_ok (consOk_cons (f77ok k) (consOk_cons (f187ok k) (consOk_nil)))
theorem f175ok (k : Nat) : FnOk Try.prog 175 (f175con (impl_tripleOk k)) :=
  let hc := f175hc k
  fnOk (fn := Try.f175) (code := bodyOf Try.f175) (res := [.tmp 4]) hc (by kernel_rfl) (by kernel_rfl) (by decide) (by kernel_rfl) (by kernel_rfl) (by kernel_rfl) (Nat.le_of_ble_eq_true (by kernel_rfl)) _
    (fun x => Snd.exec hc _ _ _ _)
    (fun x => by kernel_rfl)

def f112in : SS := ⟨[(0, (.ro (.st (.cons (.int .i64) (.cons (.int .i64) (.cons (.int .i64) .nil)))))), (1, (.ro (.list 54 (.st (.cons (.int .i64) (.cons (.int .i64) (.cons (.st (.cons (.int .i64) (.cons .str .nil))) .nil)))))))], []⟩
def f112out : SS := ⟨[(0, (.ro .bool))], []⟩
def f112s2 : SS := ⟨[(1, (.ro (.list 54 (.st (.cons (.int .i64) (.cons (.int .i64) (.cons (.st (.cons (.int .i64) (.cons .str .nil))) .nil))))))), (2, (.p 100)), (7, (.ro (.list 54 (.st (.cons (.int .i64) (.cons (.int .i64) (.cons (.st (.cons (.int .i64) (.cons .str .nil))) .nil))))))), (8, (.ro (.int .i64))), (9, (.ro (.int .i64)))], [(100, (.box (.st (.cons (.int .i64) (.cons (.int .i64) (.cons (.int .i64) .nil)))) (.agg (.cons (.ro (.int .i64)) (.cons (.ro (.int .i64)) (.cons (.ro (.int .i64)) .nil))))))]⟩
def f112con (F : TLeaf → (List TTriple) → Option Bool) : Con := ⟨f112in, f112out, 2, 1, fun x => F x.1 x.2⟩
def f112ctx (k : Nat) : Ctx := ⟨tyAt tys, conAt [(175, [f175con (impl_tripleOk k)])], 21, fun _ => false⟩
theorem f112hc (k : Nat) : CtxOk Try.prog (f112ctx k) := ctxOk tys_ok mixed_ok (consOk_cons (f175ok k) (consOk_nil))
theorem f112ok (k : Nat) : FnOk Try.prog 112 (f112con (impl_triplesRight k)) :=
  let hc := f112hc k
  fnOk (fn := Try.f112) (code := bodyOf Try.f112) (res := [.tmp 4]) hc (by kernel_rfl) (by kernel_rfl) (by decide) (by kernel_rfl) (by kernel_rfl) (by kernel_rfl) (Nat.le_of_ble_eq_true (by kernel_rfl)) _
    (fun x => Snd.seq (by kernel_rfl) (Snd.seq (by kernel_rfl) (Snd.exec hc _ _ _ _) (Snd.seq (by kernel_rfl) (Snd.block (id := 0) (by kernel_rfl) (Snd.loop' (by kernel_rfl) f112s2 (fun n x => impl_triplesRight.l2 k n x.1.1 x.1.2.2.1 x.1.2.2.2.1 x.1.2.2.2.2 x.2) _ (fun _ => rfl) (fun n2 => Snd.exec hc _ _ _ _) (fun n x => by kernel_rfl) k)) (Snd.exec hc _ _ _ _))) (Snd.exec hc _ _ _ _))
    (fun x => by kernel_rfl)

def f44in : SS := ⟨[(0, (.ro (.list 126 (.st (.cons .str (.cons (.int .i64) (.cons (.int .i64) (.cons (.int .i64) .nil)))))))), (1, (.ro (.int .i64))), (2, (.ro (.list 54 (.st (.cons (.int .i64) (.cons (.int .i64) (.cons (.st (.cons (.int .i64) (.cons .str .nil))) .nil)))))))], []⟩
def f44out : SS := ⟨[(0, (.ro .bool))], []⟩
def f44con (F : (List TCol) → Int → (List TTriple) → Option Bool) : Con := ⟨f44in, f44out, 3, 1, fun x => F x.1 x.2.1 x.2.2⟩
def f44ctx (k : Nat) : Ctx := ⟨tyAt tys, conAt [(111, [f111con (impl_LeafOf k)]), (112, [f112con (impl_triplesRight k)])], 33, fun _ => false⟩
theorem f44hc (k : Nat) : CtxOk Try.prog (f44ctx k) := ctxOk tys_ok mixed_ok (consOk_cons (f111ok k) (consOk_cons (f112ok k) (consOk_nil)))
theorem f44ok (k : Nat) : FnOk Try.prog 44 (f44con (impl_TriplesOk k)) :=
  let hc := f44hc k
  fnOk (fn := Try.f44) (code := bodyOf Try.f44) (res := [.tmp 6]) hc (by kernel_rfl) (by kernel_rfl) (by decide) (by kernel_rfl) (by kernel_rfl) (by kernel_rfl) (Nat.le_of_ble_eq_true (by kernel_rfl)) _
    (fun x => Snd.exec hc _ _ _ _)
    (fun x => by kernel_rfl)

def f90in : SS := ⟨[(0, (.ro (.list 126 (.st (.cons .str (.cons (.int .i64) (.cons (.int .i64) (.cons (.int .i64) .nil))))))))], []⟩
def f90out : SS := ⟨[(0, (.h 100))], [(100, (.sl 3 (.int .i64)))]⟩
def f90s3 : SS := ⟨[(3, (.h 100)), (10, (.h 101)), (11, (.ro (.int .i64))), (12, (.ro (.int .i64)))], [(100, (.sl 3 (.int .i64))), (101, (.sl 3 (.int .i64)))]⟩
def f90con (F : (List TCol) → Option (Unit × (List Int))) : Con := ⟨f90in, f90out, 1, 1, fun x => F x⟩
def f90ctx (k : Nat) : Ctx := ⟨tyAt tys, conAt [(91, [f91con (impl_leavesOf k)])], 23, fun _ => false⟩
theorem f90hc (k : Nat) : CtxOk Try.prog (f90ctx k) := ctxOk tys_ok mixed_ok (consOk_cons (f91ok k) (consOk_nil))
theorem f90ok (k : Nat) : FnOk Try.prog 90 (f90con (impl_leafNumbers k)) :=
  let hc := f90hc k
  fnOk (fn := Try.f90) (code := bodyOf Try.f90) (res := [.tmp 2]) hc (by kernel_rfl) (by kernel_rfl) (by decide) (by kernel_rfl) (by kernel_rfl) (by kernel_rfl) (Nat.le_of_ble_eq_true (by kernel_rfl)) _
    (fun x => Snd.seq (by kernel_rfl) (Snd.seq (by kernel_rfl) (Snd.seq (by kernel_rfl) (Snd.exec hc _ _ _ _) (Snd.seq (by kernel_rfl) (Snd.block (id := 0) (by kernel_rfl) (Snd.loop' (by kernel_rfl) f90s3 (fun n x => impl_leafNumbers.l3 k n x.1.2.2.1 x.1.2.2.2 x.2.1 x.2.2) _ (fun _ => rfl) (fun n3 => Snd.exec hc _ _ _ _) (fun n x => by kernel_rfl) k)) (Snd.exec hc _ _ _ _))) (Snd.exec hc _ _ _ _)) (Snd.exec hc _ _ _ _))
    (fun x => by kernel_rfl)

def f43in : SS := ⟨[(0, (.ro (.list 54 (.st (.cons (.int .i64) (.cons (.int .i64) (.cons (.st (.cons (.int .i64) (.cons .str .nil))) .nil)))))))], []⟩
def f43out : SS := ⟨[(0, (.ro (.int .i64)))], []⟩
def f43s7 : SS := ⟨[(3, (.ro (.int .i64))), (6, (.ro (.list 54 (.st (.cons (.int .i64) (.cons (.int .i64) (.cons (.st (.cons (.int .i64) (.cons .str .nil))) .nil))))))), (7, (.ro (.int .i64))), (8, (.ro (.int .i64)))], []⟩
def f43s3 : SS := ⟨[(3, (.ro (.int .i64))), (6, (.ro (.list 54 (.st (.cons (.int .i64) (.cons (.int .i64) (.cons (.st (.cons (.int .i64) (.cons .str .nil))) .nil))))))), (7, (.ro (.int .i64))), (8, (.ro (.int .i64)))], []⟩
def f43con (F : (List TTriple) → Option Int) : Con := ⟨f43in, f43out, 1, 1, fun x => F x⟩
def f43ctx (k : Nat) : Ctx := ⟨tyAt tys, conAt [], 19, fun _ => false⟩
theorem f43hc (k : Nat) : CtxOk Try.prog (f43ctx k) := ctxOk tys_ok mixed_ok (consOk_nil)
theorem f43ok (k : Nat) : FnOk Try.prog 43 (f43con (impl_RowsOf k)) :=
  let hc := f43hc k
  fnOk (fn := Try.f43) (code := bodyOf Try.f43) (res := [.tmp 2]) hc (by kernel_rfl) (by kernel_rfl) (by decide) (by kernel_rfl) (by kernel_rfl) (by kernel_rfl) (Nat.le_of_ble_eq_true (by kernel_rfl)) _
    (fun x => Snd.seq (by kernel_rfl) (Snd.seq (by kernel_rfl) (Snd.seq (by kernel_rfl) (Snd.exec hc _ _ _ _) (Snd.seq (by kernel_rfl) (Snd.block (id := 0) (by kernel_rfl) (Snd.loop' (by kernel_rfl) f43s3 (fun n x => impl_RowsOf.l3 k n x.1 x.2.1 x.2.2.1 x.2.2.2) _ (fun _ => rfl) (fun n3 => Snd.seq (by kernel_rfl) (Snd.seq (by kernel_rfl) (Snd.seq (by kernel_rfl) (Snd.cut (Snd.exec hc _ _ _ _) ⟨f43s7, fun x => impl_RowsOf.c7 k (impl_RowsOf.l3 k n3) x.1 x.2.1 x.2.2.1 x.2.2.2⟩ (fun x => by kernel_rfl)) (Snd.exec hc _ _ _ _)) (Snd.exec hc _ _ _ _)) (Snd.exec hc _ _ _ _)) (fun n x => by kernel_rfl) k)) (Snd.exec hc _ _ _ _))) (Snd.exec hc _ _ _ _)) (Snd.exec hc _ _ _ _))
    (fun x => by kernel_rfl)

def f113in : SS := ⟨[(0, (.ro (.list 50 (.st (.cons (.list 54 (.st (.cons (.int .i64) (.cons (.int .i64) (.cons (.st (.cons (.int .i64) (.cons .str .nil))) .nil))))) .nil)))))], []⟩
def f113out : SS := ⟨[(0, (.ro (.int .i64))), (1, (.ro .bool))], []⟩
def f113s3 : SS := ⟨[(4, (.ro (.int .i64))), (12, (.ro (.list 50 (.st (.cons (.list 54 (.st (.cons (.int .i64) (.cons (.int .i64) (.cons (.st (.cons (.int .i64) (.cons .str .nil))) .nil))))) .nil))))), (13, (.ro (.int .i64))), (14, (.ro (.int .i64)))], []⟩
def f113con (F : (List TColumn) → Option (Int × Bool)) : Con := ⟨f113in, f113out, 1, 2, fun x => F x⟩
def f113ctx (k : Nat) : Ctx := ⟨tyAt tys, conAt [(43, [f43con (impl_RowsOf k)])], 27, fun _ => false⟩
theorem f113hc (k : Nat) : CtxOk Try.prog (f113ctx k) := ctxOk tys_ok mixed_ok (consOk_cons (f43ok k) (consOk_nil))
theorem f113ok (k : Nat) : FnOk Try.prog 113 (f113con (impl_rowsAlike k)) :=
  let hc := f113hc k
  fnOk (fn := Try.f113) (code := bodyOf Try.f113) (res := [.tmp 2, .tmp 3]) hc (by kernel_rfl) (by kernel_rfl) (by decide) (by kernel_rfl) (by kernel_rfl) (by kernel_rfl) (Nat.le_of_ble_eq_true (by kernel_rfl)) _
    (fun x => Snd.seq (by kernel_rfl) (Snd.seq (by kernel_rfl) (Snd.seq (by kernel_rfl) (Snd.exec hc _ _ _ _) (Snd.seq (by kernel_rfl) (Snd.block (id := 0) (by kernel_rfl) (Snd.loop' (by kernel_rfl) f113s3 (fun n x => impl_rowsAlike.l3 k n x.1 x.2.1 x.2.2.1 x.2.2.2) _ (fun _ => rfl) (fun n3 => Snd.exec hc _ _ _ _) (fun n x => by kernel_rfl) k)) (Snd.exec hc _ _ _ _))) (Snd.exec hc _ _ _ _)) (Snd.exec hc _ _ _ _))
    (fun x => by kernel_rfl)

def f215in : SS := ⟨[(0, (.p 0)), (1, (.ro (.int .i64)))], [(0, (.box (.st (.cons (.list 126 (.st (.cons .str (.cons (.int .i64) (.cons (.int .i64) (.cons (.int .i64) .nil)))))) (.cons (.list 50 (.st (.cons (.list 54 (.st (.cons (.int .i64) (.cons (.int .i64) (.cons (.st (.cons (.int .i64) (.cons .str .nil))) .nil))))) .nil))) (.cons (.list 3 (.int .i64)) (.cons (.list 3 (.int .i64)) (.cons (.list 52 (.st (.cons (.int .i64) (.cons .str .nil)))) (.cons .bool (.cons .bool .nil)))))))) (.agg (.cons (.ro (.list 126 (.st (.cons .str (.cons (.int .i64) (.cons (.int .i64) (.cons (.int .i64) .nil))))))) (.cons (.ro (.list 50 (.st (.cons (.list 54 (.st (.cons (.int .i64) (.cons (.int .i64) (.cons (.st (.cons (.int .i64) (.cons .str .nil))) .nil))))) .nil)))) (.cons (.ro (.list 3 (.int .i64))) (.cons (.h 10) (.cons (.h 11) (.cons (.ro .bool) (.cons (.ro .bool) .nil)))))))))), (10, (.sl 3 (.int .i64))), (11, (.sl 52 (.st (.cons (.int .i64) (.cons .str .nil)))))]⟩
def f215out : SS := ⟨[(0, (.agg (.cons (.ro (.int .i64)) (.cons (.ro (.int .i64)) (.cons (.agg (.cons (.ro (.int .i64)) (.cons (.ro .str) .nil))) .nil))))), (1, (.ro .bool))], [(0, (.box (.st (.cons (.list 126 (.st (.cons .str (.cons (.int .i64) (.cons (.int .i64) (.cons (.int .i64) .nil)))))) (.cons (.list 50 (.st (.cons (.list 54 (.st (.cons (.int .i64) (.cons (.int .i64) (.cons (.st (.cons (.int .i64) (.cons .str .nil))) .nil))))) .nil))) (.cons (.list 3 (.int .i64)) (.cons (.list 3 (.int .i64)) (.cons (.list 52 (.st (.cons (.int .i64) (.cons .str .nil)))) (.cons .bool (.cons .bool .nil)))))))) (.agg (.cons (.ro (.list 126 (.st (.cons .str (.cons (.int .i64) (.cons (.int .i64) (.cons (.int .i64) .nil))))))) (.cons (.ro (.list 50 (.st (.cons (.list 54 (.st (.cons (.int .i64) (.cons (.int .i64) (.cons (.st (.cons (.int .i64) (.cons .str .nil))) .nil))))) .nil)))) (.cons (.ro (.list 3 (.int .i64))) (.cons (.h 10) (.cons (.h 11) (.cons (.ro .bool) (.cons (.ro .bool) .nil)))))))))), (10, (.sl 3 (.int .i64))), (11, (.sl 52 (.st (.cons (.int .i64) (.cons .str .nil)))))]⟩
def f215s1 : SS := ⟨[(0, (.p 0)), (1, (.ro (.int .i64))), (4, (.p 100))], [(0, (.box (.st (.cons (.list 126 (.st (.cons .str (.cons (.int .i64) (.cons (.int .i64) (.cons (.int .i64) .nil)))))) (.cons (.list 50 (.st (.cons (.list 54 (.st (.cons (.int .i64) (.cons (.int .i64) (.cons (.st (.cons (.int .i64) (.cons .str .nil))) .nil))))) .nil))) (.cons (.list 3 (.int .i64)) (.cons (.list 3 (.int .i64)) (.cons (.list 52 (.st (.cons (.int .i64) (.cons .str .nil)))) (.cons .bool (.cons .bool .nil)))))))) (.agg (.cons (.ro (.list 126 (.st (.cons .str (.cons (.int .i64) (.cons (.int .i64) (.cons (.int .i64) .nil))))))) (.cons (.ro (.list 50 (.st (.cons (.list 54 (.st (.cons (.int .i64) (.cons (.int .i64) (.cons (.st (.cons (.int .i64) (.cons .str .nil))) .nil))))) .nil)))) (.cons (.ro (.list 3 (.int .i64))) (.cons (.h 10) (.cons (.h 11) (.cons (.ro .bool) (.cons (.ro .bool) .nil)))))))))), (10, (.sl 3 (.int .i64))), (11, (.sl 52 (.st (.cons (.int .i64) (.cons .str .nil))))), (100, (.box (.st (.cons (.int .i64) (.cons (.int .i64) (.cons (.st (.cons (.int .i64) (.cons .str .nil))) .nil)))) (.agg (.cons (.ro (.int .i64)) (.cons (.ro (.int .i64)) (.cons (.agg (.cons (.ro (.int .i64)) (.cons (.ro .str) .nil))) .nil))))))]⟩
def f215con (F : Int → TJoinerB → (List Int) → (List TVal) → Option ((TTriple × Bool) × TJoinerB × (List Int) × (List TVal))) : Con := ⟨f215in, f215out, 2, 2, fun x => F x.1.2 x.2.1 x.2.2.1 x.2.2.2⟩
def f215ctx (k : Nat) : Ctx := ⟨tyAt tys, conAt [], 60, fun _ => false⟩
theorem f215hc (k : Nat) : CtxOk Try.prog (f215ctx k) := ctxOk tys_ok mixed_ok (consOk_nil)
theorem f215ok (k : Nat) : FnOk Try.prog 215 (f215con (impl_joiner_peek k)) :=
  let hc := f215hc k
  fnOk (fn := Try.f215) (code := bodyOf Try.f215) (res := [.cell 4 54, .tmp 5]) hc (by kernel_rfl) (by kernel_rfl) (by decide) (by kernel_rfl) (by kernel_rfl) (by kernel_rfl) (Nat.le_of_ble_eq_true (by kernel_rfl)) _
    (fun x => Snd.seq (by kernel_rfl) (Snd.seq (by kernel_rfl) (Snd.exec hc _ _ _ _) (Snd.block (id := 0) (by kernel_rfl) (Snd.loop' (by kernel_rfl) f215s1 (fun n x => impl_joiner_peek.l1 k n x.1.2.1 x.2.1 x.2.2.1 x.2.2.2.1 x.2.2.2.2) _ (fun _ => rfl) (fun n1 => Snd.exec hc _ _ _ _) (fun n x => by kernel_rfl) k))) (Snd.exec hc _ _ _ _))
    (fun x => by kernel_rfl)

def f176in : SS := ⟨[(0, (.p 0)), (1, (.ro (.int .i64))), (2, (.ro (.int .i64))), (3, (.ro (.int .i64)))], [(0, (.box (.st (.cons (.list 126 (.st (.cons .str (.cons (.int .i64) (.cons (.int .i64) (.cons (.int .i64) .nil)))))) (.cons (.list 50 (.st (.cons (.list 54 (.st (.cons (.int .i64) (.cons (.int .i64) (.cons (.st (.cons (.int .i64) (.cons .str .nil))) .nil))))) .nil))) (.cons (.list 3 (.int .i64)) (.cons (.list 3 (.int .i64)) (.cons (.list 52 (.st (.cons (.int .i64) (.cons .str .nil)))) (.cons .bool (.cons .bool .nil)))))))) (.agg (.cons (.ro (.list 126 (.st (.cons .str (.cons (.int .i64) (.cons (.int .i64) (.cons (.int .i64) .nil))))))) (.cons (.ro (.list 50 (.st (.cons (.list 54 (.st (.cons (.int .i64) (.cons (.int .i64) (.cons (.st (.cons (.int .i64) (.cons .str .nil))) .nil))))) .nil)))) (.cons (.ro (.list 3 (.int .i64))) (.cons (.h 10) (.cons (.h 11) (.cons (.ro .bool) (.cons (.ro .bool) .nil)))))))))), (10, (.sl 3 (.int .i64))), (11, (.sl 52 (.st (.cons (.int .i64) (.cons .str .nil)))))]⟩
def f176out : SS := ⟨[(0, (.agg (.cons (.ro (.int .i64)) (.cons (.ro .str) .nil))))], [(0, (.box (.st (.cons (.list 126 (.st (.cons .str (.cons (.int .i64) (.cons (.int .i64) (.cons (.int .i64) .nil)))))) (.cons (.list 50 (.st (.cons (.list 54 (.st (.cons (.int .i64) (.cons (.int .i64) (.cons (.st (.cons (.int .i64) (.cons .str .nil))) .nil))))) .nil))) (.cons (.list 3 (.int .i64)) (.cons (.list 3 (.int .i64)) (.cons (.list 52 (.st (.cons (.int .i64) (.cons .str .nil)))) (.cons .bool (.cons .bool .nil)))))))) (.agg (.cons (.ro (.list 126 (.st (.cons .str (.cons (.int .i64) (.cons (.int .i64) (.cons (.int .i64) .nil))))))) (.cons (.ro (.list 50 (.st (.cons (.list 54 (.st (.cons (.int .i64) (.cons (.int .i64) (.cons (.st (.cons (.int .i64) (.cons .str .nil))) .nil))))) .nil)))) (.cons (.ro (.list 3 (.int .i64))) (.cons (.h 10) (.cons (.h 11) (.cons (.ro .bool) (.cons (.ro .bool) .nil)))))))))), (10, (.sl 3 (.int .i64))), (11, (.sl 52 (.st (.cons (.int .i64) (.cons .str .nil)))))]⟩
def f176con (F : Int → Int → Int → TJoinerB → (List Int) → (List TVal) → Option ((TVal) × TJoinerB × (List Int) × (List TVal))) : Con := ⟨f176in, f176out, 4, 1, fun x => F x.1.2.1 x.1.2.2.1 x.1.2.2.2 x.2.1 x.2.2.1 x.2.2.2⟩
def f176ctx (k : Nat) : Ctx := ⟨tyAt tys, conAt [(215, [f215con (impl_joiner_peek k)])], 58, fun _ => false⟩
theorem f176hc (k : Nat) : CtxOk Try.prog (f176ctx k) := ctxOk tys_ok mixed_ok (consOk_cons (f215ok k) (consOk_nil))
theorem f176ok (k : Nat) : FnOk Try.prog 176 (f176con (impl_joiner_take k)) :=
  let hc := f176hc k
  fnOk (fn := Try.f176) (code := bodyOf Try.f176) (res := [.cell 8 52]) hc (by kernel_rfl) (by kernel_rfl) (by decide) (by kernel_rfl) (by kernel_rfl) (by kernel_rfl) (Nat.le_of_ble_eq_true (by kernel_rfl)) _
    (fun x => Snd.exec hc _ _ _ _)
    (fun x => by kernel_rfl)

def f216in : SS := ⟨[(0, (.p 0)), (1, (.ro (.int .i64))), (2, (.ro (.int .i64))), (3, (.ro (.int .i64)))], [(0, (.box (.st (.cons (.list 126 (.st (.cons .str (.cons (.int .i64) (.cons (.int .i64) (.cons (.int .i64) .nil)))))) (.cons (.list 50 (.st (.cons (.list 54 (.st (.cons (.int .i64) (.cons (.int .i64) (.cons (.st (.cons (.int .i64) (.cons .str .nil))) .nil))))) .nil))) (.cons (.list 3 (.int .i64)) (.cons (.list 3 (.int .i64)) (.cons (.list 52 (.st (.cons (.int .i64) (.cons .str .nil)))) (.cons .bool (.cons .bool .nil)))))))) (.agg (.cons (.ro (.list 126 (.st (.cons .str (.cons (.int .i64) (.cons (.int .i64) (.cons (.int .i64) .nil))))))) (.cons (.ro (.list 50 (.st (.cons (.list 54 (.st (.cons (.int .i64) (.cons (.int .i64) (.cons (.st (.cons (.int .i64) (.cons .str .nil))) .nil))))) .nil)))) (.cons (.ro (.list 3 (.int .i64))) (.cons (.h 10) (.cons (.h 11) (.cons (.ro .bool) (.cons (.ro .bool) .nil)))))))))), (10, (.sl 3 (.int .i64))), (11, (.sl 52 (.st (.cons (.int .i64) (.cons .str .nil)))))]⟩
def f216out : SS := ⟨[(0, (.ro (.int .i64)))], [(0, (.box (.st (.cons (.list 126 (.st (.cons .str (.cons (.int .i64) (.cons (.int .i64) (.cons (.int .i64) .nil)))))) (.cons (.list 50 (.st (.cons (.list 54 (.st (.cons (.int .i64) (.cons (.int .i64) (.cons (.st (.cons (.int .i64) (.cons .str .nil))) .nil))))) .nil))) (.cons (.list 3 (.int .i64)) (.cons (.list 3 (.int .i64)) (.cons (.list 52 (.st (.cons (.int .i64) (.cons .str .nil)))) (.cons .bool (.cons .bool .nil)))))))) (.agg (.cons (.ro (.list 126 (.st (.cons .str (.cons (.int .i64) (.cons (.int .i64) (.cons (.int .i64) .nil))))))) (.cons (.ro (.list 50 (.st (.cons (.list 54 (.st (.cons (.int .i64) (.cons (.int .i64) (.cons (.st (.cons (.int .i64) (.cons .str .nil))) .nil))))) .nil)))) (.cons (.ro (.list 3 (.int .i64))) (.cons (.h 10) (.cons (.h 11) (.cons (.ro .bool) (.cons (.ro .bool) .nil)))))))))), (10, (.sl 3 (.int .i64))), (11, (.sl 52 (.st (.cons (.int .i64) (.cons .str .nil)))))]⟩
def f216s4 : SS := ⟨[(0, (.p 0)), (2, (.ro (.int .i64))), (3, (.ro (.int .i64))), (9, (.ro (.int .i64))), (10, (.ro (.int .i64)))], [(0, (.box (.st (.cons (.list 126 (.st (.cons .str (.cons (.int .i64) (.cons (.int .i64) (.cons (.int .i64) .nil)))))) (.cons (.list 50 (.st (.cons (.list 54 (.st (.cons (.int .i64) (.cons (.int .i64) (.cons (.st (.cons (.int .i64) (.cons .str .nil))) .nil))))) .nil))) (.cons (.list 3 (.int .i64)) (.cons (.list 3 (.int .i64)) (.cons (.list 52 (.st (.cons (.int .i64) (.cons .str .nil)))) (.cons .bool (.cons .bool .nil)))))))) (.agg (.cons (.ro (.list 126 (.st (.cons .str (.cons (.int .i64) (.cons (.int .i64) (.cons (.int .i64) .nil))))))) (.cons (.ro (.list 50 (.st (.cons (.list 54 (.st (.cons (.int .i64) (.cons (.int .i64) (.cons (.st (.cons (.int .i64) (.cons .str .nil))) .nil))))) .nil)))) (.cons (.ro (.list 3 (.int .i64))) (.cons (.h 10) (.cons (.h 11) (.cons (.ro .bool) (.cons (.ro .bool) .nil)))))))))), (10, (.sl 3 (.int .i64))), (11, (.sl 52 (.st (.cons (.int .i64) (.cons .str .nil)))))]⟩
def f216s3 : SS := ⟨[(0, (.p 0)), (2, (.ro (.int .i64))), (3, (.ro (.int .i64))), (9, (.ro (.int .i64))), (10, (.ro (.int .i64)))], [(0, (.box (.st (.cons (.list 126 (.st (.cons .str (.cons (.int .i64) (.cons (.int .i64) (.cons (.int .i64) .nil)))))) (.cons (.list 50 (.st (.cons (.list 54 (.st (.cons (.int .i64) (.cons (.int .i64) (.cons (.st (.cons (.int .i64) (.cons .str .nil))) .nil))))) .nil))) (.cons (.list 3 (.int .i64)) (.cons (.list 3 (.int .i64)) (.cons (.list 52 (.st (.cons (.int .i64) (.cons .str .nil)))) (.cons .bool (.cons .bool .nil)))))))) (.agg (.cons (.ro (.list 126 (.st (.cons .str (.cons (.int .i64) (.cons (.int .i64) (.cons (.int .i64) .nil))))))) (.cons (.ro (.list 50 (.st (.cons (.list 54 (.st (.cons (.int .i64) (.cons (.int .i64) (.cons (.st (.cons (.int .i64) (.cons .str .nil))) .nil))))) .nil)))) (.cons (.ro (.list 3 (.int .i64))) (.cons (.h 10) (.cons (.h 11) (.cons (.ro .bool) (.cons (.ro .bool) .nil)))))))))), (10, (.sl 3 (.int .i64))), (11, (.sl 52 (.st (.cons (.int .i64) (.cons .str .nil)))))]⟩
def f216con (F : Int → Int → Int → TJoinerB → (List Int) → (List TVal) → Option (Int × TJoinerB × (List Int) × (List TVal))) : Con := ⟨f216in, f216out, 4, 1, fun x => F x.1.2.1 x.1.2.2.1 x.1.2.2.2 x.2.1 x.2.2.1 x.2.2.2⟩
def f216ctx (k : Nat) : Ctx := ⟨tyAt tys, conAt [(140, [f140con (impl_colAfter k)]), (176, [f176con (impl_joiner_take k)])], 38, fun _ => false⟩
theorem f216hc (k : Nat) : CtxOk Try.prog (f216ctx k) := ctxOk tys_ok mixed_ok (consOk_cons (f140ok k) (consOk_cons (f176ok k) (consOk_nil)))
theorem f216ok (k : Nat) : FnOk Try.prog 216 (f216con (impl_joiner_missing k)) :=
  let hc := f216hc k
  fnOk (fn := Try.f216) (code := bodyOf Try.f216) (res := [.tmp 8]) hc (by kernel_rfl) (by kernel_rfl) (by decide) (by kernel_rfl) (by kernel_rfl) (by kernel_rfl) (Nat.le_of_ble_eq_true (by kernel_rfl)) _
    (fun x => Snd.seq (by kernel_rfl) (Snd.seq (by kernel_rfl) (Snd.seq (by kernel_rfl) (Snd.exec hc _ _ _ _) (Snd.seq (by kernel_rfl) (Snd.block (id := 0) (by kernel_rfl) (Snd.loop' (by kernel_rfl) f216s3 (fun n x => impl_joiner_missing.l3 k n x.1.2.1 x.1.2.2.1 x.1.2.2.2.1 x.1.2.2.2.2 x.2.1 x.2.2.1 x.2.2.2) _ (fun _ => rfl) (fun n3 => Snd.seq (by kernel_rfl) (Snd.seq (by kernel_rfl) (Snd.cut (Snd.exec hc _ _ _ _) ⟨f216s4, fun x => impl_joiner_missing.c4 k (impl_joiner_missing.l3 k n3) x.1.2.1 x.1.2.2.1 x.1.2.2.2.1 x.1.2.2.2.2 x.2.1 x.2.2.1 x.2.2.2⟩ (fun x => by kernel_rfl)) (Snd.exec hc _ _ _ _)) (Snd.exec hc _ _ _ _)) (fun n x => by kernel_rfl) k)) (Snd.exec hc _ _ _ _))) (Snd.exec hc _ _ _ _)) (Snd.exec hc _ _ _ _))
    (fun x => by kernel_rfl)

def f114in : SS := ⟨[(0, (.p 0)), (1, (.ro (.int .i64))), (2, (.ro (.int .i64))), (3, (.ro (.int .i64))), (4, (.ro (.int .i64)))], [(0, (.box (.st (.cons (.list 126 (.st (.cons .str (.cons (.int .i64) (.cons (.int .i64) (.cons (.int .i64) .nil)))))) (.cons (.list 50 (.st (.cons (.list 54 (.st (.cons (.int .i64) (.cons (.int .i64) (.cons (.st (.cons (.int .i64) (.cons .str .nil))) .nil))))) .nil))) (.cons (.list 3 (.int .i64)) (.cons (.list 3 (.int .i64)) (.cons (.list 52 (.st (.cons (.int .i64) (.cons .str .nil)))) (.cons .bool (.cons .bool .nil)))))))) (.agg (.cons (.ro (.list 126 (.st (.cons .str (.cons (.int .i64) (.cons (.int .i64) (.cons (.int .i64) .nil))))))) (.cons (.ro (.list 50 (.st (.cons (.list 54 (.st (.cons (.int .i64) (.cons (.int .i64) (.cons (.st (.cons (.int .i64) (.cons .str .nil))) .nil))))) .nil)))) (.cons (.ro (.list 3 (.int .i64))) (.cons (.h 10) (.cons (.h 11) (.cons (.ro .bool) (.cons (.ro .bool) .nil)))))))))), (10, (.sl 3 (.int .i64))), (11, (.sl 52 (.st (.cons (.int .i64) (.cons .str .nil)))))]⟩
def f114out : SS := ⟨[(0, (.ro (.int .i64)))], [(0, (.box (.st (.cons (.list 126 (.st (.cons .str (.cons (.int .i64) (.cons (.int .i64) (.cons (.int .i64) .nil)))))) (.cons (.list 50 (.st (.cons (.list 54 (.st (.cons (.int .i64) (.cons (.int .i64) (.cons (.st (.cons (.int .i64) (.cons .str .nil))) .nil))))) .nil))) (.cons (.list 3 (.int .i64)) (.cons (.list 3 (.int .i64)) (.cons (.list 52 (.st (.cons (.int .i64) (.cons .str .nil)))) (.cons .bool (.cons .bool .nil)))))))) (.agg (.cons (.ro (.list 126 (.st (.cons .str (.cons (.int .i64) (.cons (.int .i64) (.cons (.int .i64) .nil))))))) (.cons (.ro (.list 50 (.st (.cons (.list 54 (.st (.cons (.int .i64) (.cons (.int .i64) (.cons (.st (.cons (.int .i64) (.cons .str .nil))) .nil))))) .nil)))) (.cons (.ro (.list 3 (.int .i64))) (.cons (.h 10) (.cons (.h 100) (.cons (.ro .bool) (.cons (.ro .bool) .nil)))))))))), (10, (.sl 3 (.int .i64))), (100, (.sl 52 (.st (.cons (.int .i64) (.cons .str .nil)))))]⟩
def f114s11 : SS := ⟨[(12, (.ro (.int .i64)))], [(0, (.box (.st (.cons (.list 126 (.st (.cons .str (.cons (.int .i64) (.cons (.int .i64) (.cons (.int .i64) .nil)))))) (.cons (.list 50 (.st (.cons (.list 54 (.st (.cons (.int .i64) (.cons (.int .i64) (.cons (.st (.cons (.int .i64) (.cons .str .nil))) .nil))))) .nil))) (.cons (.list 3 (.int .i64)) (.cons (.list 3 (.int .i64)) (.cons (.list 52 (.st (.cons (.int .i64) (.cons .str .nil)))) (.cons .bool (.cons .bool .nil)))))))) (.agg (.cons (.ro (.list 126 (.st (.cons .str (.cons (.int .i64) (.cons (.int .i64) (.cons (.int .i64) .nil))))))) (.cons (.ro (.list 50 (.st (.cons (.list 54 (.st (.cons (.int .i64) (.cons (.int .i64) (.cons (.st (.cons (.int .i64) (.cons .str .nil))) .nil))))) .nil)))) (.cons (.ro (.list 3 (.int .i64))) (.cons (.h 10) (.cons (.h 100) (.cons (.ro .bool) (.cons (.ro .bool) .nil)))))))))), (10, (.sl 3 (.int .i64))), (100, (.sl 52 (.st (.cons (.int .i64) (.cons .str .nil)))))]⟩
def f114s7 : SS := ⟨[(0, (.p 0)), (2, (.ro (.int .i64))), (3, (.ro (.int .i64))), (4, (.ro (.int .i64))), (12, (.ro (.int .i64))), (48, (.ro (.int .i64))), (49, (.ro (.int .i64)))], [(0, (.box (.st (.cons (.list 126 (.st (.cons .str (.cons (.int .i64) (.cons (.int .i64) (.cons (.int .i64) .nil)))))) (.cons (.list 50 (.st (.cons (.list 54 (.st (.cons (.int .i64) (.cons (.int .i64) (.cons (.st (.cons (.int .i64) (.cons .str .nil))) .nil))))) .nil))) (.cons (.list 3 (.int .i64)) (.cons (.list 3 (.int .i64)) (.cons (.list 52 (.st (.cons (.int .i64) (.cons .str .nil)))) (.cons .bool (.cons .bool .nil)))))))) (.agg (.cons (.ro (.list 126 (.st (.cons .str (.cons (.int .i64) (.cons (.int .i64) (.cons (.int .i64) .nil))))))) (.cons (.ro (.list 50 (.st (.cons (.list 54 (.st (.cons (.int .i64) (.cons (.int .i64) (.cons (.st (.cons (.int .i64) (.cons .str .nil))) .nil))))) .nil)))) (.cons (.ro (.list 3 (.int .i64))) (.cons (.h 10) (.cons (.h 100) (.cons (.ro .bool) (.cons (.ro .bool) .nil)))))))))), (10, (.sl 3 (.int .i64))), (100, (.sl 52 (.st (.cons (.int .i64) (.cons .str .nil)))))]⟩
def f114con (F : Int → Int → Int → Int → TJoinerB → (List Int) → (List TVal) → Option (Int × TJoinerB × (List Int) × (List TVal))) : Con := ⟨f114in, f114out, 5, 1, fun x => F x.1.2.1 x.1.2.2.1 x.1.2.2.2.1 x.1.2.2.2.2 x.2.1 x.2.2.1 x.2.2.2⟩
def f177in : SS := ⟨[(0, (.p 0)), (1, (.ro (.int .i64))), (2, (.ro (.int .i64))), (3, (.ro (.int .i64))), (4, (.ro (.int .i64)))], [(0, (.box (.st (.cons (.list 126 (.st (.cons .str (.cons (.int .i64) (.cons (.int .i64) (.cons (.int .i64) .nil)))))) (.cons (.list 50 (.st (.cons (.list 54 (.st (.cons (.int .i64) (.cons (.int .i64) (.cons (.st (.cons (.int .i64) (.cons .str .nil))) .nil))))) .nil))) (.cons (.list 3 (.int .i64)) (.cons (.list 3 (.int .i64)) (.cons (.list 52 (.st (.cons (.int .i64) (.cons .str .nil)))) (.cons .bool (.cons .bool .nil)))))))) (.agg (.cons (.ro (.list 126 (.st (.cons .str (.cons (.int .i64) (.cons (.int .i64) (.cons (.int .i64) .nil))))))) (.cons (.ro (.list 50 (.st (.cons (.list 54 (.st (.cons (.int .i64) (.cons (.int .i64) (.cons (.st (.cons (.int .i64) (.cons .str .nil))) .nil))))) .nil)))) (.cons (.ro (.list 3 (.int .i64))) (.cons (.h 10) (.cons (.h 11) (.cons (.ro .bool) (.cons (.ro .bool) .nil)))))))))), (10, (.sl 3 (.int .i64))), (11, (.sl 52 (.st (.cons (.int .i64) (.cons .str .nil)))))]⟩
def f177out : SS := ⟨[(0, (.ro (.int .i64)))], [(0, (.box (.st (.cons (.list 126 (.st (.cons .str (.cons (.int .i64) (.cons (.int .i64) (.cons (.int .i64) .nil)))))) (.cons (.list 50 (.st (.cons (.list 54 (.st (.cons (.int .i64) (.cons (.int .i64) (.cons (.st (.cons (.int .i64) (.cons .str .nil))) .nil))))) .nil))) (.cons (.list 3 (.int .i64)) (.cons (.list 3 (.int .i64)) (.cons (.list 52 (.st (.cons (.int .i64) (.cons .str .nil)))) (.cons .bool (.cons .bool .nil)))))))) (.agg (.cons (.ro (.list 126 (.st (.cons .str (.cons (.int .i64) (.cons (.int .i64) (.cons (.int .i64) .nil))))))) (.cons (.ro (.list 50 (.st (.cons (.list 54 (.st (.cons (.int .i64) (.cons (.int .i64) (.cons (.st (.cons (.int .i64) (.cons .str .nil))) .nil))))) .nil)))) (.cons (.ro (.list 3 (.int .i64))) (.cons (.h 10) (.cons (.h 100) (.cons (.ro .bool) (.cons (.ro .bool) .nil)))))))))), (10, (.sl 3 (.int .i64))), (100, (.sl 52 (.st (.cons (.int .i64) (.cons .str .nil)))))]⟩
def f177s15 : SS := ⟨[(0, (.p 0)), (1, (.ro (.int .i64))), (13, (.ro (.int .i64))), (14, (.ro (.int .i64)))], [(0, (.box (.st (.cons (.list 126 (.st (.cons .str (.cons (.int .i64) (.cons (.int .i64) (.cons (.int .i64) .nil)))))) (.cons (.list 50 (.st (.cons (.list 54 (.st (.cons (.int .i64) (.cons (.int .i64) (.cons (.st (.cons (.int .i64) (.cons .str .nil))) .nil))))) .nil))) (.cons (.list 3 (.int .i64)) (.cons (.list 3 (.int .i64)) (.cons (.list 52 (.st (.cons (.int .i64) (.cons .str .nil)))) (.cons .bool (.cons .bool .nil)))))))) (.agg (.cons (.ro (.list 126 (.st (.cons .str (.cons (.int .i64) (.cons (.int .i64) (.cons (.int .i64) .nil))))))) (.cons (.ro (.list 50 (.st (.cons (.list 54 (.st (.cons (.int .i64) (.cons (.int .i64) (.cons (.st (.cons (.int .i64) (.cons .str .nil))) .nil))))) .nil)))) (.cons (.ro (.list 3 (.int .i64))) (.cons (.h 10) (.cons (.h 100) (.cons (.ro .bool) (.cons (.ro .bool) .nil)))))))))), (10, (.sl 3 (.int .i64))), (100, (.sl 52 (.st (.cons (.int .i64) (.cons .str .nil)))))]⟩
def f177s6 : SS := ⟨[(0, (.p 0)), (1, (.ro (.int .i64))), (2, (.ro (.int .i64))), (3, (.ro (.int .i64))), (4, (.ro (.int .i64))), (11, (.p 100))], [(0, (.box (.st (.cons (.list 126 (.st (.cons .str (.cons (.int .i64) (.cons (.int .i64) (.cons (.int .i64) .nil)))))) (.cons (.list 50 (.st (.cons (.list 54 (.st (.cons (.int .i64) (.cons (.int .i64) (.cons (.st (.cons (.int .i64) (.cons .str .nil))) .nil))))) .nil))) (.cons (.list 3 (.int .i64)) (.cons (.list 3 (.int .i64)) (.cons (.list 52 (.st (.cons (.int .i64) (.cons .str .nil)))) (.cons .bool (.cons .bool .nil)))))))) (.agg (.cons (.ro (.list 126 (.st (.cons .str (.cons (.int .i64) (.cons (.int .i64) (.cons (.int .i64) .nil))))))) (.cons (.ro (.list 50 (.st (.cons (.list 54 (.st (.cons (.int .i64) (.cons (.int .i64) (.cons (.st (.cons (.int .i64) (.cons .str .nil))) .nil))))) .nil)))) (.cons (.ro (.list 3 (.int .i64))) (.cons (.h 10) (.cons (.h 11) (.cons (.ro .bool) (.cons (.ro .bool) .nil)))))))))), (10, (.sl 3 (.int .i64))), (11, (.sl 52 (.st (.cons (.int .i64) (.cons .str .nil))))), (100, (.box (.st (.cons (.int .i64) (.cons (.int .i64) (.cons (.st (.cons (.int .i64) (.cons .str .nil))) .nil)))) (.agg (.cons (.ro (.int .i64)) (.cons (.ro (.int .i64)) (.cons (.agg (.cons (.ro (.int .i64)) (.cons (.ro .str) .nil))) .nil))))))]⟩
def f177con (F : Int → Int → Int → Int → TJoinerB → (List Int) → (List TVal) → Option (Int × TJoinerB × (List Int) × (List TVal))) : Con := ⟨f177in, f177out, 5, 1, fun x => F x.1.2.1 x.1.2.2.1 x.1.2.2.2.1 x.1.2.2.2.2 x.2.1 x.2.2.1 x.2.2.2⟩
def f217in : SS := ⟨[(0, (.p 0)), (1, (.ro (.int .i64))), (2, (.ro (.int .i64))), (3, (.ro (.int .i64))), (4, (.ro (.int .i64)))], [(0, (.box (.st (.cons (.list 126 (.st (.cons .str (.cons (.int .i64) (.cons (.int .i64) (.cons (.int .i64) .nil)))))) (.cons (.list 50 (.st (.cons (.list 54 (.st (.cons (.int .i64) (.cons (.int .i64) (.cons (.st (.cons (.int .i64) (.cons .str .nil))) .nil))))) .nil))) (.cons (.list 3 (.int .i64)) (.cons (.list 3 (.int .i64)) (.cons (.list 52 (.st (.cons (.int .i64) (.cons .str .nil)))) (.cons .bool (.cons .bool .nil)))))))) (.agg (.cons (.ro (.list 126 (.st (.cons .str (.cons (.int .i64) (.cons (.int .i64) (.cons (.int .i64) .nil))))))) (.cons (.ro (.list 50 (.st (.cons (.list 54 (.st (.cons (.int .i64) (.cons (.int .i64) (.cons (.st (.cons (.int .i64) (.cons .str .nil))) .nil))))) .nil)))) (.cons (.ro (.list 3 (.int .i64))) (.cons (.h 10) (.cons (.h 11) (.cons (.ro .bool) (.cons (.ro .bool) .nil)))))))))), (10, (.sl 3 (.int .i64))), (11, (.sl 52 (.st (.cons (.int .i64) (.cons .str .nil)))))]⟩
def f217out : SS := ⟨[(0, (.ro (.int .i64)))], [(0, (.box (.st (.cons (.list 126 (.st (.cons .str (.cons (.int .i64) (.cons (.int .i64) (.cons (.int .i64) .nil)))))) (.cons (.list 50 (.st (.cons (.list 54 (.st (.cons (.int .i64) (.cons (.int .i64) (.cons (.st (.cons (.int .i64) (.cons .str .nil))) .nil))))) .nil))) (.cons (.list 3 (.int .i64)) (.cons (.list 3 (.int .i64)) (.cons (.list 52 (.st (.cons (.int .i64) (.cons .str .nil)))) (.cons .bool (.cons .bool .nil)))))))) (.agg (.cons (.ro (.list 126 (.st (.cons .str (.cons (.int .i64) (.cons (.int .i64) (.cons (.int .i64) .nil))))))) (.cons (.ro (.list 50 (.st (.cons (.list 54 (.st (.cons (.int .i64) (.cons (.int .i64) (.cons (.st (.cons (.int .i64) (.cons .str .nil))) .nil))))) .nil)))) (.cons (.ro (.list 3 (.int .i64))) (.cons (.h 10) (.cons (.h 100) (.cons (.ro .bool) (.cons (.ro .bool) .nil)))))))))), (10, (.sl 3 (.int .i64))), (100, (.sl 52 (.st (.cons (.int .i64) (.cons .str .nil)))))]⟩
def f217s4 : SS := ⟨[(0, (.p 0)), (1, (.ro (.int .i64))), (3, (.ro (.int .i64))), (4, (.ro (.int .i64))), (11, (.ro (.int .i64)))], [(0, (.box (.st (.cons (.list 126 (.st (.cons .str (.cons (.int .i64) (.cons (.int .i64) (.cons (.int .i64) .nil)))))) (.cons (.list 50 (.st (.cons (.list 54 (.st (.cons (.int .i64) (.cons (.int .i64) (.cons (.st (.cons (.int .i64) (.cons .str .nil))) .nil))))) .nil))) (.cons (.list 3 (.int .i64)) (.cons (.list 3 (.int .i64)) (.cons (.list 52 (.st (.cons (.int .i64) (.cons .str .nil)))) (.cons .bool (.cons .bool .nil)))))))) (.agg (.cons (.ro (.list 126 (.st (.cons .str (.cons (.int .i64) (.cons (.int .i64) (.cons (.int .i64) .nil))))))) (.cons (.ro (.list 50 (.st (.cons (.list 54 (.st (.cons (.int .i64) (.cons (.int .i64) (.cons (.st (.cons (.int .i64) (.cons .str .nil))) .nil))))) .nil)))) (.cons (.ro (.list 3 (.int .i64))) (.cons (.h 10) (.cons (.h 100) (.cons (.ro .bool) (.cons (.ro .bool) .nil)))))))))), (10, (.sl 3 (.int .i64))), (100, (.sl 52 (.st (.cons (.int .i64) (.cons .str .nil)))))]⟩
def f217con (F : Int → Int → Int → Int → TJoinerB → (List Int) → (List TVal) → Option (Int × TJoinerB × (List Int) × (List TVal))) : Con := ⟨f217in, f217out, 5, 1, fun x => F x.1.2.1 x.1.2.2.1 x.1.2.2.2.1 x.1.2.2.2.2 x.2.1 x.2.2.1 x.2.2.2⟩
def f114ctx (k : Nat) (S114 : Int → Int → Int → Int → TJoinerB → (List Int) → (List TVal) → Option (Int × TJoinerB × (List Int) × (List TVal))) (S177 : Int → Int → Int → Int → TJoinerB → (List Int) → (List TVal) → Option (Int × TJoinerB × (List Int) × (List TVal))) (S217 : Int → Int → Int → Int → TJoinerB → (List Int) → (List TVal) → Option (Int × TJoinerB × (List Int) × (List TVal))) : Ctx := ⟨tyAt tys, conAt [(176, [f176con (impl_joiner_take k)]), (177, [f177con S177])], 63, fun _ => false⟩
theorem f114hc (k : Nat) (S114 : Int → Int → Int → Int → TJoinerB → (List Int) → (List TVal) → Option (Int × TJoinerB × (List Int) × (List TVal))) (S177 : Int → Int → Int → Int → TJoinerB → (List Int) → (List TVal) → Option (Int × TJoinerB × (List Int) × (List TVal))) (S217 : Int → Int → Int → Int → TJoinerB → (List Int) → (List TVal) → Option (Int × TJoinerB × (List Int) × (List TVal))) (h114 : FnOk Try.prog 114 (f114con S114)) (h177 : FnOk Try.prog 177 (f177con S177)) (h217 : FnOk Try.prog 217 (f217con S217)) : CtxOk Try.prog (f114ctx k S114 S177 S217) := ctxOk tys_ok mixed_ok (consOk_cons (f176ok k) (consOk_cons (h177) (consOk_nil)))
theorem f114okb (k : Nat) (S114 : Int → Int → Int → Int → TJoinerB → (List Int) → (List TVal) → Option (Int × TJoinerB × (List Int) × (List TVal))) (S177 : Int → Int → Int → Int → TJoinerB → (List Int) → (List TVal) → Option (Int × TJoinerB × (List Int) × (List TVal))) (S217 : Int → Int → Int → Int → TJoinerB → (List Int) → (List TVal) → Option (Int × TJoinerB × (List Int) × (List TVal))) (h114 : FnOk Try.prog 114 (f114con S114)) (h177 : FnOk Try.prog 177 (f177con S177)) (h217 : FnOk Try.prog 217 (f217con S217)) : FnOk Try.prog 114 (f114con (impl_joiner_body.b k S114 S177 S217)) :=
  let hc := f114hc k S114 S177 S217 h114 h177 h217
  fnOk (fn := Try.f114) (code := bodyOf Try.f114) (res := [.tmp 10]) hc (by kernel_rfl) (by kernel_rfl) (by decide) (by kernel_rfl) (by kernel_rfl) (by kernel_rfl) (Nat.le_of_ble_eq_true (by kernel_rfl)) _
    (fun x => Snd.seq (by kernel_rfl) (Snd.seq (by kernel_rfl) (Snd.seq (by kernel_rfl) (Snd.seq (by kernel_rfl) (Snd.cut (Snd.exec hc _ _ _ _) ⟨f114s11, fun x => impl_joiner_body.c11 k x.1 x.2.1 x.2.2.1 x.2.2.2⟩ (fun x => by kernel_rfl)) (Snd.seq (by kernel_rfl) (Snd.block (id := 0) (by kernel_rfl) (Snd.loop' (by kernel_rfl) f114s7 (fun n x => impl_joiner_body.l7 k S177 n x.1.2.1 x.1.2.2.1 x.1.2.2.2.1 x.1.2.2.2.2.1 x.1.2.2.2.2.2.1 x.1.2.2.2.2.2.2 x.2.1 x.2.2.1 x.2.2.2) _ (fun _ => rfl) (fun n7 => Snd.exec hc _ _ _ _) (fun n x => by kernel_rfl) k)) (Snd.exec hc _ _ _ _))) (Snd.exec hc _ _ _ _)) (Snd.exec hc _ _ _ _)) (Snd.exec hc _ _ _ _))
    (fun x => by kernel_rfl)
def f177ctx (k : Nat) (S114 : Int → Int → Int → Int → TJoinerB → (List Int) → (List TVal) → Option (Int × TJoinerB × (List Int) × (List TVal))) (S177 : Int → Int → Int → Int → TJoinerB → (List Int) → (List TVal) → Option (Int × TJoinerB × (List Int) × (List TVal))) (S217 : Int → Int → Int → Int → TJoinerB → (List Int) → (List TVal) → Option (Int × TJoinerB × (List Int) × (List TVal))) : Ctx := ⟨tyAt tys, conAt [(114, [f114con S114]), (140, [f140con (impl_colAfter k)]), (215, [f215con (impl_joiner_peek k)]), (216, [f216con (impl_joiner_missing k)]), (217, [f217con S217])], 117, fun _ => false⟩
theorem f177hc (k : Nat) (S114 : Int → Int → Int → Int → TJoinerB → (List Int) → (List TVal) → Option (Int × TJoinerB × (List Int) × (List TVal))) (S177 : Int → Int → Int → Int → TJoinerB → (List Int) → (List TVal) → Option (Int × TJoinerB × (List Int) × (List TVal))) (S217 : Int → Int → Int → Int → TJoinerB → (List Int) → (List TVal) → Option (Int × TJoinerB × (List Int) × (List TVal))) (h114 : FnOk Try.prog 114 (f114con S114)) (h177 : FnOk Try.prog 177 (f177con S177)) (h217 : FnOk Try.prog 217 (f217con S217)) : CtxOk Try.prog (f177ctx k S114 S177 S217) := ctxOk tys_ok mixed_ok (consOk_cons (h114) (consOk_cons (f140ok k) (consOk_cons (f215ok k) (consOk_cons (f216ok k) (consOk_cons (h217) (consOk_nil))))))
theorem f177okb (k : Nat) (S114 : Int → Int → Int → Int → TJoinerB → (List Int) → (List TVal) → Option (Int × TJoinerB × (List Int) × (List TVal))) (S177 : Int → Int → Int → Int → TJoinerB → (List Int) → (List TVal) → Option (Int × TJoinerB × (List Int) × (List TVal))) (S217 : Int → Int → Int → Int → TJoinerB → (List Int) → (List TVal) → Option (Int × TJoinerB × (List Int) × (List TVal))) (h114 : FnOk Try.prog 114 (f114con S114)) (h177 : FnOk Try.prog 177 (f177con S177)) (h217 : FnOk Try.prog 217 (f217con S217)) : FnOk Try.prog 177 (f177con (impl_joiner_col.b k S114 S177 S217)) :=
  let hc := f177hc k S114 S177 S217 h114 h177 h217
  fnOk (fn := Try.f177) (code := bodyOf Try.f177) (res := [.tmp 10]) hc (by kernel_rfl) (by kernel_rfl) (by decide) (by kernel_rfl) (by kernel_rfl) (by kernel_rfl) (Nat.le_of_ble_eq_true (by kernel_rfl)) _
    (fun x => Snd.seq (by kernel_rfl) (Snd.seq (by kernel_rfl) (Snd.seq (by kernel_rfl) (Snd.seq (by kernel_rfl) (Snd.cut (Snd.seq (by kernel_rfl) (Snd.seq (by kernel_rfl) (Snd.seq (by kernel_rfl) (Snd.seq (by kernel_rfl) (Snd.seq (by kernel_rfl) (Snd.cut (Snd.exec hc _ _ _ _) ⟨f177s15, fun x => impl_joiner_col.c15 k x.1.2.1 x.1.2.2.1 x.1.2.2.2 x.2.1 x.2.2.1 x.2.2.2⟩ (fun x => by kernel_rfl)) (Snd.exec hc _ _ _ _)) (Snd.exec hc _ _ _ _)) (Snd.exec hc _ _ _ _)) (Snd.exec hc _ _ _ _)) (Snd.exec hc _ _ _ _)) ⟨f177s6, fun x => impl_joiner_col.c6 k S114 S217 x.1.2.1 x.1.2.2.1 x.1.2.2.2.1 x.1.2.2.2.2.1 x.2.1 x.2.2.1 x.2.2.2.1 x.2.2.2.2⟩ (fun x => by kernel_rfl)) (Snd.exec hc _ _ _ _)) (Snd.exec hc _ _ _ _)) (Snd.exec hc _ _ _ _)) (Snd.exec hc _ _ _ _))
    (fun x => by kernel_rfl)
def f217ctx (k : Nat) (S114 : Int → Int → Int → Int → TJoinerB → (List Int) → (List TVal) → Option (Int × TJoinerB × (List Int) × (List TVal))) (S177 : Int → Int → Int → Int → TJoinerB → (List Int) → (List TVal) → Option (Int × TJoinerB × (List Int) × (List TVal))) (S217 : Int → Int → Int → Int → TJoinerB → (List Int) → (List TVal) → Option (Int × TJoinerB × (List Int) × (List TVal))) : Ctx := ⟨tyAt tys, conAt [(114, [f114con S114]), (215, [f215con (impl_joiner_peek k)])], 49, fun _ => false⟩
theorem f217hc (k : Nat) (S114 : Int → Int → Int → Int → TJoinerB → (List Int) → (List TVal) → Option (Int × TJoinerB × (List Int) × (List TVal))) (S177 : Int → Int → Int → Int → TJoinerB → (List Int) → (List TVal) → Option (Int × TJoinerB × (List Int) × (List TVal))) (S217 : Int → Int → Int → Int → TJoinerB → (List Int) → (List TVal) → Option (Int × TJoinerB × (List Int) × (List TVal))) (h114 : FnOk Try.prog 114 (f114con S114)) (h177 : FnOk Try.prog 177 (f177con S177)) (h217 : FnOk Try.prog 217 (f217con S217)) : CtxOk Try.prog (f217ctx k S114 S177 S217) := ctxOk tys_ok mixed_ok (consOk_cons (h114) (consOk_cons (f215ok k) (consOk_nil)))
theorem f217okb (k : Nat) (S114 : Int → Int → Int → Int → TJoinerB → (List Int) → (List TVal) → Option (Int × TJoinerB × (List Int) × (List TVal))) (S177 : Int → Int → Int → Int → TJoinerB → (List Int) → (List TVal) → Option (Int × TJoinerB × (List Int) × (List TVal))) (S217 : Int → Int → Int → Int → TJoinerB → (List Int) → (List TVal) → Option (Int × TJoinerB × (List Int) × (List TVal))) (h114 : FnOk Try.prog 114 (f114con S114)) (h177 : FnOk Try.prog 177 (f177con S177)) (h217 : FnOk Try.prog 217 (f217con S217)) : FnOk Try.prog 217 (f217con (impl_joiner_repeat.b k S114 S177 S217)) :=
  let hc := f217hc k S114 S177 S217 h114 h177 h217
  fnOk (fn := Try.f217) (code := bodyOf Try.f217) (res := [.tmp 10]) hc (by kernel_rfl) (by kernel_rfl) (by decide) (by kernel_rfl) (by kernel_rfl) (by kernel_rfl) (Nat.le_of_ble_eq_true (by kernel_rfl)) _
    (fun x => Snd.seq (by kernel_rfl) (Snd.seq (by kernel_rfl) (Snd.seq (by kernel_rfl) (Snd.block (id := 0) (by kernel_rfl) (Snd.loop' (by kernel_rfl) f217s4 (fun n x => impl_joiner_repeat.l4 k S114 n x.1.2.1 x.1.2.2.1 x.1.2.2.2.1 x.1.2.2.2.2 x.2.1 x.2.2.1 x.2.2.2) _ (fun _ => rfl) (fun n4 => Snd.exec hc _ _ _ _) (fun n x => by kernel_rfl) k)) (Snd.exec hc _ _ _ _)) (Snd.exec hc _ _ _ _)) (Snd.exec hc _ _ _ _))
    (fun x => by kernel_rfl)
theorem f114rec (k : Nat) : ∀ d, FnOk Try.prog 114 (f114con (impl_joiner_body.d k d)) ∧ FnOk Try.prog 177 (f177con (impl_joiner_col.d k d)) ∧ FnOk Try.prog 217 (f217con (impl_joiner_repeat.d k d))
  | 0 => ⟨FnOk_none (fun _ => rfl), FnOk_none (fun _ => rfl), FnOk_none (fun _ => rfl)⟩
  | d + 1 => let ih := f114rec k d
    ⟨f114okb k (impl_joiner_body.d k d) (impl_joiner_col.d k d) (impl_joiner_repeat.d k d) ih.1 ih.2.1 ih.2.2, f177okb k (impl_joiner_body.d k d) (impl_joiner_col.d k d) (impl_joiner_repeat.d k d) ih.1 ih.2.1 ih.2.2, f217okb k (impl_joiner_body.d k d) (impl_joiner_col.d k d) (impl_joiner_repeat.d k d) ih.1 ih.2.1 ih.2.2⟩
theorem f114ok (k : Nat) : FnOk Try.prog 114 (f114con (impl_joiner_body k)) := (f114rec k k).1
theorem f177ok (k : Nat) : FnOk Try.prog 177 (f177con (impl_joiner_col k)) := (f114rec k k).2.1
theorem f217ok (k : Nat) : FnOk Try.prog 217 (f217con (impl_joiner_repeat k)) := (f114rec k k).2.2

def f115in : SS := ⟨[(0, (.p 0))], [(0, (.box (.st (.cons (.list 126 (.st (.cons .str (.cons (.int .i64) (.cons (.int .i64) (.cons (.int .i64) .nil)))))) (.cons (.list 50 (.st (.cons (.list 54 (.st (.cons (.int .i64) (.cons (.int .i64) (.cons (.st (.cons (.int .i64) (.cons .str .nil))) .nil))))) .nil))) (.cons (.list 3 (.int .i64)) (.cons (.list 3 (.int .i64)) (.cons (.list 52 (.st (.cons (.int .i64) (.cons .str .nil)))) (.cons .bool (.cons .bool .nil)))))))) (.agg (.cons (.ro (.list 126 (.st (.cons .str (.cons (.int .i64) (.cons (.int .i64) (.cons (.int .i64) .nil))))))) (.cons (.ro (.list 50 (.st (.cons (.list 54 (.st (.cons (.int .i64) (.cons (.int .i64) (.cons (.st (.cons (.int .i64) (.cons .str .nil))) .nil))))) .nil)))) (.cons (.ro (.list 3 (.int .i64))) (.cons (.h 10) (.cons .any (.cons (.ro .bool) (.cons (.ro .bool) .nil)))))))))), (10, (.sl 3 (.int .i64)))]⟩
def f115out : SS := ⟨[(0, (.ro .bool))], [(0, (.box (.st (.cons (.list 126 (.st (.cons .str (.cons (.int .i64) (.cons (.int .i64) (.cons (.int .i64) .nil)))))) (.cons (.list 50 (.st (.cons (.list 54 (.st (.cons (.int .i64) (.cons (.int .i64) (.cons (.st (.cons (.int .i64) (.cons .str .nil))) .nil))))) .nil))) (.cons (.list 3 (.int .i64)) (.cons (.list 3 (.int .i64)) (.cons (.list 52 (.st (.cons (.int .i64) (.cons .str .nil)))) (.cons .bool (.cons .bool .nil)))))))) (.agg (.cons (.ro (.list 126 (.st (.cons .str (.cons (.int .i64) (.cons (.int .i64) (.cons (.int .i64) .nil))))))) (.cons (.ro (.list 50 (.st (.cons (.list 54 (.st (.cons (.int .i64) (.cons (.int .i64) (.cons (.st (.cons (.int .i64) (.cons .str .nil))) .nil))))) .nil)))) (.cons (.ro (.list 3 (.int .i64))) (.cons (.h 10) (.cons .any (.cons (.ro .bool) (.cons (.ro .bool) .nil)))))))))), (10, (.sl 3 (.int .i64)))]⟩
def f115s2 : SS := ⟨[(0, (.p 0)), (8, (.ro (.list 50 (.st (.cons (.list 54 (.st (.cons (.int .i64) (.cons (.int .i64) (.cons (.st (.cons (.int .i64) (.cons .str .nil))) .nil))))) .nil))))), (9, (.ro (.int .i64))), (10, (.ro (.int .i64)))], [(0, (.box (.st (.cons (.list 126 (.st (.cons .str (.cons (.int .i64) (.cons (.int .i64) (.cons (.int .i64) .nil)))))) (.cons (.list 50 (.st (.cons (.list 54 (.st (.cons (.int .i64) (.cons (.int .i64) (.cons (.st (.cons (.int .i64) (.cons .str .nil))) .nil))))) .nil))) (.cons (.list 3 (.int .i64)) (.cons (.list 3 (.int .i64)) (.cons (.list 52 (.st (.cons (.int .i64) (.cons .str .nil)))) (.cons .bool (.cons .bool .nil)))))))) (.agg (.cons (.ro (.list 126 (.st (.cons .str (.cons (.int .i64) (.cons (.int .i64) (.cons (.int .i64) .nil))))))) (.cons (.ro (.list 50 (.st (.cons (.list 54 (.st (.cons (.int .i64) (.cons (.int .i64) (.cons (.st (.cons (.int .i64) (.cons .str .nil))) .nil))))) .nil)))) (.cons (.ro (.list 3 (.int .i64))) (.cons (.h 10) (.cons .any (.cons (.ro .bool) (.cons (.ro .bool) .nil)))))))))), (10, (.sl 3 (.int .i64)))]⟩
def f115con (F : TJoinerB → (List Int) → Option (Bool × TJoinerB × (List Int))) : Con := ⟨f115in, f115out, 1, 1, fun x => F x.2.1 x.2.2⟩
def f115ctx (k : Nat) : Ctx := ⟨tyAt tys, conAt [], 27, fun _ => false⟩
theorem f115hc (k : Nat) : CtxOk Try.prog (f115ctx k) := ctxOk tys_ok mixed_ok (consOk_nil)
theorem f115ok (k : Nat) : FnOk Try.prog 115 (f115con (impl_joiner_ended k)) :=
  let hc := f115hc k
  fnOk (fn := Try.f115) (code := bodyOf Try.f115) (res := [.tmp 2]) hc (by kernel_rfl) (by kernel_rfl) (by decide) (by kernel_rfl) (by kernel_rfl) (by kernel_rfl) (Nat.le_of_ble_eq_true (by kernel_rfl)) _
    (fun x => Snd.seq (by kernel_rfl) (Snd.seq (by kernel_rfl) (Snd.exec hc _ _ _ _) (Snd.seq (by kernel_rfl) (Snd.block (id := 0) (by kernel_rfl) (Snd.loop' (by kernel_rfl) f115s2 (fun n x => impl_joiner_ended.l2 k n x.1.2.1 x.1.2.2.1 x.1.2.2.2 x.2.1 x.2.2) _ (fun _ => rfl) (fun n2 => Snd.exec hc _ _ _ _) (fun n x => by kernel_rfl) k)) (Snd.exec hc _ _ _ _))) (Snd.exec hc _ _ _ _))
    (fun x => by kernel_rfl)

def f45in : SS := ⟨[(0, (.ro (.list 126 (.st (.cons .str (.cons (.int .i64) (.cons (.int .i64) (.cons (.int .i64) .nil)))))))), (1, (.ro (.list 50 (.st (.cons (.list 54 (.st (.cons (.int .i64) (.cons (.int .i64) (.cons (.st (.cons (.int .i64) (.cons .str .nil))) .nil))))) .nil)))))], []⟩
def f45out : SS := ⟨[(0, (.h 100)), (1, (.ro (.int .i64)))], [(100, (.sl 27 (.st (.cons (.list 52 (.st (.cons (.int .i64) (.cons .str .nil)))) .nil))))]⟩
def f45s15 : SS := ⟨[(8, (.ro (.int .i64))), (10, (.p 100)), (11, (.h 101)), (12, (.ro (.int .i64)))], [(100, (.box (.st (.cons (.list 126 (.st (.cons .str (.cons (.int .i64) (.cons (.int .i64) (.cons (.int .i64) .nil)))))) (.cons (.list 50 (.st (.cons (.list 54 (.st (.cons (.int .i64) (.cons (.int .i64) (.cons (.st (.cons (.int .i64) (.cons .str .nil))) .nil))))) .nil))) (.cons (.list 3 (.int .i64)) (.cons (.list 3 (.int .i64)) (.cons (.list 52 (.st (.cons (.int .i64) (.cons .str .nil)))) (.cons .bool (.cons .bool .nil)))))))) (.agg (.cons (.ro (.list 126 (.st (.cons .str (.cons (.int .i64) (.cons (.int .i64) (.cons (.int .i64) .nil))))))) (.cons (.ro (.list 50 (.st (.cons (.list 54 (.st (.cons (.int .i64) (.cons (.int .i64) (.cons (.st (.cons (.int .i64) (.cons .str .nil))) .nil))))) .nil)))) (.cons (.ro (.list 3 (.int .i64))) (.cons (.h 102) (.cons .any (.cons (.ro .bool) (.cons (.ro .bool) .nil)))))))))), (101, (.sl 27 (.st (.cons (.list 52 (.st (.cons (.int .i64) (.cons .str .nil)))) .nil)))), (102, (.sl 3 (.int .i64)))]⟩
def f45d12 : SS := ⟨[(0, (.ro (.list 126 (.st (.cons .str (.cons (.int .i64) (.cons (.int .i64) (.cons (.int .i64) .nil)))))))), (1, (.ro (.list 50 (.st (.cons (.list 54 (.st (.cons (.int .i64) (.cons (.int .i64) (.cons (.st (.cons (.int .i64) (.cons .str .nil))) .nil))))) .nil))))), (8, (.ro (.int .i64)))], []⟩
def f45s4 : SS := ⟨[(0, (.ro (.list 126 (.st (.cons .str (.cons (.int .i64) (.cons (.int .i64) (.cons (.int .i64) .nil)))))))), (1, (.ro (.list 50 (.st (.cons (.list 54 (.st (.cons (.int .i64) (.cons (.int .i64) (.cons (.st (.cons (.int .i64) (.cons .str .nil))) .nil))))) .nil))))), (24, (.ro (.list 50 (.st (.cons (.list 54 (.st (.cons (.int .i64) (.cons (.int .i64) (.cons (.st (.cons (.int .i64) (.cons .str .nil))) .nil))))) .nil))))), (25, (.ro (.int .i64))), (26, (.ro (.int .i64)))], []⟩
def f45con (F : (List TCol) → (List TColumn) → Option ((Unit × Int) × (List TRec))) : Con := ⟨f45in, f45out, 2, 2, fun x => F x.1 x.2⟩
def f45ctx (k : Nat) : Ctx := ⟨tyAt tys, conAt [(44, [f44con (impl_TriplesOk k)]), (68, [f68con (impl_SchemaOk k)]), (90, [f90con (impl_leafNumbers k)]), (91, [f91con (impl_leavesOf k)]), (113, [f113con (impl_rowsAlike k)]), (114, [f114con (impl_joiner_body k)]), (115, [f115con (impl_joiner_ended k)])], 111, fun s => Nat.beq s 100⟩
theorem f45hc (k : Nat) : CtxOk Try.prog (f45ctx k) := ctxOk tys_ok mixed_ok (consOk_cons (f44ok k) (consOk_cons (f68ok k) (consOk_cons (f90ok k) (consOk_cons (f91ok k) (consOk_cons (f113ok k) (consOk_cons (f114ok k) (consOk_cons (f115ok k) (consOk_nil))))))))
theorem f45ok (k : Nat) : FnOk Try.prog 45 (f45con (impl_Assemble k)) :=
  let hc := f45hc k
  fnOk (fn := Try.f45) (code := bodyOf Try.f45) (res := [.tmp 4, .tmp 5]) hc (by kernel_rfl) (by kernel_rfl) (by decide) (by kernel_rfl) (by kernel_rfl) (by kernel_rfl) (Nat.le_of_ble_eq_true (by kernel_rfl)) _
    (fun x => Snd.seq (by kernel_rfl) (Snd.seq (by kernel_rfl) (Snd.seq (by kernel_rfl) (Snd.seq (by kernel_rfl) (Snd.seq (by kernel_rfl) (Snd.seq (by kernel_rfl) (Snd.seq (by kernel_rfl) (Snd.seq (by kernel_rfl) (Snd.exec hc _ _ _ _) (Snd.seq (by kernel_rfl) (Snd.block (id := 2) (by kernel_rfl) (Snd.loop' (by kernel_rfl) f45s15 (fun n x => impl_Assemble.l15 k n x.1.1 x.1.2.2.2 x.2.1 x.2.2.1 x.2.2.2) _ (fun _ => rfl) (fun n15 => Snd.exec hc _ _ _ _) (fun n x => by kernel_rfl) k)) (Snd.exec hc _ _ _ _))) (Snd.exec hc _ _ _ _)) (Snd.fork hc (id := 12) (by kernel_rfl) ⟨f45d12, fun x => impl_Assemble.d12 k x.1 x.2.1 x.2.2⟩ [[0, 1, 2, 4, 5, 3, 6, 7, 8, 9], [0, 1, 2, 4, 5, 6, 3, 7, 8, 9]] (by kernel_rfl) (ords_cons (fun x => by kernel_rfl) (ords_cons (fun x => Eq.trans (b := cond (okLen (List.length x.2.1 : Int)) ((impl_leafNumbers k x.1).bind fun r7 => impl_Assemble.l15 k k x.2.2 0 (x.1, x.2.1, r7.2, (), (), false, false, ()) [] (List.replicate (Int.toNat (List.length x.2.1 : Int)) 0)) none) (by kernel_rfl) (by show _ = impl_Assemble.d12 k x.1 x.2.1 x.2.2; unfold impl_Assemble.d12; cases (impl_leafNumbers k x.1) <;> cases ((okLen (List.length x.2.1 : Int))) <;> rfl)) (ords_nil))))) (Snd.exec hc _ _ _ _)) (Snd.exec hc _ _ _ _)) (Snd.seq (by kernel_rfl) (Snd.block (id := 0) (by kernel_rfl) (Snd.loop' (by kernel_rfl) f45s4 (fun n x => impl_Assemble.l4 k n x.1 x.2.1 x.2.2.1 x.2.2.2.1 x.2.2.2.2) _ (fun _ => rfl) (fun n4 => Snd.exec hc _ _ _ _) (fun n x => by kernel_rfl) k)) (Snd.exec hc _ _ _ _))) (Snd.exec hc _ _ _ _)) (Snd.exec hc _ _ _ _))
    (fun x => by kernel_rfl)

def f178in : SS := ⟨[(0, (.ro (.st (.cons (.int .i64) (.cons .str .nil))))), (1, (.ro (.int .i64)))], []⟩
def f178out : SS := ⟨[(0, (.ro (.int .i64)))], []⟩
def f178con (F : TVal → Int → Option Int) : Con := ⟨f178in, f178out, 2, 1, fun x => F x.1 x.2⟩
def f178ctx (k : Nat) : Ctx := ⟨tyAt tys, conAt [], 13, fun _ => false⟩
theorem f178hc (k : Nat) : CtxOk Try.prog (f178ctx k) := ctxOk tys_ok mixed_ok (consOk_nil)
theorem f178ok (k : Nat) : FnOk Try.prog 178 (f178con (laws_szVal k)) :=
  let hc := f178hc k
  fnOk (fn := Try.f178) (code := bodyOf Try.f178) (res := [.tmp 4]) hc (by kernel_rfl) (by kernel_rfl) (by decide) (by kernel_rfl) (by kernel_rfl) (by kernel_rfl) (Nat.le_of_ble_eq_true (by kernel_rfl)) _
    (fun x => Snd.exec hc _ _ _ _)
    (fun x => by kernel_rfl)

def f222in : SS := ⟨[(0, (.ro (.st (.cons (.int .i64) (.cons (.int .i64) (.cons (.st (.cons (.int .i64) (.cons .str .nil))) .nil)))))), (1, (.ro (.int .i64)))], []⟩
def f222out : SS := ⟨[(0, (.ro (.int .i64)))], []⟩
def f222con (F : TTriple → Int → Option Int) : Con := ⟨f222in, f222out, 2, 1, fun x => F x.1 x.2⟩
def f222ctx (k : Nat) : Ctx := ⟨tyAt tys, conAt [(178, [f178con (laws_szVal k)])], 12, fun _ => false⟩
theorem f222hc (k : Nat) : CtxOk Try.prog (f222ctx k) := ctxOk tys_ok mixed_ok (consOk_cons (f178ok k) (consOk_nil))
theorem f222ok (k : Nat) : FnOk Try.prog 222 (f222con (laws_szTriple k)) :=
  let hc := f222hc k
  fnOk (fn := Try.f222) (code := bodyOf Try.f222) (res := [.tmp 4]) hc (by kernel_rfl) (by kernel_rfl) (by decide) (by kernel_rfl) (by kernel_rfl) (by kernel_rfl) (Nat.le_of_ble_eq_true (by kernel_rfl)) _
    (fun x => Snd.exec hc _ _ _ _)
    (fun x => by kernel_rfl)

def f188in : SS := ⟨[(0, (.ro (.list 244 (.st (.cons (.int .i64) (.cons (.int .i64) (.cons (.st (.cons (.int .i64) (.cons .str .nil))) .nil))))))), (1, (.ro (.int .i64)))], []⟩
def f188out : SS := ⟨[(0, (.ro (.int .i64)))], []⟩
def f188s5 : SS := ⟨[(0, (.ro (.list 244 (.st (.cons (.int .i64) (.cons (.int .i64) (.cons (.st (.cons (.int .i64) (.cons .str .nil))) .nil))))))), (1, (.ro (.int .i64))), (5, (.ro (.int .i64)))], []⟩
def f188con (F : (List TTriple) → Int → Option Int) : Con := ⟨f188in, f188out, 2, 1, fun x => F x.1 x.2⟩
def f188ctx (k : Nat) : Ctx := ⟨tyAt tys, conAt [(222, [f222con (laws_szTriple k)])], 27, fun _ => false⟩
theorem f188hc (k : Nat) : CtxOk Try.prog (f188ctx k) := ctxOk tys_ok mixed_ok (consOk_cons (f222ok k) (consOk_nil))
theorem f188ok (k : Nat) : FnOk Try.prog 188 (f188con (laws_szTripleS k)) :=
  let hc := f188hc k
  fnOk (fn := Try.f188) (code := bodyOf Try.f188) (res := [.tmp 4]) hc (by kernel_rfl) (by kernel_rfl) (by decide) (by kernel_rfl) (by kernel_rfl) (by kernel_rfl) (Nat.le_of_ble_eq_true (by kernel_rfl)) _
    (fun x => Snd.seq (by kernel_rfl) (Snd.seq (by kernel_rfl) (Snd.seq (by kernel_rfl) (Snd.seq (by kernel_rfl) (Snd.exec hc _ _ _ _) (Snd.seq (by kernel_rfl) (Snd.block (id := 0) (by kernel_rfl) (Snd.loop' (by kernel_rfl) f188s5 (fun n x => laws_szTripleS.l5 k n x.1 x.2.1 x.2.2) _ (fun _ => rfl) (fun n5 => Snd.exec hc _ _ _ _) (fun n x => by kernel_rfl) k)) (Snd.exec hc _ _ _ _))) (Snd.exec hc _ _ _ _)) (Snd.exec hc _ _ _ _)) (Snd.exec hc _ _ _ _))
    (fun x => by kernel_rfl)

def f131in : SS := ⟨[(0, (.ro (.st (.cons (.list 244 (.st (.cons (.int .i64) (.cons (.int .i64) (.cons (.st (.cons (.int .i64) (.cons .str .nil))) .nil))))) .nil)))), (1, (.ro (.int .i64)))], []⟩
def f131out : SS := ⟨[(0, (.ro (.int .i64)))], []⟩
def f131con (F : TColumn → Int → Option Int) : Con := ⟨f131in, f131out, 2, 1, fun x => F x.1 x.2⟩
def f131ctx (k : Nat) : Ctx := ⟨tyAt tys, conAt [(188, [f188con (laws_szTripleS k)])], 12, fun _ => false⟩
theorem f131hc (k : Nat) : CtxOk Try.prog (f131ctx k) := ctxOk tys_ok mixed_ok (consOk_cons (f188ok k) (consOk_nil))
theorem f131ok (k : Nat) : FnOk Try.prog 131 (f131con (laws_szColumn k)) :=
  let hc := f131hc k
  fnOk (fn := Try.f131) (code := bodyOf Try.f131) (res := [.tmp 4]) hc (by kernel_rfl) (by kernel_rfl) (by decide) (by kernel_rfl) (by kernel_rfl) (by kernel_rfl) (Nat.le_of_ble_eq_true (by kernel_rfl)) _
    (fun x => Snd.exec hc _ _ _ _)
    (fun x => by kernel_rfl)

def f61in : SS := ⟨[(0, (.ro (.list 179 (.st (.cons (.list 244 (.st (.cons (.int .i64) (.cons (.int .i64) (.cons (.st (.cons (.int .i64) (.cons .str .nil))) .nil))))) .nil))))), (1, (.ro (.int .i64)))], []⟩
def f61out : SS := ⟨[(0, (.ro (.int .i64)))], []⟩
def f61s5 : SS := ⟨[(0, (.ro (.list 179 (.st (.cons (.list 244 (.st (.cons (.int .i64) (.cons (.int .i64) (.cons (.st (.cons (.int .i64) (.cons .str .nil))) .nil))))) .nil))))), (1, (.ro (.int .i64))), (5, (.ro (.int .i64)))], []⟩
def f61con (F : (List TColumn) → Int → Option Int) : Con := ⟨f61in, f61out, 2, 1, fun x => F x.1 x.2⟩
def f61ctx (k : Nat) : Ctx := ⟨tyAt tys, conAt [(131, [f131con (laws_szColumn k)])], 27, fun _ => false⟩
theorem f61hc (k : Nat) : CtxOk Try.prog (f61ctx k) := ctxOk tys_ok mixed_ok (consOk_cons (f131ok k) (consOk_nil))
theorem f61ok (k : Nat) : FnOk Try.prog 61 (f61con (laws_szColumnS k)) :=
  let hc := f61hc k
  fnOk (fn := Try.f61) (code := bodyOf Try.f61) (res := [.tmp 4]) hc (by kernel_rfl) (by kernel_rfl) (by decide) (by kernel_rfl) (by kernel_rfl) (by kernel_rfl) (Nat.le_of_ble_eq_true (by kernel_rfl)) _
    (fun x => Snd.seq (by kernel_rfl) (Snd.seq (by kernel_rfl) (Snd.seq (by kernel_rfl) (Snd.seq (by kernel_rfl) (Snd.exec hc _ _ _ _) (Snd.seq (by kernel_rfl) (Snd.block (id := 0) (by kernel_rfl) (Snd.loop' (by kernel_rfl) f61s5 (fun n x => laws_szColumnS.l5 k n x.1 x.2.1 x.2.2) _ (fun _ => rfl) (fun n5 => Snd.exec hc _ _ _ _) (fun n x => by kernel_rfl) k)) (Snd.exec hc _ _ _ _))) (Snd.exec hc _ _ _ _)) (Snd.exec hc _ _ _ _)) (Snd.exec hc _ _ _ _))
    (fun x => by kernel_rfl)

def f74in : SS := ⟨[(0, (.ro (.int .i64))), (1, (.ro (.int .i64))), (2, (.ro (.int .i64)))], []⟩
def f74out : SS := ⟨[(0, (.ro .bool))], []⟩
def f74con (F : Int → Int → Int → Option Bool) : Con := ⟨f74in, f74out, 3, 1, fun x => F x.1 x.2.1 x.2.2⟩
def f74ctx (k : Nat) : Ctx := ⟨tyAt tys, conAt [], 15, fun _ => false⟩
theorem f74hc (k : Nat) : CtxOk Try.prog (f74ctx k) := ctxOk tys_ok mixed_ok (consOk_nil)
theorem f74ok (k : Nat) : FnOk Try.prog 74 (f74con (spec_l1In k)) :=
  let hc := f74hc k
  fnOk (fn := Try.f74) (code := bodyOf Try.f74) (res := [.tmp 6]) hc (by kernel_rfl) (by kernel_rfl) (by decide) (by kernel_rfl) (by kernel_rfl) (by kernel_rfl) (Nat.le_of_ble_eq_true (by kernel_rfl)) _
    (fun x => Snd.exec hc _ _ _ _)
    (fun x => by kernel_rfl)

def f145in : SS := ⟨[(0, (.ro .str))], []⟩
def f145out : SS := ⟨[(0, (.ro .bool))], []⟩
def f145s4 : SS := ⟨[(0, (.ro .str)), (3, (.ro (.int .i64)))], []⟩
def f145con (F : ByteArray → Option Bool) : Con := ⟨f145in, f145out, 1, 1, fun x => F x⟩
def f145ctx (k : Nat) : Ctx := ⟨tyAt tys, conAt [(74, [f74con (spec_l1In k)])], 24, fun _ => false⟩
theorem f145hc (k : Nat) : CtxOk Try.prog (f145ctx k) := ctxOk tys_ok mixed_ok (consOk_cons (f74ok k) (consOk_nil))
theorem f145ok (k : Nat) : FnOk Try.prog 145 (f145con (spec_l5Name k)) :=
  let hc := f145hc k
  fnOk (fn := Try.f145) (code := bodyOf Try.f145) (res := [.tmp 2]) hc (by kernel_rfl) (by kernel_rfl) (by decide) (by kernel_rfl) (by kernel_rfl) (by kernel_rfl) (Nat.le_of_ble_eq_true (by kernel_rfl)) _
    (fun x => Snd.seq (by kernel_rfl) (Snd.seq (by kernel_rfl) (Snd.seq (by kernel_rfl) (Snd.exec hc _ _ _ _) (Snd.seq (by kernel_rfl) (Snd.block (id := 0) (by kernel_rfl) (Snd.loop' (by kernel_rfl) f145s4 (fun n x => spec_l5Name.l4 k n x.1 x.2) _ (fun _ => rfl) (fun n4 => Snd.exec hc _ _ _ _) (fun n x => by kernel_rfl) k)) (Snd.exec hc _ _ _ _))) (Snd.exec hc _ _ _ _)) (Snd.exec hc _ _ _ _))
    (fun x => by kernel_rfl)

def f146in : SS := ⟨[(0, (.ro (.int .i64)))], []⟩
def f146out : SS := ⟨[(0, (.ro .bool))], []⟩
def f146s7 : SS := ⟨[(4, (.ro .bool))], []⟩
def f146con (F : Int → Option Bool) : Con := ⟨f146in, f146out, 1, 1, fun x => F x⟩
def f146ctx (k : Nat) : Ctx := ⟨tyAt tys, conAt [], 10, fun _ => false⟩
theorem f146hc (k : Nat) : CtxOk Try.prog (f146ctx k) := ctxOk tys_ok mixed_ok (consOk_nil)
theorem f146ok (k : Nat) : FnOk Try.prog 146 (f146con (spec_l5Type k)) :=
  let hc := f146hc k
  fnOk (fn := Try.f146) (code := bodyOf Try.f146) (res := [.tmp 2]) hc (by kernel_rfl) (by kernel_rfl) (by decide) (by kernel_rfl) (by kernel_rfl) (by kernel_rfl) (Nat.le_of_ble_eq_true (by kernel_rfl)) _
    (fun x => Snd.seq (by kernel_rfl) (Snd.seq (by kernel_rfl) (Snd.exec hc _ _ _ _) (Snd.seq (by kernel_rfl) (Snd.block (id := 0) (by kernel_rfl) (Snd.seq (by kernel_rfl) (Snd.cut (Snd.exec hc _ _ _ _) ⟨f146s7, fun x => spec_l5Type.c7 k x⟩ (fun x => by kernel_rfl)) (Snd.exec hc _ _ _ _))) (Snd.exec hc _ _ _ _))) (Snd.exec hc _ _ _ _))
    (fun x => by kernel_rfl)

def f75in : SS := ⟨[(0, (.ro (.list 126 (.st (.cons .str (.cons (.int .i64) (.cons (.int .i64) (.cons (.int .i64) .nil)))))))), (1, (.ro (.int .i64))), (2, (.ro (.int .i64)))], []⟩
def f75out : SS := ⟨[(0, (.ro (.int .i64)))], []⟩
def f75s20 : SS := ⟨[(0, (.ro (.list 126 (.st (.cons .str (.cons (.int .i64) (.cons (.int .i64) (.cons (.int .i64) .nil)))))))), (2, (.ro (.int .i64))), (7, (.p 100)), (8, (.ro (.int .i64))), (9, (.h 101)), (10, (.ro (.int .i64))), (11, (.ro (.int .i64)))], [(100, (.box (.st (.cons .str (.cons (.int .i64) (.cons (.int .i64) (.cons (.int .i64) .nil))))) (.agg (.cons (.ro .str) (.cons (.ro (.int .i64)) (.cons (.ro (.int .i64)) (.cons (.ro (.int .i64)) .nil))))))), (101, (.sl 9 .str))]⟩
def f75s15 : SS := ⟨[(0, (.ro (.list 126 (.st (.cons .str (.cons (.int .i64) (.cons (.int .i64) (.cons (.int .i64) .nil)))))))), (2, (.ro (.int .i64))), (7, (.p 100)), (8, (.ro (.int .i64))), (9, (.h 101)), (10, (.ro (.int .i64)))], [(100, (.box (.st (.cons .str (.cons (.int .i64) (.cons (.int .i64) (.cons (.int .i64) .nil))))) (.agg (.cons (.ro .str) (.cons (.ro (.int .i64)) (.cons (.ro (.int .i64)) (.cons (.ro (.int .i64)) .nil))))))), (101, (.sl 9 .str))]⟩
def f75con (F : (List TCol) → Int → Int → Option Int) : Con := ⟨f75in, f75out, 3, 1, fun x => F x.1 x.2.1 x.2.2⟩
def f75ctx (k : Nat) (S75 : (List TCol) → Int → Int → Option Int) : Ctx := ⟨tyAt tys, conAt [(74, [f74con (spec_l1In k)]), (75, [f75con S75]), (145, [f145con (spec_l5Name k)]), (146, [f146con (spec_l5Type k)])], 119, fun _ => false⟩
theorem f75hc (k : Nat) (S75 : (List TCol) → Int → Int → Option Int) (h75 : FnOk Try.prog 75 (f75con S75)) : CtxOk Try.prog (f75ctx k S75) := ctxOk tys_ok mixed_ok (consOk_cons (f74ok k) (consOk_cons (h75) (consOk_cons (f145ok k) (consOk_cons (f146ok k) (consOk_nil)))))
theorem f75okb (k : Nat) (S75 : (List TCol) → Int → Int → Option Int) (h75 : FnOk Try.prog 75 (f75con S75)) : FnOk Try.prog 75 (f75con (spec_l5Check.b k S75)) :=
  let hc := f75hc k S75 h75
  fnOk (fn := Try.f75) (code := bodyOf Try.f75) (res := [.tmp 6]) hc (by kernel_rfl) (by kernel_rfl) (by decide) (by kernel_rfl) (by kernel_rfl) (by kernel_rfl) (Nat.le_of_ble_eq_true (by kernel_rfl)) _
    (fun x => Snd.seq (by kernel_rfl) (Snd.seq (by kernel_rfl) (Snd.seq (by kernel_rfl) (Snd.seq (by kernel_rfl) (Snd.seq (by kernel_rfl) (Snd.seq (by kernel_rfl) (Snd.seq (by kernel_rfl) (Snd.seq (by kernel_rfl) (Snd.seq (by kernel_rfl) (Snd.exec hc _ _ _ _) (Snd.seq (by kernel_rfl) (Snd.block (id := 0) (by kernel_rfl) (Snd.loop' (by kernel_rfl) f75s15 (fun n x => spec_l5Check.l15 k S75 n x.1.1 x.1.2.1 x.1.2.2.2.1 x.1.2.2.2.2.2 x.2.1 x.2.2) _ (fun _ => rfl) (fun n15 => Snd.seq (by kernel_rfl) (Snd.seq (by kernel_rfl) (Snd.exec hc _ _ _ _) (Snd.block (id := 1) (by kernel_rfl) (Snd.seq (by kernel_rfl) (Snd.seq (by kernel_rfl) (Snd.exec hc _ _ _ _) (Snd.seq (by kernel_rfl) (Snd.block (id := 2) (by kernel_rfl) (Snd.loop' (by kernel_rfl) f75s20 (fun n x => spec_l5Check.l20 k S75 (spec_l5Check.l15 k S75 n15) n x.1.1 x.1.2.1 x.1.2.2.2.1 x.1.2.2.2.2.2.1 x.1.2.2.2.2.2.2 x.2.1 x.2.2) _ (fun _ => rfl) (fun n20 => Snd.exec hc _ _ _ _) (fun n x => by kernel_rfl) k)) (Snd.exec hc _ _ _ _))) (Snd.exec hc _ _ _ _)))) (Snd.exec hc _ _ _ _)) (fun n x => by kernel_rfl) k)) (Snd.exec hc _ _ _ _))) (Snd.exec hc _ _ _ _)) (Snd.exec hc _ _ _ _)) (Snd.exec hc _ _ _ _)) (Snd.exec hc _ _ _ _)) (Snd.exec hc _ _ _ _)) (Snd.exec hc _ _ _ _)) (Snd.exec hc _ _ _ _)) (Snd.exec hc _ _ _ _))
    (fun x => by kernel_rfl)
theorem f75rec (k : Nat) : ∀ d, FnOk Try.prog 75 (f75con (spec_l5Check.d k d))
  | 0 => FnOk_none (fun _ => rfl)
  | d + 1 => let ih := f75rec k d
    f75okb k (spec_l5Check.d k d) ih
theorem f75ok (k : Nat) : FnOk Try.prog 75 (f75con (spec_l5Check k)) := (f75rec k k)

def f17in : SS := ⟨[(0, (.ro (.list 126 (.st (.cons .str (.cons (.int .i64) (.cons (.int .i64) (.cons (.int .i64) .nil))))))))], []⟩
def f17out : SS := ⟨[(0, (.ro .bool))], []⟩
def f17con (F : (List TCol) → Option Bool) : Con := ⟨f17in, f17out, 1, 1, fun x => F x⟩
def f17ctx (k : Nat) : Ctx := ⟨tyAt tys, conAt [(74, [f74con (spec_l1In k)]), (75, [f75con (spec_l5Check k)])], 13, fun _ => false⟩
theorem f17hc (k : Nat) : CtxOk Try.prog (f17ctx k) := ctxOk tys_ok mixed_ok (consOk_cons (f74ok k) (consOk_cons (f75ok k) (consOk_nil)))
theorem f17ok (k : Nat) : FnOk Try.prog 17 (f17con (spec_SchemaOk k)) :=
  let hc := f17hc k
  fnOk (fn := Try.f17) (code := bodyOf Try.f17) (res := [.tmp 2]) hc (by kernel_rfl) (by kernel_rfl) (by decide) (by kernel_rfl) (by kernel_rfl) (by kernel_rfl) (Nat.le_of_ble_eq_true (by kernel_rfl)) _
    (fun x => Snd.exec hc _ _ _ _)
    (fun x => by kernel_rfl)

def f166in : SS := ⟨[(0, (.ro (.int .i64)))], []⟩
def f166out : SS := ⟨[(0, (.ro .bool))], []⟩
def f166con (F : Int → Option Bool) : Con := ⟨f166in, f166out, 1, 1, fun x => F x⟩
def f166ctx (k : Nat) : Ctx := ⟨tyAt tys, conAt [(74, [f74con (spec_l1In k)])], 5, fun _ => false⟩
theorem f166hc (k : Nat) : CtxOk Try.prog (f166ctx k) := ctxOk tys_ok mixed_ok (consOk_cons (f74ok k) (consOk_nil))
theorem f166ok (k : Nat) : FnOk Try.prog 166 (f166con (spec_l4Int k)) :=
  let hc := f166hc k
  fnOk (fn := Try.f166) (code := bodyOf Try.f166) (res := [.tmp 2]) hc (by kernel_rfl) (by kernel_rfl) (by decide) (by kernel_rfl) (by kernel_rfl) (by kernel_rfl) (Nat.le_of_ble_eq_true (by kernel_rfl)) _
    (fun x => Snd.exec hc _ _ _ _)
    (fun x => by kernel_rfl)

def f142in : SS := ⟨[(0, (.ro (.int .i64))), (1, (.ro (.st (.cons (.int .i64) (.cons .str .nil)))))], []⟩
def f142out : SS := ⟨[(0, (.ro .bool))], []⟩
def f142s8 : SS := ⟨[(3, (.p 100)), (5, (.ro (.int .i64))), (26, (.ro .bool))], [(100, (.box (.st (.cons (.int .i64) (.cons .str .nil))) (.agg (.cons (.ro (.int .i64)) (.cons (.ro .str) .nil)))))]⟩
def f142con (F : Int → TVal → Option Bool) : Con := ⟨f142in, f142out, 2, 1, fun x => F x.1 x.2⟩
def f142ctx (k : Nat) : Ctx := ⟨tyAt tys, conAt [(74, [f74con (spec_l1In k)]), (166, [f166con (spec_l4Int k)])], 43, fun _ => false⟩
theorem f142hc (k : Nat) : CtxOk Try.prog (f142ctx k) := ctxOk tys_ok mixed_ok (consOk_cons (f74ok k) (consOk_cons (f166ok k) (consOk_nil)))
theorem f142ok (k : Nat) : FnOk Try.prog 142 (f142con (spec_ValOk k)) :=
  let hc := f142hc k
  fnOk (fn := Try.f142) (code := bodyOf Try.f142) (res := [.tmp 4]) hc (by kernel_rfl) (by kernel_rfl) (by decide) (by kernel_rfl) (by kernel_rfl) (by kernel_rfl) (Nat.le_of_ble_eq_true (by kernel_rfl)) _
    (fun x => Snd.seq (by kernel_rfl) (Snd.seq (by kernel_rfl) (Snd.exec hc _ _ _ _) (Snd.seq (by kernel_rfl) (Snd.block (id := 0) (by kernel_rfl) (Snd.seq (by kernel_rfl) (Snd.cond (x := .tmp 6) (by kernel_rfl) (Snd.exec hc _ _ _ _) (Snd.seq (by kernel_rfl) (Snd.cond (x := .tmp 16) (by kernel_rfl) (Snd.exec hc _ _ _ _) (Snd.seq (by kernel_rfl) (Snd.cut (Snd.exec hc _ _ _ _) ⟨f142s8, fun x => spec_ValOk.c8 k x.1.2.1 x.1.2.2 x.2⟩ (fun x => by kernel_rfl)) (Snd.exec hc _ _ _ _))) (Snd.exec hc _ _ _ _))) (Snd.exec hc _ _ _ _))) (Snd.exec hc _ _ _ _))) (Snd.exec hc _ _ _ _))
    (fun x => by kernel_rfl)

def f198in : SS := ⟨[(0, (.ro (.st (.cons (.int .i64) (.cons .str .nil))))), (1, (.ro (.int .i64)))], []⟩
def f198out : SS := ⟨[(0, (.ro (.int .i64)))], []⟩
def f198con (F : TVal → Int → Option Int) : Con := ⟨f198in, f198out, 2, 1, fun x => F x.1 x.2⟩
def f198ctx (k : Nat) : Ctx := ⟨tyAt tys, conAt [(74, [f74con (spec_l1In k)])], 17, fun _ => false⟩
theorem f198hc (k : Nat) : CtxOk Try.prog (f198ctx k) := ctxOk tys_ok mixed_ok (consOk_cons (f74ok k) (consOk_nil))
theorem f198ok (k : Nat) : FnOk Try.prog 198 (f198con (spec_l13Count k)) :=
  let hc := f198hc k
  fnOk (fn := Try.f198) (code := bodyOf Try.f198) (res := [.tmp 4]) hc (by kernel_rfl) (by kernel_rfl) (by decide) (by kernel_rfl) (by kernel_rfl) (by kernel_rfl) (Nat.le_of_ble_eq_true (by kernel_rfl)) _
    (fun x => Snd.exec hc _ _ _ _)
    (fun x => by kernel_rfl)

def f144in : SS := ⟨[(0, (.ro (.list 126 (.st (.cons .str (.cons (.int .i64) (.cons (.int .i64) (.cons (.int .i64) .nil)))))))), (1, (.ro (.int .i64)))], []⟩
def f144out : SS := ⟨[(0, (.ro (.int .i64)))], []⟩
def f144s3 : SS := ⟨[(0, (.ro (.list 126 (.st (.cons .str (.cons (.int .i64) (.cons (.int .i64) (.cons (.int .i64) .nil)))))))), (1, (.ro (.int .i64))), (5, (.ro (.int .i64))), (6, (.ro (.int .i64)))], []⟩
def f144con (F : (List TCol) → Int → Option Int) : Con := ⟨f144in, f144out, 2, 1, fun x => F x.1 x.2⟩
def f144ctx (k : Nat) (S144 : (List TCol) → Int → Option Int) : Ctx := ⟨tyAt tys, conAt [(144, [f144con S144])], 22, fun _ => false⟩
theorem f144hc (k : Nat) (S144 : (List TCol) → Int → Option Int) (h144 : FnOk Try.prog 144 (f144con S144)) : CtxOk Try.prog (f144ctx k S144) := ctxOk tys_ok mixed_ok (consOk_cons (h144) (consOk_nil))
theorem f144okb (k : Nat) (S144 : (List TCol) → Int → Option Int) (h144 : FnOk Try.prog 144 (f144con S144)) : FnOk Try.prog 144 (f144con (spec_l5After.b k S144)) :=
  let hc := f144hc k S144 h144
  fnOk (fn := Try.f144) (code := bodyOf Try.f144) (res := [.tmp 4]) hc (by kernel_rfl) (by kernel_rfl) (by decide) (by kernel_rfl) (by kernel_rfl) (by kernel_rfl) (Nat.le_of_ble_eq_true (by kernel_rfl)) _
    (fun x => Snd.seq (by kernel_rfl) (Snd.seq (by kernel_rfl) (Snd.seq (by kernel_rfl) (Snd.exec hc _ _ _ _) (Snd.seq (by kernel_rfl) (Snd.block (id := 0) (by kernel_rfl) (Snd.loop' (by kernel_rfl) f144s3 (fun n x => spec_l5After.l3 k S144 n x.1 x.2.1 x.2.2.1 x.2.2.2) _ (fun _ => rfl) (fun n3 => Snd.exec hc _ _ _ _) (fun n x => by kernel_rfl) k)) (Snd.exec hc _ _ _ _))) (Snd.exec hc _ _ _ _)) (Snd.exec hc _ _ _ _))
    (fun x => by kernel_rfl)
theorem f144rec (k : Nat) : ∀ d, FnOk Try.prog 144 (f144con (spec_l5After.d k d))
  | 0 => FnOk_none (fun _ => rfl)
  | d + 1 => let ih := f144rec k d
    f144okb k (spec_l5After.d k d) ih
theorem f144ok (k : Nat) : FnOk Try.prog 144 (f144con (spec_l5After k)) := (f144rec k k)

def f72in : SS := ⟨[(0, (.ro (.list 126 (.st (.cons .str (.cons (.int .i64) (.cons (.int .i64) (.cons (.int .i64) .nil)))))))), (1, (.ro (.int .i64))), (2, (.ro (.list 52 (.st (.cons (.int .i64) (.cons .str .nil)))))), (3, (.ro (.int .i64)))], []⟩
def f72out : SS := ⟨[(0, (.ro (.int .i64)))], []⟩
def f72s7 : SS := ⟨[(0, (.ro (.list 126 (.st (.cons .str (.cons (.int .i64) (.cons (.int .i64) (.cons (.int .i64) .nil)))))))), (1, (.ro (.int .i64))), (2, (.ro (.list 52 (.st (.cons (.int .i64) (.cons .str .nil)))))), (3, (.ro (.int .i64))), (9, (.ro (.int .i64))), (10, (.ro (.int .i64)))], []⟩
def f72con (F : (List TCol) → Int → (List TVal) → Int → Option Int) : Con := ⟨f72in, f72out, 4, 1, fun x => F x.1 x.2.1 x.2.2.1 x.2.2.2⟩
def f143in : SS := ⟨[(0, (.ro (.list 126 (.st (.cons .str (.cons (.int .i64) (.cons (.int .i64) (.cons (.int .i64) .nil)))))))), (1, (.ro (.int .i64))), (2, (.ro (.list 52 (.st (.cons (.int .i64) (.cons .str .nil)))))), (3, (.ro (.int .i64)))], []⟩
def f143out : SS := ⟨[(0, (.ro (.int .i64)))], []⟩
def f143s13 : SS := ⟨[(0, (.ro (.list 126 (.st (.cons .str (.cons (.int .i64) (.cons (.int .i64) (.cons (.int .i64) .nil)))))))), (1, (.ro (.int .i64))), (2, (.ro (.list 52 (.st (.cons (.int .i64) (.cons .str .nil)))))), (3, (.ro (.int .i64))), (9, (.ro (.int .i64))), (11, (.ro (.int .i64)))], []⟩
def f143s12 : SS := ⟨[(0, (.ro (.list 126 (.st (.cons .str (.cons (.int .i64) (.cons (.int .i64) (.cons (.int .i64) .nil)))))))), (1, (.ro (.int .i64))), (2, (.ro (.list 52 (.st (.cons (.int .i64) (.cons .str .nil)))))), (3, (.ro (.int .i64))), (9, (.ro (.int .i64)))], []⟩
def f143s6 : SS := ⟨[(0, (.ro (.list 126 (.st (.cons .str (.cons (.int .i64) (.cons (.int .i64) (.cons (.int .i64) .nil)))))))), (1, (.ro (.int .i64))), (2, (.ro (.list 52 (.st (.cons (.int .i64) (.cons .str .nil)))))), (3, (.ro (.int .i64))), (10, (.ro (.int .i64)))], []⟩
def f143con (F : (List TCol) → Int → (List TVal) → Int → Option Int) : Con := ⟨f143in, f143out, 4, 1, fun x => F x.1 x.2.1 x.2.2.1 x.2.2.2⟩
def f72ctx (k : Nat) (S72 : (List TCol) → Int → (List TVal) → Int → Option Int) (S143 : (List TCol) → Int → (List TVal) → Int → Option Int) : Ctx := ⟨tyAt tys, conAt [(142, [f142con (spec_ValOk k)]), (143, [f143con S143]), (144, [f144con (spec_l5After k)])], 58, fun _ => false⟩
theorem f72hc (k : Nat) (S72 : (List TCol) → Int → (List TVal) → Int → Option Int) (S143 : (List TCol) → Int → (List TVal) → Int → Option Int) (h72 : FnOk Try.prog 72 (f72con S72)) (h143 : FnOk Try.prog 143 (f143con S143)) : CtxOk Try.prog (f72ctx k S72 S143) := ctxOk tys_ok mixed_ok (consOk_cons (f142ok k) (consOk_cons (h143) (consOk_cons (f144ok k) (consOk_nil))))
theorem f72okb (k : Nat) (S72 : (List TCol) → Int → (List TVal) → Int → Option Int) (S143 : (List TCol) → Int → (List TVal) → Int → Option Int) (h72 : FnOk Try.prog 72 (f72con S72)) (h143 : FnOk Try.prog 143 (f143con S143)) : FnOk Try.prog 72 (f72con (spec_l13Content.b k S72 S143)) :=
  let hc := f72hc k S72 S143 h72 h143
  fnOk (fn := Try.f72) (code := bodyOf Try.f72) (res := [.tmp 8]) hc (by kernel_rfl) (by kernel_rfl) (by decide) (by kernel_rfl) (by kernel_rfl) (by kernel_rfl) (Nat.le_of_ble_eq_true (by kernel_rfl)) _
    (fun x => Snd.seq (by kernel_rfl) (Snd.seq (by kernel_rfl) (Snd.seq (by kernel_rfl) (Snd.seq (by kernel_rfl) (Snd.exec hc _ _ _ _) (Snd.seq (by kernel_rfl) (Snd.block (id := 0) (by kernel_rfl) (Snd.loop' (by kernel_rfl) f72s7 (fun n x => spec_l13Content.l7 k S143 n x.1 x.2.1 x.2.2.1 x.2.2.2.1 x.2.2.2.2.1 x.2.2.2.2.2) _ (fun _ => rfl) (fun n7 => Snd.exec hc _ _ _ _) (fun n x => by kernel_rfl) k)) (Snd.exec hc _ _ _ _))) (Snd.exec hc _ _ _ _)) (Snd.exec hc _ _ _ _)) (Snd.exec hc _ _ _ _))
    (fun x => by kernel_rfl)
def f143ctx (k : Nat) (S72 : (List TCol) → Int → (List TVal) → Int → Option Int) (S143 : (List TCol) → Int → (List TVal) → Int → Option Int) : Ctx := ⟨tyAt tys, conAt [(72, [f72con S72]), (198, [f198con (spec_l13Count k)])], 51, fun _ => false⟩
theorem f143hc (k : Nat) (S72 : (List TCol) → Int → (List TVal) → Int → Option Int) (S143 : (List TCol) → Int → (List TVal) → Int → Option Int) (h72 : FnOk Try.prog 72 (f72con S72)) (h143 : FnOk Try.prog 143 (f143con S143)) : CtxOk Try.prog (f143ctx k S72 S143) := ctxOk tys_ok mixed_ok (consOk_cons (h72) (consOk_cons (f198ok k) (consOk_nil)))
theorem f143okb (k : Nat) (S72 : (List TCol) → Int → (List TVal) → Int → Option Int) (S143 : (List TCol) → Int → (List TVal) → Int → Option Int) (h72 : FnOk Try.prog 72 (f72con S72)) (h143 : FnOk Try.prog 143 (f143con S143)) : FnOk Try.prog 143 (f143con (spec_l13Part.b k S72 S143)) :=
  let hc := f143hc k S72 S143 h72 h143
  fnOk (fn := Try.f143) (code := bodyOf Try.f143) (res := [.tmp 8]) hc (by kernel_rfl) (by kernel_rfl) (by decide) (by kernel_rfl) (by kernel_rfl) (by kernel_rfl) (Nat.le_of_ble_eq_true (by kernel_rfl)) _
    (fun x => Snd.seq (by kernel_rfl) (Snd.seq (by kernel_rfl) (Snd.seq (by kernel_rfl) (Snd.cut (Snd.seq (by kernel_rfl) (Snd.exec hc _ _ _ _) (Snd.seq (by kernel_rfl) (Snd.block (id := 0) (by kernel_rfl) (Snd.loop' (by kernel_rfl) f143s13 (fun n x => spec_l13Part.l13 k S72 n x.1 x.2.1 x.2.2.1 x.2.2.2.1 x.2.2.2.2.1 x.2.2.2.2.2) _ (fun _ => rfl) (fun n13 => Snd.exec hc _ _ _ _) (fun n x => by kernel_rfl) k)) (Snd.exec hc _ _ _ _))) ⟨f143s12, fun x => spec_l13Part.c12 k S72 x.1 x.2.1 x.2.2.1 x.2.2.2.1 x.2.2.2.2⟩ (fun x => by kernel_rfl)) (Snd.seq (by kernel_rfl) (Snd.cond (x := .tmp 17) (by kernel_rfl) (Snd.seq (by kernel_rfl) (Snd.seq (by kernel_rfl) (Snd.cut (Snd.exec hc _ _ _ _) ⟨f143s6, fun x => spec_l13Part.c6 k S72 x.1 x.2.1 x.2.2.1 x.2.2.2.1 x.2.2.2.2⟩ (fun x => by kernel_rfl)) (Snd.exec hc _ _ _ _)) (Snd.exec hc _ _ _ _)) (Snd.exec hc _ _ _ _)) (Snd.exec hc _ _ _ _))) (Snd.exec hc _ _ _ _)) (Snd.exec hc _ _ _ _))
    (fun x => by kernel_rfl)
theorem f72rec (k : Nat) : ∀ d, FnOk Try.prog 72 (f72con (spec_l13Content.d k d)) ∧ FnOk Try.prog 143 (f143con (spec_l13Part.d k d))
  | 0 => ⟨FnOk_none (fun _ => rfl), FnOk_none (fun _ => rfl)⟩
  | d + 1 => let ih := f72rec k d
    ⟨f72okb k (spec_l13Content.d k d) (spec_l13Part.d k d) ih.1 ih.2, f143okb k (spec_l13Content.d k d) (spec_l13Part.d k d) ih.1 ih.2⟩
theorem f72ok (k : Nat) : FnOk Try.prog 72 (f72con (spec_l13Content k)) := (f72rec k k).1
theorem f143ok (k : Nat) : FnOk Try.prog 143 (f143con (spec_l13Part k)) := (f72rec k k).2

def f15in : SS := ⟨[(0, (.ro (.list 126 (.st (.cons .str (.cons (.int .i64) (.cons (.int .i64) (.cons (.int .i64) .nil)))))))), (1, (.ro (.st (.cons (.list 52 (.st (.cons (.int .i64) (.cons .str .nil)))) .nil))))], []⟩
def f15out : SS := ⟨[(0, (.ro .bool))], []⟩
def f15d1 : SS := ⟨[(0, (.ro (.list 126 (.st (.cons .str (.cons (.int .i64) (.cons (.int .i64) (.cons (.int .i64) .nil)))))))), (3, (.p 100))], [(100, (.box (.st (.cons (.list 52 (.st (.cons (.int .i64) (.cons .str .nil)))) .nil)) (.agg (.cons (.ro (.list 52 (.st (.cons (.int .i64) (.cons .str .nil))))) .nil))))]⟩
def f15con (F : (List TCol) → TRec → Option Bool) : Con := ⟨f15in, f15out, 2, 1, fun x => F x.1 x.2⟩
def f15ctx (k : Nat) : Ctx := ⟨tyAt tys, conAt [(17, [f17con (spec_SchemaOk k)]), (72, [f72con (spec_l13Content k)])], 23, fun _ => false⟩
theorem f15hc (k : Nat) : CtxOk Try.prog (f15ctx k) := ctxOk tys_ok mixed_ok (consOk_cons (f17ok k) (consOk_cons (f72ok k) (consOk_nil)))
theorem f15ok (k : Nat) : FnOk Try.prog 15 (f15con (spec_RecOk k)) :=
  let hc := f15hc k
  fnOk (fn := Try.f15) (code := bodyOf Try.f15) (res := [.tmp 4]) hc (by kernel_rfl) (by kernel_rfl) (by decide) (by kernel_rfl) (by kernel_rfl) (by kernel_rfl) (Nat.le_of_ble_eq_true (by kernel_rfl)) _
    (fun x => Snd.seq (by kernel_rfl) (Snd.seq (by kernel_rfl) (Snd.exec hc _ _ _ _) (Snd.fork hc (id := 1) (by kernel_rfl) ⟨f15d1, fun x => spec_RecOk.d1 k x.1.1 x.2⟩ [[0, 1, 2, 3, 4, 5, 6, 7, 8, 9, 10, 11, 13, 12, 14, 15, 16, 17, 18], [0, 1, 2, 3, 4, 5, 6, 7, 8, 9, 10, 11, 13, 14, 15, 12, 16, 17, 18]] (by kernel_rfl) (ords_cons (fun x => by kernel_rfl) (ords_cons (fun x => by kernel_rfl) (ords_nil))))) (Snd.exec hc _ _ _ _))
    (fun x => by kernel_rfl)

def f80in : SS := ⟨[(0, (.ro (.list 126 (.st (.cons .str (.cons (.int .i64) (.cons (.int .i64) (.cons (.int .i64) .nil))))))))], []⟩
def f80out : SS := ⟨[(0, (.h 100))], [(100, (.sl 3 (.int .i64)))]⟩
def f80s4 : SS := ⟨[(0, (.ro (.list 126 (.st (.cons .str (.cons (.int .i64) (.cons (.int .i64) (.cons (.int .i64) .nil)))))))), (3, (.h 100)), (4, (.ro (.int .i64)))], [(100, (.sl 3 (.int .i64)))]⟩
def f80s3 : SS := ⟨[(0, (.ro (.list 126 (.st (.cons .str (.cons (.int .i64) (.cons (.int .i64) (.cons (.int .i64) .nil)))))))), (3, (.h 100)), (4, (.ro (.int .i64)))], [(100, (.sl 3 (.int .i64)))]⟩
def f80con (F : (List TCol) → Option (Unit × (List Int))) : Con := ⟨f80in, f80out, 1, 1, fun x => F x⟩
def f80ctx (k : Nat) : Ctx := ⟨tyAt tys, conAt [], 23, fun _ => false⟩
theorem f80hc (k : Nat) : CtxOk Try.prog (f80ctx k) := ctxOk tys_ok mixed_ok (consOk_nil)
theorem f80ok (k : Nat) : FnOk Try.prog 80 (f80con (spec_l5Leaves k)) :=
  let hc := f80hc k
  fnOk (fn := Try.f80) (code := bodyOf Try.f80) (res := [.tmp 2]) hc (by kernel_rfl) (by kernel_rfl) (by decide) (by kernel_rfl) (by kernel_rfl) (by kernel_rfl) (Nat.le_of_ble_eq_true (by kernel_rfl)) _
    (fun x => Snd.seq (by kernel_rfl) (Snd.seq (by kernel_rfl) (Snd.seq (by kernel_rfl) (Snd.exec hc _ _ _ _) (Snd.seq (by kernel_rfl) (Snd.block (id := 0) (by kernel_rfl) (Snd.loop' (by kernel_rfl) f80s3 (fun n x => spec_l5Leaves.l3 k n x.1.1 x.1.2.2 x.2) _ (fun _ => rfl) (fun n3 => Snd.seq (by kernel_rfl) (Snd.seq (by kernel_rfl) (Snd.cut (Snd.exec hc _ _ _ _) ⟨f80s4, fun x => spec_l5Leaves.c4 k (spec_l5Leaves.l3 k n3) x.1.1 x.1.2.2 x.2⟩ (fun x => by kernel_rfl)) (Snd.exec hc _ _ _ _)) (Snd.exec hc _ _ _ _)) (fun n x => by kernel_rfl) k)) (Snd.exec hc _ _ _ _))) (Snd.exec hc _ _ _ _)) (Snd.exec hc _ _ _ _))
    (fun x => by kernel_rfl)

def f19in : SS := ⟨[(0, (.ro (.list 126 (.st (.cons .str (.cons (.int .i64) (.cons (.int .i64) (.cons (.int .i64) .nil))))))))], []⟩
def f19out : SS := ⟨[(0, (.h 100))], [(100, (.sl 3 (.int .i64)))]⟩
def f19con (F : (List TCol) → Option (Unit × (List Int))) : Con := ⟨f19in, f19out, 1, 1, fun x => F x⟩
def f19ctx (k : Nat) : Ctx := ⟨tyAt tys, conAt [(17, [f17con (spec_SchemaOk k)]), (80, [f80con (spec_l5Leaves k)])], 9, fun _ => false⟩
theorem f19hc (k : Nat) : CtxOk Try.prog (f19ctx k) := ctxOk tys_ok mixed_ok (consOk_cons (f17ok k) (consOk_cons (f80ok k) (consOk_nil)))
theorem f19ok (k : Nat) : FnOk Try.prog 19 (f19con (spec_SchemaLeaves k)) :=
  let hc := f19hc k
  fnOk (fn := Try.f19) (code := bodyOf Try.f19) (res := [.tmp 2]) hc (by kernel_rfl) (by kernel_rfl) (by decide) (by kernel_rfl) (by kernel_rfl) (by kernel_rfl) (Nat.le_of_ble_eq_true (by kernel_rfl)) _
    (fun x => Snd.exec hc _ _ _ _)
    (fun x => by kernel_rfl)

def f147in : SS := ⟨[(0, (.ro (.list 126 (.st (.cons .str (.cons (.int .i64) (.cons (.int .i64) (.cons (.int .i64) .nil)))))))), (1, (.ro (.int .i64)))], []⟩
def f147out : SS := ⟨[(0, (.h 100))], [(100, (.sl 3 (.int .i64)))]⟩
def f147s4 : SS := ⟨[(0, (.ro (.list 126 (.st (.cons .str (.cons (.int .i64) (.cons (.int .i64) (.cons (.int .i64) .nil)))))))), (1, (.ro (.int .i64))), (5, (.h 100)), (6, (.ro (.int .i64)))], [(100, (.sl 3 (.int .i64)))]⟩
def f147s3 : SS := ⟨[(0, (.ro (.list 126 (.st (.cons .str (.cons (.int .i64) (.cons (.int .i64) (.cons (.int .i64) .nil)))))))), (1, (.ro (.int .i64))), (5, (.h 100)), (6, (.ro (.int .i64)))], [(100, (.sl 3 (.int .i64)))]⟩
def f147con (F : (List TCol) → Int → Option (Unit × (List Int))) : Con := ⟨f147in, f147out, 2, 1, fun x => F x.1 x.2⟩
def f147ctx (k : Nat) : Ctx := ⟨tyAt tys, conAt [(144, [f144con (spec_l5After k)])], 23, fun _ => false⟩
theorem f147hc (k : Nat) : CtxOk Try.prog (f147ctx k) := ctxOk tys_ok mixed_ok (consOk_cons (f144ok k) (consOk_nil))
theorem f147ok (k : Nat) : FnOk Try.prog 147 (f147con (spec_l5Way k)) :=
  let hc := f147hc k
  fnOk (fn := Try.f147) (code := bodyOf Try.f147) (res := [.tmp 4]) hc (by kernel_rfl) (by kernel_rfl) (by decide) (by kernel_rfl) (by kernel_rfl) (by kernel_rfl) (Nat.le_of_ble_eq_true (by kernel_rfl)) _
    (fun x => Snd.seq (by kernel_rfl) (Snd.seq (by kernel_rfl) (Snd.seq (by kernel_rfl) (Snd.exec hc _ _ _ _) (Snd.seq (by kernel_rfl) (Snd.block (id := 0) (by kernel_rfl) (Snd.loop' (by kernel_rfl) f147s3 (fun n x => spec_l5Way.l3 k n x.1.1 x.1.2.1 x.1.2.2.2 x.2) _ (fun _ => rfl) (fun n3 => Snd.seq (by kernel_rfl) (Snd.seq (by kernel_rfl) (Snd.cut (Snd.exec hc _ _ _ _) ⟨f147s4, fun x => spec_l5Way.c4 k (spec_l5Way.l3 k n3) x.1.1 x.1.2.1 x.1.2.2.2 x.2⟩ (fun x => by kernel_rfl)) (Snd.exec hc _ _ _ _)) (Snd.exec hc _ _ _ _)) (fun n x => by kernel_rfl) k)) (Snd.exec hc _ _ _ _))) (Snd.exec hc _ _ _ _)) (Snd.exec hc _ _ _ _))
    (fun x => by kernel_rfl)

def f82in : SS := ⟨[(0, (.ro (.list 126 (.st (.cons .str (.cons (.int .i64) (.cons (.int .i64) (.cons (.int .i64) .nil)))))))), (1, (.ro (.int .i64)))], []⟩
def f82out : SS := ⟨[(0, (.ro (.int .i64))), (1, (.ro (.int .i64)))], []⟩
def f82s5 : SS := ⟨[(0, (.ro (.list 126 (.st (.cons .str (.cons (.int .i64) (.cons (.int .i64) (.cons (.int .i64) .nil)))))))), (6, (.ro (.int .i64))), (7, (.ro (.int .i64))), (8, (.h 100)), (9, (.ro (.int .i64)))], [(100, (.sl 3 (.int .i64)))]⟩
def f82s8 : SS := ⟨[(0, (.ro (.list 126 (.st (.cons .str (.cons (.int .i64) (.cons (.int .i64) (.cons (.int .i64) .nil)))))))), (6, (.ro (.int .i64))), (7, (.ro (.int .i64))), (8, (.h 100)), (9, (.ro (.int .i64)))], [(100, (.sl 3 (.int .i64)))]⟩
def f82s4 : SS := ⟨[(0, (.ro (.list 126 (.st (.cons .str (.cons (.int .i64) (.cons (.int .i64) (.cons (.int .i64) .nil)))))))), (6, (.ro (.int .i64))), (7, (.ro (.int .i64))), (8, (.h 100)), (9, (.ro (.int .i64)))], [(100, (.sl 3 (.int .i64)))]⟩
def f82con (F : (List TCol) → Int → Option (Int × Int)) : Con := ⟨f82in, f82out, 2, 2, fun x => F x.1 x.2⟩
def f82ctx (k : Nat) : Ctx := ⟨tyAt tys, conAt [(147, [f147con (spec_l5Way k)])], 43, fun _ => false⟩
theorem f82hc (k : Nat) : CtxOk Try.prog (f82ctx k) := ctxOk tys_ok mixed_ok (consOk_cons (f147ok k) (consOk_nil))
theorem f82ok (k : Nat) : FnOk Try.prog 82 (f82con (spec_l5Max k)) :=
  let hc := f82hc k
  fnOk (fn := Try.f82) (code := bodyOf Try.f82) (res := [.tmp 4, .tmp 5]) hc (by kernel_rfl) (by kernel_rfl) (by decide) (by kernel_rfl) (by kernel_rfl) (by kernel_rfl) (Nat.le_of_ble_eq_true (by kernel_rfl)) _
    (fun x => Snd.seq (by kernel_rfl) (Snd.seq (by kernel_rfl) (Snd.seq (by kernel_rfl) (Snd.seq (by kernel_rfl) (Snd.exec hc _ _ _ _) (Snd.seq (by kernel_rfl) (Snd.block (id := 0) (by kernel_rfl) (Snd.loop' (by kernel_rfl) f82s4 (fun n x => spec_l5Max.l4 k n x.1.1 x.1.2.1 x.1.2.2.1 x.1.2.2.2.2 x.2) _ (fun _ => rfl) (fun n4 => Snd.seq (by kernel_rfl) (Snd.seq (by kernel_rfl) (Snd.cut (Snd.exec hc _ _ _ _) ⟨f82s5, fun x => spec_l5Max.c5 k (spec_l5Max.l4 k n4) x.1.1 x.1.2.1 x.1.2.2.1 x.1.2.2.2.2 x.2⟩ (fun x => by kernel_rfl)) (Snd.block (id := 1) (by kernel_rfl) (Snd.seq (by kernel_rfl) (Snd.cut (Snd.exec hc _ _ _ _) ⟨f82s8, fun x => spec_l5Max.c8 k (spec_l5Max.l4 k n4) x.1.1 x.1.2.1 x.1.2.2.1 x.1.2.2.2.2 x.2⟩ (fun x => by kernel_rfl)) (Snd.exec hc _ _ _ _)))) (Snd.exec hc _ _ _ _)) (fun n x => by kernel_rfl) k)) (Snd.exec hc _ _ _ _))) (Snd.exec hc _ _ _ _)) (Snd.exec hc _ _ _ _)) (Snd.exec hc _ _ _ _))
    (fun x => by kernel_rfl)

def f179in : SS := ⟨[(0, (.ro (.list 126 (.st (.cons .str (.cons (.int .i64) (.cons (.int .i64) (.cons (.int .i64) .nil)))))))), (1, (.ro (.int .i64)))], []⟩
def f179out : SS := ⟨[(0, (.agg (.cons (.ro (.int .i64)) (.cons (.ro (.int .i64)) (.cons (.ro (.int .i64)) .nil))))), (1, (.ro .bool))], []⟩
def f179con (F : (List TCol) → Int → Option (TLeaf × Bool)) : Con := ⟨f179in, f179out, 2, 2, fun x => F x.1 x.2⟩
def f179ctx (k : Nat) : Ctx := ⟨tyAt tys, conAt [(19, [f19con (spec_SchemaLeaves k)]), (74, [f74con (spec_l1In k)]), (82, [f82con (spec_l5Max k)])], 38, fun _ => false⟩
theorem f179hc (k : Nat) : CtxOk Try.prog (f179ctx k) := ctxOk tys_ok mixed_ok (consOk_cons (f19ok k) (consOk_cons (f74ok k) (consOk_cons (f82ok k) (consOk_nil))))
theorem f179ok (k : Nat) : FnOk Try.prog 179 (f179con (spec_LeafOf k)) :=
  let hc := f179hc k
  fnOk (fn := Try.f179) (code := bodyOf Try.f179) (res := [.cell 4 147, .tmp 5]) hc (by kernel_rfl) (by kernel_rfl) (by decide) (by kernel_rfl) (by kernel_rfl) (by kernel_rfl) (Nat.le_of_ble_eq_true (by kernel_rfl)) _
    (fun x => Snd.exec hc _ _ _ _)
    (fun x => by kernel_rfl)

def f189in : SS := ⟨[(0, (.ro (.st (.cons (.int .i64) (.cons (.int .i64) (.cons (.int .i64) .nil)))))), (1, (.ro (.st (.cons (.int .i64) (.cons (.int .i64) (.cons (.st (.cons (.int .i64) (.cons .str .nil))) .nil))))))], []⟩
def f189out : SS := ⟨[(0, (.ro .bool))], []⟩
def f189con (F : TLeaf → TTriple → Option Bool) : Con := ⟨f189in, f189out, 2, 1, fun x => F x.1 x.2⟩
def f189ctx (k : Nat) : Ctx := ⟨tyAt tys, conAt [(74, [f74con (spec_l1In k)]), (142, [f142con (spec_ValOk k)])], 35, fun _ => false⟩
theorem f189hc (k : Nat) : CtxOk Try.prog (f189ctx k) := ctxOk tys_ok mixed_ok (consOk_cons (f74ok k) (consOk_cons (f142ok k) (consOk_nil)))
theorem f189ok (k : Nat) : FnOk Try.prog 189 (f189con (spec_l15Right k)) :=
  let hc := f189hc k
  fnOk (fn := Try.f189) (code := bodyOf Try.f189) (res := [.tmp 4]) hc (by kernel_rfl) (by kernel_rfl) (by decide) (by kernel_rfl) (by kernel_rfl) (by kernel_rfl) (Nat.le_of_ble_eq_true (by kernel_rfl)) _
    (fun x => Snd.exec hc _ _ _ _)
    (fun x => by kernel_rfl)

def f132in : SS := ⟨[(0, (.ro (.list 126 (.st (.cons .str (.cons (.int .i64) (.cons (.int .i64) (.cons (.int .i64) .nil)))))))), (1, (.ro (.int .i64))), (2, (.ro (.list 54 (.st (.cons (.int .i64) (.cons (.int .i64) (.cons (.st (.cons (.int .i64) (.cons .str .nil))) .nil)))))))], []⟩
def f132out : SS := ⟨[(0, (.ro .bool))], []⟩
def f132s5 : SS := ⟨[(2, (.ro (.list 54 (.st (.cons (.int .i64) (.cons (.int .i64) (.cons (.st (.cons (.int .i64) (.cons .str .nil))) .nil))))))), (7, (.p 100)), (9, (.ro (.int .i64)))], [(100, (.box (.st (.cons (.int .i64) (.cons (.int .i64) (.cons (.int .i64) .nil)))) (.agg (.cons (.ro (.int .i64)) (.cons (.ro (.int .i64)) (.cons (.ro (.int .i64)) .nil))))))]⟩
def f132con (F : (List TCol) → Int → (List TTriple) → Option Bool) : Con := ⟨f132in, f132out, 3, 1, fun x => F x.1 x.2.1 x.2.2⟩
def f132ctx (k : Nat) : Ctx := ⟨tyAt tys, conAt [(179, [f179con (spec_LeafOf k)]), (189, [f189con (spec_l15Right k)])], 48, fun _ => false⟩
theorem f132hc (k : Nat) : CtxOk Try.prog (f132ctx k) := ctxOk tys_ok mixed_ok (consOk_cons (f179ok k) (consOk_cons (f189ok k) (consOk_nil)))
theorem f132ok (k : Nat) : FnOk Try.prog 132 (f132con (spec_TriplesOk k)) :=
  let hc := f132hc k
  fnOk (fn := Try.f132) (code := bodyOf Try.f132) (res := [.tmp 6]) hc (by kernel_rfl) (by kernel_rfl) (by decide) (by kernel_rfl) (by kernel_rfl) (by kernel_rfl) (Nat.le_of_ble_eq_true (by kernel_rfl)) _
    (fun x => Snd.seq (by kernel_rfl) (Snd.seq (by kernel_rfl) (Snd.seq (by kernel_rfl) (Snd.seq (by kernel_rfl) (Snd.exec hc _ _ _ _) (Snd.seq (by kernel_rfl) (Snd.block (id := 0) (by kernel_rfl) (Snd.loop' (by kernel_rfl) f132s5 (fun n x => spec_TriplesOk.l5 k n x.1.1 x.1.2.2 x.2) _ (fun _ => rfl) (fun n5 => Snd.exec hc _ _ _ _) (fun n x => by kernel_rfl) k)) (Snd.exec hc _ _ _ _))) (Snd.exec hc _ _ _ _)) (Snd.exec hc _ _ _ _)) (Snd.exec hc _ _ _ _))
    (fun x => by kernel_rfl)

def f133in : SS := ⟨[(0, (.ro (.list 54 (.st (.cons (.int .i64) (.cons (.int .i64) (.cons (.st (.cons (.int .i64) (.cons .str .nil))) .nil)))))))], []⟩
def f133out : SS := ⟨[(0, (.ro (.int .i64)))], []⟩
def f133s4 : SS := ⟨[(0, (.ro (.list 54 (.st (.cons (.int .i64) (.cons (.int .i64) (.cons (.st (.cons (.int .i64) (.cons .str .nil))) .nil))))))), (3, (.ro (.int .i64))), (4, (.ro (.int .i64)))], []⟩
def f133s3 : SS := ⟨[(0, (.ro (.list 54 (.st (.cons (.int .i64) (.cons (.int .i64) (.cons (.st (.cons (.int .i64) (.cons .str .nil))) .nil))))))), (3, (.ro (.int .i64))), (4, (.ro (.int .i64)))], []⟩
def f133con (F : (List TTriple) → Option Int) : Con := ⟨f133in, f133out, 1, 1, fun x => F x⟩
def f133ctx (k : Nat) : Ctx := ⟨tyAt tys, conAt [], 20, fun _ => false⟩
theorem f133hc (k : Nat) : CtxOk Try.prog (f133ctx k) := ctxOk tys_ok mixed_ok (consOk_nil)
theorem f133ok (k : Nat) : FnOk Try.prog 133 (f133con (spec_RowsOf k)) :=
  let hc := f133hc k
  fnOk (fn := Try.f133) (code := bodyOf Try.f133) (res := [.tmp 2]) hc (by kernel_rfl) (by kernel_rfl) (by decide) (by kernel_rfl) (by kernel_rfl) (by kernel_rfl) (Nat.le_of_ble_eq_true (by kernel_rfl)) _
    (fun x => Snd.seq (by kernel_rfl) (Snd.seq (by kernel_rfl) (Snd.seq (by kernel_rfl) (Snd.exec hc _ _ _ _) (Snd.seq (by kernel_rfl) (Snd.block (id := 0) (by kernel_rfl) (Snd.loop' (by kernel_rfl) f133s3 (fun n x => spec_RowsOf.l3 k n x.1 x.2.1 x.2.2) _ (fun _ => rfl) (fun n3 => Snd.seq (by kernel_rfl) (Snd.seq (by kernel_rfl) (Snd.cut (Snd.exec hc _ _ _ _) ⟨f133s4, fun x => spec_RowsOf.c4 k (spec_RowsOf.l3 k n3) x.1 x.2.1 x.2.2⟩ (fun x => by kernel_rfl)) (Snd.exec hc _ _ _ _)) (Snd.exec hc _ _ _ _)) (fun n x => by kernel_rfl) k)) (Snd.exec hc _ _ _ _))) (Snd.exec hc _ _ _ _)) (Snd.exec hc _ _ _ _))
    (fun x => by kernel_rfl)

def f151in : SS := ⟨[(0, (.ro (.list 126 (.st (.cons .str (.cons (.int .i64) (.cons (.int .i64) (.cons (.int .i64) .nil)))))))), (1, (.ro (.int .i64)))], []⟩
def f151out : SS := ⟨[(0, (.ro (.int .i64)))], []⟩
def f151s4 : SS := ⟨[(0, (.ro (.list 126 (.st (.cons .str (.cons (.int .i64) (.cons (.int .i64) (.cons (.int .i64) .nil)))))))), (1, (.ro (.int .i64))), (5, (.ro (.int .i64))), (6, (.ro (.int .i64)))], []⟩
def f151s3 : SS := ⟨[(0, (.ro (.list 126 (.st (.cons .str (.cons (.int .i64) (.cons (.int .i64) (.cons (.int .i64) .nil)))))))), (1, (.ro (.int .i64))), (5, (.ro (.int .i64))), (6, (.ro (.int .i64)))], []⟩
def f151con (F : (List TCol) → Int → Option Int) : Con := ⟨f151in, f151out, 2, 1, fun x => F x.1 x.2⟩
def f151ctx (k : Nat) : Ctx := ⟨tyAt tys, conAt [], 21, fun _ => false⟩
theorem f151hc (k : Nat) : CtxOk Try.prog (f151ctx k) := ctxOk tys_ok mixed_ok (consOk_nil)
theorem f151ok (k : Nat) : FnOk Try.prog 151 (f151con (spec_l14Leaf k)) :=
  let hc := f151hc k
  fnOk (fn := Try.f151) (code := bodyOf Try.f151) (res := [.tmp 4]) hc (by kernel_rfl) (by kernel_rfl) (by decide) (by kernel_rfl) (by kernel_rfl) (by kernel_rfl) (Nat.le_of_ble_eq_true (by kernel_rfl)) _
    (fun x => Snd.seq (by kernel_rfl) (Snd.seq (by kernel_rfl) (Snd.seq (by kernel_rfl) (Snd.exec hc _ _ _ _) (Snd.seq (by kernel_rfl) (Snd.block (id := 0) (by kernel_rfl) (Snd.loop' (by kernel_rfl) f151s3 (fun n x => spec_l14Leaf.l3 k n x.1 x.2.1 x.2.2.1 x.2.2.2) _ (fun _ => rfl) (fun n3 => Snd.seq (by kernel_rfl) (Snd.seq (by kernel_rfl) (Snd.cut (Snd.exec hc _ _ _ _) ⟨f151s4, fun x => spec_l14Leaf.c4 k (spec_l14Leaf.l3 k n3) x.1 x.2.1 x.2.2.1 x.2.2.2⟩ (fun x => by kernel_rfl)) (Snd.exec hc _ _ _ _)) (Snd.exec hc _ _ _ _)) (fun n x => by kernel_rfl) k)) (Snd.exec hc _ _ _ _))) (Snd.exec hc _ _ _ _)) (Snd.exec hc _ _ _ _))
    (fun x => by kernel_rfl)

def f190in : SS := ⟨[(0, (.ro (.list 50 (.st (.cons (.list 54 (.st (.cons (.int .i64) (.cons (.int .i64) (.cons (.st (.cons (.int .i64) (.cons .str .nil))) .nil))))) .nil))))), (1, (.ro (.int .i64))), (2, (.h 10)), (3, (.ro (.int .i64))), (4, (.ro (.int .i64)))], [(10, (.sl 3 (.int .i64)))]⟩
def f190out : SS := ⟨[(0, (.ro .bool))], [(10, (.sl 3 (.int .i64)))]⟩
def f190con (F : (List TColumn) → Int → Int → Int → (List Int) → Option (Bool × (List Int))) : Con := ⟨f190in, f190out, 5, 1, fun x => F x.1.1 x.1.2.1 x.1.2.2.2.1 x.1.2.2.2.2 x.2⟩
def f190ctx (k : Nat) : Ctx := ⟨tyAt tys, conAt [], 62, fun _ => false⟩
theorem f190hc (k : Nat) : CtxOk Try.prog (f190ctx k) := ctxOk tys_ok mixed_ok (consOk_nil)
theorem f190ok (k : Nat) : FnOk Try.prog 190 (f190con (spec_l14Take k)) :=
  let hc := f190hc k
  fnOk (fn := Try.f190) (code := bodyOf Try.f190) (res := [.tmp 10]) hc (by kernel_rfl) (by kernel_rfl) (by decide) (by kernel_rfl) (by kernel_rfl) (by kernel_rfl) (Nat.le_of_ble_eq_true (by kernel_rfl)) _
    (fun x => Snd.exec hc _ _ _ _)
    (fun x => by kernel_rfl)

def f134in : SS := ⟨[(0, (.ro (.list 126 (.st (.cons .str (.cons (.int .i64) (.cons (.int .i64) (.cons (.int .i64) .nil)))))))), (1, (.ro (.int .i64))), (2, (.ro (.list 50 (.st (.cons (.list 54 (.st (.cons (.int .i64) (.cons (.int .i64) (.cons (.st (.cons (.int .i64) (.cons .str .nil))) .nil))))) .nil))))), (3, (.h 10)), (4, (.ro (.int .i64))), (5, (.ro (.int .i64))), (6, (.ro (.int .i64))), (7, (.h 11))], [(10, (.sl 3 (.int .i64))), (11, (.sl 52 (.st (.cons (.int .i64) (.cons .str .nil)))))]⟩
def f134out : SS := ⟨[(0, (.h 100)), (1, (.ro .bool))], [(10, (.sl 3 (.int .i64))), (100, (.sl 52 (.st (.cons (.int .i64) (.cons .str .nil)))))]⟩
def f134s8 : SS := ⟨[(0, (.ro (.list 126 (.st (.cons .str (.cons (.int .i64) (.cons (.int .i64) (.cons (.int .i64) .nil)))))))), (1, (.ro (.int .i64))), (2, (.ro (.list 50 (.st (.cons (.list 54 (.st (.cons (.int .i64) (.cons (.int .i64) (.cons (.st (.cons (.int .i64) (.cons .str .nil))) .nil))))) .nil))))), (3, (.h 10)), (4, (.ro (.int .i64))), (5, (.ro (.int .i64))), (6, (.ro (.int .i64))), (7, (.h 100)), (19, (.ro (.int .i64))), (20, (.ro (.int .i64)))], [(10, (.sl 3 (.int .i64))), (100, (.sl 52 (.st (.cons (.int .i64) (.cons .str .nil)))))]⟩
def f134d5 : SS := ⟨[(2, (.ro (.list 50 (.st (.cons (.list 54 (.st (.cons (.int .i64) (.cons (.int .i64) (.cons (.st (.cons (.int .i64) (.cons .str .nil))) .nil))))) .nil))))), (3, (.h 10)), (7, (.h 11)), (18, (.ro (.int .i64)))], [(10, (.sl 3 (.int .i64))), (11, (.sl 52 (.st (.cons (.int .i64) (.cons .str .nil)))))]⟩
def f134con (F : (List TCol) → Int → (List TColumn) → Int → Int → Int → (List Int) → (List TVal) → Option ((Unit × Bool) × (List Int) × (List TVal))) : Con := ⟨f134in, f134out, 8, 2, fun x => F x.1.1 x.1.2.1 x.1.2.2.1 x.1.2.2.2.2.1 x.1.2.2.2.2.2.1 x.1.2.2.2.2.2.2.1 x.2.1 x.2.2⟩
def f191in : SS := ⟨[(0, (.ro (.list 126 (.st (.cons .str (.cons (.int .i64) (.cons (.int .i64) (.cons (.int .i64) .nil)))))))), (1, (.ro (.int .i64))), (2, (.ro (.list 50 (.st (.cons (.list 54 (.st (.cons (.int .i64) (.cons (.int .i64) (.cons (.st (.cons (.int .i64) (.cons .str .nil))) .nil))))) .nil))))), (3, (.h 10)), (4, (.ro (.int .i64))), (5, (.ro (.int .i64))), (6, (.ro (.int .i64))), (7, (.h 11))], [(10, (.sl 3 (.int .i64))), (11, (.sl 52 (.st (.cons (.int .i64) (.cons .str .nil)))))]⟩
def f191out : SS := ⟨[(0, (.h 100)), (1, (.ro .bool))], [(10, (.sl 3 (.int .i64))), (100, (.sl 52 (.st (.cons (.int .i64) (.cons .str .nil)))))]⟩
def f191s18 : SS := ⟨[(0, (.ro (.list 126 (.st (.cons .str (.cons (.int .i64) (.cons (.int .i64) (.cons (.int .i64) .nil)))))))), (1, (.ro (.int .i64))), (2, (.ro (.list 50 (.st (.cons (.list 54 (.st (.cons (.int .i64) (.cons (.int .i64) (.cons (.st (.cons (.int .i64) (.cons .str .nil))) .nil))))) .nil))))), (3, (.h 10)), (4, (.ro (.int .i64))), (5, (.ro (.int .i64))), (6, (.ro (.int .i64))), (7, (.h 100)), (18, (.ro (.int .i64))), (19, (.ro (.int .i64))), (21, (.ro .bool))], [(10, (.sl 3 (.int .i64))), (100, (.sl 52 (.st (.cons (.int .i64) (.cons .str .nil)))))]⟩
def f191s17 : SS := ⟨[(0, (.ro (.list 126 (.st (.cons .str (.cons (.int .i64) (.cons (.int .i64) (.cons (.int .i64) .nil)))))))), (1, (.ro (.int .i64))), (2, (.ro (.list 50 (.st (.cons (.list 54 (.st (.cons (.int .i64) (.cons (.int .i64) (.cons (.st (.cons (.int .i64) (.cons .str .nil))) .nil))))) .nil))))), (3, (.h 10)), (4, (.ro (.int .i64))), (5, (.ro (.int .i64))), (6, (.ro (.int .i64))), (7, (.h 100)), (18, (.ro (.int .i64))), (19, (.ro (.int .i64)))], [(10, (.sl 3 (.int .i64))), (100, (.sl 52 (.st (.cons (.int .i64) (.cons .str .nil)))))]⟩
def f191s10 : SS := ⟨[(0, (.ro (.list 126 (.st (.cons .str (.cons (.int .i64) (.cons (.int .i64) (.cons (.int .i64) .nil)))))))), (1, (.ro (.int .i64))), (2, (.ro (.list 50 (.st (.cons (.list 54 (.st (.cons (.int .i64) (.cons (.int .i64) (.cons (.st (.cons (.int .i64) (.cons .str .nil))) .nil))))) .nil))))), (3, (.h 10)), (4, (.ro (.int .i64))), (5, (.ro (.int .i64))), (7, (.h 100)), (20, (.ro (.int .i64)))], [(10, (.sl 3 (.int .i64))), (100, (.sl 52 (.st (.cons (.int .i64) (.cons .str .nil)))))]⟩
def f191con (F : (List TCol) → Int → (List TColumn) → Int → Int → Int → (List Int) → (List TVal) → Option ((Unit × Bool) × (List Int) × (List TVal))) : Con := ⟨f191in, f191out, 8, 2, fun x => F x.1.1 x.1.2.1 x.1.2.2.1 x.1.2.2.2.2.1 x.1.2.2.2.2.2.1 x.1.2.2.2.2.2.2.1 x.2.1 x.2.2⟩
def f134ctx (k : Nat) (S134 : (List TCol) → Int → (List TColumn) → Int → Int → Int → (List Int) → (List TVal) → Option ((Unit × Bool) × (List Int) × (List TVal))) (S191 : (List TCol) → Int → (List TColumn) → Int → Int → Int → (List Int) → (List TVal) → Option ((Unit × Bool) × (List Int) × (List TVal))) : Ctx := ⟨tyAt tys, conAt [(144, [f144con (spec_l5After k)]), (151, [f151con (spec_l14Leaf k)]), (190, [f190con (spec_l14Take k)]), (191, [f191con S191])], 87, fun _ => false⟩
theorem f134hc (k : Nat) (S134 : (List TCol) → Int → (List TColumn) → Int → Int → Int → (List Int) → (List TVal) → Option ((Unit × Bool) × (List Int) × (List TVal))) (S191 : (List TCol) → Int → (List TColumn) → Int → Int → Int → (List Int) → (List TVal) → Option ((Unit × Bool) × (List Int) × (List TVal))) (h134 : FnOk Try.prog 134 (f134con S134)) (h191 : FnOk Try.prog 191 (f191con S191)) : CtxOk Try.prog (f134ctx k S134 S191) := ctxOk tys_ok mixed_ok (consOk_cons (f144ok k) (consOk_cons (f151ok k) (consOk_cons (f190ok k) (consOk_cons (h191) (consOk_nil)))))
theorem f134okb (k : Nat) (S134 : (List TCol) → Int → (List TColumn) → Int → Int → Int → (List Int) → (List TVal) → Option ((Unit × Bool) × (List Int) × (List TVal))) (S191 : (List TCol) → Int → (List TColumn) → Int → Int → Int → (List Int) → (List TVal) → Option ((Unit × Bool) × (List Int) × (List TVal))) (h134 : FnOk Try.prog 134 (f134con S134)) (h191 : FnOk Try.prog 191 (f191con S191)) : FnOk Try.prog 134 (f134con (spec_l14Fill.b k S134 S191)) :=
  let hc := f134hc k S134 S191 h134 h191
  fnOk (fn := Try.f134) (code := bodyOf Try.f134) (res := [.tmp 16, .tmp 17]) hc (by kernel_rfl) (by kernel_rfl) (by decide) (by kernel_rfl) (by kernel_rfl) (by kernel_rfl) (Nat.le_of_ble_eq_true (by kernel_rfl)) _
    (fun x => Snd.seq (by kernel_rfl) (Snd.seq (by kernel_rfl) (Snd.seq (by kernel_rfl) (Snd.seq (by kernel_rfl) (Snd.exec hc _ _ _ _) (Snd.seq (by kernel_rfl) (Snd.block (id := 0) (by kernel_rfl) (Snd.loop' (by kernel_rfl) f134s8 (fun n x => spec_l14Fill.l8 k S191 n x.1.1 x.1.2.1 x.1.2.2.1 x.1.2.2.2.2.1 x.1.2.2.2.2.2.1 x.1.2.2.2.2.2.2.1 x.1.2.2.2.2.2.2.2.2.1 x.1.2.2.2.2.2.2.2.2.2 x.2.1 x.2.2) _ (fun _ => rfl) (fun n8 => Snd.exec hc _ _ _ _) (fun n x => by kernel_rfl) k)) (Snd.exec hc _ _ _ _))) (Snd.exec hc _ _ _ _)) (Snd.seq (by kernel_rfl) (Snd.cond (x := .tmp 28) (by kernel_rfl) (Snd.seq (by kernel_rfl) (Snd.seq (by kernel_rfl) (Snd.seq (by kernel_rfl) (Snd.exec hc _ _ _ _) (Snd.fork hc (id := 5) (by kernel_rfl) ⟨f134d5, fun x => spec_l14Fill.d5 k x.1.1 x.1.2.2.2 x.2.1 x.2.2⟩ [[0, 1, 2, 3, 4, 6, 7, 8, 5, 9, 10, 11, 12, 13, 14, 15, 16, 17], [0, 1, 2, 3, 4, 6, 7, 8, 9, 10, 5, 11, 12, 13, 14, 15, 16, 17]] (by kernel_rfl) (ords_cons (fun x => by kernel_rfl) (ords_cons (fun x => by kernel_rfl) (ords_nil))))) (Snd.exec hc _ _ _ _)) (Snd.exec hc _ _ _ _)) (Snd.exec hc _ _ _ _)) (Snd.exec hc _ _ _ _))) (Snd.exec hc _ _ _ _))
    (fun x => by kernel_rfl)
def f191ctx (k : Nat) (S134 : (List TCol) → Int → (List TColumn) → Int → Int → Int → (List Int) → (List TVal) → Option ((Unit × Bool) × (List Int) × (List TVal))) (S191 : (List TCol) → Int → (List TColumn) → Int → Int → Int → (List Int) → (List TVal) → Option ((Unit × Bool) × (List Int) × (List TVal))) : Ctx := ⟨tyAt tys, conAt [(134, [f134con S134]), (144, [f144con (spec_l5After k)]), (151, [f151con (spec_l14Leaf k)]), (190, [f190con (spec_l14Take k)])], 168, fun _ => false⟩
theorem f191hc (k : Nat) (S134 : (List TCol) → Int → (List TColumn) → Int → Int → Int → (List Int) → (List TVal) → Option ((Unit × Bool) × (List Int) × (List TVal))) (S191 : (List TCol) → Int → (List TColumn) → Int → Int → Int → (List Int) → (List TVal) → Option ((Unit × Bool) × (List Int) × (List TVal))) (h134 : FnOk Try.prog 134 (f134con S134)) (h191 : FnOk Try.prog 191 (f191con S191)) : CtxOk Try.prog (f191ctx k S134 S191) := ctxOk tys_ok mixed_ok (consOk_cons (h134) (consOk_cons (f144ok k) (consOk_cons (f151ok k) (consOk_cons (f190ok k) (consOk_nil)))))
theorem f191okb (k : Nat) (S134 : (List TCol) → Int → (List TColumn) → Int → Int → Int → (List Int) → (List TVal) → Option ((Unit × Bool) × (List Int) × (List TVal))) (S191 : (List TCol) → Int → (List TColumn) → Int → Int → Int → (List Int) → (List TVal) → Option ((Unit × Bool) × (List Int) × (List TVal))) (h134 : FnOk Try.prog 134 (f134con S134)) (h191 : FnOk Try.prog 191 (f191con S191)) : FnOk Try.prog 191 (f191con (spec_l14Build.b k S134 S191)) :=
  let hc := f191hc k S134 S191 h134 h191
  fnOk (fn := Try.f191) (code := bodyOf Try.f191) (res := [.tmp 16, .tmp 17]) hc (by kernel_rfl) (by kernel_rfl) (by decide) (by kernel_rfl) (by kernel_rfl) (by kernel_rfl) (Nat.le_of_ble_eq_true (by kernel_rfl)) _
    (fun x => Snd.seq (by kernel_rfl) (Snd.seq (by kernel_rfl) (Snd.seq (by kernel_rfl) (Snd.seq (by kernel_rfl) (Snd.seq (by kernel_rfl) (Snd.seq (by kernel_rfl) (Snd.seq (by kernel_rfl) (Snd.seq (by kernel_rfl) (Snd.cut (Snd.seq (by kernel_rfl) (Snd.seq (by kernel_rfl) (Snd.exec hc _ _ _ _) (Snd.block (id := 2) (by kernel_rfl) (Snd.loop' (by kernel_rfl) f191s18 (fun n x => spec_l14Build.l18 k S134 n x.1.1 x.1.2.1 x.1.2.2.1 x.1.2.2.2.2.1 x.1.2.2.2.2.2.1 x.1.2.2.2.2.2.2.1 x.1.2.2.2.2.2.2.2.2.1 x.1.2.2.2.2.2.2.2.2.2.1 x.1.2.2.2.2.2.2.2.2.2.2 x.2.1 x.2.2) _ (fun _ => rfl) (fun n18 => Snd.exec hc _ _ _ _) (fun n x => by kernel_rfl) k))) (Snd.exec hc _ _ _ _)) ⟨f191s17, fun x => spec_l14Build.c17 k S134 x.1.1 x.1.2.1 x.1.2.2.1 x.1.2.2.2.2.1 x.1.2.2.2.2.2.1 x.1.2.2.2.2.2.2.1 x.1.2.2.2.2.2.2.2.2.1 x.1.2.2.2.2.2.2.2.2.2 x.2.1 x.2.2⟩ (fun x => by kernel_rfl)) (Snd.exec hc _ _ _ _)) (Snd.seq (by kernel_rfl) (Snd.cond (x := .tmp 75) (by kernel_rfl) (Snd.seq (by kernel_rfl) (Snd.exec hc _ _ _ _) (Snd.seq (by kernel_rfl) (Snd.block (id := 0) (by kernel_rfl) (Snd.loop' (by kernel_rfl) f191s10 (fun n x => spec_l14Build.l10 k n x.1.1 x.1.2.1 x.1.2.2.1 x.1.2.2.2.2.1 x.1.2.2.2.2.2.1 x.1.2.2.2.2.2.2.2 x.2.1 x.2.2) _ (fun _ => rfl) (fun n10 => Snd.exec hc _ _ _ _) (fun n x => by kernel_rfl) k)) (Snd.exec hc _ _ _ _))) (Snd.exec hc _ _ _ _)) (Snd.exec hc _ _ _ _))) (Snd.exec hc _ _ _ _)) (Snd.exec hc _ _ _ _)) (Snd.exec hc _ _ _ _)) (Snd.exec hc _ _ _ _)) (Snd.exec hc _ _ _ _)) (Snd.exec hc _ _ _ _))
    (fun x => by kernel_rfl)
theorem f134rec (k : Nat) : ∀ d, FnOk Try.prog 134 (f134con (spec_l14Fill.d k d)) ∧ FnOk Try.prog 191 (f191con (spec_l14Build.d k d))
  | 0 => ⟨FnOk_none (fun _ => rfl), FnOk_none (fun _ => rfl)⟩
  | d + 1 => let ih := f134rec k d
    ⟨f134okb k (spec_l14Fill.d k d) (spec_l14Build.d k d) ih.1 ih.2, f191okb k (spec_l14Fill.d k d) (spec_l14Build.d k d) ih.1 ih.2⟩
theorem f134ok (k : Nat) : FnOk Try.prog 134 (f134con (spec_l14Fill k)) := (f134rec k k).1
theorem f191ok (k : Nat) : FnOk Try.prog 191 (f191con (spec_l14Build k)) := (f134rec k k).2

def f62in : SS := ⟨[(0, (.ro (.list 126 (.st (.cons .str (.cons (.int .i64) (.cons (.int .i64) (.cons (.int .i64) .nil)))))))), (1, (.ro (.list 50 (.st (.cons (.list 54 (.st (.cons (.int .i64) (.cons (.int .i64) (.cons (.st (.cons (.int .i64) (.cons .str .nil))) .nil))))) .nil)))))], []⟩
def f62out : SS := ⟨[(0, (.h 100)), (1, (.ro (.int .i64)))], [(100, (.sl 27 (.st (.cons (.list 52 (.st (.cons (.int .i64) (.cons .str .nil)))) .nil))))]⟩
def f62s29 : SS := ⟨[(0, (.ro (.list 126 (.st (.cons .str (.cons (.int .i64) (.cons (.int .i64) (.cons (.int .i64) .nil)))))))), (6, (.h 100)), (15, (.ro (.int .i64)))], [(100, (.sl 27 (.st (.cons (.list 52 (.st (.cons (.int .i64) (.cons .str .nil)))) .nil))))]⟩
def f62s24 : SS := ⟨[(0, (.ro (.list 126 (.st (.cons .str (.cons (.int .i64) (.cons (.int .i64) (.cons (.int .i64) .nil)))))))), (1, (.ro (.list 50 (.st (.cons (.list 54 (.st (.cons (.int .i64) (.cons (.int .i64) (.cons (.st (.cons (.int .i64) (.cons .str .nil))) .nil))))) .nil))))), (6, (.h 100)), (10, (.h 101)), (14, (.ro (.int .i64)))], [(100, (.sl 27 (.st (.cons (.list 52 (.st (.cons (.int .i64) (.cons .str .nil)))) .nil)))), (101, (.sl 3 (.int .i64)))]⟩
def f62s17 : SS := ⟨[(0, (.ro (.list 126 (.st (.cons .str (.cons (.int .i64) (.cons (.int .i64) (.cons (.int .i64) .nil)))))))), (1, (.ro (.list 50 (.st (.cons (.list 54 (.st (.cons (.int .i64) (.cons (.int .i64) (.cons (.st (.cons (.int .i64) (.cons .str .nil))) .nil))))) .nil))))), (6, (.h 100)), (8, (.ro (.int .i64))), (10, (.h 101)), (11, (.ro (.int .i64)))], [(100, (.sl 27 (.st (.cons (.list 52 (.st (.cons (.int .i64) (.cons .str .nil)))) .nil)))), (101, (.sl 3 (.int .i64)))]⟩
def f62s11 : SS := ⟨[(0, (.ro (.list 126 (.st (.cons .str (.cons (.int .i64) (.cons (.int .i64) (.cons (.int .i64) .nil)))))))), (1, (.ro (.list 50 (.st (.cons (.list 54 (.st (.cons (.int .i64) (.cons (.int .i64) (.cons (.st (.cons (.int .i64) (.cons .str .nil))) .nil))))) .nil))))), (6, (.h 100)), (8, (.ro (.int .i64))), (9, (.ro (.int .i64)))], [(100, (.sl 27 (.st (.cons (.list 52 (.st (.cons (.int .i64) (.cons .str .nil)))) .nil))))]⟩
def f62s5 : SS := ⟨[(0, (.ro (.list 126 (.st (.cons .str (.cons (.int .i64) (.cons (.int .i64) (.cons (.int .i64) .nil)))))))), (1, (.ro (.list 50 (.st (.cons (.list 54 (.st (.cons (.int .i64) (.cons (.int .i64) (.cons (.st (.cons (.int .i64) (.cons .str .nil))) .nil))))) .nil))))), (6, (.h 100)), (7, (.ro (.int .i64)))], [(100, (.sl 27 (.st (.cons (.list 52 (.st (.cons (.int .i64) (.cons .str .nil)))) .nil))))]⟩
def f62con (F : (List TCol) → (List TColumn) → Option ((Unit × Int) × (List TRec))) : Con := ⟨f62in, f62out, 2, 2, fun x => F x.1 x.2⟩
def f62ctx (k : Nat) : Ctx := ⟨tyAt tys, conAt [(15, [f15con (spec_RecOk k)]), (17, [f17con (spec_SchemaOk k)]), (80, [f80con (spec_l5Leaves k)]), (132, [f132con (spec_TriplesOk k)]), (133, [f133con (spec_RowsOf k)]), (134, [f134con (spec_l14Fill k)])], 126, fun _ => false⟩
theorem f62hc (k : Nat) : CtxOk Try.prog (f62ctx k) := ctxOk tys_ok mixed_ok (consOk_cons (f15ok k) (consOk_cons (f17ok k) (consOk_cons (f80ok k) (consOk_cons (f132ok k) (consOk_cons (f133ok k) (consOk_cons (f134ok k) (consOk_nil)))))))
theorem f62ok (k : Nat) : FnOk Try.prog 62 (f62con (spec_Assemble k)) :=
  let hc := f62hc k
  fnOk (fn := Try.f62) (code := bodyOf Try.f62) (res := [.tmp 4, .tmp 5]) hc (by kernel_rfl) (by kernel_rfl) (by decide) (by kernel_rfl) (by kernel_rfl) (by kernel_rfl) (Nat.le_of_ble_eq_true (by kernel_rfl)) _
    (fun x => Snd.seq (by kernel_rfl) (Snd.seq (by kernel_rfl) (Snd.seq (by kernel_rfl) (Snd.seq (by kernel_rfl) (Snd.seq (by kernel_rfl) (Snd.seq (by kernel_rfl) (Snd.seq (by kernel_rfl) (Snd.seq (by kernel_rfl) (Snd.seq (by kernel_rfl) (Snd.seq (by kernel_rfl) (Snd.exec hc _ _ _ _) (Snd.seq (by kernel_rfl) (Snd.block (id := 8) (by kernel_rfl) (Snd.loop' (by kernel_rfl) f62s29 (fun n x => spec_Assemble.l29 k n x.1.1 x.1.2.2 x.2) _ (fun _ => rfl) (fun n29 => Snd.exec hc _ _ _ _) (fun n x => by kernel_rfl) k)) (Snd.exec hc _ _ _ _))) (Snd.seq (by kernel_rfl) (Snd.block (id := 6) (by kernel_rfl) (Snd.loop' (by kernel_rfl) f62s24 (fun n x => spec_Assemble.l24 k n x.1.1 x.1.2.1 x.1.2.2.2.2 x.2.1 x.2.2) _ (fun _ => rfl) (fun n24 => Snd.exec hc _ _ _ _) (fun n x => by kernel_rfl) k)) (Snd.exec hc _ _ _ _))) (Snd.seq (by kernel_rfl) (Snd.block (id := 4) (by kernel_rfl) (Snd.loop' (by kernel_rfl) f62s17 (fun n x => spec_Assemble.l17 k n x.1.1 x.1.2.1 x.1.2.2.2.1 x.1.2.2.2.2.2 x.2.1 x.2.2) _ (fun _ => rfl) (fun n17 => Snd.exec hc _ _ _ _) (fun n x => by kernel_rfl) k)) (Snd.exec hc _ _ _ _))) (Snd.exec hc _ _ _ _)) (Snd.seq (by kernel_rfl) (Snd.block (id := 2) (by kernel_rfl) (Snd.loop' (by kernel_rfl) f62s11 (fun n x => spec_Assemble.l11 k n x.1.1 x.1.2.1 x.1.2.2.2.1 x.1.2.2.2.2 x.2) _ (fun _ => rfl) (fun n11 => Snd.exec hc _ _ _ _) (fun n x => by kernel_rfl) k)) (Snd.exec hc _ _ _ _))) (Snd.exec hc _ _ _ _)) (Snd.seq (by kernel_rfl) (Snd.block (id := 0) (by kernel_rfl) (Snd.loop' (by kernel_rfl) f62s5 (fun n x => spec_Assemble.l5 k n x.1.1 x.1.2.1 x.1.2.2.2 x.2) _ (fun _ => rfl) (fun n5 => Snd.exec hc _ _ _ _) (fun n x => by kernel_rfl) k)) (Snd.exec hc _ _ _ _))) (Snd.exec hc _ _ _ _)) (Snd.exec hc _ _ _ _)) (Snd.exec hc _ _ _ _))
    (fun x => by kernel_rfl)

def f181in : SS := ⟨[(0, (.ro (.st (.cons (.int .i64) (.cons .str .nil)))))], []⟩
def f181out : SS := ⟨[(0, (.agg (.cons (.ro (.int .i64)) (.cons (.ro .str) .nil))))], []⟩
def f181con (F : TVal → Option (TVal)) : Con := ⟨f181in, f181out, 1, 1, fun x => F x⟩
def f181ctx (k : Nat) : Ctx := ⟨tyAt tys, conAt [], 11, fun _ => false⟩
theorem f181hc (k : Nat) : CtxOk Try.prog (f181ctx k) := ctxOk tys_ok mixed_ok (consOk_nil)
theorem f181ok (k : Nat) : FnOk Try.prog 181 (f181con (laws_toVal k)) :=
  let hc := f181hc k
  fnOk (fn := Try.f181) (code := bodyOf Try.f181) (res := [.cell 2 52]) hc (by kernel_rfl) (by kernel_rfl) (by decide) (by kernel_rfl) (by kernel_rfl) (by kernel_rfl) (Nat.le_of_ble_eq_true (by kernel_rfl)) _
    (fun x => Snd.exec hc _ _ _ _)
    (fun x => by kernel_rfl)

def f223in : SS := ⟨[(0, (.ro (.st (.cons (.int .i64) (.cons (.int .i64) (.cons (.st (.cons (.int .i64) (.cons .str .nil))) .nil))))))], []⟩
def f223out : SS := ⟨[(0, (.agg (.cons (.ro (.int .i64)) (.cons (.ro (.int .i64)) (.cons (.agg (.cons (.ro (.int .i64)) (.cons (.ro .str) .nil))) .nil)))))], []⟩
def f223con (F : TTriple → Option (TTriple)) : Con := ⟨f223in, f223out, 1, 1, fun x => F x⟩
def f223ctx (k : Nat) : Ctx := ⟨tyAt tys, conAt [(181, [f181con (laws_toVal k)])], 15, fun _ => false⟩
theorem f223hc (k : Nat) : CtxOk Try.prog (f223ctx k) := ctxOk tys_ok mixed_ok (consOk_cons (f181ok k) (consOk_nil))
theorem f223ok (k : Nat) : FnOk Try.prog 223 (f223con (laws_toTriple k)) :=
  let hc := f223hc k
  fnOk (fn := Try.f223) (code := bodyOf Try.f223) (res := [.cell 2 54]) hc (by kernel_rfl) (by kernel_rfl) (by decide) (by kernel_rfl) (by kernel_rfl) (by kernel_rfl) (Nat.le_of_ble_eq_true (by kernel_rfl)) _
    (fun x => Snd.exec hc _ _ _ _)
    (fun x => by kernel_rfl)

def f192in : SS := ⟨[(0, (.ro (.list 244 (.st (.cons (.int .i64) (.cons (.int .i64) (.cons (.st (.cons (.int .i64) (.cons .str .nil))) .nil)))))))], []⟩
def f192out : SS := ⟨[(0, (.h 100))], [(100, (.sl 54 (.st (.cons (.int .i64) (.cons (.int .i64) (.cons (.st (.cons (.int .i64) (.cons .str .nil))) .nil))))))]⟩
def f192s3 : SS := ⟨[(0, (.ro (.list 244 (.st (.cons (.int .i64) (.cons (.int .i64) (.cons (.st (.cons (.int .i64) (.cons .str .nil))) .nil))))))), (3, (.h 100)), (4, (.ro (.int .i64)))], [(100, (.sl 54 (.st (.cons (.int .i64) (.cons (.int .i64) (.cons (.st (.cons (.int .i64) (.cons .str .nil))) .nil))))))]⟩
def f192con (F : (List TTriple) → Option (Unit × (List TTriple))) : Con := ⟨f192in, f192out, 1, 1, fun x => F x⟩
def f192ctx (k : Nat) : Ctx := ⟨tyAt tys, conAt [(223, [f223con (laws_toTriple k)])], 23, fun _ => false⟩
theorem f192hc (k : Nat) : CtxOk Try.prog (f192ctx k) := ctxOk tys_ok mixed_ok (consOk_cons (f223ok k) (consOk_nil))
theorem f192ok (k : Nat) : FnOk Try.prog 192 (f192con (laws_toTripleS k)) :=
  let hc := f192hc k
  fnOk (fn := Try.f192) (code := bodyOf Try.f192) (res := [.tmp 2]) hc (by kernel_rfl) (by kernel_rfl) (by decide) (by kernel_rfl) (by kernel_rfl) (by kernel_rfl) (Nat.le_of_ble_eq_true (by kernel_rfl)) _
    (fun x => Snd.seq (by kernel_rfl) (Snd.seq (by kernel_rfl) (Snd.seq (by kernel_rfl) (Snd.exec hc _ _ _ _) (Snd.seq (by kernel_rfl) (Snd.block (id := 0) (by kernel_rfl) (Snd.loop' (by kernel_rfl) f192s3 (fun n x => laws_toTripleS.l3 k n x.1.1 x.1.2.2 x.2) _ (fun _ => rfl) (fun n3 => Snd.exec hc _ _ _ _) (fun n x => by kernel_rfl) k)) (Snd.exec hc _ _ _ _))) (Snd.exec hc _ _ _ _)) (Snd.exec hc _ _ _ _))
    (fun x => by kernel_rfl)

def f135in : SS := ⟨[(0, (.ro (.st (.cons (.list 244 (.st (.cons (.int .i64) (.cons (.int .i64) (.cons (.st (.cons (.int .i64) (.cons .str .nil))) .nil))))) .nil))))], []⟩
def f135out : SS := ⟨[(0, (.agg (.cons (.h 100) .nil)))], [(100, (.sl 54 (.st (.cons (.int .i64) (.cons (.int .i64) (.cons (.st (.cons (.int .i64) (.cons .str .nil))) .nil))))))]⟩
def f135con (F : TColumn → Option (((Unit × Unit)) × (List TTriple))) : Con := ⟨f135in, f135out, 1, 1, fun x => F x⟩
def f135ctx (k : Nat) : Ctx := ⟨tyAt tys, conAt [(192, [f192con (laws_toTripleS k)])], 9, fun _ => false⟩
theorem f135hc (k : Nat) : CtxOk Try.prog (f135ctx k) := ctxOk tys_ok mixed_ok (consOk_cons (f192ok k) (consOk_nil))
theorem f135ok (k : Nat) : FnOk Try.prog 135 (f135con (laws_toColumn k)) :=
  let hc := f135hc k
  fnOk (fn := Try.f135) (code := bodyOf Try.f135) (res := [.cell 2 50]) hc (by kernel_rfl) (by kernel_rfl) (by decide) (by kernel_rfl) (by kernel_rfl) (by kernel_rfl) (Nat.le_of_ble_eq_true (by kernel_rfl)) _
    (fun x => Snd.exec hc _ _ _ _)
    (fun x => by kernel_rfl)

def f63in : SS := ⟨[(0, (.ro (.list 179 (.st (.cons (.list 244 (.st (.cons (.int .i64) (.cons (.int .i64) (.cons (.st (.cons (.int .i64) (.cons .str .nil))) .nil))))) .nil)))))], []⟩
def f63out : SS := ⟨[(0, (.h 100))], [(100, (.sl 50 (.st (.cons (.list 54 (.st (.cons (.int .i64) (.cons (.int .i64) (.cons (.st (.cons (.int .i64) (.cons .str .nil))) .nil))))) .nil))))]⟩
def f63s3 : SS := ⟨[(0, (.ro (.list 179 (.st (.cons (.list 244 (.st (.cons (.int .i64) (.cons (.int .i64) (.cons (.st (.cons (.int .i64) (.cons .str .nil))) .nil))))) .nil))))), (3, (.h 100)), (4, (.ro (.int .i64)))], [(100, (.sl 50 (.st (.cons (.list 54 (.st (.cons (.int .i64) (.cons (.int .i64) (.cons (.st (.cons (.int .i64) (.cons .str .nil))) .nil))))) .nil))))]⟩
def f63con (F : (List TColumn) → Option (Unit × (List TColumn))) : Con := ⟨f63in, f63out, 1, 1, fun x => F x⟩
def f63ctx (k : Nat) : Ctx := ⟨tyAt tys, conAt [(135, [f135con (laws_toColumn k)])], 23, fun _ => false⟩
theorem f63hc (k : Nat) : CtxOk Try.prog (f63ctx k) := ctxOk tys_ok mixed_ok (consOk_cons (f135ok k) (consOk_nil))
theorem f63ok (k : Nat) : FnOk Try.prog 63 (f63con (laws_toColumnS k)) :=
  let hc := f63hc k
  fnOk (fn := Try.f63) (code := bodyOf Try.f63) (res := [.tmp 2]) hc (by kernel_rfl) (by kernel_rfl) (by decide) (by kernel_rfl) (by kernel_rfl) (by kernel_rfl) (Nat.le_of_ble_eq_true (by kernel_rfl)) _
    (fun x => Snd.seq (by kernel_rfl) (Snd.seq (by kernel_rfl) (Snd.seq (by kernel_rfl) (Snd.exec hc _ _ _ _) (Snd.seq (by kernel_rfl) (Snd.block (id := 0) (by kernel_rfl) (Snd.loop' (by kernel_rfl) f63s3 (fun n x => laws_toColumnS.l3 k n x.1.1 x.1.2.2 x.2) _ (fun _ => rfl) (fun n3 => Snd.exec hc _ _ _ _) (fun n x => by kernel_rfl) k)) (Snd.exec hc _ _ _ _))) (Snd.exec hc _ _ _ _)) (Snd.exec hc _ _ _ _))
    (fun x => by kernel_rfl)

def f136in : SS := ⟨[(0, (.ro (.list 52 (.st (.cons (.int .i64) (.cons .str .nil)))))), (1, (.ro (.int .i64)))], []⟩
def f136out : SS := ⟨[(0, (.ro (.int .i64)))], []⟩
def f136d7 : SS := ⟨[(0, (.ro (.list 52 (.st (.cons (.int .i64) (.cons .str .nil)))))), (1, (.ro (.int .i64))), (5, (.ro (.int .i64)))], []⟩
def f136s2 : SS := ⟨[(0, (.ro (.list 52 (.st (.cons (.int .i64) (.cons .str .nil)))))), (1, (.ro (.int .i64))), (5, (.ro (.int .i64)))], []⟩
def f136con (F : (List TVal) → Int → Option Int) : Con := ⟨f136in, f136out, 2, 1, fun x => F x.1 x.2⟩
def f136ctx (k : Nat) : Ctx := ⟨tyAt tys, conAt [(99, [f99con (laws_markText k)])], 32, fun _ => false⟩
theorem f136hc (k : Nat) : CtxOk Try.prog (f136ctx k) := ctxOk tys_ok mixed_ok (consOk_cons (f99ok k) (consOk_nil))
theorem f136ok (k : Nat) : FnOk Try.prog 136 (f136con (laws_heldValS k)) :=
  let hc := f136hc k
  fnOk (fn := Try.f136) (code := bodyOf Try.f136) (res := [.tmp 4]) hc (by kernel_rfl) (by kernel_rfl) (by decide) (by kernel_rfl) (by kernel_rfl) (by kernel_rfl) (Nat.le_of_ble_eq_true (by kernel_rfl)) _
    (fun x => Snd.seq (by kernel_rfl) (Snd.seq (by kernel_rfl) (Snd.exec hc _ _ _ _) (Snd.seq (by kernel_rfl) (Snd.block (id := 0) (by kernel_rfl) (Snd.loop' (by kernel_rfl) f136s2 (fun n x => laws_heldValS.l2 k n x.1 x.2.1 x.2.2) _ (fun _ => rfl) (fun n2 => Snd.seq (by kernel_rfl) (Snd.seq (by kernel_rfl) (Snd.exec hc _ _ _ _) (Snd.block (id := 1) (by kernel_rfl) (Snd.seq (by kernel_rfl) (Snd.seq (by kernel_rfl) (Snd.seq (by kernel_rfl) (Snd.exec hc _ _ _ _) (Snd.seq (by kernel_rfl) (Snd.exec hc _ _ _ _) (Snd.fork hc (id := 7) (by kernel_rfl) ⟨f136d7, fun x => laws_heldValS.d7 k (laws_heldValS.l2 k n2) x.1 x.2.1 x.2.2⟩ [[0, 1, 2, 3, 5, 4, 6, 7], [0, 1, 2, 3, 5, 6, 4, 7]] (by kernel_rfl) (ords_cons (fun x => by kernel_rfl) (ords_cons (fun x => by kernel_rfl) (ords_nil)))))) (Snd.exec hc _ _ _ _)) (Snd.exec hc _ _ _ _)))) (Snd.exec hc _ _ _ _)) (fun n x => by kernel_rfl) k)) (Snd.exec hc _ _ _ _))) (Snd.exec hc _ _ _ _))
    (fun x => by kernel_rfl)

def f64in : SS := ⟨[(0, (.ro (.list 27 (.st (.cons (.list 52 (.st (.cons (.int .i64) (.cons .str .nil)))) .nil))))), (1, (.ro (.int .i64)))], []⟩
def f64out : SS := ⟨[(0, (.ro (.int .i64)))], []⟩
def f64s2 : SS := ⟨[(0, (.ro (.list 27 (.st (.cons (.list 52 (.st (.cons (.int .i64) (.cons .str .nil)))) .nil))))), (1, (.ro (.int .i64))), (5, (.ro (.int .i64)))], []⟩
def f64con (F : (List TRec) → Int → Option Int) : Con := ⟨f64in, f64out, 2, 1, fun x => F x.1 x.2⟩
def f64ctx (k : Nat) : Ctx := ⟨tyAt tys, conAt [(136, [f136con (laws_heldValS k)])], 22, fun _ => false⟩
theorem f64hc (k : Nat) : CtxOk Try.prog (f64ctx k) := ctxOk tys_ok mixed_ok (consOk_cons (f136ok k) (consOk_nil))
theorem f64ok (k : Nat) : FnOk Try.prog 64 (f64con (laws_heldRecS k)) :=
  let hc := f64hc k
  fnOk (fn := Try.f64) (code := bodyOf Try.f64) (res := [.tmp 4]) hc (by kernel_rfl) (by kernel_rfl) (by decide) (by kernel_rfl) (by kernel_rfl) (by kernel_rfl) (Nat.le_of_ble_eq_true (by kernel_rfl)) _
    (fun x => Snd.seq (by kernel_rfl) (Snd.seq (by kernel_rfl) (Snd.exec hc _ _ _ _) (Snd.seq (by kernel_rfl) (Snd.block (id := 0) (by kernel_rfl) (Snd.loop' (by kernel_rfl) f64s2 (fun n x => laws_heldRecS.l2 k n x.1 x.2.1 x.2.2) _ (fun _ => rfl) (fun n2 => Snd.exec hc _ _ _ _) (fun n x => by kernel_rfl) k)) (Snd.exec hc _ _ _ _))) (Snd.exec hc _ _ _ _))
    (fun x => by kernel_rfl)

def f10in : SS := ⟨[(0, (.ro (.list 125 (.st (.cons .str (.cons (.int .i64) (.cons (.int .i64) (.cons (.int .i64) .nil)))))))), (1, (.ro (.list 179 (.st (.cons (.list 244 (.st (.cons (.int .i64) (.cons (.int .i64) (.cons (.st (.cons (.int .i64) (.cons .str .nil))) .nil))))) .nil)))))], []⟩
def f10out : SS := ⟨[(0, (.ro .bool))], []⟩
def f10con (F : (List TCol) → (List TColumn) → Option Bool) : Con := ⟨f10in, f10out, 2, 1, fun x => F x.1 x.2⟩
def f10ctx (k : Nat) : Ctx := ⟨tyAt tys, conAt [(27, [f27con (laws_szColS k)]), (29, [f29con (laws_toColS k)]), (31, [f31con (laws_eqColumnS k)]), (32, [f32con (laws_eqColS k)]), (33, [f33con (laws_eqRecS k)]), (34, [f34con (laws_markColS k)]), (35, [f35con (laws_markRecS k)]), (36, [f36con (laws_markColumnS k)]), (45, [f45con (impl_Assemble k)]), (61, [f61con (laws_szColumnS k)]), (62, [f62con (spec_Assemble k)]), (63, [f63con (laws_toColumnS k)]), (64, [f64con (laws_heldRecS k)])], 119, fun _ => false⟩
theorem f10hc (k : Nat) : CtxOk Try.prog (f10ctx k) := ctxOk tys_ok mixed_ok (consOk_cons (f27ok k) (consOk_cons (f29ok k) (consOk_cons (f31ok k) (consOk_cons (f32ok k) (consOk_cons (f33ok k) (consOk_cons (f34ok k) (consOk_cons (f35ok k) (consOk_cons (f36ok k) (consOk_cons (f45ok k) (consOk_cons (f61ok k) (consOk_cons (f62ok k) (consOk_cons (f63ok k) (consOk_cons (f64ok k) (consOk_nil))))))))))))))
theorem f10ok (k : Nat) : FnOk Try.prog 10 (f10con (laws_FnExactAssemble k)) :=
  let hc := f10hc k
  fnOk (fn := Try.f10) (code := bodyOf Try.f10) (res := [.tmp 4]) hc (by kernel_rfl) (by kernel_rfl) (by decide) (by kernel_rfl) (by kernel_rfl) (by kernel_rfl) (Nat.le_of_ble_eq_true (by kernel_rfl)) _
    (fun x => Snd.exec hc _ _ _ _)
    (fun x => by kernel_rfl)

end Go.Proofs.Ytifcflanpjkgkaa
