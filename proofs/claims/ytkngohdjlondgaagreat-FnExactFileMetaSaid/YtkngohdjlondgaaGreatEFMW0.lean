/- The walks, printed by program. -/
import Derived.Test.YtkngohdjlondgaaGreatBase
import Derived.Test.YtkngohdjlondgaaGreatEFMF0
set_option linter.unusedVariables false
set_option maxRecDepth 100000
namespace Go.Proofs.YtkngohdjlondgaaGreat
open Go.Am Go.Fn

def f7in : SS := ⟨[(0, (.ro (.list 5 (.int .u8))))], []⟩
def f7out : SS := ⟨[(0, (.h 100))], [(100, (.sl 5 (.int .u8)))]⟩
def f7s3 : SS := ⟨[(0, (.ro (.list 5 (.int .u8)))), (3, (.h 100)), (4, (.ro (.int .i64)))], [(100, (.sl 5 (.int .u8)))]⟩
def f7con (F : (List Int) → Option (Unit × (List Int))) : Con := ⟨f7in, f7out, 1, 1, fun x => F x⟩
def f7ctx (k : Nat) : Ctx := ⟨tyAt tys, conAt [], 22, fun _ => false⟩
theorem f7hc (k : Nat) : CtxOk Tryz.prog (f7ctx k) := ctxOk tys_ok mixed_ok (consOk_nil)
theorem f7ok (k : Nat) : FnOk Tryz.prog 7 (f7con (laws_toByteS k)) :=
  let hc := f7hc k
  fnOk (fn := Tryz.f7) (code := bodyOf Tryz.f7) (res := [.tmp 2]) hc (by kernel_rfl) (by kernel_rfl) (by decide) (by kernel_rfl) (by kernel_rfl) (by kernel_rfl) (Nat.le_of_ble_eq_true (by kernel_rfl)) _
    (fun x => Snd.seq (by kernel_rfl) (Snd.seq (by kernel_rfl) (Snd.seq (by kernel_rfl) (Snd.exec hc _ _ _ _) (Snd.seq (by kernel_rfl) (Snd.block (id := 0) (by kernel_rfl) (Snd.loop' (by kernel_rfl) f7s3 (fun n x => laws_toByteS.l3 k n x.1.1 x.1.2.2 x.2) _ (fun _ => rfl) (fun n3 => Snd.exec hc _ _ _ _) (fun n x => by kernel_rfl) k)) (Snd.exec hc _ _ _ _))) (Snd.exec hc _ _ _ _)) (Snd.exec hc _ _ _ _))
    (fun x => by kernel_rfl)

def f10in : SS := ⟨[(0, (.ro (.list 5 (.int .u8)))), (1, (.ro (.list 5 (.int .u8))))], []⟩
def f10out : SS := ⟨[(0, (.ro .bool))], []⟩
def f10s4 : SS := ⟨[(0, (.ro (.list 5 (.int .u8)))), (1, (.ro (.list 5 (.int .u8)))), (5, (.ro (.int .i64)))], []⟩
def f10con (F : (List Int) → (List Int) → Option Bool) : Con := ⟨f10in, f10out, 2, 1, fun x => F x.1 x.2⟩
def f10ctx (k : Nat) : Ctx := ⟨tyAt tys, conAt [], 26, fun _ => false⟩
theorem f10hc (k : Nat) : CtxOk Tryz.prog (f10ctx k) := ctxOk tys_ok mixed_ok (consOk_nil)
theorem f10ok (k : Nat) : FnOk Tryz.prog 10 (f10con (laws_eqByteS k)) :=
  let hc := f10hc k
  fnOk (fn := Tryz.f10) (code := bodyOf Tryz.f10) (res := [.tmp 4]) hc (by kernel_rfl) (by kernel_rfl) (by decide) (by kernel_rfl) (by kernel_rfl) (by kernel_rfl) (Nat.le_of_ble_eq_true (by kernel_rfl)) _
    (fun x => Snd.seq (by kernel_rfl) (Snd.seq (by kernel_rfl) (Snd.seq (by kernel_rfl) (Snd.exec hc _ _ _ _) (Snd.seq (by kernel_rfl) (Snd.block (id := 0) (by kernel_rfl) (Snd.loop' (by kernel_rfl) f10s4 (fun n x => laws_eqByteS.l4 k n x.1 x.2.1 x.2.2) _ (fun _ => rfl) (fun n4 => Snd.exec hc _ _ _ _) (fun n x => by kernel_rfl) k)) (Snd.exec hc _ _ _ _))) (Snd.exec hc _ _ _ _)) (Snd.exec hc _ _ _ _))
    (fun x => by kernel_rfl)

def f11in : SS := ⟨[(0, (.h 10)), (1, (.ro (.int .i64)))], [(10, (.sl 5 (.int .u8)))]⟩
def f11out : SS := ⟨[(0, (.ro (.int .i64)))], [(10, (.sl 5 (.int .u8)))]⟩
def f11s2 : SS := ⟨[(0, (.h 10)), (1, (.ro (.int .i64))), (5, (.ro (.int .i64)))], [(10, (.sl 5 (.int .u8)))]⟩
def f11con (F : Int → (List Int) → Option (Int × (List Int))) : Con := ⟨f11in, f11out, 2, 1, fun x => F x.1.2 x.2⟩
def f11ctx (k : Nat) : Ctx := ⟨tyAt tys, conAt [], 20, fun _ => false⟩
theorem f11hc (k : Nat) : CtxOk Tryz.prog (f11ctx k) := ctxOk tys_ok mixed_ok (consOk_nil)
theorem f11ok (k : Nat) : FnOk Tryz.prog 11 (f11con (laws_markByteS k)) :=
  let hc := f11hc k
  fnOk (fn := Tryz.f11) (code := bodyOf Tryz.f11) (res := [.tmp 4]) hc (by kernel_rfl) (by kernel_rfl) (by decide) (by kernel_rfl) (by kernel_rfl) (by kernel_rfl) (Nat.le_of_ble_eq_true (by kernel_rfl)) _
    (fun x => Snd.seq (by kernel_rfl) (Snd.seq (by kernel_rfl) (Snd.exec hc _ _ _ _) (Snd.seq (by kernel_rfl) (Snd.block (id := 0) (by kernel_rfl) (Snd.loop' (by kernel_rfl) f11s2 (fun n x => laws_markByteS.l2 k n x.1.2.1 x.1.2.2 x.2) _ (fun _ => rfl) (fun n2 => Snd.exec hc _ _ _ _) (fun n x => by kernel_rfl) k)) (Snd.exec hc _ _ _ _))) (Snd.exec hc _ _ _ _))
    (fun x => by kernel_rfl)

def f36in : SS := ⟨[(0, (.ro (.int .i64))), (1, (.ro (.int .i64))), (2, (.ro (.int .i64)))], []⟩
def f36out : SS := ⟨[(0, (.ro .bool))], []⟩
def f36con (F : Int → Int → Int → Option Bool) : Con := ⟨f36in, f36out, 3, 1, fun x => F x.1 x.2.1 x.2.2⟩
def f36ctx (k : Nat) : Ctx := ⟨tyAt tys, conAt [], 15, fun _ => false⟩
theorem f36hc (k : Nat) : CtxOk Tryz.prog (f36ctx k) := ctxOk tys_ok mixed_ok (consOk_nil)
theorem f36ok (k : Nat) : FnOk Tryz.prog 36 (f36con (spec_l1In k)) :=
  let hc := f36hc k
  fnOk (fn := Tryz.f36) (code := bodyOf Tryz.f36) (res := [.tmp 6]) hc (by kernel_rfl) (by kernel_rfl) (by decide) (by kernel_rfl) (by kernel_rfl) (by kernel_rfl) (Nat.le_of_ble_eq_true (by kernel_rfl)) _
    (fun x => Snd.exec hc _ _ _ _)
    (fun x => by kernel_rfl)

def f37in : SS := ⟨[(0, (.ro (.list 5 (.int .u8)))), (1, (.ro (.int .i64))), (2, (.ro (.int .i64)))], []⟩
def f37out : SS := ⟨[(0, (.ro (.int .i64))), (1, (.ro (.int .i64))), (2, (.ro .bool))], []⟩
def f37s5 : SS := ⟨[(0, (.ro (.list 5 (.int .u8)))), (1, (.ro (.int .i64))), (2, (.ro (.int .i64))), (9, (.ro (.int .i64))), (10, (.ro (.int .i64)))], []⟩
def f37con (F : (List Int) → Int → Int → Option (Int × Int × Bool)) : Con := ⟨f37in, f37out, 3, 3, fun x => F x.1 x.2.1 x.2.2⟩
def f37ctx (k : Nat) : Ctx := ⟨tyAt tys, conAt [(36, [f36con (spec_l1In k)])], 53, fun _ => false⟩
theorem f37hc (k : Nat) : CtxOk Tryz.prog (f37ctx k) := ctxOk tys_ok mixed_ok (consOk_cons (f36ok k) (consOk_nil))
theorem f37ok (k : Nat) : FnOk Tryz.prog 37 (f37con (spec_WordGet k)) :=
  let hc := f37hc k
  fnOk (fn := Tryz.f37) (code := bodyOf Tryz.f37) (res := [.tmp 6, .tmp 7, .tmp 8]) hc (by kernel_rfl) (by kernel_rfl) (by decide) (by kernel_rfl) (by kernel_rfl) (by kernel_rfl) (Nat.le_of_ble_eq_true (by kernel_rfl)) _
    (fun x => Snd.seq (by kernel_rfl) (Snd.seq (by kernel_rfl) (Snd.seq (by kernel_rfl) (Snd.seq (by kernel_rfl) (Snd.exec hc _ _ _ _) (Snd.seq (by kernel_rfl) (Snd.block (id := 0) (by kernel_rfl) (Snd.loop' (by kernel_rfl) f37s5 (fun n x => spec_WordGet.l5 k n x.1 x.2.1 x.2.2.1 x.2.2.2.1 x.2.2.2.2) _ (fun _ => rfl) (fun n5 => Snd.exec hc _ _ _ _) (fun n x => by kernel_rfl) k)) (Snd.exec hc _ _ _ _))) (Snd.exec hc _ _ _ _)) (Snd.exec hc _ _ _ _)) (Snd.exec hc _ _ _ _))
    (fun x => by kernel_rfl)

def f141in : SS := ⟨[(0, (.ro (.list 5 (.int .u8)))), (1, (.ro (.int .i64)))], []⟩
def f141out : SS := ⟨[(0, (.ro (.int .i64))), (1, (.ro (.int .i64))), (2, (.ro .bool))], []⟩
def f141s5 : SS := ⟨[(0, (.ro (.list 5 (.int .u8)))), (1, (.ro (.int .i64))), (7, (.ro (.int .i64))), (8, (.ro (.int .i64)))], []⟩
def f141con (F : (List Int) → Int → Option (Int × Int × Bool)) : Con := ⟨f141in, f141out, 2, 3, fun x => F x.1 x.2⟩
def f141ctx (k : Nat) : Ctx := ⟨tyAt tys, conAt [], 57, fun _ => false⟩
theorem f141hc (k : Nat) : CtxOk Tryz.prog (f141ctx k) := ctxOk tys_ok mixed_ok (consOk_nil)
theorem f141ok (k : Nat) : FnOk Tryz.prog 141 (f141con (spec_UvarGet k)) :=
  let hc := f141hc k
  fnOk (fn := Tryz.f141) (code := bodyOf Tryz.f141) (res := [.tmp 4, .tmp 5, .tmp 6]) hc (by kernel_rfl) (by kernel_rfl) (by decide) (by kernel_rfl) (by kernel_rfl) (by kernel_rfl) (Nat.le_of_ble_eq_true (by kernel_rfl)) _
    (fun x => Snd.seq (by kernel_rfl) (Snd.seq (by kernel_rfl) (Snd.seq (by kernel_rfl) (Snd.seq (by kernel_rfl) (Snd.exec hc _ _ _ _) (Snd.seq (by kernel_rfl) (Snd.block (id := 0) (by kernel_rfl) (Snd.loop' (by kernel_rfl) f141s5 (fun n x => spec_UvarGet.l5 k n x.1 x.2.1 x.2.2.1 x.2.2.2) _ (fun _ => rfl) (fun n5 => Snd.exec hc _ _ _ _) (fun n x => by kernel_rfl) k)) (Snd.exec hc _ _ _ _))) (Snd.exec hc _ _ _ _)) (Snd.exec hc _ _ _ _)) (Snd.exec hc _ _ _ _))
    (fun x => by kernel_rfl)

def f162in : SS := ⟨[(0, (.ro (.int .i64))), (1, (.ro (.int .i64)))], []⟩
def f162out : SS := ⟨[(0, (.ro (.int .i64)))], []⟩
def f162con (F : Int → Int → Option Int) : Con := ⟨f162in, f162out, 2, 1, fun x => F x.1 x.2⟩
def f162ctx (k : Nat) : Ctx := ⟨tyAt tys, conAt [], 16, fun _ => false⟩
theorem f162hc (k : Nat) : CtxOk Tryz.prog (f162ctx k) := ctxOk tys_ok mixed_ok (consOk_nil)
theorem f162ok (k : Nat) : FnOk Tryz.prog 162 (f162con (spec_l2Down k)) :=
  let hc := f162hc k
  fnOk (fn := Tryz.f162) (code := bodyOf Tryz.f162) (res := [.tmp 4]) hc (by kernel_rfl) (by kernel_rfl) (by decide) (by kernel_rfl) (by kernel_rfl) (by kernel_rfl) (Nat.le_of_ble_eq_true (by kernel_rfl)) _
    (fun x => Snd.exec hc _ _ _ _)
    (fun x => by kernel_rfl)

def f142in : SS := ⟨[(0, (.ro (.int .i64)))], []⟩
def f142out : SS := ⟨[(0, (.ro (.int .i64)))], []⟩
def f142con (F : Int → Option Int) : Con := ⟨f142in, f142out, 1, 1, fun x => F x⟩
def f142ctx (k : Nat) : Ctx := ⟨tyAt tys, conAt [(162, [f162con (spec_l2Down k)])], 11, fun _ => false⟩
theorem f142hc (k : Nat) : CtxOk Tryz.prog (f142ctx k) := ctxOk tys_ok mixed_ok (consOk_cons (f162ok k) (consOk_nil))
theorem f142ok (k : Nat) : FnOk Tryz.prog 142 (f142con (spec_Zag k)) :=
  let hc := f142hc k
  fnOk (fn := Tryz.f142) (code := bodyOf Tryz.f142) (res := [.tmp 2]) hc (by kernel_rfl) (by kernel_rfl) (by decide) (by kernel_rfl) (by kernel_rfl) (by kernel_rfl) (Nat.le_of_ble_eq_true (by kernel_rfl)) _
    (fun x => Snd.exec hc _ _ _ _)
    (fun x => by kernel_rfl)

def f109in : SS := ⟨[(0, (.ro (.list 5 (.int .u8)))), (1, (.ro (.int .i64)))], []⟩
def f109out : SS := ⟨[(0, (.ro (.int .i64))), (1, (.ro (.int .i64))), (2, (.ro .bool))], []⟩
def f109con (F : (List Int) → Int → Option (Int × Int × Bool)) : Con := ⟨f109in, f109out, 2, 3, fun x => F x.1 x.2⟩
def f109ctx (k : Nat) : Ctx := ⟨tyAt tys, conAt [(141, [f141con (spec_UvarGet k)]), (142, [f142con (spec_Zag k)])], 22, fun _ => false⟩
theorem f109hc (k : Nat) : CtxOk Tryz.prog (f109ctx k) := ctxOk tys_ok mixed_ok (consOk_cons (f141ok k) (consOk_cons (f142ok k) (consOk_nil)))
theorem f109ok (k : Nat) : FnOk Tryz.prog 109 (f109con (spec_ZigGet k)) :=
  let hc := f109hc k
  fnOk (fn := Tryz.f109) (code := bodyOf Tryz.f109) (res := [.tmp 4, .tmp 5, .tmp 6]) hc (by kernel_rfl) (by kernel_rfl) (by decide) (by kernel_rfl) (by kernel_rfl) (by kernel_rfl) (Nat.le_of_ble_eq_true (by kernel_rfl)) _
    (fun x => Snd.exec hc _ _ _ _)
    (fun x => by kernel_rfl)

def f110in : SS := ⟨[(0, (.ro (.int .i64)))], []⟩
def f110out : SS := ⟨[(0, (.ro .bool))], []⟩
def f110con (F : Int → Option Bool) : Con := ⟨f110in, f110out, 1, 1, fun x => F x⟩
def f110ctx (k : Nat) : Ctx := ⟨tyAt tys, conAt [(36, [f36con (spec_l1In k)])], 5, fun _ => false⟩
theorem f110hc (k : Nat) : CtxOk Tryz.prog (f110ctx k) := ctxOk tys_ok mixed_ok (consOk_cons (f36ok k) (consOk_nil))
theorem f110ok (k : Nat) : FnOk Tryz.prog 110 (f110con (spec_l4Int k)) :=
  let hc := f110hc k
  fnOk (fn := Tryz.f110) (code := bodyOf Tryz.f110) (res := [.tmp 2]) hc (by kernel_rfl) (by kernel_rfl) (by decide) (by kernel_rfl) (by kernel_rfl) (by kernel_rfl) (Nat.le_of_ble_eq_true (by kernel_rfl)) _
    (fun x => Snd.exec hc _ _ _ _)
    (fun x => by kernel_rfl)

def f111in : SS := ⟨[(0, (.ro (.list 5 (.int .u8)))), (1, (.ro (.int .i64)))], []⟩
def f111out : SS := ⟨[(0, (.ro .str)), (1, (.ro (.int .i64))), (2, (.ro (.int .i64)))], []⟩
def f111con (F : (List Int) → Int → Option (ByteArray × Int × Int)) : Con := ⟨f111in, f111out, 2, 3, fun x => F x.1 x.2⟩
def f111ctx (k : Nat) : Ctx := ⟨tyAt tys, conAt [(141, [f141con (spec_UvarGet k)])], 44, fun _ => false⟩
theorem f111hc (k : Nat) : CtxOk Tryz.prog (f111ctx k) := ctxOk tys_ok mixed_ok (consOk_cons (f141ok k) (consOk_nil))
theorem f111ok (k : Nat) : FnOk Tryz.prog 111 (f111con (spec_l4Text k)) :=
  let hc := f111hc k
  fnOk (fn := Tryz.f111) (code := bodyOf Tryz.f111) (res := [.tmp 4, .tmp 5, .tmp 6]) hc (by kernel_rfl) (by kernel_rfl) (by decide) (by kernel_rfl) (by kernel_rfl) (by kernel_rfl) (Nat.le_of_ble_eq_true (by kernel_rfl)) _
    (fun x => Snd.exec hc _ _ _ _)
    (fun x => by kernel_rfl)

def f144in : SS := ⟨[(0, (.ro (.int .i64)))], []⟩
def f144out : SS := ⟨[(0, (.ro .bool))], []⟩
def f144s9 : SS := ⟨[(4, (.ro .bool))], []⟩
def f144con (F : Int → Option Bool) : Con := ⟨f144in, f144out, 1, 1, fun x => F x⟩
def f144ctx (k : Nat) : Ctx := ⟨tyAt tys, conAt [], 12, fun _ => false⟩
theorem f144hc (k : Nat) : CtxOk Tryz.prog (f144ctx k) := ctxOk tys_ok mixed_ok (consOk_nil)
theorem f144ok (k : Nat) : FnOk Tryz.prog 144 (f144con (spec_l4Kind k)) :=
  let hc := f144hc k
  fnOk (fn := Tryz.f144) (code := bodyOf Tryz.f144) (res := [.tmp 2]) hc (by kernel_rfl) (by kernel_rfl) (by decide) (by kernel_rfl) (by kernel_rfl) (by kernel_rfl) (Nat.le_of_ble_eq_true (by kernel_rfl)) _
    (fun x => Snd.seq (by kernel_rfl) (Snd.seq (by kernel_rfl) (Snd.exec hc _ _ _ _) (Snd.seq (by kernel_rfl) (Snd.block (id := 0) (by kernel_rfl) (Snd.seq (by kernel_rfl) (Snd.cut (Snd.exec hc _ _ _ _) ⟨f144s9, fun x => spec_l4Kind.c9 k x⟩ (fun x => by kernel_rfl)) (Snd.exec hc _ _ _ _))) (Snd.exec hc _ _ _ _))) (Snd.exec hc _ _ _ _))
    (fun x => by kernel_rfl)

def f143in : SS := ⟨[(0, (.ro (.int .i64)))], []⟩
def f143out : SS := ⟨[(0, (.ro .bool))], []⟩
def f143con (F : Int → Option Bool) : Con := ⟨f143in, f143out, 1, 1, fun x => F x⟩
def f143ctx (k : Nat) : Ctx := ⟨tyAt tys, conAt [(144, [f144con (spec_l4Kind k)])], 13, fun _ => false⟩
theorem f143hc (k : Nat) : CtxOk Tryz.prog (f143ctx k) := ctxOk tys_ok mixed_ok (consOk_cons (f144ok k) (consOk_nil))
theorem f143ok (k : Nat) : FnOk Tryz.prog 143 (f143con (spec_l4Item k)) :=
  let hc := f143hc k
  fnOk (fn := Tryz.f143) (code := bodyOf Tryz.f143) (res := [.tmp 2]) hc (by kernel_rfl) (by kernel_rfl) (by decide) (by kernel_rfl) (by kernel_rfl) (by kernel_rfl) (Nat.le_of_ble_eq_true (by kernel_rfl)) _
    (fun x => Snd.exec hc _ _ _ _)
    (fun x => by kernel_rfl)

def f112in : SS := ⟨[(0, (.ro (.list 5 (.int .u8)))), (1, (.ro (.int .i64)))], []⟩
def f112out : SS := ⟨[(0, (.ro (.int .i64))), (1, (.ro (.int .i64))), (2, (.ro (.int .i64))), (3, (.ro (.int .i64)))], []⟩
def f112s11 : SS := ⟨[(1, (.ro (.int .i64))), (8, (.ro (.int .i64))), (9, (.ro (.int .i64)))], []⟩
def f112con (F : (List Int) → Int → Option (Int × Int × Int × Int)) : Con := ⟨f112in, f112out, 2, 4, fun x => F x.1 x.2⟩
def f112ctx (k : Nat) : Ctx := ⟨tyAt tys, conAt [(141, [f141con (spec_UvarGet k)]), (143, [f143con (spec_l4Item k)])], 62, fun _ => false⟩
theorem f112hc (k : Nat) : CtxOk Tryz.prog (f112ctx k) := ctxOk tys_ok mixed_ok (consOk_cons (f141ok k) (consOk_cons (f143ok k) (consOk_nil)))
theorem f112ok (k : Nat) : FnOk Tryz.prog 112 (f112con (spec_l4Many k)) :=
  let hc := f112hc k
  fnOk (fn := Tryz.f112) (code := bodyOf Tryz.f112) (res := [.tmp 4, .tmp 5, .tmp 6, .tmp 7]) hc (by kernel_rfl) (by kernel_rfl) (by decide) (by kernel_rfl) (by kernel_rfl) (by kernel_rfl) (Nat.le_of_ble_eq_true (by kernel_rfl)) _
    (fun x => Snd.seq (by kernel_rfl) (Snd.seq (by kernel_rfl) (Snd.seq (by kernel_rfl) (Snd.seq (by kernel_rfl) (Snd.seq (by kernel_rfl) (Snd.cut (Snd.exec hc _ _ _ _) ⟨f112s11, fun x => spec_l4Many.c11 k x.1 x.2.1 x.2.2⟩ (fun x => by kernel_rfl)) (Snd.exec hc _ _ _ _)) (Snd.exec hc _ _ _ _)) (Snd.exec hc _ _ _ _)) (Snd.exec hc _ _ _ _)) (Snd.exec hc _ _ _ _))
    (fun x => by kernel_rfl)

def f113in : SS := ⟨[(0, (.ro (.list 5 (.int .u8)))), (1, (.ro (.int .i64))), (2, (.ro (.int .i64)))], []⟩
def f113out : SS := ⟨[(0, (.ro (.int .i64))), (1, (.ro (.int .i64))), (2, (.ro (.int .i64))), (3, (.ro (.int .i64)))], []⟩
def f113s16 : SS := ⟨[(1, (.ro (.int .i64))), (2, (.ro (.int .i64))), (10, (.ro (.int .i64))), (12, (.ro (.int .i64)))], []⟩
def f113con (F : (List Int) → Int → Int → Option (Int × Int × Int × Int)) : Con := ⟨f113in, f113out, 3, 4, fun x => F x.1 x.2.1 x.2.2⟩
def f113ctx (k : Nat) : Ctx := ⟨tyAt tys, conAt [(36, [f36con (spec_l1In k)]), (109, [f109con (spec_ZigGet k)]), (144, [f144con (spec_l4Kind k)])], 71, fun _ => false⟩
theorem f113hc (k : Nat) : CtxOk Tryz.prog (f113ctx k) := ctxOk tys_ok mixed_ok (consOk_cons (f36ok k) (consOk_cons (f109ok k) (consOk_cons (f144ok k) (consOk_nil))))
theorem f113ok (k : Nat) : FnOk Tryz.prog 113 (f113con (spec_l4Head k)) :=
  let hc := f113hc k
  fnOk (fn := Tryz.f113) (code := bodyOf Tryz.f113) (res := [.tmp 6, .tmp 7, .tmp 8, .tmp 9]) hc (by kernel_rfl) (by kernel_rfl) (by decide) (by kernel_rfl) (by kernel_rfl) (by kernel_rfl) (Nat.le_of_ble_eq_true (by kernel_rfl)) _
    (fun x => Snd.seq (by kernel_rfl) (Snd.seq (by kernel_rfl) (Snd.seq (by kernel_rfl) (Snd.seq (by kernel_rfl) (Snd.seq (by kernel_rfl) (Snd.seq (by kernel_rfl) (Snd.seq (by kernel_rfl) (Snd.seq (by kernel_rfl) (Snd.cut (Snd.exec hc _ _ _ _) ⟨f113s16, fun x => spec_l4Head.c16 k x.1 x.2.1 x.2.2.1 x.2.2.2⟩ (fun x => by kernel_rfl)) (Snd.exec hc _ _ _ _)) (Snd.exec hc _ _ _ _)) (Snd.exec hc _ _ _ _)) (Snd.exec hc _ _ _ _)) (Snd.exec hc _ _ _ _)) (Snd.exec hc _ _ _ _)) (Snd.exec hc _ _ _ _)) (Snd.exec hc _ _ _ _))
    (fun x => by kernel_rfl)

def f79in : SS := ⟨[(0, (.ro (.list 5 (.int .u8)))), (1, (.ro (.int .i64))), (2, (.ro (.int .i64))), (3, (.ro (.int .i64))), (4, (.ro (.int .i64))), (5, (.h 10))], [(10, (.sl 91 (.st (.cons (.int .i64) (.cons (.int .i64) (.cons (.int .i64) (.cons .str (.cons (.int .i64) .nil))))))))]⟩
def f79out : SS := ⟨[(0, (.h 100)), (1, (.ro (.int .i64))), (2, (.ro (.int .i64)))], [(100, (.sl 91 (.st (.cons (.int .i64) (.cons (.int .i64) (.cons (.int .i64) (.cons .str (.cons (.int .i64) .nil))))))))]⟩
def f79s24 : SS := ⟨[(0, (.ro (.list 5 (.int .u8)))), (4, (.ro (.int .i64))), (5, (.h 100)), (22, (.ro (.int .i64))), (23, (.ro (.int .i64))), (24, (.ro (.int .i64))), (25, (.ro (.int .i64))), (26, (.ro (.int .i64)))], [(100, (.sl 91 (.st (.cons (.int .i64) (.cons (.int .i64) (.cons (.int .i64) (.cons .str (.cons (.int .i64) .nil))))))))]⟩
def f79s30 : SS := ⟨[(0, (.ro (.list 5 (.int .u8)))), (1, (.ro (.int .i64))), (4, (.ro (.int .i64))), (5, (.h 100)), (15, (.ro (.int .i64))), (27, (.ro (.int .i64))), (28, (.ro (.int .i64)))], [(100, (.sl 91 (.st (.cons (.int .i64) (.cons (.int .i64) (.cons (.int .i64) (.cons .str (.cons (.int .i64) .nil))))))))]⟩
def f79s8 : SS := ⟨[(0, (.ro (.list 5 (.int .u8)))), (1, (.ro (.int .i64))), (2, (.ro (.int .i64))), (4, (.ro (.int .i64))), (5, (.h 100)), (15, (.ro (.int .i64))), (49, (.ro (.int .i64))), (50, (.ro .bool))], [(100, (.sl 91 (.st (.cons (.int .i64) (.cons (.int .i64) (.cons (.int .i64) (.cons .str (.cons (.int .i64) .nil))))))))]⟩
def f79con (F : (List Int) → Int → Int → Int → Int → (List TNode) → Option ((Unit × Int × Int) × (List TNode))) : Con := ⟨f79in, f79out, 6, 3, fun x => F x.1.1 x.1.2.1 x.1.2.2.1 x.1.2.2.2.1 x.1.2.2.2.2.1 x.2⟩
def f79ctx (k : Nat) (S79 : (List Int) → Int → Int → Int → Int → (List TNode) → Option ((Unit × Int × Int) × (List TNode))) : Ctx := ⟨tyAt tys, conAt [(79, [f79con S79]), (109, [f109con (spec_ZigGet k)]), (110, [f110con (spec_l4Int k)]), (111, [f111con (spec_l4Text k)]), (112, [f112con (spec_l4Many k)]), (113, [f113con (spec_l4Head k)])], 183, fun _ => false⟩
theorem f79hc (k : Nat) (S79 : (List Int) → Int → Int → Int → Int → (List TNode) → Option ((Unit × Int × Int) × (List TNode))) (h79 : FnOk Tryz.prog 79 (f79con S79)) : CtxOk Tryz.prog (f79ctx k S79) := ctxOk tys_ok mixed_ok (consOk_cons (h79) (consOk_cons (f109ok k) (consOk_cons (f110ok k) (consOk_cons (f111ok k) (consOk_cons (f112ok k) (consOk_cons (f113ok k) (consOk_nil)))))))
theorem f79okb (k : Nat) (S79 : (List Int) → Int → Int → Int → Int → (List TNode) → Option ((Unit × Int × Int) × (List TNode))) (h79 : FnOk Tryz.prog 79 (f79con S79)) : FnOk Tryz.prog 79 (f79con (spec_l4Read.b k S79)) :=
  let hc := f79hc k S79 h79
  fnOk (fn := Tryz.f79) (code := bodyOf Tryz.f79) (res := [.tmp 12, .tmp 13, .tmp 14]) hc (by kernel_rfl) (by kernel_rfl) (by decide) (by kernel_rfl) (by kernel_rfl) (by kernel_rfl) (Nat.le_of_ble_eq_true (by kernel_rfl)) _
    (fun x => Snd.seq (by kernel_rfl) (Snd.seq (by kernel_rfl) (Snd.seq (by kernel_rfl) (Snd.seq (by kernel_rfl) (Snd.seq (by kernel_rfl) (Snd.exec hc _ _ _ _) (Snd.seq (by kernel_rfl) (Snd.block (id := 0) (by kernel_rfl) (Snd.seq (by kernel_rfl) (Snd.cut (Snd.cond (x := .tmp 50) (by kernel_rfl) (Snd.exec hc _ _ _ _) (Snd.seq (by kernel_rfl) (Snd.cond (x := .tmp 78) (by kernel_rfl) (Snd.exec hc _ _ _ _) (Snd.seq (by kernel_rfl) (Snd.cond (x := .tmp 95) (by kernel_rfl) (Snd.seq (by kernel_rfl) (Snd.seq (by kernel_rfl) (Snd.seq (by kernel_rfl) (Snd.seq (by kernel_rfl) (Snd.exec hc _ _ _ _) (Snd.seq (by kernel_rfl) (Snd.block (id := 1) (by kernel_rfl) (Snd.loop' (by kernel_rfl) f79s24 (fun n x => spec_l4Read.l24 k S79 n x.1.1 x.1.2.1 x.1.2.2.2.1 x.1.2.2.2.2.1 x.1.2.2.2.2.2.1 x.1.2.2.2.2.2.2.1 x.1.2.2.2.2.2.2.2 x.2) _ (fun _ => rfl) (fun n24 => Snd.exec hc _ _ _ _) (fun n x => by kernel_rfl) k)) (Snd.exec hc _ _ _ _))) (Snd.exec hc _ _ _ _)) (Snd.exec hc _ _ _ _)) (Snd.exec hc _ _ _ _)) (Snd.seq (by kernel_rfl) (Snd.cond (x := .tmp 138) (by kernel_rfl) (Snd.seq (by kernel_rfl) (Snd.block (id := 3) (by kernel_rfl) (Snd.loop' (by kernel_rfl) f79s30 (fun n x => spec_l4Read.l30 k S79 n x.1.1 x.1.2.1 x.1.2.2.1 x.1.2.2.2.2.1 x.1.2.2.2.2.2.1 x.1.2.2.2.2.2.2 x.2) _ (fun _ => rfl) (fun n30 => Snd.exec hc _ _ _ _) (fun n x => by kernel_rfl) k)) (Snd.exec hc _ _ _ _)) (Snd.exec hc _ _ _ _)) (Snd.exec hc _ _ _ _))) (Snd.exec hc _ _ _ _))) (Snd.exec hc _ _ _ _))) ⟨f79s8, fun x => spec_l4Read.c8 k S79 x.1.1 x.1.2.1 x.1.2.2.1 x.1.2.2.2.1 x.1.2.2.2.2.2.1 x.1.2.2.2.2.2.2.1 x.1.2.2.2.2.2.2.2 x.2⟩ (fun x => by kernel_rfl)) (Snd.exec hc _ _ _ _))) (Snd.exec hc _ _ _ _))) (Snd.exec hc _ _ _ _)) (Snd.exec hc _ _ _ _)) (Snd.exec hc _ _ _ _)) (Snd.exec hc _ _ _ _))
    (fun x => by kernel_rfl)
theorem f79rec (k : Nat) : ∀ d, FnOk Tryz.prog 79 (f79con (spec_l4Read.d k d))
  | 0 => FnOk_none (fun _ => rfl)
  | d + 1 => let ih := f79rec k d
    f79okb k (spec_l4Read.d k d) ih
theorem f79ok (k : Nat) : FnOk Tryz.prog 79 (f79con (spec_l4Read k)) := (f79rec k k)

def f51in : SS := ⟨[(0, (.ro (.list 5 (.int .u8)))), (1, (.ro (.int .i64)))], []⟩
def f51out : SS := ⟨[(0, (.h 100)), (1, (.ro (.int .i64))), (2, (.ro (.int .i64)))], [(100, (.sl 91 (.st (.cons (.int .i64) (.cons (.int .i64) (.cons (.int .i64) (.cons .str (.cons (.int .i64) .nil))))))))]⟩
def f51con (F : (List Int) → Int → Option ((Unit × Int × Int) × (List TNode))) : Con := ⟨f51in, f51out, 2, 3, fun x => F x.1 x.2⟩
def f51ctx (k : Nat) : Ctx := ⟨tyAt tys, conAt [(79, [f79con (spec_l4Read k)])], 34, fun _ => false⟩
theorem f51hc (k : Nat) : CtxOk Tryz.prog (f51ctx k) := ctxOk tys_ok mixed_ok (consOk_cons (f79ok k) (consOk_nil))
theorem f51ok (k : Nat) : FnOk Tryz.prog 51 (f51con (spec_TreeRead k)) :=
  let hc := f51hc k
  fnOk (fn := Tryz.f51) (code := bodyOf Tryz.f51) (res := [.tmp 4, .tmp 5, .tmp 6]) hc (by kernel_rfl) (by kernel_rfl) (by decide) (by kernel_rfl) (by kernel_rfl) (by kernel_rfl) (Nat.le_of_ble_eq_true (by kernel_rfl)) _
    (fun x => Snd.exec hc _ _ _ _)
    (fun x => by kernel_rfl)

def f81in : SS := ⟨[(0, (.ro (.list 91 (.st (.cons (.int .i64) (.cons (.int .i64) (.cons (.int .i64) (.cons .str (.cons (.int .i64) .nil))))))))), (1, (.ro (.int .i64)))], []⟩
def f81out : SS := ⟨[(0, (.ro (.int .i64)))], []⟩
def f81s3 : SS := ⟨[(0, (.ro (.list 91 (.st (.cons (.int .i64) (.cons (.int .i64) (.cons (.int .i64) (.cons .str (.cons (.int .i64) .nil))))))))), (1, (.ro (.int .i64))), (5, (.ro (.int .i64))), (6, (.ro (.int .i64)))], []⟩
def f81con (F : (List TNode) → Int → Option Int) : Con := ⟨f81in, f81out, 2, 1, fun x => F x.1 x.2⟩
def f81ctx (k : Nat) (S81 : (List TNode) → Int → Option Int) : Ctx := ⟨tyAt tys, conAt [(81, [f81con S81])], 22, fun _ => false⟩
theorem f81hc (k : Nat) (S81 : (List TNode) → Int → Option Int) (h81 : FnOk Tryz.prog 81 (f81con S81)) : CtxOk Tryz.prog (f81ctx k S81) := ctxOk tys_ok mixed_ok (consOk_cons (h81) (consOk_nil))
theorem f81okb (k : Nat) (S81 : (List TNode) → Int → Option Int) (h81 : FnOk Tryz.prog 81 (f81con S81)) : FnOk Tryz.prog 81 (f81con (spec_l4After.b k S81)) :=
  let hc := f81hc k S81 h81
  fnOk (fn := Tryz.f81) (code := bodyOf Tryz.f81) (res := [.tmp 4]) hc (by kernel_rfl) (by kernel_rfl) (by decide) (by kernel_rfl) (by kernel_rfl) (by kernel_rfl) (Nat.le_of_ble_eq_true (by kernel_rfl)) _
    (fun x => Snd.seq (by kernel_rfl) (Snd.seq (by kernel_rfl) (Snd.seq (by kernel_rfl) (Snd.exec hc _ _ _ _) (Snd.seq (by kernel_rfl) (Snd.block (id := 0) (by kernel_rfl) (Snd.loop' (by kernel_rfl) f81s3 (fun n x => spec_l4After.l3 k S81 n x.1 x.2.1 x.2.2.1 x.2.2.2) _ (fun _ => rfl) (fun n3 => Snd.exec hc _ _ _ _) (fun n x => by kernel_rfl) k)) (Snd.exec hc _ _ _ _))) (Snd.exec hc _ _ _ _)) (Snd.exec hc _ _ _ _))
    (fun x => by kernel_rfl)
theorem f81rec (k : Nat) : ∀ d, FnOk Tryz.prog 81 (f81con (spec_l4After.d k d))
  | 0 => FnOk_none (fun _ => rfl)
  | d + 1 => let ih := f81rec k d
    f81okb k (spec_l4After.d k d) ih
theorem f81ok (k : Nat) : FnOk Tryz.prog 81 (f81con (spec_l4After k)) := (f81rec k k)

def f54in : SS := ⟨[(0, (.ro (.list 91 (.st (.cons (.int .i64) (.cons (.int .i64) (.cons (.int .i64) (.cons .str (.cons (.int .i64) .nil))))))))), (1, (.ro (.int .i64))), (2, (.ro (.int .i64)))], []⟩
def f54out : SS := ⟨[(0, (.ro (.int .i64)))], []⟩
def f54s5 : SS := ⟨[(0, (.ro (.list 91 (.st (.cons (.int .i64) (.cons (.int .i64) (.cons (.int .i64) (.cons .str (.cons (.int .i64) .nil))))))))), (1, (.ro (.int .i64))), (2, (.ro (.int .i64))), (7, (.ro (.int .i64))), (8, (.ro (.int .i64)))], []⟩
def f54con (F : (List TNode) → Int → Int → Option Int) : Con := ⟨f54in, f54out, 3, 1, fun x => F x.1 x.2.1 x.2.2⟩
def f54ctx (k : Nat) : Ctx := ⟨tyAt tys, conAt [(81, [f81con (spec_l4After k)])], 37, fun _ => false⟩
theorem f54hc (k : Nat) : CtxOk Tryz.prog (f54ctx k) := ctxOk tys_ok mixed_ok (consOk_cons (f81ok k) (consOk_nil))
theorem f54ok (k : Nat) : FnOk Tryz.prog 54 (f54con (spec_l4Find k)) :=
  let hc := f54hc k
  fnOk (fn := Tryz.f54) (code := bodyOf Tryz.f54) (res := [.tmp 6]) hc (by kernel_rfl) (by kernel_rfl) (by decide) (by kernel_rfl) (by kernel_rfl) (by kernel_rfl) (Nat.le_of_ble_eq_true (by kernel_rfl)) _
    (fun x => Snd.seq (by kernel_rfl) (Snd.seq (by kernel_rfl) (Snd.seq (by kernel_rfl) (Snd.seq (by kernel_rfl) (Snd.exec hc _ _ _ _) (Snd.seq (by kernel_rfl) (Snd.block (id := 0) (by kernel_rfl) (Snd.loop' (by kernel_rfl) f54s5 (fun n x => spec_l4Find.l5 k n x.1 x.2.1 x.2.2.1 x.2.2.2.1 x.2.2.2.2) _ (fun _ => rfl) (fun n5 => Snd.exec hc _ _ _ _) (fun n x => by kernel_rfl) k)) (Snd.exec hc _ _ _ _))) (Snd.exec hc _ _ _ _)) (Snd.exec hc _ _ _ _)) (Snd.exec hc _ _ _ _))
    (fun x => by kernel_rfl)

def f80in : SS := ⟨[(0, (.ro (.list 91 (.st (.cons (.int .i64) (.cons (.int .i64) (.cons (.int .i64) (.cons .str (.cons (.int .i64) .nil))))))))), (1, (.ro (.int .i64))), (2, (.ro (.int .i64)))], []⟩
def f80out : SS := ⟨[(0, (.ro (.int .i64))), (1, (.ro .bool))], []⟩
def f80con (F : (List TNode) → Int → Int → Option (Int × Bool)) : Con := ⟨f80in, f80out, 3, 2, fun x => F x.1 x.2.1 x.2.2⟩
def f80ctx (k : Nat) : Ctx := ⟨tyAt tys, conAt [(54, [f54con (spec_l4Find k)])], 36, fun _ => false⟩
theorem f80hc (k : Nat) : CtxOk Tryz.prog (f80ctx k) := ctxOk tys_ok mixed_ok (consOk_cons (f54ok k) (consOk_nil))
theorem f80ok (k : Nat) : FnOk Tryz.prog 80 (f80con (spec_l4NumOf k)) :=
  let hc := f80hc k
  fnOk (fn := Tryz.f80) (code := bodyOf Tryz.f80) (res := [.tmp 6, .tmp 7]) hc (by kernel_rfl) (by kernel_rfl) (by decide) (by kernel_rfl) (by kernel_rfl) (by kernel_rfl) (Nat.le_of_ble_eq_true (by kernel_rfl)) _
    (fun x => Snd.exec hc _ _ _ _)
    (fun x => by kernel_rfl)

def f149in : SS := ⟨[(0, (.ro (.st (.cons (.int .i64) (.cons (.int .i64) (.cons (.int .i64) (.cons .str (.cons (.int .i64) .nil))))))))], []⟩
def f149out : SS := ⟨[(0, (.ro .bool))], []⟩
def f149s4 : SS := ⟨[(1, (.p 100)), (4, (.ro (.int .i64))), (5, (.ro .bool))], [(100, (.box (.st (.cons (.int .i64) (.cons (.int .i64) (.cons (.int .i64) (.cons .str (.cons (.int .i64) .nil)))))) (.agg (.cons (.ro (.int .i64)) (.cons (.ro (.int .i64)) (.cons (.ro (.int .i64)) (.cons (.ro .str) (.cons (.ro (.int .i64)) .nil))))))))]⟩
def f149con (F : TNode → Option Bool) : Con := ⟨f149in, f149out, 1, 1, fun x => F x⟩
def f149ctx (k : Nat) : Ctx := ⟨tyAt tys, conAt [(110, [f110con (spec_l4Int k)]), (143, [f143con (spec_l4Item k)])], 107, fun _ => false⟩
theorem f149hc (k : Nat) : CtxOk Tryz.prog (f149ctx k) := ctxOk tys_ok mixed_ok (consOk_cons (f110ok k) (consOk_cons (f143ok k) (consOk_nil)))
theorem f149ok (k : Nat) : FnOk Tryz.prog 149 (f149con (spec_l4Plain k)) :=
  let hc := f149hc k
  fnOk (fn := Tryz.f149) (code := bodyOf Tryz.f149) (res := [.tmp 2]) hc (by kernel_rfl) (by kernel_rfl) (by decide) (by kernel_rfl) (by kernel_rfl) (by kernel_rfl) (Nat.le_of_ble_eq_true (by kernel_rfl)) _
    (fun x => Snd.seq (by kernel_rfl) (Snd.seq (by kernel_rfl) (Snd.exec hc _ _ _ _) (Snd.seq (by kernel_rfl) (Snd.block (id := 0) (by kernel_rfl) (Snd.seq (by kernel_rfl) (Snd.cut (Snd.exec hc _ _ _ _) ⟨f149s4, fun x => spec_l4Plain.c4 k x.1.2.1 x.1.2.2 x.2⟩ (fun x => by kernel_rfl)) (Snd.exec hc _ _ _ _))) (Snd.exec hc _ _ _ _))) (Snd.exec hc _ _ _ _))
    (fun x => by kernel_rfl)

def f119in : SS := ⟨[(0, (.ro (.list 91 (.st (.cons (.int .i64) (.cons (.int .i64) (.cons (.int .i64) (.cons .str (.cons (.int .i64) .nil))))))))), (1, (.ro (.int .i64))), (2, (.ro (.int .i64)))], []⟩
def f119out : SS := ⟨[(0, (.ro (.int .i64)))], []⟩
def f119s7 : SS := ⟨[(0, (.ro (.list 91 (.st (.cons (.int .i64) (.cons (.int .i64) (.cons (.int .i64) (.cons .str (.cons (.int .i64) .nil))))))))), (2, (.ro (.int .i64))), (7, (.p 100)), (8, (.ro (.int .i64))), (9, (.ro (.int .i64))), (10, (.ro (.int .i64)))], [(100, (.box (.st (.cons (.int .i64) (.cons (.int .i64) (.cons (.int .i64) (.cons .str (.cons (.int .i64) .nil)))))) (.agg (.cons (.ro (.int .i64)) (.cons (.ro (.int .i64)) (.cons (.ro (.int .i64)) (.cons (.ro .str) (.cons (.ro (.int .i64)) .nil))))))))]⟩
def f119con (F : (List TNode) → Int → Int → Option Int) : Con := ⟨f119in, f119out, 3, 1, fun x => F x.1 x.2.1 x.2.2⟩
def f119ctx (k : Nat) (S119 : (List TNode) → Int → Int → Option Int) : Ctx := ⟨tyAt tys, conAt [(119, [f119con S119]), (149, [f149con (spec_l4Plain k)])], 89, fun _ => false⟩
theorem f119hc (k : Nat) (S119 : (List TNode) → Int → Int → Option Int) (h119 : FnOk Tryz.prog 119 (f119con S119)) : CtxOk Tryz.prog (f119ctx k S119) := ctxOk tys_ok mixed_ok (consOk_cons (h119) (consOk_cons (f149ok k) (consOk_nil)))
theorem f119okb (k : Nat) (S119 : (List TNode) → Int → Int → Option Int) (h119 : FnOk Tryz.prog 119 (f119con S119)) : FnOk Tryz.prog 119 (f119con (spec_l4Check.b k S119)) :=
  let hc := f119hc k S119 h119
  fnOk (fn := Tryz.f119) (code := bodyOf Tryz.f119) (res := [.tmp 6]) hc (by kernel_rfl) (by kernel_rfl) (by decide) (by kernel_rfl) (by kernel_rfl) (by kernel_rfl) (Nat.le_of_ble_eq_true (by kernel_rfl)) _
    (fun x => Snd.seq (by kernel_rfl) (Snd.seq (by kernel_rfl) (Snd.seq (by kernel_rfl) (Snd.seq (by kernel_rfl) (Snd.seq (by kernel_rfl) (Snd.seq (by kernel_rfl) (Snd.exec hc _ _ _ _) (Snd.seq (by kernel_rfl) (Snd.block (id := 0) (by kernel_rfl) (Snd.loop' (by kernel_rfl) f119s7 (fun n x => spec_l4Check.l7 k S119 n x.1.1 x.1.2.1 x.1.2.2.2.1 x.1.2.2.2.2.1 x.1.2.2.2.2.2 x.2) _ (fun _ => rfl) (fun n7 => Snd.exec hc _ _ _ _) (fun n x => by kernel_rfl) k)) (Snd.exec hc _ _ _ _))) (Snd.exec hc _ _ _ _)) (Snd.exec hc _ _ _ _)) (Snd.exec hc _ _ _ _)) (Snd.exec hc _ _ _ _)) (Snd.exec hc _ _ _ _))
    (fun x => by kernel_rfl)
theorem f119rec (k : Nat) : ∀ d, FnOk Tryz.prog 119 (f119con (spec_l4Check.d k d))
  | 0 => FnOk_none (fun _ => rfl)
  | d + 1 => let ih := f119rec k d
    f119okb k (spec_l4Check.d k d) ih
theorem f119ok (k : Nat) : FnOk Tryz.prog 119 (f119con (spec_l4Check k)) := (f119rec k k)

def f92in : SS := ⟨[(0, (.ro (.list 91 (.st (.cons (.int .i64) (.cons (.int .i64) (.cons (.int .i64) (.cons .str (.cons (.int .i64) .nil)))))))))], []⟩
def f92out : SS := ⟨[(0, (.ro .bool))], []⟩
def f92con (F : (List TNode) → Option Bool) : Con := ⟨f92in, f92out, 1, 1, fun x => F x⟩
def f92ctx (k : Nat) : Ctx := ⟨tyAt tys, conAt [(36, [f36con (spec_l1In k)]), (119, [f119con (spec_l4Check k)])], 26, fun _ => false⟩
theorem f92hc (k : Nat) : CtxOk Tryz.prog (f92ctx k) := ctxOk tys_ok mixed_ok (consOk_cons (f36ok k) (consOk_cons (f119ok k) (consOk_nil)))
theorem f92ok (k : Nat) : FnOk Tryz.prog 92 (f92con (spec_TreeOk k)) :=
  let hc := f92hc k
  fnOk (fn := Tryz.f92) (code := bodyOf Tryz.f92) (res := [.tmp 2]) hc (by kernel_rfl) (by kernel_rfl) (by decide) (by kernel_rfl) (by kernel_rfl) (by kernel_rfl) (Nat.le_of_ble_eq_true (by kernel_rfl)) _
    (fun x => Snd.exec hc _ _ _ _)
    (fun x => by kernel_rfl)

def f114in : SS := ⟨[(0, (.ro (.list 91 (.st (.cons (.int .i64) (.cons (.int .i64) (.cons (.int .i64) (.cons .str (.cons (.int .i64) .nil))))))))), (1, (.ro (.int .i64))), (2, (.ro (.int .i64)))], []⟩
def f114out : SS := ⟨[(0, (.ro .str)), (1, (.ro .bool))], []⟩
def f114con (F : (List TNode) → Int → Int → Option (ByteArray × Bool)) : Con := ⟨f114in, f114out, 3, 2, fun x => F x.1 x.2.1 x.2.2⟩
def f114ctx (k : Nat) : Ctx := ⟨tyAt tys, conAt [(54, [f54con (spec_l4Find k)])], 28, fun _ => false⟩
theorem f114hc (k : Nat) : CtxOk Tryz.prog (f114ctx k) := ctxOk tys_ok mixed_ok (consOk_cons (f54ok k) (consOk_nil))
theorem f114ok (k : Nat) : FnOk Tryz.prog 114 (f114con (spec_l4TextOf k)) :=
  let hc := f114hc k
  fnOk (fn := Tryz.f114) (code := bodyOf Tryz.f114) (res := [.tmp 6, .tmp 7]) hc (by kernel_rfl) (by kernel_rfl) (by decide) (by kernel_rfl) (by kernel_rfl) (by kernel_rfl) (Nat.le_of_ble_eq_true (by kernel_rfl)) _
    (fun x => Snd.exec hc _ _ _ _)
    (fun x => by kernel_rfl)

def f120in : SS := ⟨[(0, (.ro (.list 91 (.st (.cons (.int .i64) (.cons (.int .i64) (.cons (.int .i64) (.cons .str (.cons (.int .i64) .nil))))))))), (1, (.ro (.int .i64))), (2, (.ro .bool))], []⟩
def f120out : SS := ⟨[(0, (.agg (.cons (.ro .str) (.cons (.ro (.int .i64)) (.cons (.ro (.int .i64)) (.cons (.ro (.int .i64)) .nil)))))), (1, (.ro .bool))], []⟩
def f120s12 : SS := ⟨[(0, (.ro (.list 91 (.st (.cons (.int .i64) (.cons (.int .i64) (.cons (.int .i64) (.cons .str (.cons (.int .i64) .nil))))))))), (1, (.ro (.int .i64))), (6, (.p 100)), (9, (.ro .bool)), (11, (.ro .bool)), (13, (.ro .bool)), (15, (.ro .bool)), (16, (.p 101))], [(100, (.box (.st (.cons .str (.cons (.int .i64) (.cons (.int .i64) (.cons (.int .i64) .nil))))) (.agg (.cons (.ro .str) (.cons (.ro (.int .i64)) (.cons (.ro (.int .i64)) (.cons (.ro (.int .i64)) .nil))))))), (101, (.box (.st (.cons .str (.cons (.int .i64) (.cons (.int .i64) (.cons (.int .i64) .nil))))) (.agg (.cons (.ro .str) (.cons (.ro (.int .i64)) (.cons (.ro (.int .i64)) (.cons (.ro (.int .i64)) .nil)))))))]⟩
def f120s9 : SS := ⟨[(0, (.ro (.list 91 (.st (.cons (.int .i64) (.cons (.int .i64) (.cons (.int .i64) (.cons .str (.cons (.int .i64) .nil))))))))), (1, (.ro (.int .i64))), (6, (.p 100)), (9, (.ro .bool)), (11, (.ro .bool)), (12, (.ro (.int .i64))), (13, (.ro .bool)), (15, (.ro .bool)), (16, (.p 101))], [(100, (.box (.st (.cons .str (.cons (.int .i64) (.cons (.int .i64) (.cons (.int .i64) .nil))))) (.agg (.cons (.ro .str) (.cons (.ro (.int .i64)) (.cons (.ro (.int .i64)) (.cons (.ro (.int .i64)) .nil))))))), (101, (.box (.st (.cons .str (.cons (.int .i64) (.cons (.int .i64) (.cons (.int .i64) .nil))))) (.agg (.cons (.ro .str) (.cons (.ro (.int .i64)) (.cons (.ro (.int .i64)) (.cons (.ro (.int .i64)) .nil)))))))]⟩
def f120con (F : (List TNode) → Int → Bool → Option (TCol × Bool)) : Con := ⟨f120in, f120out, 3, 2, fun x => F x.1 x.2.1 x.2.2⟩
def f120ctx (k : Nat) : Ctx := ⟨tyAt tys, conAt [(54, [f54con (spec_l4Find k)]), (80, [f80con (spec_l4NumOf k)]), (114, [f114con (spec_l4TextOf k)])], 82, fun _ => false⟩
theorem f120hc (k : Nat) : CtxOk Tryz.prog (f120ctx k) := ctxOk tys_ok mixed_ok (consOk_cons (f54ok k) (consOk_cons (f80ok k) (consOk_cons (f114ok k) (consOk_nil))))
theorem f120ok (k : Nat) : FnOk Tryz.prog 120 (f120con (spec_l5Col k)) :=
  let hc := f120hc k
  fnOk (fn := Tryz.f120) (code := bodyOf Tryz.f120) (res := [.cell 6 105, .tmp 7]) hc (by kernel_rfl) (by kernel_rfl) (by decide) (by kernel_rfl) (by kernel_rfl) (by kernel_rfl) (Nat.le_of_ble_eq_true (by kernel_rfl)) _
    (fun x => Snd.seq (by kernel_rfl) (Snd.seq (by kernel_rfl) (Snd.seq (by kernel_rfl) (Snd.seq (by kernel_rfl) (Snd.seq (by kernel_rfl) (Snd.seq (by kernel_rfl) (Snd.seq (by kernel_rfl) (Snd.cut (Snd.seq (by kernel_rfl) (Snd.cut (Snd.exec hc _ _ _ _) ⟨f120s12, fun x => spec_l5Col.c12 k x.1.1 x.1.2.1 x.1.2.2.2.1 x.1.2.2.2.2.1 x.1.2.2.2.2.2.1 x.1.2.2.2.2.2.2.1 x.2.1 x.2.2⟩ (fun x => by kernel_rfl)) (Snd.exec hc _ _ _ _)) ⟨f120s9, fun x => spec_l5Col.c9 k x.1.1 x.1.2.1 x.1.2.2.2.1 x.1.2.2.2.2.1 x.1.2.2.2.2.2.1 x.1.2.2.2.2.2.2.1 x.1.2.2.2.2.2.2.2.1 x.2.1 x.2.2⟩ (fun x => by kernel_rfl)) (Snd.exec hc _ _ _ _)) (Snd.exec hc _ _ _ _)) (Snd.exec hc _ _ _ _)) (Snd.exec hc _ _ _ _)) (Snd.exec hc _ _ _ _)) (Snd.exec hc _ _ _ _)) (Snd.exec hc _ _ _ _))
    (fun x => by kernel_rfl)

def f57in : SS := ⟨[(0, (.ro (.int .i64)))], []⟩
def f57out : SS := ⟨[(0, (.ro .bool))], []⟩
def f57s7 : SS := ⟨[(4, (.ro .bool))], []⟩
def f57con (F : Int → Option Bool) : Con := ⟨f57in, f57out, 1, 1, fun x => F x⟩
def f57ctx (k : Nat) : Ctx := ⟨tyAt tys, conAt [], 10, fun _ => false⟩
theorem f57hc (k : Nat) : CtxOk Tryz.prog (f57ctx k) := ctxOk tys_ok mixed_ok (consOk_nil)
theorem f57ok (k : Nat) : FnOk Tryz.prog 57 (f57con (spec_l5Type k)) :=
  let hc := f57hc k
  fnOk (fn := Tryz.f57) (code := bodyOf Tryz.f57) (res := [.tmp 2]) hc (by kernel_rfl) (by kernel_rfl) (by decide) (by kernel_rfl) (by kernel_rfl) (by kernel_rfl) (Nat.le_of_ble_eq_true (by kernel_rfl)) _
    (fun x => Snd.seq (by kernel_rfl) (Snd.seq (by kernel_rfl) (Snd.exec hc _ _ _ _) (Snd.seq (by kernel_rfl) (Snd.block (id := 0) (by kernel_rfl) (Snd.seq (by kernel_rfl) (Snd.cut (Snd.exec hc _ _ _ _) ⟨f57s7, fun x => spec_l5Type.c7 k x⟩ (fun x => by kernel_rfl)) (Snd.exec hc _ _ _ _))) (Snd.exec hc _ _ _ _))) (Snd.exec hc _ _ _ _))
    (fun x => by kernel_rfl)

def f165in : SS := ⟨[(0, (.ro .str))], []⟩
def f165out : SS := ⟨[(0, (.ro .bool))], []⟩
def f165s4 : SS := ⟨[(0, (.ro .str)), (3, (.ro (.int .i64)))], []⟩
def f165con (F : ByteArray → Option Bool) : Con := ⟨f165in, f165out, 1, 1, fun x => F x⟩
def f165ctx (k : Nat) : Ctx := ⟨tyAt tys, conAt [(36, [f36con (spec_l1In k)])], 24, fun _ => false⟩
theorem f165hc (k : Nat) : CtxOk Tryz.prog (f165ctx k) := ctxOk tys_ok mixed_ok (consOk_cons (f36ok k) (consOk_nil))
theorem f165ok (k : Nat) : FnOk Tryz.prog 165 (f165con (spec_l5Name k)) :=
  let hc := f165hc k
  fnOk (fn := Tryz.f165) (code := bodyOf Tryz.f165) (res := [.tmp 2]) hc (by kernel_rfl) (by kernel_rfl) (by decide) (by kernel_rfl) (by kernel_rfl) (by kernel_rfl) (Nat.le_of_ble_eq_true (by kernel_rfl)) _
    (fun x => Snd.seq (by kernel_rfl) (Snd.seq (by kernel_rfl) (Snd.seq (by kernel_rfl) (Snd.exec hc _ _ _ _) (Snd.seq (by kernel_rfl) (Snd.block (id := 0) (by kernel_rfl) (Snd.loop' (by kernel_rfl) f165s4 (fun n x => spec_l5Name.l4 k n x.1 x.2) _ (fun _ => rfl) (fun n4 => Snd.exec hc _ _ _ _) (fun n x => by kernel_rfl) k)) (Snd.exec hc _ _ _ _))) (Snd.exec hc _ _ _ _)) (Snd.exec hc _ _ _ _))
    (fun x => by kernel_rfl)

def f150in : SS := ⟨[(0, (.ro (.list 105 (.st (.cons .str (.cons (.int .i64) (.cons (.int .i64) (.cons (.int .i64) .nil)))))))), (1, (.ro (.int .i64))), (2, (.ro (.int .i64)))], []⟩
def f150out : SS := ⟨[(0, (.ro (.int .i64)))], []⟩
def f150s20 : SS := ⟨[(0, (.ro (.list 105 (.st (.cons .str (.cons (.int .i64) (.cons (.int .i64) (.cons (.int .i64) .nil)))))))), (2, (.ro (.int .i64))), (7, (.p 100)), (8, (.ro (.int .i64))), (9, (.h 101)), (10, (.ro (.int .i64))), (11, (.ro (.int .i64)))], [(100, (.box (.st (.cons .str (.cons (.int .i64) (.cons (.int .i64) (.cons (.int .i64) .nil))))) (.agg (.cons (.ro .str) (.cons (.ro (.int .i64)) (.cons (.ro (.int .i64)) (.cons (.ro (.int .i64)) .nil))))))), (101, (.sl 9 .str))]⟩
def f150s15 : SS := ⟨[(0, (.ro (.list 105 (.st (.cons .str (.cons (.int .i64) (.cons (.int .i64) (.cons (.int .i64) .nil)))))))), (2, (.ro (.int .i64))), (7, (.p 100)), (8, (.ro (.int .i64))), (9, (.h 101)), (10, (.ro (.int .i64)))], [(100, (.box (.st (.cons .str (.cons (.int .i64) (.cons (.int .i64) (.cons (.int .i64) .nil))))) (.agg (.cons (.ro .str) (.cons (.ro (.int .i64)) (.cons (.ro (.int .i64)) (.cons (.ro (.int .i64)) .nil))))))), (101, (.sl 9 .str))]⟩
def f150con (F : (List TCol) → Int → Int → Option Int) : Con := ⟨f150in, f150out, 3, 1, fun x => F x.1 x.2.1 x.2.2⟩
def f150ctx (k : Nat) (S150 : (List TCol) → Int → Int → Option Int) : Ctx := ⟨tyAt tys, conAt [(36, [f36con (spec_l1In k)]), (57, [f57con (spec_l5Type k)]), (150, [f150con S150]), (165, [f165con (spec_l5Name k)])], 119, fun _ => false⟩
theorem f150hc (k : Nat) (S150 : (List TCol) → Int → Int → Option Int) (h150 : FnOk Tryz.prog 150 (f150con S150)) : CtxOk Tryz.prog (f150ctx k S150) := ctxOk tys_ok mixed_ok (consOk_cons (f36ok k) (consOk_cons (f57ok k) (consOk_cons (h150) (consOk_cons (f165ok k) (consOk_nil)))))
theorem f150okb (k : Nat) (S150 : (List TCol) → Int → Int → Option Int) (h150 : FnOk Tryz.prog 150 (f150con S150)) : FnOk Tryz.prog 150 (f150con (spec_l5Check.b k S150)) :=
  let hc := f150hc k S150 h150
  fnOk (fn := Tryz.f150) (code := bodyOf Tryz.f150) (res := [.tmp 6]) hc (by kernel_rfl) (by kernel_rfl) (by decide) (by kernel_rfl) (by kernel_rfl) (by kernel_rfl) (Nat.le_of_ble_eq_true (by kernel_rfl)) _
    (fun x => Snd.seq (by kernel_rfl) (Snd.seq (by kernel_rfl) (Snd.seq (by kernel_rfl) (Snd.seq (by kernel_rfl) (Snd.seq (by kernel_rfl) (Snd.seq (by kernel_rfl) (Snd.seq (by kernel_rfl) (Snd.seq (by kernel_rfl) (Snd.seq (by kernel_rfl) (Snd.exec hc _ _ _ _) (Snd.seq (by kernel_rfl) (Snd.block (id := 0) (by kernel_rfl) (Snd.loop' (by kernel_rfl) f150s15 (fun n x => spec_l5Check.l15 k S150 n x.1.1 x.1.2.1 x.1.2.2.2.1 x.1.2.2.2.2.2 x.2.1 x.2.2) _ (fun _ => rfl) (fun n15 => Snd.seq (by kernel_rfl) (Snd.seq (by kernel_rfl) (Snd.exec hc _ _ _ _) (Snd.block (id := 1) (by kernel_rfl) (Snd.seq (by kernel_rfl) (Snd.seq (by kernel_rfl) (Snd.exec hc _ _ _ _) (Snd.seq (by kernel_rfl) (Snd.block (id := 2) (by kernel_rfl) (Snd.loop' (by kernel_rfl) f150s20 (fun n x => spec_l5Check.l20 k S150 (spec_l5Check.l15 k S150 n15) n x.1.1 x.1.2.1 x.1.2.2.2.1 x.1.2.2.2.2.2.1 x.1.2.2.2.2.2.2 x.2.1 x.2.2) _ (fun _ => rfl) (fun n20 => Snd.exec hc _ _ _ _) (fun n x => by kernel_rfl) k)) (Snd.exec hc _ _ _ _))) (Snd.exec hc _ _ _ _)))) (Snd.exec hc _ _ _ _)) (fun n x => by kernel_rfl) k)) (Snd.exec hc _ _ _ _))) (Snd.exec hc _ _ _ _)) (Snd.exec hc _ _ _ _)) (Snd.exec hc _ _ _ _)) (Snd.exec hc _ _ _ _)) (Snd.exec hc _ _ _ _)) (Snd.exec hc _ _ _ _)) (Snd.exec hc _ _ _ _)) (Snd.exec hc _ _ _ _))
    (fun x => by kernel_rfl)
theorem f150rec (k : Nat) : ∀ d, FnOk Tryz.prog 150 (f150con (spec_l5Check.d k d))
  | 0 => FnOk_none (fun _ => rfl)
  | d + 1 => let ih := f150rec k d
    f150okb k (spec_l5Check.d k d) ih
theorem f150ok (k : Nat) : FnOk Tryz.prog 150 (f150con (spec_l5Check k)) := (f150rec k k)

def f121in : SS := ⟨[(0, (.ro (.list 105 (.st (.cons .str (.cons (.int .i64) (.cons (.int .i64) (.cons (.int .i64) .nil))))))))], []⟩
def f121out : SS := ⟨[(0, (.ro .bool))], []⟩
def f121con (F : (List TCol) → Option Bool) : Con := ⟨f121in, f121out, 1, 1, fun x => F x⟩
def f121ctx (k : Nat) : Ctx := ⟨tyAt tys, conAt [(36, [f36con (spec_l1In k)]), (150, [f150con (spec_l5Check k)])], 13, fun _ => false⟩
theorem f121hc (k : Nat) : CtxOk Tryz.prog (f121ctx k) := ctxOk tys_ok mixed_ok (consOk_cons (f36ok k) (consOk_cons (f150ok k) (consOk_nil)))
theorem f121ok (k : Nat) : FnOk Tryz.prog 121 (f121con (spec_SchemaOk k)) :=
  let hc := f121hc k
  fnOk (fn := Tryz.f121) (code := bodyOf Tryz.f121) (res := [.tmp 2]) hc (by kernel_rfl) (by kernel_rfl) (by decide) (by kernel_rfl) (by kernel_rfl) (by kernel_rfl) (Nat.le_of_ble_eq_true (by kernel_rfl)) _
    (fun x => Snd.exec hc _ _ _ _)
    (fun x => by kernel_rfl)

def f93in : SS := ⟨[(0, (.ro (.list 91 (.st (.cons (.int .i64) (.cons (.int .i64) (.cons (.int .i64) (.cons .str (.cons (.int .i64) .nil))))))))), (1, (.ro (.int .i64))), (2, (.ro (.int .i64)))], []⟩
def f93out : SS := ⟨[(0, (.h 100)), (1, (.ro .bool))], [(100, (.sl 105 (.st (.cons .str (.cons (.int .i64) (.cons (.int .i64) (.cons (.int .i64) .nil)))))))]⟩
def f93s8 : SS := ⟨[(0, (.ro (.list 91 (.st (.cons (.int .i64) (.cons (.int .i64) (.cons (.int .i64) (.cons .str (.cons (.int .i64) .nil))))))))), (8, (.h 100)), (9, (.ro (.int .i64))), (10, (.h 101)), (11, (.ro (.int .i64))), (12, (.ro (.int .i64)))], [(100, (.sl 105 (.st (.cons .str (.cons (.int .i64) (.cons (.int .i64) (.cons (.int .i64) .nil))))))), (101, (.sl 105 (.st (.cons .str (.cons (.int .i64) (.cons (.int .i64) (.cons (.int .i64) .nil)))))))]⟩
def f93con (F : (List TNode) → Int → Int → Option ((Unit × Bool) × (List TCol))) : Con := ⟨f93in, f93out, 3, 2, fun x => F x.1 x.2.1 x.2.2⟩
def f93ctx (k : Nat) : Ctx := ⟨tyAt tys, conAt [(54, [f54con (spec_l4Find k)]), (81, [f81con (spec_l4After k)]), (120, [f120con (spec_l5Col k)]), (121, [f121con (spec_SchemaOk k)])], 74, fun _ => false⟩
theorem f93hc (k : Nat) : CtxOk Tryz.prog (f93ctx k) := ctxOk tys_ok mixed_ok (consOk_cons (f54ok k) (consOk_cons (f81ok k) (consOk_cons (f120ok k) (consOk_cons (f121ok k) (consOk_nil)))))
theorem f93ok (k : Nat) : FnOk Tryz.prog 93 (f93con (spec_l5Of k)) :=
  let hc := f93hc k
  fnOk (fn := Tryz.f93) (code := bodyOf Tryz.f93) (res := [.tmp 6, .tmp 7]) hc (by kernel_rfl) (by kernel_rfl) (by decide) (by kernel_rfl) (by kernel_rfl) (by kernel_rfl) (Nat.le_of_ble_eq_true (by kernel_rfl)) _
    (fun x => Snd.seq (by kernel_rfl) (Snd.seq (by kernel_rfl) (Snd.seq (by kernel_rfl) (Snd.seq (by kernel_rfl) (Snd.seq (by kernel_rfl) (Snd.seq (by kernel_rfl) (Snd.seq (by kernel_rfl) (Snd.exec hc _ _ _ _) (Snd.seq (by kernel_rfl) (Snd.block (id := 0) (by kernel_rfl) (Snd.loop' (by kernel_rfl) f93s8 (fun n x => spec_l5Of.l8 k n x.1.1 x.1.2.2.1 x.1.2.2.2.2.1 x.1.2.2.2.2.2 x.2.1 x.2.2) _ (fun _ => rfl) (fun n8 => Snd.exec hc _ _ _ _) (fun n x => by kernel_rfl) k)) (Snd.exec hc _ _ _ _))) (Snd.exec hc _ _ _ _)) (Snd.exec hc _ _ _ _)) (Snd.exec hc _ _ _ _)) (Snd.exec hc _ _ _ _)) (Snd.exec hc _ _ _ _)) (Snd.exec hc _ _ _ _))
    (fun x => by kernel_rfl)

def f94in : SS := ⟨[(0, (.ro (.list 91 (.st (.cons (.int .i64) (.cons (.int .i64) (.cons (.int .i64) (.cons .str (.cons (.int .i64) .nil))))))))), (1, (.ro (.int .i64))), (2, (.ro (.int .i64))), (3, (.ro (.int .i64)))], []⟩
def f94out : SS := ⟨[(0, (.h 100)), (1, (.ro .bool))], [(100, (.sl 3 (.int .i64)))]⟩
def f94s7 : SS := ⟨[(0, (.ro (.list 91 (.st (.cons (.int .i64) (.cons (.int .i64) (.cons (.int .i64) (.cons .str (.cons (.int .i64) .nil))))))))), (10, (.h 100)), (11, (.ro (.int .i64))), (12, (.ro (.int .i64))), (13, (.ro (.int .i64)))], [(100, (.sl 3 (.int .i64)))]⟩
def f94con (F : (List TNode) → Int → Int → Int → Option ((Unit × Bool) × (List Int))) : Con := ⟨f94in, f94out, 4, 2, fun x => F x.1 x.2.1 x.2.2.1 x.2.2.2⟩
def f94ctx (k : Nat) : Ctx := ⟨tyAt tys, conAt [(54, [f54con (spec_l4Find k)]), (81, [f81con (spec_l4After k)])], 66, fun _ => false⟩
theorem f94hc (k : Nat) : CtxOk Tryz.prog (f94ctx k) := ctxOk tys_ok mixed_ok (consOk_cons (f54ok k) (consOk_cons (f81ok k) (consOk_nil)))
theorem f94ok (k : Nat) : FnOk Tryz.prog 94 (f94con (spec_l18List k)) :=
  let hc := f94hc k
  fnOk (fn := Tryz.f94) (code := bodyOf Tryz.f94) (res := [.tmp 8, .tmp 9]) hc (by kernel_rfl) (by kernel_rfl) (by decide) (by kernel_rfl) (by kernel_rfl) (by kernel_rfl) (Nat.le_of_ble_eq_true (by kernel_rfl)) _
    (fun x => Snd.seq (by kernel_rfl) (Snd.seq (by kernel_rfl) (Snd.seq (by kernel_rfl) (Snd.seq (by kernel_rfl) (Snd.seq (by kernel_rfl) (Snd.seq (by kernel_rfl) (Snd.exec hc _ _ _ _) (Snd.seq (by kernel_rfl) (Snd.block (id := 0) (by kernel_rfl) (Snd.loop' (by kernel_rfl) f94s7 (fun n x => spec_l18List.l7 k n x.1.1 x.1.2.2.1 x.1.2.2.2.1 x.1.2.2.2.2 x.2) _ (fun _ => rfl) (fun n7 => Snd.exec hc _ _ _ _) (fun n x => by kernel_rfl) k)) (Snd.exec hc _ _ _ _))) (Snd.exec hc _ _ _ _)) (Snd.exec hc _ _ _ _)) (Snd.exec hc _ _ _ _)) (Snd.exec hc _ _ _ _)) (Snd.exec hc _ _ _ _))
    (fun x => by kernel_rfl)

def f95in : SS := ⟨[(0, (.ro (.list 105 (.st (.cons .str (.cons (.int .i64) (.cons (.int .i64) (.cons (.int .i64) .nil))))))))], []⟩
def f95out : SS := ⟨[(0, (.h 100))], [(100, (.sl 3 (.int .i64)))]⟩
def f95s4 : SS := ⟨[(0, (.ro (.list 105 (.st (.cons .str (.cons (.int .i64) (.cons (.int .i64) (.cons (.int .i64) .nil)))))))), (3, (.h 100)), (4, (.ro (.int .i64)))], [(100, (.sl 3 (.int .i64)))]⟩
def f95s3 : SS := ⟨[(0, (.ro (.list 105 (.st (.cons .str (.cons (.int .i64) (.cons (.int .i64) (.cons (.int .i64) .nil)))))))), (3, (.h 100)), (4, (.ro (.int .i64)))], [(100, (.sl 3 (.int .i64)))]⟩
def f95con (F : (List TCol) → Option (Unit × (List Int))) : Con := ⟨f95in, f95out, 1, 1, fun x => F x⟩
def f95ctx (k : Nat) : Ctx := ⟨tyAt tys, conAt [], 23, fun _ => false⟩
theorem f95hc (k : Nat) : CtxOk Tryz.prog (f95ctx k) := ctxOk tys_ok mixed_ok (consOk_nil)
theorem f95ok (k : Nat) : FnOk Tryz.prog 95 (f95con (spec_l5Leaves k)) :=
  let hc := f95hc k
  fnOk (fn := Tryz.f95) (code := bodyOf Tryz.f95) (res := [.tmp 2]) hc (by kernel_rfl) (by kernel_rfl) (by decide) (by kernel_rfl) (by kernel_rfl) (by kernel_rfl) (Nat.le_of_ble_eq_true (by kernel_rfl)) _
    (fun x => Snd.seq (by kernel_rfl) (Snd.seq (by kernel_rfl) (Snd.seq (by kernel_rfl) (Snd.exec hc _ _ _ _) (Snd.seq (by kernel_rfl) (Snd.block (id := 0) (by kernel_rfl) (Snd.loop' (by kernel_rfl) f95s3 (fun n x => spec_l5Leaves.l3 k n x.1.1 x.1.2.2 x.2) _ (fun _ => rfl) (fun n3 => Snd.seq (by kernel_rfl) (Snd.seq (by kernel_rfl) (Snd.cut (Snd.exec hc _ _ _ _) ⟨f95s4, fun x => spec_l5Leaves.c4 k (spec_l5Leaves.l3 k n3) x.1.1 x.1.2.2 x.2⟩ (fun x => by kernel_rfl)) (Snd.exec hc _ _ _ _)) (Snd.exec hc _ _ _ _)) (fun n x => by kernel_rfl) k)) (Snd.exec hc _ _ _ _))) (Snd.exec hc _ _ _ _)) (Snd.exec hc _ _ _ _))
    (fun x => by kernel_rfl)

def f53in : SS := ⟨[(0, (.ro (.list 91 (.st (.cons (.int .i64) (.cons (.int .i64) (.cons (.int .i64) (.cons .str (.cons (.int .i64) .nil))))))))), (1, (.ro (.int .i64))), (2, (.ro (.list 3 (.int .i64))))], []⟩
def f53out : SS := ⟨[(0, (.h 100)), (1, (.ro .bool))], [(100, (.sl 3 (.int .i64)))]⟩
def f53s3 : SS := ⟨[(0, (.ro (.list 91 (.st (.cons (.int .i64) (.cons (.int .i64) (.cons (.int .i64) (.cons .str (.cons (.int .i64) .nil))))))))), (1, (.ro (.int .i64))), (2, (.ro (.list 3 (.int .i64)))), (8, (.h 100)), (9, (.ro (.int .i64)))], [(100, (.sl 3 (.int .i64)))]⟩
def f53con (F : (List TNode) → Int → (List Int) → Option ((Unit × Bool) × (List Int))) : Con := ⟨f53in, f53out, 3, 2, fun x => F x.1 x.2.1 x.2.2⟩
def f53ctx (k : Nat) : Ctx := ⟨tyAt tys, conAt [(80, [f80con (spec_l4NumOf k)])], 37, fun _ => false⟩
theorem f53hc (k : Nat) : CtxOk Tryz.prog (f53ctx k) := ctxOk tys_ok mixed_ok (consOk_cons (f80ok k) (consOk_nil))
theorem f53ok (k : Nat) : FnOk Tryz.prog 53 (f53con (spec_l16Ids k)) :=
  let hc := f53hc k
  fnOk (fn := Tryz.f53) (code := bodyOf Tryz.f53) (res := [.tmp 6, .tmp 7]) hc (by kernel_rfl) (by kernel_rfl) (by decide) (by kernel_rfl) (by kernel_rfl) (by kernel_rfl) (Nat.le_of_ble_eq_true (by kernel_rfl)) _
    (fun x => Snd.seq (by kernel_rfl) (Snd.seq (by kernel_rfl) (Snd.seq (by kernel_rfl) (Snd.exec hc _ _ _ _) (Snd.seq (by kernel_rfl) (Snd.block (id := 0) (by kernel_rfl) (Snd.loop' (by kernel_rfl) f53s3 (fun n x => spec_l16Ids.l3 k n x.1.1 x.1.2.1 x.1.2.2.1 x.1.2.2.2.2 x.2) _ (fun _ => rfl) (fun n3 => Snd.exec hc _ _ _ _) (fun n x => by kernel_rfl) k)) (Snd.exec hc _ _ _ _))) (Snd.exec hc _ _ _ _)) (Snd.exec hc _ _ _ _))
    (fun x => by kernel_rfl)

def f123in : SS := ⟨[(0, (.ro (.list 105 (.st (.cons .str (.cons (.int .i64) (.cons (.int .i64) (.cons (.int .i64) .nil))))))))], []⟩
def f123out : SS := ⟨[(0, (.h 100))], [(100, (.sl 3 (.int .i64)))]⟩
def f123con (F : (List TCol) → Option (Unit × (List Int))) : Con := ⟨f123in, f123out, 1, 1, fun x => F x⟩
def f123ctx (k : Nat) : Ctx := ⟨tyAt tys, conAt [(95, [f95con (spec_l5Leaves k)]), (121, [f121con (spec_SchemaOk k)])], 9, fun _ => false⟩
theorem f123hc (k : Nat) : CtxOk Tryz.prog (f123ctx k) := ctxOk tys_ok mixed_ok (consOk_cons (f95ok k) (consOk_cons (f121ok k) (consOk_nil)))
theorem f123ok (k : Nat) : FnOk Tryz.prog 123 (f123con (spec_SchemaLeaves k)) :=
  let hc := f123hc k
  fnOk (fn := Tryz.f123) (code := bodyOf Tryz.f123) (res := [.tmp 2]) hc (by kernel_rfl) (by kernel_rfl) (by decide) (by kernel_rfl) (by kernel_rfl) (by kernel_rfl) (Nat.le_of_ble_eq_true (by kernel_rfl)) _
    (fun x => Snd.exec hc _ _ _ _)
    (fun x => by kernel_rfl)

def f166in : SS := ⟨[(0, (.ro (.list 105 (.st (.cons .str (.cons (.int .i64) (.cons (.int .i64) (.cons (.int .i64) .nil)))))))), (1, (.ro (.int .i64)))], []⟩
def f166out : SS := ⟨[(0, (.ro (.int .i64)))], []⟩
def f166s3 : SS := ⟨[(0, (.ro (.list 105 (.st (.cons .str (.cons (.int .i64) (.cons (.int .i64) (.cons (.int .i64) .nil)))))))), (1, (.ro (.int .i64))), (5, (.ro (.int .i64))), (6, (.ro (.int .i64)))], []⟩
def f166con (F : (List TCol) → Int → Option Int) : Con := ⟨f166in, f166out, 2, 1, fun x => F x.1 x.2⟩
def f166ctx (k : Nat) (S166 : (List TCol) → Int → Option Int) : Ctx := ⟨tyAt tys, conAt [(166, [f166con S166])], 22, fun _ => false⟩
theorem f166hc (k : Nat) (S166 : (List TCol) → Int → Option Int) (h166 : FnOk Tryz.prog 166 (f166con S166)) : CtxOk Tryz.prog (f166ctx k S166) := ctxOk tys_ok mixed_ok (consOk_cons (h166) (consOk_nil))
theorem f166okb (k : Nat) (S166 : (List TCol) → Int → Option Int) (h166 : FnOk Tryz.prog 166 (f166con S166)) : FnOk Tryz.prog 166 (f166con (spec_l5After.b k S166)) :=
  let hc := f166hc k S166 h166
  fnOk (fn := Tryz.f166) (code := bodyOf Tryz.f166) (res := [.tmp 4]) hc (by kernel_rfl) (by kernel_rfl) (by decide) (by kernel_rfl) (by kernel_rfl) (by kernel_rfl) (Nat.le_of_ble_eq_true (by kernel_rfl)) _
    (fun x => Snd.seq (by kernel_rfl) (Snd.seq (by kernel_rfl) (Snd.seq (by kernel_rfl) (Snd.exec hc _ _ _ _) (Snd.seq (by kernel_rfl) (Snd.block (id := 0) (by kernel_rfl) (Snd.loop' (by kernel_rfl) f166s3 (fun n x => spec_l5After.l3 k S166 n x.1 x.2.1 x.2.2.1 x.2.2.2) _ (fun _ => rfl) (fun n3 => Snd.exec hc _ _ _ _) (fun n x => by kernel_rfl) k)) (Snd.exec hc _ _ _ _))) (Snd.exec hc _ _ _ _)) (Snd.exec hc _ _ _ _))
    (fun x => by kernel_rfl)
theorem f166rec (k : Nat) : ∀ d, FnOk Tryz.prog 166 (f166con (spec_l5After.d k d))
  | 0 => FnOk_none (fun _ => rfl)
  | d + 1 => let ih := f166rec k d
    f166okb k (spec_l5After.d k d) ih
theorem f166ok (k : Nat) : FnOk Tryz.prog 166 (f166con (spec_l5After k)) := (f166rec k k)

def f151in : SS := ⟨[(0, (.ro (.list 105 (.st (.cons .str (.cons (.int .i64) (.cons (.int .i64) (.cons (.int .i64) .nil)))))))), (1, (.ro (.int .i64)))], []⟩
def f151out : SS := ⟨[(0, (.h 100))], [(100, (.sl 3 (.int .i64)))]⟩
def f151s4 : SS := ⟨[(0, (.ro (.list 105 (.st (.cons .str (.cons (.int .i64) (.cons (.int .i64) (.cons (.int .i64) .nil)))))))), (1, (.ro (.int .i64))), (5, (.h 100)), (6, (.ro (.int .i64)))], [(100, (.sl 3 (.int .i64)))]⟩
def f151s3 : SS := ⟨[(0, (.ro (.list 105 (.st (.cons .str (.cons (.int .i64) (.cons (.int .i64) (.cons (.int .i64) .nil)))))))), (1, (.ro (.int .i64))), (5, (.h 100)), (6, (.ro (.int .i64)))], [(100, (.sl 3 (.int .i64)))]⟩
def f151con (F : (List TCol) → Int → Option (Unit × (List Int))) : Con := ⟨f151in, f151out, 2, 1, fun x => F x.1 x.2⟩
def f151ctx (k : Nat) : Ctx := ⟨tyAt tys, conAt [(166, [f166con (spec_l5After k)])], 23, fun _ => false⟩
theorem f151hc (k : Nat) : CtxOk Tryz.prog (f151ctx k) := ctxOk tys_ok mixed_ok (consOk_cons (f166ok k) (consOk_nil))
theorem f151ok (k : Nat) : FnOk Tryz.prog 151 (f151con (spec_l5Way k)) :=
  let hc := f151hc k
  fnOk (fn := Tryz.f151) (code := bodyOf Tryz.f151) (res := [.tmp 4]) hc (by kernel_rfl) (by kernel_rfl) (by decide) (by kernel_rfl) (by kernel_rfl) (by kernel_rfl) (Nat.le_of_ble_eq_true (by kernel_rfl)) _
    (fun x => Snd.seq (by kernel_rfl) (Snd.seq (by kernel_rfl) (Snd.seq (by kernel_rfl) (Snd.exec hc _ _ _ _) (Snd.seq (by kernel_rfl) (Snd.block (id := 0) (by kernel_rfl) (Snd.loop' (by kernel_rfl) f151s3 (fun n x => spec_l5Way.l3 k n x.1.1 x.1.2.1 x.1.2.2.2 x.2) _ (fun _ => rfl) (fun n3 => Snd.seq (by kernel_rfl) (Snd.seq (by kernel_rfl) (Snd.cut (Snd.exec hc _ _ _ _) ⟨f151s4, fun x => spec_l5Way.c4 k (spec_l5Way.l3 k n3) x.1.1 x.1.2.1 x.1.2.2.2 x.2⟩ (fun x => by kernel_rfl)) (Snd.exec hc _ _ _ _)) (Snd.exec hc _ _ _ _)) (fun n x => by kernel_rfl) k)) (Snd.exec hc _ _ _ _))) (Snd.exec hc _ _ _ _)) (Snd.exec hc _ _ _ _))
    (fun x => by kernel_rfl)

def f122in : SS := ⟨[(0, (.ro (.list 105 (.st (.cons .str (.cons (.int .i64) (.cons (.int .i64) (.cons (.int .i64) .nil)))))))), (1, (.ro (.int .i64)))], []⟩
def f122out : SS := ⟨[(0, (.h 100))], [(100, (.sl 9 .str))]⟩
def f122s7 : SS := ⟨[(0, (.ro (.list 105 (.st (.cons .str (.cons (.int .i64) (.cons (.int .i64) (.cons (.int .i64) .nil)))))))), (5, (.h 100)), (7, (.h 101)), (8, (.ro (.int .i64)))], [(100, (.sl 9 .str)), (101, (.sl 3 (.int .i64)))]⟩
def f122con (F : (List TCol) → Int → Option (Unit × (List ByteArray))) : Con := ⟨f122in, f122out, 2, 1, fun x => F x.1 x.2⟩
def f122ctx (k : Nat) : Ctx := ⟨tyAt tys, conAt [(36, [f36con (spec_l1In k)]), (123, [f123con (spec_SchemaLeaves k)]), (151, [f151con (spec_l5Way k)])], 43, fun _ => false⟩
theorem f122hc (k : Nat) : CtxOk Tryz.prog (f122ctx k) := ctxOk tys_ok mixed_ok (consOk_cons (f36ok k) (consOk_cons (f123ok k) (consOk_cons (f151ok k) (consOk_nil))))
theorem f122ok (k : Nat) : FnOk Tryz.prog 122 (f122con (spec_LeafPath k)) :=
  let hc := f122hc k
  fnOk (fn := Tryz.f122) (code := bodyOf Tryz.f122) (res := [.tmp 4]) hc (by kernel_rfl) (by kernel_rfl) (by decide) (by kernel_rfl) (by kernel_rfl) (by kernel_rfl) (Nat.le_of_ble_eq_true (by kernel_rfl)) _
    (fun x => Snd.seq (by kernel_rfl) (Snd.seq (by kernel_rfl) (Snd.seq (by kernel_rfl) (Snd.seq (by kernel_rfl) (Snd.seq (by kernel_rfl) (Snd.seq (by kernel_rfl) (Snd.exec hc _ _ _ _) (Snd.seq (by kernel_rfl) (Snd.block (id := 0) (by kernel_rfl) (Snd.loop' (by kernel_rfl) f122s7 (fun n x => spec_LeafPath.l7 k n x.1.1 x.1.2.2.2 x.2.1 x.2.2) _ (fun _ => rfl) (fun n7 => Snd.exec hc _ _ _ _) (fun n x => by kernel_rfl) k)) (Snd.exec hc _ _ _ _))) (Snd.exec hc _ _ _ _)) (Snd.exec hc _ _ _ _)) (Snd.exec hc _ _ _ _)) (Snd.exec hc _ _ _ _)) (Snd.exec hc _ _ _ _))
    (fun x => by kernel_rfl)

def f96in : SS := ⟨[(0, (.ro (.list 91 (.st (.cons (.int .i64) (.cons (.int .i64) (.cons (.int .i64) (.cons .str (.cons (.int .i64) .nil))))))))), (1, (.ro (.int .i64))), (2, (.ro (.list 105 (.st (.cons .str (.cons (.int .i64) (.cons (.int .i64) (.cons (.int .i64) .nil)))))))), (3, (.ro (.int .i64)))], []⟩
def f96out : SS := ⟨[(0, (.agg (.cons (.ro (.int .i64)) (.cons (.ro (.int .i64)) (.cons (.ro (.int .i64)) (.cons (.ro (.int .i64)) (.cons (.ro (.int .i64)) (.cons (.h 100) .nil)))))))), (1, (.ro .bool))], [(100, (.sl 3 (.int .i64)))]⟩
def f96s26 : SS := ⟨[(8, (.p 100)), (20, (.p 101))], [(100, (.box (.st (.cons (.int .i64) (.cons (.int .i64) (.cons (.int .i64) (.cons (.int .i64) (.cons (.int .i64) (.cons (.list 3 (.int .i64)) .nil))))))) (.agg (.cons (.ro (.int .i64)) (.cons (.ro (.int .i64)) (.cons (.ro (.int .i64)) (.cons (.ro (.int .i64)) (.cons (.ro (.int .i64)) (.cons (.h 102) .nil))))))))), (101, (.box (.st (.cons (.int .i64) (.cons (.int .i64) (.cons (.int .i64) (.cons (.int .i64) (.cons (.int .i64) (.cons (.list 3 (.int .i64)) .nil))))))) (.agg (.cons (.ro (.int .i64)) (.cons (.ro (.int .i64)) (.cons (.ro (.int .i64)) (.cons (.ro (.int .i64)) (.cons (.ro (.int .i64)) (.cons (.h 103) .nil))))))))), (102, (.sl 3 (.int .i64))), (103, (.sl 3 (.int .i64)))]⟩
def f96s18 : SS := ⟨[(0, (.ro (.list 91 (.st (.cons (.int .i64) (.cons (.int .i64) (.cons (.int .i64) (.cons .str (.cons (.int .i64) .nil))))))))), (8, (.p 100)), (10, (.p 101)), (11, (.ro (.int .i64))), (14, (.h 102)), (20, (.p 103)), (21, (.ro (.int .i64)))], [(100, (.box (.st (.cons (.int .i64) (.cons (.int .i64) (.cons (.int .i64) (.cons (.int .i64) (.cons (.int .i64) (.cons (.list 3 (.int .i64)) .nil))))))) (.agg (.cons (.ro (.int .i64)) (.cons (.ro (.int .i64)) (.cons (.ro (.int .i64)) (.cons (.ro (.int .i64)) (.cons (.ro (.int .i64)) (.cons (.h 104) .nil))))))))), (101, (.box (.st (.cons (.int .i64) (.cons (.int .i64) (.cons (.int .i64) (.cons (.int .i64) (.cons (.int .i64) (.cons (.list 3 (.int .i64)) .nil))))))) (.agg (.cons (.ro (.int .i64)) (.cons (.ro (.int .i64)) (.cons (.ro (.int .i64)) (.cons (.ro (.int .i64)) (.cons (.ro (.int .i64)) (.cons (.h 105) .nil))))))))), (102, (.sl 3 (.int .i64))), (103, (.box (.st (.cons (.int .i64) (.cons (.int .i64) (.cons (.int .i64) (.cons (.int .i64) (.cons (.int .i64) (.cons (.list 3 (.int .i64)) .nil))))))) (.agg (.cons (.ro (.int .i64)) (.cons (.ro (.int .i64)) (.cons (.ro (.int .i64)) (.cons (.ro (.int .i64)) (.cons (.ro (.int .i64)) (.cons (.h 106) .nil))))))))), (104, (.sl 3 (.int .i64))), (105, (.sl 3 (.int .i64))), (106, (.sl 3 (.int .i64)))]⟩
def f96s12 : SS := ⟨[(0, (.ro (.list 91 (.st (.cons (.int .i64) (.cons (.int .i64) (.cons (.int .i64) (.cons .str (.cons (.int .i64) .nil))))))))), (3, (.ro (.int .i64))), (8, (.p 100)), (10, (.p 101)), (11, (.ro (.int .i64))), (12, (.h 102)), (14, (.h 103)), (16, (.h 104)), (18, (.h 105)), (19, (.ro (.int .i64)))], [(100, (.box (.st (.cons (.int .i64) (.cons (.int .i64) (.cons (.int .i64) (.cons (.int .i64) (.cons (.int .i64) (.cons (.list 3 (.int .i64)) .nil))))))) (.agg (.cons (.ro (.int .i64)) (.cons (.ro (.int .i64)) (.cons (.ro (.int .i64)) (.cons (.ro (.int .i64)) (.cons (.ro (.int .i64)) (.cons (.h 106) .nil))))))))), (101, (.box (.st (.cons (.int .i64) (.cons (.int .i64) (.cons (.int .i64) (.cons (.int .i64) (.cons (.int .i64) (.cons (.list 3 (.int .i64)) .nil))))))) (.agg (.cons (.ro (.int .i64)) (.cons (.ro (.int .i64)) (.cons (.ro (.int .i64)) (.cons (.ro (.int .i64)) (.cons (.ro (.int .i64)) (.cons (.h 107) .nil))))))))), (102, (.sl 3 (.int .i64))), (103, (.sl 3 (.int .i64))), (104, (.sl 3 (.int .i64))), (105, (.sl 9 .str)), (106, (.sl 3 (.int .i64))), (107, (.sl 3 (.int .i64)))]⟩
def f96d9 : SS := ⟨[(0, (.ro (.list 91 (.st (.cons (.int .i64) (.cons (.int .i64) (.cons (.int .i64) (.cons .str (.cons (.int .i64) .nil))))))))), (2, (.ro (.list 105 (.st (.cons .str (.cons (.int .i64) (.cons (.int .i64) (.cons (.int .i64) .nil)))))))), (3, (.ro (.int .i64))), (8, (.p 100)), (10, (.p 101)), (11, (.ro (.int .i64))), (12, (.h 102)), (13, (.ro .bool)), (14, (.h 103)), (15, (.ro .bool)), (16, (.h 104)), (17, (.ro .bool)), (18, (.h 105))], [(100, (.box (.st (.cons (.int .i64) (.cons (.int .i64) (.cons (.int .i64) (.cons (.int .i64) (.cons (.int .i64) (.cons (.list 3 (.int .i64)) .nil))))))) (.agg (.cons (.ro (.int .i64)) (.cons (.ro (.int .i64)) (.cons (.ro (.int .i64)) (.cons (.ro (.int .i64)) (.cons (.ro (.int .i64)) (.cons (.h 106) .nil))))))))), (101, (.box (.st (.cons (.int .i64) (.cons (.int .i64) (.cons (.int .i64) (.cons (.int .i64) (.cons (.int .i64) (.cons (.list 3 (.int .i64)) .nil))))))) (.agg (.cons (.ro (.int .i64)) (.cons (.ro (.int .i64)) (.cons (.ro (.int .i64)) (.cons (.ro (.int .i64)) (.cons (.ro (.int .i64)) (.cons (.h 107) .nil))))))))), (102, (.sl 3 (.int .i64))), (103, (.sl 3 (.int .i64))), (104, (.sl 3 (.int .i64))), (105, (.sl 9 .str)), (106, (.sl 3 (.int .i64))), (107, (.sl 3 (.int .i64)))]⟩
def f96con (F : (List TNode) → Int → (List TCol) → Int → Option (((Int × Int × Int × Int × Int × Unit × Unit) × Bool) × (List Int))) : Con := ⟨f96in, f96out, 4, 2, fun x => F x.1 x.2.1 x.2.2.1 x.2.2.2⟩
def f96ctx (k : Nat) : Ctx := ⟨tyAt tys, conAt [(53, [f53con (spec_l16Ids k)]), (54, [f54con (spec_l4Find k)]), (80, [f80con (spec_l4NumOf k)]), (94, [f94con (spec_l18List k)]), (95, [f95con (spec_l5Leaves k)]), (122, [f122con (spec_LeafPath k)])], 179, fun _ => false⟩
theorem f96hc (k : Nat) : CtxOk Tryz.prog (f96ctx k) := ctxOk tys_ok mixed_ok (consOk_cons (f53ok k) (consOk_cons (f54ok k) (consOk_cons (f80ok k) (consOk_cons (f94ok k) (consOk_cons (f95ok k) (consOk_cons (f122ok k) (consOk_nil)))))))
theorem f96ok (k : Nat) : FnOk Tryz.prog 96 (f96con (spec_l18From k)) :=
  let hc := f96hc k
  fnOk (fn := Tryz.f96) (code := bodyOf Tryz.f96) (res := [.cell 8 51, .tmp 9]) hc (by kernel_rfl) (by kernel_rfl) (by decide) (by kernel_rfl) (by kernel_rfl) (by kernel_rfl) (Nat.le_of_ble_eq_true (by kernel_rfl)) _
    (fun x => Snd.seq (by kernel_rfl) (Snd.seq (by kernel_rfl) (Snd.seq (by kernel_rfl) (Snd.seq (by kernel_rfl) (Snd.seq (by kernel_rfl) (Snd.seq (by kernel_rfl) (Snd.seq (by kernel_rfl) (Snd.seq (by kernel_rfl) (Snd.seq (by kernel_rfl) (Snd.seq (by kernel_rfl) (Snd.seq (by kernel_rfl) (Snd.seq (by kernel_rfl) (Snd.seq (by kernel_rfl) (Snd.cut (Snd.exec hc _ _ _ _) ⟨f96s26, fun x => spec_l18From.c26 k x.2.1 x.2.2.1 x.2.2.2.1 x.2.2.2.2⟩ (fun x => by kernel_rfl)) (Snd.exec hc _ _ _ _)) (Snd.seq (by kernel_rfl) (Snd.block (id := 2) (by kernel_rfl) (Snd.loop' (by kernel_rfl) f96s18 (fun n x => spec_l18From.l18 k n x.1.1 x.1.2.2.2.1 x.1.2.2.2.2.2.2 x.2.1 x.2.2.1 x.2.2.2.1 x.2.2.2.2.1 x.2.2.2.2.2.1 x.2.2.2.2.2.2.1 x.2.2.2.2.2.2.2) _ (fun _ => rfl) (fun n18 => Snd.exec hc _ _ _ _) (fun n x => by kernel_rfl) k)) (Snd.exec hc _ _ _ _))) (Snd.exec hc _ _ _ _)) (Snd.seq (by kernel_rfl) (Snd.block (id := 0) (by kernel_rfl) (Snd.loop' (by kernel_rfl) f96s12 (fun n x => spec_l18From.l12 k n x.1.1 x.1.2.1 x.1.2.2.2.2.1 x.1.2.2.2.2.2.2.2.2.2 x.2.1 x.2.2.1 x.2.2.2.1 x.2.2.2.2.1 x.2.2.2.2.2.1 x.2.2.2.2.2.2.1 x.2.2.2.2.2.2.2.1 x.2.2.2.2.2.2.2.2) _ (fun _ => rfl) (fun n12 => Snd.exec hc _ _ _ _) (fun n x => by kernel_rfl) k)) (Snd.exec hc _ _ _ _))) (Snd.seq (by kernel_rfl) (Snd.exec hc _ _ _ _) (Snd.fork hc (id := 9) (by kernel_rfl) ⟨f96d9, fun x => spec_l18From.d9 k x.1.1 x.1.2.1 x.1.2.2.1 x.1.2.2.2.2.2.1 x.1.2.2.2.2.2.2.2.1 x.1.2.2.2.2.2.2.2.2.2.1 x.1.2.2.2.2.2.2.2.2.2.2.2.1 x.2.1 x.2.2.1 x.2.2.2.1 x.2.2.2.2.1 x.2.2.2.2.2.1 x.2.2.2.2.2.2.1 x.2.2.2.2.2.2.2.1 x.2.2.2.2.2.2.2.2⟩ [[0, 1, 2, 3, 4, 5, 6, 7, 8, 9, 10, 11, 12, 13, 14, 15, 16, 17, 18, 19, 21, 22, 24, 20, 23, 25, 26, 27, 28, 29, 30, 31, 32, 33, 34, 35, 36, 37, 38, 39, 40, 41, 42, 43, 44, 45, 46], [0, 1, 2, 3, 4, 5, 6, 7, 8, 9, 10, 11, 12, 13, 14, 15, 16, 17, 18, 19, 21, 22, 24, 23, 20, 25, 26, 27, 28, 29, 30, 31, 32, 33, 34, 35, 36, 37, 38, 39, 40, 41, 42, 43, 44, 45, 46]] (by kernel_rfl) (ords_cons (fun x => by kernel_rfl) (ords_cons (fun x => by kernel_rfl) (ords_nil)))))) (Snd.exec hc _ _ _ _)) (Snd.exec hc _ _ _ _)) (Snd.exec hc _ _ _ _)) (Snd.exec hc _ _ _ _)) (Snd.exec hc _ _ _ _)) (Snd.exec hc _ _ _ _)) (Snd.exec hc _ _ _ _)) (Snd.exec hc _ _ _ _))
    (fun x => by kernel_rfl)

def f124in : SS := ⟨[(0, (.ro (.st (.cons (.int .i64) (.cons (.int .i64) (.cons (.int .i64) (.cons (.int .i64) (.cons (.int .i64) (.cons (.list 3 (.int .i64)) .nil))))))))), (1, (.ro (.int .i64)))], []⟩
def f124out : SS := ⟨[(0, (.ro .bool))], []⟩
def f124d6 : SS := ⟨[(2, (.p 100)), (5, (.ro (.int .i64)))], [(100, (.box (.st (.cons (.int .i64) (.cons (.int .i64) (.cons (.int .i64) (.cons (.int .i64) (.cons (.int .i64) (.cons (.list 3 (.int .i64)) .nil))))))) (.agg (.cons (.ro (.int .i64)) (.cons (.ro (.int .i64)) (.cons (.ro (.int .i64)) (.cons (.ro (.int .i64)) (.cons (.ro (.int .i64)) (.cons (.ro (.list 3 (.int .i64))) .nil)))))))))]⟩
def f124s4 : SS := ⟨[(2, (.p 100)), (5, (.ro (.int .i64)))], [(100, (.box (.st (.cons (.int .i64) (.cons (.int .i64) (.cons (.int .i64) (.cons (.int .i64) (.cons (.int .i64) (.cons (.list 3 (.int .i64)) .nil))))))) (.agg (.cons (.ro (.int .i64)) (.cons (.ro (.int .i64)) (.cons (.ro (.int .i64)) (.cons (.ro (.int .i64)) (.cons (.ro (.int .i64)) (.cons (.ro (.list 3 (.int .i64))) .nil)))))))))]⟩
def f124con (F : TChunk → Int → Option Bool) : Con := ⟨f124in, f124out, 2, 1, fun x => F x.1 x.2⟩
def f124ctx (k : Nat) : Ctx := ⟨tyAt tys, conAt [(36, [f36con (spec_l1In k)])], 73, fun _ => false⟩
theorem f124hc (k : Nat) : CtxOk Tryz.prog (f124ctx k) := ctxOk tys_ok mixed_ok (consOk_cons (f36ok k) (consOk_nil))
theorem f124ok (k : Nat) : FnOk Tryz.prog 124 (f124con (spec_l18Chunk k)) :=
  let hc := f124hc k
  fnOk (fn := Tryz.f124) (code := bodyOf Tryz.f124) (res := [.tmp 4]) hc (by kernel_rfl) (by kernel_rfl) (by decide) (by kernel_rfl) (by kernel_rfl) (by kernel_rfl) (Nat.le_of_ble_eq_true (by kernel_rfl)) _
    (fun x => Snd.seq (by kernel_rfl) (Snd.seq (by kernel_rfl) (Snd.seq (by kernel_rfl) (Snd.exec hc _ _ _ _) (Snd.seq (by kernel_rfl) (Snd.block (id := 0) (by kernel_rfl) (Snd.loop' (by kernel_rfl) f124s4 (fun n x => spec_l18Chunk.l4 k n x.1.2 x.2) _ (fun _ => rfl) (fun n4 => Snd.seq (by kernel_rfl) (Snd.seq (by kernel_rfl) (Snd.exec hc _ _ _ _) (Snd.block (id := 1) (by kernel_rfl) (Snd.seq (by kernel_rfl) (Snd.exec hc _ _ _ _) (Snd.fork hc (id := 6) (by kernel_rfl) ⟨f124d6, fun x => spec_l18Chunk.d6 k (spec_l18Chunk.l4 k n4) x.1.2 x.2⟩ [[0, 2, 1, 3, 4, 5, 6, 7, 8, 9, 10, 11, 12, 13, 14, 15, 16, 17, 18, 19, 20, 21, 22, 23, 24]] (by kernel_rfl) (ords_cons (fun x => by kernel_rfl) (ords_nil)))))) (Snd.exec hc _ _ _ _)) (fun n x => by kernel_rfl) k)) (Snd.exec hc _ _ _ _))) (Snd.exec hc _ _ _ _)) (Snd.exec hc _ _ _ _))
    (fun x => by kernel_rfl)

def f97in : SS := ⟨[(0, (.ro (.st (.cons (.list 105 (.st (.cons .str (.cons (.int .i64) (.cons (.int .i64) (.cons (.int .i64) .nil)))))) (.cons (.int .i64) (.cons (.list 109 (.st (.cons (.int .i64) (.cons (.list 51 (.st (.cons (.int .i64) (.cons (.int .i64) (.cons (.int .i64) (.cons (.int .i64) (.cons (.int .i64) (.cons (.list 3 (.int .i64)) .nil)))))))) .nil)))) .nil))))))], []⟩
def f97out : SS := ⟨[(0, (.ro .bool))], []⟩
def f97s13 : SS := ⟨[(1, (.p 100)), (3, (.h 101)), (4, (.ro (.int .i64))), (5, (.ro (.int .i64))), (6, (.p 102)), (7, (.ro (.int .i64)))], [(100, (.box (.st (.cons (.list 105 (.st (.cons .str (.cons (.int .i64) (.cons (.int .i64) (.cons (.int .i64) .nil)))))) (.cons (.int .i64) (.cons (.list 109 (.st (.cons (.int .i64) (.cons (.list 51 (.st (.cons (.int .i64) (.cons (.int .i64) (.cons (.int .i64) (.cons (.int .i64) (.cons (.int .i64) (.cons (.list 3 (.int .i64)) .nil)))))))) .nil)))) .nil)))) (.agg (.cons (.ro (.list 105 (.st (.cons .str (.cons (.int .i64) (.cons (.int .i64) (.cons (.int .i64) .nil))))))) (.cons (.ro (.int .i64)) (.cons (.ro (.list 109 (.st (.cons (.int .i64) (.cons (.list 51 (.st (.cons (.int .i64) (.cons (.int .i64) (.cons (.int .i64) (.cons (.int .i64) (.cons (.int .i64) (.cons (.list 3 (.int .i64)) .nil)))))))) .nil))))) .nil)))))), (101, (.sl 3 (.int .i64))), (102, (.box (.st (.cons (.int .i64) (.cons (.list 51 (.st (.cons (.int .i64) (.cons (.int .i64) (.cons (.int .i64) (.cons (.int .i64) (.cons (.int .i64) (.cons (.list 3 (.int .i64)) .nil)))))))) .nil))) (.agg (.cons (.ro (.int .i64)) (.cons (.ro (.list 51 (.st (.cons (.int .i64) (.cons (.int .i64) (.cons (.int .i64) (.cons (.int .i64) (.cons (.int .i64) (.cons (.list 3 (.int .i64)) .nil))))))))) .nil)))))]⟩
def f97s6 : SS := ⟨[(1, (.p 100)), (3, (.h 101)), (4, (.ro (.int .i64))), (5, (.ro (.int .i64)))], [(100, (.box (.st (.cons (.list 105 (.st (.cons .str (.cons (.int .i64) (.cons (.int .i64) (.cons (.int .i64) .nil)))))) (.cons (.int .i64) (.cons (.list 109 (.st (.cons (.int .i64) (.cons (.list 51 (.st (.cons (.int .i64) (.cons (.int .i64) (.cons (.int .i64) (.cons (.int .i64) (.cons (.int .i64) (.cons (.list 3 (.int .i64)) .nil)))))))) .nil)))) .nil)))) (.agg (.cons (.ro (.list 105 (.st (.cons .str (.cons (.int .i64) (.cons (.int .i64) (.cons (.int .i64) .nil))))))) (.cons (.ro (.int .i64)) (.cons (.ro (.list 109 (.st (.cons (.int .i64) (.cons (.list 51 (.st (.cons (.int .i64) (.cons (.int .i64) (.cons (.int .i64) (.cons (.int .i64) (.cons (.int .i64) (.cons (.list 3 (.int .i64)) .nil)))))))) .nil))))) .nil)))))), (101, (.sl 3 (.int .i64)))]⟩
def f97con (F : TMeta → Option Bool) : Con := ⟨f97in, f97out, 1, 1, fun x => F x⟩
def f97ctx (k : Nat) : Ctx := ⟨tyAt tys, conAt [(36, [f36con (spec_l1In k)]), (121, [f121con (spec_SchemaOk k)]), (123, [f123con (spec_SchemaLeaves k)]), (124, [f124con (spec_l18Chunk k)])], 74, fun _ => false⟩
theorem f97hc (k : Nat) : CtxOk Tryz.prog (f97ctx k) := ctxOk tys_ok mixed_ok (consOk_cons (f36ok k) (consOk_cons (f121ok k) (consOk_cons (f123ok k) (consOk_cons (f124ok k) (consOk_nil)))))
theorem f97ok (k : Nat) : FnOk Tryz.prog 97 (f97con (spec_MetaOk k)) :=
  let hc := f97hc k
  fnOk (fn := Tryz.f97) (code := bodyOf Tryz.f97) (res := [.tmp 2]) hc (by kernel_rfl) (by kernel_rfl) (by decide) (by kernel_rfl) (by kernel_rfl) (by kernel_rfl) (Nat.le_of_ble_eq_true (by kernel_rfl)) _
    (fun x => Snd.seq (by kernel_rfl) (Snd.seq (by kernel_rfl) (Snd.seq (by kernel_rfl) (Snd.seq (by kernel_rfl) (Snd.seq (by kernel_rfl) (Snd.exec hc _ _ _ _) (Snd.seq (by kernel_rfl) (Snd.block (id := 0) (by kernel_rfl) (Snd.loop' (by kernel_rfl) f97s6 (fun n x => spec_MetaOk.l6 k n x.1.2.2.1 x.1.2.2.2 x.2.1 x.2.2) _ (fun _ => rfl) (fun n6 => Snd.seq (by kernel_rfl) (Snd.seq (by kernel_rfl) (Snd.exec hc _ _ _ _) (Snd.block (id := 1) (by kernel_rfl) (Snd.seq (by kernel_rfl) (Snd.seq (by kernel_rfl) (Snd.seq (by kernel_rfl) (Snd.seq (by kernel_rfl) (Snd.block (id := 2) (by kernel_rfl) (Snd.loop' (by kernel_rfl) f97s13 (fun n x => spec_MetaOk.l13 k (spec_MetaOk.l6 k n6) n x.1.2.2.1 x.1.2.2.2.1 x.1.2.2.2.2.2 x.2.1 x.2.2.1 x.2.2.2) _ (fun _ => rfl) (fun n13 => Snd.exec hc _ _ _ _) (fun n x => by kernel_rfl) k)) (Snd.exec hc _ _ _ _)) (Snd.exec hc _ _ _ _)) (Snd.exec hc _ _ _ _)) (Snd.exec hc _ _ _ _)))) (Snd.exec hc _ _ _ _)) (fun n x => by kernel_rfl) k)) (Snd.exec hc _ _ _ _))) (Snd.exec hc _ _ _ _)) (Snd.exec hc _ _ _ _)) (Snd.exec hc _ _ _ _)) (Snd.exec hc _ _ _ _))
    (fun x => by kernel_rfl)

def f65in : SS := ⟨[(0, (.ro (.list 91 (.st (.cons (.int .i64) (.cons (.int .i64) (.cons (.int .i64) (.cons .str (.cons (.int .i64) .nil)))))))))], []⟩
def f65out : SS := ⟨[(0, (.agg (.cons (.h 100) (.cons (.ro (.int .i64)) (.cons (.h 101) .nil))))), (1, (.ro .bool))], [(100, (.sl 105 (.st (.cons .str (.cons (.int .i64) (.cons (.int .i64) (.cons (.int .i64) .nil))))))), (101, (.sl 109 (.st (.cons (.int .i64) (.cons (.list 51 (.st (.cons (.int .i64) (.cons (.int .i64) (.cons (.int .i64) (.cons (.int .i64) (.cons (.int .i64) (.cons (.list 3 (.int .i64)) .nil)))))))) .nil)))))]⟩
def f65s19 : SS := ⟨[(0, (.ro (.list 91 (.st (.cons (.int .i64) (.cons (.int .i64) (.cons (.int .i64) (.cons .str (.cons (.int .i64) .nil))))))))), (2, (.p 100)), (4, (.p 101)), (5, (.h 102)), (9, (.h 103)), (11, (.p 104)), (12, (.ro (.int .i64))), (15, (.h 105)), (17, (.p 106)), (18, (.ro (.int .i64)))], [(100, (.box (.st (.cons (.list 105 (.st (.cons .str (.cons (.int .i64) (.cons (.int .i64) (.cons (.int .i64) .nil)))))) (.cons (.int .i64) (.cons (.list 109 (.st (.cons (.int .i64) (.cons (.list 51 (.st (.cons (.int .i64) (.cons (.int .i64) (.cons (.int .i64) (.cons (.int .i64) (.cons (.int .i64) (.cons (.list 3 (.int .i64)) .nil)))))))) .nil)))) .nil)))) (.agg (.cons (.h 107) (.cons (.ro (.int .i64)) (.cons (.h 108) .nil)))))), (101, (.box (.st (.cons (.list 105 (.st (.cons .str (.cons (.int .i64) (.cons (.int .i64) (.cons (.int .i64) .nil)))))) (.cons (.int .i64) (.cons (.list 109 (.st (.cons (.int .i64) (.cons (.list 51 (.st (.cons (.int .i64) (.cons (.int .i64) (.cons (.int .i64) (.cons (.int .i64) (.cons (.int .i64) (.cons (.list 3 (.int .i64)) .nil)))))))) .nil)))) .nil)))) (.agg (.cons (.h 109) (.cons (.ro (.int .i64)) (.cons (.h 110) .nil)))))), (102, (.sl 105 (.st (.cons .str (.cons (.int .i64) (.cons (.int .i64) (.cons (.int .i64) .nil))))))), (103, (.sl 3 (.int .i64))), (104, (.box (.st (.cons (.list 105 (.st (.cons .str (.cons (.int .i64) (.cons (.int .i64) (.cons (.int .i64) .nil)))))) (.cons (.int .i64) (.cons (.list 109 (.st (.cons (.int .i64) (.cons (.list 51 (.st (.cons (.int .i64) (.cons (.int .i64) (.cons (.int .i64) (.cons (.int .i64) (.cons (.int .i64) (.cons (.list 3 (.int .i64)) .nil)))))))) .nil)))) .nil)))) (.agg (.cons (.h 102) (.cons (.ro (.int .i64)) (.cons (.h 111) .nil)))))), (105, (.sl 3 (.int .i64))), (106, (.box (.st (.cons (.int .i64) (.cons (.list 51 (.st (.cons (.int .i64) (.cons (.int .i64) (.cons (.int .i64) (.cons (.int .i64) (.cons (.int .i64) (.cons (.list 3 (.int .i64)) .nil)))))))) .nil))) (.agg (.cons (.ro (.int .i64)) (.cons (.h 112) .nil))))), (107, (.sl 105 (.st (.cons .str (.cons (.int .i64) (.cons (.int .i64) (.cons (.int .i64) .nil))))))), (108, (.sl 109 (.st (.cons (.int .i64) (.cons (.list 51 (.st (.cons (.int .i64) (.cons (.int .i64) (.cons (.int .i64) (.cons (.int .i64) (.cons (.int .i64) (.cons (.list 3 (.int .i64)) .nil)))))))) .nil))))), (109, (.sl 105 (.st (.cons .str (.cons (.int .i64) (.cons (.int .i64) (.cons (.int .i64) .nil))))))), (110, (.sl 109 (.st (.cons (.int .i64) (.cons (.list 51 (.st (.cons (.int .i64) (.cons (.int .i64) (.cons (.int .i64) (.cons (.int .i64) (.cons (.int .i64) (.cons (.list 3 (.int .i64)) .nil)))))))) .nil))))), (111, (.sl 109 (.st (.cons (.int .i64) (.cons (.list 51 (.st (.cons (.int .i64) (.cons (.int .i64) (.cons (.int .i64) (.cons (.int .i64) (.cons (.int .i64) (.cons (.list 3 (.int .i64)) .nil)))))))) .nil))))), (112, (.sl 51 (.st (.cons (.int .i64) (.cons (.int .i64) (.cons (.int .i64) (.cons (.int .i64) (.cons (.int .i64) (.cons (.list 3 (.int .i64)) .nil)))))))))]⟩
def f65s11 : SS := ⟨[(0, (.ro (.list 91 (.st (.cons (.int .i64) (.cons (.int .i64) (.cons (.int .i64) (.cons .str (.cons (.int .i64) .nil))))))))), (2, (.p 100)), (4, (.p 101)), (5, (.h 102)), (9, (.h 103)), (11, (.p 104)), (12, (.ro (.int .i64)))], [(100, (.box (.st (.cons (.list 105 (.st (.cons .str (.cons (.int .i64) (.cons (.int .i64) (.cons (.int .i64) .nil)))))) (.cons (.int .i64) (.cons (.list 109 (.st (.cons (.int .i64) (.cons (.list 51 (.st (.cons (.int .i64) (.cons (.int .i64) (.cons (.int .i64) (.cons (.int .i64) (.cons (.int .i64) (.cons (.list 3 (.int .i64)) .nil)))))))) .nil)))) .nil)))) (.agg (.cons (.h 105) (.cons (.ro (.int .i64)) (.cons (.h 106) .nil)))))), (101, (.box (.st (.cons (.list 105 (.st (.cons .str (.cons (.int .i64) (.cons (.int .i64) (.cons (.int .i64) .nil)))))) (.cons (.int .i64) (.cons (.list 109 (.st (.cons (.int .i64) (.cons (.list 51 (.st (.cons (.int .i64) (.cons (.int .i64) (.cons (.int .i64) (.cons (.int .i64) (.cons (.int .i64) (.cons (.list 3 (.int .i64)) .nil)))))))) .nil)))) .nil)))) (.agg (.cons (.h 107) (.cons (.ro (.int .i64)) (.cons (.h 108) .nil)))))), (102, (.sl 105 (.st (.cons .str (.cons (.int .i64) (.cons (.int .i64) (.cons (.int .i64) .nil))))))), (103, (.sl 3 (.int .i64))), (104, (.box (.st (.cons (.list 105 (.st (.cons .str (.cons (.int .i64) (.cons (.int .i64) (.cons (.int .i64) .nil)))))) (.cons (.int .i64) (.cons (.list 109 (.st (.cons (.int .i64) (.cons (.list 51 (.st (.cons (.int .i64) (.cons (.int .i64) (.cons (.int .i64) (.cons (.int .i64) (.cons (.int .i64) (.cons (.list 3 (.int .i64)) .nil)))))))) .nil)))) .nil)))) (.agg (.cons (.h 102) (.cons (.ro (.int .i64)) (.cons (.h 109) .nil)))))), (105, (.sl 105 (.st (.cons .str (.cons (.int .i64) (.cons (.int .i64) (.cons (.int .i64) .nil))))))), (106, (.sl 109 (.st (.cons (.int .i64) (.cons (.list 51 (.st (.cons (.int .i64) (.cons (.int .i64) (.cons (.int .i64) (.cons (.int .i64) (.cons (.int .i64) (.cons (.list 3 (.int .i64)) .nil)))))))) .nil))))), (107, (.sl 105 (.st (.cons .str (.cons (.int .i64) (.cons (.int .i64) (.cons (.int .i64) .nil))))))), (108, (.sl 109 (.st (.cons (.int .i64) (.cons (.list 51 (.st (.cons (.int .i64) (.cons (.int .i64) (.cons (.int .i64) (.cons (.int .i64) (.cons (.int .i64) (.cons (.list 3 (.int .i64)) .nil)))))))) .nil))))), (109, (.sl 109 (.st (.cons (.int .i64) (.cons (.list 51 (.st (.cons (.int .i64) (.cons (.int .i64) (.cons (.int .i64) (.cons (.int .i64) (.cons (.int .i64) (.cons (.list 3 (.int .i64)) .nil)))))))) .nil)))))]⟩
def f65con (F : (List TNode) → Option (((Unit × Int × Unit × Unit) × Bool) × (List TCol) × (List TGroupMeta))) : Con := ⟨f65in, f65out, 1, 2, fun x => F x⟩
def f65ctx (k : Nat) : Ctx := ⟨tyAt tys, conAt [(80, [f80con (spec_l4NumOf k)]), (92, [f92con (spec_TreeOk k)]), (93, [f93con (spec_l5Of k)]), (94, [f94con (spec_l18List k)]), (95, [f95con (spec_l5Leaves k)]), (96, [f96con (spec_l18From k)]), (97, [f97con (spec_MetaOk k)])], 133, fun _ => false⟩
theorem f65hc (k : Nat) : CtxOk Tryz.prog (f65ctx k) := ctxOk tys_ok mixed_ok (consOk_cons (f80ok k) (consOk_cons (f92ok k) (consOk_cons (f93ok k) (consOk_cons (f94ok k) (consOk_cons (f95ok k) (consOk_cons (f96ok k) (consOk_cons (f97ok k) (consOk_nil))))))))
theorem f65ok (k : Nat) : FnOk Tryz.prog 65 (f65con (spec_MetaFrom k)) :=
  let hc := f65hc k
  fnOk (fn := Tryz.f65) (code := bodyOf Tryz.f65) (res := [.cell 2 35, .tmp 3]) hc (by kernel_rfl) (by kernel_rfl) (by decide) (by kernel_rfl) (by kernel_rfl) (by kernel_rfl) (Nat.le_of_ble_eq_true (by kernel_rfl)) _
    (fun x => Snd.seq (by kernel_rfl) (Snd.seq (by kernel_rfl) (Snd.seq (by kernel_rfl) (Snd.seq (by kernel_rfl) (Snd.seq (by kernel_rfl) (Snd.seq (by kernel_rfl) (Snd.seq (by kernel_rfl) (Snd.seq (by kernel_rfl) (Snd.seq (by kernel_rfl) (Snd.exec hc _ _ _ _) (Snd.seq (by kernel_rfl) (Snd.block (id := 0) (by kernel_rfl) (Snd.loop' (by kernel_rfl) f65s11 (fun n x => spec_MetaFrom.l11 k n x.1.1 x.1.2.2.2.2.2.2 x.2.1 x.2.2.1 x.2.2.2.1 x.2.2.2.2.1 x.2.2.2.2.2.1 x.2.2.2.2.2.2.1 x.2.2.2.2.2.2.2.1 x.2.2.2.2.2.2.2.2.1 x.2.2.2.2.2.2.2.2.2.1 x.2.2.2.2.2.2.2.2.2.2) _ (fun _ => rfl) (fun n11 => Snd.seq (by kernel_rfl) (Snd.seq (by kernel_rfl) (Snd.exec hc _ _ _ _) (Snd.block (id := 1) (by kernel_rfl) (Snd.seq (by kernel_rfl) (Snd.seq (by kernel_rfl) (Snd.seq (by kernel_rfl) (Snd.seq (by kernel_rfl) (Snd.seq (by kernel_rfl) (Snd.exec hc _ _ _ _) (Snd.seq (by kernel_rfl) (Snd.block (id := 2) (by kernel_rfl) (Snd.loop' (by kernel_rfl) f65s19 (fun n x => spec_MetaFrom.l19 k (spec_MetaFrom.l11 k n11) n x.1.1 x.1.2.2.2.2.2.2.1 x.1.2.2.2.2.2.2.2.2.2 x.2.1 x.2.2.1 x.2.2.2.1 x.2.2.2.2.1 x.2.2.2.2.2.1 x.2.2.2.2.2.2.1 x.2.2.2.2.2.2.2.1 x.2.2.2.2.2.2.2.2.1 x.2.2.2.2.2.2.2.2.2.1 x.2.2.2.2.2.2.2.2.2.2.1 x.2.2.2.2.2.2.2.2.2.2.2.1 x.2.2.2.2.2.2.2.2.2.2.2.2.1 x.2.2.2.2.2.2.2.2.2.2.2.2.2) _ (fun _ => rfl) (fun n19 => Snd.exec hc _ _ _ _) (fun n x => by kernel_rfl) k)) (Snd.exec hc _ _ _ _))) (Snd.exec hc _ _ _ _)) (Snd.exec hc _ _ _ _)) (Snd.exec hc _ _ _ _)) (Snd.exec hc _ _ _ _)))) (Snd.exec hc _ _ _ _)) (fun n x => by kernel_rfl) k)) (Snd.exec hc _ _ _ _))) (Snd.exec hc _ _ _ _)) (Snd.exec hc _ _ _ _)) (Snd.exec hc _ _ _ _)) (Snd.exec hc _ _ _ _)) (Snd.exec hc _ _ _ _)) (Snd.exec hc _ _ _ _)) (Snd.exec hc _ _ _ _)) (Snd.exec hc _ _ _ _))
    (fun x => by kernel_rfl)

def f38in : SS := ⟨[(0, (.ro (.list 5 (.int .u8)))), (1, (.ro (.int .i64)))], []⟩
def f38out : SS := ⟨[(0, (.agg (.cons (.h 100) (.cons (.ro (.int .i64)) (.cons (.h 101) .nil))))), (1, (.ro (.int .i64))), (2, (.ro .bool))], [(100, (.sl 105 (.st (.cons .str (.cons (.int .i64) (.cons (.int .i64) (.cons (.int .i64) .nil))))))), (101, (.sl 109 (.st (.cons (.int .i64) (.cons (.list 51 (.st (.cons (.int .i64) (.cons (.int .i64) (.cons (.int .i64) (.cons (.int .i64) (.cons (.int .i64) (.cons (.list 3 (.int .i64)) .nil)))))))) .nil)))))]⟩
def f38con (F : (List Int) → Int → Option (((Unit × Int × Unit × Unit) × Int × Bool) × (List TCol) × (List TGroupMeta))) : Con := ⟨f38in, f38out, 2, 3, fun x => F x.1 x.2⟩
def f38ctx (k : Nat) : Ctx := ⟨tyAt tys, conAt [(51, [f51con (spec_TreeRead k)]), (65, [f65con (spec_MetaFrom k)])], 32, fun _ => false⟩
theorem f38hc (k : Nat) : CtxOk Tryz.prog (f38ctx k) := ctxOk tys_ok mixed_ok (consOk_cons (f51ok k) (consOk_cons (f65ok k) (consOk_nil)))
theorem f38ok (k : Nat) : FnOk Tryz.prog 38 (f38con (spec_MetaRead k)) :=
  let hc := f38hc k
  fnOk (fn := Tryz.f38) (code := bodyOf Tryz.f38) (res := [.cell 4 35, .tmp 5, .tmp 6]) hc (by kernel_rfl) (by kernel_rfl) (by decide) (by kernel_rfl) (by kernel_rfl) (by kernel_rfl) (Nat.le_of_ble_eq_true (by kernel_rfl)) _
    (fun x => Snd.exec hc _ _ _ _)
    (fun x => by kernel_rfl)

def f14in : SS := ⟨[(0, (.ro (.list 5 (.int .u8))))], []⟩
def f14out : SS := ⟨[(0, (.agg (.cons (.h 100) (.cons (.ro (.int .i64)) (.cons (.h 101) .nil))))), (1, (.ro (.int .i64)))], [(100, (.sl 105 (.st (.cons .str (.cons (.int .i64) (.cons (.int .i64) (.cons (.int .i64) .nil))))))), (101, (.sl 109 (.st (.cons (.int .i64) (.cons (.list 51 (.st (.cons (.int .i64) (.cons (.int .i64) (.cons (.int .i64) (.cons (.int .i64) (.cons (.int .i64) (.cons (.list 3 (.int .i64)) .nil)))))))) .nil)))))]⟩
def f14con (F : (List Int) → Option (((Unit × Int × Unit × Unit) × Int) × (List TCol) × (List TGroupMeta))) : Con := ⟨f14in, f14out, 1, 2, fun x => F x⟩
def f14ctx (k : Nat) : Ctx := ⟨tyAt tys, conAt [(36, [f36con (spec_l1In k)]), (37, [f37con (spec_WordGet k)]), (38, [f38con (spec_MetaRead k)])], 67, fun _ => false⟩
theorem f14hc (k : Nat) : CtxOk Tryz.prog (f14ctx k) := ctxOk tys_ok mixed_ok (consOk_cons (f36ok k) (consOk_cons (f37ok k) (consOk_cons (f38ok k) (consOk_nil))))
theorem f14ok (k : Nat) : FnOk Tryz.prog 14 (f14con (spec_FileMeta k)) :=
  let hc := f14hc k
  fnOk (fn := Tryz.f14) (code := bodyOf Tryz.f14) (res := [.cell 2 35, .tmp 3]) hc (by kernel_rfl) (by kernel_rfl) (by decide) (by kernel_rfl) (by kernel_rfl) (by kernel_rfl) (Nat.le_of_ble_eq_true (by kernel_rfl)) _
    (fun x => Snd.exec hc _ _ _ _)
    (fun x => by kernel_rfl)

def f39in : SS := ⟨[(0, (.ro (.int .i64))), (1, (.ro (.int .i64))), (2, (.ro (.int .i64)))], []⟩
def f39out : SS := ⟨[(0, (.ro .bool))], []⟩
def f39con (F : Int → Int → Int → Option Bool) : Con := ⟨f39in, f39out, 3, 1, fun x => F x.1 x.2.1 x.2.2⟩
def f39ctx (k : Nat) : Ctx := ⟨tyAt tys, conAt [], 15, fun _ => false⟩
theorem f39hc (k : Nat) : CtxOk Tryz.prog (f39ctx k) := ctxOk tys_ok mixed_ok (consOk_nil)
theorem f39ok (k : Nat) : FnOk Tryz.prog 39 (f39con (impl_within k)) :=
  let hc := f39hc k
  fnOk (fn := Tryz.f39) (code := bodyOf Tryz.f39) (res := [.tmp 6]) hc (by kernel_rfl) (by kernel_rfl) (by decide) (by kernel_rfl) (by kernel_rfl) (by kernel_rfl) (Nat.le_of_ble_eq_true (by kernel_rfl)) _
    (fun x => Snd.exec hc _ _ _ _)
    (fun x => by kernel_rfl)

def f40in : SS := ⟨[(0, (.ro (.list 5 (.int .u8)))), (1, (.ro (.int .i64))), (2, (.ro (.int .i64)))], []⟩
def f40out : SS := ⟨[(0, (.ro (.int .i64))), (1, (.ro (.int .i64))), (2, (.ro .bool))], []⟩
def f40s5 : SS := ⟨[(0, (.ro (.list 5 (.int .u8)))), (1, (.ro (.int .i64))), (2, (.ro (.int .i64))), (9, (.ro (.int .i64))), (26, (.ro (.int .i64))), (27, (.ro (.int .i64)))], []⟩
def f40con (F : (List Int) → Int → Int → Option (Int × Int × Bool)) : Con := ⟨f40in, f40out, 3, 3, fun x => F x.1 x.2.1 x.2.2⟩
def f40ctx (k : Nat) : Ctx := ⟨tyAt tys, conAt [(39, [f39con (impl_within k)])], 47, fun _ => false⟩
theorem f40hc (k : Nat) : CtxOk Tryz.prog (f40ctx k) := ctxOk tys_ok mixed_ok (consOk_cons (f39ok k) (consOk_nil))
theorem f40ok (k : Nat) : FnOk Tryz.prog 40 (f40con (impl_WordGet k)) :=
  let hc := f40hc k
  fnOk (fn := Tryz.f40) (code := bodyOf Tryz.f40) (res := [.tmp 6, .tmp 7, .tmp 8]) hc (by kernel_rfl) (by kernel_rfl) (by decide) (by kernel_rfl) (by kernel_rfl) (by kernel_rfl) (Nat.le_of_ble_eq_true (by kernel_rfl)) _
    (fun x => Snd.seq (by kernel_rfl) (Snd.seq (by kernel_rfl) (Snd.seq (by kernel_rfl) (Snd.seq (by kernel_rfl) (Snd.exec hc _ _ _ _) (Snd.seq (by kernel_rfl) (Snd.block (id := 0) (by kernel_rfl) (Snd.loop' (by kernel_rfl) f40s5 (fun n x => impl_WordGet.l5 k n x.1 x.2.1 x.2.2.1 x.2.2.2.1 x.2.2.2.2.1 x.2.2.2.2.2) _ (fun _ => rfl) (fun n5 => Snd.exec hc _ _ _ _) (fun n x => by kernel_rfl) k)) (Snd.exec hc _ _ _ _))) (Snd.exec hc _ _ _ _)) (Snd.exec hc _ _ _ _)) (Snd.exec hc _ _ _ _))
    (fun x => by kernel_rfl)

def f129in : SS := ⟨[(0, (.p 0)), (1, (.ro (.int .i64)))], [(0, (.box (.st (.cons (.list 5 (.int .u8)) (.cons (.int .i64) (.cons (.list 91 (.st (.cons (.int .i64) (.cons (.int .i64) (.cons (.int .i64) (.cons .str (.cons (.int .i64) .nil))))))) (.cons (.int .i64) .nil))))) (.agg (.cons (.ro (.list 5 (.int .u8))) (.cons (.ro (.int .i64)) (.cons (.h 10) (.cons (.ro (.int .i64)) .nil))))))), (10, (.sl 91 (.st (.cons (.int .i64) (.cons (.int .i64) (.cons (.int .i64) (.cons .str (.cons (.int .i64) .nil))))))))]⟩
def f129out : SS := ⟨[], [(0, (.box (.st (.cons (.list 5 (.int .u8)) (.cons (.int .i64) (.cons (.list 91 (.st (.cons (.int .i64) (.cons (.int .i64) (.cons (.int .i64) (.cons .str (.cons (.int .i64) .nil))))))) (.cons (.int .i64) .nil))))) (.agg (.cons (.ro (.list 5 (.int .u8))) (.cons (.ro (.int .i64)) (.cons (.h 10) (.cons (.ro (.int .i64)) .nil))))))), (10, (.sl 91 (.st (.cons (.int .i64) (.cons (.int .i64) (.cons (.int .i64) (.cons .str (.cons (.int .i64) .nil))))))))]⟩
def f129con (F : Int → TTreeReaderB → (List TNode) → Option (Unit × TTreeReaderB × (List TNode))) : Con := ⟨f129in, f129out, 2, 0, fun x => F x.1.2 x.2.1 x.2.2⟩
def f129ctx (k : Nat) : Ctx := ⟨tyAt tys, conAt [], 13, fun _ => false⟩
theorem f129hc (k : Nat) : CtxOk Tryz.prog (f129ctx k) := ctxOk tys_ok mixed_ok (consOk_nil)
theorem f129ok (k : Nat) : FnOk Tryz.prog 129 (f129con (impl_treeReader_fail k)) :=
  let hc := f129hc k
  fnOk (fn := Tryz.f129) (code := bodyOf Tryz.f129) (res := []) hc (by kernel_rfl) (by kernel_rfl) (by decide) (by kernel_rfl) (by kernel_rfl) (by kernel_rfl) (Nat.le_of_ble_eq_true (by kernel_rfl)) _
    (fun x => Snd.exec hc _ _ _ _)
    (fun x => by kernel_rfl)

def f125in : SS := ⟨[(0, (.p 0)), (1, (.ro (.st (.cons (.int .i64) (.cons (.int .i64) (.cons (.int .i64) (.cons .str (.cons (.int .i64) .nil)))))))), (2, (.ro (.int .i64)))], [(0, (.box (.st (.cons (.list 5 (.int .u8)) (.cons (.int .i64) (.cons (.list 91 (.st (.cons (.int .i64) (.cons (.int .i64) (.cons (.int .i64) (.cons .str (.cons (.int .i64) .nil))))))) (.cons (.int .i64) .nil))))) (.agg (.cons (.ro (.list 5 (.int .u8))) (.cons (.ro (.int .i64)) (.cons (.h 10) (.cons (.ro (.int .i64)) .nil))))))), (10, (.sl 91 (.st (.cons (.int .i64) (.cons (.int .i64) (.cons (.int .i64) (.cons .str (.cons (.int .i64) .nil))))))))]⟩
def f125out : SS := ⟨[(0, (.ro (.int .i64)))], [(0, (.box (.st (.cons (.list 5 (.int .u8)) (.cons (.int .i64) (.cons (.list 91 (.st (.cons (.int .i64) (.cons (.int .i64) (.cons (.int .i64) (.cons .str (.cons (.int .i64) .nil))))))) (.cons (.int .i64) .nil))))) (.agg (.cons (.ro (.list 5 (.int .u8))) (.cons (.ro (.int .i64)) (.cons (.h 100) (.cons (.ro (.int .i64)) .nil))))))), (100, (.sl 91 (.st (.cons (.int .i64) (.cons (.int .i64) (.cons (.int .i64) (.cons .str (.cons (.int .i64) .nil))))))))]⟩
def f125s3 : SS := ⟨[(0, (.p 0)), (4, (.p 100))], [(0, (.box (.st (.cons (.list 5 (.int .u8)) (.cons (.int .i64) (.cons (.list 91 (.st (.cons (.int .i64) (.cons (.int .i64) (.cons (.int .i64) (.cons .str (.cons (.int .i64) .nil))))))) (.cons (.int .i64) .nil))))) (.agg (.cons (.ro (.list 5 (.int .u8))) (.cons (.ro (.int .i64)) (.cons (.h 10) (.cons (.ro (.int .i64)) .nil))))))), (10, (.sl 91 (.st (.cons (.int .i64) (.cons (.int .i64) (.cons (.int .i64) (.cons .str (.cons (.int .i64) .nil)))))))), (100, (.box (.st (.cons (.int .i64) (.cons (.int .i64) (.cons (.int .i64) (.cons .str (.cons (.int .i64) .nil)))))) (.agg (.cons (.ro (.int .i64)) (.cons (.ro (.int .i64)) (.cons (.ro (.int .i64)) (.cons (.ro .str) (.cons (.ro (.int .i64)) .nil))))))))]⟩
def f125con (F : TNode → Int → TTreeReaderB → (List TNode) → Option (Int × TTreeReaderB × (List TNode))) : Con := ⟨f125in, f125out, 3, 1, fun x => F x.1.2.1 x.1.2.2 x.2.1 x.2.2⟩
def f125ctx (k : Nat) : Ctx := ⟨tyAt tys, conAt [(129, [f129con (impl_treeReader_fail k)])], 40, fun _ => false⟩
theorem f125hc (k : Nat) : CtxOk Tryz.prog (f125ctx k) := ctxOk tys_ok mixed_ok (consOk_cons (f129ok k) (consOk_nil))
theorem f125ok (k : Nat) : FnOk Tryz.prog 125 (f125con (impl_treeReader_begin k)) :=
  let hc := f125hc k
  fnOk (fn := Tryz.f125) (code := bodyOf Tryz.f125) (res := [.tmp 6]) hc (by kernel_rfl) (by kernel_rfl) (by decide) (by kernel_rfl) (by kernel_rfl) (by kernel_rfl) (Nat.le_of_ble_eq_true (by kernel_rfl)) _
    (fun x => Snd.seq (by kernel_rfl) (Snd.seq (by kernel_rfl) (Snd.cut (Snd.exec hc _ _ _ _) ⟨f125s3, fun x => impl_treeReader_begin.c3 k x.2.1 x.2.2.1 x.2.2.2⟩ (fun x => by kernel_rfl)) (Snd.exec hc _ _ _ _)) (Snd.exec hc _ _ _ _))
    (fun x => by kernel_rfl)

def f126in : SS := ⟨[(0, (.ro (.int .i64)))], []⟩
def f126out : SS := ⟨[(0, (.ro (.int .i64)))], []⟩
def f126con (F : Int → Option Int) : Con := ⟨f126in, f126out, 1, 1, fun x => F x⟩
def f126ctx (k : Nat) : Ctx := ⟨tyAt tys, conAt [], 11, fun _ => false⟩
theorem f126hc (k : Nat) : CtxOk Tryz.prog (f126ctx k) := ctxOk tys_ok mixed_ok (consOk_nil)
theorem f126ok (k : Nat) : FnOk Tryz.prog 126 (f126con (impl_Zag k)) :=
  let hc := f126hc k
  fnOk (fn := Tryz.f126) (code := bodyOf Tryz.f126) (res := [.tmp 2]) hc (by kernel_rfl) (by kernel_rfl) (by decide) (by kernel_rfl) (by kernel_rfl) (by kernel_rfl) (Nat.le_of_ble_eq_true (by kernel_rfl)) _
    (fun x => Snd.exec hc _ _ _ _)
    (fun x => by kernel_rfl)

def f152in : SS := ⟨[(0, (.ro (.list 5 (.int .u8)))), (1, (.ro (.int .i64)))], []⟩
def f152out : SS := ⟨[(0, (.ro (.int .i64))), (1, (.ro (.int .i64))), (2, (.ro .bool))], []⟩
def f152s12 : SS := ⟨[], []⟩
def f152s5 : SS := ⟨[(0, (.ro (.list 5 (.int .u8)))), (1, (.ro (.int .i64))), (7, (.ro (.int .u64))), (8, (.ro (.int .i64)))], []⟩
def f152con (F : (List Int) → Int → Option (Int × Int × Bool)) : Con := ⟨f152in, f152out, 2, 3, fun x => F x.1 x.2⟩
def f152ctx (k : Nat) : Ctx := ⟨tyAt tys, conAt [], 52, fun _ => false⟩
theorem f152hc (k : Nat) : CtxOk Tryz.prog (f152ctx k) := ctxOk tys_ok mixed_ok (consOk_nil)
theorem f152ok (k : Nat) : FnOk Tryz.prog 152 (f152con (impl_UvarGet k)) :=
  let hc := f152hc k
  fnOk (fn := Tryz.f152) (code := bodyOf Tryz.f152) (res := [.tmp 4, .tmp 5, .tmp 6]) hc (by kernel_rfl) (by kernel_rfl) (by decide) (by kernel_rfl) (by kernel_rfl) (by kernel_rfl) (Nat.le_of_ble_eq_true (by kernel_rfl)) _
    (fun x => Snd.seq (by kernel_rfl) (Snd.seq (by kernel_rfl) (Snd.seq (by kernel_rfl) (Snd.seq (by kernel_rfl) (Snd.cut (Snd.exec hc _ _ _ _) ⟨f152s12, fun x => impl_UvarGet.c12 k⟩ (fun x => by kernel_rfl)) (Snd.seq (by kernel_rfl) (Snd.block (id := 0) (by kernel_rfl) (Snd.loop' (by kernel_rfl) f152s5 (fun n x => impl_UvarGet.l5 k n x.1 x.2.1 x.2.2.1 x.2.2.2) _ (fun _ => rfl) (fun n5 => Snd.exec hc _ _ _ _) (fun n x => by kernel_rfl) k)) (Snd.exec hc _ _ _ _))) (Snd.exec hc _ _ _ _)) (Snd.exec hc _ _ _ _)) (Snd.exec hc _ _ _ _))
    (fun x => by kernel_rfl)

def f127in : SS := ⟨[(0, (.p 0))], [(0, (.box (.st (.cons (.list 5 (.int .u8)) (.cons (.int .i64) (.cons (.list 91 (.st (.cons (.int .i64) (.cons (.int .i64) (.cons (.int .i64) (.cons .str (.cons (.int .i64) .nil))))))) (.cons (.int .i64) .nil))))) (.agg (.cons (.ro (.list 5 (.int .u8))) (.cons (.ro (.int .i64)) (.cons (.h 10) (.cons (.ro (.int .i64)) .nil))))))), (10, (.sl 91 (.st (.cons (.int .i64) (.cons (.int .i64) (.cons (.int .i64) (.cons .str (.cons (.int .i64) .nil))))))))]⟩
def f127out : SS := ⟨[(0, (.ro (.int .i64)))], [(0, (.box (.st (.cons (.list 5 (.int .u8)) (.cons (.int .i64) (.cons (.list 91 (.st (.cons (.int .i64) (.cons (.int .i64) (.cons (.int .i64) (.cons .str (.cons (.int .i64) .nil))))))) (.cons (.int .i64) .nil))))) (.agg (.cons (.ro (.list 5 (.int .u8))) (.cons (.ro (.int .i64)) (.cons (.h 10) (.cons (.ro (.int .i64)) .nil))))))), (10, (.sl 91 (.st (.cons (.int .i64) (.cons (.int .i64) (.cons (.int .i64) (.cons .str (.cons (.int .i64) .nil))))))))]⟩
def f127con (F : TTreeReaderB → (List TNode) → Option (Int × TTreeReaderB × (List TNode))) : Con := ⟨f127in, f127out, 1, 1, fun x => F x.2.1 x.2.2⟩
def f127ctx (k : Nat) : Ctx := ⟨tyAt tys, conAt [(129, [f129con (impl_treeReader_fail k)]), (152, [f152con (impl_UvarGet k)])], 35, fun _ => false⟩
theorem f127hc (k : Nat) : CtxOk Tryz.prog (f127ctx k) := ctxOk tys_ok mixed_ok (consOk_cons (f129ok k) (consOk_cons (f152ok k) (consOk_nil)))
theorem f127ok (k : Nat) : FnOk Tryz.prog 127 (f127con (impl_treeReader_uvar k)) :=
  let hc := f127hc k
  fnOk (fn := Tryz.f127) (code := bodyOf Tryz.f127) (res := [.tmp 2]) hc (by kernel_rfl) (by kernel_rfl) (by decide) (by kernel_rfl) (by kernel_rfl) (by kernel_rfl) (Nat.le_of_ble_eq_true (by kernel_rfl)) _
    (fun x => Snd.exec hc _ _ _ _)
    (fun x => by kernel_rfl)

def f128in : SS := ⟨[(0, (.ro (.int .i64)))], []⟩
def f128out : SS := ⟨[(0, (.ro .bool))], []⟩
def f128con (F : Int → Option Bool) : Con := ⟨f128in, f128out, 1, 1, fun x => F x⟩
def f128ctx (k : Nat) : Ctx := ⟨tyAt tys, conAt [(39, [f39con (impl_within k)])], 5, fun _ => false⟩
theorem f128hc (k : Nat) : CtxOk Tryz.prog (f128ctx k) := ctxOk tys_ok mixed_ok (consOk_cons (f39ok k) (consOk_nil))
theorem f128ok (k : Nat) : FnOk Tryz.prog 128 (f128con (impl_isInt32 k)) :=
  let hc := f128hc k
  fnOk (fn := Tryz.f128) (code := bodyOf Tryz.f128) (res := [.tmp 2]) hc (by kernel_rfl) (by kernel_rfl) (by decide) (by kernel_rfl) (by kernel_rfl) (by kernel_rfl) (Nat.le_of_ble_eq_true (by kernel_rfl)) _
    (fun x => Snd.exec hc _ _ _ _)
    (fun x => by kernel_rfl)

def f130in : SS := ⟨[(0, (.p 0))], [(0, (.box (.st (.cons (.list 5 (.int .u8)) (.cons (.int .i64) (.cons (.list 91 (.st (.cons (.int .i64) (.cons (.int .i64) (.cons (.int .i64) (.cons .str (.cons (.int .i64) .nil))))))) (.cons (.int .i64) .nil))))) (.agg (.cons (.ro (.list 5 (.int .u8))) (.cons (.ro (.int .i64)) (.cons (.h 10) (.cons (.ro (.int .i64)) .nil))))))), (10, (.sl 91 (.st (.cons (.int .i64) (.cons (.int .i64) (.cons (.int .i64) (.cons .str (.cons (.int .i64) .nil))))))))]⟩
def f130out : SS := ⟨[(0, (.ro .str))], [(0, (.box (.st (.cons (.list 5 (.int .u8)) (.cons (.int .i64) (.cons (.list 91 (.st (.cons (.int .i64) (.cons (.int .i64) (.cons (.int .i64) (.cons .str (.cons (.int .i64) .nil))))))) (.cons (.int .i64) .nil))))) (.agg (.cons (.ro (.list 5 (.int .u8))) (.cons (.ro (.int .i64)) (.cons (.h 10) (.cons (.ro (.int .i64)) .nil))))))), (10, (.sl 91 (.st (.cons (.int .i64) (.cons (.int .i64) (.cons (.int .i64) (.cons .str (.cons (.int .i64) .nil))))))))]⟩
def f130s6 : SS := ⟨[(0, (.p 0)), (3, (.ro (.int .i64)))], [(0, (.box (.st (.cons (.list 5 (.int .u8)) (.cons (.int .i64) (.cons (.list 91 (.st (.cons (.int .i64) (.cons (.int .i64) (.cons (.int .i64) (.cons .str (.cons (.int .i64) .nil))))))) (.cons (.int .i64) .nil))))) (.agg (.cons (.ro (.list 5 (.int .u8))) (.cons (.ro (.int .i64)) (.cons (.h 10) (.cons (.ro (.int .i64)) .nil))))))), (10, (.sl 91 (.st (.cons (.int .i64) (.cons (.int .i64) (.cons (.int .i64) (.cons .str (.cons (.int .i64) .nil))))))))]⟩
def f130s4 : SS := ⟨[(0, (.p 0)), (3, (.ro (.int .i64)))], [(0, (.box (.st (.cons (.list 5 (.int .u8)) (.cons (.int .i64) (.cons (.list 91 (.st (.cons (.int .i64) (.cons (.int .i64) (.cons (.int .i64) (.cons .str (.cons (.int .i64) .nil))))))) (.cons (.int .i64) .nil))))) (.agg (.cons (.ro (.list 5 (.int .u8))) (.cons (.ro (.int .i64)) (.cons (.h 10) (.cons (.ro (.int .i64)) .nil))))))), (10, (.sl 91 (.st (.cons (.int .i64) (.cons (.int .i64) (.cons (.int .i64) (.cons .str (.cons (.int .i64) .nil))))))))]⟩
def f130con (F : TTreeReaderB → (List TNode) → Option (ByteArray × TTreeReaderB × (List TNode))) : Con := ⟨f130in, f130out, 1, 1, fun x => F x.2.1 x.2.2⟩
def f130ctx (k : Nat) : Ctx := ⟨tyAt tys, conAt [(39, [f39con (impl_within k)]), (127, [f127con (impl_treeReader_uvar k)]), (129, [f129con (impl_treeReader_fail k)])], 68, fun _ => false⟩
theorem f130hc (k : Nat) : CtxOk Tryz.prog (f130ctx k) := ctxOk tys_ok mixed_ok (consOk_cons (f39ok k) (consOk_cons (f127ok k) (consOk_cons (f129ok k) (consOk_nil))))
theorem f130ok (k : Nat) : FnOk Tryz.prog 130 (f130con (impl_treeReader_text k)) :=
  let hc := f130hc k
  fnOk (fn := Tryz.f130) (code := bodyOf Tryz.f130) (res := [.tmp 2]) hc (by kernel_rfl) (by kernel_rfl) (by decide) (by kernel_rfl) (by kernel_rfl) (by kernel_rfl) (Nat.le_of_ble_eq_true (by kernel_rfl)) _
    (fun x => Snd.seq (by kernel_rfl) (Snd.seq (by kernel_rfl) (Snd.seq (by kernel_rfl) (Snd.cut (Snd.seq (by kernel_rfl) (Snd.cut (Snd.exec hc _ _ _ _) ⟨f130s6, fun x => impl_treeReader_text.c6 k x.1.2 x.2.1 x.2.2⟩ (fun x => by kernel_rfl)) (Snd.exec hc _ _ _ _)) ⟨f130s4, fun x => impl_treeReader_text.c4 k x.1.2 x.2.1 x.2.2⟩ (fun x => by kernel_rfl)) (Snd.exec hc _ _ _ _)) (Snd.exec hc _ _ _ _)) (Snd.exec hc _ _ _ _))
    (fun x => by kernel_rfl)

def f153in : SS := ⟨[(0, (.p 0))], [(0, (.box (.st (.cons (.list 5 (.int .u8)) (.cons (.int .i64) (.cons (.list 91 (.st (.cons (.int .i64) (.cons (.int .i64) (.cons (.int .i64) (.cons .str (.cons (.int .i64) .nil))))))) (.cons (.int .i64) .nil))))) (.agg (.cons (.ro (.list 5 (.int .u8))) (.cons (.ro (.int .i64)) (.cons (.h 10) (.cons (.ro (.int .i64)) .nil))))))), (10, (.sl 91 (.st (.cons (.int .i64) (.cons (.int .i64) (.cons (.int .i64) (.cons .str (.cons (.int .i64) .nil))))))))]⟩
def f153out : SS := ⟨[(0, (.ro (.int .i64)))], [(0, (.box (.st (.cons (.list 5 (.int .u8)) (.cons (.int .i64) (.cons (.list 91 (.st (.cons (.int .i64) (.cons (.int .i64) (.cons (.int .i64) (.cons .str (.cons (.int .i64) .nil))))))) (.cons (.int .i64) .nil))))) (.agg (.cons (.ro (.list 5 (.int .u8))) (.cons (.ro (.int .i64)) (.cons (.h 10) (.cons (.ro (.int .i64)) .nil))))))), (10, (.sl 91 (.st (.cons (.int .i64) (.cons (.int .i64) (.cons (.int .i64) (.cons .str (.cons (.int .i64) .nil))))))))]⟩
def f153con (F : TTreeReaderB → (List TNode) → Option (Int × TTreeReaderB × (List TNode))) : Con := ⟨f153in, f153out, 1, 1, fun x => F x.2.1 x.2.2⟩
def f153ctx (k : Nat) : Ctx := ⟨tyAt tys, conAt [(129, [f129con (impl_treeReader_fail k)])], 41, fun _ => false⟩
theorem f153hc (k : Nat) : CtxOk Tryz.prog (f153ctx k) := ctxOk tys_ok mixed_ok (consOk_cons (f129ok k) (consOk_nil))
theorem f153ok (k : Nat) : FnOk Tryz.prog 153 (f153con (impl_treeReader_one k)) :=
  let hc := f153hc k
  fnOk (fn := Tryz.f153) (code := bodyOf Tryz.f153) (res := [.tmp 2]) hc (by kernel_rfl) (by kernel_rfl) (by decide) (by kernel_rfl) (by kernel_rfl) (by kernel_rfl) (Nat.le_of_ble_eq_true (by kernel_rfl)) _
    (fun x => Snd.exec hc _ _ _ _)
    (fun x => by kernel_rfl)

def f154in : SS := ⟨[(0, (.ro (.int .i64))), (1, (.ro .bool))], []⟩
def f154out : SS := ⟨[(0, (.ro .bool))], []⟩
def f154s10 : SS := ⟨[(11, (.ro .bool))], []⟩
def f154s4 : SS := ⟨[(1, (.ro .bool)), (5, (.ro (.int .i64))), (6, (.ro .bool))], []⟩
def f154con (F : Int → Bool → Option Bool) : Con := ⟨f154in, f154out, 2, 1, fun x => F x.1 x.2⟩
def f154ctx (k : Nat) : Ctx := ⟨tyAt tys, conAt [], 17, fun _ => false⟩
theorem f154hc (k : Nat) : CtxOk Tryz.prog (f154ctx k) := ctxOk tys_ok mixed_ok (consOk_nil)
theorem f154ok (k : Nat) : FnOk Tryz.prog 154 (f154con (impl_isType k)) :=
  let hc := f154hc k
  fnOk (fn := Tryz.f154) (code := bodyOf Tryz.f154) (res := [.tmp 4]) hc (by kernel_rfl) (by kernel_rfl) (by decide) (by kernel_rfl) (by kernel_rfl) (by kernel_rfl) (Nat.le_of_ble_eq_true (by kernel_rfl)) _
    (fun x => Snd.seq (by kernel_rfl) (Snd.seq (by kernel_rfl) (Snd.exec hc _ _ _ _) (Snd.seq (by kernel_rfl) (Snd.block (id := 0) (by kernel_rfl) (Snd.seq (by kernel_rfl) (Snd.cut (Snd.cond (x := .tmp 6) (by kernel_rfl) (Snd.exec hc _ _ _ _) (Snd.seq (by kernel_rfl) (Snd.cut (Snd.exec hc _ _ _ _) ⟨f154s10, fun x => impl_isType.c10 k x⟩ (fun x => by kernel_rfl)) (Snd.exec hc _ _ _ _))) ⟨f154s4, fun x => impl_isType.c4 k x.1 x.2.1 x.2.2⟩ (fun x => by kernel_rfl)) (Snd.exec hc _ _ _ _))) (Snd.exec hc _ _ _ _))) (Snd.exec hc _ _ _ _))
    (fun x => by kernel_rfl)

def f98in : SS := ⟨[(0, (.p 0)), (1, (.ro (.int .i64))), (2, (.ro (.int .i64))), (3, (.ro (.int .i64)))], [(0, (.box (.st (.cons (.list 5 (.int .u8)) (.cons (.int .i64) (.cons (.list 91 (.st (.cons (.int .i64) (.cons (.int .i64) (.cons (.int .i64) (.cons .str (.cons (.int .i64) .nil))))))) (.cons (.int .i64) .nil))))) (.agg (.cons (.ro (.list 5 (.int .u8))) (.cons (.ro (.int .i64)) (.cons (.h 10) (.cons (.ro (.int .i64)) .nil))))))), (10, (.sl 91 (.st (.cons (.int .i64) (.cons (.int .i64) (.cons (.int .i64) (.cons .str (.cons (.int .i64) .nil))))))))]⟩
def f98out : SS := ⟨[], [(0, (.box (.st (.cons (.list 5 (.int .u8)) (.cons (.int .i64) (.cons (.list 91 (.st (.cons (.int .i64) (.cons (.int .i64) (.cons (.int .i64) (.cons .str (.cons (.int .i64) .nil))))))) (.cons (.int .i64) .nil))))) (.agg (.cons (.ro (.list 5 (.int .u8))) (.cons (.ro (.int .i64)) (.cons (.h 100) (.cons (.ro (.int .i64)) .nil))))))), (100, (.sl 91 (.st (.cons (.int .i64) (.cons (.int .i64) (.cons (.int .i64) (.cons .str (.cons (.int .i64) .nil))))))))]⟩
def f98s8 : SS := ⟨[(0, (.p 0)), (8, (.ro (.int .i64))), (9, (.ro (.int .i64)))], [(0, (.box (.st (.cons (.list 5 (.int .u8)) (.cons (.int .i64) (.cons (.list 91 (.st (.cons (.int .i64) (.cons (.int .i64) (.cons (.int .i64) (.cons .str (.cons (.int .i64) .nil))))))) (.cons (.int .i64) .nil))))) (.agg (.cons (.ro (.list 5 (.int .u8))) (.cons (.ro (.int .i64)) (.cons (.h 100) (.cons (.ro (.int .i64)) .nil))))))), (100, (.sl 91 (.st (.cons (.int .i64) (.cons (.int .i64) (.cons (.int .i64) (.cons .str (.cons (.int .i64) .nil))))))))]⟩
def f98d10 : SS := ⟨[(0, (.p 0)), (8, (.ro (.int .i64)))], [(0, (.box (.st (.cons (.list 5 (.int .u8)) (.cons (.int .i64) (.cons (.list 91 (.st (.cons (.int .i64) (.cons (.int .i64) (.cons (.int .i64) (.cons .str (.cons (.int .i64) .nil))))))) (.cons (.int .i64) .nil))))) (.agg (.cons (.ro (.list 5 (.int .u8))) (.cons (.ro (.int .i64)) (.cons (.h 100) (.cons (.ro (.int .i64)) .nil))))))), (100, (.sl 91 (.st (.cons (.int .i64) (.cons (.int .i64) (.cons (.int .i64) (.cons .str (.cons (.int .i64) .nil))))))))]⟩
def f98s5 : SS := ⟨[(0, (.p 0)), (1, (.ro (.int .i64))), (3, (.ro (.int .i64))), (8, (.ro (.int .i64))), (21, (.ro (.int .i64))), (22, (.ro .bool))], [(0, (.box (.st (.cons (.list 5 (.int .u8)) (.cons (.int .i64) (.cons (.list 91 (.st (.cons (.int .i64) (.cons (.int .i64) (.cons (.int .i64) (.cons .str (.cons (.int .i64) .nil))))))) (.cons (.int .i64) .nil))))) (.agg (.cons (.ro (.list 5 (.int .u8))) (.cons (.ro (.int .i64)) (.cons (.h 100) (.cons (.ro (.int .i64)) .nil))))))), (100, (.sl 91 (.st (.cons (.int .i64) (.cons (.int .i64) (.cons (.int .i64) (.cons .str (.cons (.int .i64) .nil))))))))]⟩
def f98con (F : Int → Int → Int → TTreeReaderB → (List TNode) → Option (Unit × TTreeReaderB × (List TNode))) : Con := ⟨f98in, f98out, 4, 0, fun x => F x.1.2.1 x.1.2.2.1 x.1.2.2.2 x.2.1 x.2.2⟩
def f131in : SS := ⟨[(0, (.p 0)), (1, (.ro (.int .i64))), (2, (.ro (.int .i64)))], [(0, (.box (.st (.cons (.list 5 (.int .u8)) (.cons (.int .i64) (.cons (.list 91 (.st (.cons (.int .i64) (.cons (.int .i64) (.cons (.int .i64) (.cons .str (.cons (.int .i64) .nil))))))) (.cons (.int .i64) .nil))))) (.agg (.cons (.ro (.list 5 (.int .u8))) (.cons (.ro (.int .i64)) (.cons (.h 10) (.cons (.ro (.int .i64)) .nil))))))), (10, (.sl 91 (.st (.cons (.int .i64) (.cons (.int .i64) (.cons (.int .i64) (.cons .str (.cons (.int .i64) .nil))))))))]⟩
def f131out : SS := ⟨[], [(0, (.box (.st (.cons (.list 5 (.int .u8)) (.cons (.int .i64) (.cons (.list 91 (.st (.cons (.int .i64) (.cons (.int .i64) (.cons (.int .i64) (.cons .str (.cons (.int .i64) .nil))))))) (.cons (.int .i64) .nil))))) (.agg (.cons (.ro (.list 5 (.int .u8))) (.cons (.ro (.int .i64)) (.cons (.h 100) (.cons (.ro (.int .i64)) .nil))))))), (100, (.sl 91 (.st (.cons (.int .i64) (.cons (.int .i64) (.cons (.int .i64) (.cons .str (.cons (.int .i64) .nil))))))))]⟩
def f131s11 : SS := ⟨[(0, (.p 0)), (2, (.ro (.int .i64))), (7, (.ro (.int .i64))), (8, (.ro (.int .i64))), (9, (.ro (.int .i64)))], [(0, (.box (.st (.cons (.list 5 (.int .u8)) (.cons (.int .i64) (.cons (.list 91 (.st (.cons (.int .i64) (.cons (.int .i64) (.cons (.int .i64) (.cons .str (.cons (.int .i64) .nil))))))) (.cons (.int .i64) .nil))))) (.agg (.cons (.ro (.list 5 (.int .u8))) (.cons (.ro (.int .i64)) (.cons (.h 100) (.cons (.ro (.int .i64)) .nil))))))), (100, (.sl 91 (.st (.cons (.int .i64) (.cons (.int .i64) (.cons (.int .i64) (.cons .str (.cons (.int .i64) .nil))))))))]⟩
def f131s9 : SS := ⟨[(0, (.p 0)), (1, (.ro (.int .i64))), (2, (.ro (.int .i64))), (7, (.ro (.int .i64))), (8, (.ro (.int .i64)))], [(0, (.box (.st (.cons (.list 5 (.int .u8)) (.cons (.int .i64) (.cons (.list 91 (.st (.cons (.int .i64) (.cons (.int .i64) (.cons (.int .i64) (.cons .str (.cons (.int .i64) .nil))))))) (.cons (.int .i64) .nil))))) (.agg (.cons (.ro (.list 5 (.int .u8))) (.cons (.ro (.int .i64)) (.cons (.h 10) (.cons (.ro (.int .i64)) .nil))))))), (10, (.sl 91 (.st (.cons (.int .i64) (.cons (.int .i64) (.cons (.int .i64) (.cons .str (.cons (.int .i64) .nil))))))))]⟩
def f131s7 : SS := ⟨[(0, (.p 0)), (1, (.ro (.int .i64))), (2, (.ro (.int .i64))), (7, (.ro (.int .i64))), (8, (.ro (.int .i64)))], [(0, (.box (.st (.cons (.list 5 (.int .u8)) (.cons (.int .i64) (.cons (.list 91 (.st (.cons (.int .i64) (.cons (.int .i64) (.cons (.int .i64) (.cons .str (.cons (.int .i64) .nil))))))) (.cons (.int .i64) .nil))))) (.agg (.cons (.ro (.list 5 (.int .u8))) (.cons (.ro (.int .i64)) (.cons (.h 10) (.cons (.ro (.int .i64)) .nil))))))), (10, (.sl 91 (.st (.cons (.int .i64) (.cons (.int .i64) (.cons (.int .i64) (.cons .str (.cons (.int .i64) .nil))))))))]⟩
def f131s4 : SS := ⟨[(0, (.p 0)), (1, (.ro (.int .i64))), (2, (.ro (.int .i64))), (7, (.ro (.int .i64))), (8, (.ro (.int .i64)))], [(0, (.box (.st (.cons (.list 5 (.int .u8)) (.cons (.int .i64) (.cons (.list 91 (.st (.cons (.int .i64) (.cons (.int .i64) (.cons (.int .i64) (.cons .str (.cons (.int .i64) .nil))))))) (.cons (.int .i64) .nil))))) (.agg (.cons (.ro (.list 5 (.int .u8))) (.cons (.ro (.int .i64)) (.cons (.h 10) (.cons (.ro (.int .i64)) .nil))))))), (10, (.sl 91 (.st (.cons (.int .i64) (.cons (.int .i64) (.cons (.int .i64) (.cons .str (.cons (.int .i64) .nil))))))))]⟩
def f131con (F : Int → Int → TTreeReaderB → (List TNode) → Option (Unit × TTreeReaderB × (List TNode))) : Con := ⟨f131in, f131out, 3, 0, fun x => F x.1.2.1 x.1.2.2 x.2.1 x.2.2⟩
def f132in : SS := ⟨[(0, (.p 0)), (1, (.ro (.int .i64))), (2, (.ro (.int .i64)))], [(0, (.box (.st (.cons (.list 5 (.int .u8)) (.cons (.int .i64) (.cons (.list 91 (.st (.cons (.int .i64) (.cons (.int .i64) (.cons (.int .i64) (.cons .str (.cons (.int .i64) .nil))))))) (.cons (.int .i64) .nil))))) (.agg (.cons (.ro (.list 5 (.int .u8))) (.cons (.ro (.int .i64)) (.cons (.h 10) (.cons (.ro (.int .i64)) .nil))))))), (10, (.sl 91 (.st (.cons (.int .i64) (.cons (.int .i64) (.cons (.int .i64) (.cons .str (.cons (.int .i64) .nil))))))))]⟩
def f132out : SS := ⟨[], [(0, (.box (.st (.cons (.list 5 (.int .u8)) (.cons (.int .i64) (.cons (.list 91 (.st (.cons (.int .i64) (.cons (.int .i64) (.cons (.int .i64) (.cons .str (.cons (.int .i64) .nil))))))) (.cons (.int .i64) .nil))))) (.agg (.cons (.ro (.list 5 (.int .u8))) (.cons (.ro (.int .i64)) (.cons (.h 100) (.cons (.ro (.int .i64)) .nil))))))), (100, (.sl 91 (.st (.cons (.int .i64) (.cons (.int .i64) (.cons (.int .i64) (.cons .str (.cons (.int .i64) .nil))))))))]⟩
def f132s12 : SS := ⟨[(0, (.p 0)), (1, (.ro (.int .i64))), (2, (.ro (.int .i64))), (8, (.ro (.int .i64))), (9, (.ro (.int .i64)))], [(0, (.box (.st (.cons (.list 5 (.int .u8)) (.cons (.int .i64) (.cons (.list 91 (.st (.cons (.int .i64) (.cons (.int .i64) (.cons (.int .i64) (.cons .str (.cons (.int .i64) .nil))))))) (.cons (.int .i64) .nil))))) (.agg (.cons (.ro (.list 5 (.int .u8))) (.cons (.ro (.int .i64)) (.cons (.h 100) (.cons (.ro (.int .i64)) .nil))))))), (100, (.sl 91 (.st (.cons (.int .i64) (.cons (.int .i64) (.cons (.int .i64) (.cons .str (.cons (.int .i64) .nil))))))))]⟩
def f132s10 : SS := ⟨[(0, (.p 0)), (1, (.ro (.int .i64))), (2, (.ro (.int .i64))), (6, (.ro (.int .i64))), (8, (.ro (.int .i64))), (9, (.ro (.int .i64)))], [(0, (.box (.st (.cons (.list 5 (.int .u8)) (.cons (.int .i64) (.cons (.list 91 (.st (.cons (.int .i64) (.cons (.int .i64) (.cons (.int .i64) (.cons .str (.cons (.int .i64) .nil))))))) (.cons (.int .i64) .nil))))) (.agg (.cons (.ro (.list 5 (.int .u8))) (.cons (.ro (.int .i64)) (.cons (.h 100) (.cons (.ro (.int .i64)) .nil))))))), (100, (.sl 91 (.st (.cons (.int .i64) (.cons (.int .i64) (.cons (.int .i64) (.cons .str (.cons (.int .i64) .nil))))))))]⟩
def f132s8 : SS := ⟨[(0, (.p 0)), (1, (.ro (.int .i64))), (2, (.ro (.int .i64))), (6, (.ro (.int .i64))), (8, (.ro (.int .i64))), (9, (.ro (.int .i64)))], [(0, (.box (.st (.cons (.list 5 (.int .u8)) (.cons (.int .i64) (.cons (.list 91 (.st (.cons (.int .i64) (.cons (.int .i64) (.cons (.int .i64) (.cons .str (.cons (.int .i64) .nil))))))) (.cons (.int .i64) .nil))))) (.agg (.cons (.ro (.list 5 (.int .u8))) (.cons (.ro (.int .i64)) (.cons (.h 100) (.cons (.ro (.int .i64)) .nil))))))), (100, (.sl 91 (.st (.cons (.int .i64) (.cons (.int .i64) (.cons (.int .i64) (.cons .str (.cons (.int .i64) .nil))))))))]⟩
def f132s6 : SS := ⟨[(0, (.p 0)), (1, (.ro (.int .i64))), (2, (.ro (.int .i64))), (6, (.ro (.int .i64))), (7, (.ro (.int .i64))), (8, (.ro (.int .i64))), (9, (.ro (.int .i64)))], [(0, (.box (.st (.cons (.list 5 (.int .u8)) (.cons (.int .i64) (.cons (.list 91 (.st (.cons (.int .i64) (.cons (.int .i64) (.cons (.int .i64) (.cons .str (.cons (.int .i64) .nil))))))) (.cons (.int .i64) .nil))))) (.agg (.cons (.ro (.list 5 (.int .u8))) (.cons (.ro (.int .i64)) (.cons (.h 100) (.cons (.ro (.int .i64)) .nil))))))), (100, (.sl 91 (.st (.cons (.int .i64) (.cons (.int .i64) (.cons (.int .i64) (.cons .str (.cons (.int .i64) .nil))))))))]⟩
def f132s1 : SS := ⟨[(0, (.p 0)), (1, (.ro (.int .i64))), (2, (.ro (.int .i64))), (6, (.ro (.int .i64)))], [(0, (.box (.st (.cons (.list 5 (.int .u8)) (.cons (.int .i64) (.cons (.list 91 (.st (.cons (.int .i64) (.cons (.int .i64) (.cons (.int .i64) (.cons .str (.cons (.int .i64) .nil))))))) (.cons (.int .i64) .nil))))) (.agg (.cons (.ro (.list 5 (.int .u8))) (.cons (.ro (.int .i64)) (.cons (.h 100) (.cons (.ro (.int .i64)) .nil))))))), (100, (.sl 91 (.st (.cons (.int .i64) (.cons (.int .i64) (.cons (.int .i64) (.cons .str (.cons (.int .i64) .nil))))))))]⟩
def f132con (F : Int → Int → TTreeReaderB → (List TNode) → Option (Unit × TTreeReaderB × (List TNode))) : Con := ⟨f132in, f132out, 3, 0, fun x => F x.1.2.1 x.1.2.2 x.2.1 x.2.2⟩
def f98ctx (k : Nat) (S98 : Int → Int → Int → TTreeReaderB → (List TNode) → Option (Unit × TTreeReaderB × (List TNode))) (S131 : Int → Int → TTreeReaderB → (List TNode) → Option (Unit × TTreeReaderB × (List TNode))) (S132 : Int → Int → TTreeReaderB → (List TNode) → Option (Unit × TTreeReaderB × (List TNode))) : Ctx := ⟨tyAt tys, conAt [(125, [f125con (impl_treeReader_begin k)]), (126, [f126con (impl_Zag k)]), (127, [f127con (impl_treeReader_uvar k)]), (128, [f128con (impl_isInt32 k)]), (129, [f129con (impl_treeReader_fail k)]), (130, [f130con (impl_treeReader_text k)]), (131, [f131con S131]), (132, [f132con S132])], 75, fun _ => false⟩
theorem f98hc (k : Nat) (S98 : Int → Int → Int → TTreeReaderB → (List TNode) → Option (Unit × TTreeReaderB × (List TNode))) (S131 : Int → Int → TTreeReaderB → (List TNode) → Option (Unit × TTreeReaderB × (List TNode))) (S132 : Int → Int → TTreeReaderB → (List TNode) → Option (Unit × TTreeReaderB × (List TNode))) (h98 : FnOk Tryz.prog 98 (f98con S98)) (h131 : FnOk Tryz.prog 131 (f131con S131)) (h132 : FnOk Tryz.prog 132 (f132con S132)) : CtxOk Tryz.prog (f98ctx k S98 S131 S132) := ctxOk tys_ok mixed_ok (consOk_cons (f125ok k) (consOk_cons (f126ok k) (consOk_cons (f127ok k) (consOk_cons (f128ok k) (consOk_cons (f129ok k) (consOk_cons (f130ok k) (consOk_cons (h131) (consOk_cons (h132) (consOk_nil)))))))))
theorem f98okb (k : Nat) (S98 : Int → Int → Int → TTreeReaderB → (List TNode) → Option (Unit × TTreeReaderB × (List TNode))) (S131 : Int → Int → TTreeReaderB → (List TNode) → Option (Unit × TTreeReaderB × (List TNode))) (S132 : Int → Int → TTreeReaderB → (List TNode) → Option (Unit × TTreeReaderB × (List TNode))) (h98 : FnOk Tryz.prog 98 (f98con S98)) (h131 : FnOk Tryz.prog 131 (f131con S131)) (h132 : FnOk Tryz.prog 132 (f132con S132)) : FnOk Tryz.prog 98 (f98con (impl_treeReader_node.b k S98 S131 S132)) :=
  let hc := f98hc k S98 S131 S132 h98 h131 h132
  fnOk (fn := Tryz.f98) (code := bodyOf Tryz.f98) (res := []) hc (by kernel_rfl) (by kernel_rfl) (by decide) (by kernel_rfl) (by kernel_rfl) (by kernel_rfl) (Nat.le_of_ble_eq_true (by kernel_rfl)) _
    (fun x => Snd.seq (by kernel_rfl) (Snd.seq (by kernel_rfl) (Snd.seq (by kernel_rfl) (Snd.block (id := 0) (by kernel_rfl) (Snd.seq (by kernel_rfl) (Snd.cut (Snd.cond (x := .tmp 22) (by kernel_rfl) (Snd.seq (by kernel_rfl) (Snd.seq (by kernel_rfl) (Snd.cut (Snd.exec hc _ _ _ _) ⟨f98s8, fun x => impl_treeReader_node.c8 k x.1.2.1 x.1.2.2 x.2.1 x.2.2⟩ (fun x => by kernel_rfl)) (Snd.exec hc _ _ _ _)) (Snd.exec hc _ _ _ _)) (Snd.seq (by kernel_rfl) (Snd.cond (x := .tmp 52) (by kernel_rfl) (Snd.fork hc (id := 10) (by kernel_rfl) ⟨f98d10, fun x => impl_treeReader_node.d10 k x.1.2 x.2.1 x.2.2⟩ [[0, 1, 2, 4, 5, 3, 6, 7, 8, 9], [0, 1, 2, 4, 5, 6, 3, 7, 8, 9]] (by kernel_rfl) (ords_cons (fun x => by kernel_rfl) (ords_cons (fun x => by kernel_rfl) (ords_nil)))) (Snd.exec hc _ _ _ _)) (Snd.exec hc _ _ _ _))) ⟨f98s5, fun x => impl_treeReader_node.c5 k S131 S132 x.1.2.1 x.1.2.2.1 x.1.2.2.2.1 x.1.2.2.2.2.1 x.1.2.2.2.2.2 x.2.1 x.2.2⟩ (fun x => by kernel_rfl)) (Snd.exec hc _ _ _ _))) (Snd.exec hc _ _ _ _)) (Snd.exec hc _ _ _ _)) (Snd.exec hc _ _ _ _))
    (fun x => by kernel_rfl)
def f131ctx (k : Nat) (S98 : Int → Int → Int → TTreeReaderB → (List TNode) → Option (Unit × TTreeReaderB × (List TNode))) (S131 : Int → Int → TTreeReaderB → (List TNode) → Option (Unit × TTreeReaderB × (List TNode))) (S132 : Int → Int → TTreeReaderB → (List TNode) → Option (Unit × TTreeReaderB × (List TNode))) : Ctx := ⟨tyAt tys, conAt [(39, [f39con (impl_within k)]), (98, [f98con S98]), (127, [f127con (impl_treeReader_uvar k)]), (129, [f129con (impl_treeReader_fail k)]), (153, [f153con (impl_treeReader_one k)]), (154, [f154con (impl_isType k)])], 72, fun _ => false⟩
theorem f131hc (k : Nat) (S98 : Int → Int → Int → TTreeReaderB → (List TNode) → Option (Unit × TTreeReaderB × (List TNode))) (S131 : Int → Int → TTreeReaderB → (List TNode) → Option (Unit × TTreeReaderB × (List TNode))) (S132 : Int → Int → TTreeReaderB → (List TNode) → Option (Unit × TTreeReaderB × (List TNode))) (h98 : FnOk Tryz.prog 98 (f98con S98)) (h131 : FnOk Tryz.prog 131 (f131con S131)) (h132 : FnOk Tryz.prog 132 (f132con S132)) : CtxOk Tryz.prog (f131ctx k S98 S131 S132) := ctxOk tys_ok mixed_ok (consOk_cons (f39ok k) (consOk_cons (h98) (consOk_cons (f127ok k) (consOk_cons (f129ok k) (consOk_cons (f153ok k) (consOk_cons (f154ok k) (consOk_nil)))))))
theorem f131okb (k : Nat) (S98 : Int → Int → Int → TTreeReaderB → (List TNode) → Option (Unit × TTreeReaderB × (List TNode))) (S131 : Int → Int → TTreeReaderB → (List TNode) → Option (Unit × TTreeReaderB × (List TNode))) (S132 : Int → Int → TTreeReaderB → (List TNode) → Option (Unit × TTreeReaderB × (List TNode))) (h98 : FnOk Tryz.prog 98 (f98con S98)) (h131 : FnOk Tryz.prog 131 (f131con S131)) (h132 : FnOk Tryz.prog 132 (f132con S132)) : FnOk Tryz.prog 131 (f131con (impl_treeReader_parts.b k S98 S131 S132)) :=
  let hc := f131hc k S98 S131 S132 h98 h131 h132
  fnOk (fn := Tryz.f131) (code := bodyOf Tryz.f131) (res := []) hc (by kernel_rfl) (by kernel_rfl) (by decide) (by kernel_rfl) (by kernel_rfl) (by kernel_rfl) (Nat.le_of_ble_eq_true (by kernel_rfl)) _
    (fun x => Snd.seq (by kernel_rfl) (Snd.seq (by kernel_rfl) (Snd.seq (by kernel_rfl) (Snd.cut (Snd.seq (by kernel_rfl) (Snd.seq (by kernel_rfl) (Snd.cut (Snd.seq (by kernel_rfl) (Snd.cut (Snd.seq (by kernel_rfl) (Snd.seq (by kernel_rfl) (Snd.block (id := 0) (by kernel_rfl) (Snd.loop' (by kernel_rfl) f131s11 (fun n x => impl_treeReader_parts.l11 k S98 n x.1.2.1 x.1.2.2.1 x.1.2.2.2.1 x.1.2.2.2.2 x.2.1 x.2.2) _ (fun _ => rfl) (fun n11 => Snd.exec hc _ _ _ _) (fun n x => by kernel_rfl) k)) (Snd.exec hc _ _ _ _)) (Snd.exec hc _ _ _ _)) ⟨f131s9, fun x => impl_treeReader_parts.c9 k S98 x.1.2.1 x.1.2.2.1 x.1.2.2.2.1 x.1.2.2.2.2 x.2.1 x.2.2⟩ (fun x => by kernel_rfl)) (Snd.exec hc _ _ _ _)) ⟨f131s7, fun x => impl_treeReader_parts.c7 k S98 x.1.2.1 x.1.2.2.1 x.1.2.2.2.1 x.1.2.2.2.2 x.2.1 x.2.2⟩ (fun x => by kernel_rfl)) (Snd.exec hc _ _ _ _)) (Snd.exec hc _ _ _ _)) ⟨f131s4, fun x => impl_treeReader_parts.c4 k S98 x.1.2.1 x.1.2.2.1 x.1.2.2.2.1 x.1.2.2.2.2 x.2.1 x.2.2⟩ (fun x => by kernel_rfl)) (Snd.exec hc _ _ _ _)) (Snd.exec hc _ _ _ _)) (Snd.exec hc _ _ _ _))
    (fun x => by kernel_rfl)
def f132ctx (k : Nat) (S98 : Int → Int → Int → TTreeReaderB → (List TNode) → Option (Unit × TTreeReaderB × (List TNode))) (S131 : Int → Int → TTreeReaderB → (List TNode) → Option (Unit × TTreeReaderB × (List TNode))) (S132 : Int → Int → TTreeReaderB → (List TNode) → Option (Unit × TTreeReaderB × (List TNode))) : Ctx := ⟨tyAt tys, conAt [(39, [f39con (impl_within k)]), (98, [f98con S98]), (126, [f126con (impl_Zag k)]), (127, [f127con (impl_treeReader_uvar k)]), (129, [f129con (impl_treeReader_fail k)]), (153, [f153con (impl_treeReader_one k)]), (154, [f154con (impl_isType k)])], 84, fun _ => false⟩
theorem f132hc (k : Nat) (S98 : Int → Int → Int → TTreeReaderB → (List TNode) → Option (Unit × TTreeReaderB × (List TNode))) (S131 : Int → Int → TTreeReaderB → (List TNode) → Option (Unit × TTreeReaderB × (List TNode))) (S132 : Int → Int → TTreeReaderB → (List TNode) → Option (Unit × TTreeReaderB × (List TNode))) (h98 : FnOk Tryz.prog 98 (f98con S98)) (h131 : FnOk Tryz.prog 131 (f131con S131)) (h132 : FnOk Tryz.prog 132 (f132con S132)) : CtxOk Tryz.prog (f132ctx k S98 S131 S132) := ctxOk tys_ok mixed_ok (consOk_cons (f39ok k) (consOk_cons (h98) (consOk_cons (f126ok k) (consOk_cons (f127ok k) (consOk_cons (f129ok k) (consOk_cons (f153ok k) (consOk_cons (f154ok k) (consOk_nil))))))))
theorem f132okb (k : Nat) (S98 : Int → Int → Int → TTreeReaderB → (List TNode) → Option (Unit × TTreeReaderB × (List TNode))) (S131 : Int → Int → TTreeReaderB → (List TNode) → Option (Unit × TTreeReaderB × (List TNode))) (S132 : Int → Int → TTreeReaderB → (List TNode) → Option (Unit × TTreeReaderB × (List TNode))) (h98 : FnOk Tryz.prog 98 (f98con S98)) (h131 : FnOk Tryz.prog 131 (f131con S131)) (h132 : FnOk Tryz.prog 132 (f132con S132)) : FnOk Tryz.prog 132 (f132con (impl_treeReader_fields.b k S98 S131 S132)) :=
  let hc := f132hc k S98 S131 S132 h98 h131 h132
  fnOk (fn := Tryz.f132) (code := bodyOf Tryz.f132) (res := []) hc (by kernel_rfl) (by kernel_rfl) (by decide) (by kernel_rfl) (by kernel_rfl) (by kernel_rfl) (Nat.le_of_ble_eq_true (by kernel_rfl)) _
    (fun x => Snd.seq (by kernel_rfl) (Snd.block (id := 0) (by kernel_rfl) (Snd.loop' (by kernel_rfl) f132s1 (fun n x => impl_treeReader_fields.l1 k S98 n x.1.2.1 x.1.2.2.1 x.1.2.2.2 x.2.1 x.2.2) _ (fun _ => rfl) (fun n1 => Snd.block (id := 1) (by kernel_rfl) (Snd.seq (by kernel_rfl) (Snd.seq (by kernel_rfl) (Snd.seq (by kernel_rfl) (Snd.seq (by kernel_rfl) (Snd.cut (Snd.seq (by kernel_rfl) (Snd.cut (Snd.seq (by kernel_rfl) (Snd.cut (Snd.seq (by kernel_rfl) (Snd.cut (Snd.exec hc _ _ _ _) ⟨f132s12, fun x => impl_treeReader_fields.c12 k S98 (impl_treeReader_fields.l1 k S98 n1) x.1.2.1 x.1.2.2.1 x.1.2.2.2.1 x.1.2.2.2.2 x.2.1 x.2.2⟩ (fun x => by kernel_rfl)) (Snd.exec hc _ _ _ _)) ⟨f132s10, fun x => impl_treeReader_fields.c10 k S98 (impl_treeReader_fields.l1 k S98 n1) x.1.2.1 x.1.2.2.1 x.1.2.2.2.1 x.1.2.2.2.2.1 x.1.2.2.2.2.2 x.2.1 x.2.2⟩ (fun x => by kernel_rfl)) (Snd.exec hc _ _ _ _)) ⟨f132s8, fun x => impl_treeReader_fields.c8 k S98 (impl_treeReader_fields.l1 k S98 n1) x.1.2.1 x.1.2.2.1 x.1.2.2.2.1 x.1.2.2.2.2.1 x.1.2.2.2.2.2 x.2.1 x.2.2⟩ (fun x => by kernel_rfl)) (Snd.exec hc _ _ _ _)) ⟨f132s6, fun x => impl_treeReader_fields.c6 k S98 (impl_treeReader_fields.l1 k S98 n1) x.1.2.1 x.1.2.2.1 x.1.2.2.2.1 x.1.2.2.2.2.1 x.1.2.2.2.2.2.1 x.1.2.2.2.2.2.2 x.2.1 x.2.2⟩ (fun x => by kernel_rfl)) (Snd.exec hc _ _ _ _)) (Snd.exec hc _ _ _ _)) (Snd.exec hc _ _ _ _)) (Snd.exec hc _ _ _ _))) (fun n x => by kernel_rfl) k)) (Snd.exec hc _ _ _ _))
    (fun x => by kernel_rfl)
theorem f98rec (k : Nat) : ∀ d, FnOk Tryz.prog 98 (f98con (impl_treeReader_node.d k d)) ∧ FnOk Tryz.prog 131 (f131con (impl_treeReader_parts.d k d)) ∧ FnOk Tryz.prog 132 (f132con (impl_treeReader_fields.d k d))
  | 0 => ⟨FnOk_none (fun _ => rfl), FnOk_none (fun _ => rfl), FnOk_none (fun _ => rfl)⟩
  | d + 1 => let ih := f98rec k d
    ⟨f98okb k (impl_treeReader_node.d k d) (impl_treeReader_parts.d k d) (impl_treeReader_fields.d k d) ih.1 ih.2.1 ih.2.2, f131okb k (impl_treeReader_node.d k d) (impl_treeReader_parts.d k d) (impl_treeReader_fields.d k d) ih.1 ih.2.1 ih.2.2, f132okb k (impl_treeReader_node.d k d) (impl_treeReader_parts.d k d) (impl_treeReader_fields.d k d) ih.1 ih.2.1 ih.2.2⟩
theorem f98ok (k : Nat) : FnOk Tryz.prog 98 (f98con (impl_treeReader_node k)) := (f98rec k k).1
theorem f131ok (k : Nat) : FnOk Tryz.prog 131 (f131con (impl_treeReader_parts k)) := (f98rec k k).2.1
theorem f132ok (k : Nat) : FnOk Tryz.prog 132 (f132con (impl_treeReader_fields k)) := (f98rec k k).2.2

def f66in : SS := ⟨[(0, (.ro (.list 5 (.int .u8)))), (1, (.ro (.int .i64)))], []⟩
def f66out : SS := ⟨[(0, (.h 100)), (1, (.ro (.int .i64))), (2, (.ro (.int .i64)))], [(100, (.sl 91 (.st (.cons (.int .i64) (.cons (.int .i64) (.cons (.int .i64) (.cons .str (.cons (.int .i64) .nil))))))))]⟩
def f66con (F : (List Int) → Int → Option ((Unit × Int × Int) × (List TNode))) : Con := ⟨f66in, f66out, 2, 3, fun x => F x.1 x.2⟩
def f66ctx (k : Nat) : Ctx := ⟨tyAt tys, conAt [(39, [f39con (impl_within k)]), (98, [f98con (impl_treeReader_node k)])], 37, fun _ => false⟩
theorem f66hc (k : Nat) : CtxOk Tryz.prog (f66ctx k) := ctxOk tys_ok mixed_ok (consOk_cons (f39ok k) (consOk_cons (f98ok k) (consOk_nil)))
theorem f66ok (k : Nat) : FnOk Tryz.prog 66 (f66con (impl_TreeRead k)) :=
  let hc := f66hc k
  fnOk (fn := Tryz.f66) (code := bodyOf Tryz.f66) (res := [.tmp 4, .tmp 5, .tmp 6]) hc (by kernel_rfl) (by kernel_rfl) (by decide) (by kernel_rfl) (by kernel_rfl) (by kernel_rfl) (Nat.le_of_ble_eq_true (by kernel_rfl)) _
    (fun x => Snd.exec hc _ _ _ _)
    (fun x => by kernel_rfl)

def f139in : SS := ⟨[(0, (.ro (.st (.cons (.int .i64) (.cons (.int .i64) (.cons (.int .i64) (.cons .str (.cons (.int .i64) .nil))))))))], []⟩
def f139out : SS := ⟨[(0, (.ro .bool))], []⟩
def f139con (F : TNode → Option Bool) : Con := ⟨f139in, f139out, 1, 1, fun x => F x⟩
def f139ctx (k : Nat) : Ctx := ⟨tyAt tys, conAt [(128, [f128con (impl_isInt32 k)]), (154, [f154con (impl_isType k)])], 109, fun _ => false⟩
theorem f139hc (k : Nat) : CtxOk Tryz.prog (f139ctx k) := ctxOk tys_ok mixed_ok (consOk_cons (f128ok k) (consOk_cons (f154ok k) (consOk_nil)))
theorem f139ok (k : Nat) : FnOk Tryz.prog 139 (f139con (impl_nodeOk k)) :=
  let hc := f139hc k
  fnOk (fn := Tryz.f139) (code := bodyOf Tryz.f139) (res := [.tmp 2]) hc (by kernel_rfl) (by kernel_rfl) (by decide) (by kernel_rfl) (by kernel_rfl) (by kernel_rfl) (Nat.le_of_ble_eq_true (by kernel_rfl)) _
    (fun x => Snd.exec hc _ _ _ _)
    (fun x => by kernel_rfl)

def f105in : SS := ⟨[(0, (.p 0)), (1, (.ro (.int .i64))), (2, (.ro (.int .i64)))], [(0, (.obox (.st (.cons (.list 91 (.st (.cons (.int .i64) (.cons (.int .i64) (.cons (.int .i64) (.cons .str (.cons (.int .i64) .nil))))))) (.cons (.list 3 (.int .i64)) .nil))) (.agg (.cons (.ro (.list 91 (.st (.cons (.int .i64) (.cons (.int .i64) (.cons (.int .i64) (.cons .str (.cons (.int .i64) .nil)))))))) (.cons (.h 10) .nil))))), (10, (.sl 3 (.int .i64)))]⟩
def f105out : SS := ⟨[(0, (.ro (.int .i64)))], [(0, (.box (.st (.cons (.list 91 (.st (.cons (.int .i64) (.cons (.int .i64) (.cons (.int .i64) (.cons .str (.cons (.int .i64) .nil))))))) (.cons (.list 3 (.int .i64)) .nil))) (.agg (.cons (.ro (.list 91 (.st (.cons (.int .i64) (.cons (.int .i64) (.cons (.int .i64) (.cons .str (.cons (.int .i64) .nil)))))))) (.cons (.h 10) .nil))))), (10, (.sl 3 (.int .i64)))]⟩
def f105s7 : SS := ⟨[(0, (.p 0)), (1, (.ro (.int .i64))), (2, (.ro (.int .i64))), (7, (.p 100)), (8, (.ro (.int .i64))), (9, (.ro (.int .i64))), (43, (.ro (.int .i64))), (44, (.ro (.int .i64)))], [(0, (.box (.st (.cons (.list 91 (.st (.cons (.int .i64) (.cons (.int .i64) (.cons (.int .i64) (.cons .str (.cons (.int .i64) .nil))))))) (.cons (.list 3 (.int .i64)) .nil))) (.agg (.cons (.ro (.list 91 (.st (.cons (.int .i64) (.cons (.int .i64) (.cons (.int .i64) (.cons .str (.cons (.int .i64) .nil)))))))) (.cons (.h 10) .nil))))), (10, (.sl 3 (.int .i64))), (100, (.box (.st (.cons (.int .i64) (.cons (.int .i64) (.cons (.int .i64) (.cons .str (.cons (.int .i64) .nil)))))) (.agg (.cons (.ro (.int .i64)) (.cons (.ro (.int .i64)) (.cons (.ro (.int .i64)) (.cons (.ro .str) (.cons (.ro (.int .i64)) .nil))))))))]⟩
def f105con (F : Int → Int → (Bool × TTreeB) → (List Int) → Option (Int × TTreeB × (List Int))) : Con := ⟨f105in, f105out, 3, 1, fun x => F x.1.2.1 x.1.2.2 x.2.1 x.2.2⟩
def f105ctx (k : Nat) (S105 : Int → Int → (Bool × TTreeB) → (List Int) → Option (Int × TTreeB × (List Int))) : Ctx := ⟨tyAt tys, conAt [(39, [f39con (impl_within k)]), (105, [f105con S105]), (139, [f139con (impl_nodeOk k)])], 104, fun _ => false⟩
theorem f105hc (k : Nat) (S105 : Int → Int → (Bool × TTreeB) → (List Int) → Option (Int × TTreeB × (List Int))) (h105 : FnOk Tryz.prog 105 (f105con S105)) : CtxOk Tryz.prog (f105ctx k S105) := ctxOk tys_ok mixed_ok (consOk_cons (f39ok k) (consOk_cons (h105) (consOk_cons (f139ok k) (consOk_nil))))
theorem f105okb (k : Nat) (S105 : Int → Int → (Bool × TTreeB) → (List Int) → Option (Int × TTreeB × (List Int))) (h105 : FnOk Tryz.prog 105 (f105con S105)) : FnOk Tryz.prog 105 (f105con (impl_tree_measure.b k S105)) :=
  let hc := f105hc k S105 h105
  fnOk (fn := Tryz.f105) (code := bodyOf Tryz.f105) (res := [.tmp 6]) hc (by kernel_rfl) (by kernel_rfl) (by decide) (by kernel_rfl) (by kernel_rfl) (by kernel_rfl) (Nat.le_of_ble_eq_true (by kernel_rfl)) _
    (fun x => Snd.seq (by kernel_rfl) (Snd.seq (by kernel_rfl) (Snd.seq (by kernel_rfl) (Snd.seq (by kernel_rfl) (Snd.seq (by kernel_rfl) (Snd.seq (by kernel_rfl) (Snd.exec hc _ _ _ _) (Snd.seq (by kernel_rfl) (Snd.block (id := 0) (by kernel_rfl) (Snd.loop' (by kernel_rfl) f105s7 (fun n x => impl_tree_measure.l7 k S105 n x.1.2.1 x.1.2.2.1 x.1.2.2.2.2.1 x.1.2.2.2.2.2.1 x.1.2.2.2.2.2.2.1 x.1.2.2.2.2.2.2.2 x.2.1 x.2.2.1 x.2.2.2) _ (fun _ => rfl) (fun n7 => Snd.exec hc _ _ _ _) (fun n x => by kernel_rfl) k)) (Snd.exec hc _ _ _ _))) (Snd.exec hc _ _ _ _)) (Snd.exec hc _ _ _ _)) (Snd.exec hc _ _ _ _)) (Snd.exec hc _ _ _ _)) (Snd.exec hc _ _ _ _))
    (fun x => by kernel_rfl)
theorem f105rec (k : Nat) : ∀ d, FnOk Tryz.prog 105 (f105con (impl_tree_measure.d k d))
  | 0 => FnOk_none (fun _ => rfl)
  | d + 1 => let ih := f105rec k d
    f105okb k (impl_tree_measure.d k d) ih
theorem f105ok (k : Nat) : FnOk Tryz.prog 105 (f105con (impl_tree_measure k)) := (f105rec k k)

def f72in : SS := ⟨[(0, (.ro (.list 91 (.st (.cons (.int .i64) (.cons (.int .i64) (.cons (.int .i64) (.cons .str (.cons (.int .i64) .nil)))))))))], []⟩
def f72out : SS := ⟨[(0, (.p 100)), (1, (.ro .bool))], [(100, (.obox (.st (.cons (.list 91 (.st (.cons (.int .i64) (.cons (.int .i64) (.cons (.int .i64) (.cons .str (.cons (.int .i64) .nil))))))) (.cons (.list 3 (.int .i64)) .nil))) (.agg (.cons (.ro (.list 91 (.st (.cons (.int .i64) (.cons (.int .i64) (.cons (.int .i64) (.cons .str (.cons (.int .i64) .nil)))))))) (.cons (.h 101) .nil))))), (101, (.sl 3 (.int .i64)))]⟩
def f72con (F : (List TNode) → Option ((Unit × Bool) × (Bool × TTreeB) × (List Int))) : Con := ⟨f72in, f72out, 1, 2, fun x => F x⟩
def f72ctx (k : Nat) : Ctx := ⟨tyAt tys, conAt [(39, [f39con (impl_within k)]), (105, [f105con (impl_tree_measure k)])], 35, fun s => Nat.beq s 27⟩
theorem f72hc (k : Nat) : CtxOk Tryz.prog (f72ctx k) := ctxOk tys_ok mixed_ok (consOk_cons (f39ok k) (consOk_cons (f105ok k) (consOk_nil)))
theorem f72ok (k : Nat) : FnOk Tryz.prog 72 (f72con (impl_treeOf k)) :=
  let hc := f72hc k
  fnOk (fn := Tryz.f72) (code := bodyOf Tryz.f72) (res := [.tmp 2, .tmp 3]) hc (by kernel_rfl) (by kernel_rfl) (by decide) (by kernel_rfl) (by kernel_rfl) (by kernel_rfl) (Nat.le_of_ble_eq_true (by kernel_rfl)) _
    (fun x => Snd.exec hc _ _ _ _)
    (fun x => by kernel_rfl)

def f77in : SS := ⟨[(0, (.p 0)), (1, (.ro (.int .i64))), (2, (.ro (.int .i64)))], [(0, (.obox (.st (.cons (.list 91 (.st (.cons (.int .i64) (.cons (.int .i64) (.cons (.int .i64) (.cons .str (.cons (.int .i64) .nil))))))) (.cons (.list 3 (.int .i64)) .nil))) (.agg (.cons (.ro (.list 91 (.st (.cons (.int .i64) (.cons (.int .i64) (.cons (.int .i64) (.cons .str (.cons (.int .i64) .nil)))))))) (.cons (.h 10) .nil))))), (10, (.sl 3 (.int .i64)))]⟩
def f77out : SS := ⟨[(0, (.ro (.int .i64)))], [(0, (.box (.st (.cons (.list 91 (.st (.cons (.int .i64) (.cons (.int .i64) (.cons (.int .i64) (.cons .str (.cons (.int .i64) .nil))))))) (.cons (.list 3 (.int .i64)) .nil))) (.agg (.cons (.ro (.list 91 (.st (.cons (.int .i64) (.cons (.int .i64) (.cons (.int .i64) (.cons .str (.cons (.int .i64) .nil)))))))) (.cons (.h 10) .nil))))), (10, (.sl 3 (.int .i64)))]⟩
def f77s5 : SS := ⟨[(0, (.p 0)), (2, (.ro (.int .i64))), (7, (.ro (.int .i64))), (37, (.ro (.int .i64))), (38, (.ro (.int .i64)))], [(0, (.box (.st (.cons (.list 91 (.st (.cons (.int .i64) (.cons (.int .i64) (.cons (.int .i64) (.cons .str (.cons (.int .i64) .nil))))))) (.cons (.list 3 (.int .i64)) .nil))) (.agg (.cons (.ro (.list 91 (.st (.cons (.int .i64) (.cons (.int .i64) (.cons (.int .i64) (.cons .str (.cons (.int .i64) .nil)))))))) (.cons (.h 10) .nil))))), (10, (.sl 3 (.int .i64)))]⟩
def f77con (F : Int → Int → (Bool × TTreeB) → (List Int) → Option (Int × TTreeB × (List Int))) : Con := ⟨f77in, f77out, 3, 1, fun x => F x.1.2.1 x.1.2.2 x.2.1 x.2.2⟩
def f77ctx (k : Nat) : Ctx := ⟨tyAt tys, conAt [(39, [f39con (impl_within k)])], 59, fun _ => false⟩
theorem f77hc (k : Nat) : CtxOk Tryz.prog (f77ctx k) := ctxOk tys_ok mixed_ok (consOk_cons (f39ok k) (consOk_nil))
theorem f77ok (k : Nat) : FnOk Tryz.prog 77 (f77con (impl_tree_find k)) :=
  let hc := f77hc k
  fnOk (fn := Tryz.f77) (code := bodyOf Tryz.f77) (res := [.tmp 6]) hc (by kernel_rfl) (by kernel_rfl) (by decide) (by kernel_rfl) (by kernel_rfl) (by kernel_rfl) (Nat.le_of_ble_eq_true (by kernel_rfl)) _
    (fun x => Snd.seq (by kernel_rfl) (Snd.seq (by kernel_rfl) (Snd.seq (by kernel_rfl) (Snd.seq (by kernel_rfl) (Snd.exec hc _ _ _ _) (Snd.seq (by kernel_rfl) (Snd.block (id := 0) (by kernel_rfl) (Snd.loop' (by kernel_rfl) f77s5 (fun n x => impl_tree_find.l5 k n x.1.2.1 x.1.2.2.1 x.1.2.2.2.1 x.1.2.2.2.2 x.2.1 x.2.2) _ (fun _ => rfl) (fun n5 => Snd.exec hc _ _ _ _) (fun n x => by kernel_rfl) k)) (Snd.exec hc _ _ _ _))) (Snd.exec hc _ _ _ _)) (Snd.exec hc _ _ _ _)) (Snd.exec hc _ _ _ _))
    (fun x => by kernel_rfl)

def f133in : SS := ⟨[(0, (.p 0)), (1, (.ro (.int .i64))), (2, (.ro (.int .i64))), (3, (.ro (.int .i64)))], [(0, (.obox (.st (.cons (.list 91 (.st (.cons (.int .i64) (.cons (.int .i64) (.cons (.int .i64) (.cons .str (.cons (.int .i64) .nil))))))) (.cons (.list 3 (.int .i64)) .nil))) (.agg (.cons (.ro (.list 91 (.st (.cons (.int .i64) (.cons (.int .i64) (.cons (.int .i64) (.cons .str (.cons (.int .i64) .nil)))))))) (.cons (.h 10) .nil))))), (10, (.sl 3 (.int .i64)))]⟩
def f133out : SS := ⟨[(0, (.h 100)), (1, (.ro .bool))], [(0, (.box (.st (.cons (.list 91 (.st (.cons (.int .i64) (.cons (.int .i64) (.cons (.int .i64) (.cons .str (.cons (.int .i64) .nil))))))) (.cons (.list 3 (.int .i64)) .nil))) (.agg (.cons (.ro (.list 91 (.st (.cons (.int .i64) (.cons (.int .i64) (.cons (.int .i64) (.cons .str (.cons (.int .i64) .nil)))))))) (.cons (.h 10) .nil))))), (10, (.sl 3 (.int .i64))), (100, (.sl 3 (.int .i64)))]⟩
def f133s7 : SS := ⟨[(0, (.p 0)), (11, (.h 100)), (12, (.ro (.int .i64))), (63, (.ro (.int .i64))), (64, (.ro (.int .i64)))], [(0, (.box (.st (.cons (.list 91 (.st (.cons (.int .i64) (.cons (.int .i64) (.cons (.int .i64) (.cons .str (.cons (.int .i64) .nil))))))) (.cons (.list 3 (.int .i64)) .nil))) (.agg (.cons (.ro (.list 91 (.st (.cons (.int .i64) (.cons (.int .i64) (.cons (.int .i64) (.cons .str (.cons (.int .i64) .nil)))))))) (.cons (.h 10) .nil))))), (10, (.sl 3 (.int .i64))), (100, (.sl 3 (.int .i64)))]⟩
def f133con (F : Int → Int → Int → (Bool × TTreeB) → (List Int) → Option ((Unit × Bool) × TTreeB × (List Int) × (List Int))) : Con := ⟨f133in, f133out, 4, 2, fun x => F x.1.2.1 x.1.2.2.1 x.1.2.2.2 x.2.1 x.2.2⟩
def f133ctx (k : Nat) : Ctx := ⟨tyAt tys, conAt [(77, [f77con (impl_tree_find k)])], 79, fun _ => false⟩
theorem f133hc (k : Nat) : CtxOk Tryz.prog (f133ctx k) := ctxOk tys_ok mixed_ok (consOk_cons (f77ok k) (consOk_nil))
theorem f133ok (k : Nat) : FnOk Tryz.prog 133 (f133con (impl_tree_parts k)) :=
  let hc := f133hc k
  fnOk (fn := Tryz.f133) (code := bodyOf Tryz.f133) (res := [.tmp 8, .tmp 9]) hc (by kernel_rfl) (by kernel_rfl) (by decide) (by kernel_rfl) (by kernel_rfl) (by kernel_rfl) (Nat.le_of_ble_eq_true (by kernel_rfl)) _
    (fun x => Snd.seq (by kernel_rfl) (Snd.seq (by kernel_rfl) (Snd.seq (by kernel_rfl) (Snd.seq (by kernel_rfl) (Snd.seq (by kernel_rfl) (Snd.seq (by kernel_rfl) (Snd.exec hc _ _ _ _) (Snd.seq (by kernel_rfl) (Snd.block (id := 0) (by kernel_rfl) (Snd.loop' (by kernel_rfl) f133s7 (fun n x => impl_tree_parts.l7 k n x.1.2.2.1 x.1.2.2.2.1 x.1.2.2.2.2 x.2.1 x.2.2.1 x.2.2.2) _ (fun _ => rfl) (fun n7 => Snd.exec hc _ _ _ _) (fun n x => by kernel_rfl) k)) (Snd.exec hc _ _ _ _))) (Snd.exec hc _ _ _ _)) (Snd.exec hc _ _ _ _)) (Snd.exec hc _ _ _ _)) (Snd.exec hc _ _ _ _)) (Snd.exec hc _ _ _ _))
    (fun x => by kernel_rfl)

def f76in : SS := ⟨[(0, (.p 0)), (1, (.ro (.int .i64))), (2, (.ro (.int .i64))), (3, (.ro (.int .i64)))], [(0, (.obox (.st (.cons (.list 91 (.st (.cons (.int .i64) (.cons (.int .i64) (.cons (.int .i64) (.cons .str (.cons (.int .i64) .nil))))))) (.cons (.list 3 (.int .i64)) .nil))) (.agg (.cons (.ro (.list 91 (.st (.cons (.int .i64) (.cons (.int .i64) (.cons (.int .i64) (.cons .str (.cons (.int .i64) .nil)))))))) (.cons (.h 10) .nil))))), (10, (.sl 3 (.int .i64)))]⟩
def f76out : SS := ⟨[(0, (.agg (.cons (.ro (.int .i64)) (.cons (.ro (.int .i64)) (.cons (.ro (.int .i64)) (.cons (.ro .str) (.cons (.ro (.int .i64)) .nil))))))), (1, (.ro .bool))], [(0, (.box (.st (.cons (.list 91 (.st (.cons (.int .i64) (.cons (.int .i64) (.cons (.int .i64) (.cons .str (.cons (.int .i64) .nil))))))) (.cons (.list 3 (.int .i64)) .nil))) (.agg (.cons (.ro (.list 91 (.st (.cons (.int .i64) (.cons (.int .i64) (.cons (.int .i64) (.cons .str (.cons (.int .i64) .nil)))))))) (.cons (.h 10) .nil))))), (10, (.sl 3 (.int .i64)))]⟩
def f76con (F : Int → Int → Int → (Bool × TTreeB) → (List Int) → Option ((TNode × Bool) × TTreeB × (List Int))) : Con := ⟨f76in, f76out, 4, 2, fun x => F x.1.2.1 x.1.2.2.1 x.1.2.2.2 x.2.1 x.2.2⟩
def f76ctx (k : Nat) : Ctx := ⟨tyAt tys, conAt [(77, [f77con (impl_tree_find k)])], 37, fun _ => false⟩
theorem f76hc (k : Nat) : CtxOk Tryz.prog (f76ctx k) := ctxOk tys_ok mixed_ok (consOk_cons (f77ok k) (consOk_nil))
theorem f76ok (k : Nat) : FnOk Tryz.prog 76 (f76con (impl_tree_part k)) :=
  let hc := f76hc k
  fnOk (fn := Tryz.f76) (code := bodyOf Tryz.f76) (res := [.cell 8 91, .tmp 9]) hc (by kernel_rfl) (by kernel_rfl) (by decide) (by kernel_rfl) (by kernel_rfl) (by kernel_rfl) (Nat.le_of_ble_eq_true (by kernel_rfl)) _
    (fun x => Snd.exec hc _ _ _ _)
    (fun x => by kernel_rfl)

def f106in : SS := ⟨[(0, (.p 0)), (1, (.ro (.int .i64))), (2, (.ro (.int .i64)))], [(0, (.obox (.st (.cons (.list 91 (.st (.cons (.int .i64) (.cons (.int .i64) (.cons (.int .i64) (.cons .str (.cons (.int .i64) .nil))))))) (.cons (.list 3 (.int .i64)) .nil))) (.agg (.cons (.ro (.list 91 (.st (.cons (.int .i64) (.cons (.int .i64) (.cons (.int .i64) (.cons .str (.cons (.int .i64) .nil)))))))) (.cons (.h 10) .nil))))), (10, (.sl 3 (.int .i64)))]⟩
def f106out : SS := ⟨[(0, (.ro (.int .i64))), (1, (.ro .bool))], [(0, (.box (.st (.cons (.list 91 (.st (.cons (.int .i64) (.cons (.int .i64) (.cons (.int .i64) (.cons .str (.cons (.int .i64) .nil))))))) (.cons (.list 3 (.int .i64)) .nil))) (.agg (.cons (.ro (.list 91 (.st (.cons (.int .i64) (.cons (.int .i64) (.cons (.int .i64) (.cons .str (.cons (.int .i64) .nil)))))))) (.cons (.h 10) .nil))))), (10, (.sl 3 (.int .i64)))]⟩
def f106con (F : Int → Int → (Bool × TTreeB) → (List Int) → Option ((Int × Bool) × TTreeB × (List Int))) : Con := ⟨f106in, f106out, 3, 2, fun x => F x.1.2.1 x.1.2.2 x.2.1 x.2.2⟩
def f106ctx (k : Nat) : Ctx := ⟨tyAt tys, conAt [(77, [f77con (impl_tree_find k)])], 45, fun _ => false⟩
theorem f106hc (k : Nat) : CtxOk Tryz.prog (f106ctx k) := ctxOk tys_ok mixed_ok (consOk_cons (f77ok k) (consOk_nil))
theorem f106ok (k : Nat) : FnOk Tryz.prog 106 (f106con (impl_tree_num k)) :=
  let hc := f106hc k
  fnOk (fn := Tryz.f106) (code := bodyOf Tryz.f106) (res := [.tmp 6, .tmp 7]) hc (by kernel_rfl) (by kernel_rfl) (by decide) (by kernel_rfl) (by kernel_rfl) (by kernel_rfl) (Nat.le_of_ble_eq_true (by kernel_rfl)) _
    (fun x => Snd.exec hc _ _ _ _)
    (fun x => by kernel_rfl)

def f134in : SS := ⟨[(0, (.p 0)), (1, (.ro (.int .i64))), (2, (.ro .bool))], [(0, (.obox (.st (.cons (.list 91 (.st (.cons (.int .i64) (.cons (.int .i64) (.cons (.int .i64) (.cons .str (.cons (.int .i64) .nil))))))) (.cons (.list 3 (.int .i64)) .nil))) (.agg (.cons (.ro (.list 91 (.st (.cons (.int .i64) (.cons (.int .i64) (.cons (.int .i64) (.cons .str (.cons (.int .i64) .nil)))))))) (.cons (.h 10) .nil))))), (10, (.sl 3 (.int .i64)))]⟩
def f134out : SS := ⟨[(0, (.agg (.cons (.ro .str) (.cons (.ro (.int .i64)) (.cons (.ro (.int .i64)) (.cons (.ro (.int .i64)) .nil)))))), (1, (.ro .bool))], [(0, (.box (.st (.cons (.list 91 (.st (.cons (.int .i64) (.cons (.int .i64) (.cons (.int .i64) (.cons .str (.cons (.int .i64) .nil))))))) (.cons (.list 3 (.int .i64)) .nil))) (.agg (.cons (.ro (.list 91 (.st (.cons (.int .i64) (.cons (.int .i64) (.cons (.int .i64) (.cons .str (.cons (.int .i64) .nil)))))))) (.cons (.h 10) .nil))))), (10, (.sl 3 (.int .i64)))]⟩
def f134s11 : SS := ⟨[(6, (.p 100)), (9, (.ro .bool)), (11, (.ro .bool)), (13, (.ro .bool)), (16, (.p 101))], [(0, (.box (.st (.cons (.list 91 (.st (.cons (.int .i64) (.cons (.int .i64) (.cons (.int .i64) (.cons .str (.cons (.int .i64) .nil))))))) (.cons (.list 3 (.int .i64)) .nil))) (.agg (.cons (.ro (.list 91 (.st (.cons (.int .i64) (.cons (.int .i64) (.cons (.int .i64) (.cons .str (.cons (.int .i64) .nil)))))))) (.cons (.h 10) .nil))))), (10, (.sl 3 (.int .i64))), (100, (.box (.st (.cons .str (.cons (.int .i64) (.cons (.int .i64) (.cons (.int .i64) .nil))))) (.agg (.cons (.ro .str) (.cons (.ro (.int .i64)) (.cons (.ro (.int .i64)) (.cons (.ro (.int .i64)) .nil))))))), (101, (.box (.st (.cons .str (.cons (.int .i64) (.cons (.int .i64) (.cons (.int .i64) .nil))))) (.agg (.cons (.ro .str) (.cons (.ro (.int .i64)) (.cons (.ro (.int .i64)) (.cons (.ro (.int .i64)) .nil)))))))]⟩
def f134s8 : SS := ⟨[(0, (.p 0)), (1, (.ro (.int .i64))), (6, (.p 100)), (9, (.ro .bool)), (11, (.ro .bool)), (13, (.ro .bool)), (14, (.ro (.int .i64))), (15, (.ro .bool)), (16, (.p 101))], [(0, (.box (.st (.cons (.list 91 (.st (.cons (.int .i64) (.cons (.int .i64) (.cons (.int .i64) (.cons .str (.cons (.int .i64) .nil))))))) (.cons (.list 3 (.int .i64)) .nil))) (.agg (.cons (.ro (.list 91 (.st (.cons (.int .i64) (.cons (.int .i64) (.cons (.int .i64) (.cons .str (.cons (.int .i64) .nil)))))))) (.cons (.h 10) .nil))))), (10, (.sl 3 (.int .i64))), (100, (.box (.st (.cons .str (.cons (.int .i64) (.cons (.int .i64) (.cons (.int .i64) .nil))))) (.agg (.cons (.ro .str) (.cons (.ro (.int .i64)) (.cons (.ro (.int .i64)) (.cons (.ro (.int .i64)) .nil))))))), (101, (.box (.st (.cons .str (.cons (.int .i64) (.cons (.int .i64) (.cons (.int .i64) .nil))))) (.agg (.cons (.ro .str) (.cons (.ro (.int .i64)) (.cons (.ro (.int .i64)) (.cons (.ro (.int .i64)) .nil)))))))]⟩
def f134con (F : Int → Bool → (Bool × TTreeB) → (List Int) → Option ((TCol × Bool) × TTreeB × (List Int))) : Con := ⟨f134in, f134out, 3, 2, fun x => F x.1.2.1 x.1.2.2 x.2.1 x.2.2⟩
def f134ctx (k : Nat) : Ctx := ⟨tyAt tys, conAt [(76, [f76con (impl_tree_part k)]), (77, [f77con (impl_tree_find k)]), (106, [f106con (impl_tree_num k)])], 70, fun s => Nat.beq s 56⟩
theorem f134hc (k : Nat) : CtxOk Tryz.prog (f134ctx k) := ctxOk tys_ok mixed_ok (consOk_cons (f76ok k) (consOk_cons (f77ok k) (consOk_cons (f106ok k) (consOk_nil))))
theorem f134ok (k : Nat) : FnOk Tryz.prog 134 (f134con (impl_tree_col k)) :=
  let hc := f134hc k
  fnOk (fn := Tryz.f134) (code := bodyOf Tryz.f134) (res := [.cell 6 105, .tmp 7]) hc (by kernel_rfl) (by kernel_rfl) (by decide) (by kernel_rfl) (by kernel_rfl) (by kernel_rfl) (Nat.le_of_ble_eq_true (by kernel_rfl)) _
    (fun x => Snd.seq (by kernel_rfl) (Snd.seq (by kernel_rfl) (Snd.seq (by kernel_rfl) (Snd.seq (by kernel_rfl) (Snd.seq (by kernel_rfl) (Snd.seq (by kernel_rfl) (Snd.seq (by kernel_rfl) (Snd.cut (Snd.seq (by kernel_rfl) (Snd.cut (Snd.exec hc _ _ _ _) ⟨f134s11, fun x => impl_tree_col.c11 k x.1.2.1 x.1.2.2.1 x.1.2.2.2.1 x.2.1 x.2.2.1 x.2.2.2.1 x.2.2.2.2⟩ (fun x => by kernel_rfl)) (Snd.exec hc _ _ _ _)) ⟨f134s8, fun x => impl_tree_col.c8 k x.1.2.1 x.1.2.2.2.1 x.1.2.2.2.2.1 x.1.2.2.2.2.2.1 x.1.2.2.2.2.2.2.1 x.1.2.2.2.2.2.2.2.1 x.2.1 x.2.2.1 x.2.2.2.1 x.2.2.2.2⟩ (fun x => by kernel_rfl)) (Snd.exec hc _ _ _ _)) (Snd.exec hc _ _ _ _)) (Snd.exec hc _ _ _ _)) (Snd.exec hc _ _ _ _)) (Snd.exec hc _ _ _ _)) (Snd.exec hc _ _ _ _)) (Snd.exec hc _ _ _ _))
    (fun x => by kernel_rfl)

def f61in : SS := ⟨[(0, (.ro (.int .i64)))], []⟩
def f61out : SS := ⟨[(0, (.ro .bool))], []⟩
def f61con (F : Int → Option Bool) : Con := ⟨f61in, f61out, 1, 1, fun x => F x⟩
def f61ctx (k : Nat) : Ctx := ⟨tyAt tys, conAt [(39, [f39con (impl_within k)])], 13, fun _ => false⟩
theorem f61hc (k : Nat) : CtxOk Tryz.prog (f61ctx k) := ctxOk tys_ok mixed_ok (consOk_cons (f39ok k) (consOk_nil))
theorem f61ok (k : Nat) : FnOk Tryz.prog 61 (f61con (impl_TypeOk k)) :=
  let hc := f61hc k
  fnOk (fn := Tryz.f61) (code := bodyOf Tryz.f61) (res := [.tmp 2]) hc (by kernel_rfl) (by kernel_rfl) (by decide) (by kernel_rfl) (by kernel_rfl) (by kernel_rfl) (Nat.le_of_ble_eq_true (by kernel_rfl)) _
    (fun x => Snd.exec hc _ _ _ _)
    (fun x => by kernel_rfl)

def f167in : SS := ⟨[(0, (.ro (.st (.cons .str (.cons (.int .i64) (.cons (.int .i64) (.cons (.int .i64) .nil)))))))], []⟩
def f167out : SS := ⟨[(0, (.ro .bool))], []⟩
def f167con (F : TCol → Option Bool) : Con := ⟨f167in, f167out, 1, 1, fun x => F x⟩
def f167ctx (k : Nat) : Ctx := ⟨tyAt tys, conAt [(39, [f39con (impl_within k)]), (61, [f61con (impl_TypeOk k)])], 30, fun _ => false⟩
theorem f167hc (k : Nat) : CtxOk Tryz.prog (f167ctx k) := ctxOk tys_ok mixed_ok (consOk_cons (f39ok k) (consOk_cons (f61ok k) (consOk_nil)))
theorem f167ok (k : Nat) : FnOk Tryz.prog 167 (f167con (impl_colOk k)) :=
  let hc := f167hc k
  fnOk (fn := Tryz.f167) (code := bodyOf Tryz.f167) (res := [.tmp 2]) hc (by kernel_rfl) (by kernel_rfl) (by decide) (by kernel_rfl) (by kernel_rfl) (by kernel_rfl) (Nat.le_of_ble_eq_true (by kernel_rfl)) _
    (fun x => Snd.exec hc _ _ _ _)
    (fun x => by kernel_rfl)

def f168in : SS := ⟨[(0, (.ro .str))], []⟩
def f168out : SS := ⟨[(0, (.ro .bool))], []⟩
def f168s2 : SS := ⟨[(0, (.ro .str)), (5, (.ro (.int .i64))), (6, (.ro (.int .i64)))], []⟩
def f168con (F : ByteArray → Option Bool) : Con := ⟨f168in, f168out, 1, 1, fun x => F x⟩
def f168ctx (k : Nat) : Ctx := ⟨tyAt tys, conAt [(39, [f39con (impl_within k)])], 19, fun _ => false⟩
theorem f168hc (k : Nat) : CtxOk Tryz.prog (f168ctx k) := ctxOk tys_ok mixed_ok (consOk_cons (f39ok k) (consOk_nil))
theorem f168ok (k : Nat) : FnOk Tryz.prog 168 (f168con (impl_isColName k)) :=
  let hc := f168hc k
  fnOk (fn := Tryz.f168) (code := bodyOf Tryz.f168) (res := [.tmp 2]) hc (by kernel_rfl) (by kernel_rfl) (by decide) (by kernel_rfl) (by kernel_rfl) (by kernel_rfl) (Nat.le_of_ble_eq_true (by kernel_rfl)) _
    (fun x => Snd.seq (by kernel_rfl) (Snd.seq (by kernel_rfl) (Snd.exec hc _ _ _ _) (Snd.seq (by kernel_rfl) (Snd.block (id := 0) (by kernel_rfl) (Snd.loop' (by kernel_rfl) f168s2 (fun n x => impl_isColName.l2 k n x.1 x.2.1 x.2.2) _ (fun _ => rfl) (fun n2 => Snd.exec hc _ _ _ _) (fun n x => by kernel_rfl) k)) (Snd.exec hc _ _ _ _))) (Snd.exec hc _ _ _ _))
    (fun x => by kernel_rfl)

def f155in : SS := ⟨[(0, (.ro (.list 105 (.st (.cons .str (.cons (.int .i64) (.cons (.int .i64) (.cons (.int .i64) .nil)))))))), (1, (.ro (.int .i64))), (2, (.ro (.int .i64)))], []⟩
def f155out : SS := ⟨[(0, (.ro (.int .i64)))], []⟩
def f155s10 : SS := ⟨[(0, (.ro (.list 105 (.st (.cons .str (.cons (.int .i64) (.cons (.int .i64) (.cons (.int .i64) .nil)))))))), (2, (.ro (.int .i64))), (7, (.ro (.int .i64))), (8, (.h 100)), (47, (.ro (.int .i64))), (48, (.ro (.int .i64))), (54, (.h 100)), (55, (.ro (.int .i64))), (56, (.ro (.int .i64)))], [(100, (.sl 9 .str))]⟩
def f155s6 : SS := ⟨[(0, (.ro (.list 105 (.st (.cons .str (.cons (.int .i64) (.cons (.int .i64) (.cons (.int .i64) .nil)))))))), (2, (.ro (.int .i64))), (7, (.ro (.int .i64))), (8, (.h 100)), (47, (.ro (.int .i64))), (48, (.ro (.int .i64)))], [(100, (.sl 9 .str))]⟩
def f155con (F : (List TCol) → Int → Int → Option Int) : Con := ⟨f155in, f155out, 3, 1, fun x => F x.1 x.2.1 x.2.2⟩
def f155ctx (k : Nat) (S155 : (List TCol) → Int → Int → Option Int) : Ctx := ⟨tyAt tys, conAt [(155, [f155con S155]), (167, [f167con (impl_colOk k)]), (168, [f168con (impl_isColName k)])], 85, fun _ => false⟩
theorem f155hc (k : Nat) (S155 : (List TCol) → Int → Int → Option Int) (h155 : FnOk Tryz.prog 155 (f155con S155)) : CtxOk Tryz.prog (f155ctx k S155) := ctxOk tys_ok mixed_ok (consOk_cons (h155) (consOk_cons (f167ok k) (consOk_cons (f168ok k) (consOk_nil))))
theorem f155okb (k : Nat) (S155 : (List TCol) → Int → Int → Option Int) (h155 : FnOk Tryz.prog 155 (f155con S155)) : FnOk Tryz.prog 155 (f155con (impl_colAfter.b k S155)) :=
  let hc := f155hc k S155 h155
  fnOk (fn := Tryz.f155) (code := bodyOf Tryz.f155) (res := [.tmp 6]) hc (by kernel_rfl) (by kernel_rfl) (by decide) (by kernel_rfl) (by kernel_rfl) (by kernel_rfl) (Nat.le_of_ble_eq_true (by kernel_rfl)) _
    (fun x => Snd.seq (by kernel_rfl) (Snd.seq (by kernel_rfl) (Snd.seq (by kernel_rfl) (Snd.seq (by kernel_rfl) (Snd.seq (by kernel_rfl) (Snd.exec hc _ _ _ _) (Snd.seq (by kernel_rfl) (Snd.block (id := 0) (by kernel_rfl) (Snd.loop' (by kernel_rfl) f155s6 (fun n x => impl_colAfter.l6 k S155 n x.1.1 x.1.2.1 x.1.2.2.1 x.1.2.2.2.2.1 x.1.2.2.2.2.2 x.2) _ (fun _ => rfl) (fun n6 => Snd.seq (by kernel_rfl) (Snd.seq (by kernel_rfl) (Snd.seq (by kernel_rfl) (Snd.exec hc _ _ _ _) (Snd.block (id := 1) (by kernel_rfl) (Snd.seq (by kernel_rfl) (Snd.seq (by kernel_rfl) (Snd.exec hc _ _ _ _) (Snd.seq (by kernel_rfl) (Snd.block (id := 2) (by kernel_rfl) (Snd.loop' (by kernel_rfl) f155s10 (fun n x => impl_colAfter.l10 k S155 (impl_colAfter.l6 k S155 n6) n x.1.1 x.1.2.1 x.1.2.2.1 x.1.2.2.2.2.1 x.1.2.2.2.2.2.1 x.1.2.2.2.2.2.2.2.1 x.1.2.2.2.2.2.2.2.2 x.2) _ (fun _ => rfl) (fun n10 => Snd.exec hc _ _ _ _) (fun n x => by kernel_rfl) k)) (Snd.exec hc _ _ _ _))) (Snd.exec hc _ _ _ _)))) (Snd.exec hc _ _ _ _)) (Snd.exec hc _ _ _ _)) (fun n x => by kernel_rfl) k)) (Snd.exec hc _ _ _ _))) (Snd.exec hc _ _ _ _)) (Snd.exec hc _ _ _ _)) (Snd.exec hc _ _ _ _)) (Snd.exec hc _ _ _ _))
    (fun x => by kernel_rfl)
theorem f155rec (k : Nat) : ∀ d, FnOk Tryz.prog 155 (f155con (impl_colAfter.d k d))
  | 0 => FnOk_none (fun _ => rfl)
  | d + 1 => let ih := f155rec k d
    f155okb k (impl_colAfter.d k d) ih
theorem f155ok (k : Nat) : FnOk Tryz.prog 155 (f155con (impl_colAfter k)) := (f155rec k k)

def f135in : SS := ⟨[(0, (.ro (.list 105 (.st (.cons .str (.cons (.int .i64) (.cons (.int .i64) (.cons (.int .i64) .nil))))))))], []⟩
def f135out : SS := ⟨[(0, (.ro .bool))], []⟩
def f135con (F : (List TCol) → Option Bool) : Con := ⟨f135in, f135out, 1, 1, fun x => F x⟩
def f135ctx (k : Nat) : Ctx := ⟨tyAt tys, conAt [(39, [f39con (impl_within k)]), (155, [f155con (impl_colAfter k)])], 33, fun _ => false⟩
theorem f135hc (k : Nat) : CtxOk Tryz.prog (f135ctx k) := ctxOk tys_ok mixed_ok (consOk_cons (f39ok k) (consOk_cons (f155ok k) (consOk_nil)))
theorem f135ok (k : Nat) : FnOk Tryz.prog 135 (f135con (impl_SchemaOk k)) :=
  let hc := f135hc k
  fnOk (fn := Tryz.f135) (code := bodyOf Tryz.f135) (res := [.tmp 2]) hc (by kernel_rfl) (by kernel_rfl) (by decide) (by kernel_rfl) (by kernel_rfl) (by kernel_rfl) (Nat.le_of_ble_eq_true (by kernel_rfl)) _
    (fun x => Snd.exec hc _ _ _ _)
    (fun x => by kernel_rfl)

def f99in : SS := ⟨[(0, (.p 0)), (1, (.ro (.int .i64)))], [(0, (.obox (.st (.cons (.list 91 (.st (.cons (.int .i64) (.cons (.int .i64) (.cons (.int .i64) (.cons .str (.cons (.int .i64) .nil))))))) (.cons (.list 3 (.int .i64)) .nil))) (.agg (.cons (.ro (.list 91 (.st (.cons (.int .i64) (.cons (.int .i64) (.cons (.int .i64) (.cons .str (.cons (.int .i64) .nil)))))))) (.cons (.h 10) .nil))))), (10, (.sl 3 (.int .i64)))]⟩
def f99out : SS := ⟨[(0, (.h 100)), (1, (.ro .bool))], [(0, (.box (.st (.cons (.list 91 (.st (.cons (.int .i64) (.cons (.int .i64) (.cons (.int .i64) (.cons .str (.cons (.int .i64) .nil))))))) (.cons (.list 3 (.int .i64)) .nil))) (.agg (.cons (.ro (.list 91 (.st (.cons (.int .i64) (.cons (.int .i64) (.cons (.int .i64) (.cons .str (.cons (.int .i64) .nil)))))))) (.cons (.h 10) .nil))))), (10, (.sl 3 (.int .i64))), (100, (.sl 105 (.st (.cons .str (.cons (.int .i64) (.cons (.int .i64) (.cons (.int .i64) .nil)))))))]⟩
def f99s6 : SS := ⟨[(0, (.p 0)), (8, (.h 100)), (22, (.h 101)), (23, (.ro (.int .i64))), (24, (.ro (.int .i64)))], [(0, (.box (.st (.cons (.list 91 (.st (.cons (.int .i64) (.cons (.int .i64) (.cons (.int .i64) (.cons .str (.cons (.int .i64) .nil))))))) (.cons (.list 3 (.int .i64)) .nil))) (.agg (.cons (.ro (.list 91 (.st (.cons (.int .i64) (.cons (.int .i64) (.cons (.int .i64) (.cons .str (.cons (.int .i64) .nil)))))))) (.cons (.h 10) .nil))))), (10, (.sl 3 (.int .i64))), (100, (.sl 105 (.st (.cons .str (.cons (.int .i64) (.cons (.int .i64) (.cons (.int .i64) .nil))))))), (101, (.sl 3 (.int .i64)))]⟩
def f99con (F : Int → (Bool × TTreeB) → (List Int) → Option ((Unit × Bool) × TTreeB × (List Int) × (List TCol))) : Con := ⟨f99in, f99out, 2, 2, fun x => F x.1.2 x.2.1 x.2.2⟩
def f99ctx (k : Nat) : Ctx := ⟨tyAt tys, conAt [(133, [f133con (impl_tree_parts k)]), (134, [f134con (impl_tree_col k)]), (135, [f135con (impl_SchemaOk k)])], 62, fun _ => false⟩
theorem f99hc (k : Nat) : CtxOk Tryz.prog (f99ctx k) := ctxOk tys_ok mixed_ok (consOk_cons (f133ok k) (consOk_cons (f134ok k) (consOk_cons (f135ok k) (consOk_nil))))
theorem f99ok (k : Nat) : FnOk Tryz.prog 99 (f99con (impl_tree_schema k)) :=
  let hc := f99hc k
  fnOk (fn := Tryz.f99) (code := bodyOf Tryz.f99) (res := [.tmp 4, .tmp 5]) hc (by kernel_rfl) (by kernel_rfl) (by decide) (by kernel_rfl) (by kernel_rfl) (by kernel_rfl) (Nat.le_of_ble_eq_true (by kernel_rfl)) _
    (fun x => Snd.seq (by kernel_rfl) (Snd.seq (by kernel_rfl) (Snd.seq (by kernel_rfl) (Snd.seq (by kernel_rfl) (Snd.seq (by kernel_rfl) (Snd.exec hc _ _ _ _) (Snd.seq (by kernel_rfl) (Snd.block (id := 0) (by kernel_rfl) (Snd.loop' (by kernel_rfl) f99s6 (fun n x => impl_tree_schema.l6 k n x.1.2.2.2.1 x.1.2.2.2.2 x.2.1 x.2.2.1 x.2.2.2.1 x.2.2.2.2) _ (fun _ => rfl) (fun n6 => Snd.exec hc _ _ _ _) (fun n x => by kernel_rfl) k)) (Snd.exec hc _ _ _ _))) (Snd.exec hc _ _ _ _)) (Snd.exec hc _ _ _ _)) (Snd.exec hc _ _ _ _)) (Snd.exec hc _ _ _ _))
    (fun x => by kernel_rfl)

def f137in : SS := ⟨[(0, (.ro (.list 105 (.st (.cons .str (.cons (.int .i64) (.cons (.int .i64) (.cons (.int .i64) .nil))))))))], []⟩
def f137out : SS := ⟨[(0, (.h 100))], [(100, (.sl 3 (.int .i64)))]⟩
def f137s7 : SS := ⟨[(3, (.h 100)), (7, (.ro (.list 105 (.st (.cons .str (.cons (.int .i64) (.cons (.int .i64) (.cons (.int .i64) .nil)))))))), (8, (.ro (.int .i64))), (9, (.ro (.int .i64)))], [(100, (.sl 3 (.int .i64)))]⟩
def f137s3 : SS := ⟨[(3, (.h 100)), (7, (.ro (.list 105 (.st (.cons .str (.cons (.int .i64) (.cons (.int .i64) (.cons (.int .i64) .nil)))))))), (8, (.ro (.int .i64))), (9, (.ro (.int .i64)))], [(100, (.sl 3 (.int .i64)))]⟩
def f137con (F : (List TCol) → Option (Unit × (List Int))) : Con := ⟨f137in, f137out, 1, 1, fun x => F x⟩
def f137ctx (k : Nat) : Ctx := ⟨tyAt tys, conAt [], 23, fun _ => false⟩
theorem f137hc (k : Nat) : CtxOk Tryz.prog (f137ctx k) := ctxOk tys_ok mixed_ok (consOk_nil)
theorem f137ok (k : Nat) : FnOk Tryz.prog 137 (f137con (impl_leavesOf k)) :=
  let hc := f137hc k
  fnOk (fn := Tryz.f137) (code := bodyOf Tryz.f137) (res := [.tmp 2]) hc (by kernel_rfl) (by kernel_rfl) (by decide) (by kernel_rfl) (by kernel_rfl) (by kernel_rfl) (Nat.le_of_ble_eq_true (by kernel_rfl)) _
    (fun x => Snd.seq (by kernel_rfl) (Snd.seq (by kernel_rfl) (Snd.seq (by kernel_rfl) (Snd.exec hc _ _ _ _) (Snd.seq (by kernel_rfl) (Snd.block (id := 0) (by kernel_rfl) (Snd.loop' (by kernel_rfl) f137s3 (fun n x => impl_leavesOf.l3 k n x.1.2.1 x.1.2.2.1 x.1.2.2.2 x.2) _ (fun _ => rfl) (fun n3 => Snd.seq (by kernel_rfl) (Snd.seq (by kernel_rfl) (Snd.seq (by kernel_rfl) (Snd.cut (Snd.exec hc _ _ _ _) ⟨f137s7, fun x => impl_leavesOf.c7 k (impl_leavesOf.l3 k n3) x.1.2.1 x.1.2.2.1 x.1.2.2.2 x.2⟩ (fun x => by kernel_rfl)) (Snd.exec hc _ _ _ _)) (Snd.exec hc _ _ _ _)) (Snd.exec hc _ _ _ _)) (fun n x => by kernel_rfl) k)) (Snd.exec hc _ _ _ _))) (Snd.exec hc _ _ _ _)) (Snd.exec hc _ _ _ _))
    (fun x => by kernel_rfl)

def f159in : SS := ⟨[(0, (.ro (.list 3 (.int .i64))))], []⟩
def f159out : SS := ⟨[(0, (.ro .bool))], []⟩
def f159s2 : SS := ⟨[(0, (.ro (.list 3 (.int .i64)))), (5, (.ro (.list 3 (.int .i64)))), (6, (.ro (.int .i64))), (7, (.ro (.int .i64)))], []⟩
def f159con (F : (List Int) → Option Bool) : Con := ⟨f159in, f159out, 1, 1, fun x => F x⟩
def f159ctx (k : Nat) : Ctx := ⟨tyAt tys, conAt [(39, [f39con (impl_within k)])], 32, fun _ => false⟩
theorem f159hc (k : Nat) : CtxOk Tryz.prog (f159ctx k) := ctxOk tys_ok mixed_ok (consOk_cons (f39ok k) (consOk_nil))
theorem f159ok (k : Nat) : FnOk Tryz.prog 159 (f159con (impl_encsRight k)) :=
  let hc := f159hc k
  fnOk (fn := Tryz.f159) (code := bodyOf Tryz.f159) (res := [.tmp 2]) hc (by kernel_rfl) (by kernel_rfl) (by decide) (by kernel_rfl) (by kernel_rfl) (by kernel_rfl) (Nat.le_of_ble_eq_true (by kernel_rfl)) _
    (fun x => Snd.seq (by kernel_rfl) (Snd.seq (by kernel_rfl) (Snd.exec hc _ _ _ _) (Snd.seq (by kernel_rfl) (Snd.block (id := 0) (by kernel_rfl) (Snd.loop' (by kernel_rfl) f159s2 (fun n x => impl_encsRight.l2 k n x.1 x.2.1 x.2.2.1 x.2.2.2) _ (fun _ => rfl) (fun n2 => Snd.exec hc _ _ _ _) (fun n x => by kernel_rfl) k)) (Snd.exec hc _ _ _ _))) (Snd.exec hc _ _ _ _))
    (fun x => by kernel_rfl)

def f138in : SS := ⟨[(0, (.ro (.st (.cons (.int .i64) (.cons (.int .i64) (.cons (.int .i64) (.cons (.int .i64) (.cons (.int .i64) (.cons (.list 3 (.int .i64)) .nil))))))))), (1, (.ro (.int .i64)))], []⟩
def f138out : SS := ⟨[(0, (.ro .bool))], []⟩
def f138con (F : TChunk → Int → Option Bool) : Con := ⟨f138in, f138out, 2, 1, fun x => F x.1 x.2⟩
def f138ctx (k : Nat) : Ctx := ⟨tyAt tys, conAt [(39, [f39con (impl_within k)]), (159, [f159con (impl_encsRight k)])], 36, fun _ => false⟩
theorem f138hc (k : Nat) : CtxOk Tryz.prog (f138ctx k) := ctxOk tys_ok mixed_ok (consOk_cons (f39ok k) (consOk_cons (f159ok k) (consOk_nil)))
theorem f138ok (k : Nat) : FnOk Tryz.prog 138 (f138con (impl_chunkOk k)) :=
  let hc := f138hc k
  fnOk (fn := Tryz.f138) (code := bodyOf Tryz.f138) (res := [.tmp 4]) hc (by kernel_rfl) (by kernel_rfl) (by decide) (by kernel_rfl) (by kernel_rfl) (by kernel_rfl) (Nat.le_of_ble_eq_true (by kernel_rfl)) _
    (fun x => Snd.exec hc _ _ _ _)
    (fun x => by kernel_rfl)

def f103in : SS := ⟨[(0, (.ro (.st (.cons (.list 105 (.st (.cons .str (.cons (.int .i64) (.cons (.int .i64) (.cons (.int .i64) .nil)))))) (.cons (.int .i64) (.cons (.list 109 (.st (.cons (.int .i64) (.cons (.list 51 (.st (.cons (.int .i64) (.cons (.int .i64) (.cons (.int .i64) (.cons (.int .i64) (.cons (.int .i64) (.cons (.list 3 (.int .i64)) .nil)))))))) .nil)))) .nil))))))], []⟩
def f103out : SS := ⟨[(0, (.ro .bool))], []⟩
def f103s10 : SS := ⟨[(1, (.p 100)), (3, (.ro (.int .i64))), (5, (.p 101)), (19, (.ro (.list 109 (.st (.cons (.int .i64) (.cons (.list 51 (.st (.cons (.int .i64) (.cons (.int .i64) (.cons (.int .i64) (.cons (.int .i64) (.cons (.int .i64) (.cons (.list 3 (.int .i64)) .nil)))))))) .nil)))))), (20, (.ro (.int .i64))), (21, (.ro (.int .i64))), (40, (.ro (.list 51 (.st (.cons (.int .i64) (.cons (.int .i64) (.cons (.int .i64) (.cons (.int .i64) (.cons (.int .i64) (.cons (.list 3 (.int .i64)) .nil)))))))))), (41, (.ro (.int .i64))), (42, (.ro (.int .i64)))], [(100, (.box (.st (.cons (.list 105 (.st (.cons .str (.cons (.int .i64) (.cons (.int .i64) (.cons (.int .i64) .nil)))))) (.cons (.int .i64) (.cons (.list 109 (.st (.cons (.int .i64) (.cons (.list 51 (.st (.cons (.int .i64) (.cons (.int .i64) (.cons (.int .i64) (.cons (.int .i64) (.cons (.int .i64) (.cons (.list 3 (.int .i64)) .nil)))))))) .nil)))) .nil)))) (.agg (.cons (.ro (.list 105 (.st (.cons .str (.cons (.int .i64) (.cons (.int .i64) (.cons (.int .i64) .nil))))))) (.cons (.ro (.int .i64)) (.cons (.ro (.list 109 (.st (.cons (.int .i64) (.cons (.list 51 (.st (.cons (.int .i64) (.cons (.int .i64) (.cons (.int .i64) (.cons (.int .i64) (.cons (.int .i64) (.cons (.list 3 (.int .i64)) .nil)))))))) .nil))))) .nil)))))), (101, (.box (.st (.cons (.int .i64) (.cons (.list 51 (.st (.cons (.int .i64) (.cons (.int .i64) (.cons (.int .i64) (.cons (.int .i64) (.cons (.int .i64) (.cons (.list 3 (.int .i64)) .nil)))))))) .nil))) (.agg (.cons (.ro (.int .i64)) (.cons (.ro (.list 51 (.st (.cons (.int .i64) (.cons (.int .i64) (.cons (.int .i64) (.cons (.int .i64) (.cons (.int .i64) (.cons (.list 3 (.int .i64)) .nil))))))))) .nil)))))]⟩
def f103d7 : SS := ⟨[(1, (.p 100)), (3, (.ro (.int .i64))), (5, (.p 101)), (19, (.ro (.list 109 (.st (.cons (.int .i64) (.cons (.list 51 (.st (.cons (.int .i64) (.cons (.int .i64) (.cons (.int .i64) (.cons (.int .i64) (.cons (.int .i64) (.cons (.list 3 (.int .i64)) .nil)))))))) .nil)))))), (20, (.ro (.int .i64))), (21, (.ro (.int .i64)))], [(100, (.box (.st (.cons (.list 105 (.st (.cons .str (.cons (.int .i64) (.cons (.int .i64) (.cons (.int .i64) .nil)))))) (.cons (.int .i64) (.cons (.list 109 (.st (.cons (.int .i64) (.cons (.list 51 (.st (.cons (.int .i64) (.cons (.int .i64) (.cons (.int .i64) (.cons (.int .i64) (.cons (.int .i64) (.cons (.list 3 (.int .i64)) .nil)))))))) .nil)))) .nil)))) (.agg (.cons (.ro (.list 105 (.st (.cons .str (.cons (.int .i64) (.cons (.int .i64) (.cons (.int .i64) .nil))))))) (.cons (.ro (.int .i64)) (.cons (.ro (.list 109 (.st (.cons (.int .i64) (.cons (.list 51 (.st (.cons (.int .i64) (.cons (.int .i64) (.cons (.int .i64) (.cons (.int .i64) (.cons (.int .i64) (.cons (.list 3 (.int .i64)) .nil)))))))) .nil))))) .nil)))))), (101, (.box (.st (.cons (.int .i64) (.cons (.list 51 (.st (.cons (.int .i64) (.cons (.int .i64) (.cons (.int .i64) (.cons (.int .i64) (.cons (.int .i64) (.cons (.list 3 (.int .i64)) .nil)))))))) .nil))) (.agg (.cons (.ro (.int .i64)) (.cons (.ro (.list 51 (.st (.cons (.int .i64) (.cons (.int .i64) (.cons (.int .i64) (.cons (.int .i64) (.cons (.int .i64) (.cons (.list 3 (.int .i64)) .nil))))))))) .nil)))))]⟩
def f103s5 : SS := ⟨[(1, (.p 100)), (3, (.ro (.int .i64))), (19, (.ro (.list 109 (.st (.cons (.int .i64) (.cons (.list 51 (.st (.cons (.int .i64) (.cons (.int .i64) (.cons (.int .i64) (.cons (.int .i64) (.cons (.int .i64) (.cons (.list 3 (.int .i64)) .nil)))))))) .nil)))))), (20, (.ro (.int .i64))), (21, (.ro (.int .i64)))], [(100, (.box (.st (.cons (.list 105 (.st (.cons .str (.cons (.int .i64) (.cons (.int .i64) (.cons (.int .i64) .nil)))))) (.cons (.int .i64) (.cons (.list 109 (.st (.cons (.int .i64) (.cons (.list 51 (.st (.cons (.int .i64) (.cons (.int .i64) (.cons (.int .i64) (.cons (.int .i64) (.cons (.int .i64) (.cons (.list 3 (.int .i64)) .nil)))))))) .nil)))) .nil)))) (.agg (.cons (.ro (.list 105 (.st (.cons .str (.cons (.int .i64) (.cons (.int .i64) (.cons (.int .i64) .nil))))))) (.cons (.ro (.int .i64)) (.cons (.ro (.list 109 (.st (.cons (.int .i64) (.cons (.list 51 (.st (.cons (.int .i64) (.cons (.int .i64) (.cons (.int .i64) (.cons (.int .i64) (.cons (.int .i64) (.cons (.list 3 (.int .i64)) .nil)))))))) .nil))))) .nil))))))]⟩
def f103con (F : TMeta → Option Bool) : Con := ⟨f103in, f103out, 1, 1, fun x => F x⟩
def f103ctx (k : Nat) : Ctx := ⟨tyAt tys, conAt [(39, [f39con (impl_within k)]), (135, [f135con (impl_SchemaOk k)]), (137, [f137con (impl_leavesOf k)]), (138, [f138con (impl_chunkOk k)])], 65, fun _ => false⟩
theorem f103hc (k : Nat) : CtxOk Tryz.prog (f103ctx k) := ctxOk tys_ok mixed_ok (consOk_cons (f39ok k) (consOk_cons (f135ok k) (consOk_cons (f137ok k) (consOk_cons (f138ok k) (consOk_nil)))))
theorem f103ok (k : Nat) : FnOk Tryz.prog 103 (f103con (impl_MetaOk k)) :=
  let hc := f103hc k
  fnOk (fn := Tryz.f103) (code := bodyOf Tryz.f103) (res := [.tmp 2]) hc (by kernel_rfl) (by kernel_rfl) (by decide) (by kernel_rfl) (by kernel_rfl) (by kernel_rfl) (Nat.le_of_ble_eq_true (by kernel_rfl)) _
    (fun x => Snd.seq (by kernel_rfl) (Snd.seq (by kernel_rfl) (Snd.seq (by kernel_rfl) (Snd.seq (by kernel_rfl) (Snd.exec hc _ _ _ _) (Snd.seq (by kernel_rfl) (Snd.block (id := 0) (by kernel_rfl) (Snd.loop' (by kernel_rfl) f103s5 (fun n x => impl_MetaOk.l5 k n x.1.2.1 x.1.2.2.1 x.1.2.2.2.1 x.1.2.2.2.2 x.2) _ (fun _ => rfl) (fun n5 => Snd.seq (by kernel_rfl) (Snd.seq (by kernel_rfl) (Snd.seq (by kernel_rfl) (Snd.exec hc _ _ _ _) (Snd.block (id := 1) (by kernel_rfl) (Snd.seq (by kernel_rfl) (Snd.seq (by kernel_rfl) (Snd.seq (by kernel_rfl) (Snd.exec hc _ _ _ _) (Snd.seq (by kernel_rfl) (Snd.block (id := 2) (by kernel_rfl) (Snd.loop' (by kernel_rfl) f103s10 (fun n x => impl_MetaOk.l10 k (impl_MetaOk.l5 k n5) n x.1.2.1 x.1.2.2.2.1 x.1.2.2.2.2.1 x.1.2.2.2.2.2.1 x.1.2.2.2.2.2.2.1 x.1.2.2.2.2.2.2.2.1 x.1.2.2.2.2.2.2.2.2 x.2.1 x.2.2) _ (fun _ => rfl) (fun n10 => Snd.exec hc _ _ _ _) (fun n x => by kernel_rfl) k)) (Snd.exec hc _ _ _ _))) (Snd.seq (by kernel_rfl) (Snd.exec hc _ _ _ _) (Snd.fork hc (id := 7) (by kernel_rfl) ⟨f103d7, fun x => impl_MetaOk.d7 k (impl_MetaOk.l5 k n5) x.1.2.1 x.1.2.2.2.1 x.1.2.2.2.2.1 x.1.2.2.2.2.2 x.2.1 x.2.2⟩ [[0, 1, 2, 3, 4, 5, 8, 9, 6, 7, 10, 11, 12, 13], [0, 1, 2, 3, 4, 5, 8, 9, 10, 6, 7, 11, 12, 13]] (by kernel_rfl) (ords_cons (fun x => by kernel_rfl) (ords_cons (fun x => by kernel_rfl) (ords_nil)))))) (Snd.exec hc _ _ _ _)))) (Snd.exec hc _ _ _ _)) (Snd.exec hc _ _ _ _)) (fun n x => by kernel_rfl) k)) (Snd.exec hc _ _ _ _))) (Snd.exec hc _ _ _ _)) (Snd.exec hc _ _ _ _)) (Snd.exec hc _ _ _ _))
    (fun x => by kernel_rfl)

def f100i1in : SS := ⟨[(0, (.p 0)), (1, (.ro (.int .i64))), (2, (.ro (.int .i64)))], [(0, (.box (.st (.cons .ptr (.cons .bool .nil))) (.agg (.cons (.p 10) (.cons (.ro .bool) .nil))))), (10, (.box (.st (.cons (.list 91 (.st (.cons (.int .i64) (.cons (.int .i64) (.cons (.int .i64) (.cons .str (.cons (.int .i64) .nil))))))) (.cons (.list 3 (.int .i64)) .nil))) (.agg (.cons (.ro (.list 91 (.st (.cons (.int .i64) (.cons (.int .i64) (.cons (.int .i64) (.cons .str (.cons (.int .i64) .nil)))))))) (.cons (.h 11) .nil))))), (11, (.sl 3 (.int .i64)))]⟩
def f100i1out : SS := ⟨[(0, (.ro (.int .i64)))], [(0, (.box (.st (.cons .ptr (.cons .bool .nil))) (.agg (.cons (.p 10) (.cons (.ro .bool) .nil))))), (10, (.box (.st (.cons (.list 91 (.st (.cons (.int .i64) (.cons (.int .i64) (.cons (.int .i64) (.cons .str (.cons (.int .i64) .nil))))))) (.cons (.list 3 (.int .i64)) .nil))) (.agg (.cons (.ro (.list 91 (.st (.cons (.int .i64) (.cons (.int .i64) (.cons (.int .i64) (.cons .str (.cons (.int .i64) .nil)))))))) (.cons (.h 11) .nil))))), (11, (.sl 3 (.int .i64)))]⟩
def f100i1s4 : SS := ⟨[(7, (.ro (.int .i64)))], [(0, (.box (.st (.cons .ptr (.cons .bool .nil))) (.agg (.cons (.p 10) (.cons (.ro .bool) .nil))))), (10, (.box (.st (.cons (.list 91 (.st (.cons (.int .i64) (.cons (.int .i64) (.cons (.int .i64) (.cons .str (.cons (.int .i64) .nil))))))) (.cons (.list 3 (.int .i64)) .nil))) (.agg (.cons (.ro (.list 91 (.st (.cons (.int .i64) (.cons (.int .i64) (.cons (.int .i64) (.cons .str (.cons (.int .i64) .nil)))))))) (.cons (.h 11) .nil))))), (11, (.sl 3 (.int .i64)))]⟩
def f100i1con (F : Int → Int → TMetaReader → TTreeB → (List Int) → Option (Int × TMetaReader × TTreeB × (List Int))) : Con := ⟨f100i1in, f100i1out, 3, 1, fun x => F x.1.2.1 x.1.2.2 x.2.1 x.2.2.1 x.2.2.2⟩
def f100i1ctx (k : Nat) : Ctx := ⟨tyAt tys, conAt [(106, [f106con (impl_tree_num k)])], 25, fun _ => false⟩
theorem f100i1hc (k : Nat) : CtxOk Tryz.prog (f100i1ctx k) := ctxOk tys_ok mixed_ok (consOk_cons (f106ok k) (consOk_nil))
theorem f100i1ok (k : Nat) : FnOk Tryz.prog 100 (f100i1con (impl_metaReader_number k)) :=
  let hc := f100i1hc k
  fnOk (fn := Tryz.f100) (code := bodyOf Tryz.f100) (res := [.tmp 6]) hc (by kernel_rfl) (by kernel_rfl) (by decide) (by kernel_rfl) (by kernel_rfl) (by kernel_rfl) (Nat.le_of_ble_eq_true (by kernel_rfl)) _
    (fun x => Snd.seq (by kernel_rfl) (Snd.seq (by kernel_rfl) (Snd.seq (by kernel_rfl) (Snd.cut (Snd.exec hc _ _ _ _) ⟨f100i1s4, fun x => impl_metaReader_number.c4 k x.1 x.2.1 x.2.2.1 x.2.2.2⟩ (fun x => by kernel_rfl)) (Snd.exec hc _ _ _ _)) (Snd.exec hc _ _ _ _)) (Snd.exec hc _ _ _ _))
    (fun x => by kernel_rfl)

def f101i2in : SS := ⟨[(0, (.p 0)), (1, (.ro (.int .i64))), (2, (.ro (.int .i64))), (3, (.ro (.int .i64)))], [(0, (.box (.st (.cons .ptr (.cons .bool .nil))) (.agg (.cons (.p 10) (.cons (.ro .bool) .nil))))), (10, (.box (.st (.cons (.list 91 (.st (.cons (.int .i64) (.cons (.int .i64) (.cons (.int .i64) (.cons .str (.cons (.int .i64) .nil))))))) (.cons (.list 3 (.int .i64)) .nil))) (.agg (.cons (.ro (.list 91 (.st (.cons (.int .i64) (.cons (.int .i64) (.cons (.int .i64) (.cons .str (.cons (.int .i64) .nil)))))))) (.cons (.h 11) .nil))))), (11, (.sl 3 (.int .i64)))]⟩
def f101i2out : SS := ⟨[(0, (.h 100))], [(0, (.box (.st (.cons .ptr (.cons .bool .nil))) (.agg (.cons (.p 10) (.cons (.ro .bool) .nil))))), (10, (.box (.st (.cons (.list 91 (.st (.cons (.int .i64) (.cons (.int .i64) (.cons (.int .i64) (.cons .str (.cons (.int .i64) .nil))))))) (.cons (.list 3 (.int .i64)) .nil))) (.agg (.cons (.ro (.list 91 (.st (.cons (.int .i64) (.cons (.int .i64) (.cons (.int .i64) (.cons .str (.cons (.int .i64) .nil)))))))) (.cons (.h 11) .nil))))), (11, (.sl 3 (.int .i64))), (100, (.sl 3 (.int .i64)))]⟩
def f101i2s4 : SS := ⟨[(9, (.h 100))], [(0, (.box (.st (.cons .ptr (.cons .bool .nil))) (.agg (.cons (.p 10) (.cons (.ro .bool) .nil))))), (10, (.box (.st (.cons (.list 91 (.st (.cons (.int .i64) (.cons (.int .i64) (.cons (.int .i64) (.cons .str (.cons (.int .i64) .nil))))))) (.cons (.list 3 (.int .i64)) .nil))) (.agg (.cons (.ro (.list 91 (.st (.cons (.int .i64) (.cons (.int .i64) (.cons (.int .i64) (.cons .str (.cons (.int .i64) .nil)))))))) (.cons (.h 11) .nil))))), (11, (.sl 3 (.int .i64))), (100, (.sl 3 (.int .i64)))]⟩
def f101i2con (F : Int → Int → Int → TMetaReader → TTreeB → (List Int) → Option (Unit × TMetaReader × TTreeB × (List Int) × (List Int))) : Con := ⟨f101i2in, f101i2out, 4, 1, fun x => F x.1.2.1 x.1.2.2.1 x.1.2.2.2 x.2.1 x.2.2.1 x.2.2.2⟩
def f101i2ctx (k : Nat) : Ctx := ⟨tyAt tys, conAt [(133, [f133con (impl_tree_parts k)])], 28, fun _ => false⟩
theorem f101i2hc (k : Nat) : CtxOk Tryz.prog (f101i2ctx k) := ctxOk tys_ok mixed_ok (consOk_cons (f133ok k) (consOk_nil))
theorem f101i2ok (k : Nat) : FnOk Tryz.prog 101 (f101i2con (impl_metaReader_list k)) :=
  let hc := f101i2hc k
  fnOk (fn := Tryz.f101) (code := bodyOf Tryz.f101) (res := [.tmp 8]) hc (by kernel_rfl) (by kernel_rfl) (by decide) (by kernel_rfl) (by kernel_rfl) (by kernel_rfl) (Nat.le_of_ble_eq_true (by kernel_rfl)) _
    (fun x => Snd.seq (by kernel_rfl) (Snd.seq (by kernel_rfl) (Snd.seq (by kernel_rfl) (Snd.cut (Snd.exec hc _ _ _ _) ⟨f101i2s4, fun x => impl_metaReader_list.c4 k x.2.1 x.2.2.1 x.2.2.2.1 x.2.2.2.2⟩ (fun x => by kernel_rfl)) (Snd.exec hc _ _ _ _)) (Snd.exec hc _ _ _ _)) (Snd.exec hc _ _ _ _))
    (fun x => by kernel_rfl)

def f169in : SS := ⟨[(0, (.ro (.list 105 (.st (.cons .str (.cons (.int .i64) (.cons (.int .i64) (.cons (.int .i64) .nil))))))))], []⟩
def f169out : SS := ⟨[(0, (.h 100))], [(100, (.sl 3 (.int .i64)))]⟩
def f169con (F : (List TCol) → Option (Unit × (List Int))) : Con := ⟨f169in, f169out, 1, 1, fun x => F x⟩
def f169ctx (k : Nat) : Ctx := ⟨tyAt tys, conAt [(135, [f135con (impl_SchemaOk k)]), (137, [f137con (impl_leavesOf k)])], 8, fun _ => false⟩
theorem f169hc (k : Nat) : CtxOk Tryz.prog (f169ctx k) := ctxOk tys_ok mixed_ok (consOk_cons (f135ok k) (consOk_cons (f137ok k) (consOk_nil)))
theorem f169ok (k : Nat) : FnOk Tryz.prog 169 (f169con (impl_SchemaLeaves k)) :=
  let hc := f169hc k
  fnOk (fn := Tryz.f169) (code := bodyOf Tryz.f169) (res := [.tmp 2]) hc (by kernel_rfl) (by kernel_rfl) (by decide) (by kernel_rfl) (by kernel_rfl) (by kernel_rfl) (Nat.le_of_ble_eq_true (by kernel_rfl)) _
    (fun x => Snd.exec hc _ _ _ _)
    (fun x => by kernel_rfl)

def f171in : SS := ⟨[(0, (.ro (.list 105 (.st (.cons .str (.cons (.int .i64) (.cons (.int .i64) (.cons (.int .i64) .nil)))))))), (1, (.ro (.int .i64)))], []⟩
def f171out : SS := ⟨[(0, (.h 100))], [(100, (.sl 3 (.int .i64)))]⟩
def f171s6 : SS := ⟨[(0, (.ro (.list 105 (.st (.cons .str (.cons (.int .i64) (.cons (.int .i64) (.cons (.int .i64) .nil)))))))), (1, (.ro (.int .i64))), (5, (.h 100)), (6, (.h 101)), (7, (.ro (.int .i64)))], [(100, (.sl 3 (.int .i64))), (101, (.sl 3 (.int .i64)))]⟩
def f171con (F : (List TCol) → Int → Option (Unit × (List Int))) : Con := ⟨f171in, f171out, 2, 1, fun x => F x.1 x.2⟩
def f171ctx (k : Nat) : Ctx := ⟨tyAt tys, conAt [(39, [f39con (impl_within k)]), (155, [f155con (impl_colAfter k)]), (169, [f169con (impl_SchemaLeaves k)])], 41, fun _ => false⟩
theorem f171hc (k : Nat) : CtxOk Tryz.prog (f171ctx k) := ctxOk tys_ok mixed_ok (consOk_cons (f39ok k) (consOk_cons (f155ok k) (consOk_cons (f169ok k) (consOk_nil))))
theorem f171ok (k : Nat) : FnOk Tryz.prog 171 (f171con (impl_wayTo k)) :=
  let hc := f171hc k
  fnOk (fn := Tryz.f171) (code := bodyOf Tryz.f171) (res := [.tmp 4]) hc (by kernel_rfl) (by kernel_rfl) (by decide) (by kernel_rfl) (by kernel_rfl) (by kernel_rfl) (Nat.le_of_ble_eq_true (by kernel_rfl)) _
    (fun x => Snd.seq (by kernel_rfl) (Snd.seq (by kernel_rfl) (Snd.seq (by kernel_rfl) (Snd.seq (by kernel_rfl) (Snd.seq (by kernel_rfl) (Snd.exec hc _ _ _ _) (Snd.seq (by kernel_rfl) (Snd.block (id := 0) (by kernel_rfl) (Snd.loop' (by kernel_rfl) f171s6 (fun n x => impl_wayTo.l6 k n x.1.1 x.1.2.1 x.1.2.2.2.2 x.2.1 x.2.2) _ (fun _ => rfl) (fun n6 => Snd.exec hc _ _ _ _) (fun n x => by kernel_rfl) k)) (Snd.exec hc _ _ _ _))) (Snd.exec hc _ _ _ _)) (Snd.exec hc _ _ _ _)) (Snd.exec hc _ _ _ _)) (Snd.exec hc _ _ _ _))
    (fun x => by kernel_rfl)

def f170in : SS := ⟨[(0, (.ro (.list 105 (.st (.cons .str (.cons (.int .i64) (.cons (.int .i64) (.cons (.int .i64) .nil)))))))), (1, (.ro (.int .i64)))], []⟩
def f170out : SS := ⟨[(0, (.ro (.int .i64))), (1, (.ro (.int .i64)))], []⟩
def f170s12 : SS := ⟨[(0, (.ro (.list 105 (.st (.cons .str (.cons (.int .i64) (.cons (.int .i64) (.cons (.int .i64) .nil)))))))), (7, (.ro (.int .i64))), (8, (.ro (.int .i64))), (17, (.h 100)), (18, (.ro (.int .i64))), (19, (.ro (.int .i64)))], [(100, (.sl 3 (.int .i64)))]⟩
def f170s10 : SS := ⟨[(0, (.ro (.list 105 (.st (.cons .str (.cons (.int .i64) (.cons (.int .i64) (.cons (.int .i64) .nil)))))))), (7, (.ro (.int .i64))), (8, (.ro (.int .i64))), (10, (.ro (.int .i64))), (17, (.h 100)), (18, (.ro (.int .i64))), (19, (.ro (.int .i64)))], [(100, (.sl 3 (.int .i64)))]⟩
def f170s6 : SS := ⟨[(0, (.ro (.list 105 (.st (.cons .str (.cons (.int .i64) (.cons (.int .i64) (.cons (.int .i64) .nil)))))))), (7, (.ro (.int .i64))), (8, (.ro (.int .i64))), (17, (.h 100)), (18, (.ro (.int .i64))), (19, (.ro (.int .i64)))], [(100, (.sl 3 (.int .i64)))]⟩
def f170con (F : (List TCol) → Int → Option (Int × Int)) : Con := ⟨f170in, f170out, 2, 2, fun x => F x.1 x.2⟩
def f170ctx (k : Nat) : Ctx := ⟨tyAt tys, conAt [(171, [f171con (impl_wayTo k)])], 42, fun _ => false⟩
theorem f170hc (k : Nat) : CtxOk Tryz.prog (f170ctx k) := ctxOk tys_ok mixed_ok (consOk_cons (f171ok k) (consOk_nil))
theorem f170ok (k : Nat) : FnOk Tryz.prog 170 (f170con (impl_LeafMax k)) :=
  let hc := f170hc k
  fnOk (fn := Tryz.f170) (code := bodyOf Tryz.f170) (res := [.tmp 4, .tmp 5]) hc (by kernel_rfl) (by kernel_rfl) (by decide) (by kernel_rfl) (by kernel_rfl) (by kernel_rfl) (Nat.le_of_ble_eq_true (by kernel_rfl)) _
    (fun x => Snd.seq (by kernel_rfl) (Snd.seq (by kernel_rfl) (Snd.seq (by kernel_rfl) (Snd.seq (by kernel_rfl) (Snd.seq (by kernel_rfl) (Snd.exec hc _ _ _ _) (Snd.seq (by kernel_rfl) (Snd.block (id := 0) (by kernel_rfl) (Snd.loop' (by kernel_rfl) f170s6 (fun n x => impl_LeafMax.l6 k n x.1.1 x.1.2.1 x.1.2.2.1 x.1.2.2.2.2.1 x.1.2.2.2.2.2 x.2) _ (fun _ => rfl) (fun n6 => Snd.seq (by kernel_rfl) (Snd.seq (by kernel_rfl) (Snd.seq (by kernel_rfl) (Snd.cut (Snd.exec hc _ _ _ _) ⟨f170s12, fun x => impl_LeafMax.c12 k (impl_LeafMax.l6 k n6) x.1.1 x.1.2.1 x.1.2.2.1 x.1.2.2.2.2.1 x.1.2.2.2.2.2 x.2⟩ (fun x => by kernel_rfl)) (Snd.block (id := 1) (by kernel_rfl) (Snd.seq (by kernel_rfl) (Snd.seq (by kernel_rfl) (Snd.cut (Snd.exec hc _ _ _ _) ⟨f170s10, fun x => impl_LeafMax.c10 k (impl_LeafMax.l6 k n6) x.1.1 x.1.2.1 x.1.2.2.1 x.1.2.2.2.1 x.1.2.2.2.2.2.1 x.1.2.2.2.2.2.2 x.2⟩ (fun x => by kernel_rfl)) (Snd.exec hc _ _ _ _)) (Snd.exec hc _ _ _ _)))) (Snd.exec hc _ _ _ _)) (Snd.exec hc _ _ _ _)) (fun n x => by kernel_rfl) k)) (Snd.exec hc _ _ _ _))) (Snd.exec hc _ _ _ _)) (Snd.exec hc _ _ _ _)) (Snd.exec hc _ _ _ _)) (Snd.exec hc _ _ _ _))
    (fun x => by kernel_rfl)

def f156in : SS := ⟨[(0, (.ro (.list 105 (.st (.cons .str (.cons (.int .i64) (.cons (.int .i64) (.cons (.int .i64) .nil)))))))), (1, (.ro (.int .i64)))], []⟩
def f156out : SS := ⟨[(0, (.agg (.cons (.ro (.int .i64)) (.cons (.ro (.int .i64)) (.cons (.ro (.int .i64)) .nil))))), (1, (.ro .bool))], []⟩
def f156con (F : (List TCol) → Int → Option (TLeaf × Bool)) : Con := ⟨f156in, f156out, 2, 2, fun x => F x.1 x.2⟩
def f156ctx (k : Nat) : Ctx := ⟨tyAt tys, conAt [(39, [f39con (impl_within k)]), (169, [f169con (impl_SchemaLeaves k)]), (170, [f170con (impl_LeafMax k)])], 35, fun _ => false⟩
theorem f156hc (k : Nat) : CtxOk Tryz.prog (f156ctx k) := ctxOk tys_ok mixed_ok (consOk_cons (f39ok k) (consOk_cons (f169ok k) (consOk_cons (f170ok k) (consOk_nil))))
theorem f156ok (k : Nat) : FnOk Tryz.prog 156 (f156con (impl_LeafOf k)) :=
  let hc := f156hc k
  fnOk (fn := Tryz.f156) (code := bodyOf Tryz.f156) (res := [.cell 4 49, .tmp 5]) hc (by kernel_rfl) (by kernel_rfl) (by decide) (by kernel_rfl) (by kernel_rfl) (by kernel_rfl) (Nat.le_of_ble_eq_true (by kernel_rfl)) _
    (fun x => Snd.exec hc _ _ _ _)
    (fun x => by kernel_rfl)

def f157in : SS := ⟨[(0, (.ro (.list 9 .str))), (1, (.ro (.list 9 .str)))], []⟩
def f157out : SS := ⟨[(0, (.ro .bool))], []⟩
def f157s4 : SS := ⟨[(0, (.ro (.list 9 .str))), (1, (.ro (.list 9 .str))), (12, (.ro (.int .i64))), (13, (.ro (.int .i64)))], []⟩
def f157con (F : (List ByteArray) → (List ByteArray) → Option Bool) : Con := ⟨f157in, f157out, 2, 1, fun x => F x.1 x.2⟩
def f157ctx (k : Nat) : Ctx := ⟨tyAt tys, conAt [], 26, fun _ => false⟩
theorem f157hc (k : Nat) : CtxOk Tryz.prog (f157ctx k) := ctxOk tys_ok mixed_ok (consOk_nil)
theorem f157ok (k : Nat) : FnOk Tryz.prog 157 (f157con (slices_Equal_string_string k)) :=
  let hc := f157hc k
  fnOk (fn := Tryz.f157) (code := bodyOf Tryz.f157) (res := [.tmp 4]) hc (by kernel_rfl) (by kernel_rfl) (by decide) (by kernel_rfl) (by kernel_rfl) (by kernel_rfl) (Nat.le_of_ble_eq_true (by kernel_rfl)) _
    (fun x => Snd.seq (by kernel_rfl) (Snd.seq (by kernel_rfl) (Snd.seq (by kernel_rfl) (Snd.exec hc _ _ _ _) (Snd.seq (by kernel_rfl) (Snd.block (id := 0) (by kernel_rfl) (Snd.loop' (by kernel_rfl) f157s4 (fun n x => slices_Equal_string_string.l4 k n x.1 x.2.1 x.2.2.1 x.2.2.2) _ (fun _ => rfl) (fun n4 => Snd.exec hc _ _ _ _) (fun n x => by kernel_rfl) k)) (Snd.exec hc _ _ _ _))) (Snd.exec hc _ _ _ _)) (Snd.exec hc _ _ _ _))
    (fun x => by kernel_rfl)

def f158in : SS := ⟨[(0, (.ro (.list 105 (.st (.cons .str (.cons (.int .i64) (.cons (.int .i64) (.cons (.int .i64) .nil)))))))), (1, (.ro (.int .i64)))], []⟩
def f158out : SS := ⟨[(0, (.h 100))], [(100, (.sl 9 .str))]⟩
def f158s3 : SS := ⟨[(0, (.ro (.list 105 (.st (.cons .str (.cons (.int .i64) (.cons (.int .i64) (.cons (.int .i64) .nil)))))))), (5, (.h 100)), (11, (.h 101)), (12, (.ro (.int .i64))), (13, (.ro (.int .i64)))], [(100, (.sl 9 .str)), (101, (.sl 3 (.int .i64)))]⟩
def f158con (F : (List TCol) → Int → Option (Unit × (List ByteArray))) : Con := ⟨f158in, f158out, 2, 1, fun x => F x.1 x.2⟩
def f158ctx (k : Nat) : Ctx := ⟨tyAt tys, conAt [(171, [f171con (impl_wayTo k)])], 27, fun _ => false⟩
theorem f158hc (k : Nat) : CtxOk Tryz.prog (f158ctx k) := ctxOk tys_ok mixed_ok (consOk_cons (f171ok k) (consOk_nil))
theorem f158ok (k : Nat) : FnOk Tryz.prog 158 (f158con (impl_LeafPath k)) :=
  let hc := f158hc k
  fnOk (fn := Tryz.f158) (code := bodyOf Tryz.f158) (res := [.tmp 4]) hc (by kernel_rfl) (by kernel_rfl) (by decide) (by kernel_rfl) (by kernel_rfl) (by kernel_rfl) (Nat.le_of_ble_eq_true (by kernel_rfl)) _
    (fun x => Snd.seq (by kernel_rfl) (Snd.seq (by kernel_rfl) (Snd.seq (by kernel_rfl) (Snd.exec hc _ _ _ _) (Snd.seq (by kernel_rfl) (Snd.block (id := 0) (by kernel_rfl) (Snd.loop' (by kernel_rfl) f158s3 (fun n x => impl_LeafPath.l3 k n x.1.1 x.1.2.2.2.1 x.1.2.2.2.2 x.2.1 x.2.2) _ (fun _ => rfl) (fun n3 => Snd.exec hc _ _ _ _) (fun n x => by kernel_rfl) k)) (Snd.exec hc _ _ _ _))) (Snd.exec hc _ _ _ _)) (Snd.exec hc _ _ _ _))
    (fun x => by kernel_rfl)

def f136i4in : SS := ⟨[(0, (.p 0)), (1, (.h 60)), (2, (.ro (.int .i64))), (3, (.ro (.int .i64)))], [(0, (.box (.st (.cons .ptr (.cons .bool .nil))) (.agg (.cons (.p 10) (.cons (.ro .bool) .nil))))), (10, (.box (.st (.cons (.list 91 (.st (.cons (.int .i64) (.cons (.int .i64) (.cons (.int .i64) (.cons .str (.cons (.int .i64) .nil))))))) (.cons (.list 3 (.int .i64)) .nil))) (.agg (.cons (.ro (.list 91 (.st (.cons (.int .i64) (.cons (.int .i64) (.cons (.int .i64) (.cons .str (.cons (.int .i64) .nil)))))))) (.cons (.h 11) .nil))))), (11, (.sl 3 (.int .i64))), (60, (.sl 105 (.st (.cons .str (.cons (.int .i64) (.cons (.int .i64) (.cons (.int .i64) .nil)))))))]⟩
def f136i4out : SS := ⟨[(0, (.agg (.cons (.ro (.int .i64)) (.cons (.ro (.int .i64)) (.cons (.ro (.int .i64)) (.cons (.ro (.int .i64)) (.cons (.ro (.int .i64)) (.cons (.h 100) .nil))))))))], [(0, (.box (.st (.cons .ptr (.cons .bool .nil))) (.agg (.cons (.p 10) (.cons (.ro .bool) .nil))))), (10, (.box (.st (.cons (.list 91 (.st (.cons (.int .i64) (.cons (.int .i64) (.cons (.int .i64) (.cons .str (.cons (.int .i64) .nil))))))) (.cons (.list 3 (.int .i64)) .nil))) (.agg (.cons (.ro (.list 91 (.st (.cons (.int .i64) (.cons (.int .i64) (.cons (.int .i64) (.cons .str (.cons (.int .i64) .nil)))))))) (.cons (.h 11) .nil))))), (11, (.sl 3 (.int .i64))), (60, (.sl 105 (.st (.cons .str (.cons (.int .i64) (.cons (.int .i64) (.cons (.int .i64) .nil))))))), (100, (.sl 3 (.int .i64)))]⟩
def f136i4s28 : SS := ⟨[(8, (.p 100)), (9, (.p 101))], [(0, (.box (.st (.cons .ptr (.cons .bool .nil))) (.agg (.cons (.p 10) (.cons (.ro .bool) .nil))))), (10, (.box (.st (.cons (.list 91 (.st (.cons (.int .i64) (.cons (.int .i64) (.cons (.int .i64) (.cons .str (.cons (.int .i64) .nil))))))) (.cons (.list 3 (.int .i64)) .nil))) (.agg (.cons (.ro (.list 91 (.st (.cons (.int .i64) (.cons (.int .i64) (.cons (.int .i64) (.cons .str (.cons (.int .i64) .nil)))))))) (.cons (.h 11) .nil))))), (11, (.sl 3 (.int .i64))), (60, (.sl 105 (.st (.cons .str (.cons (.int .i64) (.cons (.int .i64) (.cons (.int .i64) .nil))))))), (100, (.box (.st (.cons (.int .i64) (.cons (.int .i64) (.cons (.int .i64) (.cons (.int .i64) (.cons (.int .i64) (.cons (.list 3 (.int .i64)) .nil))))))) (.agg (.cons (.ro (.int .i64)) (.cons (.ro (.int .i64)) (.cons (.ro (.int .i64)) (.cons (.ro (.int .i64)) (.cons (.ro (.int .i64)) (.cons (.h 102) .nil))))))))), (101, (.box (.st (.cons (.int .i64) (.cons (.int .i64) (.cons (.int .i64) (.cons (.int .i64) (.cons (.int .i64) (.cons (.list 3 (.int .i64)) .nil))))))) (.agg (.cons (.ro (.int .i64)) (.cons (.ro (.int .i64)) (.cons (.ro (.int .i64)) (.cons (.ro (.int .i64)) (.cons (.ro (.int .i64)) (.cons (.h 103) .nil))))))))), (102, (.sl 3 (.int .i64))), (103, (.sl 3 (.int .i64)))]⟩
def f136i4s24 : SS := ⟨[(0, (.p 0)), (8, (.p 100)), (9, (.p 101)), (10, (.ro (.int .i64)))], [(0, (.box (.st (.cons .ptr (.cons .bool .nil))) (.agg (.cons (.p 10) (.cons (.ro .bool) .nil))))), (10, (.box (.st (.cons (.list 91 (.st (.cons (.int .i64) (.cons (.int .i64) (.cons (.int .i64) (.cons .str (.cons (.int .i64) .nil))))))) (.cons (.list 3 (.int .i64)) .nil))) (.agg (.cons (.ro (.list 91 (.st (.cons (.int .i64) (.cons (.int .i64) (.cons (.int .i64) (.cons .str (.cons (.int .i64) .nil)))))))) (.cons (.h 11) .nil))))), (11, (.sl 3 (.int .i64))), (60, (.sl 105 (.st (.cons .str (.cons (.int .i64) (.cons (.int .i64) (.cons (.int .i64) .nil))))))), (100, (.box (.st (.cons (.int .i64) (.cons (.int .i64) (.cons (.int .i64) (.cons (.int .i64) (.cons (.int .i64) (.cons (.list 3 (.int .i64)) .nil))))))) (.agg (.cons (.ro (.int .i64)) (.cons (.ro (.int .i64)) (.cons (.ro (.int .i64)) (.cons (.ro (.int .i64)) (.cons (.ro (.int .i64)) (.cons (.h 102) .nil))))))))), (101, (.box (.st (.cons (.int .i64) (.cons (.int .i64) (.cons (.int .i64) (.cons (.int .i64) (.cons (.int .i64) (.cons (.list 3 (.int .i64)) .nil))))))) (.agg (.cons (.ro (.int .i64)) (.cons (.ro (.int .i64)) (.cons (.ro (.int .i64)) (.cons (.ro (.int .i64)) (.cons (.ro (.int .i64)) (.cons (.h 103) .nil))))))))), (102, (.sl 3 (.int .i64))), (103, (.sl 3 (.int .i64)))]⟩
def f136i4d22 : SS := ⟨[(0, (.p 0)), (8, (.p 100)), (9, (.p 101)), (10, (.ro (.int .i64)))], [(0, (.box (.st (.cons .ptr (.cons .bool .nil))) (.agg (.cons (.p 10) (.cons (.ro .bool) .nil))))), (10, (.box (.st (.cons (.list 91 (.st (.cons (.int .i64) (.cons (.int .i64) (.cons (.int .i64) (.cons .str (.cons (.int .i64) .nil))))))) (.cons (.list 3 (.int .i64)) .nil))) (.agg (.cons (.ro (.list 91 (.st (.cons (.int .i64) (.cons (.int .i64) (.cons (.int .i64) (.cons .str (.cons (.int .i64) .nil)))))))) (.cons (.h 11) .nil))))), (11, (.sl 3 (.int .i64))), (60, (.sl 105 (.st (.cons .str (.cons (.int .i64) (.cons (.int .i64) (.cons (.int .i64) .nil))))))), (100, (.box (.st (.cons (.int .i64) (.cons (.int .i64) (.cons (.int .i64) (.cons (.int .i64) (.cons (.int .i64) (.cons (.list 3 (.int .i64)) .nil))))))) (.agg (.cons (.ro (.int .i64)) (.cons (.ro (.int .i64)) (.cons (.ro (.int .i64)) (.cons (.ro (.int .i64)) (.cons (.ro (.int .i64)) (.cons (.h 102) .nil))))))))), (101, (.box (.st (.cons (.int .i64) (.cons (.int .i64) (.cons (.int .i64) (.cons (.int .i64) (.cons (.int .i64) (.cons (.list 3 (.int .i64)) .nil))))))) (.agg (.cons (.ro (.int .i64)) (.cons (.ro (.int .i64)) (.cons (.ro (.int .i64)) (.cons (.ro (.int .i64)) (.cons (.ro (.int .i64)) (.cons (.h 103) .nil))))))))), (102, (.sl 3 (.int .i64))), (103, (.sl 3 (.int .i64)))]⟩
def f136i4s20 : SS := ⟨[(0, (.p 0)), (8, (.p 100)), (9, (.p 101)), (10, (.ro (.int .i64)))], [(0, (.box (.st (.cons .ptr (.cons .bool .nil))) (.agg (.cons (.p 10) (.cons (.ro .bool) .nil))))), (10, (.box (.st (.cons (.list 91 (.st (.cons (.int .i64) (.cons (.int .i64) (.cons (.int .i64) (.cons .str (.cons (.int .i64) .nil))))))) (.cons (.list 3 (.int .i64)) .nil))) (.agg (.cons (.ro (.list 91 (.st (.cons (.int .i64) (.cons (.int .i64) (.cons (.int .i64) (.cons .str (.cons (.int .i64) .nil)))))))) (.cons (.h 11) .nil))))), (11, (.sl 3 (.int .i64))), (60, (.sl 105 (.st (.cons .str (.cons (.int .i64) (.cons (.int .i64) (.cons (.int .i64) .nil))))))), (100, (.box (.st (.cons (.int .i64) (.cons (.int .i64) (.cons (.int .i64) (.cons (.int .i64) (.cons (.int .i64) (.cons (.list 3 (.int .i64)) .nil))))))) (.agg (.cons (.ro (.int .i64)) (.cons (.ro (.int .i64)) (.cons (.ro (.int .i64)) (.cons (.ro (.int .i64)) (.cons (.ro (.int .i64)) (.cons (.h 102) .nil))))))))), (101, (.box (.st (.cons (.int .i64) (.cons (.int .i64) (.cons (.int .i64) (.cons (.int .i64) (.cons (.int .i64) (.cons (.list 3 (.int .i64)) .nil))))))) (.agg (.cons (.ro (.int .i64)) (.cons (.ro (.int .i64)) (.cons (.ro (.int .i64)) (.cons (.ro (.int .i64)) (.cons (.ro (.int .i64)) (.cons (.h 103) .nil))))))))), (102, (.sl 3 (.int .i64))), (103, (.sl 3 (.int .i64)))]⟩
def f136i4d18 : SS := ⟨[(0, (.p 0)), (1, (.h 60)), (3, (.ro (.int .i64))), (8, (.p 100)), (9, (.p 101)), (10, (.ro (.int .i64))), (11, (.p 102)), (15, (.h 103))], [(0, (.box (.st (.cons .ptr (.cons .bool .nil))) (.agg (.cons (.p 10) (.cons (.ro .bool) .nil))))), (10, (.box (.st (.cons (.list 91 (.st (.cons (.int .i64) (.cons (.int .i64) (.cons (.int .i64) (.cons .str (.cons (.int .i64) .nil))))))) (.cons (.list 3 (.int .i64)) .nil))) (.agg (.cons (.ro (.list 91 (.st (.cons (.int .i64) (.cons (.int .i64) (.cons (.int .i64) (.cons .str (.cons (.int .i64) .nil)))))))) (.cons (.h 11) .nil))))), (11, (.sl 3 (.int .i64))), (60, (.sl 105 (.st (.cons .str (.cons (.int .i64) (.cons (.int .i64) (.cons (.int .i64) .nil))))))), (100, (.box (.st (.cons (.int .i64) (.cons (.int .i64) (.cons (.int .i64) (.cons (.int .i64) (.cons (.int .i64) (.cons (.list 3 (.int .i64)) .nil))))))) (.agg (.cons (.ro (.int .i64)) (.cons (.ro (.int .i64)) (.cons (.ro (.int .i64)) (.cons (.ro (.int .i64)) (.cons (.ro (.int .i64)) (.cons (.h 104) .nil))))))))), (101, (.box (.st (.cons (.int .i64) (.cons (.int .i64) (.cons (.int .i64) (.cons (.int .i64) (.cons (.int .i64) (.cons (.list 3 (.int .i64)) .nil))))))) (.agg (.cons (.ro (.int .i64)) (.cons (.ro (.int .i64)) (.cons (.ro (.int .i64)) (.cons (.ro (.int .i64)) (.cons (.ro (.int .i64)) (.cons (.h 105) .nil))))))))), (102, (.box (.st (.cons (.int .i64) (.cons (.int .i64) (.cons (.int .i64) .nil)))) (.agg (.cons (.ro (.int .i64)) (.cons (.ro (.int .i64)) (.cons (.ro (.int .i64)) .nil)))))), (103, (.sl 9 .str)), (104, (.sl 3 (.int .i64))), (105, (.sl 3 (.int .i64)))]⟩
def f136i4s14 : SS := ⟨[(0, (.p 0)), (1, (.h 60)), (3, (.ro (.int .i64))), (8, (.p 100)), (9, (.p 101)), (10, (.ro (.int .i64))), (11, (.p 102)), (15, (.h 103)), (80, (.h 104)), (81, (.ro (.int .i64))), (82, (.ro (.int .i64)))], [(0, (.box (.st (.cons .ptr (.cons .bool .nil))) (.agg (.cons (.p 10) (.cons (.ro .bool) .nil))))), (10, (.box (.st (.cons (.list 91 (.st (.cons (.int .i64) (.cons (.int .i64) (.cons (.int .i64) (.cons .str (.cons (.int .i64) .nil))))))) (.cons (.list 3 (.int .i64)) .nil))) (.agg (.cons (.ro (.list 91 (.st (.cons (.int .i64) (.cons (.int .i64) (.cons (.int .i64) (.cons .str (.cons (.int .i64) .nil)))))))) (.cons (.h 11) .nil))))), (11, (.sl 3 (.int .i64))), (60, (.sl 105 (.st (.cons .str (.cons (.int .i64) (.cons (.int .i64) (.cons (.int .i64) .nil))))))), (100, (.box (.st (.cons (.int .i64) (.cons (.int .i64) (.cons (.int .i64) (.cons (.int .i64) (.cons (.int .i64) (.cons (.list 3 (.int .i64)) .nil))))))) (.agg (.cons (.ro (.int .i64)) (.cons (.ro (.int .i64)) (.cons (.ro (.int .i64)) (.cons (.ro (.int .i64)) (.cons (.ro (.int .i64)) (.cons (.h 105) .nil))))))))), (101, (.box (.st (.cons (.int .i64) (.cons (.int .i64) (.cons (.int .i64) (.cons (.int .i64) (.cons (.int .i64) (.cons (.list 3 (.int .i64)) .nil))))))) (.agg (.cons (.ro (.int .i64)) (.cons (.ro (.int .i64)) (.cons (.ro (.int .i64)) (.cons (.ro (.int .i64)) (.cons (.ro (.int .i64)) (.cons (.h 106) .nil))))))))), (102, (.box (.st (.cons (.int .i64) (.cons (.int .i64) (.cons (.int .i64) .nil)))) (.agg (.cons (.ro (.int .i64)) (.cons (.ro (.int .i64)) (.cons (.ro (.int .i64)) .nil)))))), (103, (.sl 9 .str)), (104, (.sl 3 (.int .i64))), (105, (.sl 3 (.int .i64))), (106, (.sl 3 (.int .i64)))]⟩
def f136i4d10 : SS := ⟨[(0, (.p 0)), (1, (.h 60)), (3, (.ro (.int .i64))), (8, (.p 100)), (9, (.p 101)), (10, (.ro (.int .i64))), (11, (.p 102)), (14, (.ro (.int .i64))), (54, (.h 103)), (55, (.ro (.int .i64))), (56, (.ro (.int .i64)))], [(0, (.box (.st (.cons .ptr (.cons .bool .nil))) (.agg (.cons (.p 10) (.cons (.ro .bool) .nil))))), (10, (.box (.st (.cons (.list 91 (.st (.cons (.int .i64) (.cons (.int .i64) (.cons (.int .i64) (.cons .str (.cons (.int .i64) .nil))))))) (.cons (.list 3 (.int .i64)) .nil))) (.agg (.cons (.ro (.list 91 (.st (.cons (.int .i64) (.cons (.int .i64) (.cons (.int .i64) (.cons .str (.cons (.int .i64) .nil)))))))) (.cons (.h 11) .nil))))), (11, (.sl 3 (.int .i64))), (60, (.sl 105 (.st (.cons .str (.cons (.int .i64) (.cons (.int .i64) (.cons (.int .i64) .nil))))))), (100, (.box (.st (.cons (.int .i64) (.cons (.int .i64) (.cons (.int .i64) (.cons (.int .i64) (.cons (.int .i64) (.cons (.list 3 (.int .i64)) .nil))))))) (.agg (.cons (.ro (.int .i64)) (.cons (.ro (.int .i64)) (.cons (.ro (.int .i64)) (.cons (.ro (.int .i64)) (.cons (.ro (.int .i64)) (.cons (.h 104) .nil))))))))), (101, (.box (.st (.cons (.int .i64) (.cons (.int .i64) (.cons (.int .i64) (.cons (.int .i64) (.cons (.int .i64) (.cons (.list 3 (.int .i64)) .nil))))))) (.agg (.cons (.ro (.int .i64)) (.cons (.ro (.int .i64)) (.cons (.ro (.int .i64)) (.cons (.ro (.int .i64)) (.cons (.ro (.int .i64)) (.cons (.h 105) .nil))))))))), (102, (.box (.st (.cons (.int .i64) (.cons (.int .i64) (.cons (.int .i64) .nil)))) (.agg (.cons (.ro (.int .i64)) (.cons (.ro (.int .i64)) (.cons (.ro (.int .i64)) .nil)))))), (103, (.sl 3 (.int .i64))), (104, (.sl 3 (.int .i64))), (105, (.sl 3 (.int .i64)))]⟩
def f136i4s8 : SS := ⟨[(0, (.p 0)), (1, (.h 60)), (3, (.ro (.int .i64))), (8, (.p 100)), (9, (.p 101)), (10, (.ro (.int .i64))), (11, (.p 102)), (54, (.h 103)), (55, (.ro (.int .i64))), (56, (.ro (.int .i64)))], [(0, (.box (.st (.cons .ptr (.cons .bool .nil))) (.agg (.cons (.p 10) (.cons (.ro .bool) .nil))))), (10, (.box (.st (.cons (.list 91 (.st (.cons (.int .i64) (.cons (.int .i64) (.cons (.int .i64) (.cons .str (.cons (.int .i64) .nil))))))) (.cons (.list 3 (.int .i64)) .nil))) (.agg (.cons (.ro (.list 91 (.st (.cons (.int .i64) (.cons (.int .i64) (.cons (.int .i64) (.cons .str (.cons (.int .i64) .nil)))))))) (.cons (.h 11) .nil))))), (11, (.sl 3 (.int .i64))), (60, (.sl 105 (.st (.cons .str (.cons (.int .i64) (.cons (.int .i64) (.cons (.int .i64) .nil))))))), (100, (.box (.st (.cons (.int .i64) (.cons (.int .i64) (.cons (.int .i64) (.cons (.int .i64) (.cons (.int .i64) (.cons (.list 3 (.int .i64)) .nil))))))) (.agg (.cons (.ro (.int .i64)) (.cons (.ro (.int .i64)) (.cons (.ro (.int .i64)) (.cons (.ro (.int .i64)) (.cons (.ro (.int .i64)) (.cons (.h 104) .nil))))))))), (101, (.box (.st (.cons (.int .i64) (.cons (.int .i64) (.cons (.int .i64) (.cons (.int .i64) (.cons (.int .i64) (.cons (.list 3 (.int .i64)) .nil))))))) (.agg (.cons (.ro (.int .i64)) (.cons (.ro (.int .i64)) (.cons (.ro (.int .i64)) (.cons (.ro (.int .i64)) (.cons (.ro (.int .i64)) (.cons (.h 105) .nil))))))))), (102, (.box (.st (.cons (.int .i64) (.cons (.int .i64) (.cons (.int .i64) .nil)))) (.agg (.cons (.ro (.int .i64)) (.cons (.ro (.int .i64)) (.cons (.ro (.int .i64)) .nil)))))), (103, (.sl 3 (.int .i64))), (104, (.sl 3 (.int .i64))), (105, (.sl 3 (.int .i64)))]⟩
def f136i4con (F : Int → Int → TMetaReader → TTreeB → (List Int) → (List TCol) → Option (((Int × Int × Int × Int × Int × Unit × Unit)) × TMetaReader × TTreeB × (List Int) × (List TCol) × (List Int))) : Con := ⟨f136i4in, f136i4out, 4, 1, fun x => F x.1.2.2.1 x.1.2.2.2 x.2.1 x.2.2.1 x.2.2.2.1 x.2.2.2.2⟩
def f136i4ctx (k : Nat) : Ctx := ⟨tyAt tys, conAt [(77, [f77con (impl_tree_find k)]), (100, [f100i1con (impl_metaReader_number k)]), (101, [f101i2con (impl_metaReader_list k)]), (156, [f156con (impl_LeafOf k)]), (157, [f157con (slices_Equal_string_string k)]), (158, [f158con (impl_LeafPath k)])], 169, fun _ => false⟩
theorem f136i4hc (k : Nat) : CtxOk Tryz.prog (f136i4ctx k) := ctxOk tys_ok mixed_ok (consOk_cons (f77ok k) (consOk_cons (f100i1ok k) (consOk_cons (f101i2ok k) (consOk_cons (f156ok k) (consOk_cons (f157ok k) (consOk_cons (f158ok k) (consOk_nil)))))))
theorem f136i4ok (k : Nat) : FnOk Tryz.prog 136 (f136i4con (impl_metaReader_chunk k)) :=
  let hc := f136i4hc k
  fnOk (fn := Tryz.f136) (code := bodyOf Tryz.f136) (res := [.cell 8 51]) hc (by kernel_rfl) (by kernel_rfl) (by decide) (by kernel_rfl) (by kernel_rfl) (by kernel_rfl) (Nat.le_of_ble_eq_true (by kernel_rfl)) _
    (fun x => Snd.seq (by kernel_rfl) (Snd.seq (by kernel_rfl) (Snd.seq (by kernel_rfl) (Snd.seq (by kernel_rfl) (Snd.seq (by kernel_rfl) (Snd.seq (by kernel_rfl) (Snd.seq (by kernel_rfl) (Snd.seq (by kernel_rfl) (Snd.seq (by kernel_rfl) (Snd.cut (Snd.seq (by kernel_rfl) (Snd.seq (by kernel_rfl) (Snd.seq (by kernel_rfl) (Snd.cut (Snd.seq (by kernel_rfl) (Snd.seq (by kernel_rfl) (Snd.cut (Snd.exec hc _ _ _ _) ⟨f136i4s28, fun x => impl_metaReader_chunk.c28 k x.2.1 x.2.2.1 x.2.2.2.1 x.2.2.2.2.1 x.2.2.2.2.2.1 x.2.2.2.2.2.2.1 x.2.2.2.2.2.2.2.1 x.2.2.2.2.2.2.2.2⟩ (fun x => by kernel_rfl)) (Snd.exec hc _ _ _ _)) (Snd.exec hc _ _ _ _)) ⟨f136i4s24, fun x => impl_metaReader_chunk.c24 k x.1.2.2.2 x.2.1 x.2.2.1 x.2.2.2.1 x.2.2.2.2.1 x.2.2.2.2.2.1 x.2.2.2.2.2.2.1 x.2.2.2.2.2.2.2.1 x.2.2.2.2.2.2.2.2⟩ (fun x => by kernel_rfl)) (Snd.seq (by kernel_rfl) (Snd.exec hc _ _ _ _) (Snd.fork hc (id := 22) (by kernel_rfl) ⟨f136i4d22, fun x => impl_metaReader_chunk.d22 k x.1.2.2.2 x.2.1 x.2.2.1 x.2.2.2.1 x.2.2.2.2.1 x.2.2.2.2.2.1 x.2.2.2.2.2.2.1 x.2.2.2.2.2.2.2.1 x.2.2.2.2.2.2.2.2⟩ [[0, 1, 3, 2, 4, 5], [0, 1, 3, 4, 2, 5]] (by kernel_rfl) (ords_cons (fun x => by kernel_rfl) (ords_cons (fun x => by kernel_rfl) (ords_nil)))))) (Snd.exec hc _ _ _ _)) (Snd.exec hc _ _ _ _)) ⟨f136i4s20, fun x => impl_metaReader_chunk.c20 k x.1.2.2.2 x.2.1 x.2.2.1 x.2.2.2.1 x.2.2.2.2.1 x.2.2.2.2.2.1 x.2.2.2.2.2.2.1 x.2.2.2.2.2.2.2.1 x.2.2.2.2.2.2.2.2⟩ (fun x => by kernel_rfl)) (Snd.seq (by kernel_rfl) (Snd.exec hc _ _ _ _) (Snd.fork hc (id := 18) (by kernel_rfl) ⟨f136i4d18, fun x => impl_metaReader_chunk.d18 k x.1.2.2.1 x.1.2.2.2.2.2.1 x.2.1 x.2.2.1 x.2.2.2.1 x.2.2.2.2.1 x.2.2.2.2.2.1 x.2.2.2.2.2.2.1 x.2.2.2.2.2.2.2.1 x.2.2.2.2.2.2.2.2.1 x.2.2.2.2.2.2.2.2.2.1 x.2.2.2.2.2.2.2.2.2.2⟩ [[0, 1, 3, 2, 4, 5, 6, 7, 8, 9, 10, 11, 12, 13, 14, 15, 16, 17, 18, 19], [0, 1, 3, 4, 2, 5, 6, 7, 8, 9, 10, 11, 12, 13, 14, 15, 16, 17, 18, 19]] (by kernel_rfl) (ords_cons (fun x => by kernel_rfl) (ords_cons (fun x => by kernel_rfl) (ords_nil)))))) (Snd.seq (by kernel_rfl) (Snd.block (id := 2) (by kernel_rfl) (Snd.loop' (by kernel_rfl) f136i4s14 (fun n x => impl_metaReader_chunk.l14 k n x.1.2.2.1 x.1.2.2.2.2.2.1 x.1.2.2.2.2.2.2.2.2.2.1 x.1.2.2.2.2.2.2.2.2.2.2 x.2.1 x.2.2.1 x.2.2.2.1 x.2.2.2.2.1 x.2.2.2.2.2.1 x.2.2.2.2.2.2.1 x.2.2.2.2.2.2.2.1 x.2.2.2.2.2.2.2.2.1 x.2.2.2.2.2.2.2.2.2.1 x.2.2.2.2.2.2.2.2.2.2.1 x.2.2.2.2.2.2.2.2.2.2.2) _ (fun _ => rfl) (fun n14 => Snd.exec hc _ _ _ _) (fun n x => by kernel_rfl) k)) (Snd.exec hc _ _ _ _))) (Snd.exec hc _ _ _ _)) (Snd.seq (by kernel_rfl) (Snd.block (id := 0) (by kernel_rfl) (Snd.loop' (by kernel_rfl) f136i4s8 (fun n x => impl_metaReader_chunk.l8 k n x.1.2.2.1 x.1.2.2.2.2.2.1 x.1.2.2.2.2.2.2.2.2.1 x.1.2.2.2.2.2.2.2.2.2 x.2.1 x.2.2.1 x.2.2.2.1 x.2.2.2.2.1 x.2.2.2.2.2.1 x.2.2.2.2.2.2.1 x.2.2.2.2.2.2.2.1 x.2.2.2.2.2.2.2.2.1 x.2.2.2.2.2.2.2.2.2.1 x.2.2.2.2.2.2.2.2.2.2) _ (fun _ => rfl) (fun n8 => Snd.seq (by kernel_rfl) (Snd.seq (by kernel_rfl) (Snd.seq (by kernel_rfl) (Snd.exec hc _ _ _ _) (Snd.block (id := 1) (by kernel_rfl) (Snd.seq (by kernel_rfl) (Snd.fork hc (id := 10) (by kernel_rfl) ⟨f136i4d10, fun x => impl_metaReader_chunk.d10 k (impl_metaReader_chunk.l8 k n8) x.1.2.2.1 x.1.2.2.2.2.2.1 x.1.2.2.2.2.2.2.2.1 x.1.2.2.2.2.2.2.2.2.2.1 x.1.2.2.2.2.2.2.2.2.2.2 x.2.1 x.2.2.1 x.2.2.2.1 x.2.2.2.2.1 x.2.2.2.2.2.1 x.2.2.2.2.2.2.1 x.2.2.2.2.2.2.2.1 x.2.2.2.2.2.2.2.2.1 x.2.2.2.2.2.2.2.2.2.1 x.2.2.2.2.2.2.2.2.2.2⟩ [[0, 1, 2, 3, 4, 9, 5, 6, 7, 8, 10, 11, 12, 13, 14, 15, 16]] (by kernel_rfl) (ords_cons (fun x => by kernel_rfl) (ords_nil))) (Snd.exec hc _ _ _ _)))) (Snd.exec hc _ _ _ _)) (Snd.exec hc _ _ _ _)) (fun n x => by kernel_rfl) k)) (Snd.exec hc _ _ _ _))) (Snd.exec hc _ _ _ _)) (Snd.exec hc _ _ _ _)) (Snd.exec hc _ _ _ _)) (Snd.exec hc _ _ _ _)) (Snd.exec hc _ _ _ _))
    (fun x => by kernel_rfl)

def f102i3in : SS := ⟨[(0, (.p 0)), (1, (.h 60)), (2, (.ro (.int .i64)))], [(0, (.box (.st (.cons .ptr (.cons .bool .nil))) (.agg (.cons (.p 10) (.cons (.ro .bool) .nil))))), (10, (.box (.st (.cons (.list 91 (.st (.cons (.int .i64) (.cons (.int .i64) (.cons (.int .i64) (.cons .str (.cons (.int .i64) .nil))))))) (.cons (.list 3 (.int .i64)) .nil))) (.agg (.cons (.ro (.list 91 (.st (.cons (.int .i64) (.cons (.int .i64) (.cons (.int .i64) (.cons .str (.cons (.int .i64) .nil)))))))) (.cons (.h 11) .nil))))), (11, (.sl 3 (.int .i64))), (60, (.sl 105 (.st (.cons .str (.cons (.int .i64) (.cons (.int .i64) (.cons (.int .i64) .nil)))))))]⟩
def f102i3out : SS := ⟨[(0, (.agg (.cons (.ro (.int .i64)) (.cons (.h 100) .nil))))], [(0, (.box (.st (.cons .ptr (.cons .bool .nil))) (.agg (.cons (.p 10) (.cons (.ro .bool) .nil))))), (10, (.box (.st (.cons (.list 91 (.st (.cons (.int .i64) (.cons (.int .i64) (.cons (.int .i64) (.cons .str (.cons (.int .i64) .nil))))))) (.cons (.list 3 (.int .i64)) .nil))) (.agg (.cons (.ro (.list 91 (.st (.cons (.int .i64) (.cons (.int .i64) (.cons (.int .i64) (.cons .str (.cons (.int .i64) .nil)))))))) (.cons (.h 11) .nil))))), (11, (.sl 3 (.int .i64))), (60, (.sl 105 (.st (.cons .str (.cons (.int .i64) (.cons (.int .i64) (.cons (.int .i64) .nil))))))), (100, (.sl 51 (.st (.cons (.int .i64) (.cons (.int .i64) (.cons (.int .i64) (.cons (.int .i64) (.cons (.int .i64) (.cons (.list 3 (.int .i64)) .nil)))))))))]⟩
def f102i3s11 : SS := ⟨[(6, (.p 100)), (7, (.p 101))], [(0, (.box (.st (.cons .ptr (.cons .bool .nil))) (.agg (.cons (.p 10) (.cons (.ro .bool) .nil))))), (10, (.box (.st (.cons (.list 91 (.st (.cons (.int .i64) (.cons (.int .i64) (.cons (.int .i64) (.cons .str (.cons (.int .i64) .nil))))))) (.cons (.list 3 (.int .i64)) .nil))) (.agg (.cons (.ro (.list 91 (.st (.cons (.int .i64) (.cons (.int .i64) (.cons (.int .i64) (.cons .str (.cons (.int .i64) .nil)))))))) (.cons (.h 11) .nil))))), (11, (.sl 3 (.int .i64))), (60, (.sl 105 (.st (.cons .str (.cons (.int .i64) (.cons (.int .i64) (.cons (.int .i64) .nil))))))), (100, (.box (.st (.cons (.int .i64) (.cons (.list 51 (.st (.cons (.int .i64) (.cons (.int .i64) (.cons (.int .i64) (.cons (.int .i64) (.cons (.int .i64) (.cons (.list 3 (.int .i64)) .nil)))))))) .nil))) (.agg (.cons (.ro (.int .i64)) (.cons (.h 102) .nil))))), (101, (.box (.st (.cons (.int .i64) (.cons (.list 51 (.st (.cons (.int .i64) (.cons (.int .i64) (.cons (.int .i64) (.cons (.int .i64) (.cons (.int .i64) (.cons (.list 3 (.int .i64)) .nil)))))))) .nil))) (.agg (.cons (.ro (.int .i64)) (.cons (.h 103) .nil))))), (102, (.sl 51 (.st (.cons (.int .i64) (.cons (.int .i64) (.cons (.int .i64) (.cons (.int .i64) (.cons (.int .i64) (.cons (.list 3 (.int .i64)) .nil))))))))), (103, (.sl 51 (.st (.cons (.int .i64) (.cons (.int .i64) (.cons (.int .i64) (.cons (.int .i64) (.cons (.int .i64) (.cons (.list 3 (.int .i64)) .nil)))))))))]⟩
def f102i3s4 : SS := ⟨[(0, (.p 0)), (1, (.h 60)), (6, (.p 100)), (7, (.p 101)), (18, (.h 102)), (19, (.ro (.int .i64))), (20, (.ro (.int .i64)))], [(0, (.box (.st (.cons .ptr (.cons .bool .nil))) (.agg (.cons (.p 10) (.cons (.ro .bool) .nil))))), (10, (.box (.st (.cons (.list 91 (.st (.cons (.int .i64) (.cons (.int .i64) (.cons (.int .i64) (.cons .str (.cons (.int .i64) .nil))))))) (.cons (.list 3 (.int .i64)) .nil))) (.agg (.cons (.ro (.list 91 (.st (.cons (.int .i64) (.cons (.int .i64) (.cons (.int .i64) (.cons .str (.cons (.int .i64) .nil)))))))) (.cons (.h 11) .nil))))), (11, (.sl 3 (.int .i64))), (60, (.sl 105 (.st (.cons .str (.cons (.int .i64) (.cons (.int .i64) (.cons (.int .i64) .nil))))))), (100, (.box (.st (.cons (.int .i64) (.cons (.list 51 (.st (.cons (.int .i64) (.cons (.int .i64) (.cons (.int .i64) (.cons (.int .i64) (.cons (.int .i64) (.cons (.list 3 (.int .i64)) .nil)))))))) .nil))) (.agg (.cons (.ro (.int .i64)) (.cons (.h 103) .nil))))), (101, (.box (.st (.cons (.int .i64) (.cons (.list 51 (.st (.cons (.int .i64) (.cons (.int .i64) (.cons (.int .i64) (.cons (.int .i64) (.cons (.int .i64) (.cons (.list 3 (.int .i64)) .nil)))))))) .nil))) (.agg (.cons (.ro (.int .i64)) (.cons (.h 104) .nil))))), (102, (.sl 3 (.int .i64))), (103, (.sl 51 (.st (.cons (.int .i64) (.cons (.int .i64) (.cons (.int .i64) (.cons (.int .i64) (.cons (.int .i64) (.cons (.list 3 (.int .i64)) .nil))))))))), (104, (.sl 51 (.st (.cons (.int .i64) (.cons (.int .i64) (.cons (.int .i64) (.cons (.int .i64) (.cons (.int .i64) (.cons (.list 3 (.int .i64)) .nil)))))))))]⟩
def f102i3con (F : Int → TMetaReader → TTreeB → (List Int) → (List TCol) → Option (((Int × Unit × Unit)) × TMetaReader × TTreeB × (List Int) × (List TCol) × (List TChunk))) : Con := ⟨f102i3in, f102i3out, 3, 1, fun x => F x.1.2.2 x.2.1 x.2.2.1 x.2.2.2.1 x.2.2.2.2⟩
def f102i3ctx (k : Nat) : Ctx := ⟨tyAt tys, conAt [(100, [f100i1con (impl_metaReader_number k)]), (101, [f101i2con (impl_metaReader_list k)]), (136, [f136i4con (impl_metaReader_chunk k)])], 49, fun _ => false⟩
theorem f102i3hc (k : Nat) : CtxOk Tryz.prog (f102i3ctx k) := ctxOk tys_ok mixed_ok (consOk_cons (f100i1ok k) (consOk_cons (f101i2ok k) (consOk_cons (f136i4ok k) (consOk_nil))))
theorem f102i3ok (k : Nat) : FnOk Tryz.prog 102 (f102i3con (impl_metaReader_group k)) :=
  let hc := f102i3hc k
  fnOk (fn := Tryz.f102) (code := bodyOf Tryz.f102) (res := [.cell 6 109]) hc (by kernel_rfl) (by kernel_rfl) (by decide) (by kernel_rfl) (by kernel_rfl) (by kernel_rfl) (Nat.le_of_ble_eq_true (by kernel_rfl)) _
    (fun x => Snd.seq (by kernel_rfl) (Snd.seq (by kernel_rfl) (Snd.seq (by kernel_rfl) (Snd.seq (by kernel_rfl) (Snd.cut (Snd.exec hc _ _ _ _) ⟨f102i3s11, fun x => impl_metaReader_group.c11 k x.2.1 x.2.2.1 x.2.2.2.1 x.2.2.2.2.1 x.2.2.2.2.2.1 x.2.2.2.2.2.2.1 x.2.2.2.2.2.2.2.1 x.2.2.2.2.2.2.2.2⟩ (fun x => by kernel_rfl)) (Snd.seq (by kernel_rfl) (Snd.block (id := 0) (by kernel_rfl) (Snd.loop' (by kernel_rfl) f102i3s4 (fun n x => impl_metaReader_group.l4 k n x.1.2.2.2.2.2.1 x.1.2.2.2.2.2.2 x.2.1 x.2.2.1 x.2.2.2.1 x.2.2.2.2.1 x.2.2.2.2.2.1 x.2.2.2.2.2.2.1 x.2.2.2.2.2.2.2.1 x.2.2.2.2.2.2.2.2.1 x.2.2.2.2.2.2.2.2.2) _ (fun _ => rfl) (fun n4 => Snd.exec hc _ _ _ _) (fun n x => by kernel_rfl) k)) (Snd.exec hc _ _ _ _))) (Snd.exec hc _ _ _ _)) (Snd.exec hc _ _ _ _)) (Snd.exec hc _ _ _ _))
    (fun x => by kernel_rfl)

def f67in : SS := ⟨[(0, (.ro (.list 91 (.st (.cons (.int .i64) (.cons (.int .i64) (.cons (.int .i64) (.cons .str (.cons (.int .i64) .nil)))))))))], []⟩
def f67out : SS := ⟨[(0, (.agg (.cons (.h 100) (.cons (.ro (.int .i64)) (.cons (.h 101) .nil))))), (1, (.ro .bool))], [(100, (.sl 105 (.st (.cons .str (.cons (.int .i64) (.cons (.int .i64) (.cons (.int .i64) .nil))))))), (101, (.sl 109 (.st (.cons (.int .i64) (.cons (.list 51 (.st (.cons (.int .i64) (.cons (.int .i64) (.cons (.int .i64) (.cons (.int .i64) (.cons (.int .i64) (.cons (.list 3 (.int .i64)) .nil)))))))) .nil)))))]⟩
def f67s11 : SS := ⟨[(2, (.p 100)), (6, (.p 101)), (7, (.p 102)), (36, (.h 103)), (37, (.ro (.int .i64))), (38, (.ro (.int .i64)))], [(100, (.box (.st (.cons (.list 105 (.st (.cons .str (.cons (.int .i64) (.cons (.int .i64) (.cons (.int .i64) .nil)))))) (.cons (.int .i64) (.cons (.list 109 (.st (.cons (.int .i64) (.cons (.list 51 (.st (.cons (.int .i64) (.cons (.int .i64) (.cons (.int .i64) (.cons (.int .i64) (.cons (.int .i64) (.cons (.list 3 (.int .i64)) .nil)))))))) .nil)))) .nil)))) (.agg (.cons (.h 104) (.cons (.ro (.int .i64)) (.cons (.h 105) .nil)))))), (101, (.box (.st (.cons (.list 105 (.st (.cons .str (.cons (.int .i64) (.cons (.int .i64) (.cons (.int .i64) .nil)))))) (.cons (.int .i64) (.cons (.list 109 (.st (.cons (.int .i64) (.cons (.list 51 (.st (.cons (.int .i64) (.cons (.int .i64) (.cons (.int .i64) (.cons (.int .i64) (.cons (.int .i64) (.cons (.list 3 (.int .i64)) .nil)))))))) .nil)))) .nil)))) (.agg (.cons (.h 106) (.cons (.ro (.int .i64)) (.cons (.h 107) .nil)))))), (102, (.box (.st (.cons .ptr (.cons .bool .nil))) (.agg (.cons (.p 108) (.cons (.ro .bool) .nil))))), (103, (.sl 3 (.int .i64))), (104, (.sl 105 (.st (.cons .str (.cons (.int .i64) (.cons (.int .i64) (.cons (.int .i64) .nil))))))), (105, (.sl 109 (.st (.cons (.int .i64) (.cons (.list 51 (.st (.cons (.int .i64) (.cons (.int .i64) (.cons (.int .i64) (.cons (.int .i64) (.cons (.int .i64) (.cons (.list 3 (.int .i64)) .nil)))))))) .nil))))), (106, (.sl 105 (.st (.cons .str (.cons (.int .i64) (.cons (.int .i64) (.cons (.int .i64) .nil))))))), (107, (.sl 109 (.st (.cons (.int .i64) (.cons (.list 51 (.st (.cons (.int .i64) (.cons (.int .i64) (.cons (.int .i64) (.cons (.int .i64) (.cons (.int .i64) (.cons (.list 3 (.int .i64)) .nil)))))))) .nil))))), (108, (.box (.st (.cons (.list 91 (.st (.cons (.int .i64) (.cons (.int .i64) (.cons (.int .i64) (.cons .str (.cons (.int .i64) .nil))))))) (.cons (.list 3 (.int .i64)) .nil))) (.agg (.cons (.ro (.list 91 (.st (.cons (.int .i64) (.cons (.int .i64) (.cons (.int .i64) (.cons .str (.cons (.int .i64) .nil)))))))) (.cons (.h 109) .nil))))), (109, (.sl 3 (.int .i64)))]⟩
def f67con (F : (List TNode) → Option (((Unit × Int × Unit × Unit) × Bool) × (List TCol) × (List TGroupMeta))) : Con := ⟨f67in, f67out, 1, 2, fun x => F x⟩
def f67ctx (k : Nat) : Ctx := ⟨tyAt tys, conAt [(72, [f72con (impl_treeOf k)]), (99, [f99con (impl_tree_schema k)]), (100, [f100i1con (impl_metaReader_number k)]), (101, [f101i2con (impl_metaReader_list k)]), (102, [f102i3con (impl_metaReader_group k)]), (103, [f103con (impl_MetaOk k)])], 65, fun _ => false⟩
theorem f67hc (k : Nat) : CtxOk Tryz.prog (f67ctx k) := ctxOk tys_ok mixed_ok (consOk_cons (f72ok k) (consOk_cons (f99ok k) (consOk_cons (f100i1ok k) (consOk_cons (f101i2ok k) (consOk_cons (f102i3ok k) (consOk_cons (f103ok k) (consOk_nil)))))))
theorem f67ok (k : Nat) : FnOk Tryz.prog 67 (f67con (impl_MetaFrom k)) :=
  let hc := f67hc k
  fnOk (fn := Tryz.f67) (code := bodyOf Tryz.f67) (res := [.cell 2 35, .tmp 3]) hc (by kernel_rfl) (by kernel_rfl) (by decide) (by kernel_rfl) (by kernel_rfl) (by kernel_rfl) (Nat.le_of_ble_eq_true (by kernel_rfl)) _
    (fun x => Snd.seq (by kernel_rfl) (Snd.seq (by kernel_rfl) (Snd.seq (by kernel_rfl) (Snd.seq (by kernel_rfl) (Snd.seq (by kernel_rfl) (Snd.seq (by kernel_rfl) (Snd.seq (by kernel_rfl) (Snd.seq (by kernel_rfl) (Snd.seq (by kernel_rfl) (Snd.exec hc _ _ _ _) (Snd.seq (by kernel_rfl) (Snd.block (id := 0) (by kernel_rfl) (Snd.loop' (by kernel_rfl) f67s11 (fun n x => impl_MetaFrom.l11 k n x.1.2.2.2.2.1 x.1.2.2.2.2.2 x.2.1 x.2.2.1 x.2.2.2.1 x.2.2.2.2.1 x.2.2.2.2.2.1 x.2.2.2.2.2.2.1 x.2.2.2.2.2.2.2.1 x.2.2.2.2.2.2.2.2.1 x.2.2.2.2.2.2.2.2.2.1 x.2.2.2.2.2.2.2.2.2.2) _ (fun _ => rfl) (fun n11 => Snd.exec hc _ _ _ _) (fun n x => by kernel_rfl) k)) (Snd.exec hc _ _ _ _))) (Snd.exec hc _ _ _ _)) (Snd.exec hc _ _ _ _)) (Snd.exec hc _ _ _ _)) (Snd.exec hc _ _ _ _)) (Snd.exec hc _ _ _ _)) (Snd.exec hc _ _ _ _)) (Snd.exec hc _ _ _ _)) (Snd.exec hc _ _ _ _))
    (fun x => by kernel_rfl)

def f41in : SS := ⟨[(0, (.ro (.list 5 (.int .u8)))), (1, (.ro (.int .i64)))], []⟩
def f41out : SS := ⟨[(0, (.agg (.cons (.h 100) (.cons (.ro (.int .i64)) (.cons (.h 101) .nil))))), (1, (.ro (.int .i64))), (2, (.ro .bool))], [(100, (.sl 105 (.st (.cons .str (.cons (.int .i64) (.cons (.int .i64) (.cons (.int .i64) .nil))))))), (101, (.sl 109 (.st (.cons (.int .i64) (.cons (.list 51 (.st (.cons (.int .i64) (.cons (.int .i64) (.cons (.int .i64) (.cons (.int .i64) (.cons (.int .i64) (.cons (.list 3 (.int .i64)) .nil)))))))) .nil)))))]⟩
def f41con (F : (List Int) → Int → Option (((Unit × Int × Unit × Unit) × Int × Bool) × (List TCol) × (List TGroupMeta))) : Con := ⟨f41in, f41out, 2, 3, fun x => F x.1 x.2⟩
def f41ctx (k : Nat) : Ctx := ⟨tyAt tys, conAt [(66, [f66con (impl_TreeRead k)]), (67, [f67con (impl_MetaFrom k)])], 32, fun _ => false⟩
theorem f41hc (k : Nat) : CtxOk Tryz.prog (f41ctx k) := ctxOk tys_ok mixed_ok (consOk_cons (f66ok k) (consOk_cons (f67ok k) (consOk_nil)))
theorem f41ok (k : Nat) : FnOk Tryz.prog 41 (f41con (impl_MetaRead k)) :=
  let hc := f41hc k
  fnOk (fn := Tryz.f41) (code := bodyOf Tryz.f41) (res := [.cell 4 35, .tmp 5, .tmp 6]) hc (by kernel_rfl) (by kernel_rfl) (by decide) (by kernel_rfl) (by kernel_rfl) (by kernel_rfl) (Nat.le_of_ble_eq_true (by kernel_rfl)) _
    (fun x => Snd.exec hc _ _ _ _)
    (fun x => by kernel_rfl)

def f15in : SS := ⟨[(0, (.ro (.list 5 (.int .u8))))], []⟩
def f15out : SS := ⟨[(0, (.agg (.cons (.h 100) (.cons (.ro (.int .i64)) (.cons (.h 101) .nil))))), (1, (.ro (.int .i64)))], [(100, (.sl 105 (.st (.cons .str (.cons (.int .i64) (.cons (.int .i64) (.cons (.int .i64) .nil))))))), (101, (.sl 109 (.st (.cons (.int .i64) (.cons (.list 51 (.st (.cons (.int .i64) (.cons (.int .i64) (.cons (.int .i64) (.cons (.int .i64) (.cons (.int .i64) (.cons (.list 3 (.int .i64)) .nil)))))))) .nil)))))]⟩
def f15con (F : (List Int) → Option (((Unit × Int × Unit × Unit) × Int) × (List TCol) × (List TGroupMeta))) : Con := ⟨f15in, f15out, 1, 2, fun x => F x⟩
def f15ctx (k : Nat) : Ctx := ⟨tyAt tys, conAt [(39, [f39con (impl_within k)]), (40, [f40con (impl_WordGet k)]), (41, [f41con (impl_MetaRead k)])], 67, fun _ => false⟩
theorem f15hc (k : Nat) : CtxOk Tryz.prog (f15ctx k) := ctxOk tys_ok mixed_ok (consOk_cons (f39ok k) (consOk_cons (f40ok k) (consOk_cons (f41ok k) (consOk_nil))))
theorem f15ok (k : Nat) : FnOk Tryz.prog 15 (f15con (impl_FileMeta k)) :=
  let hc := f15hc k
  fnOk (fn := Tryz.f15) (code := bodyOf Tryz.f15) (res := [.cell 2 35, .tmp 3]) hc (by kernel_rfl) (by kernel_rfl) (by decide) (by kernel_rfl) (by kernel_rfl) (by kernel_rfl) (Nat.le_of_ble_eq_true (by kernel_rfl)) _
    (fun x => Snd.exec hc _ _ _ _)
    (fun x => by kernel_rfl)

def f68in : SS := ⟨[(0, (.ro (.st (.cons .str (.cons (.int .i64) (.cons (.int .i64) (.cons (.int .i64) .nil))))))), (1, (.ro (.st (.cons .str (.cons (.int .i64) (.cons (.int .i64) (.cons (.int .i64) .nil)))))))], []⟩
def f68out : SS := ⟨[(0, (.ro .bool))], []⟩
def f68con (F : TCol → TCol → Option Bool) : Con := ⟨f68in, f68out, 2, 1, fun x => F x.1 x.2⟩
def f68ctx (k : Nat) : Ctx := ⟨tyAt tys, conAt [], 25, fun _ => false⟩
theorem f68hc (k : Nat) : CtxOk Tryz.prog (f68ctx k) := ctxOk tys_ok mixed_ok (consOk_nil)
theorem f68ok (k : Nat) : FnOk Tryz.prog 68 (f68con (laws_eqCol k)) :=
  let hc := f68hc k
  fnOk (fn := Tryz.f68) (code := bodyOf Tryz.f68) (res := [.tmp 4]) hc (by kernel_rfl) (by kernel_rfl) (by decide) (by kernel_rfl) (by kernel_rfl) (by kernel_rfl) (Nat.le_of_ble_eq_true (by kernel_rfl)) _
    (fun x => Snd.exec hc _ _ _ _)
    (fun x => by kernel_rfl)

def f42in : SS := ⟨[(0, (.ro (.list 105 (.st (.cons .str (.cons (.int .i64) (.cons (.int .i64) (.cons (.int .i64) .nil)))))))), (1, (.ro (.list 105 (.st (.cons .str (.cons (.int .i64) (.cons (.int .i64) (.cons (.int .i64) .nil))))))))], []⟩
def f42out : SS := ⟨[(0, (.ro .bool))], []⟩
def f42s4 : SS := ⟨[(0, (.ro (.list 105 (.st (.cons .str (.cons (.int .i64) (.cons (.int .i64) (.cons (.int .i64) .nil)))))))), (1, (.ro (.list 105 (.st (.cons .str (.cons (.int .i64) (.cons (.int .i64) (.cons (.int .i64) .nil)))))))), (5, (.ro (.int .i64)))], []⟩
def f42con (F : (List TCol) → (List TCol) → Option Bool) : Con := ⟨f42in, f42out, 2, 1, fun x => F x.1 x.2⟩
def f42ctx (k : Nat) : Ctx := ⟨tyAt tys, conAt [(68, [f68con (laws_eqCol k)])], 27, fun _ => false⟩
theorem f42hc (k : Nat) : CtxOk Tryz.prog (f42ctx k) := ctxOk tys_ok mixed_ok (consOk_cons (f68ok k) (consOk_nil))
theorem f42ok (k : Nat) : FnOk Tryz.prog 42 (f42con (laws_eqColS k)) :=
  let hc := f42hc k
  fnOk (fn := Tryz.f42) (code := bodyOf Tryz.f42) (res := [.tmp 4]) hc (by kernel_rfl) (by kernel_rfl) (by decide) (by kernel_rfl) (by kernel_rfl) (by kernel_rfl) (Nat.le_of_ble_eq_true (by kernel_rfl)) _
    (fun x => Snd.seq (by kernel_rfl) (Snd.seq (by kernel_rfl) (Snd.seq (by kernel_rfl) (Snd.exec hc _ _ _ _) (Snd.seq (by kernel_rfl) (Snd.block (id := 0) (by kernel_rfl) (Snd.loop' (by kernel_rfl) f42s4 (fun n x => laws_eqColS.l4 k n x.1 x.2.1 x.2.2) _ (fun _ => rfl) (fun n4 => Snd.exec hc _ _ _ _) (fun n x => by kernel_rfl) k)) (Snd.exec hc _ _ _ _))) (Snd.exec hc _ _ _ _)) (Snd.exec hc _ _ _ _))
    (fun x => by kernel_rfl)

def f24in : SS := ⟨[(0, (.ro (.list 3 (.int .i64)))), (1, (.ro (.list 3 (.int .i64))))], []⟩
def f24out : SS := ⟨[(0, (.ro .bool))], []⟩
def f24s4 : SS := ⟨[(0, (.ro (.list 3 (.int .i64)))), (1, (.ro (.list 3 (.int .i64)))), (5, (.ro (.int .i64)))], []⟩
def f24con (F : (List Int) → (List Int) → Option Bool) : Con := ⟨f24in, f24out, 2, 1, fun x => F x.1 x.2⟩
def f24ctx (k : Nat) : Ctx := ⟨tyAt tys, conAt [], 26, fun _ => false⟩
theorem f24hc (k : Nat) : CtxOk Tryz.prog (f24ctx k) := ctxOk tys_ok mixed_ok (consOk_nil)
theorem f24ok (k : Nat) : FnOk Tryz.prog 24 (f24con (laws_eqIntS k)) :=
  let hc := f24hc k
  fnOk (fn := Tryz.f24) (code := bodyOf Tryz.f24) (res := [.tmp 4]) hc (by kernel_rfl) (by kernel_rfl) (by decide) (by kernel_rfl) (by kernel_rfl) (by kernel_rfl) (Nat.le_of_ble_eq_true (by kernel_rfl)) _
    (fun x => Snd.seq (by kernel_rfl) (Snd.seq (by kernel_rfl) (Snd.seq (by kernel_rfl) (Snd.exec hc _ _ _ _) (Snd.seq (by kernel_rfl) (Snd.block (id := 0) (by kernel_rfl) (Snd.loop' (by kernel_rfl) f24s4 (fun n x => laws_eqIntS.l4 k n x.1 x.2.1 x.2.2) _ (fun _ => rfl) (fun n4 => Snd.exec hc _ _ _ _) (fun n x => by kernel_rfl) k)) (Snd.exec hc _ _ _ _))) (Snd.exec hc _ _ _ _)) (Snd.exec hc _ _ _ _))
    (fun x => by kernel_rfl)

def f25in : SS := ⟨[(0, (.ro (.st (.cons (.int .i64) (.cons (.int .i64) (.cons (.int .i64) (.cons (.int .i64) (.cons (.int .i64) (.cons (.list 3 (.int .i64)) .nil))))))))), (1, (.ro (.st (.cons (.int .i64) (.cons (.int .i64) (.cons (.int .i64) (.cons (.int .i64) (.cons (.int .i64) (.cons (.list 3 (.int .i64)) .nil)))))))))], []⟩
def f25out : SS := ⟨[(0, (.ro .bool))], []⟩
def f25con (F : TChunk → TChunk → Option Bool) : Con := ⟨f25in, f25out, 2, 1, fun x => F x.1 x.2⟩
def f25ctx (k : Nat) : Ctx := ⟨tyAt tys, conAt [(24, [f24con (laws_eqIntS k)])], 36, fun _ => false⟩
theorem f25hc (k : Nat) : CtxOk Tryz.prog (f25ctx k) := ctxOk tys_ok mixed_ok (consOk_cons (f24ok k) (consOk_nil))
theorem f25ok (k : Nat) : FnOk Tryz.prog 25 (f25con (laws_eqChunk k)) :=
  let hc := f25hc k
  fnOk (fn := Tryz.f25) (code := bodyOf Tryz.f25) (res := [.tmp 4]) hc (by kernel_rfl) (by kernel_rfl) (by decide) (by kernel_rfl) (by kernel_rfl) (by kernel_rfl) (Nat.le_of_ble_eq_true (by kernel_rfl)) _
    (fun x => Snd.exec hc _ _ _ _)
    (fun x => by kernel_rfl)

def f104in : SS := ⟨[(0, (.ro (.list 51 (.st (.cons (.int .i64) (.cons (.int .i64) (.cons (.int .i64) (.cons (.int .i64) (.cons (.int .i64) (.cons (.list 3 (.int .i64)) .nil)))))))))), (1, (.ro (.list 51 (.st (.cons (.int .i64) (.cons (.int .i64) (.cons (.int .i64) (.cons (.int .i64) (.cons (.int .i64) (.cons (.list 3 (.int .i64)) .nil))))))))))], []⟩
def f104out : SS := ⟨[(0, (.ro .bool))], []⟩
def f104s4 : SS := ⟨[(0, (.ro (.list 51 (.st (.cons (.int .i64) (.cons (.int .i64) (.cons (.int .i64) (.cons (.int .i64) (.cons (.int .i64) (.cons (.list 3 (.int .i64)) .nil)))))))))), (1, (.ro (.list 51 (.st (.cons (.int .i64) (.cons (.int .i64) (.cons (.int .i64) (.cons (.int .i64) (.cons (.int .i64) (.cons (.list 3 (.int .i64)) .nil)))))))))), (5, (.ro (.int .i64)))], []⟩
def f104con (F : (List TChunk) → (List TChunk) → Option Bool) : Con := ⟨f104in, f104out, 2, 1, fun x => F x.1 x.2⟩
def f104ctx (k : Nat) : Ctx := ⟨tyAt tys, conAt [(25, [f25con (laws_eqChunk k)])], 27, fun _ => false⟩
theorem f104hc (k : Nat) : CtxOk Tryz.prog (f104ctx k) := ctxOk tys_ok mixed_ok (consOk_cons (f25ok k) (consOk_nil))
theorem f104ok (k : Nat) : FnOk Tryz.prog 104 (f104con (laws_eqChunkS k)) :=
  let hc := f104hc k
  fnOk (fn := Tryz.f104) (code := bodyOf Tryz.f104) (res := [.tmp 4]) hc (by kernel_rfl) (by kernel_rfl) (by decide) (by kernel_rfl) (by kernel_rfl) (by kernel_rfl) (Nat.le_of_ble_eq_true (by kernel_rfl)) _
    (fun x => Snd.seq (by kernel_rfl) (Snd.seq (by kernel_rfl) (Snd.seq (by kernel_rfl) (Snd.exec hc _ _ _ _) (Snd.seq (by kernel_rfl) (Snd.block (id := 0) (by kernel_rfl) (Snd.loop' (by kernel_rfl) f104s4 (fun n x => laws_eqChunkS.l4 k n x.1 x.2.1 x.2.2) _ (fun _ => rfl) (fun n4 => Snd.exec hc _ _ _ _) (fun n x => by kernel_rfl) k)) (Snd.exec hc _ _ _ _))) (Snd.exec hc _ _ _ _)) (Snd.exec hc _ _ _ _))
    (fun x => by kernel_rfl)

def f69in : SS := ⟨[(0, (.ro (.st (.cons (.int .i64) (.cons (.list 51 (.st (.cons (.int .i64) (.cons (.int .i64) (.cons (.int .i64) (.cons (.int .i64) (.cons (.int .i64) (.cons (.list 3 (.int .i64)) .nil)))))))) .nil))))), (1, (.ro (.st (.cons (.int .i64) (.cons (.list 51 (.st (.cons (.int .i64) (.cons (.int .i64) (.cons (.int .i64) (.cons (.int .i64) (.cons (.int .i64) (.cons (.list 3 (.int .i64)) .nil)))))))) .nil)))))], []⟩
def f69out : SS := ⟨[(0, (.ro .bool))], []⟩
def f69con (F : TGroupMeta → TGroupMeta → Option Bool) : Con := ⟨f69in, f69out, 2, 1, fun x => F x.1 x.2⟩
def f69ctx (k : Nat) : Ctx := ⟨tyAt tys, conAt [(104, [f104con (laws_eqChunkS k)])], 16, fun _ => false⟩
theorem f69hc (k : Nat) : CtxOk Tryz.prog (f69ctx k) := ctxOk tys_ok mixed_ok (consOk_cons (f104ok k) (consOk_nil))
theorem f69ok (k : Nat) : FnOk Tryz.prog 69 (f69con (laws_eqGroupMeta k)) :=
  let hc := f69hc k
  fnOk (fn := Tryz.f69) (code := bodyOf Tryz.f69) (res := [.tmp 4]) hc (by kernel_rfl) (by kernel_rfl) (by decide) (by kernel_rfl) (by kernel_rfl) (by kernel_rfl) (Nat.le_of_ble_eq_true (by kernel_rfl)) _
    (fun x => Snd.exec hc _ _ _ _)
    (fun x => by kernel_rfl)

def f43in : SS := ⟨[(0, (.ro (.list 109 (.st (.cons (.int .i64) (.cons (.list 51 (.st (.cons (.int .i64) (.cons (.int .i64) (.cons (.int .i64) (.cons (.int .i64) (.cons (.int .i64) (.cons (.list 3 (.int .i64)) .nil)))))))) .nil)))))), (1, (.ro (.list 109 (.st (.cons (.int .i64) (.cons (.list 51 (.st (.cons (.int .i64) (.cons (.int .i64) (.cons (.int .i64) (.cons (.int .i64) (.cons (.int .i64) (.cons (.list 3 (.int .i64)) .nil)))))))) .nil))))))], []⟩
def f43out : SS := ⟨[(0, (.ro .bool))], []⟩
def f43s4 : SS := ⟨[(0, (.ro (.list 109 (.st (.cons (.int .i64) (.cons (.list 51 (.st (.cons (.int .i64) (.cons (.int .i64) (.cons (.int .i64) (.cons (.int .i64) (.cons (.int .i64) (.cons (.list 3 (.int .i64)) .nil)))))))) .nil)))))), (1, (.ro (.list 109 (.st (.cons (.int .i64) (.cons (.list 51 (.st (.cons (.int .i64) (.cons (.int .i64) (.cons (.int .i64) (.cons (.int .i64) (.cons (.int .i64) (.cons (.list 3 (.int .i64)) .nil)))))))) .nil)))))), (5, (.ro (.int .i64)))], []⟩
def f43con (F : (List TGroupMeta) → (List TGroupMeta) → Option Bool) : Con := ⟨f43in, f43out, 2, 1, fun x => F x.1 x.2⟩
def f43ctx (k : Nat) : Ctx := ⟨tyAt tys, conAt [(69, [f69con (laws_eqGroupMeta k)])], 27, fun _ => false⟩
theorem f43hc (k : Nat) : CtxOk Tryz.prog (f43ctx k) := ctxOk tys_ok mixed_ok (consOk_cons (f69ok k) (consOk_nil))
theorem f43ok (k : Nat) : FnOk Tryz.prog 43 (f43con (laws_eqGroupMetaS k)) :=
  let hc := f43hc k
  fnOk (fn := Tryz.f43) (code := bodyOf Tryz.f43) (res := [.tmp 4]) hc (by kernel_rfl) (by kernel_rfl) (by decide) (by kernel_rfl) (by kernel_rfl) (by kernel_rfl) (Nat.le_of_ble_eq_true (by kernel_rfl)) _
    (fun x => Snd.seq (by kernel_rfl) (Snd.seq (by kernel_rfl) (Snd.seq (by kernel_rfl) (Snd.exec hc _ _ _ _) (Snd.seq (by kernel_rfl) (Snd.block (id := 0) (by kernel_rfl) (Snd.loop' (by kernel_rfl) f43s4 (fun n x => laws_eqGroupMetaS.l4 k n x.1 x.2.1 x.2.2) _ (fun _ => rfl) (fun n4 => Snd.exec hc _ _ _ _) (fun n x => by kernel_rfl) k)) (Snd.exec hc _ _ _ _))) (Snd.exec hc _ _ _ _)) (Snd.exec hc _ _ _ _))
    (fun x => by kernel_rfl)

def f16in : SS := ⟨[(0, (.ro (.st (.cons (.list 105 (.st (.cons .str (.cons (.int .i64) (.cons (.int .i64) (.cons (.int .i64) .nil)))))) (.cons (.int .i64) (.cons (.list 109 (.st (.cons (.int .i64) (.cons (.list 51 (.st (.cons (.int .i64) (.cons (.int .i64) (.cons (.int .i64) (.cons (.int .i64) (.cons (.int .i64) (.cons (.list 3 (.int .i64)) .nil)))))))) .nil)))) .nil)))))), (1, (.ro (.st (.cons (.list 105 (.st (.cons .str (.cons (.int .i64) (.cons (.int .i64) (.cons (.int .i64) .nil)))))) (.cons (.int .i64) (.cons (.list 109 (.st (.cons (.int .i64) (.cons (.list 51 (.st (.cons (.int .i64) (.cons (.int .i64) (.cons (.int .i64) (.cons (.int .i64) (.cons (.int .i64) (.cons (.list 3 (.int .i64)) .nil)))))))) .nil)))) .nil))))))], []⟩
def f16out : SS := ⟨[(0, (.ro .bool))], []⟩
def f16con (F : TMeta → TMeta → Option Bool) : Con := ⟨f16in, f16out, 2, 1, fun x => F x.1 x.2⟩
def f16ctx (k : Nat) : Ctx := ⟨tyAt tys, conAt [(42, [f42con (laws_eqColS k)]), (43, [f43con (laws_eqGroupMetaS k)])], 22, fun _ => false⟩
theorem f16hc (k : Nat) : CtxOk Tryz.prog (f16ctx k) := ctxOk tys_ok mixed_ok (consOk_cons (f42ok k) (consOk_cons (f43ok k) (consOk_nil)))
theorem f16ok (k : Nat) : FnOk Tryz.prog 16 (f16con (laws_eqMeta k)) :=
  let hc := f16hc k
  fnOk (fn := Tryz.f16) (code := bodyOf Tryz.f16) (res := [.tmp 4]) hc (by kernel_rfl) (by kernel_rfl) (by decide) (by kernel_rfl) (by kernel_rfl) (by kernel_rfl) (Nat.le_of_ble_eq_true (by kernel_rfl)) _
    (fun x => Snd.exec hc _ _ _ _)
    (fun x => by kernel_rfl)

def f35in : SS := ⟨[(0, (.ro (.int .i64)))], []⟩
def f35out : SS := ⟨[(0, (.ro .str))], []⟩
def f35s4 : SS := ⟨[(0, (.ro (.int .i64))), (3, (.ro .str))], []⟩
def f35con (F : Int → Option ByteArray) : Con := ⟨f35in, f35out, 1, 1, fun x => F x⟩
def f35ctx (k : Nat) : Ctx := ⟨tyAt tys, conAt [], 20, fun _ => false⟩
theorem f35hc (k : Nat) : CtxOk Tryz.prog (f35ctx k) := ctxOk tys_ok mixed_ok (consOk_nil)
theorem f35ok (k : Nat) : FnOk Tryz.prog 35 (f35con (laws_markText k)) :=
  let hc := f35hc k
  fnOk (fn := Tryz.f35) (code := bodyOf Tryz.f35) (res := [.tmp 2]) hc (by kernel_rfl) (by kernel_rfl) (by decide) (by kernel_rfl) (by kernel_rfl) (by kernel_rfl) (Nat.le_of_ble_eq_true (by kernel_rfl)) _
    (fun x => Snd.seq (by kernel_rfl) (Snd.seq (by kernel_rfl) (Snd.seq (by kernel_rfl) (Snd.seq (by kernel_rfl) (Snd.exec hc _ _ _ _) (Snd.block (id := 0) (by kernel_rfl) (Snd.loop' (by kernel_rfl) f35s4 (fun n x => laws_markText.l4 k n x.1 x.2) _ (fun _ => rfl) (fun n4 => Snd.exec hc _ _ _ _) (fun n x => by kernel_rfl) k))) (Snd.exec hc _ _ _ _)) (Snd.exec hc _ _ _ _)) (Snd.exec hc _ _ _ _))
    (fun x => by kernel_rfl)

def f44in : SS := ⟨[(0, (.h 10)), (1, (.ro (.int .i64)))], [(10, (.sl 105 (.st (.cons .str (.cons (.int .i64) (.cons (.int .i64) (.cons (.int .i64) .nil)))))))]⟩
def f44out : SS := ⟨[(0, (.ro (.int .i64)))], [(10, (.sl 105 (.st (.cons .str (.cons (.int .i64) (.cons (.int .i64) (.cons (.int .i64) .nil)))))))]⟩
def f44s2 : SS := ⟨[(0, (.h 10)), (1, (.ro (.int .i64))), (5, (.ro (.int .i64)))], [(10, (.sl 105 (.st (.cons .str (.cons (.int .i64) (.cons (.int .i64) (.cons (.int .i64) .nil)))))))]⟩
def f44con (F : Int → (List TCol) → Option (Int × (List TCol))) : Con := ⟨f44in, f44out, 2, 1, fun x => F x.1.2 x.2⟩
def f44ctx (k : Nat) : Ctx := ⟨tyAt tys, conAt [(35, [f35con (laws_markText k)])], 42, fun _ => false⟩
theorem f44hc (k : Nat) : CtxOk Tryz.prog (f44ctx k) := ctxOk tys_ok mixed_ok (consOk_cons (f35ok k) (consOk_nil))
theorem f44ok (k : Nat) : FnOk Tryz.prog 44 (f44con (laws_markColS k)) :=
  let hc := f44hc k
  fnOk (fn := Tryz.f44) (code := bodyOf Tryz.f44) (res := [.tmp 4]) hc (by kernel_rfl) (by kernel_rfl) (by decide) (by kernel_rfl) (by kernel_rfl) (by kernel_rfl) (Nat.le_of_ble_eq_true (by kernel_rfl)) _
    (fun x => Snd.seq (by kernel_rfl) (Snd.seq (by kernel_rfl) (Snd.exec hc _ _ _ _) (Snd.seq (by kernel_rfl) (Snd.block (id := 0) (by kernel_rfl) (Snd.loop' (by kernel_rfl) f44s2 (fun n x => laws_markColS.l2 k n x.1.2.1 x.1.2.2 x.2) _ (fun _ => rfl) (fun n2 => Snd.exec hc _ _ _ _) (fun n x => by kernel_rfl) k)) (Snd.exec hc _ _ _ _))) (Snd.exec hc _ _ _ _))
    (fun x => by kernel_rfl)

def f27in : SS := ⟨[(0, (.h 10)), (1, (.ro (.int .i64)))], [(10, (.sl 3 (.int .i64)))]⟩
def f27out : SS := ⟨[(0, (.ro (.int .i64)))], [(10, (.sl 3 (.int .i64)))]⟩
def f27s2 : SS := ⟨[(0, (.h 10)), (1, (.ro (.int .i64))), (5, (.ro (.int .i64)))], [(10, (.sl 3 (.int .i64)))]⟩
def f27con (F : Int → (List Int) → Option (Int × (List Int))) : Con := ⟨f27in, f27out, 2, 1, fun x => F x.1.2 x.2⟩
def f27ctx (k : Nat) : Ctx := ⟨tyAt tys, conAt [], 19, fun _ => false⟩
theorem f27hc (k : Nat) : CtxOk Tryz.prog (f27ctx k) := ctxOk tys_ok mixed_ok (consOk_nil)
theorem f27ok (k : Nat) : FnOk Tryz.prog 27 (f27con (laws_markIntS k)) :=
  let hc := f27hc k
  fnOk (fn := Tryz.f27) (code := bodyOf Tryz.f27) (res := [.tmp 4]) hc (by kernel_rfl) (by kernel_rfl) (by decide) (by kernel_rfl) (by kernel_rfl) (by kernel_rfl) (Nat.le_of_ble_eq_true (by kernel_rfl)) _
    (fun x => Snd.seq (by kernel_rfl) (Snd.seq (by kernel_rfl) (Snd.exec hc _ _ _ _) (Snd.seq (by kernel_rfl) (Snd.block (id := 0) (by kernel_rfl) (Snd.loop' (by kernel_rfl) f27s2 (fun n x => laws_markIntS.l2 k n x.1.2.1 x.1.2.2 x.2) _ (fun _ => rfl) (fun n2 => Snd.exec hc _ _ _ _) (fun n x => by kernel_rfl) k)) (Snd.exec hc _ _ _ _))) (Snd.exec hc _ _ _ _))
    (fun x => by kernel_rfl)

def f70in : SS := ⟨[(0, (.h 10)), (1, (.ro (.int .i64)))], [(10, (.sl 51 (.st (.cons (.int .i64) (.cons (.int .i64) (.cons (.int .i64) (.cons (.int .i64) (.cons (.int .i64) (.cons (.list 3 (.int .i64)) .nil)))))))))]⟩
def f70out : SS := ⟨[(0, (.ro (.int .i64)))], [(10, (.sl 51 (.st (.cons (.int .i64) (.cons (.int .i64) (.cons (.int .i64) (.cons (.int .i64) (.cons (.int .i64) (.cons (.list 3 (.int .i64)) .nil)))))))))]⟩
def f70s2 : SS := ⟨[(0, (.h 10)), (1, (.ro (.int .i64))), (5, (.ro (.int .i64)))], [(10, (.sl 51 (.st (.cons (.int .i64) (.cons (.int .i64) (.cons (.int .i64) (.cons (.int .i64) (.cons (.int .i64) (.cons (.list 3 (.int .i64)) .nil)))))))))]⟩
def f70con (F : Int → (List TChunk) → Option (Int × (List TChunk))) : Con := ⟨f70in, f70out, 2, 1, fun x => F x.1.2 x.2⟩
def f70ctx (k : Nat) : Ctx := ⟨tyAt tys, conAt [(27, [f27con (laws_markIntS k)])], 55, fun _ => false⟩
theorem f70hc (k : Nat) : CtxOk Tryz.prog (f70ctx k) := ctxOk tys_ok mixed_ok (consOk_cons (f27ok k) (consOk_nil))
theorem f70ok (k : Nat) : FnOk Tryz.prog 70 (f70con (laws_markChunkS k)) :=
  let hc := f70hc k
  fnOk (fn := Tryz.f70) (code := bodyOf Tryz.f70) (res := [.tmp 4]) hc (by kernel_rfl) (by kernel_rfl) (by decide) (by kernel_rfl) (by kernel_rfl) (by kernel_rfl) (Nat.le_of_ble_eq_true (by kernel_rfl)) _
    (fun x => Snd.seq (by kernel_rfl) (Snd.seq (by kernel_rfl) (Snd.exec hc _ _ _ _) (Snd.seq (by kernel_rfl) (Snd.block (id := 0) (by kernel_rfl) (Snd.loop' (by kernel_rfl) f70s2 (fun n x => laws_markChunkS.l2 k n x.1.2.1 x.1.2.2 x.2) _ (fun _ => rfl) (fun n2 => Snd.exec hc _ _ _ _) (fun n x => by kernel_rfl) k)) (Snd.exec hc _ _ _ _))) (Snd.exec hc _ _ _ _))
    (fun x => by kernel_rfl)

def f45in : SS := ⟨[(0, (.h 10)), (1, (.ro (.int .i64)))], [(10, (.sl 109 (.st (.cons (.int .i64) (.cons (.list 51 (.st (.cons (.int .i64) (.cons (.int .i64) (.cons (.int .i64) (.cons (.int .i64) (.cons (.int .i64) (.cons (.list 3 (.int .i64)) .nil)))))))) .nil)))))]⟩
def f45out : SS := ⟨[(0, (.ro (.int .i64)))], [(10, (.sl 109 (.st (.cons (.int .i64) (.cons (.list 51 (.st (.cons (.int .i64) (.cons (.int .i64) (.cons (.int .i64) (.cons (.int .i64) (.cons (.int .i64) (.cons (.list 3 (.int .i64)) .nil)))))))) .nil)))))]⟩
def f45s2 : SS := ⟨[(0, (.h 10)), (1, (.ro (.int .i64))), (5, (.ro (.int .i64)))], [(10, (.sl 109 (.st (.cons (.int .i64) (.cons (.list 51 (.st (.cons (.int .i64) (.cons (.int .i64) (.cons (.int .i64) (.cons (.int .i64) (.cons (.int .i64) (.cons (.list 3 (.int .i64)) .nil)))))))) .nil)))))]⟩
def f45con (F : Int → (List TGroupMeta) → Option (Int × (List TGroupMeta))) : Con := ⟨f45in, f45out, 2, 1, fun x => F x.1.2 x.2⟩
def f45ctx (k : Nat) : Ctx := ⟨tyAt tys, conAt [(70, [f70con (laws_markChunkS k)])], 27, fun _ => false⟩
theorem f45hc (k : Nat) : CtxOk Tryz.prog (f45ctx k) := ctxOk tys_ok mixed_ok (consOk_cons (f70ok k) (consOk_nil))
theorem f45ok (k : Nat) : FnOk Tryz.prog 45 (f45con (laws_markGroupMetaS k)) :=
  let hc := f45hc k
  fnOk (fn := Tryz.f45) (code := bodyOf Tryz.f45) (res := [.tmp 4]) hc (by kernel_rfl) (by kernel_rfl) (by decide) (by kernel_rfl) (by kernel_rfl) (by kernel_rfl) (Nat.le_of_ble_eq_true (by kernel_rfl)) _
    (fun x => Snd.seq (by kernel_rfl) (Snd.seq (by kernel_rfl) (Snd.exec hc _ _ _ _) (Snd.seq (by kernel_rfl) (Snd.block (id := 0) (by kernel_rfl) (Snd.loop' (by kernel_rfl) f45s2 (fun n x => laws_markGroupMetaS.l2 k n x.1.2.1 x.1.2.2 x.2) _ (fun _ => rfl) (fun n2 => Snd.exec hc _ _ _ _) (fun n x => by kernel_rfl) k)) (Snd.exec hc _ _ _ _))) (Snd.exec hc _ _ _ _))
    (fun x => by kernel_rfl)

def f17in : SS := ⟨[(0, (.agg (.cons (.h 10) (.cons (.ro (.int .i64)) (.cons (.h 11) .nil))))), (1, (.ro (.int .i64)))], [(10, (.sl 105 (.st (.cons .str (.cons (.int .i64) (.cons (.int .i64) (.cons (.int .i64) .nil))))))), (11, (.sl 109 (.st (.cons (.int .i64) (.cons (.list 51 (.st (.cons (.int .i64) (.cons (.int .i64) (.cons (.int .i64) (.cons (.int .i64) (.cons (.int .i64) (.cons (.list 3 (.int .i64)) .nil)))))))) .nil)))))]⟩
def f17out : SS := ⟨[(0, (.ro (.int .i64)))], [(10, (.sl 105 (.st (.cons .str (.cons (.int .i64) (.cons (.int .i64) (.cons (.int .i64) .nil))))))), (11, (.sl 109 (.st (.cons (.int .i64) (.cons (.list 51 (.st (.cons (.int .i64) (.cons (.int .i64) (.cons (.int .i64) (.cons (.int .i64) (.cons (.int .i64) (.cons (.list 3 (.int .i64)) .nil)))))))) .nil)))))]⟩
def f17con (F : (Unit × Int × Unit × Unit) → Int → (List TCol) → (List TGroupMeta) → Option (Int × (List TCol) × (List TGroupMeta))) : Con := ⟨f17in, f17out, 2, 1, fun x => F x.1.1 x.1.2 x.2.1 x.2.2⟩
def f17ctx (k : Nat) : Ctx := ⟨tyAt tys, conAt [(44, [f44con (laws_markColS k)]), (45, [f45con (laws_markGroupMetaS k)])], 14, fun _ => false⟩
theorem f17hc (k : Nat) : CtxOk Tryz.prog (f17ctx k) := ctxOk tys_ok mixed_ok (consOk_cons (f44ok k) (consOk_cons (f45ok k) (consOk_nil)))
theorem f17ok (k : Nat) : FnOk Tryz.prog 17 (f17con (laws_markMeta k)) :=
  let hc := f17hc k
  fnOk (fn := Tryz.f17) (code := bodyOf Tryz.f17) (res := [.tmp 4]) hc (by kernel_rfl) (by kernel_rfl) (by decide) (by kernel_rfl) (by kernel_rfl) (by kernel_rfl) (Nat.le_of_ble_eq_true (by kernel_rfl)) _
    (fun x => Snd.exec hc _ _ _ _)
    (fun x => by kernel_rfl)

def f46in : SS := ⟨[(0, (.ro (.list 105 (.st (.cons .str (.cons (.int .i64) (.cons (.int .i64) (.cons (.int .i64) .nil)))))))), (1, (.ro (.int .i64)))], []⟩
def f46out : SS := ⟨[(0, (.ro (.int .i64)))], []⟩
def f46d4 : SS := ⟨[(0, (.ro (.list 105 (.st (.cons .str (.cons (.int .i64) (.cons (.int .i64) (.cons (.int .i64) .nil)))))))), (1, (.ro (.int .i64))), (5, (.ro (.int .i64)))], []⟩
def f46s2 : SS := ⟨[(0, (.ro (.list 105 (.st (.cons .str (.cons (.int .i64) (.cons (.int .i64) (.cons (.int .i64) .nil)))))))), (1, (.ro (.int .i64))), (5, (.ro (.int .i64)))], []⟩
def f46con (F : (List TCol) → Int → Option Int) : Con := ⟨f46in, f46out, 2, 1, fun x => F x.1 x.2⟩
def f46ctx (k : Nat) : Ctx := ⟨tyAt tys, conAt [(35, [f35con (laws_markText k)])], 50, fun _ => false⟩
theorem f46hc (k : Nat) : CtxOk Tryz.prog (f46ctx k) := ctxOk tys_ok mixed_ok (consOk_cons (f35ok k) (consOk_nil))
theorem f46ok (k : Nat) : FnOk Tryz.prog 46 (f46con (laws_heldColS k)) :=
  let hc := f46hc k
  fnOk (fn := Tryz.f46) (code := bodyOf Tryz.f46) (res := [.tmp 4]) hc (by kernel_rfl) (by kernel_rfl) (by decide) (by kernel_rfl) (by kernel_rfl) (by kernel_rfl) (Nat.le_of_ble_eq_true (by kernel_rfl)) _
    (fun x => Snd.seq (by kernel_rfl) (Snd.seq (by kernel_rfl) (Snd.exec hc _ _ _ _) (Snd.seq (by kernel_rfl) (Snd.block (id := 0) (by kernel_rfl) (Snd.loop' (by kernel_rfl) f46s2 (fun n x => laws_heldColS.l2 k n x.1 x.2.1 x.2.2) _ (fun _ => rfl) (fun n2 => Snd.seq (by kernel_rfl) (Snd.seq (by kernel_rfl) (Snd.exec hc _ _ _ _) (Snd.block (id := 1) (by kernel_rfl) (Snd.seq (by kernel_rfl) (Snd.exec hc _ _ _ _) (Snd.seq (by kernel_rfl) (Snd.exec hc _ _ _ _) (Snd.fork hc (id := 4) (by kernel_rfl) ⟨f46d4, fun x => laws_heldColS.d4 k (laws_heldColS.l2 k n2) x.1 x.2.1 x.2.2⟩ [[0, 1, 2, 3, 5, 4, 6, 7], [0, 1, 2, 3, 5, 6, 4, 7]] (by kernel_rfl) (ords_cons (fun x => by kernel_rfl) (ords_cons (fun x => by kernel_rfl) (ords_nil)))))))) (Snd.exec hc _ _ _ _)) (fun n x => by kernel_rfl) k)) (Snd.exec hc _ _ _ _))) (Snd.exec hc _ _ _ _))
    (fun x => by kernel_rfl)

def f28in : SS := ⟨[(0, (.ro (.list 3 (.int .i64)))), (1, (.ro (.int .i64)))], []⟩
def f28out : SS := ⟨[(0, (.ro (.int .i64)))], []⟩
def f28s2 : SS := ⟨[(0, (.ro (.list 3 (.int .i64)))), (1, (.ro (.int .i64))), (5, (.ro (.int .i64)))], []⟩
def f28con (F : (List Int) → Int → Option Int) : Con := ⟨f28in, f28out, 2, 1, fun x => F x.1 x.2⟩
def f28ctx (k : Nat) : Ctx := ⟨tyAt tys, conAt [], 21, fun _ => false⟩
theorem f28hc (k : Nat) : CtxOk Tryz.prog (f28ctx k) := ctxOk tys_ok mixed_ok (consOk_nil)
theorem f28ok (k : Nat) : FnOk Tryz.prog 28 (f28con (laws_heldIntS k)) :=
  let hc := f28hc k
  fnOk (fn := Tryz.f28) (code := bodyOf Tryz.f28) (res := [.tmp 4]) hc (by kernel_rfl) (by kernel_rfl) (by decide) (by kernel_rfl) (by kernel_rfl) (by kernel_rfl) (Nat.le_of_ble_eq_true (by kernel_rfl)) _
    (fun x => Snd.seq (by kernel_rfl) (Snd.seq (by kernel_rfl) (Snd.exec hc _ _ _ _) (Snd.seq (by kernel_rfl) (Snd.block (id := 0) (by kernel_rfl) (Snd.loop' (by kernel_rfl) f28s2 (fun n x => laws_heldIntS.l2 k n x.1 x.2.1 x.2.2) _ (fun _ => rfl) (fun n2 => Snd.exec hc _ _ _ _) (fun n x => by kernel_rfl) k)) (Snd.exec hc _ _ _ _))) (Snd.exec hc _ _ _ _))
    (fun x => by kernel_rfl)

def f71in : SS := ⟨[(0, (.ro (.list 51 (.st (.cons (.int .i64) (.cons (.int .i64) (.cons (.int .i64) (.cons (.int .i64) (.cons (.int .i64) (.cons (.list 3 (.int .i64)) .nil)))))))))), (1, (.ro (.int .i64)))], []⟩
def f71out : SS := ⟨[(0, (.ro (.int .i64)))], []⟩
def f71s2 : SS := ⟨[(0, (.ro (.list 51 (.st (.cons (.int .i64) (.cons (.int .i64) (.cons (.int .i64) (.cons (.int .i64) (.cons (.int .i64) (.cons (.list 3 (.int .i64)) .nil)))))))))), (1, (.ro (.int .i64))), (5, (.ro (.int .i64)))], []⟩
def f71con (F : (List TChunk) → Int → Option Int) : Con := ⟨f71in, f71out, 2, 1, fun x => F x.1 x.2⟩
def f71ctx (k : Nat) : Ctx := ⟨tyAt tys, conAt [(28, [f28con (laws_heldIntS k)])], 67, fun _ => false⟩
theorem f71hc (k : Nat) : CtxOk Tryz.prog (f71ctx k) := ctxOk tys_ok mixed_ok (consOk_cons (f28ok k) (consOk_nil))
theorem f71ok (k : Nat) : FnOk Tryz.prog 71 (f71con (laws_heldChunkS k)) :=
  let hc := f71hc k
  fnOk (fn := Tryz.f71) (code := bodyOf Tryz.f71) (res := [.tmp 4]) hc (by kernel_rfl) (by kernel_rfl) (by decide) (by kernel_rfl) (by kernel_rfl) (by kernel_rfl) (Nat.le_of_ble_eq_true (by kernel_rfl)) _
    (fun x => Snd.seq (by kernel_rfl) (Snd.seq (by kernel_rfl) (Snd.exec hc _ _ _ _) (Snd.seq (by kernel_rfl) (Snd.block (id := 0) (by kernel_rfl) (Snd.loop' (by kernel_rfl) f71s2 (fun n x => laws_heldChunkS.l2 k n x.1 x.2.1 x.2.2) _ (fun _ => rfl) (fun n2 => Snd.exec hc _ _ _ _) (fun n x => by kernel_rfl) k)) (Snd.exec hc _ _ _ _))) (Snd.exec hc _ _ _ _))
    (fun x => by kernel_rfl)

def f47in : SS := ⟨[(0, (.ro (.list 109 (.st (.cons (.int .i64) (.cons (.list 51 (.st (.cons (.int .i64) (.cons (.int .i64) (.cons (.int .i64) (.cons (.int .i64) (.cons (.int .i64) (.cons (.list 3 (.int .i64)) .nil)))))))) .nil)))))), (1, (.ro (.int .i64)))], []⟩
def f47out : SS := ⟨[(0, (.ro (.int .i64)))], []⟩
def f47s2 : SS := ⟨[(0, (.ro (.list 109 (.st (.cons (.int .i64) (.cons (.list 51 (.st (.cons (.int .i64) (.cons (.int .i64) (.cons (.int .i64) (.cons (.int .i64) (.cons (.int .i64) (.cons (.list 3 (.int .i64)) .nil)))))))) .nil)))))), (1, (.ro (.int .i64))), (5, (.ro (.int .i64)))], []⟩
def f47con (F : (List TGroupMeta) → Int → Option Int) : Con := ⟨f47in, f47out, 2, 1, fun x => F x.1 x.2⟩
def f47ctx (k : Nat) : Ctx := ⟨tyAt tys, conAt [(71, [f71con (laws_heldChunkS k)])], 31, fun _ => false⟩
theorem f47hc (k : Nat) : CtxOk Tryz.prog (f47ctx k) := ctxOk tys_ok mixed_ok (consOk_cons (f71ok k) (consOk_nil))
theorem f47ok (k : Nat) : FnOk Tryz.prog 47 (f47con (laws_heldGroupMetaS k)) :=
  let hc := f47hc k
  fnOk (fn := Tryz.f47) (code := bodyOf Tryz.f47) (res := [.tmp 4]) hc (by kernel_rfl) (by kernel_rfl) (by decide) (by kernel_rfl) (by kernel_rfl) (by kernel_rfl) (Nat.le_of_ble_eq_true (by kernel_rfl)) _
    (fun x => Snd.seq (by kernel_rfl) (Snd.seq (by kernel_rfl) (Snd.exec hc _ _ _ _) (Snd.seq (by kernel_rfl) (Snd.block (id := 0) (by kernel_rfl) (Snd.loop' (by kernel_rfl) f47s2 (fun n x => laws_heldGroupMetaS.l2 k n x.1 x.2.1 x.2.2) _ (fun _ => rfl) (fun n2 => Snd.exec hc _ _ _ _) (fun n x => by kernel_rfl) k)) (Snd.exec hc _ _ _ _))) (Snd.exec hc _ _ _ _))
    (fun x => by kernel_rfl)

def f18in : SS := ⟨[(0, (.ro (.st (.cons (.list 105 (.st (.cons .str (.cons (.int .i64) (.cons (.int .i64) (.cons (.int .i64) .nil)))))) (.cons (.int .i64) (.cons (.list 109 (.st (.cons (.int .i64) (.cons (.list 51 (.st (.cons (.int .i64) (.cons (.int .i64) (.cons (.int .i64) (.cons (.int .i64) (.cons (.int .i64) (.cons (.list 3 (.int .i64)) .nil)))))))) .nil)))) .nil)))))), (1, (.ro (.int .i64)))], []⟩
def f18out : SS := ⟨[(0, (.ro (.int .i64)))], []⟩
def f18con (F : TMeta → Int → Option Int) : Con := ⟨f18in, f18out, 2, 1, fun x => F x.1 x.2⟩
def f18ctx (k : Nat) : Ctx := ⟨tyAt tys, conAt [(46, [f46con (laws_heldColS k)]), (47, [f47con (laws_heldGroupMetaS k)])], 18, fun _ => false⟩
theorem f18hc (k : Nat) : CtxOk Tryz.prog (f18ctx k) := ctxOk tys_ok mixed_ok (consOk_cons (f46ok k) (consOk_cons (f47ok k) (consOk_nil)))
theorem f18ok (k : Nat) : FnOk Tryz.prog 18 (f18con (laws_heldMeta k)) :=
  let hc := f18hc k
  fnOk (fn := Tryz.f18) (code := bodyOf Tryz.f18) (res := [.tmp 4]) hc (by kernel_rfl) (by kernel_rfl) (by decide) (by kernel_rfl) (by kernel_rfl) (by kernel_rfl) (Nat.le_of_ble_eq_true (by kernel_rfl)) _
    (fun x => Snd.exec hc _ _ _ _)
    (fun x => by kernel_rfl)

def f4in : SS := ⟨[(0, (.ro (.list 5 (.int .u8))))], []⟩
def f4out : SS := ⟨[(0, (.ro .bool))], []⟩
def f4con (F : (List Int) → Option Bool) : Con := ⟨f4in, f4out, 1, 1, fun x => F x⟩
def f4ctx (k : Nat) : Ctx := ⟨tyAt tys, conAt [(7, [f7con (laws_toByteS k)]), (10, [f10con (laws_eqByteS k)]), (11, [f11con (laws_markByteS k)]), (14, [f14con (spec_FileMeta k)]), (15, [f15con (impl_FileMeta k)]), (16, [f16con (laws_eqMeta k)]), (17, [f17con (laws_markMeta k)]), (18, [f18con (laws_heldMeta k)])], 93, fun _ => false⟩
theorem f4hc (k : Nat) : CtxOk Tryz.prog (f4ctx k) := ctxOk tys_ok mixed_ok (consOk_cons (f7ok k) (consOk_cons (f10ok k) (consOk_cons (f11ok k) (consOk_cons (f14ok k) (consOk_cons (f15ok k) (consOk_cons (f16ok k) (consOk_cons (f17ok k) (consOk_cons (f18ok k) (consOk_nil)))))))))
theorem f4ok (k : Nat) : FnOk Tryz.prog 4 (f4con (laws_FnExactFileMeta k)) :=
  let hc := f4hc k
  fnOk (fn := Tryz.f4) (code := bodyOf Tryz.f4) (res := [.tmp 2]) hc (by kernel_rfl) (by kernel_rfl) (by decide) (by kernel_rfl) (by kernel_rfl) (by kernel_rfl) (Nat.le_of_ble_eq_true (by kernel_rfl)) _
    (fun x => Snd.exec hc _ _ _ _)
    (fun x => by kernel_rfl)

end Go.Proofs.YtkngohdjlondgaaGreat
