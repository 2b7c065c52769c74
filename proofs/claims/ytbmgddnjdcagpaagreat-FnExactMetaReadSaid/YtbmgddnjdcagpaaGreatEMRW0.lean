/- The walks, printed by program. -/
import Derived.Test.YtbmgddnjdcagpaaGreatBase
import Derived.Test.YtbmgddnjdcagpaaGreatEMRF0
set_option linter.unusedVariables false
set_option maxRecDepth 100000
namespace Go.Proofs.YtbmgddnjdcagpaaGreat
open Go.Am Go.Fn

def f29in : SS := ⟨[(0, (.ro (.int .i64))), (1, (.ro (.int .i64))), (2, (.ro (.int .i64)))], []⟩
def f29out : SS := ⟨[(0, (.ro .bool))], []⟩
def f29con (F : Int → Int → Int → Option Bool) : Con := ⟨f29in, f29out, 3, 1, fun x => F x.1 x.2.1 x.2.2⟩
def f29ctx (k : Nat) : Ctx := ⟨tyAt tys, conAt [], 15, fun _ => false⟩
theorem f29hc (k : Nat) : CtxOk Tryz.prog (f29ctx k) := ctxOk tys_ok mixed_ok (consOk_nil)
theorem f29ok (k : Nat) : FnOk Tryz.prog 29 (f29con (impl_within k)) :=
  let hc := f29hc k
  fnOk (fn := Tryz.f29) (code := bodyOf Tryz.f29) (res := [.tmp 6]) hc (by kernel_rfl) (by kernel_rfl) (by decide) (by kernel_rfl) (by kernel_rfl) (by kernel_rfl) (Nat.le_of_ble_eq_true (by kernel_rfl)) _
    (fun x => Snd.exec hc _ _ _ _)
    (fun x => by kernel_rfl)

def f101in : SS := ⟨[(0, (.p 0)), (1, (.ro (.int .i64)))], [(0, (.box (.st (.cons (.list 5 (.int .u8)) (.cons (.int .i64) (.cons (.list 78 (.st (.cons (.int .i64) (.cons (.int .i64) (.cons (.int .i64) (.cons .str (.cons (.int .i64) .nil))))))) (.cons (.int .i64) .nil))))) (.agg (.cons (.ro (.list 5 (.int .u8))) (.cons (.ro (.int .i64)) (.cons (.h 10) (.cons (.ro (.int .i64)) .nil))))))), (10, (.sl 78 (.st (.cons (.int .i64) (.cons (.int .i64) (.cons (.int .i64) (.cons .str (.cons (.int .i64) .nil))))))))]⟩
def f101out : SS := ⟨[], [(0, (.box (.st (.cons (.list 5 (.int .u8)) (.cons (.int .i64) (.cons (.list 78 (.st (.cons (.int .i64) (.cons (.int .i64) (.cons (.int .i64) (.cons .str (.cons (.int .i64) .nil))))))) (.cons (.int .i64) .nil))))) (.agg (.cons (.ro (.list 5 (.int .u8))) (.cons (.ro (.int .i64)) (.cons (.h 10) (.cons (.ro (.int .i64)) .nil))))))), (10, (.sl 78 (.st (.cons (.int .i64) (.cons (.int .i64) (.cons (.int .i64) (.cons .str (.cons (.int .i64) .nil))))))))]⟩
def f101con (F : Int → TTreeReaderB → (List TNode) → Option (Unit × TTreeReaderB × (List TNode))) : Con := ⟨f101in, f101out, 2, 0, fun x => F x.1.2 x.2.1 x.2.2⟩
def f101ctx (k : Nat) : Ctx := ⟨tyAt tys, conAt [], 13, fun _ => false⟩
theorem f101hc (k : Nat) : CtxOk Tryz.prog (f101ctx k) := ctxOk tys_ok mixed_ok (consOk_nil)
theorem f101ok (k : Nat) : FnOk Tryz.prog 101 (f101con (impl_treeReader_fail k)) :=
  let hc := f101hc k
  fnOk (fn := Tryz.f101) (code := bodyOf Tryz.f101) (res := []) hc (by kernel_rfl) (by kernel_rfl) (by decide) (by kernel_rfl) (by kernel_rfl) (by kernel_rfl) (Nat.le_of_ble_eq_true (by kernel_rfl)) _
    (fun x => Snd.exec hc _ _ _ _)
    (fun x => by kernel_rfl)

def f97in : SS := ⟨[(0, (.p 0)), (1, (.ro (.st (.cons (.int .i64) (.cons (.int .i64) (.cons (.int .i64) (.cons .str (.cons (.int .i64) .nil)))))))), (2, (.ro (.int .i64)))], [(0, (.box (.st (.cons (.list 5 (.int .u8)) (.cons (.int .i64) (.cons (.list 78 (.st (.cons (.int .i64) (.cons (.int .i64) (.cons (.int .i64) (.cons .str (.cons (.int .i64) .nil))))))) (.cons (.int .i64) .nil))))) (.agg (.cons (.ro (.list 5 (.int .u8))) (.cons (.ro (.int .i64)) (.cons (.h 10) (.cons (.ro (.int .i64)) .nil))))))), (10, (.sl 78 (.st (.cons (.int .i64) (.cons (.int .i64) (.cons (.int .i64) (.cons .str (.cons (.int .i64) .nil))))))))]⟩
def f97out : SS := ⟨[(0, (.ro (.int .i64)))], [(0, (.box (.st (.cons (.list 5 (.int .u8)) (.cons (.int .i64) (.cons (.list 78 (.st (.cons (.int .i64) (.cons (.int .i64) (.cons (.int .i64) (.cons .str (.cons (.int .i64) .nil))))))) (.cons (.int .i64) .nil))))) (.agg (.cons (.ro (.list 5 (.int .u8))) (.cons (.ro (.int .i64)) (.cons (.h 100) (.cons (.ro (.int .i64)) .nil))))))), (100, (.sl 78 (.st (.cons (.int .i64) (.cons (.int .i64) (.cons (.int .i64) (.cons .str (.cons (.int .i64) .nil))))))))]⟩
def f97s3 : SS := ⟨[(0, (.p 0)), (4, (.p 100))], [(0, (.box (.st (.cons (.list 5 (.int .u8)) (.cons (.int .i64) (.cons (.list 78 (.st (.cons (.int .i64) (.cons (.int .i64) (.cons (.int .i64) (.cons .str (.cons (.int .i64) .nil))))))) (.cons (.int .i64) .nil))))) (.agg (.cons (.ro (.list 5 (.int .u8))) (.cons (.ro (.int .i64)) (.cons (.h 10) (.cons (.ro (.int .i64)) .nil))))))), (10, (.sl 78 (.st (.cons (.int .i64) (.cons (.int .i64) (.cons (.int .i64) (.cons .str (.cons (.int .i64) .nil)))))))), (100, (.box (.st (.cons (.int .i64) (.cons (.int .i64) (.cons (.int .i64) (.cons .str (.cons (.int .i64) .nil)))))) (.agg (.cons (.ro (.int .i64)) (.cons (.ro (.int .i64)) (.cons (.ro (.int .i64)) (.cons (.ro .str) (.cons (.ro (.int .i64)) .nil))))))))]⟩
def f97con (F : TNode → Int → TTreeReaderB → (List TNode) → Option (Int × TTreeReaderB × (List TNode))) : Con := ⟨f97in, f97out, 3, 1, fun x => F x.1.2.1 x.1.2.2 x.2.1 x.2.2⟩
def f97ctx (k : Nat) : Ctx := ⟨tyAt tys, conAt [(101, [f101con (impl_treeReader_fail k)])], 40, fun _ => false⟩
theorem f97hc (k : Nat) : CtxOk Tryz.prog (f97ctx k) := ctxOk tys_ok mixed_ok (consOk_cons (f101ok k) (consOk_nil))
theorem f97ok (k : Nat) : FnOk Tryz.prog 97 (f97con (impl_treeReader_begin k)) :=
  let hc := f97hc k
  fnOk (fn := Tryz.f97) (code := bodyOf Tryz.f97) (res := [.tmp 6]) hc (by kernel_rfl) (by kernel_rfl) (by decide) (by kernel_rfl) (by kernel_rfl) (by kernel_rfl) (Nat.le_of_ble_eq_true (by kernel_rfl)) _
    (fun x => Snd.seq (by kernel_rfl) (Snd.seq (by kernel_rfl) (Snd.cut (Snd.exec hc _ _ _ _) ⟨f97s3, fun x => impl_treeReader_begin.c3 k x.2.1 x.2.2.1 x.2.2.2⟩ (fun x => by kernel_rfl)) (Snd.exec hc _ _ _ _)) (Snd.exec hc _ _ _ _))
    (fun x => by kernel_rfl)

def f98in : SS := ⟨[(0, (.ro (.int .i64)))], []⟩
def f98out : SS := ⟨[(0, (.ro (.int .i64)))], []⟩
def f98con (F : Int → Option Int) : Con := ⟨f98in, f98out, 1, 1, fun x => F x⟩
def f98ctx (k : Nat) : Ctx := ⟨tyAt tys, conAt [], 11, fun _ => false⟩
theorem f98hc (k : Nat) : CtxOk Tryz.prog (f98ctx k) := ctxOk tys_ok mixed_ok (consOk_nil)
theorem f98ok (k : Nat) : FnOk Tryz.prog 98 (f98con (impl_Zag k)) :=
  let hc := f98hc k
  fnOk (fn := Tryz.f98) (code := bodyOf Tryz.f98) (res := [.tmp 2]) hc (by kernel_rfl) (by kernel_rfl) (by decide) (by kernel_rfl) (by kernel_rfl) (by kernel_rfl) (Nat.le_of_ble_eq_true (by kernel_rfl)) _
    (fun x => Snd.exec hc _ _ _ _)
    (fun x => by kernel_rfl)

def f134in : SS := ⟨[(0, (.ro (.list 5 (.int .u8)))), (1, (.ro (.int .i64)))], []⟩
def f134out : SS := ⟨[(0, (.ro (.int .i64))), (1, (.ro (.int .i64))), (2, (.ro .bool))], []⟩
def f134s12 : SS := ⟨[], []⟩
def f134s5 : SS := ⟨[(0, (.ro (.list 5 (.int .u8)))), (1, (.ro (.int .i64))), (7, (.ro (.int .u64))), (8, (.ro (.int .i64)))], []⟩
def f134con (F : (List Int) → Int → Option (Int × Int × Bool)) : Con := ⟨f134in, f134out, 2, 3, fun x => F x.1 x.2⟩
def f134ctx (k : Nat) : Ctx := ⟨tyAt tys, conAt [], 52, fun _ => false⟩
theorem f134hc (k : Nat) : CtxOk Tryz.prog (f134ctx k) := ctxOk tys_ok mixed_ok (consOk_nil)
theorem f134ok (k : Nat) : FnOk Tryz.prog 134 (f134con (impl_UvarGet k)) :=
  let hc := f134hc k
  fnOk (fn := Tryz.f134) (code := bodyOf Tryz.f134) (res := [.tmp 4, .tmp 5, .tmp 6]) hc (by kernel_rfl) (by kernel_rfl) (by decide) (by kernel_rfl) (by kernel_rfl) (by kernel_rfl) (Nat.le_of_ble_eq_true (by kernel_rfl)) _
    (fun x => Snd.seq (by kernel_rfl) (Snd.seq (by kernel_rfl) (Snd.seq (by kernel_rfl) (Snd.seq (by kernel_rfl) (Snd.cut (Snd.exec hc _ _ _ _) ⟨f134s12, fun x => impl_UvarGet.c12 k⟩ (fun x => by kernel_rfl)) (Snd.seq (by kernel_rfl) (Snd.block (id := 0) (by kernel_rfl) (Snd.loop' (by kernel_rfl) f134s5 (fun n x => impl_UvarGet.l5 k n x.1 x.2.1 x.2.2.1 x.2.2.2) _ (fun _ => rfl) (fun n5 => Snd.exec hc _ _ _ _) (fun n x => by kernel_rfl) k)) (Snd.exec hc _ _ _ _))) (Snd.exec hc _ _ _ _)) (Snd.exec hc _ _ _ _)) (Snd.exec hc _ _ _ _))
    (fun x => by kernel_rfl)

def f99in : SS := ⟨[(0, (.p 0))], [(0, (.box (.st (.cons (.list 5 (.int .u8)) (.cons (.int .i64) (.cons (.list 78 (.st (.cons (.int .i64) (.cons (.int .i64) (.cons (.int .i64) (.cons .str (.cons (.int .i64) .nil))))))) (.cons (.int .i64) .nil))))) (.agg (.cons (.ro (.list 5 (.int .u8))) (.cons (.ro (.int .i64)) (.cons (.h 10) (.cons (.ro (.int .i64)) .nil))))))), (10, (.sl 78 (.st (.cons (.int .i64) (.cons (.int .i64) (.cons (.int .i64) (.cons .str (.cons (.int .i64) .nil))))))))]⟩
def f99out : SS := ⟨[(0, (.ro (.int .i64)))], [(0, (.box (.st (.cons (.list 5 (.int .u8)) (.cons (.int .i64) (.cons (.list 78 (.st (.cons (.int .i64) (.cons (.int .i64) (.cons (.int .i64) (.cons .str (.cons (.int .i64) .nil))))))) (.cons (.int .i64) .nil))))) (.agg (.cons (.ro (.list 5 (.int .u8))) (.cons (.ro (.int .i64)) (.cons (.h 10) (.cons (.ro (.int .i64)) .nil))))))), (10, (.sl 78 (.st (.cons (.int .i64) (.cons (.int .i64) (.cons (.int .i64) (.cons .str (.cons (.int .i64) .nil))))))))]⟩
def f99con (F : TTreeReaderB → (List TNode) → Option (Int × TTreeReaderB × (List TNode))) : Con := ⟨f99in, f99out, 1, 1, fun x => F x.2.1 x.2.2⟩
def f99ctx (k : Nat) : Ctx := ⟨tyAt tys, conAt [(101, [f101con (impl_treeReader_fail k)]), (134, [f134con (impl_UvarGet k)])], 35, fun _ => false⟩
theorem f99hc (k : Nat) : CtxOk Tryz.prog (f99ctx k) := ctxOk tys_ok mixed_ok (consOk_cons (f101ok k) (consOk_cons (f134ok k) (consOk_nil)))
theorem f99ok (k : Nat) : FnOk Tryz.prog 99 (f99con (impl_treeReader_uvar k)) :=
  let hc := f99hc k
  fnOk (fn := Tryz.f99) (code := bodyOf Tryz.f99) (res := [.tmp 2]) hc (by kernel_rfl) (by kernel_rfl) (by decide) (by kernel_rfl) (by kernel_rfl) (by kernel_rfl) (Nat.le_of_ble_eq_true (by kernel_rfl)) _
    (fun x => Snd.exec hc _ _ _ _)
    (fun x => by kernel_rfl)

def f100in : SS := ⟨[(0, (.ro (.int .i64)))], []⟩
def f100out : SS := ⟨[(0, (.ro .bool))], []⟩
def f100con (F : Int → Option Bool) : Con := ⟨f100in, f100out, 1, 1, fun x => F x⟩
def f100ctx (k : Nat) : Ctx := ⟨tyAt tys, conAt [(29, [f29con (impl_within k)])], 5, fun _ => false⟩
theorem f100hc (k : Nat) : CtxOk Tryz.prog (f100ctx k) := ctxOk tys_ok mixed_ok (consOk_cons (f29ok k) (consOk_nil))
theorem f100ok (k : Nat) : FnOk Tryz.prog 100 (f100con (impl_isInt32 k)) :=
  let hc := f100hc k
  fnOk (fn := Tryz.f100) (code := bodyOf Tryz.f100) (res := [.tmp 2]) hc (by kernel_rfl) (by kernel_rfl) (by decide) (by kernel_rfl) (by kernel_rfl) (by kernel_rfl) (Nat.le_of_ble_eq_true (by kernel_rfl)) _
    (fun x => Snd.exec hc _ _ _ _)
    (fun x => by kernel_rfl)

def f102in : SS := ⟨[(0, (.p 0))], [(0, (.box (.st (.cons (.list 5 (.int .u8)) (.cons (.int .i64) (.cons (.list 78 (.st (.cons (.int .i64) (.cons (.int .i64) (.cons (.int .i64) (.cons .str (.cons (.int .i64) .nil))))))) (.cons (.int .i64) .nil))))) (.agg (.cons (.ro (.list 5 (.int .u8))) (.cons (.ro (.int .i64)) (.cons (.h 10) (.cons (.ro (.int .i64)) .nil))))))), (10, (.sl 78 (.st (.cons (.int .i64) (.cons (.int .i64) (.cons (.int .i64) (.cons .str (.cons (.int .i64) .nil))))))))]⟩
def f102out : SS := ⟨[(0, (.ro .str))], [(0, (.box (.st (.cons (.list 5 (.int .u8)) (.cons (.int .i64) (.cons (.list 78 (.st (.cons (.int .i64) (.cons (.int .i64) (.cons (.int .i64) (.cons .str (.cons (.int .i64) .nil))))))) (.cons (.int .i64) .nil))))) (.agg (.cons (.ro (.list 5 (.int .u8))) (.cons (.ro (.int .i64)) (.cons (.h 10) (.cons (.ro (.int .i64)) .nil))))))), (10, (.sl 78 (.st (.cons (.int .i64) (.cons (.int .i64) (.cons (.int .i64) (.cons .str (.cons (.int .i64) .nil))))))))]⟩
def f102s6 : SS := ⟨[(0, (.p 0)), (3, (.ro (.int .i64)))], [(0, (.box (.st (.cons (.list 5 (.int .u8)) (.cons (.int .i64) (.cons (.list 78 (.st (.cons (.int .i64) (.cons (.int .i64) (.cons (.int .i64) (.cons .str (.cons (.int .i64) .nil))))))) (.cons (.int .i64) .nil))))) (.agg (.cons (.ro (.list 5 (.int .u8))) (.cons (.ro (.int .i64)) (.cons (.h 10) (.cons (.ro (.int .i64)) .nil))))))), (10, (.sl 78 (.st (.cons (.int .i64) (.cons (.int .i64) (.cons (.int .i64) (.cons .str (.cons (.int .i64) .nil))))))))]⟩
def f102s4 : SS := ⟨[(0, (.p 0)), (3, (.ro (.int .i64)))], [(0, (.box (.st (.cons (.list 5 (.int .u8)) (.cons (.int .i64) (.cons (.list 78 (.st (.cons (.int .i64) (.cons (.int .i64) (.cons (.int .i64) (.cons .str (.cons (.int .i64) .nil))))))) (.cons (.int .i64) .nil))))) (.agg (.cons (.ro (.list 5 (.int .u8))) (.cons (.ro (.int .i64)) (.cons (.h 10) (.cons (.ro (.int .i64)) .nil))))))), (10, (.sl 78 (.st (.cons (.int .i64) (.cons (.int .i64) (.cons (.int .i64) (.cons .str (.cons (.int .i64) .nil))))))))]⟩
def f102con (F : TTreeReaderB → (List TNode) → Option (ByteArray × TTreeReaderB × (List TNode))) : Con := ⟨f102in, f102out, 1, 1, fun x => F x.2.1 x.2.2⟩
def f102ctx (k : Nat) : Ctx := ⟨tyAt tys, conAt [(29, [f29con (impl_within k)]), (99, [f99con (impl_treeReader_uvar k)]), (101, [f101con (impl_treeReader_fail k)])], 68, fun _ => false⟩
theorem f102hc (k : Nat) : CtxOk Tryz.prog (f102ctx k) := ctxOk tys_ok mixed_ok (consOk_cons (f29ok k) (consOk_cons (f99ok k) (consOk_cons (f101ok k) (consOk_nil))))
theorem f102ok (k : Nat) : FnOk Tryz.prog 102 (f102con (impl_treeReader_text k)) :=
  let hc := f102hc k
  fnOk (fn := Tryz.f102) (code := bodyOf Tryz.f102) (res := [.tmp 2]) hc (by kernel_rfl) (by kernel_rfl) (by decide) (by kernel_rfl) (by kernel_rfl) (by kernel_rfl) (Nat.le_of_ble_eq_true (by kernel_rfl)) _
    (fun x => Snd.seq (by kernel_rfl) (Snd.seq (by kernel_rfl) (Snd.seq (by kernel_rfl) (Snd.cut (Snd.seq (by kernel_rfl) (Snd.cut (Snd.exec hc _ _ _ _) ⟨f102s6, fun x => impl_treeReader_text.c6 k x.1.2 x.2.1 x.2.2⟩ (fun x => by kernel_rfl)) (Snd.exec hc _ _ _ _)) ⟨f102s4, fun x => impl_treeReader_text.c4 k x.1.2 x.2.1 x.2.2⟩ (fun x => by kernel_rfl)) (Snd.exec hc _ _ _ _)) (Snd.exec hc _ _ _ _)) (Snd.exec hc _ _ _ _))
    (fun x => by kernel_rfl)

def f135in : SS := ⟨[(0, (.p 0))], [(0, (.box (.st (.cons (.list 5 (.int .u8)) (.cons (.int .i64) (.cons (.list 78 (.st (.cons (.int .i64) (.cons (.int .i64) (.cons (.int .i64) (.cons .str (.cons (.int .i64) .nil))))))) (.cons (.int .i64) .nil))))) (.agg (.cons (.ro (.list 5 (.int .u8))) (.cons (.ro (.int .i64)) (.cons (.h 10) (.cons (.ro (.int .i64)) .nil))))))), (10, (.sl 78 (.st (.cons (.int .i64) (.cons (.int .i64) (.cons (.int .i64) (.cons .str (.cons (.int .i64) .nil))))))))]⟩
def f135out : SS := ⟨[(0, (.ro (.int .i64)))], [(0, (.box (.st (.cons (.list 5 (.int .u8)) (.cons (.int .i64) (.cons (.list 78 (.st (.cons (.int .i64) (.cons (.int .i64) (.cons (.int .i64) (.cons .str (.cons (.int .i64) .nil))))))) (.cons (.int .i64) .nil))))) (.agg (.cons (.ro (.list 5 (.int .u8))) (.cons (.ro (.int .i64)) (.cons (.h 10) (.cons (.ro (.int .i64)) .nil))))))), (10, (.sl 78 (.st (.cons (.int .i64) (.cons (.int .i64) (.cons (.int .i64) (.cons .str (.cons (.int .i64) .nil))))))))]⟩
def f135con (F : TTreeReaderB → (List TNode) → Option (Int × TTreeReaderB × (List TNode))) : Con := ⟨f135in, f135out, 1, 1, fun x => F x.2.1 x.2.2⟩
def f135ctx (k : Nat) : Ctx := ⟨tyAt tys, conAt [(101, [f101con (impl_treeReader_fail k)])], 41, fun _ => false⟩
theorem f135hc (k : Nat) : CtxOk Tryz.prog (f135ctx k) := ctxOk tys_ok mixed_ok (consOk_cons (f101ok k) (consOk_nil))
theorem f135ok (k : Nat) : FnOk Tryz.prog 135 (f135con (impl_treeReader_one k)) :=
  let hc := f135hc k
  fnOk (fn := Tryz.f135) (code := bodyOf Tryz.f135) (res := [.tmp 2]) hc (by kernel_rfl) (by kernel_rfl) (by decide) (by kernel_rfl) (by kernel_rfl) (by kernel_rfl) (Nat.le_of_ble_eq_true (by kernel_rfl)) _
    (fun x => Snd.exec hc _ _ _ _)
    (fun x => by kernel_rfl)

def f136in : SS := ⟨[(0, (.ro (.int .i64))), (1, (.ro .bool))], []⟩
def f136out : SS := ⟨[(0, (.ro .bool))], []⟩
def f136s10 : SS := ⟨[(11, (.ro .bool))], []⟩
def f136s4 : SS := ⟨[(1, (.ro .bool)), (5, (.ro (.int .i64))), (6, (.ro .bool))], []⟩
def f136con (F : Int → Bool → Option Bool) : Con := ⟨f136in, f136out, 2, 1, fun x => F x.1 x.2⟩
def f136ctx (k : Nat) : Ctx := ⟨tyAt tys, conAt [], 17, fun _ => false⟩
theorem f136hc (k : Nat) : CtxOk Tryz.prog (f136ctx k) := ctxOk tys_ok mixed_ok (consOk_nil)
theorem f136ok (k : Nat) : FnOk Tryz.prog 136 (f136con (impl_isType k)) :=
  let hc := f136hc k
  fnOk (fn := Tryz.f136) (code := bodyOf Tryz.f136) (res := [.tmp 4]) hc (by kernel_rfl) (by kernel_rfl) (by decide) (by kernel_rfl) (by kernel_rfl) (by kernel_rfl) (Nat.le_of_ble_eq_true (by kernel_rfl)) _
    (fun x => Snd.seq (by kernel_rfl) (Snd.seq (by kernel_rfl) (Snd.exec hc _ _ _ _) (Snd.seq (by kernel_rfl) (Snd.block (id := 0) (by kernel_rfl) (Snd.seq (by kernel_rfl) (Snd.cut (Snd.cond (x := .tmp 6) (by kernel_rfl) (Snd.exec hc _ _ _ _) (Snd.seq (by kernel_rfl) (Snd.cut (Snd.exec hc _ _ _ _) ⟨f136s10, fun x => impl_isType.c10 k x⟩ (fun x => by kernel_rfl)) (Snd.exec hc _ _ _ _))) ⟨f136s4, fun x => impl_isType.c4 k x.1 x.2.1 x.2.2⟩ (fun x => by kernel_rfl)) (Snd.exec hc _ _ _ _))) (Snd.exec hc _ _ _ _))) (Snd.exec hc _ _ _ _))
    (fun x => by kernel_rfl)

def f60in : SS := ⟨[(0, (.p 0)), (1, (.ro (.int .i64))), (2, (.ro (.int .i64))), (3, (.ro (.int .i64)))], [(0, (.box (.st (.cons (.list 5 (.int .u8)) (.cons (.int .i64) (.cons (.list 78 (.st (.cons (.int .i64) (.cons (.int .i64) (.cons (.int .i64) (.cons .str (.cons (.int .i64) .nil))))))) (.cons (.int .i64) .nil))))) (.agg (.cons (.ro (.list 5 (.int .u8))) (.cons (.ro (.int .i64)) (.cons (.h 10) (.cons (.ro (.int .i64)) .nil))))))), (10, (.sl 78 (.st (.cons (.int .i64) (.cons (.int .i64) (.cons (.int .i64) (.cons .str (.cons (.int .i64) .nil))))))))]⟩
def f60out : SS := ⟨[], [(0, (.box (.st (.cons (.list 5 (.int .u8)) (.cons (.int .i64) (.cons (.list 78 (.st (.cons (.int .i64) (.cons (.int .i64) (.cons (.int .i64) (.cons .str (.cons (.int .i64) .nil))))))) (.cons (.int .i64) .nil))))) (.agg (.cons (.ro (.list 5 (.int .u8))) (.cons (.ro (.int .i64)) (.cons (.h 100) (.cons (.ro (.int .i64)) .nil))))))), (100, (.sl 78 (.st (.cons (.int .i64) (.cons (.int .i64) (.cons (.int .i64) (.cons .str (.cons (.int .i64) .nil))))))))]⟩
def f60s8 : SS := ⟨[(0, (.p 0)), (8, (.ro (.int .i64))), (9, (.ro (.int .i64)))], [(0, (.box (.st (.cons (.list 5 (.int .u8)) (.cons (.int .i64) (.cons (.list 78 (.st (.cons (.int .i64) (.cons (.int .i64) (.cons (.int .i64) (.cons .str (.cons (.int .i64) .nil))))))) (.cons (.int .i64) .nil))))) (.agg (.cons (.ro (.list 5 (.int .u8))) (.cons (.ro (.int .i64)) (.cons (.h 100) (.cons (.ro (.int .i64)) .nil))))))), (100, (.sl 78 (.st (.cons (.int .i64) (.cons (.int .i64) (.cons (.int .i64) (.cons .str (.cons (.int .i64) .nil))))))))]⟩
def f60d10 : SS := ⟨[(0, (.p 0)), (8, (.ro (.int .i64)))], [(0, (.box (.st (.cons (.list 5 (.int .u8)) (.cons (.int .i64) (.cons (.list 78 (.st (.cons (.int .i64) (.cons (.int .i64) (.cons (.int .i64) (.cons .str (.cons (.int .i64) .nil))))))) (.cons (.int .i64) .nil))))) (.agg (.cons (.ro (.list 5 (.int .u8))) (.cons (.ro (.int .i64)) (.cons (.h 100) (.cons (.ro (.int .i64)) .nil))))))), (100, (.sl 78 (.st (.cons (.int .i64) (.cons (.int .i64) (.cons (.int .i64) (.cons .str (.cons (.int .i64) .nil))))))))]⟩
def f60s5 : SS := ⟨[(0, (.p 0)), (1, (.ro (.int .i64))), (3, (.ro (.int .i64))), (8, (.ro (.int .i64))), (21, (.ro (.int .i64))), (22, (.ro .bool))], [(0, (.box (.st (.cons (.list 5 (.int .u8)) (.cons (.int .i64) (.cons (.list 78 (.st (.cons (.int .i64) (.cons (.int .i64) (.cons (.int .i64) (.cons .str (.cons (.int .i64) .nil))))))) (.cons (.int .i64) .nil))))) (.agg (.cons (.ro (.list 5 (.int .u8))) (.cons (.ro (.int .i64)) (.cons (.h 100) (.cons (.ro (.int .i64)) .nil))))))), (100, (.sl 78 (.st (.cons (.int .i64) (.cons (.int .i64) (.cons (.int .i64) (.cons .str (.cons (.int .i64) .nil))))))))]⟩
def f60con (F : Int → Int → Int → TTreeReaderB → (List TNode) → Option (Unit × TTreeReaderB × (List TNode))) : Con := ⟨f60in, f60out, 4, 0, fun x => F x.1.2.1 x.1.2.2.1 x.1.2.2.2 x.2.1 x.2.2⟩
def f103in : SS := ⟨[(0, (.p 0)), (1, (.ro (.int .i64))), (2, (.ro (.int .i64)))], [(0, (.box (.st (.cons (.list 5 (.int .u8)) (.cons (.int .i64) (.cons (.list 78 (.st (.cons (.int .i64) (.cons (.int .i64) (.cons (.int .i64) (.cons .str (.cons (.int .i64) .nil))))))) (.cons (.int .i64) .nil))))) (.agg (.cons (.ro (.list 5 (.int .u8))) (.cons (.ro (.int .i64)) (.cons (.h 10) (.cons (.ro (.int .i64)) .nil))))))), (10, (.sl 78 (.st (.cons (.int .i64) (.cons (.int .i64) (.cons (.int .i64) (.cons .str (.cons (.int .i64) .nil))))))))]⟩
def f103out : SS := ⟨[], [(0, (.box (.st (.cons (.list 5 (.int .u8)) (.cons (.int .i64) (.cons (.list 78 (.st (.cons (.int .i64) (.cons (.int .i64) (.cons (.int .i64) (.cons .str (.cons (.int .i64) .nil))))))) (.cons (.int .i64) .nil))))) (.agg (.cons (.ro (.list 5 (.int .u8))) (.cons (.ro (.int .i64)) (.cons (.h 100) (.cons (.ro (.int .i64)) .nil))))))), (100, (.sl 78 (.st (.cons (.int .i64) (.cons (.int .i64) (.cons (.int .i64) (.cons .str (.cons (.int .i64) .nil))))))))]⟩
def f103s11 : SS := ⟨[(0, (.p 0)), (2, (.ro (.int .i64))), (7, (.ro (.int .i64))), (8, (.ro (.int .i64))), (9, (.ro (.int .i64)))], [(0, (.box (.st (.cons (.list 5 (.int .u8)) (.cons (.int .i64) (.cons (.list 78 (.st (.cons (.int .i64) (.cons (.int .i64) (.cons (.int .i64) (.cons .str (.cons (.int .i64) .nil))))))) (.cons (.int .i64) .nil))))) (.agg (.cons (.ro (.list 5 (.int .u8))) (.cons (.ro (.int .i64)) (.cons (.h 100) (.cons (.ro (.int .i64)) .nil))))))), (100, (.sl 78 (.st (.cons (.int .i64) (.cons (.int .i64) (.cons (.int .i64) (.cons .str (.cons (.int .i64) .nil))))))))]⟩
def f103s9 : SS := ⟨[(0, (.p 0)), (1, (.ro (.int .i64))), (2, (.ro (.int .i64))), (7, (.ro (.int .i64))), (8, (.ro (.int .i64)))], [(0, (.box (.st (.cons (.list 5 (.int .u8)) (.cons (.int .i64) (.cons (.list 78 (.st (.cons (.int .i64) (.cons (.int .i64) (.cons (.int .i64) (.cons .str (.cons (.int .i64) .nil))))))) (.cons (.int .i64) .nil))))) (.agg (.cons (.ro (.list 5 (.int .u8))) (.cons (.ro (.int .i64)) (.cons (.h 10) (.cons (.ro (.int .i64)) .nil))))))), (10, (.sl 78 (.st (.cons (.int .i64) (.cons (.int .i64) (.cons (.int .i64) (.cons .str (.cons (.int .i64) .nil))))))))]⟩
def f103s7 : SS := ⟨[(0, (.p 0)), (1, (.ro (.int .i64))), (2, (.ro (.int .i64))), (7, (.ro (.int .i64))), (8, (.ro (.int .i64)))], [(0, (.box (.st (.cons (.list 5 (.int .u8)) (.cons (.int .i64) (.cons (.list 78 (.st (.cons (.int .i64) (.cons (.int .i64) (.cons (.int .i64) (.cons .str (.cons (.int .i64) .nil))))))) (.cons (.int .i64) .nil))))) (.agg (.cons (.ro (.list 5 (.int .u8))) (.cons (.ro (.int .i64)) (.cons (.h 10) (.cons (.ro (.int .i64)) .nil))))))), (10, (.sl 78 (.st (.cons (.int .i64) (.cons (.int .i64) (.cons (.int .i64) (.cons .str (.cons (.int .i64) .nil))))))))]⟩
def f103s4 : SS := ⟨[(0, (.p 0)), (1, (.ro (.int .i64))), (2, (.ro (.int .i64))), (7, (.ro (.int .i64))), (8, (.ro (.int .i64)))], [(0, (.box (.st (.cons (.list 5 (.int .u8)) (.cons (.int .i64) (.cons (.list 78 (.st (.cons (.int .i64) (.cons (.int .i64) (.cons (.int .i64) (.cons .str (.cons (.int .i64) .nil))))))) (.cons (.int .i64) .nil))))) (.agg (.cons (.ro (.list 5 (.int .u8))) (.cons (.ro (.int .i64)) (.cons (.h 10) (.cons (.ro (.int .i64)) .nil))))))), (10, (.sl 78 (.st (.cons (.int .i64) (.cons (.int .i64) (.cons (.int .i64) (.cons .str (.cons (.int .i64) .nil))))))))]⟩
def f103con (F : Int → Int → TTreeReaderB → (List TNode) → Option (Unit × TTreeReaderB × (List TNode))) : Con := ⟨f103in, f103out, 3, 0, fun x => F x.1.2.1 x.1.2.2 x.2.1 x.2.2⟩
def f104in : SS := ⟨[(0, (.p 0)), (1, (.ro (.int .i64))), (2, (.ro (.int .i64)))], [(0, (.box (.st (.cons (.list 5 (.int .u8)) (.cons (.int .i64) (.cons (.list 78 (.st (.cons (.int .i64) (.cons (.int .i64) (.cons (.int .i64) (.cons .str (.cons (.int .i64) .nil))))))) (.cons (.int .i64) .nil))))) (.agg (.cons (.ro (.list 5 (.int .u8))) (.cons (.ro (.int .i64)) (.cons (.h 10) (.cons (.ro (.int .i64)) .nil))))))), (10, (.sl 78 (.st (.cons (.int .i64) (.cons (.int .i64) (.cons (.int .i64) (.cons .str (.cons (.int .i64) .nil))))))))]⟩
def f104out : SS := ⟨[], [(0, (.box (.st (.cons (.list 5 (.int .u8)) (.cons (.int .i64) (.cons (.list 78 (.st (.cons (.int .i64) (.cons (.int .i64) (.cons (.int .i64) (.cons .str (.cons (.int .i64) .nil))))))) (.cons (.int .i64) .nil))))) (.agg (.cons (.ro (.list 5 (.int .u8))) (.cons (.ro (.int .i64)) (.cons (.h 100) (.cons (.ro (.int .i64)) .nil))))))), (100, (.sl 78 (.st (.cons (.int .i64) (.cons (.int .i64) (.cons (.int .i64) (.cons .str (.cons (.int .i64) .nil))))))))]⟩
def f104s12 : SS := ⟨[(0, (.p 0)), (1, (.ro (.int .i64))), (2, (.ro (.int .i64))), (8, (.ro (.int .i64))), (9, (.ro (.int .i64)))], [(0, (.box (.st (.cons (.list 5 (.int .u8)) (.cons (.int .i64) (.cons (.list 78 (.st (.cons (.int .i64) (.cons (.int .i64) (.cons (.int .i64) (.cons .str (.cons (.int .i64) .nil))))))) (.cons (.int .i64) .nil))))) (.agg (.cons (.ro (.list 5 (.int .u8))) (.cons (.ro (.int .i64)) (.cons (.h 100) (.cons (.ro (.int .i64)) .nil))))))), (100, (.sl 78 (.st (.cons (.int .i64) (.cons (.int .i64) (.cons (.int .i64) (.cons .str (.cons (.int .i64) .nil))))))))]⟩
def f104s10 : SS := ⟨[(0, (.p 0)), (1, (.ro (.int .i64))), (2, (.ro (.int .i64))), (6, (.ro (.int .i64))), (8, (.ro (.int .i64))), (9, (.ro (.int .i64)))], [(0, (.box (.st (.cons (.list 5 (.int .u8)) (.cons (.int .i64) (.cons (.list 78 (.st (.cons (.int .i64) (.cons (.int .i64) (.cons (.int .i64) (.cons .str (.cons (.int .i64) .nil))))))) (.cons (.int .i64) .nil))))) (.agg (.cons (.ro (.list 5 (.int .u8))) (.cons (.ro (.int .i64)) (.cons (.h 100) (.cons (.ro (.int .i64)) .nil))))))), (100, (.sl 78 (.st (.cons (.int .i64) (.cons (.int .i64) (.cons (.int .i64) (.cons .str (.cons (.int .i64) .nil))))))))]⟩
def f104s8 : SS := ⟨[(0, (.p 0)), (1, (.ro (.int .i64))), (2, (.ro (.int .i64))), (6, (.ro (.int .i64))), (8, (.ro (.int .i64))), (9, (.ro (.int .i64)))], [(0, (.box (.st (.cons (.list 5 (.int .u8)) (.cons (.int .i64) (.cons (.list 78 (.st (.cons (.int .i64) (.cons (.int .i64) (.cons (.int .i64) (.cons .str (.cons (.int .i64) .nil))))))) (.cons (.int .i64) .nil))))) (.agg (.cons (.ro (.list 5 (.int .u8))) (.cons (.ro (.int .i64)) (.cons (.h 100) (.cons (.ro (.int .i64)) .nil))))))), (100, (.sl 78 (.st (.cons (.int .i64) (.cons (.int .i64) (.cons (.int .i64) (.cons .str (.cons (.int .i64) .nil))))))))]⟩
def f104s6 : SS := ⟨[(0, (.p 0)), (1, (.ro (.int .i64))), (2, (.ro (.int .i64))), (6, (.ro (.int .i64))), (7, (.ro (.int .i64))), (8, (.ro (.int .i64))), (9, (.ro (.int .i64)))], [(0, (.box (.st (.cons (.list 5 (.int .u8)) (.cons (.int .i64) (.cons (.list 78 (.st (.cons (.int .i64) (.cons (.int .i64) (.cons (.int .i64) (.cons .str (.cons (.int .i64) .nil))))))) (.cons (.int .i64) .nil))))) (.agg (.cons (.ro (.list 5 (.int .u8))) (.cons (.ro (.int .i64)) (.cons (.h 100) (.cons (.ro (.int .i64)) .nil))))))), (100, (.sl 78 (.st (.cons (.int .i64) (.cons (.int .i64) (.cons (.int .i64) (.cons .str (.cons (.int .i64) .nil))))))))]⟩
def f104s1 : SS := ⟨[(0, (.p 0)), (1, (.ro (.int .i64))), (2, (.ro (.int .i64))), (6, (.ro (.int .i64)))], [(0, (.box (.st (.cons (.list 5 (.int .u8)) (.cons (.int .i64) (.cons (.list 78 (.st (.cons (.int .i64) (.cons (.int .i64) (.cons (.int .i64) (.cons .str (.cons (.int .i64) .nil))))))) (.cons (.int .i64) .nil))))) (.agg (.cons (.ro (.list 5 (.int .u8))) (.cons (.ro (.int .i64)) (.cons (.h 100) (.cons (.ro (.int .i64)) .nil))))))), (100, (.sl 78 (.st (.cons (.int .i64) (.cons (.int .i64) (.cons (.int .i64) (.cons .str (.cons (.int .i64) .nil))))))))]⟩
def f104con (F : Int → Int → TTreeReaderB → (List TNode) → Option (Unit × TTreeReaderB × (List TNode))) : Con := ⟨f104in, f104out, 3, 0, fun x => F x.1.2.1 x.1.2.2 x.2.1 x.2.2⟩
def f60ctx (k : Nat) (S60 : Int → Int → Int → TTreeReaderB → (List TNode) → Option (Unit × TTreeReaderB × (List TNode))) (S103 : Int → Int → TTreeReaderB → (List TNode) → Option (Unit × TTreeReaderB × (List TNode))) (S104 : Int → Int → TTreeReaderB → (List TNode) → Option (Unit × TTreeReaderB × (List TNode))) : Ctx := ⟨tyAt tys, conAt [(97, [f97con (impl_treeReader_begin k)]), (98, [f98con (impl_Zag k)]), (99, [f99con (impl_treeReader_uvar k)]), (100, [f100con (impl_isInt32 k)]), (101, [f101con (impl_treeReader_fail k)]), (102, [f102con (impl_treeReader_text k)]), (103, [f103con S103]), (104, [f104con S104])], 75, fun _ => false⟩
theorem f60hc (k : Nat) (S60 : Int → Int → Int → TTreeReaderB → (List TNode) → Option (Unit × TTreeReaderB × (List TNode))) (S103 : Int → Int → TTreeReaderB → (List TNode) → Option (Unit × TTreeReaderB × (List TNode))) (S104 : Int → Int → TTreeReaderB → (List TNode) → Option (Unit × TTreeReaderB × (List TNode))) (h60 : FnOk Tryz.prog 60 (f60con S60)) (h103 : FnOk Tryz.prog 103 (f103con S103)) (h104 : FnOk Tryz.prog 104 (f104con S104)) : CtxOk Tryz.prog (f60ctx k S60 S103 S104) := ctxOk tys_ok mixed_ok (consOk_cons (f97ok k) (consOk_cons (f98ok k) (consOk_cons (f99ok k) (consOk_cons (f100ok k) (consOk_cons (f101ok k) (consOk_cons (f102ok k) (consOk_cons (h103) (consOk_cons (h104) (consOk_nil)))))))))
theorem f60okb (k : Nat) (S60 : Int → Int → Int → TTreeReaderB → (List TNode) → Option (Unit × TTreeReaderB × (List TNode))) (S103 : Int → Int → TTreeReaderB → (List TNode) → Option (Unit × TTreeReaderB × (List TNode))) (S104 : Int → Int → TTreeReaderB → (List TNode) → Option (Unit × TTreeReaderB × (List TNode))) (h60 : FnOk Tryz.prog 60 (f60con S60)) (h103 : FnOk Tryz.prog 103 (f103con S103)) (h104 : FnOk Tryz.prog 104 (f104con S104)) : FnOk Tryz.prog 60 (f60con (impl_treeReader_node.b k S60 S103 S104)) :=
  let hc := f60hc k S60 S103 S104 h60 h103 h104
  fnOk (fn := Tryz.f60) (code := bodyOf Tryz.f60) (res := []) hc (by kernel_rfl) (by kernel_rfl) (by decide) (by kernel_rfl) (by kernel_rfl) (by kernel_rfl) (Nat.le_of_ble_eq_true (by kernel_rfl)) _
    (fun x => Snd.seq (by kernel_rfl) (Snd.seq (by kernel_rfl) (Snd.seq (by kernel_rfl) (Snd.block (id := 0) (by kernel_rfl) (Snd.seq (by kernel_rfl) (Snd.cut (Snd.cond (x := .tmp 22) (by kernel_rfl) (Snd.seq (by kernel_rfl) (Snd.seq (by kernel_rfl) (Snd.cut (Snd.exec hc _ _ _ _) ⟨f60s8, fun x => impl_treeReader_node.c8 k x.1.2.1 x.1.2.2 x.2.1 x.2.2⟩ (fun x => by kernel_rfl)) (Snd.exec hc _ _ _ _)) (Snd.exec hc _ _ _ _)) (Snd.seq (by kernel_rfl) (Snd.cond (x := .tmp 52) (by kernel_rfl) (Snd.fork hc (id := 10) (by kernel_rfl) ⟨f60d10, fun x => impl_treeReader_node.d10 k x.1.2 x.2.1 x.2.2⟩ [[0, 1, 2, 4, 5, 3, 6, 7, 8, 9], [0, 1, 2, 4, 5, 6, 3, 7, 8, 9]] (by kernel_rfl) (ords_cons (fun x => by kernel_rfl) (ords_cons (fun x => by kernel_rfl) (ords_nil)))) (Snd.exec hc _ _ _ _)) (Snd.exec hc _ _ _ _))) ⟨f60s5, fun x => impl_treeReader_node.c5 k S103 S104 x.1.2.1 x.1.2.2.1 x.1.2.2.2.1 x.1.2.2.2.2.1 x.1.2.2.2.2.2 x.2.1 x.2.2⟩ (fun x => by kernel_rfl)) (Snd.exec hc _ _ _ _))) (Snd.exec hc _ _ _ _)) (Snd.exec hc _ _ _ _)) (Snd.exec hc _ _ _ _))
    (fun x => by kernel_rfl)
def f103ctx (k : Nat) (S60 : Int → Int → Int → TTreeReaderB → (List TNode) → Option (Unit × TTreeReaderB × (List TNode))) (S103 : Int → Int → TTreeReaderB → (List TNode) → Option (Unit × TTreeReaderB × (List TNode))) (S104 : Int → Int → TTreeReaderB → (List TNode) → Option (Unit × TTreeReaderB × (List TNode))) : Ctx := ⟨tyAt tys, conAt [(29, [f29con (impl_within k)]), (60, [f60con S60]), (99, [f99con (impl_treeReader_uvar k)]), (101, [f101con (impl_treeReader_fail k)]), (135, [f135con (impl_treeReader_one k)]), (136, [f136con (impl_isType k)])], 72, fun _ => false⟩
theorem f103hc (k : Nat) (S60 : Int → Int → Int → TTreeReaderB → (List TNode) → Option (Unit × TTreeReaderB × (List TNode))) (S103 : Int → Int → TTreeReaderB → (List TNode) → Option (Unit × TTreeReaderB × (List TNode))) (S104 : Int → Int → TTreeReaderB → (List TNode) → Option (Unit × TTreeReaderB × (List TNode))) (h60 : FnOk Tryz.prog 60 (f60con S60)) (h103 : FnOk Tryz.prog 103 (f103con S103)) (h104 : FnOk Tryz.prog 104 (f104con S104)) : CtxOk Tryz.prog (f103ctx k S60 S103 S104) := ctxOk tys_ok mixed_ok (consOk_cons (f29ok k) (consOk_cons (h60) (consOk_cons (f99ok k) (consOk_cons (f101ok k) (consOk_cons (f135ok k) (consOk_cons (f136ok k) (consOk_nil)))))))
theorem f103okb (k : Nat) (S60 : Int → Int → Int → TTreeReaderB → (List TNode) → Option (Unit × TTreeReaderB × (List TNode))) (S103 : Int → Int → TTreeReaderB → (List TNode) → Option (Unit × TTreeReaderB × (List TNode))) (S104 : Int → Int → TTreeReaderB → (List TNode) → Option (Unit × TTreeReaderB × (List TNode))) (h60 : FnOk Tryz.prog 60 (f60con S60)) (h103 : FnOk Tryz.prog 103 (f103con S103)) (h104 : FnOk Tryz.prog 104 (f104con S104)) : FnOk Tryz.prog 103 (f103con (impl_treeReader_parts.b k S60 S103 S104)) :=
  let hc := f103hc k S60 S103 S104 h60 h103 h104
  fnOk (fn := Tryz.f103) (code := bodyOf Tryz.f103) (res := []) hc (by kernel_rfl) (by kernel_rfl) (by decide) (by kernel_rfl) (by kernel_rfl) (by kernel_rfl) (Nat.le_of_ble_eq_true (by kernel_rfl)) _
    (fun x => Snd.seq (by kernel_rfl) (Snd.seq (by kernel_rfl) (Snd.seq (by kernel_rfl) (Snd.cut (Snd.seq (by kernel_rfl) (Snd.seq (by kernel_rfl) (Snd.cut (Snd.seq (by kernel_rfl) (Snd.cut (Snd.seq (by kernel_rfl) (Snd.seq (by kernel_rfl) (Snd.block (id := 0) (by kernel_rfl) (Snd.loop' (by kernel_rfl) f103s11 (fun n x => impl_treeReader_parts.l11 k S60 n x.1.2.1 x.1.2.2.1 x.1.2.2.2.1 x.1.2.2.2.2 x.2.1 x.2.2) _ (fun _ => rfl) (fun n11 => Snd.exec hc _ _ _ _) (fun n x => by kernel_rfl) k)) (Snd.exec hc _ _ _ _)) (Snd.exec hc _ _ _ _)) ⟨f103s9, fun x => impl_treeReader_parts.c9 k S60 x.1.2.1 x.1.2.2.1 x.1.2.2.2.1 x.1.2.2.2.2 x.2.1 x.2.2⟩ (fun x => by kernel_rfl)) (Snd.exec hc _ _ _ _)) ⟨f103s7, fun x => impl_treeReader_parts.c7 k S60 x.1.2.1 x.1.2.2.1 x.1.2.2.2.1 x.1.2.2.2.2 x.2.1 x.2.2⟩ (fun x => by kernel_rfl)) (Snd.exec hc _ _ _ _)) (Snd.exec hc _ _ _ _)) ⟨f103s4, fun x => impl_treeReader_parts.c4 k S60 x.1.2.1 x.1.2.2.1 x.1.2.2.2.1 x.1.2.2.2.2 x.2.1 x.2.2⟩ (fun x => by kernel_rfl)) (Snd.exec hc _ _ _ _)) (Snd.exec hc _ _ _ _)) (Snd.exec hc _ _ _ _))
    (fun x => by kernel_rfl)
def f104ctx (k : Nat) (S60 : Int → Int → Int → TTreeReaderB → (List TNode) → Option (Unit × TTreeReaderB × (List TNode))) (S103 : Int → Int → TTreeReaderB → (List TNode) → Option (Unit × TTreeReaderB × (List TNode))) (S104 : Int → Int → TTreeReaderB → (List TNode) → Option (Unit × TTreeReaderB × (List TNode))) : Ctx := ⟨tyAt tys, conAt [(29, [f29con (impl_within k)]), (60, [f60con S60]), (98, [f98con (impl_Zag k)]), (99, [f99con (impl_treeReader_uvar k)]), (101, [f101con (impl_treeReader_fail k)]), (135, [f135con (impl_treeReader_one k)]), (136, [f136con (impl_isType k)])], 84, fun _ => false⟩
theorem f104hc (k : Nat) (S60 : Int → Int → Int → TTreeReaderB → (List TNode) → Option (Unit × TTreeReaderB × (List TNode))) (S103 : Int → Int → TTreeReaderB → (List TNode) → Option (Unit × TTreeReaderB × (List TNode))) (S104 : Int → Int → TTreeReaderB → (List TNode) → Option (Unit × TTreeReaderB × (List TNode))) (h60 : FnOk Tryz.prog 60 (f60con S60)) (h103 : FnOk Tryz.prog 103 (f103con S103)) (h104 : FnOk Tryz.prog 104 (f104con S104)) : CtxOk Tryz.prog (f104ctx k S60 S103 S104) := ctxOk tys_ok mixed_ok (consOk_cons (f29ok k) (consOk_cons (h60) (consOk_cons (f98ok k) (consOk_cons (f99ok k) (consOk_cons (f101ok k) (consOk_cons (f135ok k) (consOk_cons (f136ok k) (consOk_nil))))))))
theorem f104okb (k : Nat) (S60 : Int → Int → Int → TTreeReaderB → (List TNode) → Option (Unit × TTreeReaderB × (List TNode))) (S103 : Int → Int → TTreeReaderB → (List TNode) → Option (Unit × TTreeReaderB × (List TNode))) (S104 : Int → Int → TTreeReaderB → (List TNode) → Option (Unit × TTreeReaderB × (List TNode))) (h60 : FnOk Tryz.prog 60 (f60con S60)) (h103 : FnOk Tryz.prog 103 (f103con S103)) (h104 : FnOk Tryz.prog 104 (f104con S104)) : FnOk Tryz.prog 104 (f104con (impl_treeReader_fields.b k S60 S103 S104)) :=
  let hc := f104hc k S60 S103 S104 h60 h103 h104
  fnOk (fn := Tryz.f104) (code := bodyOf Tryz.f104) (res := []) hc (by kernel_rfl) (by kernel_rfl) (by decide) (by kernel_rfl) (by kernel_rfl) (by kernel_rfl) (Nat.le_of_ble_eq_true (by kernel_rfl)) _
    (fun x => Snd.seq (by kernel_rfl) (Snd.block (id := 0) (by kernel_rfl) (Snd.loop' (by kernel_rfl) f104s1 (fun n x => impl_treeReader_fields.l1 k S60 n x.1.2.1 x.1.2.2.1 x.1.2.2.2 x.2.1 x.2.2) _ (fun _ => rfl) (fun n1 => Snd.block (id := 1) (by kernel_rfl) (Snd.seq (by kernel_rfl) (Snd.seq (by kernel_rfl) (Snd.seq (by kernel_rfl) (Snd.seq (by kernel_rfl) (Snd.cut (Snd.seq (by kernel_rfl) (Snd.cut (Snd.seq (by kernel_rfl) (Snd.cut (Snd.seq (by kernel_rfl) (Snd.cut (Snd.exec hc _ _ _ _) ⟨f104s12, fun x => impl_treeReader_fields.c12 k S60 (impl_treeReader_fields.l1 k S60 n1) x.1.2.1 x.1.2.2.1 x.1.2.2.2.1 x.1.2.2.2.2 x.2.1 x.2.2⟩ (fun x => by kernel_rfl)) (Snd.exec hc _ _ _ _)) ⟨f104s10, fun x => impl_treeReader_fields.c10 k S60 (impl_treeReader_fields.l1 k S60 n1) x.1.2.1 x.1.2.2.1 x.1.2.2.2.1 x.1.2.2.2.2.1 x.1.2.2.2.2.2 x.2.1 x.2.2⟩ (fun x => by kernel_rfl)) (Snd.exec hc _ _ _ _)) ⟨f104s8, fun x => impl_treeReader_fields.c8 k S60 (impl_treeReader_fields.l1 k S60 n1) x.1.2.1 x.1.2.2.1 x.1.2.2.2.1 x.1.2.2.2.2.1 x.1.2.2.2.2.2 x.2.1 x.2.2⟩ (fun x => by kernel_rfl)) (Snd.exec hc _ _ _ _)) ⟨f104s6, fun x => impl_treeReader_fields.c6 k S60 (impl_treeReader_fields.l1 k S60 n1) x.1.2.1 x.1.2.2.1 x.1.2.2.2.1 x.1.2.2.2.2.1 x.1.2.2.2.2.2.1 x.1.2.2.2.2.2.2 x.2.1 x.2.2⟩ (fun x => by kernel_rfl)) (Snd.exec hc _ _ _ _)) (Snd.exec hc _ _ _ _)) (Snd.exec hc _ _ _ _)) (Snd.exec hc _ _ _ _))) (fun n x => by kernel_rfl) k)) (Snd.exec hc _ _ _ _))
    (fun x => by kernel_rfl)
theorem f60rec (k : Nat) : ∀ d, FnOk Tryz.prog 60 (f60con (impl_treeReader_node.d k d)) ∧ FnOk Tryz.prog 103 (f103con (impl_treeReader_parts.d k d)) ∧ FnOk Tryz.prog 104 (f104con (impl_treeReader_fields.d k d))
  | 0 => ⟨FnOk_none (fun _ => rfl), FnOk_none (fun _ => rfl), FnOk_none (fun _ => rfl)⟩
  | d + 1 => let ih := f60rec k d
    ⟨f60okb k (impl_treeReader_node.d k d) (impl_treeReader_parts.d k d) (impl_treeReader_fields.d k d) ih.1 ih.2.1 ih.2.2, f103okb k (impl_treeReader_node.d k d) (impl_treeReader_parts.d k d) (impl_treeReader_fields.d k d) ih.1 ih.2.1 ih.2.2, f104okb k (impl_treeReader_node.d k d) (impl_treeReader_parts.d k d) (impl_treeReader_fields.d k d) ih.1 ih.2.1 ih.2.2⟩
theorem f60ok (k : Nat) : FnOk Tryz.prog 60 (f60con (impl_treeReader_node k)) := (f60rec k k).1
theorem f103ok (k : Nat) : FnOk Tryz.prog 103 (f103con (impl_treeReader_parts k)) := (f60rec k k).2.1
theorem f104ok (k : Nat) : FnOk Tryz.prog 104 (f104con (impl_treeReader_fields k)) := (f60rec k k).2.2

def f26in : SS := ⟨[(0, (.ro (.list 5 (.int .u8)))), (1, (.ro (.int .i64)))], []⟩
def f26out : SS := ⟨[(0, (.h 100)), (1, (.ro (.int .i64))), (2, (.ro (.int .i64)))], [(100, (.sl 78 (.st (.cons (.int .i64) (.cons (.int .i64) (.cons (.int .i64) (.cons .str (.cons (.int .i64) .nil))))))))]⟩
def f26con (F : (List Int) → Int → Option ((Unit × Int × Int) × (List TNode))) : Con := ⟨f26in, f26out, 2, 3, fun x => F x.1 x.2⟩
def f26ctx (k : Nat) : Ctx := ⟨tyAt tys, conAt [(29, [f29con (impl_within k)]), (60, [f60con (impl_treeReader_node k)])], 37, fun _ => false⟩
theorem f26hc (k : Nat) : CtxOk Tryz.prog (f26ctx k) := ctxOk tys_ok mixed_ok (consOk_cons (f29ok k) (consOk_cons (f60ok k) (consOk_nil)))
theorem f26ok (k : Nat) : FnOk Tryz.prog 26 (f26con (impl_TreeRead k)) :=
  let hc := f26hc k
  fnOk (fn := Tryz.f26) (code := bodyOf Tryz.f26) (res := [.tmp 4, .tmp 5, .tmp 6]) hc (by kernel_rfl) (by kernel_rfl) (by decide) (by kernel_rfl) (by kernel_rfl) (by kernel_rfl) (Nat.le_of_ble_eq_true (by kernel_rfl)) _
    (fun x => Snd.exec hc _ _ _ _)
    (fun x => by kernel_rfl)

def f140in : SS := ⟨[(0, (.ro (.int .i64)))], []⟩
def f140out : SS := ⟨[(0, (.ro .bool))], []⟩
def f140con (F : Int → Option Bool) : Con := ⟨f140in, f140out, 1, 1, fun x => F x⟩
def f140ctx (k : Nat) : Ctx := ⟨tyAt tys, conAt [(29, [f29con (impl_within k)])], 13, fun _ => false⟩
theorem f140hc (k : Nat) : CtxOk Tryz.prog (f140ctx k) := ctxOk tys_ok mixed_ok (consOk_cons (f29ok k) (consOk_nil))
theorem f140ok (k : Nat) : FnOk Tryz.prog 140 (f140con (impl_TypeOk k)) :=
  let hc := f140hc k
  fnOk (fn := Tryz.f140) (code := bodyOf Tryz.f140) (res := [.tmp 2]) hc (by kernel_rfl) (by kernel_rfl) (by decide) (by kernel_rfl) (by kernel_rfl) (by kernel_rfl) (Nat.le_of_ble_eq_true (by kernel_rfl)) _
    (fun x => Snd.exec hc _ _ _ _)
    (fun x => by kernel_rfl)

def f109in : SS := ⟨[(0, (.ro (.st (.cons .str (.cons (.int .i64) (.cons (.int .i64) (.cons (.int .i64) .nil)))))))], []⟩
def f109out : SS := ⟨[(0, (.ro .bool))], []⟩
def f109con (F : TCol → Option Bool) : Con := ⟨f109in, f109out, 1, 1, fun x => F x⟩
def f109ctx (k : Nat) : Ctx := ⟨tyAt tys, conAt [(29, [f29con (impl_within k)]), (140, [f140con (impl_TypeOk k)])], 30, fun _ => false⟩
theorem f109hc (k : Nat) : CtxOk Tryz.prog (f109ctx k) := ctxOk tys_ok mixed_ok (consOk_cons (f29ok k) (consOk_cons (f140ok k) (consOk_nil)))
theorem f109ok (k : Nat) : FnOk Tryz.prog 109 (f109con (impl_colOk k)) :=
  let hc := f109hc k
  fnOk (fn := Tryz.f109) (code := bodyOf Tryz.f109) (res := [.tmp 2]) hc (by kernel_rfl) (by kernel_rfl) (by decide) (by kernel_rfl) (by kernel_rfl) (by kernel_rfl) (Nat.le_of_ble_eq_true (by kernel_rfl)) _
    (fun x => Snd.exec hc _ _ _ _)
    (fun x => by kernel_rfl)

def f110in : SS := ⟨[(0, (.ro .str))], []⟩
def f110out : SS := ⟨[(0, (.ro .bool))], []⟩
def f110s2 : SS := ⟨[(0, (.ro .str)), (5, (.ro (.int .i64))), (6, (.ro (.int .i64)))], []⟩
def f110con (F : ByteArray → Option Bool) : Con := ⟨f110in, f110out, 1, 1, fun x => F x⟩
def f110ctx (k : Nat) : Ctx := ⟨tyAt tys, conAt [(29, [f29con (impl_within k)])], 19, fun _ => false⟩
theorem f110hc (k : Nat) : CtxOk Tryz.prog (f110ctx k) := ctxOk tys_ok mixed_ok (consOk_cons (f29ok k) (consOk_nil))
theorem f110ok (k : Nat) : FnOk Tryz.prog 110 (f110con (impl_isColName k)) :=
  let hc := f110hc k
  fnOk (fn := Tryz.f110) (code := bodyOf Tryz.f110) (res := [.tmp 2]) hc (by kernel_rfl) (by kernel_rfl) (by decide) (by kernel_rfl) (by kernel_rfl) (by kernel_rfl) (Nat.le_of_ble_eq_true (by kernel_rfl)) _
    (fun x => Snd.seq (by kernel_rfl) (Snd.seq (by kernel_rfl) (Snd.exec hc _ _ _ _) (Snd.seq (by kernel_rfl) (Snd.block (id := 0) (by kernel_rfl) (Snd.loop' (by kernel_rfl) f110s2 (fun n x => impl_isColName.l2 k n x.1 x.2.1 x.2.2) _ (fun _ => rfl) (fun n2 => Snd.exec hc _ _ _ _) (fun n x => by kernel_rfl) k)) (Snd.exec hc _ _ _ _))) (Snd.exec hc _ _ _ _))
    (fun x => by kernel_rfl)

def f65in : SS := ⟨[(0, (.ro (.list 60 (.st (.cons .str (.cons (.int .i64) (.cons (.int .i64) (.cons (.int .i64) .nil)))))))), (1, (.ro (.int .i64))), (2, (.ro (.int .i64)))], []⟩
def f65out : SS := ⟨[(0, (.ro (.int .i64)))], []⟩
def f65s10 : SS := ⟨[(0, (.ro (.list 60 (.st (.cons .str (.cons (.int .i64) (.cons (.int .i64) (.cons (.int .i64) .nil)))))))), (2, (.ro (.int .i64))), (7, (.ro (.int .i64))), (8, (.h 100)), (47, (.ro (.int .i64))), (48, (.ro (.int .i64))), (54, (.h 100)), (55, (.ro (.int .i64))), (56, (.ro (.int .i64)))], [(100, (.sl 9 .str))]⟩
def f65s6 : SS := ⟨[(0, (.ro (.list 60 (.st (.cons .str (.cons (.int .i64) (.cons (.int .i64) (.cons (.int .i64) .nil)))))))), (2, (.ro (.int .i64))), (7, (.ro (.int .i64))), (8, (.h 100)), (47, (.ro (.int .i64))), (48, (.ro (.int .i64)))], [(100, (.sl 9 .str))]⟩
def f65con (F : (List TCol) → Int → Int → Option Int) : Con := ⟨f65in, f65out, 3, 1, fun x => F x.1 x.2.1 x.2.2⟩
def f65ctx (k : Nat) (S65 : (List TCol) → Int → Int → Option Int) : Ctx := ⟨tyAt tys, conAt [(65, [f65con S65]), (109, [f109con (impl_colOk k)]), (110, [f110con (impl_isColName k)])], 85, fun _ => false⟩
theorem f65hc (k : Nat) (S65 : (List TCol) → Int → Int → Option Int) (h65 : FnOk Tryz.prog 65 (f65con S65)) : CtxOk Tryz.prog (f65ctx k S65) := ctxOk tys_ok mixed_ok (consOk_cons (h65) (consOk_cons (f109ok k) (consOk_cons (f110ok k) (consOk_nil))))
theorem f65okb (k : Nat) (S65 : (List TCol) → Int → Int → Option Int) (h65 : FnOk Tryz.prog 65 (f65con S65)) : FnOk Tryz.prog 65 (f65con (impl_colAfter.b k S65)) :=
  let hc := f65hc k S65 h65
  fnOk (fn := Tryz.f65) (code := bodyOf Tryz.f65) (res := [.tmp 6]) hc (by kernel_rfl) (by kernel_rfl) (by decide) (by kernel_rfl) (by kernel_rfl) (by kernel_rfl) (Nat.le_of_ble_eq_true (by kernel_rfl)) _
    (fun x => Snd.seq (by kernel_rfl) (Snd.seq (by kernel_rfl) (Snd.seq (by kernel_rfl) (Snd.seq (by kernel_rfl) (Snd.seq (by kernel_rfl) (Snd.exec hc _ _ _ _) (Snd.seq (by kernel_rfl) (Snd.block (id := 0) (by kernel_rfl) (Snd.loop' (by kernel_rfl) f65s6 (fun n x => impl_colAfter.l6 k S65 n x.1.1 x.1.2.1 x.1.2.2.1 x.1.2.2.2.2.1 x.1.2.2.2.2.2 x.2) _ (fun _ => rfl) (fun n6 => Snd.seq (by kernel_rfl) (Snd.seq (by kernel_rfl) (Snd.seq (by kernel_rfl) (Snd.exec hc _ _ _ _) (Snd.block (id := 1) (by kernel_rfl) (Snd.seq (by kernel_rfl) (Snd.seq (by kernel_rfl) (Snd.exec hc _ _ _ _) (Snd.seq (by kernel_rfl) (Snd.block (id := 2) (by kernel_rfl) (Snd.loop' (by kernel_rfl) f65s10 (fun n x => impl_colAfter.l10 k S65 (impl_colAfter.l6 k S65 n6) n x.1.1 x.1.2.1 x.1.2.2.1 x.1.2.2.2.2.1 x.1.2.2.2.2.2.1 x.1.2.2.2.2.2.2.2.1 x.1.2.2.2.2.2.2.2.2 x.2) _ (fun _ => rfl) (fun n10 => Snd.exec hc _ _ _ _) (fun n x => by kernel_rfl) k)) (Snd.exec hc _ _ _ _))) (Snd.exec hc _ _ _ _)))) (Snd.exec hc _ _ _ _)) (Snd.exec hc _ _ _ _)) (fun n x => by kernel_rfl) k)) (Snd.exec hc _ _ _ _))) (Snd.exec hc _ _ _ _)) (Snd.exec hc _ _ _ _)) (Snd.exec hc _ _ _ _)) (Snd.exec hc _ _ _ _))
    (fun x => by kernel_rfl)
theorem f65rec (k : Nat) : ∀ d, FnOk Tryz.prog 65 (f65con (impl_colAfter.d k d))
  | 0 => FnOk_none (fun _ => rfl)
  | d + 1 => let ih := f65rec k d
    f65okb k (impl_colAfter.d k d) ih
theorem f65ok (k : Nat) : FnOk Tryz.prog 65 (f65con (impl_colAfter k)) := (f65rec k k)

def f28in : SS := ⟨[(0, (.ro (.list 60 (.st (.cons .str (.cons (.int .i64) (.cons (.int .i64) (.cons (.int .i64) .nil))))))))], []⟩
def f28out : SS := ⟨[(0, (.ro .bool))], []⟩
def f28con (F : (List TCol) → Option Bool) : Con := ⟨f28in, f28out, 1, 1, fun x => F x⟩
def f28ctx (k : Nat) : Ctx := ⟨tyAt tys, conAt [(29, [f29con (impl_within k)]), (65, [f65con (impl_colAfter k)])], 33, fun _ => false⟩
theorem f28hc (k : Nat) : CtxOk Tryz.prog (f28ctx k) := ctxOk tys_ok mixed_ok (consOk_cons (f29ok k) (consOk_cons (f65ok k) (consOk_nil)))
theorem f28ok (k : Nat) : FnOk Tryz.prog 28 (f28con (impl_SchemaOk k)) :=
  let hc := f28hc k
  fnOk (fn := Tryz.f28) (code := bodyOf Tryz.f28) (res := [.tmp 2]) hc (by kernel_rfl) (by kernel_rfl) (by decide) (by kernel_rfl) (by kernel_rfl) (by kernel_rfl) (Nat.le_of_ble_eq_true (by kernel_rfl)) _
    (fun x => Snd.exec hc _ _ _ _)
    (fun x => by kernel_rfl)

def f30in : SS := ⟨[(0, (.ro (.list 60 (.st (.cons .str (.cons (.int .i64) (.cons (.int .i64) (.cons (.int .i64) .nil))))))))], []⟩
def f30out : SS := ⟨[(0, (.h 100))], [(100, (.sl 3 (.int .i64)))]⟩
def f30s7 : SS := ⟨[(3, (.h 100)), (7, (.ro (.list 60 (.st (.cons .str (.cons (.int .i64) (.cons (.int .i64) (.cons (.int .i64) .nil)))))))), (8, (.ro (.int .i64))), (9, (.ro (.int .i64)))], [(100, (.sl 3 (.int .i64)))]⟩
def f30s3 : SS := ⟨[(3, (.h 100)), (7, (.ro (.list 60 (.st (.cons .str (.cons (.int .i64) (.cons (.int .i64) (.cons (.int .i64) .nil)))))))), (8, (.ro (.int .i64))), (9, (.ro (.int .i64)))], [(100, (.sl 3 (.int .i64)))]⟩
def f30con (F : (List TCol) → Option (Unit × (List Int))) : Con := ⟨f30in, f30out, 1, 1, fun x => F x⟩
def f30ctx (k : Nat) : Ctx := ⟨tyAt tys, conAt [], 23, fun _ => false⟩
theorem f30hc (k : Nat) : CtxOk Tryz.prog (f30ctx k) := ctxOk tys_ok mixed_ok (consOk_nil)
theorem f30ok (k : Nat) : FnOk Tryz.prog 30 (f30con (impl_leavesOf k)) :=
  let hc := f30hc k
  fnOk (fn := Tryz.f30) (code := bodyOf Tryz.f30) (res := [.tmp 2]) hc (by kernel_rfl) (by kernel_rfl) (by decide) (by kernel_rfl) (by kernel_rfl) (by kernel_rfl) (Nat.le_of_ble_eq_true (by kernel_rfl)) _
    (fun x => Snd.seq (by kernel_rfl) (Snd.seq (by kernel_rfl) (Snd.seq (by kernel_rfl) (Snd.exec hc _ _ _ _) (Snd.seq (by kernel_rfl) (Snd.block (id := 0) (by kernel_rfl) (Snd.loop' (by kernel_rfl) f30s3 (fun n x => impl_leavesOf.l3 k n x.1.2.1 x.1.2.2.1 x.1.2.2.2 x.2) _ (fun _ => rfl) (fun n3 => Snd.seq (by kernel_rfl) (Snd.seq (by kernel_rfl) (Snd.seq (by kernel_rfl) (Snd.cut (Snd.exec hc _ _ _ _) ⟨f30s7, fun x => impl_leavesOf.c7 k (impl_leavesOf.l3 k n3) x.1.2.1 x.1.2.2.1 x.1.2.2.2 x.2⟩ (fun x => by kernel_rfl)) (Snd.exec hc _ _ _ _)) (Snd.exec hc _ _ _ _)) (Snd.exec hc _ _ _ _)) (fun n x => by kernel_rfl) k)) (Snd.exec hc _ _ _ _))) (Snd.exec hc _ _ _ _)) (Snd.exec hc _ _ _ _))
    (fun x => by kernel_rfl)

def f66in : SS := ⟨[(0, (.ro (.list 3 (.int .i64))))], []⟩
def f66out : SS := ⟨[(0, (.ro .bool))], []⟩
def f66s2 : SS := ⟨[(0, (.ro (.list 3 (.int .i64)))), (5, (.ro (.list 3 (.int .i64)))), (6, (.ro (.int .i64))), (7, (.ro (.int .i64)))], []⟩
def f66con (F : (List Int) → Option Bool) : Con := ⟨f66in, f66out, 1, 1, fun x => F x⟩
def f66ctx (k : Nat) : Ctx := ⟨tyAt tys, conAt [(29, [f29con (impl_within k)])], 32, fun _ => false⟩
theorem f66hc (k : Nat) : CtxOk Tryz.prog (f66ctx k) := ctxOk tys_ok mixed_ok (consOk_cons (f29ok k) (consOk_nil))
theorem f66ok (k : Nat) : FnOk Tryz.prog 66 (f66con (impl_encsRight k)) :=
  let hc := f66hc k
  fnOk (fn := Tryz.f66) (code := bodyOf Tryz.f66) (res := [.tmp 2]) hc (by kernel_rfl) (by kernel_rfl) (by decide) (by kernel_rfl) (by kernel_rfl) (by kernel_rfl) (Nat.le_of_ble_eq_true (by kernel_rfl)) _
    (fun x => Snd.seq (by kernel_rfl) (Snd.seq (by kernel_rfl) (Snd.exec hc _ _ _ _) (Snd.seq (by kernel_rfl) (Snd.block (id := 0) (by kernel_rfl) (Snd.loop' (by kernel_rfl) f66s2 (fun n x => impl_encsRight.l2 k n x.1 x.2.1 x.2.2.1 x.2.2.2) _ (fun _ => rfl) (fun n2 => Snd.exec hc _ _ _ _) (fun n x => by kernel_rfl) k)) (Snd.exec hc _ _ _ _))) (Snd.exec hc _ _ _ _))
    (fun x => by kernel_rfl)

def f31in : SS := ⟨[(0, (.ro (.st (.cons (.int .i64) (.cons (.int .i64) (.cons (.int .i64) (.cons (.int .i64) (.cons (.int .i64) (.cons (.list 3 (.int .i64)) .nil))))))))), (1, (.ro (.int .i64)))], []⟩
def f31out : SS := ⟨[(0, (.ro .bool))], []⟩
def f31con (F : TChunk → Int → Option Bool) : Con := ⟨f31in, f31out, 2, 1, fun x => F x.1 x.2⟩
def f31ctx (k : Nat) : Ctx := ⟨tyAt tys, conAt [(29, [f29con (impl_within k)]), (66, [f66con (impl_encsRight k)])], 36, fun _ => false⟩
theorem f31hc (k : Nat) : CtxOk Tryz.prog (f31ctx k) := ctxOk tys_ok mixed_ok (consOk_cons (f29ok k) (consOk_cons (f66ok k) (consOk_nil)))
theorem f31ok (k : Nat) : FnOk Tryz.prog 31 (f31con (impl_chunkOk k)) :=
  let hc := f31hc k
  fnOk (fn := Tryz.f31) (code := bodyOf Tryz.f31) (res := [.tmp 4]) hc (by kernel_rfl) (by kernel_rfl) (by decide) (by kernel_rfl) (by kernel_rfl) (by kernel_rfl) (Nat.le_of_ble_eq_true (by kernel_rfl)) _
    (fun x => Snd.exec hc _ _ _ _)
    (fun x => by kernel_rfl)

def f11in : SS := ⟨[(0, (.ro (.st (.cons (.list 60 (.st (.cons .str (.cons (.int .i64) (.cons (.int .i64) (.cons (.int .i64) .nil)))))) (.cons (.int .i64) (.cons (.list 37 (.st (.cons (.int .i64) (.cons (.list 40 (.st (.cons (.int .i64) (.cons (.int .i64) (.cons (.int .i64) (.cons (.int .i64) (.cons (.int .i64) (.cons (.list 3 (.int .i64)) .nil)))))))) .nil)))) .nil))))))], []⟩
def f11out : SS := ⟨[(0, (.ro .bool))], []⟩
def f11s10 : SS := ⟨[(1, (.p 100)), (3, (.ro (.int .i64))), (5, (.p 101)), (19, (.ro (.list 37 (.st (.cons (.int .i64) (.cons (.list 40 (.st (.cons (.int .i64) (.cons (.int .i64) (.cons (.int .i64) (.cons (.int .i64) (.cons (.int .i64) (.cons (.list 3 (.int .i64)) .nil)))))))) .nil)))))), (20, (.ro (.int .i64))), (21, (.ro (.int .i64))), (40, (.ro (.list 40 (.st (.cons (.int .i64) (.cons (.int .i64) (.cons (.int .i64) (.cons (.int .i64) (.cons (.int .i64) (.cons (.list 3 (.int .i64)) .nil)))))))))), (41, (.ro (.int .i64))), (42, (.ro (.int .i64)))], [(100, (.box (.st (.cons (.list 60 (.st (.cons .str (.cons (.int .i64) (.cons (.int .i64) (.cons (.int .i64) .nil)))))) (.cons (.int .i64) (.cons (.list 37 (.st (.cons (.int .i64) (.cons (.list 40 (.st (.cons (.int .i64) (.cons (.int .i64) (.cons (.int .i64) (.cons (.int .i64) (.cons (.int .i64) (.cons (.list 3 (.int .i64)) .nil)))))))) .nil)))) .nil)))) (.agg (.cons (.ro (.list 60 (.st (.cons .str (.cons (.int .i64) (.cons (.int .i64) (.cons (.int .i64) .nil))))))) (.cons (.ro (.int .i64)) (.cons (.ro (.list 37 (.st (.cons (.int .i64) (.cons (.list 40 (.st (.cons (.int .i64) (.cons (.int .i64) (.cons (.int .i64) (.cons (.int .i64) (.cons (.int .i64) (.cons (.list 3 (.int .i64)) .nil)))))))) .nil))))) .nil)))))), (101, (.box (.st (.cons (.int .i64) (.cons (.list 40 (.st (.cons (.int .i64) (.cons (.int .i64) (.cons (.int .i64) (.cons (.int .i64) (.cons (.int .i64) (.cons (.list 3 (.int .i64)) .nil)))))))) .nil))) (.agg (.cons (.ro (.int .i64)) (.cons (.ro (.list 40 (.st (.cons (.int .i64) (.cons (.int .i64) (.cons (.int .i64) (.cons (.int .i64) (.cons (.int .i64) (.cons (.list 3 (.int .i64)) .nil))))))))) .nil)))))]⟩
def f11d7 : SS := ⟨[(1, (.p 100)), (3, (.ro (.int .i64))), (5, (.p 101)), (19, (.ro (.list 37 (.st (.cons (.int .i64) (.cons (.list 40 (.st (.cons (.int .i64) (.cons (.int .i64) (.cons (.int .i64) (.cons (.int .i64) (.cons (.int .i64) (.cons (.list 3 (.int .i64)) .nil)))))))) .nil)))))), (20, (.ro (.int .i64))), (21, (.ro (.int .i64)))], [(100, (.box (.st (.cons (.list 60 (.st (.cons .str (.cons (.int .i64) (.cons (.int .i64) (.cons (.int .i64) .nil)))))) (.cons (.int .i64) (.cons (.list 37 (.st (.cons (.int .i64) (.cons (.list 40 (.st (.cons (.int .i64) (.cons (.int .i64) (.cons (.int .i64) (.cons (.int .i64) (.cons (.int .i64) (.cons (.list 3 (.int .i64)) .nil)))))))) .nil)))) .nil)))) (.agg (.cons (.ro (.list 60 (.st (.cons .str (.cons (.int .i64) (.cons (.int .i64) (.cons (.int .i64) .nil))))))) (.cons (.ro (.int .i64)) (.cons (.ro (.list 37 (.st (.cons (.int .i64) (.cons (.list 40 (.st (.cons (.int .i64) (.cons (.int .i64) (.cons (.int .i64) (.cons (.int .i64) (.cons (.int .i64) (.cons (.list 3 (.int .i64)) .nil)))))))) .nil))))) .nil)))))), (101, (.box (.st (.cons (.int .i64) (.cons (.list 40 (.st (.cons (.int .i64) (.cons (.int .i64) (.cons (.int .i64) (.cons (.int .i64) (.cons (.int .i64) (.cons (.list 3 (.int .i64)) .nil)))))))) .nil))) (.agg (.cons (.ro (.int .i64)) (.cons (.ro (.list 40 (.st (.cons (.int .i64) (.cons (.int .i64) (.cons (.int .i64) (.cons (.int .i64) (.cons (.int .i64) (.cons (.list 3 (.int .i64)) .nil))))))))) .nil)))))]⟩
def f11s5 : SS := ⟨[(1, (.p 100)), (3, (.ro (.int .i64))), (19, (.ro (.list 37 (.st (.cons (.int .i64) (.cons (.list 40 (.st (.cons (.int .i64) (.cons (.int .i64) (.cons (.int .i64) (.cons (.int .i64) (.cons (.int .i64) (.cons (.list 3 (.int .i64)) .nil)))))))) .nil)))))), (20, (.ro (.int .i64))), (21, (.ro (.int .i64)))], [(100, (.box (.st (.cons (.list 60 (.st (.cons .str (.cons (.int .i64) (.cons (.int .i64) (.cons (.int .i64) .nil)))))) (.cons (.int .i64) (.cons (.list 37 (.st (.cons (.int .i64) (.cons (.list 40 (.st (.cons (.int .i64) (.cons (.int .i64) (.cons (.int .i64) (.cons (.int .i64) (.cons (.int .i64) (.cons (.list 3 (.int .i64)) .nil)))))))) .nil)))) .nil)))) (.agg (.cons (.ro (.list 60 (.st (.cons .str (.cons (.int .i64) (.cons (.int .i64) (.cons (.int .i64) .nil))))))) (.cons (.ro (.int .i64)) (.cons (.ro (.list 37 (.st (.cons (.int .i64) (.cons (.list 40 (.st (.cons (.int .i64) (.cons (.int .i64) (.cons (.int .i64) (.cons (.int .i64) (.cons (.int .i64) (.cons (.list 3 (.int .i64)) .nil)))))))) .nil))))) .nil))))))]⟩
def f11con (F : TMeta → Option Bool) : Con := ⟨f11in, f11out, 1, 1, fun x => F x⟩
def f11ctx (k : Nat) : Ctx := ⟨tyAt tys, conAt [(28, [f28con (impl_SchemaOk k)]), (29, [f29con (impl_within k)]), (30, [f30con (impl_leavesOf k)]), (31, [f31con (impl_chunkOk k)])], 65, fun _ => false⟩
theorem f11hc (k : Nat) : CtxOk Tryz.prog (f11ctx k) := ctxOk tys_ok mixed_ok (consOk_cons (f28ok k) (consOk_cons (f29ok k) (consOk_cons (f30ok k) (consOk_cons (f31ok k) (consOk_nil)))))
theorem f11ok (k : Nat) : FnOk Tryz.prog 11 (f11con (impl_MetaOk k)) :=
  let hc := f11hc k
  fnOk (fn := Tryz.f11) (code := bodyOf Tryz.f11) (res := [.tmp 2]) hc (by kernel_rfl) (by kernel_rfl) (by decide) (by kernel_rfl) (by kernel_rfl) (by kernel_rfl) (Nat.le_of_ble_eq_true (by kernel_rfl)) _
    (fun x => Snd.seq (by kernel_rfl) (Snd.seq (by kernel_rfl) (Snd.seq (by kernel_rfl) (Snd.seq (by kernel_rfl) (Snd.exec hc _ _ _ _) (Snd.seq (by kernel_rfl) (Snd.block (id := 0) (by kernel_rfl) (Snd.loop' (by kernel_rfl) f11s5 (fun n x => impl_MetaOk.l5 k n x.1.2.1 x.1.2.2.1 x.1.2.2.2.1 x.1.2.2.2.2 x.2) _ (fun _ => rfl) (fun n5 => Snd.seq (by kernel_rfl) (Snd.seq (by kernel_rfl) (Snd.seq (by kernel_rfl) (Snd.exec hc _ _ _ _) (Snd.block (id := 1) (by kernel_rfl) (Snd.seq (by kernel_rfl) (Snd.seq (by kernel_rfl) (Snd.seq (by kernel_rfl) (Snd.exec hc _ _ _ _) (Snd.seq (by kernel_rfl) (Snd.block (id := 2) (by kernel_rfl) (Snd.loop' (by kernel_rfl) f11s10 (fun n x => impl_MetaOk.l10 k (impl_MetaOk.l5 k n5) n x.1.2.1 x.1.2.2.2.1 x.1.2.2.2.2.1 x.1.2.2.2.2.2.1 x.1.2.2.2.2.2.2.1 x.1.2.2.2.2.2.2.2.1 x.1.2.2.2.2.2.2.2.2 x.2.1 x.2.2) _ (fun _ => rfl) (fun n10 => Snd.exec hc _ _ _ _) (fun n x => by kernel_rfl) k)) (Snd.exec hc _ _ _ _))) (Snd.seq (by kernel_rfl) (Snd.exec hc _ _ _ _) (Snd.fork hc (id := 7) (by kernel_rfl) ⟨f11d7, fun x => impl_MetaOk.d7 k (impl_MetaOk.l5 k n5) x.1.2.1 x.1.2.2.2.1 x.1.2.2.2.2.1 x.1.2.2.2.2.2 x.2.1 x.2.2⟩ [[0, 1, 2, 3, 4, 5, 8, 9, 6, 7, 10, 11, 12, 13], [0, 1, 2, 3, 4, 5, 8, 9, 10, 6, 7, 11, 12, 13]] (by kernel_rfl) (ords_cons (fun x => by kernel_rfl) (ords_cons (fun x => by kernel_rfl) (ords_nil)))))) (Snd.exec hc _ _ _ _)))) (Snd.exec hc _ _ _ _)) (Snd.exec hc _ _ _ _)) (fun n x => by kernel_rfl) k)) (Snd.exec hc _ _ _ _))) (Snd.exec hc _ _ _ _)) (Snd.exec hc _ _ _ _)) (Snd.exec hc _ _ _ _))
    (fun x => by kernel_rfl)

def f127in : SS := ⟨[(0, (.ro (.st (.cons (.int .i64) (.cons (.int .i64) (.cons (.int .i64) (.cons .str (.cons (.int .i64) .nil))))))))], []⟩
def f127out : SS := ⟨[(0, (.ro .bool))], []⟩
def f127con (F : TNode → Option Bool) : Con := ⟨f127in, f127out, 1, 1, fun x => F x⟩
def f127ctx (k : Nat) : Ctx := ⟨tyAt tys, conAt [(100, [f100con (impl_isInt32 k)]), (136, [f136con (impl_isType k)])], 109, fun _ => false⟩
theorem f127hc (k : Nat) : CtxOk Tryz.prog (f127ctx k) := ctxOk tys_ok mixed_ok (consOk_cons (f100ok k) (consOk_cons (f136ok k) (consOk_nil)))
theorem f127ok (k : Nat) : FnOk Tryz.prog 127 (f127con (impl_nodeOk k)) :=
  let hc := f127hc k
  fnOk (fn := Tryz.f127) (code := bodyOf Tryz.f127) (res := [.tmp 2]) hc (by kernel_rfl) (by kernel_rfl) (by decide) (by kernel_rfl) (by kernel_rfl) (by kernel_rfl) (Nat.le_of_ble_eq_true (by kernel_rfl)) _
    (fun x => Snd.exec hc _ _ _ _)
    (fun x => by kernel_rfl)

def f85in : SS := ⟨[(0, (.p 0)), (1, (.ro (.int .i64))), (2, (.ro (.int .i64)))], [(0, (.obox (.st (.cons (.list 78 (.st (.cons (.int .i64) (.cons (.int .i64) (.cons (.int .i64) (.cons .str (.cons (.int .i64) .nil))))))) (.cons (.list 3 (.int .i64)) .nil))) (.agg (.cons (.ro (.list 78 (.st (.cons (.int .i64) (.cons (.int .i64) (.cons (.int .i64) (.cons .str (.cons (.int .i64) .nil)))))))) (.cons (.h 10) .nil))))), (10, (.sl 3 (.int .i64)))]⟩
def f85out : SS := ⟨[(0, (.ro (.int .i64)))], [(0, (.box (.st (.cons (.list 78 (.st (.cons (.int .i64) (.cons (.int .i64) (.cons (.int .i64) (.cons .str (.cons (.int .i64) .nil))))))) (.cons (.list 3 (.int .i64)) .nil))) (.agg (.cons (.ro (.list 78 (.st (.cons (.int .i64) (.cons (.int .i64) (.cons (.int .i64) (.cons .str (.cons (.int .i64) .nil)))))))) (.cons (.h 10) .nil))))), (10, (.sl 3 (.int .i64)))]⟩
def f85s7 : SS := ⟨[(0, (.p 0)), (1, (.ro (.int .i64))), (2, (.ro (.int .i64))), (7, (.p 100)), (8, (.ro (.int .i64))), (9, (.ro (.int .i64))), (43, (.ro (.int .i64))), (44, (.ro (.int .i64)))], [(0, (.box (.st (.cons (.list 78 (.st (.cons (.int .i64) (.cons (.int .i64) (.cons (.int .i64) (.cons .str (.cons (.int .i64) .nil))))))) (.cons (.list 3 (.int .i64)) .nil))) (.agg (.cons (.ro (.list 78 (.st (.cons (.int .i64) (.cons (.int .i64) (.cons (.int .i64) (.cons .str (.cons (.int .i64) .nil)))))))) (.cons (.h 10) .nil))))), (10, (.sl 3 (.int .i64))), (100, (.box (.st (.cons (.int .i64) (.cons (.int .i64) (.cons (.int .i64) (.cons .str (.cons (.int .i64) .nil)))))) (.agg (.cons (.ro (.int .i64)) (.cons (.ro (.int .i64)) (.cons (.ro (.int .i64)) (.cons (.ro .str) (.cons (.ro (.int .i64)) .nil))))))))]⟩
def f85con (F : Int → Int → (Bool × TTreeB) → (List Int) → Option (Int × TTreeB × (List Int))) : Con := ⟨f85in, f85out, 3, 1, fun x => F x.1.2.1 x.1.2.2 x.2.1 x.2.2⟩
def f85ctx (k : Nat) (S85 : Int → Int → (Bool × TTreeB) → (List Int) → Option (Int × TTreeB × (List Int))) : Ctx := ⟨tyAt tys, conAt [(29, [f29con (impl_within k)]), (85, [f85con S85]), (127, [f127con (impl_nodeOk k)])], 104, fun _ => false⟩
theorem f85hc (k : Nat) (S85 : Int → Int → (Bool × TTreeB) → (List Int) → Option (Int × TTreeB × (List Int))) (h85 : FnOk Tryz.prog 85 (f85con S85)) : CtxOk Tryz.prog (f85ctx k S85) := ctxOk tys_ok mixed_ok (consOk_cons (f29ok k) (consOk_cons (h85) (consOk_cons (f127ok k) (consOk_nil))))
theorem f85okb (k : Nat) (S85 : Int → Int → (Bool × TTreeB) → (List Int) → Option (Int × TTreeB × (List Int))) (h85 : FnOk Tryz.prog 85 (f85con S85)) : FnOk Tryz.prog 85 (f85con (impl_tree_measure.b k S85)) :=
  let hc := f85hc k S85 h85
  fnOk (fn := Tryz.f85) (code := bodyOf Tryz.f85) (res := [.tmp 6]) hc (by kernel_rfl) (by kernel_rfl) (by decide) (by kernel_rfl) (by kernel_rfl) (by kernel_rfl) (Nat.le_of_ble_eq_true (by kernel_rfl)) _
    (fun x => Snd.seq (by kernel_rfl) (Snd.seq (by kernel_rfl) (Snd.seq (by kernel_rfl) (Snd.seq (by kernel_rfl) (Snd.seq (by kernel_rfl) (Snd.seq (by kernel_rfl) (Snd.exec hc _ _ _ _) (Snd.seq (by kernel_rfl) (Snd.block (id := 0) (by kernel_rfl) (Snd.loop' (by kernel_rfl) f85s7 (fun n x => impl_tree_measure.l7 k S85 n x.1.2.1 x.1.2.2.1 x.1.2.2.2.2.1 x.1.2.2.2.2.2.1 x.1.2.2.2.2.2.2.1 x.1.2.2.2.2.2.2.2 x.2.1 x.2.2.1 x.2.2.2) _ (fun _ => rfl) (fun n7 => Snd.exec hc _ _ _ _) (fun n x => by kernel_rfl) k)) (Snd.exec hc _ _ _ _))) (Snd.exec hc _ _ _ _)) (Snd.exec hc _ _ _ _)) (Snd.exec hc _ _ _ _)) (Snd.exec hc _ _ _ _)) (Snd.exec hc _ _ _ _))
    (fun x => by kernel_rfl)
theorem f85rec (k : Nat) : ∀ d, FnOk Tryz.prog 85 (f85con (impl_tree_measure.d k d))
  | 0 => FnOk_none (fun _ => rfl)
  | d + 1 => let ih := f85rec k d
    f85okb k (impl_tree_measure.d k d) ih
theorem f85ok (k : Nat) : FnOk Tryz.prog 85 (f85con (impl_tree_measure k)) := (f85rec k k)

def f51in : SS := ⟨[(0, (.ro (.list 78 (.st (.cons (.int .i64) (.cons (.int .i64) (.cons (.int .i64) (.cons .str (.cons (.int .i64) .nil)))))))))], []⟩
def f51out : SS := ⟨[(0, (.p 100)), (1, (.ro .bool))], [(100, (.obox (.st (.cons (.list 78 (.st (.cons (.int .i64) (.cons (.int .i64) (.cons (.int .i64) (.cons .str (.cons (.int .i64) .nil))))))) (.cons (.list 3 (.int .i64)) .nil))) (.agg (.cons (.ro (.list 78 (.st (.cons (.int .i64) (.cons (.int .i64) (.cons (.int .i64) (.cons .str (.cons (.int .i64) .nil)))))))) (.cons (.h 101) .nil))))), (101, (.sl 3 (.int .i64)))]⟩
def f51con (F : (List TNode) → Option ((Unit × Bool) × (Bool × TTreeB) × (List Int))) : Con := ⟨f51in, f51out, 1, 2, fun x => F x⟩
def f51ctx (k : Nat) : Ctx := ⟨tyAt tys, conAt [(29, [f29con (impl_within k)]), (85, [f85con (impl_tree_measure k)])], 35, fun s => Nat.beq s 27⟩
theorem f51hc (k : Nat) : CtxOk Tryz.prog (f51ctx k) := ctxOk tys_ok mixed_ok (consOk_cons (f29ok k) (consOk_cons (f85ok k) (consOk_nil)))
theorem f51ok (k : Nat) : FnOk Tryz.prog 51 (f51con (impl_treeOf k)) :=
  let hc := f51hc k
  fnOk (fn := Tryz.f51) (code := bodyOf Tryz.f51) (res := [.tmp 2, .tmp 3]) hc (by kernel_rfl) (by kernel_rfl) (by decide) (by kernel_rfl) (by kernel_rfl) (by kernel_rfl) (Nat.le_of_ble_eq_true (by kernel_rfl)) _
    (fun x => Snd.exec hc _ _ _ _)
    (fun x => by kernel_rfl)

def f137in : SS := ⟨[(0, (.p 0)), (1, (.ro (.int .i64))), (2, (.ro (.int .i64)))], [(0, (.obox (.st (.cons (.list 78 (.st (.cons (.int .i64) (.cons (.int .i64) (.cons (.int .i64) (.cons .str (.cons (.int .i64) .nil))))))) (.cons (.list 3 (.int .i64)) .nil))) (.agg (.cons (.ro (.list 78 (.st (.cons (.int .i64) (.cons (.int .i64) (.cons (.int .i64) (.cons .str (.cons (.int .i64) .nil)))))))) (.cons (.h 10) .nil))))), (10, (.sl 3 (.int .i64)))]⟩
def f137out : SS := ⟨[(0, (.ro (.int .i64)))], [(0, (.box (.st (.cons (.list 78 (.st (.cons (.int .i64) (.cons (.int .i64) (.cons (.int .i64) (.cons .str (.cons (.int .i64) .nil))))))) (.cons (.list 3 (.int .i64)) .nil))) (.agg (.cons (.ro (.list 78 (.st (.cons (.int .i64) (.cons (.int .i64) (.cons (.int .i64) (.cons .str (.cons (.int .i64) .nil)))))))) (.cons (.h 10) .nil))))), (10, (.sl 3 (.int .i64)))]⟩
def f137s5 : SS := ⟨[(0, (.p 0)), (2, (.ro (.int .i64))), (7, (.ro (.int .i64))), (37, (.ro (.int .i64))), (38, (.ro (.int .i64)))], [(0, (.box (.st (.cons (.list 78 (.st (.cons (.int .i64) (.cons (.int .i64) (.cons (.int .i64) (.cons .str (.cons (.int .i64) .nil))))))) (.cons (.list 3 (.int .i64)) .nil))) (.agg (.cons (.ro (.list 78 (.st (.cons (.int .i64) (.cons (.int .i64) (.cons (.int .i64) (.cons .str (.cons (.int .i64) .nil)))))))) (.cons (.h 10) .nil))))), (10, (.sl 3 (.int .i64)))]⟩
def f137con (F : Int → Int → (Bool × TTreeB) → (List Int) → Option (Int × TTreeB × (List Int))) : Con := ⟨f137in, f137out, 3, 1, fun x => F x.1.2.1 x.1.2.2 x.2.1 x.2.2⟩
def f137ctx (k : Nat) : Ctx := ⟨tyAt tys, conAt [(29, [f29con (impl_within k)])], 59, fun _ => false⟩
theorem f137hc (k : Nat) : CtxOk Tryz.prog (f137ctx k) := ctxOk tys_ok mixed_ok (consOk_cons (f29ok k) (consOk_nil))
theorem f137ok (k : Nat) : FnOk Tryz.prog 137 (f137con (impl_tree_find k)) :=
  let hc := f137hc k
  fnOk (fn := Tryz.f137) (code := bodyOf Tryz.f137) (res := [.tmp 6]) hc (by kernel_rfl) (by kernel_rfl) (by decide) (by kernel_rfl) (by kernel_rfl) (by kernel_rfl) (Nat.le_of_ble_eq_true (by kernel_rfl)) _
    (fun x => Snd.seq (by kernel_rfl) (Snd.seq (by kernel_rfl) (Snd.seq (by kernel_rfl) (Snd.seq (by kernel_rfl) (Snd.exec hc _ _ _ _) (Snd.seq (by kernel_rfl) (Snd.block (id := 0) (by kernel_rfl) (Snd.loop' (by kernel_rfl) f137s5 (fun n x => impl_tree_find.l5 k n x.1.2.1 x.1.2.2.1 x.1.2.2.2.1 x.1.2.2.2.2 x.2.1 x.2.2) _ (fun _ => rfl) (fun n5 => Snd.exec hc _ _ _ _) (fun n x => by kernel_rfl) k)) (Snd.exec hc _ _ _ _))) (Snd.exec hc _ _ _ _)) (Snd.exec hc _ _ _ _)) (Snd.exec hc _ _ _ _))
    (fun x => by kernel_rfl)

def f105in : SS := ⟨[(0, (.p 0)), (1, (.ro (.int .i64))), (2, (.ro (.int .i64))), (3, (.ro (.int .i64)))], [(0, (.obox (.st (.cons (.list 78 (.st (.cons (.int .i64) (.cons (.int .i64) (.cons (.int .i64) (.cons .str (.cons (.int .i64) .nil))))))) (.cons (.list 3 (.int .i64)) .nil))) (.agg (.cons (.ro (.list 78 (.st (.cons (.int .i64) (.cons (.int .i64) (.cons (.int .i64) (.cons .str (.cons (.int .i64) .nil)))))))) (.cons (.h 10) .nil))))), (10, (.sl 3 (.int .i64)))]⟩
def f105out : SS := ⟨[(0, (.h 100)), (1, (.ro .bool))], [(0, (.box (.st (.cons (.list 78 (.st (.cons (.int .i64) (.cons (.int .i64) (.cons (.int .i64) (.cons .str (.cons (.int .i64) .nil))))))) (.cons (.list 3 (.int .i64)) .nil))) (.agg (.cons (.ro (.list 78 (.st (.cons (.int .i64) (.cons (.int .i64) (.cons (.int .i64) (.cons .str (.cons (.int .i64) .nil)))))))) (.cons (.h 10) .nil))))), (10, (.sl 3 (.int .i64))), (100, (.sl 3 (.int .i64)))]⟩
def f105s7 : SS := ⟨[(0, (.p 0)), (11, (.h 100)), (12, (.ro (.int .i64))), (63, (.ro (.int .i64))), (64, (.ro (.int .i64)))], [(0, (.box (.st (.cons (.list 78 (.st (.cons (.int .i64) (.cons (.int .i64) (.cons (.int .i64) (.cons .str (.cons (.int .i64) .nil))))))) (.cons (.list 3 (.int .i64)) .nil))) (.agg (.cons (.ro (.list 78 (.st (.cons (.int .i64) (.cons (.int .i64) (.cons (.int .i64) (.cons .str (.cons (.int .i64) .nil)))))))) (.cons (.h 10) .nil))))), (10, (.sl 3 (.int .i64))), (100, (.sl 3 (.int .i64)))]⟩
def f105con (F : Int → Int → Int → (Bool × TTreeB) → (List Int) → Option ((Unit × Bool) × TTreeB × (List Int) × (List Int))) : Con := ⟨f105in, f105out, 4, 2, fun x => F x.1.2.1 x.1.2.2.1 x.1.2.2.2 x.2.1 x.2.2⟩
def f105ctx (k : Nat) : Ctx := ⟨tyAt tys, conAt [(137, [f137con (impl_tree_find k)])], 79, fun _ => false⟩
theorem f105hc (k : Nat) : CtxOk Tryz.prog (f105ctx k) := ctxOk tys_ok mixed_ok (consOk_cons (f137ok k) (consOk_nil))
theorem f105ok (k : Nat) : FnOk Tryz.prog 105 (f105con (impl_tree_parts k)) :=
  let hc := f105hc k
  fnOk (fn := Tryz.f105) (code := bodyOf Tryz.f105) (res := [.tmp 8, .tmp 9]) hc (by kernel_rfl) (by kernel_rfl) (by decide) (by kernel_rfl) (by kernel_rfl) (by kernel_rfl) (Nat.le_of_ble_eq_true (by kernel_rfl)) _
    (fun x => Snd.seq (by kernel_rfl) (Snd.seq (by kernel_rfl) (Snd.seq (by kernel_rfl) (Snd.seq (by kernel_rfl) (Snd.seq (by kernel_rfl) (Snd.seq (by kernel_rfl) (Snd.exec hc _ _ _ _) (Snd.seq (by kernel_rfl) (Snd.block (id := 0) (by kernel_rfl) (Snd.loop' (by kernel_rfl) f105s7 (fun n x => impl_tree_parts.l7 k n x.1.2.2.1 x.1.2.2.2.1 x.1.2.2.2.2 x.2.1 x.2.2.1 x.2.2.2) _ (fun _ => rfl) (fun n7 => Snd.exec hc _ _ _ _) (fun n x => by kernel_rfl) k)) (Snd.exec hc _ _ _ _))) (Snd.exec hc _ _ _ _)) (Snd.exec hc _ _ _ _)) (Snd.exec hc _ _ _ _)) (Snd.exec hc _ _ _ _)) (Snd.exec hc _ _ _ _))
    (fun x => by kernel_rfl)

def f107in : SS := ⟨[(0, (.p 0)), (1, (.ro (.int .i64))), (2, (.ro (.int .i64)))], [(0, (.obox (.st (.cons (.list 78 (.st (.cons (.int .i64) (.cons (.int .i64) (.cons (.int .i64) (.cons .str (.cons (.int .i64) .nil))))))) (.cons (.list 3 (.int .i64)) .nil))) (.agg (.cons (.ro (.list 78 (.st (.cons (.int .i64) (.cons (.int .i64) (.cons (.int .i64) (.cons .str (.cons (.int .i64) .nil)))))))) (.cons (.h 10) .nil))))), (10, (.sl 3 (.int .i64)))]⟩
def f107out : SS := ⟨[(0, (.ro (.int .i64))), (1, (.ro .bool))], [(0, (.box (.st (.cons (.list 78 (.st (.cons (.int .i64) (.cons (.int .i64) (.cons (.int .i64) (.cons .str (.cons (.int .i64) .nil))))))) (.cons (.list 3 (.int .i64)) .nil))) (.agg (.cons (.ro (.list 78 (.st (.cons (.int .i64) (.cons (.int .i64) (.cons (.int .i64) (.cons .str (.cons (.int .i64) .nil)))))))) (.cons (.h 10) .nil))))), (10, (.sl 3 (.int .i64)))]⟩
def f107con (F : Int → Int → (Bool × TTreeB) → (List Int) → Option ((Int × Bool) × TTreeB × (List Int))) : Con := ⟨f107in, f107out, 3, 2, fun x => F x.1.2.1 x.1.2.2 x.2.1 x.2.2⟩
def f107ctx (k : Nat) : Ctx := ⟨tyAt tys, conAt [(137, [f137con (impl_tree_find k)])], 45, fun _ => false⟩
theorem f107hc (k : Nat) : CtxOk Tryz.prog (f107ctx k) := ctxOk tys_ok mixed_ok (consOk_cons (f137ok k) (consOk_nil))
theorem f107ok (k : Nat) : FnOk Tryz.prog 107 (f107con (impl_tree_num k)) :=
  let hc := f107hc k
  fnOk (fn := Tryz.f107) (code := bodyOf Tryz.f107) (res := [.tmp 6, .tmp 7]) hc (by kernel_rfl) (by kernel_rfl) (by decide) (by kernel_rfl) (by kernel_rfl) (by kernel_rfl) (Nat.le_of_ble_eq_true (by kernel_rfl)) _
    (fun x => Snd.exec hc _ _ _ _)
    (fun x => by kernel_rfl)

def f138in : SS := ⟨[(0, (.p 0)), (1, (.ro (.int .i64))), (2, (.ro (.int .i64))), (3, (.ro (.int .i64)))], [(0, (.obox (.st (.cons (.list 78 (.st (.cons (.int .i64) (.cons (.int .i64) (.cons (.int .i64) (.cons .str (.cons (.int .i64) .nil))))))) (.cons (.list 3 (.int .i64)) .nil))) (.agg (.cons (.ro (.list 78 (.st (.cons (.int .i64) (.cons (.int .i64) (.cons (.int .i64) (.cons .str (.cons (.int .i64) .nil)))))))) (.cons (.h 10) .nil))))), (10, (.sl 3 (.int .i64)))]⟩
def f138out : SS := ⟨[(0, (.agg (.cons (.ro (.int .i64)) (.cons (.ro (.int .i64)) (.cons (.ro (.int .i64)) (.cons (.ro .str) (.cons (.ro (.int .i64)) .nil))))))), (1, (.ro .bool))], [(0, (.box (.st (.cons (.list 78 (.st (.cons (.int .i64) (.cons (.int .i64) (.cons (.int .i64) (.cons .str (.cons (.int .i64) .nil))))))) (.cons (.list 3 (.int .i64)) .nil))) (.agg (.cons (.ro (.list 78 (.st (.cons (.int .i64) (.cons (.int .i64) (.cons (.int .i64) (.cons .str (.cons (.int .i64) .nil)))))))) (.cons (.h 10) .nil))))), (10, (.sl 3 (.int .i64)))]⟩
def f138con (F : Int → Int → Int → (Bool × TTreeB) → (List Int) → Option ((TNode × Bool) × TTreeB × (List Int))) : Con := ⟨f138in, f138out, 4, 2, fun x => F x.1.2.1 x.1.2.2.1 x.1.2.2.2 x.2.1 x.2.2⟩
def f138ctx (k : Nat) : Ctx := ⟨tyAt tys, conAt [(137, [f137con (impl_tree_find k)])], 37, fun _ => false⟩
theorem f138hc (k : Nat) : CtxOk Tryz.prog (f138ctx k) := ctxOk tys_ok mixed_ok (consOk_cons (f137ok k) (consOk_nil))
theorem f138ok (k : Nat) : FnOk Tryz.prog 138 (f138con (impl_tree_part k)) :=
  let hc := f138hc k
  fnOk (fn := Tryz.f138) (code := bodyOf Tryz.f138) (res := [.cell 8 78, .tmp 9]) hc (by kernel_rfl) (by kernel_rfl) (by decide) (by kernel_rfl) (by kernel_rfl) (by kernel_rfl) (Nat.le_of_ble_eq_true (by kernel_rfl)) _
    (fun x => Snd.exec hc _ _ _ _)
    (fun x => by kernel_rfl)

def f106in : SS := ⟨[(0, (.p 0)), (1, (.ro (.int .i64))), (2, (.ro .bool))], [(0, (.obox (.st (.cons (.list 78 (.st (.cons (.int .i64) (.cons (.int .i64) (.cons (.int .i64) (.cons .str (.cons (.int .i64) .nil))))))) (.cons (.list 3 (.int .i64)) .nil))) (.agg (.cons (.ro (.list 78 (.st (.cons (.int .i64) (.cons (.int .i64) (.cons (.int .i64) (.cons .str (.cons (.int .i64) .nil)))))))) (.cons (.h 10) .nil))))), (10, (.sl 3 (.int .i64)))]⟩
def f106out : SS := ⟨[(0, (.agg (.cons (.ro .str) (.cons (.ro (.int .i64)) (.cons (.ro (.int .i64)) (.cons (.ro (.int .i64)) .nil)))))), (1, (.ro .bool))], [(0, (.box (.st (.cons (.list 78 (.st (.cons (.int .i64) (.cons (.int .i64) (.cons (.int .i64) (.cons .str (.cons (.int .i64) .nil))))))) (.cons (.list 3 (.int .i64)) .nil))) (.agg (.cons (.ro (.list 78 (.st (.cons (.int .i64) (.cons (.int .i64) (.cons (.int .i64) (.cons .str (.cons (.int .i64) .nil)))))))) (.cons (.h 10) .nil))))), (10, (.sl 3 (.int .i64)))]⟩
def f106s11 : SS := ⟨[(6, (.p 100)), (9, (.ro .bool)), (11, (.ro .bool)), (13, (.ro .bool)), (16, (.p 101))], [(0, (.box (.st (.cons (.list 78 (.st (.cons (.int .i64) (.cons (.int .i64) (.cons (.int .i64) (.cons .str (.cons (.int .i64) .nil))))))) (.cons (.list 3 (.int .i64)) .nil))) (.agg (.cons (.ro (.list 78 (.st (.cons (.int .i64) (.cons (.int .i64) (.cons (.int .i64) (.cons .str (.cons (.int .i64) .nil)))))))) (.cons (.h 10) .nil))))), (10, (.sl 3 (.int .i64))), (100, (.box (.st (.cons .str (.cons (.int .i64) (.cons (.int .i64) (.cons (.int .i64) .nil))))) (.agg (.cons (.ro .str) (.cons (.ro (.int .i64)) (.cons (.ro (.int .i64)) (.cons (.ro (.int .i64)) .nil))))))), (101, (.box (.st (.cons .str (.cons (.int .i64) (.cons (.int .i64) (.cons (.int .i64) .nil))))) (.agg (.cons (.ro .str) (.cons (.ro (.int .i64)) (.cons (.ro (.int .i64)) (.cons (.ro (.int .i64)) .nil)))))))]⟩
def f106s8 : SS := ⟨[(0, (.p 0)), (1, (.ro (.int .i64))), (6, (.p 100)), (9, (.ro .bool)), (11, (.ro .bool)), (13, (.ro .bool)), (14, (.ro (.int .i64))), (15, (.ro .bool)), (16, (.p 101))], [(0, (.box (.st (.cons (.list 78 (.st (.cons (.int .i64) (.cons (.int .i64) (.cons (.int .i64) (.cons .str (.cons (.int .i64) .nil))))))) (.cons (.list 3 (.int .i64)) .nil))) (.agg (.cons (.ro (.list 78 (.st (.cons (.int .i64) (.cons (.int .i64) (.cons (.int .i64) (.cons .str (.cons (.int .i64) .nil)))))))) (.cons (.h 10) .nil))))), (10, (.sl 3 (.int .i64))), (100, (.box (.st (.cons .str (.cons (.int .i64) (.cons (.int .i64) (.cons (.int .i64) .nil))))) (.agg (.cons (.ro .str) (.cons (.ro (.int .i64)) (.cons (.ro (.int .i64)) (.cons (.ro (.int .i64)) .nil))))))), (101, (.box (.st (.cons .str (.cons (.int .i64) (.cons (.int .i64) (.cons (.int .i64) .nil))))) (.agg (.cons (.ro .str) (.cons (.ro (.int .i64)) (.cons (.ro (.int .i64)) (.cons (.ro (.int .i64)) .nil)))))))]⟩
def f106con (F : Int → Bool → (Bool × TTreeB) → (List Int) → Option ((TCol × Bool) × TTreeB × (List Int))) : Con := ⟨f106in, f106out, 3, 2, fun x => F x.1.2.1 x.1.2.2 x.2.1 x.2.2⟩
def f106ctx (k : Nat) : Ctx := ⟨tyAt tys, conAt [(107, [f107con (impl_tree_num k)]), (137, [f137con (impl_tree_find k)]), (138, [f138con (impl_tree_part k)])], 70, fun s => Nat.beq s 56⟩
theorem f106hc (k : Nat) : CtxOk Tryz.prog (f106ctx k) := ctxOk tys_ok mixed_ok (consOk_cons (f107ok k) (consOk_cons (f137ok k) (consOk_cons (f138ok k) (consOk_nil))))
theorem f106ok (k : Nat) : FnOk Tryz.prog 106 (f106con (impl_tree_col k)) :=
  let hc := f106hc k
  fnOk (fn := Tryz.f106) (code := bodyOf Tryz.f106) (res := [.cell 6 60, .tmp 7]) hc (by kernel_rfl) (by kernel_rfl) (by decide) (by kernel_rfl) (by kernel_rfl) (by kernel_rfl) (Nat.le_of_ble_eq_true (by kernel_rfl)) _
    (fun x => Snd.seq (by kernel_rfl) (Snd.seq (by kernel_rfl) (Snd.seq (by kernel_rfl) (Snd.seq (by kernel_rfl) (Snd.seq (by kernel_rfl) (Snd.seq (by kernel_rfl) (Snd.seq (by kernel_rfl) (Snd.cut (Snd.seq (by kernel_rfl) (Snd.cut (Snd.exec hc _ _ _ _) ⟨f106s11, fun x => impl_tree_col.c11 k x.1.2.1 x.1.2.2.1 x.1.2.2.2.1 x.2.1 x.2.2.1 x.2.2.2.1 x.2.2.2.2⟩ (fun x => by kernel_rfl)) (Snd.exec hc _ _ _ _)) ⟨f106s8, fun x => impl_tree_col.c8 k x.1.2.1 x.1.2.2.2.1 x.1.2.2.2.2.1 x.1.2.2.2.2.2.1 x.1.2.2.2.2.2.2.1 x.1.2.2.2.2.2.2.2.1 x.2.1 x.2.2.1 x.2.2.2.1 x.2.2.2.2⟩ (fun x => by kernel_rfl)) (Snd.exec hc _ _ _ _)) (Snd.exec hc _ _ _ _)) (Snd.exec hc _ _ _ _)) (Snd.exec hc _ _ _ _)) (Snd.exec hc _ _ _ _)) (Snd.exec hc _ _ _ _)) (Snd.exec hc _ _ _ _))
    (fun x => by kernel_rfl)

def f61in : SS := ⟨[(0, (.p 0)), (1, (.ro (.int .i64)))], [(0, (.obox (.st (.cons (.list 78 (.st (.cons (.int .i64) (.cons (.int .i64) (.cons (.int .i64) (.cons .str (.cons (.int .i64) .nil))))))) (.cons (.list 3 (.int .i64)) .nil))) (.agg (.cons (.ro (.list 78 (.st (.cons (.int .i64) (.cons (.int .i64) (.cons (.int .i64) (.cons .str (.cons (.int .i64) .nil)))))))) (.cons (.h 10) .nil))))), (10, (.sl 3 (.int .i64)))]⟩
def f61out : SS := ⟨[(0, (.h 100)), (1, (.ro .bool))], [(0, (.box (.st (.cons (.list 78 (.st (.cons (.int .i64) (.cons (.int .i64) (.cons (.int .i64) (.cons .str (.cons (.int .i64) .nil))))))) (.cons (.list 3 (.int .i64)) .nil))) (.agg (.cons (.ro (.list 78 (.st (.cons (.int .i64) (.cons (.int .i64) (.cons (.int .i64) (.cons .str (.cons (.int .i64) .nil)))))))) (.cons (.h 10) .nil))))), (10, (.sl 3 (.int .i64))), (100, (.sl 60 (.st (.cons .str (.cons (.int .i64) (.cons (.int .i64) (.cons (.int .i64) .nil)))))))]⟩
def f61s6 : SS := ⟨[(0, (.p 0)), (8, (.h 100)), (22, (.h 101)), (23, (.ro (.int .i64))), (24, (.ro (.int .i64)))], [(0, (.box (.st (.cons (.list 78 (.st (.cons (.int .i64) (.cons (.int .i64) (.cons (.int .i64) (.cons .str (.cons (.int .i64) .nil))))))) (.cons (.list 3 (.int .i64)) .nil))) (.agg (.cons (.ro (.list 78 (.st (.cons (.int .i64) (.cons (.int .i64) (.cons (.int .i64) (.cons .str (.cons (.int .i64) .nil)))))))) (.cons (.h 10) .nil))))), (10, (.sl 3 (.int .i64))), (100, (.sl 60 (.st (.cons .str (.cons (.int .i64) (.cons (.int .i64) (.cons (.int .i64) .nil))))))), (101, (.sl 3 (.int .i64)))]⟩
def f61con (F : Int → (Bool × TTreeB) → (List Int) → Option ((Unit × Bool) × TTreeB × (List Int) × (List TCol))) : Con := ⟨f61in, f61out, 2, 2, fun x => F x.1.2 x.2.1 x.2.2⟩
def f61ctx (k : Nat) : Ctx := ⟨tyAt tys, conAt [(28, [f28con (impl_SchemaOk k)]), (105, [f105con (impl_tree_parts k)]), (106, [f106con (impl_tree_col k)])], 62, fun _ => false⟩
theorem f61hc (k : Nat) : CtxOk Tryz.prog (f61ctx k) := ctxOk tys_ok mixed_ok (consOk_cons (f28ok k) (consOk_cons (f105ok k) (consOk_cons (f106ok k) (consOk_nil))))
theorem f61ok (k : Nat) : FnOk Tryz.prog 61 (f61con (impl_tree_schema k)) :=
  let hc := f61hc k
  fnOk (fn := Tryz.f61) (code := bodyOf Tryz.f61) (res := [.tmp 4, .tmp 5]) hc (by kernel_rfl) (by kernel_rfl) (by decide) (by kernel_rfl) (by kernel_rfl) (by kernel_rfl) (Nat.le_of_ble_eq_true (by kernel_rfl)) _
    (fun x => Snd.seq (by kernel_rfl) (Snd.seq (by kernel_rfl) (Snd.seq (by kernel_rfl) (Snd.seq (by kernel_rfl) (Snd.seq (by kernel_rfl) (Snd.exec hc _ _ _ _) (Snd.seq (by kernel_rfl) (Snd.block (id := 0) (by kernel_rfl) (Snd.loop' (by kernel_rfl) f61s6 (fun n x => impl_tree_schema.l6 k n x.1.2.2.2.1 x.1.2.2.2.2 x.2.1 x.2.2.1 x.2.2.2.1 x.2.2.2.2) _ (fun _ => rfl) (fun n6 => Snd.exec hc _ _ _ _) (fun n x => by kernel_rfl) k)) (Snd.exec hc _ _ _ _))) (Snd.exec hc _ _ _ _)) (Snd.exec hc _ _ _ _)) (Snd.exec hc _ _ _ _)) (Snd.exec hc _ _ _ _))
    (fun x => by kernel_rfl)

def f62i1in : SS := ⟨[(0, (.p 0)), (1, (.ro (.int .i64))), (2, (.ro (.int .i64)))], [(0, (.box (.st (.cons .ptr (.cons .bool .nil))) (.agg (.cons (.p 10) (.cons (.ro .bool) .nil))))), (10, (.box (.st (.cons (.list 78 (.st (.cons (.int .i64) (.cons (.int .i64) (.cons (.int .i64) (.cons .str (.cons (.int .i64) .nil))))))) (.cons (.list 3 (.int .i64)) .nil))) (.agg (.cons (.ro (.list 78 (.st (.cons (.int .i64) (.cons (.int .i64) (.cons (.int .i64) (.cons .str (.cons (.int .i64) .nil)))))))) (.cons (.h 11) .nil))))), (11, (.sl 3 (.int .i64)))]⟩
def f62i1out : SS := ⟨[(0, (.ro (.int .i64)))], [(0, (.box (.st (.cons .ptr (.cons .bool .nil))) (.agg (.cons (.p 10) (.cons (.ro .bool) .nil))))), (10, (.box (.st (.cons (.list 78 (.st (.cons (.int .i64) (.cons (.int .i64) (.cons (.int .i64) (.cons .str (.cons (.int .i64) .nil))))))) (.cons (.list 3 (.int .i64)) .nil))) (.agg (.cons (.ro (.list 78 (.st (.cons (.int .i64) (.cons (.int .i64) (.cons (.int .i64) (.cons .str (.cons (.int .i64) .nil)))))))) (.cons (.h 11) .nil))))), (11, (.sl 3 (.int .i64)))]⟩
def f62i1s4 : SS := ⟨[(7, (.ro (.int .i64)))], [(0, (.box (.st (.cons .ptr (.cons .bool .nil))) (.agg (.cons (.p 10) (.cons (.ro .bool) .nil))))), (10, (.box (.st (.cons (.list 78 (.st (.cons (.int .i64) (.cons (.int .i64) (.cons (.int .i64) (.cons .str (.cons (.int .i64) .nil))))))) (.cons (.list 3 (.int .i64)) .nil))) (.agg (.cons (.ro (.list 78 (.st (.cons (.int .i64) (.cons (.int .i64) (.cons (.int .i64) (.cons .str (.cons (.int .i64) .nil)))))))) (.cons (.h 11) .nil))))), (11, (.sl 3 (.int .i64)))]⟩
def f62i1con (F : Int → Int → TMetaReader → TTreeB → (List Int) → Option (Int × TMetaReader × TTreeB × (List Int))) : Con := ⟨f62i1in, f62i1out, 3, 1, fun x => F x.1.2.1 x.1.2.2 x.2.1 x.2.2.1 x.2.2.2⟩
def f62i1ctx (k : Nat) : Ctx := ⟨tyAt tys, conAt [(107, [f107con (impl_tree_num k)])], 25, fun _ => false⟩
theorem f62i1hc (k : Nat) : CtxOk Tryz.prog (f62i1ctx k) := ctxOk tys_ok mixed_ok (consOk_cons (f107ok k) (consOk_nil))
theorem f62i1ok (k : Nat) : FnOk Tryz.prog 62 (f62i1con (impl_metaReader_number k)) :=
  let hc := f62i1hc k
  fnOk (fn := Tryz.f62) (code := bodyOf Tryz.f62) (res := [.tmp 6]) hc (by kernel_rfl) (by kernel_rfl) (by decide) (by kernel_rfl) (by kernel_rfl) (by kernel_rfl) (Nat.le_of_ble_eq_true (by kernel_rfl)) _
    (fun x => Snd.seq (by kernel_rfl) (Snd.seq (by kernel_rfl) (Snd.seq (by kernel_rfl) (Snd.cut (Snd.exec hc _ _ _ _) ⟨f62i1s4, fun x => impl_metaReader_number.c4 k x.1 x.2.1 x.2.2.1 x.2.2.2⟩ (fun x => by kernel_rfl)) (Snd.exec hc _ _ _ _)) (Snd.exec hc _ _ _ _)) (Snd.exec hc _ _ _ _))
    (fun x => by kernel_rfl)

def f63i2in : SS := ⟨[(0, (.p 0)), (1, (.ro (.int .i64))), (2, (.ro (.int .i64))), (3, (.ro (.int .i64)))], [(0, (.box (.st (.cons .ptr (.cons .bool .nil))) (.agg (.cons (.p 10) (.cons (.ro .bool) .nil))))), (10, (.box (.st (.cons (.list 78 (.st (.cons (.int .i64) (.cons (.int .i64) (.cons (.int .i64) (.cons .str (.cons (.int .i64) .nil))))))) (.cons (.list 3 (.int .i64)) .nil))) (.agg (.cons (.ro (.list 78 (.st (.cons (.int .i64) (.cons (.int .i64) (.cons (.int .i64) (.cons .str (.cons (.int .i64) .nil)))))))) (.cons (.h 11) .nil))))), (11, (.sl 3 (.int .i64)))]⟩
def f63i2out : SS := ⟨[(0, (.h 100))], [(0, (.box (.st (.cons .ptr (.cons .bool .nil))) (.agg (.cons (.p 10) (.cons (.ro .bool) .nil))))), (10, (.box (.st (.cons (.list 78 (.st (.cons (.int .i64) (.cons (.int .i64) (.cons (.int .i64) (.cons .str (.cons (.int .i64) .nil))))))) (.cons (.list 3 (.int .i64)) .nil))) (.agg (.cons (.ro (.list 78 (.st (.cons (.int .i64) (.cons (.int .i64) (.cons (.int .i64) (.cons .str (.cons (.int .i64) .nil)))))))) (.cons (.h 11) .nil))))), (11, (.sl 3 (.int .i64))), (100, (.sl 3 (.int .i64)))]⟩
def f63i2s4 : SS := ⟨[(9, (.h 100))], [(0, (.box (.st (.cons .ptr (.cons .bool .nil))) (.agg (.cons (.p 10) (.cons (.ro .bool) .nil))))), (10, (.box (.st (.cons (.list 78 (.st (.cons (.int .i64) (.cons (.int .i64) (.cons (.int .i64) (.cons .str (.cons (.int .i64) .nil))))))) (.cons (.list 3 (.int .i64)) .nil))) (.agg (.cons (.ro (.list 78 (.st (.cons (.int .i64) (.cons (.int .i64) (.cons (.int .i64) (.cons .str (.cons (.int .i64) .nil)))))))) (.cons (.h 11) .nil))))), (11, (.sl 3 (.int .i64))), (100, (.sl 3 (.int .i64)))]⟩
def f63i2con (F : Int → Int → Int → TMetaReader → TTreeB → (List Int) → Option (Unit × TMetaReader × TTreeB × (List Int) × (List Int))) : Con := ⟨f63i2in, f63i2out, 4, 1, fun x => F x.1.2.1 x.1.2.2.1 x.1.2.2.2 x.2.1 x.2.2.1 x.2.2.2⟩
def f63i2ctx (k : Nat) : Ctx := ⟨tyAt tys, conAt [(105, [f105con (impl_tree_parts k)])], 28, fun _ => false⟩
theorem f63i2hc (k : Nat) : CtxOk Tryz.prog (f63i2ctx k) := ctxOk tys_ok mixed_ok (consOk_cons (f105ok k) (consOk_nil))
theorem f63i2ok (k : Nat) : FnOk Tryz.prog 63 (f63i2con (impl_metaReader_list k)) :=
  let hc := f63i2hc k
  fnOk (fn := Tryz.f63) (code := bodyOf Tryz.f63) (res := [.tmp 8]) hc (by kernel_rfl) (by kernel_rfl) (by decide) (by kernel_rfl) (by kernel_rfl) (by kernel_rfl) (Nat.le_of_ble_eq_true (by kernel_rfl)) _
    (fun x => Snd.seq (by kernel_rfl) (Snd.seq (by kernel_rfl) (Snd.seq (by kernel_rfl) (Snd.cut (Snd.exec hc _ _ _ _) ⟨f63i2s4, fun x => impl_metaReader_list.c4 k x.2.1 x.2.2.1 x.2.2.2.1 x.2.2.2.2⟩ (fun x => by kernel_rfl)) (Snd.exec hc _ _ _ _)) (Snd.exec hc _ _ _ _)) (Snd.exec hc _ _ _ _))
    (fun x => by kernel_rfl)

def f125in : SS := ⟨[(0, (.ro (.list 60 (.st (.cons .str (.cons (.int .i64) (.cons (.int .i64) (.cons (.int .i64) .nil))))))))], []⟩
def f125out : SS := ⟨[(0, (.h 100))], [(100, (.sl 3 (.int .i64)))]⟩
def f125con (F : (List TCol) → Option (Unit × (List Int))) : Con := ⟨f125in, f125out, 1, 1, fun x => F x⟩
def f125ctx (k : Nat) : Ctx := ⟨tyAt tys, conAt [(28, [f28con (impl_SchemaOk k)]), (30, [f30con (impl_leavesOf k)])], 8, fun _ => false⟩
theorem f125hc (k : Nat) : CtxOk Tryz.prog (f125ctx k) := ctxOk tys_ok mixed_ok (consOk_cons (f28ok k) (consOk_cons (f30ok k) (consOk_nil)))
theorem f125ok (k : Nat) : FnOk Tryz.prog 125 (f125con (impl_SchemaLeaves k)) :=
  let hc := f125hc k
  fnOk (fn := Tryz.f125) (code := bodyOf Tryz.f125) (res := [.tmp 2]) hc (by kernel_rfl) (by kernel_rfl) (by decide) (by kernel_rfl) (by kernel_rfl) (by kernel_rfl) (Nat.le_of_ble_eq_true (by kernel_rfl)) _
    (fun x => Snd.exec hc _ _ _ _)
    (fun x => by kernel_rfl)

def f124in : SS := ⟨[(0, (.ro (.list 60 (.st (.cons .str (.cons (.int .i64) (.cons (.int .i64) (.cons (.int .i64) .nil)))))))), (1, (.ro (.int .i64)))], []⟩
def f124out : SS := ⟨[(0, (.h 100))], [(100, (.sl 3 (.int .i64)))]⟩
def f124s6 : SS := ⟨[(0, (.ro (.list 60 (.st (.cons .str (.cons (.int .i64) (.cons (.int .i64) (.cons (.int .i64) .nil)))))))), (1, (.ro (.int .i64))), (5, (.h 100)), (6, (.h 101)), (7, (.ro (.int .i64)))], [(100, (.sl 3 (.int .i64))), (101, (.sl 3 (.int .i64)))]⟩
def f124con (F : (List TCol) → Int → Option (Unit × (List Int))) : Con := ⟨f124in, f124out, 2, 1, fun x => F x.1 x.2⟩
def f124ctx (k : Nat) : Ctx := ⟨tyAt tys, conAt [(29, [f29con (impl_within k)]), (65, [f65con (impl_colAfter k)]), (125, [f125con (impl_SchemaLeaves k)])], 41, fun _ => false⟩
theorem f124hc (k : Nat) : CtxOk Tryz.prog (f124ctx k) := ctxOk tys_ok mixed_ok (consOk_cons (f29ok k) (consOk_cons (f65ok k) (consOk_cons (f125ok k) (consOk_nil))))
theorem f124ok (k : Nat) : FnOk Tryz.prog 124 (f124con (impl_wayTo k)) :=
  let hc := f124hc k
  fnOk (fn := Tryz.f124) (code := bodyOf Tryz.f124) (res := [.tmp 4]) hc (by kernel_rfl) (by kernel_rfl) (by decide) (by kernel_rfl) (by kernel_rfl) (by kernel_rfl) (Nat.le_of_ble_eq_true (by kernel_rfl)) _
    (fun x => Snd.seq (by kernel_rfl) (Snd.seq (by kernel_rfl) (Snd.seq (by kernel_rfl) (Snd.seq (by kernel_rfl) (Snd.seq (by kernel_rfl) (Snd.exec hc _ _ _ _) (Snd.seq (by kernel_rfl) (Snd.block (id := 0) (by kernel_rfl) (Snd.loop' (by kernel_rfl) f124s6 (fun n x => impl_wayTo.l6 k n x.1.1 x.1.2.1 x.1.2.2.2.2 x.2.1 x.2.2) _ (fun _ => rfl) (fun n6 => Snd.exec hc _ _ _ _) (fun n x => by kernel_rfl) k)) (Snd.exec hc _ _ _ _))) (Snd.exec hc _ _ _ _)) (Snd.exec hc _ _ _ _)) (Snd.exec hc _ _ _ _)) (Snd.exec hc _ _ _ _))
    (fun x => by kernel_rfl)

def f82in : SS := ⟨[(0, (.ro (.list 60 (.st (.cons .str (.cons (.int .i64) (.cons (.int .i64) (.cons (.int .i64) .nil)))))))), (1, (.ro (.int .i64)))], []⟩
def f82out : SS := ⟨[(0, (.h 100))], [(100, (.sl 9 .str))]⟩
def f82s3 : SS := ⟨[(0, (.ro (.list 60 (.st (.cons .str (.cons (.int .i64) (.cons (.int .i64) (.cons (.int .i64) .nil)))))))), (5, (.h 100)), (11, (.h 101)), (12, (.ro (.int .i64))), (13, (.ro (.int .i64)))], [(100, (.sl 9 .str)), (101, (.sl 3 (.int .i64)))]⟩
def f82con (F : (List TCol) → Int → Option (Unit × (List ByteArray))) : Con := ⟨f82in, f82out, 2, 1, fun x => F x.1 x.2⟩
def f82ctx (k : Nat) : Ctx := ⟨tyAt tys, conAt [(124, [f124con (impl_wayTo k)])], 27, fun _ => false⟩
theorem f82hc (k : Nat) : CtxOk Tryz.prog (f82ctx k) := ctxOk tys_ok mixed_ok (consOk_cons (f124ok k) (consOk_nil))
theorem f82ok (k : Nat) : FnOk Tryz.prog 82 (f82con (impl_LeafPath k)) :=
  let hc := f82hc k
  fnOk (fn := Tryz.f82) (code := bodyOf Tryz.f82) (res := [.tmp 4]) hc (by kernel_rfl) (by kernel_rfl) (by decide) (by kernel_rfl) (by kernel_rfl) (by kernel_rfl) (Nat.le_of_ble_eq_true (by kernel_rfl)) _
    (fun x => Snd.seq (by kernel_rfl) (Snd.seq (by kernel_rfl) (Snd.seq (by kernel_rfl) (Snd.exec hc _ _ _ _) (Snd.seq (by kernel_rfl) (Snd.block (id := 0) (by kernel_rfl) (Snd.loop' (by kernel_rfl) f82s3 (fun n x => impl_LeafPath.l3 k n x.1.1 x.1.2.2.2.1 x.1.2.2.2.2 x.2.1 x.2.2) _ (fun _ => rfl) (fun n3 => Snd.exec hc _ _ _ _) (fun n x => by kernel_rfl) k)) (Snd.exec hc _ _ _ _))) (Snd.exec hc _ _ _ _)) (Snd.exec hc _ _ _ _))
    (fun x => by kernel_rfl)

def f126in : SS := ⟨[(0, (.ro (.list 60 (.st (.cons .str (.cons (.int .i64) (.cons (.int .i64) (.cons (.int .i64) .nil)))))))), (1, (.ro (.int .i64)))], []⟩
def f126out : SS := ⟨[(0, (.ro (.int .i64))), (1, (.ro (.int .i64)))], []⟩
def f126s12 : SS := ⟨[(0, (.ro (.list 60 (.st (.cons .str (.cons (.int .i64) (.cons (.int .i64) (.cons (.int .i64) .nil)))))))), (7, (.ro (.int .i64))), (8, (.ro (.int .i64))), (17, (.h 100)), (18, (.ro (.int .i64))), (19, (.ro (.int .i64)))], [(100, (.sl 3 (.int .i64)))]⟩
def f126s10 : SS := ⟨[(0, (.ro (.list 60 (.st (.cons .str (.cons (.int .i64) (.cons (.int .i64) (.cons (.int .i64) .nil)))))))), (7, (.ro (.int .i64))), (8, (.ro (.int .i64))), (10, (.ro (.int .i64))), (17, (.h 100)), (18, (.ro (.int .i64))), (19, (.ro (.int .i64)))], [(100, (.sl 3 (.int .i64)))]⟩
def f126s6 : SS := ⟨[(0, (.ro (.list 60 (.st (.cons .str (.cons (.int .i64) (.cons (.int .i64) (.cons (.int .i64) .nil)))))))), (7, (.ro (.int .i64))), (8, (.ro (.int .i64))), (17, (.h 100)), (18, (.ro (.int .i64))), (19, (.ro (.int .i64)))], [(100, (.sl 3 (.int .i64)))]⟩
def f126con (F : (List TCol) → Int → Option (Int × Int)) : Con := ⟨f126in, f126out, 2, 2, fun x => F x.1 x.2⟩
def f126ctx (k : Nat) : Ctx := ⟨tyAt tys, conAt [(124, [f124con (impl_wayTo k)])], 42, fun _ => false⟩
theorem f126hc (k : Nat) : CtxOk Tryz.prog (f126ctx k) := ctxOk tys_ok mixed_ok (consOk_cons (f124ok k) (consOk_nil))
theorem f126ok (k : Nat) : FnOk Tryz.prog 126 (f126con (impl_LeafMax k)) :=
  let hc := f126hc k
  fnOk (fn := Tryz.f126) (code := bodyOf Tryz.f126) (res := [.tmp 4, .tmp 5]) hc (by kernel_rfl) (by kernel_rfl) (by decide) (by kernel_rfl) (by kernel_rfl) (by kernel_rfl) (Nat.le_of_ble_eq_true (by kernel_rfl)) _
    (fun x => Snd.seq (by kernel_rfl) (Snd.seq (by kernel_rfl) (Snd.seq (by kernel_rfl) (Snd.seq (by kernel_rfl) (Snd.seq (by kernel_rfl) (Snd.exec hc _ _ _ _) (Snd.seq (by kernel_rfl) (Snd.block (id := 0) (by kernel_rfl) (Snd.loop' (by kernel_rfl) f126s6 (fun n x => impl_LeafMax.l6 k n x.1.1 x.1.2.1 x.1.2.2.1 x.1.2.2.2.2.1 x.1.2.2.2.2.2 x.2) _ (fun _ => rfl) (fun n6 => Snd.seq (by kernel_rfl) (Snd.seq (by kernel_rfl) (Snd.seq (by kernel_rfl) (Snd.cut (Snd.exec hc _ _ _ _) ⟨f126s12, fun x => impl_LeafMax.c12 k (impl_LeafMax.l6 k n6) x.1.1 x.1.2.1 x.1.2.2.1 x.1.2.2.2.2.1 x.1.2.2.2.2.2 x.2⟩ (fun x => by kernel_rfl)) (Snd.block (id := 1) (by kernel_rfl) (Snd.seq (by kernel_rfl) (Snd.seq (by kernel_rfl) (Snd.cut (Snd.exec hc _ _ _ _) ⟨f126s10, fun x => impl_LeafMax.c10 k (impl_LeafMax.l6 k n6) x.1.1 x.1.2.1 x.1.2.2.1 x.1.2.2.2.1 x.1.2.2.2.2.2.1 x.1.2.2.2.2.2.2 x.2⟩ (fun x => by kernel_rfl)) (Snd.exec hc _ _ _ _)) (Snd.exec hc _ _ _ _)))) (Snd.exec hc _ _ _ _)) (Snd.exec hc _ _ _ _)) (fun n x => by kernel_rfl) k)) (Snd.exec hc _ _ _ _))) (Snd.exec hc _ _ _ _)) (Snd.exec hc _ _ _ _)) (Snd.exec hc _ _ _ _)) (Snd.exec hc _ _ _ _))
    (fun x => by kernel_rfl)

def f84in : SS := ⟨[(0, (.ro (.list 60 (.st (.cons .str (.cons (.int .i64) (.cons (.int .i64) (.cons (.int .i64) .nil)))))))), (1, (.ro (.int .i64)))], []⟩
def f84out : SS := ⟨[(0, (.agg (.cons (.ro (.int .i64)) (.cons (.ro (.int .i64)) (.cons (.ro (.int .i64)) .nil))))), (1, (.ro .bool))], []⟩
def f84con (F : (List TCol) → Int → Option (TLeaf × Bool)) : Con := ⟨f84in, f84out, 2, 2, fun x => F x.1 x.2⟩
def f84ctx (k : Nat) : Ctx := ⟨tyAt tys, conAt [(29, [f29con (impl_within k)]), (125, [f125con (impl_SchemaLeaves k)]), (126, [f126con (impl_LeafMax k)])], 35, fun _ => false⟩
theorem f84hc (k : Nat) : CtxOk Tryz.prog (f84ctx k) := ctxOk tys_ok mixed_ok (consOk_cons (f29ok k) (consOk_cons (f125ok k) (consOk_cons (f126ok k) (consOk_nil))))
theorem f84ok (k : Nat) : FnOk Tryz.prog 84 (f84con (impl_LeafOf k)) :=
  let hc := f84hc k
  fnOk (fn := Tryz.f84) (code := bodyOf Tryz.f84) (res := [.cell 4 122, .tmp 5]) hc (by kernel_rfl) (by kernel_rfl) (by decide) (by kernel_rfl) (by kernel_rfl) (by kernel_rfl) (Nat.le_of_ble_eq_true (by kernel_rfl)) _
    (fun x => Snd.exec hc _ _ _ _)
    (fun x => by kernel_rfl)

def f139in : SS := ⟨[(0, (.ro (.list 9 .str))), (1, (.ro (.list 9 .str)))], []⟩
def f139out : SS := ⟨[(0, (.ro .bool))], []⟩
def f139s4 : SS := ⟨[(0, (.ro (.list 9 .str))), (1, (.ro (.list 9 .str))), (12, (.ro (.int .i64))), (13, (.ro (.int .i64)))], []⟩
def f139con (F : (List ByteArray) → (List ByteArray) → Option Bool) : Con := ⟨f139in, f139out, 2, 1, fun x => F x.1 x.2⟩
def f139ctx (k : Nat) : Ctx := ⟨tyAt tys, conAt [], 26, fun _ => false⟩
theorem f139hc (k : Nat) : CtxOk Tryz.prog (f139ctx k) := ctxOk tys_ok mixed_ok (consOk_nil)
theorem f139ok (k : Nat) : FnOk Tryz.prog 139 (f139con (slices_Equal_string_string k)) :=
  let hc := f139hc k
  fnOk (fn := Tryz.f139) (code := bodyOf Tryz.f139) (res := [.tmp 4]) hc (by kernel_rfl) (by kernel_rfl) (by decide) (by kernel_rfl) (by kernel_rfl) (by kernel_rfl) (Nat.le_of_ble_eq_true (by kernel_rfl)) _
    (fun x => Snd.seq (by kernel_rfl) (Snd.seq (by kernel_rfl) (Snd.seq (by kernel_rfl) (Snd.exec hc _ _ _ _) (Snd.seq (by kernel_rfl) (Snd.block (id := 0) (by kernel_rfl) (Snd.loop' (by kernel_rfl) f139s4 (fun n x => slices_Equal_string_string.l4 k n x.1 x.2.1 x.2.2.1 x.2.2.2) _ (fun _ => rfl) (fun n4 => Snd.exec hc _ _ _ _) (fun n x => by kernel_rfl) k)) (Snd.exec hc _ _ _ _))) (Snd.exec hc _ _ _ _)) (Snd.exec hc _ _ _ _))
    (fun x => by kernel_rfl)

def f108i4in : SS := ⟨[(0, (.p 0)), (1, (.h 60)), (2, (.ro (.int .i64))), (3, (.ro (.int .i64)))], [(0, (.box (.st (.cons .ptr (.cons .bool .nil))) (.agg (.cons (.p 10) (.cons (.ro .bool) .nil))))), (10, (.box (.st (.cons (.list 78 (.st (.cons (.int .i64) (.cons (.int .i64) (.cons (.int .i64) (.cons .str (.cons (.int .i64) .nil))))))) (.cons (.list 3 (.int .i64)) .nil))) (.agg (.cons (.ro (.list 78 (.st (.cons (.int .i64) (.cons (.int .i64) (.cons (.int .i64) (.cons .str (.cons (.int .i64) .nil)))))))) (.cons (.h 11) .nil))))), (11, (.sl 3 (.int .i64))), (60, (.sl 60 (.st (.cons .str (.cons (.int .i64) (.cons (.int .i64) (.cons (.int .i64) .nil)))))))]⟩
def f108i4out : SS := ⟨[(0, (.agg (.cons (.ro (.int .i64)) (.cons (.ro (.int .i64)) (.cons (.ro (.int .i64)) (.cons (.ro (.int .i64)) (.cons (.ro (.int .i64)) (.cons (.h 100) .nil))))))))], [(0, (.box (.st (.cons .ptr (.cons .bool .nil))) (.agg (.cons (.p 10) (.cons (.ro .bool) .nil))))), (10, (.box (.st (.cons (.list 78 (.st (.cons (.int .i64) (.cons (.int .i64) (.cons (.int .i64) (.cons .str (.cons (.int .i64) .nil))))))) (.cons (.list 3 (.int .i64)) .nil))) (.agg (.cons (.ro (.list 78 (.st (.cons (.int .i64) (.cons (.int .i64) (.cons (.int .i64) (.cons .str (.cons (.int .i64) .nil)))))))) (.cons (.h 11) .nil))))), (11, (.sl 3 (.int .i64))), (60, (.sl 60 (.st (.cons .str (.cons (.int .i64) (.cons (.int .i64) (.cons (.int .i64) .nil))))))), (100, (.sl 3 (.int .i64)))]⟩
def f108i4s28 : SS := ⟨[(8, (.p 100)), (9, (.p 101))], [(0, (.box (.st (.cons .ptr (.cons .bool .nil))) (.agg (.cons (.p 10) (.cons (.ro .bool) .nil))))), (10, (.box (.st (.cons (.list 78 (.st (.cons (.int .i64) (.cons (.int .i64) (.cons (.int .i64) (.cons .str (.cons (.int .i64) .nil))))))) (.cons (.list 3 (.int .i64)) .nil))) (.agg (.cons (.ro (.list 78 (.st (.cons (.int .i64) (.cons (.int .i64) (.cons (.int .i64) (.cons .str (.cons (.int .i64) .nil)))))))) (.cons (.h 11) .nil))))), (11, (.sl 3 (.int .i64))), (60, (.sl 60 (.st (.cons .str (.cons (.int .i64) (.cons (.int .i64) (.cons (.int .i64) .nil))))))), (100, (.box (.st (.cons (.int .i64) (.cons (.int .i64) (.cons (.int .i64) (.cons (.int .i64) (.cons (.int .i64) (.cons (.list 3 (.int .i64)) .nil))))))) (.agg (.cons (.ro (.int .i64)) (.cons (.ro (.int .i64)) (.cons (.ro (.int .i64)) (.cons (.ro (.int .i64)) (.cons (.ro (.int .i64)) (.cons (.h 102) .nil))))))))), (101, (.box (.st (.cons (.int .i64) (.cons (.int .i64) (.cons (.int .i64) (.cons (.int .i64) (.cons (.int .i64) (.cons (.list 3 (.int .i64)) .nil))))))) (.agg (.cons (.ro (.int .i64)) (.cons (.ro (.int .i64)) (.cons (.ro (.int .i64)) (.cons (.ro (.int .i64)) (.cons (.ro (.int .i64)) (.cons (.h 103) .nil))))))))), (102, (.sl 3 (.int .i64))), (103, (.sl 3 (.int .i64)))]⟩
def f108i4s24 : SS := ⟨[(0, (.p 0)), (8, (.p 100)), (9, (.p 101)), (10, (.ro (.int .i64)))], [(0, (.box (.st (.cons .ptr (.cons .bool .nil))) (.agg (.cons (.p 10) (.cons (.ro .bool) .nil))))), (10, (.box (.st (.cons (.list 78 (.st (.cons (.int .i64) (.cons (.int .i64) (.cons (.int .i64) (.cons .str (.cons (.int .i64) .nil))))))) (.cons (.list 3 (.int .i64)) .nil))) (.agg (.cons (.ro (.list 78 (.st (.cons (.int .i64) (.cons (.int .i64) (.cons (.int .i64) (.cons .str (.cons (.int .i64) .nil)))))))) (.cons (.h 11) .nil))))), (11, (.sl 3 (.int .i64))), (60, (.sl 60 (.st (.cons .str (.cons (.int .i64) (.cons (.int .i64) (.cons (.int .i64) .nil))))))), (100, (.box (.st (.cons (.int .i64) (.cons (.int .i64) (.cons (.int .i64) (.cons (.int .i64) (.cons (.int .i64) (.cons (.list 3 (.int .i64)) .nil))))))) (.agg (.cons (.ro (.int .i64)) (.cons (.ro (.int .i64)) (.cons (.ro (.int .i64)) (.cons (.ro (.int .i64)) (.cons (.ro (.int .i64)) (.cons (.h 102) .nil))))))))), (101, (.box (.st (.cons (.int .i64) (.cons (.int .i64) (.cons (.int .i64) (.cons (.int .i64) (.cons (.int .i64) (.cons (.list 3 (.int .i64)) .nil))))))) (.agg (.cons (.ro (.int .i64)) (.cons (.ro (.int .i64)) (.cons (.ro (.int .i64)) (.cons (.ro (.int .i64)) (.cons (.ro (.int .i64)) (.cons (.h 103) .nil))))))))), (102, (.sl 3 (.int .i64))), (103, (.sl 3 (.int .i64)))]⟩
def f108i4d22 : SS := ⟨[(0, (.p 0)), (8, (.p 100)), (9, (.p 101)), (10, (.ro (.int .i64)))], [(0, (.box (.st (.cons .ptr (.cons .bool .nil))) (.agg (.cons (.p 10) (.cons (.ro .bool) .nil))))), (10, (.box (.st (.cons (.list 78 (.st (.cons (.int .i64) (.cons (.int .i64) (.cons (.int .i64) (.cons .str (.cons (.int .i64) .nil))))))) (.cons (.list 3 (.int .i64)) .nil))) (.agg (.cons (.ro (.list 78 (.st (.cons (.int .i64) (.cons (.int .i64) (.cons (.int .i64) (.cons .str (.cons (.int .i64) .nil)))))))) (.cons (.h 11) .nil))))), (11, (.sl 3 (.int .i64))), (60, (.sl 60 (.st (.cons .str (.cons (.int .i64) (.cons (.int .i64) (.cons (.int .i64) .nil))))))), (100, (.box (.st (.cons (.int .i64) (.cons (.int .i64) (.cons (.int .i64) (.cons (.int .i64) (.cons (.int .i64) (.cons (.list 3 (.int .i64)) .nil))))))) (.agg (.cons (.ro (.int .i64)) (.cons (.ro (.int .i64)) (.cons (.ro (.int .i64)) (.cons (.ro (.int .i64)) (.cons (.ro (.int .i64)) (.cons (.h 102) .nil))))))))), (101, (.box (.st (.cons (.int .i64) (.cons (.int .i64) (.cons (.int .i64) (.cons (.int .i64) (.cons (.int .i64) (.cons (.list 3 (.int .i64)) .nil))))))) (.agg (.cons (.ro (.int .i64)) (.cons (.ro (.int .i64)) (.cons (.ro (.int .i64)) (.cons (.ro (.int .i64)) (.cons (.ro (.int .i64)) (.cons (.h 103) .nil))))))))), (102, (.sl 3 (.int .i64))), (103, (.sl 3 (.int .i64)))]⟩
def f108i4s20 : SS := ⟨[(0, (.p 0)), (8, (.p 100)), (9, (.p 101)), (10, (.ro (.int .i64)))], [(0, (.box (.st (.cons .ptr (.cons .bool .nil))) (.agg (.cons (.p 10) (.cons (.ro .bool) .nil))))), (10, (.box (.st (.cons (.list 78 (.st (.cons (.int .i64) (.cons (.int .i64) (.cons (.int .i64) (.cons .str (.cons (.int .i64) .nil))))))) (.cons (.list 3 (.int .i64)) .nil))) (.agg (.cons (.ro (.list 78 (.st (.cons (.int .i64) (.cons (.int .i64) (.cons (.int .i64) (.cons .str (.cons (.int .i64) .nil)))))))) (.cons (.h 11) .nil))))), (11, (.sl 3 (.int .i64))), (60, (.sl 60 (.st (.cons .str (.cons (.int .i64) (.cons (.int .i64) (.cons (.int .i64) .nil))))))), (100, (.box (.st (.cons (.int .i64) (.cons (.int .i64) (.cons (.int .i64) (.cons (.int .i64) (.cons (.int .i64) (.cons (.list 3 (.int .i64)) .nil))))))) (.agg (.cons (.ro (.int .i64)) (.cons (.ro (.int .i64)) (.cons (.ro (.int .i64)) (.cons (.ro (.int .i64)) (.cons (.ro (.int .i64)) (.cons (.h 102) .nil))))))))), (101, (.box (.st (.cons (.int .i64) (.cons (.int .i64) (.cons (.int .i64) (.cons (.int .i64) (.cons (.int .i64) (.cons (.list 3 (.int .i64)) .nil))))))) (.agg (.cons (.ro (.int .i64)) (.cons (.ro (.int .i64)) (.cons (.ro (.int .i64)) (.cons (.ro (.int .i64)) (.cons (.ro (.int .i64)) (.cons (.h 103) .nil))))))))), (102, (.sl 3 (.int .i64))), (103, (.sl 3 (.int .i64)))]⟩
def f108i4d18 : SS := ⟨[(0, (.p 0)), (1, (.h 60)), (3, (.ro (.int .i64))), (8, (.p 100)), (9, (.p 101)), (10, (.ro (.int .i64))), (11, (.p 102)), (15, (.h 103))], [(0, (.box (.st (.cons .ptr (.cons .bool .nil))) (.agg (.cons (.p 10) (.cons (.ro .bool) .nil))))), (10, (.box (.st (.cons (.list 78 (.st (.cons (.int .i64) (.cons (.int .i64) (.cons (.int .i64) (.cons .str (.cons (.int .i64) .nil))))))) (.cons (.list 3 (.int .i64)) .nil))) (.agg (.cons (.ro (.list 78 (.st (.cons (.int .i64) (.cons (.int .i64) (.cons (.int .i64) (.cons .str (.cons (.int .i64) .nil)))))))) (.cons (.h 11) .nil))))), (11, (.sl 3 (.int .i64))), (60, (.sl 60 (.st (.cons .str (.cons (.int .i64) (.cons (.int .i64) (.cons (.int .i64) .nil))))))), (100, (.box (.st (.cons (.int .i64) (.cons (.int .i64) (.cons (.int .i64) (.cons (.int .i64) (.cons (.int .i64) (.cons (.list 3 (.int .i64)) .nil))))))) (.agg (.cons (.ro (.int .i64)) (.cons (.ro (.int .i64)) (.cons (.ro (.int .i64)) (.cons (.ro (.int .i64)) (.cons (.ro (.int .i64)) (.cons (.h 104) .nil))))))))), (101, (.box (.st (.cons (.int .i64) (.cons (.int .i64) (.cons (.int .i64) (.cons (.int .i64) (.cons (.int .i64) (.cons (.list 3 (.int .i64)) .nil))))))) (.agg (.cons (.ro (.int .i64)) (.cons (.ro (.int .i64)) (.cons (.ro (.int .i64)) (.cons (.ro (.int .i64)) (.cons (.ro (.int .i64)) (.cons (.h 105) .nil))))))))), (102, (.box (.st (.cons (.int .i64) (.cons (.int .i64) (.cons (.int .i64) .nil)))) (.agg (.cons (.ro (.int .i64)) (.cons (.ro (.int .i64)) (.cons (.ro (.int .i64)) .nil)))))), (103, (.sl 9 .str)), (104, (.sl 3 (.int .i64))), (105, (.sl 3 (.int .i64)))]⟩
def f108i4s14 : SS := ⟨[(0, (.p 0)), (1, (.h 60)), (3, (.ro (.int .i64))), (8, (.p 100)), (9, (.p 101)), (10, (.ro (.int .i64))), (11, (.p 102)), (15, (.h 103)), (80, (.h 104)), (81, (.ro (.int .i64))), (82, (.ro (.int .i64)))], [(0, (.box (.st (.cons .ptr (.cons .bool .nil))) (.agg (.cons (.p 10) (.cons (.ro .bool) .nil))))), (10, (.box (.st (.cons (.list 78 (.st (.cons (.int .i64) (.cons (.int .i64) (.cons (.int .i64) (.cons .str (.cons (.int .i64) .nil))))))) (.cons (.list 3 (.int .i64)) .nil))) (.agg (.cons (.ro (.list 78 (.st (.cons (.int .i64) (.cons (.int .i64) (.cons (.int .i64) (.cons .str (.cons (.int .i64) .nil)))))))) (.cons (.h 11) .nil))))), (11, (.sl 3 (.int .i64))), (60, (.sl 60 (.st (.cons .str (.cons (.int .i64) (.cons (.int .i64) (.cons (.int .i64) .nil))))))), (100, (.box (.st (.cons (.int .i64) (.cons (.int .i64) (.cons (.int .i64) (.cons (.int .i64) (.cons (.int .i64) (.cons (.list 3 (.int .i64)) .nil))))))) (.agg (.cons (.ro (.int .i64)) (.cons (.ro (.int .i64)) (.cons (.ro (.int .i64)) (.cons (.ro (.int .i64)) (.cons (.ro (.int .i64)) (.cons (.h 105) .nil))))))))), (101, (.box (.st (.cons (.int .i64) (.cons (.int .i64) (.cons (.int .i64) (.cons (.int .i64) (.cons (.int .i64) (.cons (.list 3 (.int .i64)) .nil))))))) (.agg (.cons (.ro (.int .i64)) (.cons (.ro (.int .i64)) (.cons (.ro (.int .i64)) (.cons (.ro (.int .i64)) (.cons (.ro (.int .i64)) (.cons (.h 106) .nil))))))))), (102, (.box (.st (.cons (.int .i64) (.cons (.int .i64) (.cons (.int .i64) .nil)))) (.agg (.cons (.ro (.int .i64)) (.cons (.ro (.int .i64)) (.cons (.ro (.int .i64)) .nil)))))), (103, (.sl 9 .str)), (104, (.sl 3 (.int .i64))), (105, (.sl 3 (.int .i64))), (106, (.sl 3 (.int .i64)))]⟩
def f108i4d10 : SS := ⟨[(0, (.p 0)), (1, (.h 60)), (3, (.ro (.int .i64))), (8, (.p 100)), (9, (.p 101)), (10, (.ro (.int .i64))), (11, (.p 102)), (14, (.ro (.int .i64))), (54, (.h 103)), (55, (.ro (.int .i64))), (56, (.ro (.int .i64)))], [(0, (.box (.st (.cons .ptr (.cons .bool .nil))) (.agg (.cons (.p 10) (.cons (.ro .bool) .nil))))), (10, (.box (.st (.cons (.list 78 (.st (.cons (.int .i64) (.cons (.int .i64) (.cons (.int .i64) (.cons .str (.cons (.int .i64) .nil))))))) (.cons (.list 3 (.int .i64)) .nil))) (.agg (.cons (.ro (.list 78 (.st (.cons (.int .i64) (.cons (.int .i64) (.cons (.int .i64) (.cons .str (.cons (.int .i64) .nil)))))))) (.cons (.h 11) .nil))))), (11, (.sl 3 (.int .i64))), (60, (.sl 60 (.st (.cons .str (.cons (.int .i64) (.cons (.int .i64) (.cons (.int .i64) .nil))))))), (100, (.box (.st (.cons (.int .i64) (.cons (.int .i64) (.cons (.int .i64) (.cons (.int .i64) (.cons (.int .i64) (.cons (.list 3 (.int .i64)) .nil))))))) (.agg (.cons (.ro (.int .i64)) (.cons (.ro (.int .i64)) (.cons (.ro (.int .i64)) (.cons (.ro (.int .i64)) (.cons (.ro (.int .i64)) (.cons (.h 104) .nil))))))))), (101, (.box (.st (.cons (.int .i64) (.cons (.int .i64) (.cons (.int .i64) (.cons (.int .i64) (.cons (.int .i64) (.cons (.list 3 (.int .i64)) .nil))))))) (.agg (.cons (.ro (.int .i64)) (.cons (.ro (.int .i64)) (.cons (.ro (.int .i64)) (.cons (.ro (.int .i64)) (.cons (.ro (.int .i64)) (.cons (.h 105) .nil))))))))), (102, (.box (.st (.cons (.int .i64) (.cons (.int .i64) (.cons (.int .i64) .nil)))) (.agg (.cons (.ro (.int .i64)) (.cons (.ro (.int .i64)) (.cons (.ro (.int .i64)) .nil)))))), (103, (.sl 3 (.int .i64))), (104, (.sl 3 (.int .i64))), (105, (.sl 3 (.int .i64)))]⟩
def f108i4s8 : SS := ⟨[(0, (.p 0)), (1, (.h 60)), (3, (.ro (.int .i64))), (8, (.p 100)), (9, (.p 101)), (10, (.ro (.int .i64))), (11, (.p 102)), (54, (.h 103)), (55, (.ro (.int .i64))), (56, (.ro (.int .i64)))], [(0, (.box (.st (.cons .ptr (.cons .bool .nil))) (.agg (.cons (.p 10) (.cons (.ro .bool) .nil))))), (10, (.box (.st (.cons (.list 78 (.st (.cons (.int .i64) (.cons (.int .i64) (.cons (.int .i64) (.cons .str (.cons (.int .i64) .nil))))))) (.cons (.list 3 (.int .i64)) .nil))) (.agg (.cons (.ro (.list 78 (.st (.cons (.int .i64) (.cons (.int .i64) (.cons (.int .i64) (.cons .str (.cons (.int .i64) .nil)))))))) (.cons (.h 11) .nil))))), (11, (.sl 3 (.int .i64))), (60, (.sl 60 (.st (.cons .str (.cons (.int .i64) (.cons (.int .i64) (.cons (.int .i64) .nil))))))), (100, (.box (.st (.cons (.int .i64) (.cons (.int .i64) (.cons (.int .i64) (.cons (.int .i64) (.cons (.int .i64) (.cons (.list 3 (.int .i64)) .nil))))))) (.agg (.cons (.ro (.int .i64)) (.cons (.ro (.int .i64)) (.cons (.ro (.int .i64)) (.cons (.ro (.int .i64)) (.cons (.ro (.int .i64)) (.cons (.h 104) .nil))))))))), (101, (.box (.st (.cons (.int .i64) (.cons (.int .i64) (.cons (.int .i64) (.cons (.int .i64) (.cons (.int .i64) (.cons (.list 3 (.int .i64)) .nil))))))) (.agg (.cons (.ro (.int .i64)) (.cons (.ro (.int .i64)) (.cons (.ro (.int .i64)) (.cons (.ro (.int .i64)) (.cons (.ro (.int .i64)) (.cons (.h 105) .nil))))))))), (102, (.box (.st (.cons (.int .i64) (.cons (.int .i64) (.cons (.int .i64) .nil)))) (.agg (.cons (.ro (.int .i64)) (.cons (.ro (.int .i64)) (.cons (.ro (.int .i64)) .nil)))))), (103, (.sl 3 (.int .i64))), (104, (.sl 3 (.int .i64))), (105, (.sl 3 (.int .i64)))]⟩
def f108i4con (F : Int → Int → TMetaReader → TTreeB → (List Int) → (List TCol) → Option (((Int × Int × Int × Int × Int × Unit × Unit)) × TMetaReader × TTreeB × (List Int) × (List TCol) × (List Int))) : Con := ⟨f108i4in, f108i4out, 4, 1, fun x => F x.1.2.2.1 x.1.2.2.2 x.2.1 x.2.2.1 x.2.2.2.1 x.2.2.2.2⟩
def f108i4ctx (k : Nat) : Ctx := ⟨tyAt tys, conAt [(62, [f62i1con (impl_metaReader_number k)]), (63, [f63i2con (impl_metaReader_list k)]), (82, [f82con (impl_LeafPath k)]), (84, [f84con (impl_LeafOf k)]), (137, [f137con (impl_tree_find k)]), (139, [f139con (slices_Equal_string_string k)])], 169, fun _ => false⟩
theorem f108i4hc (k : Nat) : CtxOk Tryz.prog (f108i4ctx k) := ctxOk tys_ok mixed_ok (consOk_cons (f62i1ok k) (consOk_cons (f63i2ok k) (consOk_cons (f82ok k) (consOk_cons (f84ok k) (consOk_cons (f137ok k) (consOk_cons (f139ok k) (consOk_nil)))))))
theorem f108i4ok (k : Nat) : FnOk Tryz.prog 108 (f108i4con (impl_metaReader_chunk k)) :=
  let hc := f108i4hc k
  fnOk (fn := Tryz.f108) (code := bodyOf Tryz.f108) (res := [.cell 8 40]) hc (by kernel_rfl) (by kernel_rfl) (by decide) (by kernel_rfl) (by kernel_rfl) (by kernel_rfl) (Nat.le_of_ble_eq_true (by kernel_rfl)) _
    (fun x => Snd.seq (by kernel_rfl) (Snd.seq (by kernel_rfl) (Snd.seq (by kernel_rfl) (Snd.seq (by kernel_rfl) (Snd.seq (by kernel_rfl) (Snd.seq (by kernel_rfl) (Snd.seq (by kernel_rfl) (Snd.seq (by kernel_rfl) (Snd.seq (by kernel_rfl) (Snd.cut (Snd.seq (by kernel_rfl) (Snd.seq (by kernel_rfl) (Snd.seq (by kernel_rfl) (Snd.cut (Snd.seq (by kernel_rfl) (Snd.seq (by kernel_rfl) (Snd.cut (Snd.exec hc _ _ _ _) ⟨f108i4s28, fun x => impl_metaReader_chunk.c28 k x.2.1 x.2.2.1 x.2.2.2.1 x.2.2.2.2.1 x.2.2.2.2.2.1 x.2.2.2.2.2.2.1 x.2.2.2.2.2.2.2.1 x.2.2.2.2.2.2.2.2⟩ (fun x => by kernel_rfl)) (Snd.exec hc _ _ _ _)) (Snd.exec hc _ _ _ _)) ⟨f108i4s24, fun x => impl_metaReader_chunk.c24 k x.1.2.2.2 x.2.1 x.2.2.1 x.2.2.2.1 x.2.2.2.2.1 x.2.2.2.2.2.1 x.2.2.2.2.2.2.1 x.2.2.2.2.2.2.2.1 x.2.2.2.2.2.2.2.2⟩ (fun x => by kernel_rfl)) (Snd.seq (by kernel_rfl) (Snd.exec hc _ _ _ _) (Snd.fork hc (id := 22) (by kernel_rfl) ⟨f108i4d22, fun x => impl_metaReader_chunk.d22 k x.1.2.2.2 x.2.1 x.2.2.1 x.2.2.2.1 x.2.2.2.2.1 x.2.2.2.2.2.1 x.2.2.2.2.2.2.1 x.2.2.2.2.2.2.2.1 x.2.2.2.2.2.2.2.2⟩ [[0, 1, 3, 2, 4, 5], [0, 1, 3, 4, 2, 5]] (by kernel_rfl) (ords_cons (fun x => by kernel_rfl) (ords_cons (fun x => by kernel_rfl) (ords_nil)))))) (Snd.exec hc _ _ _ _)) (Snd.exec hc _ _ _ _)) ⟨f108i4s20, fun x => impl_metaReader_chunk.c20 k x.1.2.2.2 x.2.1 x.2.2.1 x.2.2.2.1 x.2.2.2.2.1 x.2.2.2.2.2.1 x.2.2.2.2.2.2.1 x.2.2.2.2.2.2.2.1 x.2.2.2.2.2.2.2.2⟩ (fun x => by kernel_rfl)) (Snd.seq (by kernel_rfl) (Snd.exec hc _ _ _ _) (Snd.fork hc (id := 18) (by kernel_rfl) ⟨f108i4d18, fun x => impl_metaReader_chunk.d18 k x.1.2.2.1 x.1.2.2.2.2.2.1 x.2.1 x.2.2.1 x.2.2.2.1 x.2.2.2.2.1 x.2.2.2.2.2.1 x.2.2.2.2.2.2.1 x.2.2.2.2.2.2.2.1 x.2.2.2.2.2.2.2.2.1 x.2.2.2.2.2.2.2.2.2.1 x.2.2.2.2.2.2.2.2.2.2⟩ [[0, 1, 3, 2, 4, 5, 6, 7, 8, 9, 10, 11, 12, 13, 14, 15, 16, 17, 18, 19], [0, 1, 3, 4, 2, 5, 6, 7, 8, 9, 10, 11, 12, 13, 14, 15, 16, 17, 18, 19]] (by kernel_rfl) (ords_cons (fun x => by kernel_rfl) (ords_cons (fun x => by kernel_rfl) (ords_nil)))))) (Snd.seq (by kernel_rfl) (Snd.block (id := 2) (by kernel_rfl) (Snd.loop' (by kernel_rfl) f108i4s14 (fun n x => impl_metaReader_chunk.l14 k n x.1.2.2.1 x.1.2.2.2.2.2.1 x.1.2.2.2.2.2.2.2.2.2.1 x.1.2.2.2.2.2.2.2.2.2.2 x.2.1 x.2.2.1 x.2.2.2.1 x.2.2.2.2.1 x.2.2.2.2.2.1 x.2.2.2.2.2.2.1 x.2.2.2.2.2.2.2.1 x.2.2.2.2.2.2.2.2.1 x.2.2.2.2.2.2.2.2.2.1 x.2.2.2.2.2.2.2.2.2.2.1 x.2.2.2.2.2.2.2.2.2.2.2) _ (fun _ => rfl) (fun n14 => Snd.exec hc _ _ _ _) (fun n x => by kernel_rfl) k)) (Snd.exec hc _ _ _ _))) (Snd.exec hc _ _ _ _)) (Snd.seq (by kernel_rfl) (Snd.block (id := 0) (by kernel_rfl) (Snd.loop' (by kernel_rfl) f108i4s8 (fun n x => impl_metaReader_chunk.l8 k n x.1.2.2.1 x.1.2.2.2.2.2.1 x.1.2.2.2.2.2.2.2.2.1 x.1.2.2.2.2.2.2.2.2.2 x.2.1 x.2.2.1 x.2.2.2.1 x.2.2.2.2.1 x.2.2.2.2.2.1 x.2.2.2.2.2.2.1 x.2.2.2.2.2.2.2.1 x.2.2.2.2.2.2.2.2.1 x.2.2.2.2.2.2.2.2.2.1 x.2.2.2.2.2.2.2.2.2.2) _ (fun _ => rfl) (fun n8 => Snd.seq (by kernel_rfl) (Snd.seq (by kernel_rfl) (Snd.seq (by kernel_rfl) (Snd.exec hc _ _ _ _) (Snd.block (id := 1) (by kernel_rfl) (Snd.seq (by kernel_rfl) (Snd.fork hc (id := 10) (by kernel_rfl) ⟨f108i4d10, fun x => impl_metaReader_chunk.d10 k (impl_metaReader_chunk.l8 k n8) x.1.2.2.1 x.1.2.2.2.2.2.1 x.1.2.2.2.2.2.2.2.1 x.1.2.2.2.2.2.2.2.2.2.1 x.1.2.2.2.2.2.2.2.2.2.2 x.2.1 x.2.2.1 x.2.2.2.1 x.2.2.2.2.1 x.2.2.2.2.2.1 x.2.2.2.2.2.2.1 x.2.2.2.2.2.2.2.1 x.2.2.2.2.2.2.2.2.1 x.2.2.2.2.2.2.2.2.2.1 x.2.2.2.2.2.2.2.2.2.2⟩ [[0, 1, 2, 3, 4, 9, 5, 6, 7, 8, 10, 11, 12, 13, 14, 15, 16]] (by kernel_rfl) (ords_cons (fun x => by kernel_rfl) (ords_nil))) (Snd.exec hc _ _ _ _)))) (Snd.exec hc _ _ _ _)) (Snd.exec hc _ _ _ _)) (fun n x => by kernel_rfl) k)) (Snd.exec hc _ _ _ _))) (Snd.exec hc _ _ _ _)) (Snd.exec hc _ _ _ _)) (Snd.exec hc _ _ _ _)) (Snd.exec hc _ _ _ _)) (Snd.exec hc _ _ _ _))
    (fun x => by kernel_rfl)

def f64i3in : SS := ⟨[(0, (.p 0)), (1, (.h 60)), (2, (.ro (.int .i64)))], [(0, (.box (.st (.cons .ptr (.cons .bool .nil))) (.agg (.cons (.p 10) (.cons (.ro .bool) .nil))))), (10, (.box (.st (.cons (.list 78 (.st (.cons (.int .i64) (.cons (.int .i64) (.cons (.int .i64) (.cons .str (.cons (.int .i64) .nil))))))) (.cons (.list 3 (.int .i64)) .nil))) (.agg (.cons (.ro (.list 78 (.st (.cons (.int .i64) (.cons (.int .i64) (.cons (.int .i64) (.cons .str (.cons (.int .i64) .nil)))))))) (.cons (.h 11) .nil))))), (11, (.sl 3 (.int .i64))), (60, (.sl 60 (.st (.cons .str (.cons (.int .i64) (.cons (.int .i64) (.cons (.int .i64) .nil)))))))]⟩
def f64i3out : SS := ⟨[(0, (.agg (.cons (.ro (.int .i64)) (.cons (.h 100) .nil))))], [(0, (.box (.st (.cons .ptr (.cons .bool .nil))) (.agg (.cons (.p 10) (.cons (.ro .bool) .nil))))), (10, (.box (.st (.cons (.list 78 (.st (.cons (.int .i64) (.cons (.int .i64) (.cons (.int .i64) (.cons .str (.cons (.int .i64) .nil))))))) (.cons (.list 3 (.int .i64)) .nil))) (.agg (.cons (.ro (.list 78 (.st (.cons (.int .i64) (.cons (.int .i64) (.cons (.int .i64) (.cons .str (.cons (.int .i64) .nil)))))))) (.cons (.h 11) .nil))))), (11, (.sl 3 (.int .i64))), (60, (.sl 60 (.st (.cons .str (.cons (.int .i64) (.cons (.int .i64) (.cons (.int .i64) .nil))))))), (100, (.sl 40 (.st (.cons (.int .i64) (.cons (.int .i64) (.cons (.int .i64) (.cons (.int .i64) (.cons (.int .i64) (.cons (.list 3 (.int .i64)) .nil)))))))))]⟩
def f64i3s11 : SS := ⟨[(6, (.p 100)), (7, (.p 101))], [(0, (.box (.st (.cons .ptr (.cons .bool .nil))) (.agg (.cons (.p 10) (.cons (.ro .bool) .nil))))), (10, (.box (.st (.cons (.list 78 (.st (.cons (.int .i64) (.cons (.int .i64) (.cons (.int .i64) (.cons .str (.cons (.int .i64) .nil))))))) (.cons (.list 3 (.int .i64)) .nil))) (.agg (.cons (.ro (.list 78 (.st (.cons (.int .i64) (.cons (.int .i64) (.cons (.int .i64) (.cons .str (.cons (.int .i64) .nil)))))))) (.cons (.h 11) .nil))))), (11, (.sl 3 (.int .i64))), (60, (.sl 60 (.st (.cons .str (.cons (.int .i64) (.cons (.int .i64) (.cons (.int .i64) .nil))))))), (100, (.box (.st (.cons (.int .i64) (.cons (.list 40 (.st (.cons (.int .i64) (.cons (.int .i64) (.cons (.int .i64) (.cons (.int .i64) (.cons (.int .i64) (.cons (.list 3 (.int .i64)) .nil)))))))) .nil))) (.agg (.cons (.ro (.int .i64)) (.cons (.h 102) .nil))))), (101, (.box (.st (.cons (.int .i64) (.cons (.list 40 (.st (.cons (.int .i64) (.cons (.int .i64) (.cons (.int .i64) (.cons (.int .i64) (.cons (.int .i64) (.cons (.list 3 (.int .i64)) .nil)))))))) .nil))) (.agg (.cons (.ro (.int .i64)) (.cons (.h 103) .nil))))), (102, (.sl 40 (.st (.cons (.int .i64) (.cons (.int .i64) (.cons (.int .i64) (.cons (.int .i64) (.cons (.int .i64) (.cons (.list 3 (.int .i64)) .nil))))))))), (103, (.sl 40 (.st (.cons (.int .i64) (.cons (.int .i64) (.cons (.int .i64) (.cons (.int .i64) (.cons (.int .i64) (.cons (.list 3 (.int .i64)) .nil)))))))))]⟩
def f64i3s4 : SS := ⟨[(0, (.p 0)), (1, (.h 60)), (6, (.p 100)), (7, (.p 101)), (18, (.h 102)), (19, (.ro (.int .i64))), (20, (.ro (.int .i64)))], [(0, (.box (.st (.cons .ptr (.cons .bool .nil))) (.agg (.cons (.p 10) (.cons (.ro .bool) .nil))))), (10, (.box (.st (.cons (.list 78 (.st (.cons (.int .i64) (.cons (.int .i64) (.cons (.int .i64) (.cons .str (.cons (.int .i64) .nil))))))) (.cons (.list 3 (.int .i64)) .nil))) (.agg (.cons (.ro (.list 78 (.st (.cons (.int .i64) (.cons (.int .i64) (.cons (.int .i64) (.cons .str (.cons (.int .i64) .nil)))))))) (.cons (.h 11) .nil))))), (11, (.sl 3 (.int .i64))), (60, (.sl 60 (.st (.cons .str (.cons (.int .i64) (.cons (.int .i64) (.cons (.int .i64) .nil))))))), (100, (.box (.st (.cons (.int .i64) (.cons (.list 40 (.st (.cons (.int .i64) (.cons (.int .i64) (.cons (.int .i64) (.cons (.int .i64) (.cons (.int .i64) (.cons (.list 3 (.int .i64)) .nil)))))))) .nil))) (.agg (.cons (.ro (.int .i64)) (.cons (.h 103) .nil))))), (101, (.box (.st (.cons (.int .i64) (.cons (.list 40 (.st (.cons (.int .i64) (.cons (.int .i64) (.cons (.int .i64) (.cons (.int .i64) (.cons (.int .i64) (.cons (.list 3 (.int .i64)) .nil)))))))) .nil))) (.agg (.cons (.ro (.int .i64)) (.cons (.h 104) .nil))))), (102, (.sl 3 (.int .i64))), (103, (.sl 40 (.st (.cons (.int .i64) (.cons (.int .i64) (.cons (.int .i64) (.cons (.int .i64) (.cons (.int .i64) (.cons (.list 3 (.int .i64)) .nil))))))))), (104, (.sl 40 (.st (.cons (.int .i64) (.cons (.int .i64) (.cons (.int .i64) (.cons (.int .i64) (.cons (.int .i64) (.cons (.list 3 (.int .i64)) .nil)))))))))]⟩
def f64i3con (F : Int → TMetaReader → TTreeB → (List Int) → (List TCol) → Option (((Int × Unit × Unit)) × TMetaReader × TTreeB × (List Int) × (List TCol) × (List TChunk))) : Con := ⟨f64i3in, f64i3out, 3, 1, fun x => F x.1.2.2 x.2.1 x.2.2.1 x.2.2.2.1 x.2.2.2.2⟩
def f64i3ctx (k : Nat) : Ctx := ⟨tyAt tys, conAt [(62, [f62i1con (impl_metaReader_number k)]), (63, [f63i2con (impl_metaReader_list k)]), (108, [f108i4con (impl_metaReader_chunk k)])], 49, fun _ => false⟩
theorem f64i3hc (k : Nat) : CtxOk Tryz.prog (f64i3ctx k) := ctxOk tys_ok mixed_ok (consOk_cons (f62i1ok k) (consOk_cons (f63i2ok k) (consOk_cons (f108i4ok k) (consOk_nil))))
theorem f64i3ok (k : Nat) : FnOk Tryz.prog 64 (f64i3con (impl_metaReader_group k)) :=
  let hc := f64i3hc k
  fnOk (fn := Tryz.f64) (code := bodyOf Tryz.f64) (res := [.cell 6 37]) hc (by kernel_rfl) (by kernel_rfl) (by decide) (by kernel_rfl) (by kernel_rfl) (by kernel_rfl) (Nat.le_of_ble_eq_true (by kernel_rfl)) _
    (fun x => Snd.seq (by kernel_rfl) (Snd.seq (by kernel_rfl) (Snd.seq (by kernel_rfl) (Snd.seq (by kernel_rfl) (Snd.cut (Snd.exec hc _ _ _ _) ⟨f64i3s11, fun x => impl_metaReader_group.c11 k x.2.1 x.2.2.1 x.2.2.2.1 x.2.2.2.2.1 x.2.2.2.2.2.1 x.2.2.2.2.2.2.1 x.2.2.2.2.2.2.2.1 x.2.2.2.2.2.2.2.2⟩ (fun x => by kernel_rfl)) (Snd.seq (by kernel_rfl) (Snd.block (id := 0) (by kernel_rfl) (Snd.loop' (by kernel_rfl) f64i3s4 (fun n x => impl_metaReader_group.l4 k n x.1.2.2.2.2.2.1 x.1.2.2.2.2.2.2 x.2.1 x.2.2.1 x.2.2.2.1 x.2.2.2.2.1 x.2.2.2.2.2.1 x.2.2.2.2.2.2.1 x.2.2.2.2.2.2.2.1 x.2.2.2.2.2.2.2.2.1 x.2.2.2.2.2.2.2.2.2) _ (fun _ => rfl) (fun n4 => Snd.exec hc _ _ _ _) (fun n x => by kernel_rfl) k)) (Snd.exec hc _ _ _ _))) (Snd.exec hc _ _ _ _)) (Snd.exec hc _ _ _ _)) (Snd.exec hc _ _ _ _))
    (fun x => by kernel_rfl)

def f27in : SS := ⟨[(0, (.ro (.list 78 (.st (.cons (.int .i64) (.cons (.int .i64) (.cons (.int .i64) (.cons .str (.cons (.int .i64) .nil)))))))))], []⟩
def f27out : SS := ⟨[(0, (.agg (.cons (.h 100) (.cons (.ro (.int .i64)) (.cons (.h 101) .nil))))), (1, (.ro .bool))], [(100, (.sl 60 (.st (.cons .str (.cons (.int .i64) (.cons (.int .i64) (.cons (.int .i64) .nil))))))), (101, (.sl 37 (.st (.cons (.int .i64) (.cons (.list 40 (.st (.cons (.int .i64) (.cons (.int .i64) (.cons (.int .i64) (.cons (.int .i64) (.cons (.int .i64) (.cons (.list 3 (.int .i64)) .nil)))))))) .nil)))))]⟩
def f27s11 : SS := ⟨[(2, (.p 100)), (6, (.p 101)), (7, (.p 102)), (36, (.h 103)), (37, (.ro (.int .i64))), (38, (.ro (.int .i64)))], [(100, (.box (.st (.cons (.list 60 (.st (.cons .str (.cons (.int .i64) (.cons (.int .i64) (.cons (.int .i64) .nil)))))) (.cons (.int .i64) (.cons (.list 37 (.st (.cons (.int .i64) (.cons (.list 40 (.st (.cons (.int .i64) (.cons (.int .i64) (.cons (.int .i64) (.cons (.int .i64) (.cons (.int .i64) (.cons (.list 3 (.int .i64)) .nil)))))))) .nil)))) .nil)))) (.agg (.cons (.h 104) (.cons (.ro (.int .i64)) (.cons (.h 105) .nil)))))), (101, (.box (.st (.cons (.list 60 (.st (.cons .str (.cons (.int .i64) (.cons (.int .i64) (.cons (.int .i64) .nil)))))) (.cons (.int .i64) (.cons (.list 37 (.st (.cons (.int .i64) (.cons (.list 40 (.st (.cons (.int .i64) (.cons (.int .i64) (.cons (.int .i64) (.cons (.int .i64) (.cons (.int .i64) (.cons (.list 3 (.int .i64)) .nil)))))))) .nil)))) .nil)))) (.agg (.cons (.h 106) (.cons (.ro (.int .i64)) (.cons (.h 107) .nil)))))), (102, (.box (.st (.cons .ptr (.cons .bool .nil))) (.agg (.cons (.p 108) (.cons (.ro .bool) .nil))))), (103, (.sl 3 (.int .i64))), (104, (.sl 60 (.st (.cons .str (.cons (.int .i64) (.cons (.int .i64) (.cons (.int .i64) .nil))))))), (105, (.sl 37 (.st (.cons (.int .i64) (.cons (.list 40 (.st (.cons (.int .i64) (.cons (.int .i64) (.cons (.int .i64) (.cons (.int .i64) (.cons (.int .i64) (.cons (.list 3 (.int .i64)) .nil)))))))) .nil))))), (106, (.sl 60 (.st (.cons .str (.cons (.int .i64) (.cons (.int .i64) (.cons (.int .i64) .nil))))))), (107, (.sl 37 (.st (.cons (.int .i64) (.cons (.list 40 (.st (.cons (.int .i64) (.cons (.int .i64) (.cons (.int .i64) (.cons (.int .i64) (.cons (.int .i64) (.cons (.list 3 (.int .i64)) .nil)))))))) .nil))))), (108, (.box (.st (.cons (.list 78 (.st (.cons (.int .i64) (.cons (.int .i64) (.cons (.int .i64) (.cons .str (.cons (.int .i64) .nil))))))) (.cons (.list 3 (.int .i64)) .nil))) (.agg (.cons (.ro (.list 78 (.st (.cons (.int .i64) (.cons (.int .i64) (.cons (.int .i64) (.cons .str (.cons (.int .i64) .nil)))))))) (.cons (.h 109) .nil))))), (109, (.sl 3 (.int .i64)))]⟩
def f27con (F : (List TNode) → Option (((Unit × Int × Unit × Unit) × Bool) × (List TCol) × (List TGroupMeta))) : Con := ⟨f27in, f27out, 1, 2, fun x => F x⟩
def f27ctx (k : Nat) : Ctx := ⟨tyAt tys, conAt [(11, [f11con (impl_MetaOk k)]), (51, [f51con (impl_treeOf k)]), (61, [f61con (impl_tree_schema k)]), (62, [f62i1con (impl_metaReader_number k)]), (63, [f63i2con (impl_metaReader_list k)]), (64, [f64i3con (impl_metaReader_group k)])], 65, fun _ => false⟩
theorem f27hc (k : Nat) : CtxOk Tryz.prog (f27ctx k) := ctxOk tys_ok mixed_ok (consOk_cons (f11ok k) (consOk_cons (f51ok k) (consOk_cons (f61ok k) (consOk_cons (f62i1ok k) (consOk_cons (f63i2ok k) (consOk_cons (f64i3ok k) (consOk_nil)))))))
theorem f27ok (k : Nat) : FnOk Tryz.prog 27 (f27con (impl_MetaFrom k)) :=
  let hc := f27hc k
  fnOk (fn := Tryz.f27) (code := bodyOf Tryz.f27) (res := [.cell 2 27, .tmp 3]) hc (by kernel_rfl) (by kernel_rfl) (by decide) (by kernel_rfl) (by kernel_rfl) (by kernel_rfl) (Nat.le_of_ble_eq_true (by kernel_rfl)) _
    (fun x => Snd.seq (by kernel_rfl) (Snd.seq (by kernel_rfl) (Snd.seq (by kernel_rfl) (Snd.seq (by kernel_rfl) (Snd.seq (by kernel_rfl) (Snd.seq (by kernel_rfl) (Snd.seq (by kernel_rfl) (Snd.seq (by kernel_rfl) (Snd.seq (by kernel_rfl) (Snd.exec hc _ _ _ _) (Snd.seq (by kernel_rfl) (Snd.block (id := 0) (by kernel_rfl) (Snd.loop' (by kernel_rfl) f27s11 (fun n x => impl_MetaFrom.l11 k n x.1.2.2.2.2.1 x.1.2.2.2.2.2 x.2.1 x.2.2.1 x.2.2.2.1 x.2.2.2.2.1 x.2.2.2.2.2.1 x.2.2.2.2.2.2.1 x.2.2.2.2.2.2.2.1 x.2.2.2.2.2.2.2.2.1 x.2.2.2.2.2.2.2.2.2.1 x.2.2.2.2.2.2.2.2.2.2) _ (fun _ => rfl) (fun n11 => Snd.exec hc _ _ _ _) (fun n x => by kernel_rfl) k)) (Snd.exec hc _ _ _ _))) (Snd.exec hc _ _ _ _)) (Snd.exec hc _ _ _ _)) (Snd.exec hc _ _ _ _)) (Snd.exec hc _ _ _ _)) (Snd.exec hc _ _ _ _)) (Snd.exec hc _ _ _ _)) (Snd.exec hc _ _ _ _)) (Snd.exec hc _ _ _ _))
    (fun x => by kernel_rfl)

def f9in : SS := ⟨[(0, (.ro (.list 5 (.int .u8)))), (1, (.ro (.int .i64)))], []⟩
def f9out : SS := ⟨[(0, (.agg (.cons (.h 100) (.cons (.ro (.int .i64)) (.cons (.h 101) .nil))))), (1, (.ro (.int .i64))), (2, (.ro .bool))], [(100, (.sl 60 (.st (.cons .str (.cons (.int .i64) (.cons (.int .i64) (.cons (.int .i64) .nil))))))), (101, (.sl 37 (.st (.cons (.int .i64) (.cons (.list 40 (.st (.cons (.int .i64) (.cons (.int .i64) (.cons (.int .i64) (.cons (.int .i64) (.cons (.int .i64) (.cons (.list 3 (.int .i64)) .nil)))))))) .nil)))))]⟩
def f9con (F : (List Int) → Int → Option (((Unit × Int × Unit × Unit) × Int × Bool) × (List TCol) × (List TGroupMeta))) : Con := ⟨f9in, f9out, 2, 3, fun x => F x.1 x.2⟩
def f9ctx (k : Nat) : Ctx := ⟨tyAt tys, conAt [(26, [f26con (impl_TreeRead k)]), (27, [f27con (impl_MetaFrom k)])], 32, fun _ => false⟩
theorem f9hc (k : Nat) : CtxOk Tryz.prog (f9ctx k) := ctxOk tys_ok mixed_ok (consOk_cons (f26ok k) (consOk_cons (f27ok k) (consOk_nil)))
theorem f9ok (k : Nat) : FnOk Tryz.prog 9 (f9con (impl_MetaRead k)) :=
  let hc := f9hc k
  fnOk (fn := Tryz.f9) (code := bodyOf Tryz.f9) (res := [.cell 4 27, .tmp 5, .tmp 6]) hc (by kernel_rfl) (by kernel_rfl) (by decide) (by kernel_rfl) (by kernel_rfl) (by kernel_rfl) (Nat.le_of_ble_eq_true (by kernel_rfl)) _
    (fun x => Snd.exec hc _ _ _ _)
    (fun x => by kernel_rfl)

def f141in : SS := ⟨[(0, (.ro (.list 5 (.int .u8)))), (1, (.ro (.int .i64)))], []⟩
def f141out : SS := ⟨[(0, (.ro (.int .i64))), (1, (.ro (.int .i64))), (2, (.ro .bool))], []⟩
def f141s5 : SS := ⟨[(0, (.ro (.list 5 (.int .u8)))), (1, (.ro (.int .i64))), (7, (.ro (.int .i64))), (8, (.ro (.int .i64)))], []⟩
def f141con (F : (List Int) → Int → Option (Int × Int × Bool)) : Con := ⟨f141in, f141out, 2, 3, fun x => F x.1 x.2⟩
def f141ctx (k : Nat) : Ctx := ⟨tyAt tys, conAt [], 57, fun _ => false⟩
theorem f141hc (k : Nat) : CtxOk Tryz.prog (f141ctx k) := ctxOk tys_ok mixed_ok (consOk_nil)
theorem f141ok (k : Nat) : FnOk Tryz.prog 141 (f141con (spec_UvarGet k)) :=
  let hc := f141hc k
  fnOk (fn := Tryz.f141) (code := bodyOf Tryz.f141) (res := [.tmp 4, .tmp 5, .tmp 6]) hc (by kernel_rfl) (by kernel_rfl) (by decide) (by kernel_rfl) (by kernel_rfl) (by kernel_rfl) (Nat.le_of_ble_eq_true (by kernel_rfl)) _
    (fun x => Snd.seq (by kernel_rfl) (Snd.seq (by kernel_rfl) (Snd.seq (by kernel_rfl) (Snd.seq (by kernel_rfl) (Snd.exec hc _ _ _ _) (Snd.seq (by kernel_rfl) (Snd.block (id := 0) (by kernel_rfl) (Snd.loop' (by kernel_rfl) f141s5 (fun n x => spec_UvarGet.l5 k n x.1 x.2.1 x.2.2.1 x.2.2.2) _ (fun _ => rfl) (fun n5 => Snd.exec hc _ _ _ _) (fun n x => by kernel_rfl) k)) (Snd.exec hc _ _ _ _))) (Snd.exec hc _ _ _ _)) (Snd.exec hc _ _ _ _)) (Snd.exec hc _ _ _ _))
    (fun x => by kernel_rfl)

def f133in : SS := ⟨[(0, (.ro (.int .i64))), (1, (.ro (.int .i64)))], []⟩
def f133out : SS := ⟨[(0, (.ro (.int .i64)))], []⟩
def f133con (F : Int → Int → Option Int) : Con := ⟨f133in, f133out, 2, 1, fun x => F x.1 x.2⟩
def f133ctx (k : Nat) : Ctx := ⟨tyAt tys, conAt [], 16, fun _ => false⟩
theorem f133hc (k : Nat) : CtxOk Tryz.prog (f133ctx k) := ctxOk tys_ok mixed_ok (consOk_nil)
theorem f133ok (k : Nat) : FnOk Tryz.prog 133 (f133con (spec_l2Down k)) :=
  let hc := f133hc k
  fnOk (fn := Tryz.f133) (code := bodyOf Tryz.f133) (res := [.tmp 4]) hc (by kernel_rfl) (by kernel_rfl) (by decide) (by kernel_rfl) (by kernel_rfl) (by kernel_rfl) (Nat.le_of_ble_eq_true (by kernel_rfl)) _
    (fun x => Snd.exec hc _ _ _ _)
    (fun x => by kernel_rfl)

def f142in : SS := ⟨[(0, (.ro (.int .i64)))], []⟩
def f142out : SS := ⟨[(0, (.ro (.int .i64)))], []⟩
def f142con (F : Int → Option Int) : Con := ⟨f142in, f142out, 1, 1, fun x => F x⟩
def f142ctx (k : Nat) : Ctx := ⟨tyAt tys, conAt [(133, [f133con (spec_l2Down k)])], 11, fun _ => false⟩
theorem f142hc (k : Nat) : CtxOk Tryz.prog (f142ctx k) := ctxOk tys_ok mixed_ok (consOk_cons (f133ok k) (consOk_nil))
theorem f142ok (k : Nat) : FnOk Tryz.prog 142 (f142con (spec_Zag k)) :=
  let hc := f142hc k
  fnOk (fn := Tryz.f142) (code := bodyOf Tryz.f142) (res := [.tmp 2]) hc (by kernel_rfl) (by kernel_rfl) (by decide) (by kernel_rfl) (by kernel_rfl) (by kernel_rfl) (Nat.le_of_ble_eq_true (by kernel_rfl)) _
    (fun x => Snd.exec hc _ _ _ _)
    (fun x => by kernel_rfl)

def f111in : SS := ⟨[(0, (.ro (.list 5 (.int .u8)))), (1, (.ro (.int .i64)))], []⟩
def f111out : SS := ⟨[(0, (.ro (.int .i64))), (1, (.ro (.int .i64))), (2, (.ro .bool))], []⟩
def f111con (F : (List Int) → Int → Option (Int × Int × Bool)) : Con := ⟨f111in, f111out, 2, 3, fun x => F x.1 x.2⟩
def f111ctx (k : Nat) : Ctx := ⟨tyAt tys, conAt [(141, [f141con (spec_UvarGet k)]), (142, [f142con (spec_Zag k)])], 22, fun _ => false⟩
theorem f111hc (k : Nat) : CtxOk Tryz.prog (f111ctx k) := ctxOk tys_ok mixed_ok (consOk_cons (f141ok k) (consOk_cons (f142ok k) (consOk_nil)))
theorem f111ok (k : Nat) : FnOk Tryz.prog 111 (f111con (spec_ZigGet k)) :=
  let hc := f111hc k
  fnOk (fn := Tryz.f111) (code := bodyOf Tryz.f111) (res := [.tmp 4, .tmp 5, .tmp 6]) hc (by kernel_rfl) (by kernel_rfl) (by decide) (by kernel_rfl) (by kernel_rfl) (by kernel_rfl) (Nat.le_of_ble_eq_true (by kernel_rfl)) _
    (fun x => Snd.exec hc _ _ _ _)
    (fun x => by kernel_rfl)

def f91in : SS := ⟨[(0, (.ro (.int .i64))), (1, (.ro (.int .i64))), (2, (.ro (.int .i64)))], []⟩
def f91out : SS := ⟨[(0, (.ro .bool))], []⟩
def f91con (F : Int → Int → Int → Option Bool) : Con := ⟨f91in, f91out, 3, 1, fun x => F x.1 x.2.1 x.2.2⟩
def f91ctx (k : Nat) : Ctx := ⟨tyAt tys, conAt [], 15, fun _ => false⟩
theorem f91hc (k : Nat) : CtxOk Tryz.prog (f91ctx k) := ctxOk tys_ok mixed_ok (consOk_nil)
theorem f91ok (k : Nat) : FnOk Tryz.prog 91 (f91con (spec_l1In k)) :=
  let hc := f91hc k
  fnOk (fn := Tryz.f91) (code := bodyOf Tryz.f91) (res := [.tmp 6]) hc (by kernel_rfl) (by kernel_rfl) (by decide) (by kernel_rfl) (by kernel_rfl) (by kernel_rfl) (Nat.le_of_ble_eq_true (by kernel_rfl)) _
    (fun x => Snd.exec hc _ _ _ _)
    (fun x => by kernel_rfl)

def f112in : SS := ⟨[(0, (.ro (.int .i64)))], []⟩
def f112out : SS := ⟨[(0, (.ro .bool))], []⟩
def f112con (F : Int → Option Bool) : Con := ⟨f112in, f112out, 1, 1, fun x => F x⟩
def f112ctx (k : Nat) : Ctx := ⟨tyAt tys, conAt [(91, [f91con (spec_l1In k)])], 5, fun _ => false⟩
theorem f112hc (k : Nat) : CtxOk Tryz.prog (f112ctx k) := ctxOk tys_ok mixed_ok (consOk_cons (f91ok k) (consOk_nil))
theorem f112ok (k : Nat) : FnOk Tryz.prog 112 (f112con (spec_l4Int k)) :=
  let hc := f112hc k
  fnOk (fn := Tryz.f112) (code := bodyOf Tryz.f112) (res := [.tmp 2]) hc (by kernel_rfl) (by kernel_rfl) (by decide) (by kernel_rfl) (by kernel_rfl) (by kernel_rfl) (Nat.le_of_ble_eq_true (by kernel_rfl)) _
    (fun x => Snd.exec hc _ _ _ _)
    (fun x => by kernel_rfl)

def f113in : SS := ⟨[(0, (.ro (.list 5 (.int .u8)))), (1, (.ro (.int .i64)))], []⟩
def f113out : SS := ⟨[(0, (.ro .str)), (1, (.ro (.int .i64))), (2, (.ro (.int .i64)))], []⟩
def f113con (F : (List Int) → Int → Option (ByteArray × Int × Int)) : Con := ⟨f113in, f113out, 2, 3, fun x => F x.1 x.2⟩
def f113ctx (k : Nat) : Ctx := ⟨tyAt tys, conAt [(141, [f141con (spec_UvarGet k)])], 44, fun _ => false⟩
theorem f113hc (k : Nat) : CtxOk Tryz.prog (f113ctx k) := ctxOk tys_ok mixed_ok (consOk_cons (f141ok k) (consOk_nil))
theorem f113ok (k : Nat) : FnOk Tryz.prog 113 (f113con (spec_l4Text k)) :=
  let hc := f113hc k
  fnOk (fn := Tryz.f113) (code := bodyOf Tryz.f113) (res := [.tmp 4, .tmp 5, .tmp 6]) hc (by kernel_rfl) (by kernel_rfl) (by decide) (by kernel_rfl) (by kernel_rfl) (by kernel_rfl) (Nat.le_of_ble_eq_true (by kernel_rfl)) _
    (fun x => Snd.exec hc _ _ _ _)
    (fun x => by kernel_rfl)

def f144in : SS := ⟨[(0, (.ro (.int .i64)))], []⟩
def f144out : SS := ⟨[(0, (.ro .bool))], []⟩
def f144s9 : SS := ⟨[(4, (.ro .bool))], []⟩
def f144con (F : Int → Option Bool) : Con := ⟨f144in, f144out, 1, 1, fun x => F x⟩
def f144ctx (k : Nat) : Ctx := ⟨tyAt tys, conAt [], 12, fun _ => false⟩
theorem f144hc (k : Nat) : CtxOk Tryz.prog (f144ctx k) := ctxOk tys_ok mixed_ok (consOk_nil)
theorem f144ok (k : Nat) : FnOk Tryz.prog 144 (f144con (spec_l4Kind k)) :=
  let hc := f144hc k
  fnOk (fn := Tryz.f144) (code := bodyOf Tryz.f144) (res := [.tmp 2]) hc (by kernel_rfl) (by kernel_rfl) (by decide) (by kernel_rfl) (by kernel_rfl) (by kernel_rfl) (Nat.le_of_ble_eq_true (by kernel_rfl)) _
    (fun x => Snd.seq (by kernel_rfl) (Snd.seq (by kernel_rfl) (Snd.exec hc _ _ _ _) (Snd.seq (by kernel_rfl) (Snd.block (id := 0) (by kernel_rfl) (Snd.seq (by kernel_rfl) (Snd.cut (Snd.exec hc _ _ _ _) ⟨f144s9, fun x => spec_l4Kind.c9 k x⟩ (fun x => by kernel_rfl)) (Snd.exec hc _ _ _ _))) (Snd.exec hc _ _ _ _))) (Snd.exec hc _ _ _ _))
    (fun x => by kernel_rfl)

def f143in : SS := ⟨[(0, (.ro (.int .i64)))], []⟩
def f143out : SS := ⟨[(0, (.ro .bool))], []⟩
def f143con (F : Int → Option Bool) : Con := ⟨f143in, f143out, 1, 1, fun x => F x⟩
def f143ctx (k : Nat) : Ctx := ⟨tyAt tys, conAt [(144, [f144con (spec_l4Kind k)])], 13, fun _ => false⟩
theorem f143hc (k : Nat) : CtxOk Tryz.prog (f143ctx k) := ctxOk tys_ok mixed_ok (consOk_cons (f144ok k) (consOk_nil))
theorem f143ok (k : Nat) : FnOk Tryz.prog 143 (f143con (spec_l4Item k)) :=
  let hc := f143hc k
  fnOk (fn := Tryz.f143) (code := bodyOf Tryz.f143) (res := [.tmp 2]) hc (by kernel_rfl) (by kernel_rfl) (by decide) (by kernel_rfl) (by kernel_rfl) (by kernel_rfl) (Nat.le_of_ble_eq_true (by kernel_rfl)) _
    (fun x => Snd.exec hc _ _ _ _)
    (fun x => by kernel_rfl)

def f114in : SS := ⟨[(0, (.ro (.list 5 (.int .u8)))), (1, (.ro (.int .i64)))], []⟩
def f114out : SS := ⟨[(0, (.ro (.int .i64))), (1, (.ro (.int .i64))), (2, (.ro (.int .i64))), (3, (.ro (.int .i64)))], []⟩
def f114s11 : SS := ⟨[(1, (.ro (.int .i64))), (8, (.ro (.int .i64))), (9, (.ro (.int .i64)))], []⟩
def f114con (F : (List Int) → Int → Option (Int × Int × Int × Int)) : Con := ⟨f114in, f114out, 2, 4, fun x => F x.1 x.2⟩
def f114ctx (k : Nat) : Ctx := ⟨tyAt tys, conAt [(141, [f141con (spec_UvarGet k)]), (143, [f143con (spec_l4Item k)])], 62, fun _ => false⟩
theorem f114hc (k : Nat) : CtxOk Tryz.prog (f114ctx k) := ctxOk tys_ok mixed_ok (consOk_cons (f141ok k) (consOk_cons (f143ok k) (consOk_nil)))
theorem f114ok (k : Nat) : FnOk Tryz.prog 114 (f114con (spec_l4Many k)) :=
  let hc := f114hc k
  fnOk (fn := Tryz.f114) (code := bodyOf Tryz.f114) (res := [.tmp 4, .tmp 5, .tmp 6, .tmp 7]) hc (by kernel_rfl) (by kernel_rfl) (by decide) (by kernel_rfl) (by kernel_rfl) (by kernel_rfl) (Nat.le_of_ble_eq_true (by kernel_rfl)) _
    (fun x => Snd.seq (by kernel_rfl) (Snd.seq (by kernel_rfl) (Snd.seq (by kernel_rfl) (Snd.seq (by kernel_rfl) (Snd.seq (by kernel_rfl) (Snd.cut (Snd.exec hc _ _ _ _) ⟨f114s11, fun x => spec_l4Many.c11 k x.1 x.2.1 x.2.2⟩ (fun x => by kernel_rfl)) (Snd.exec hc _ _ _ _)) (Snd.exec hc _ _ _ _)) (Snd.exec hc _ _ _ _)) (Snd.exec hc _ _ _ _)) (Snd.exec hc _ _ _ _))
    (fun x => by kernel_rfl)

def f115in : SS := ⟨[(0, (.ro (.list 5 (.int .u8)))), (1, (.ro (.int .i64))), (2, (.ro (.int .i64)))], []⟩
def f115out : SS := ⟨[(0, (.ro (.int .i64))), (1, (.ro (.int .i64))), (2, (.ro (.int .i64))), (3, (.ro (.int .i64)))], []⟩
def f115s16 : SS := ⟨[(1, (.ro (.int .i64))), (2, (.ro (.int .i64))), (10, (.ro (.int .i64))), (12, (.ro (.int .i64)))], []⟩
def f115con (F : (List Int) → Int → Int → Option (Int × Int × Int × Int)) : Con := ⟨f115in, f115out, 3, 4, fun x => F x.1 x.2.1 x.2.2⟩
def f115ctx (k : Nat) : Ctx := ⟨tyAt tys, conAt [(91, [f91con (spec_l1In k)]), (111, [f111con (spec_ZigGet k)]), (144, [f144con (spec_l4Kind k)])], 71, fun _ => false⟩
theorem f115hc (k : Nat) : CtxOk Tryz.prog (f115ctx k) := ctxOk tys_ok mixed_ok (consOk_cons (f91ok k) (consOk_cons (f111ok k) (consOk_cons (f144ok k) (consOk_nil))))
theorem f115ok (k : Nat) : FnOk Tryz.prog 115 (f115con (spec_l4Head k)) :=
  let hc := f115hc k
  fnOk (fn := Tryz.f115) (code := bodyOf Tryz.f115) (res := [.tmp 6, .tmp 7, .tmp 8, .tmp 9]) hc (by kernel_rfl) (by kernel_rfl) (by decide) (by kernel_rfl) (by kernel_rfl) (by kernel_rfl) (Nat.le_of_ble_eq_true (by kernel_rfl)) _
    (fun x => Snd.seq (by kernel_rfl) (Snd.seq (by kernel_rfl) (Snd.seq (by kernel_rfl) (Snd.seq (by kernel_rfl) (Snd.seq (by kernel_rfl) (Snd.seq (by kernel_rfl) (Snd.seq (by kernel_rfl) (Snd.seq (by kernel_rfl) (Snd.cut (Snd.exec hc _ _ _ _) ⟨f115s16, fun x => spec_l4Head.c16 k x.1 x.2.1 x.2.2.1 x.2.2.2⟩ (fun x => by kernel_rfl)) (Snd.exec hc _ _ _ _)) (Snd.exec hc _ _ _ _)) (Snd.exec hc _ _ _ _)) (Snd.exec hc _ _ _ _)) (Snd.exec hc _ _ _ _)) (Snd.exec hc _ _ _ _)) (Snd.exec hc _ _ _ _)) (Snd.exec hc _ _ _ _))
    (fun x => by kernel_rfl)

def f67in : SS := ⟨[(0, (.ro (.list 5 (.int .u8)))), (1, (.ro (.int .i64))), (2, (.ro (.int .i64))), (3, (.ro (.int .i64))), (4, (.ro (.int .i64))), (5, (.h 10))], [(10, (.sl 78 (.st (.cons (.int .i64) (.cons (.int .i64) (.cons (.int .i64) (.cons .str (.cons (.int .i64) .nil))))))))]⟩
def f67out : SS := ⟨[(0, (.h 100)), (1, (.ro (.int .i64))), (2, (.ro (.int .i64)))], [(100, (.sl 78 (.st (.cons (.int .i64) (.cons (.int .i64) (.cons (.int .i64) (.cons .str (.cons (.int .i64) .nil))))))))]⟩
def f67s24 : SS := ⟨[(0, (.ro (.list 5 (.int .u8)))), (4, (.ro (.int .i64))), (5, (.h 100)), (22, (.ro (.int .i64))), (23, (.ro (.int .i64))), (24, (.ro (.int .i64))), (25, (.ro (.int .i64))), (26, (.ro (.int .i64)))], [(100, (.sl 78 (.st (.cons (.int .i64) (.cons (.int .i64) (.cons (.int .i64) (.cons .str (.cons (.int .i64) .nil))))))))]⟩
def f67s30 : SS := ⟨[(0, (.ro (.list 5 (.int .u8)))), (1, (.ro (.int .i64))), (4, (.ro (.int .i64))), (5, (.h 100)), (15, (.ro (.int .i64))), (27, (.ro (.int .i64))), (28, (.ro (.int .i64)))], [(100, (.sl 78 (.st (.cons (.int .i64) (.cons (.int .i64) (.cons (.int .i64) (.cons .str (.cons (.int .i64) .nil))))))))]⟩
def f67s8 : SS := ⟨[(0, (.ro (.list 5 (.int .u8)))), (1, (.ro (.int .i64))), (2, (.ro (.int .i64))), (4, (.ro (.int .i64))), (5, (.h 100)), (15, (.ro (.int .i64))), (49, (.ro (.int .i64))), (50, (.ro .bool))], [(100, (.sl 78 (.st (.cons (.int .i64) (.cons (.int .i64) (.cons (.int .i64) (.cons .str (.cons (.int .i64) .nil))))))))]⟩
def f67con (F : (List Int) → Int → Int → Int → Int → (List TNode) → Option ((Unit × Int × Int) × (List TNode))) : Con := ⟨f67in, f67out, 6, 3, fun x => F x.1.1 x.1.2.1 x.1.2.2.1 x.1.2.2.2.1 x.1.2.2.2.2.1 x.2⟩
def f67ctx (k : Nat) (S67 : (List Int) → Int → Int → Int → Int → (List TNode) → Option ((Unit × Int × Int) × (List TNode))) : Ctx := ⟨tyAt tys, conAt [(67, [f67con S67]), (111, [f111con (spec_ZigGet k)]), (112, [f112con (spec_l4Int k)]), (113, [f113con (spec_l4Text k)]), (114, [f114con (spec_l4Many k)]), (115, [f115con (spec_l4Head k)])], 183, fun _ => false⟩
theorem f67hc (k : Nat) (S67 : (List Int) → Int → Int → Int → Int → (List TNode) → Option ((Unit × Int × Int) × (List TNode))) (h67 : FnOk Tryz.prog 67 (f67con S67)) : CtxOk Tryz.prog (f67ctx k S67) := ctxOk tys_ok mixed_ok (consOk_cons (h67) (consOk_cons (f111ok k) (consOk_cons (f112ok k) (consOk_cons (f113ok k) (consOk_cons (f114ok k) (consOk_cons (f115ok k) (consOk_nil)))))))
theorem f67okb (k : Nat) (S67 : (List Int) → Int → Int → Int → Int → (List TNode) → Option ((Unit × Int × Int) × (List TNode))) (h67 : FnOk Tryz.prog 67 (f67con S67)) : FnOk Tryz.prog 67 (f67con (spec_l4Read.b k S67)) :=
  let hc := f67hc k S67 h67
  fnOk (fn := Tryz.f67) (code := bodyOf Tryz.f67) (res := [.tmp 12, .tmp 13, .tmp 14]) hc (by kernel_rfl) (by kernel_rfl) (by decide) (by kernel_rfl) (by kernel_rfl) (by kernel_rfl) (Nat.le_of_ble_eq_true (by kernel_rfl)) _
    (fun x => Snd.seq (by kernel_rfl) (Snd.seq (by kernel_rfl) (Snd.seq (by kernel_rfl) (Snd.seq (by kernel_rfl) (Snd.seq (by kernel_rfl) (Snd.exec hc _ _ _ _) (Snd.seq (by kernel_rfl) (Snd.block (id := 0) (by kernel_rfl) (Snd.seq (by kernel_rfl) (Snd.cut (Snd.cond (x := .tmp 50) (by kernel_rfl) (Snd.exec hc _ _ _ _) (Snd.seq (by kernel_rfl) (Snd.cond (x := .tmp 78) (by kernel_rfl) (Snd.exec hc _ _ _ _) (Snd.seq (by kernel_rfl) (Snd.cond (x := .tmp 95) (by kernel_rfl) (Snd.seq (by kernel_rfl) (Snd.seq (by kernel_rfl) (Snd.seq (by kernel_rfl) (Snd.seq (by kernel_rfl) (Snd.exec hc _ _ _ _) (Snd.seq (by kernel_rfl) (Snd.block (id := 1) (by kernel_rfl) (Snd.loop' (by kernel_rfl) f67s24 (fun n x => spec_l4Read.l24 k S67 n x.1.1 x.1.2.1 x.1.2.2.2.1 x.1.2.2.2.2.1 x.1.2.2.2.2.2.1 x.1.2.2.2.2.2.2.1 x.1.2.2.2.2.2.2.2 x.2) _ (fun _ => rfl) (fun n24 => Snd.exec hc _ _ _ _) (fun n x => by kernel_rfl) k)) (Snd.exec hc _ _ _ _))) (Snd.exec hc _ _ _ _)) (Snd.exec hc _ _ _ _)) (Snd.exec hc _ _ _ _)) (Snd.seq (by kernel_rfl) (Snd.cond (x := .tmp 138) (by kernel_rfl) (Snd.seq (by kernel_rfl) (Snd.block (id := 3) (by kernel_rfl) (Snd.loop' (by kernel_rfl) f67s30 (fun n x => spec_l4Read.l30 k S67 n x.1.1 x.1.2.1 x.1.2.2.1 x.1.2.2.2.2.1 x.1.2.2.2.2.2.1 x.1.2.2.2.2.2.2 x.2) _ (fun _ => rfl) (fun n30 => Snd.exec hc _ _ _ _) (fun n x => by kernel_rfl) k)) (Snd.exec hc _ _ _ _)) (Snd.exec hc _ _ _ _)) (Snd.exec hc _ _ _ _))) (Snd.exec hc _ _ _ _))) (Snd.exec hc _ _ _ _))) ⟨f67s8, fun x => spec_l4Read.c8 k S67 x.1.1 x.1.2.1 x.1.2.2.1 x.1.2.2.2.1 x.1.2.2.2.2.2.1 x.1.2.2.2.2.2.2.1 x.1.2.2.2.2.2.2.2 x.2⟩ (fun x => by kernel_rfl)) (Snd.exec hc _ _ _ _))) (Snd.exec hc _ _ _ _))) (Snd.exec hc _ _ _ _)) (Snd.exec hc _ _ _ _)) (Snd.exec hc _ _ _ _)) (Snd.exec hc _ _ _ _))
    (fun x => by kernel_rfl)
theorem f67rec (k : Nat) : ∀ d, FnOk Tryz.prog 67 (f67con (spec_l4Read.d k d))
  | 0 => FnOk_none (fun _ => rfl)
  | d + 1 => let ih := f67rec k d
    f67okb k (spec_l4Read.d k d) ih
theorem f67ok (k : Nat) : FnOk Tryz.prog 67 (f67con (spec_l4Read k)) := (f67rec k k)

def f32in : SS := ⟨[(0, (.ro (.list 5 (.int .u8)))), (1, (.ro (.int .i64)))], []⟩
def f32out : SS := ⟨[(0, (.h 100)), (1, (.ro (.int .i64))), (2, (.ro (.int .i64)))], [(100, (.sl 78 (.st (.cons (.int .i64) (.cons (.int .i64) (.cons (.int .i64) (.cons .str (.cons (.int .i64) .nil))))))))]⟩
def f32con (F : (List Int) → Int → Option ((Unit × Int × Int) × (List TNode))) : Con := ⟨f32in, f32out, 2, 3, fun x => F x.1 x.2⟩
def f32ctx (k : Nat) : Ctx := ⟨tyAt tys, conAt [(67, [f67con (spec_l4Read k)])], 34, fun _ => false⟩
theorem f32hc (k : Nat) : CtxOk Tryz.prog (f32ctx k) := ctxOk tys_ok mixed_ok (consOk_cons (f67ok k) (consOk_nil))
theorem f32ok (k : Nat) : FnOk Tryz.prog 32 (f32con (spec_TreeRead k)) :=
  let hc := f32hc k
  fnOk (fn := Tryz.f32) (code := bodyOf Tryz.f32) (res := [.tmp 4, .tmp 5, .tmp 6]) hc (by kernel_rfl) (by kernel_rfl) (by decide) (by kernel_rfl) (by kernel_rfl) (by kernel_rfl) (Nat.le_of_ble_eq_true (by kernel_rfl)) _
    (fun x => Snd.exec hc _ _ _ _)
    (fun x => by kernel_rfl)

def f71in : SS := ⟨[(0, (.ro (.list 60 (.st (.cons .str (.cons (.int .i64) (.cons (.int .i64) (.cons (.int .i64) .nil))))))))], []⟩
def f71out : SS := ⟨[(0, (.h 100))], [(100, (.sl 3 (.int .i64)))]⟩
def f71s4 : SS := ⟨[(0, (.ro (.list 60 (.st (.cons .str (.cons (.int .i64) (.cons (.int .i64) (.cons (.int .i64) .nil)))))))), (3, (.h 100)), (4, (.ro (.int .i64)))], [(100, (.sl 3 (.int .i64)))]⟩
def f71s3 : SS := ⟨[(0, (.ro (.list 60 (.st (.cons .str (.cons (.int .i64) (.cons (.int .i64) (.cons (.int .i64) .nil)))))))), (3, (.h 100)), (4, (.ro (.int .i64)))], [(100, (.sl 3 (.int .i64)))]⟩
def f71con (F : (List TCol) → Option (Unit × (List Int))) : Con := ⟨f71in, f71out, 1, 1, fun x => F x⟩
def f71ctx (k : Nat) : Ctx := ⟨tyAt tys, conAt [], 23, fun _ => false⟩
theorem f71hc (k : Nat) : CtxOk Tryz.prog (f71ctx k) := ctxOk tys_ok mixed_ok (consOk_nil)
theorem f71ok (k : Nat) : FnOk Tryz.prog 71 (f71con (spec_l5Leaves k)) :=
  let hc := f71hc k
  fnOk (fn := Tryz.f71) (code := bodyOf Tryz.f71) (res := [.tmp 2]) hc (by kernel_rfl) (by kernel_rfl) (by decide) (by kernel_rfl) (by kernel_rfl) (by kernel_rfl) (Nat.le_of_ble_eq_true (by kernel_rfl)) _
    (fun x => Snd.seq (by kernel_rfl) (Snd.seq (by kernel_rfl) (Snd.seq (by kernel_rfl) (Snd.exec hc _ _ _ _) (Snd.seq (by kernel_rfl) (Snd.block (id := 0) (by kernel_rfl) (Snd.loop' (by kernel_rfl) f71s3 (fun n x => spec_l5Leaves.l3 k n x.1.1 x.1.2.2 x.2) _ (fun _ => rfl) (fun n3 => Snd.seq (by kernel_rfl) (Snd.seq (by kernel_rfl) (Snd.cut (Snd.exec hc _ _ _ _) ⟨f71s4, fun x => spec_l5Leaves.c4 k (spec_l5Leaves.l3 k n3) x.1.1 x.1.2.2 x.2⟩ (fun x => by kernel_rfl)) (Snd.exec hc _ _ _ _)) (Snd.exec hc _ _ _ _)) (fun n x => by kernel_rfl) k)) (Snd.exec hc _ _ _ _))) (Snd.exec hc _ _ _ _)) (Snd.exec hc _ _ _ _))
    (fun x => by kernel_rfl)

def f147in : SS := ⟨[(0, (.ro .str))], []⟩
def f147out : SS := ⟨[(0, (.ro .bool))], []⟩
def f147s4 : SS := ⟨[(0, (.ro .str)), (3, (.ro (.int .i64)))], []⟩
def f147con (F : ByteArray → Option Bool) : Con := ⟨f147in, f147out, 1, 1, fun x => F x⟩
def f147ctx (k : Nat) : Ctx := ⟨tyAt tys, conAt [(91, [f91con (spec_l1In k)])], 24, fun _ => false⟩
theorem f147hc (k : Nat) : CtxOk Tryz.prog (f147ctx k) := ctxOk tys_ok mixed_ok (consOk_cons (f91ok k) (consOk_nil))
theorem f147ok (k : Nat) : FnOk Tryz.prog 147 (f147con (spec_l5Name k)) :=
  let hc := f147hc k
  fnOk (fn := Tryz.f147) (code := bodyOf Tryz.f147) (res := [.tmp 2]) hc (by kernel_rfl) (by kernel_rfl) (by decide) (by kernel_rfl) (by kernel_rfl) (by kernel_rfl) (Nat.le_of_ble_eq_true (by kernel_rfl)) _
    (fun x => Snd.seq (by kernel_rfl) (Snd.seq (by kernel_rfl) (Snd.seq (by kernel_rfl) (Snd.exec hc _ _ _ _) (Snd.seq (by kernel_rfl) (Snd.block (id := 0) (by kernel_rfl) (Snd.loop' (by kernel_rfl) f147s4 (fun n x => spec_l5Name.l4 k n x.1 x.2) _ (fun _ => rfl) (fun n4 => Snd.exec hc _ _ _ _) (fun n x => by kernel_rfl) k)) (Snd.exec hc _ _ _ _))) (Snd.exec hc _ _ _ _)) (Snd.exec hc _ _ _ _))
    (fun x => by kernel_rfl)

def f148in : SS := ⟨[(0, (.ro (.int .i64)))], []⟩
def f148out : SS := ⟨[(0, (.ro .bool))], []⟩
def f148s7 : SS := ⟨[(4, (.ro .bool))], []⟩
def f148con (F : Int → Option Bool) : Con := ⟨f148in, f148out, 1, 1, fun x => F x⟩
def f148ctx (k : Nat) : Ctx := ⟨tyAt tys, conAt [], 10, fun _ => false⟩
theorem f148hc (k : Nat) : CtxOk Tryz.prog (f148ctx k) := ctxOk tys_ok mixed_ok (consOk_nil)
theorem f148ok (k : Nat) : FnOk Tryz.prog 148 (f148con (spec_l5Type k)) :=
  let hc := f148hc k
  fnOk (fn := Tryz.f148) (code := bodyOf Tryz.f148) (res := [.tmp 2]) hc (by kernel_rfl) (by kernel_rfl) (by decide) (by kernel_rfl) (by kernel_rfl) (by kernel_rfl) (Nat.le_of_ble_eq_true (by kernel_rfl)) _
    (fun x => Snd.seq (by kernel_rfl) (Snd.seq (by kernel_rfl) (Snd.exec hc _ _ _ _) (Snd.seq (by kernel_rfl) (Snd.block (id := 0) (by kernel_rfl) (Snd.seq (by kernel_rfl) (Snd.cut (Snd.exec hc _ _ _ _) ⟨f148s7, fun x => spec_l5Type.c7 k x⟩ (fun x => by kernel_rfl)) (Snd.exec hc _ _ _ _))) (Snd.exec hc _ _ _ _))) (Snd.exec hc _ _ _ _))
    (fun x => by kernel_rfl)

def f129in : SS := ⟨[(0, (.ro (.list 60 (.st (.cons .str (.cons (.int .i64) (.cons (.int .i64) (.cons (.int .i64) .nil)))))))), (1, (.ro (.int .i64))), (2, (.ro (.int .i64)))], []⟩
def f129out : SS := ⟨[(0, (.ro (.int .i64)))], []⟩
def f129s20 : SS := ⟨[(0, (.ro (.list 60 (.st (.cons .str (.cons (.int .i64) (.cons (.int .i64) (.cons (.int .i64) .nil)))))))), (2, (.ro (.int .i64))), (7, (.p 100)), (8, (.ro (.int .i64))), (9, (.h 101)), (10, (.ro (.int .i64))), (11, (.ro (.int .i64)))], [(100, (.box (.st (.cons .str (.cons (.int .i64) (.cons (.int .i64) (.cons (.int .i64) .nil))))) (.agg (.cons (.ro .str) (.cons (.ro (.int .i64)) (.cons (.ro (.int .i64)) (.cons (.ro (.int .i64)) .nil))))))), (101, (.sl 9 .str))]⟩
def f129s15 : SS := ⟨[(0, (.ro (.list 60 (.st (.cons .str (.cons (.int .i64) (.cons (.int .i64) (.cons (.int .i64) .nil)))))))), (2, (.ro (.int .i64))), (7, (.p 100)), (8, (.ro (.int .i64))), (9, (.h 101)), (10, (.ro (.int .i64)))], [(100, (.box (.st (.cons .str (.cons (.int .i64) (.cons (.int .i64) (.cons (.int .i64) .nil))))) (.agg (.cons (.ro .str) (.cons (.ro (.int .i64)) (.cons (.ro (.int .i64)) (.cons (.ro (.int .i64)) .nil))))))), (101, (.sl 9 .str))]⟩
def f129con (F : (List TCol) → Int → Int → Option Int) : Con := ⟨f129in, f129out, 3, 1, fun x => F x.1 x.2.1 x.2.2⟩
def f129ctx (k : Nat) (S129 : (List TCol) → Int → Int → Option Int) : Ctx := ⟨tyAt tys, conAt [(91, [f91con (spec_l1In k)]), (129, [f129con S129]), (147, [f147con (spec_l5Name k)]), (148, [f148con (spec_l5Type k)])], 119, fun _ => false⟩
theorem f129hc (k : Nat) (S129 : (List TCol) → Int → Int → Option Int) (h129 : FnOk Tryz.prog 129 (f129con S129)) : CtxOk Tryz.prog (f129ctx k S129) := ctxOk tys_ok mixed_ok (consOk_cons (f91ok k) (consOk_cons (h129) (consOk_cons (f147ok k) (consOk_cons (f148ok k) (consOk_nil)))))
theorem f129okb (k : Nat) (S129 : (List TCol) → Int → Int → Option Int) (h129 : FnOk Tryz.prog 129 (f129con S129)) : FnOk Tryz.prog 129 (f129con (spec_l5Check.b k S129)) :=
  let hc := f129hc k S129 h129
  fnOk (fn := Tryz.f129) (code := bodyOf Tryz.f129) (res := [.tmp 6]) hc (by kernel_rfl) (by kernel_rfl) (by decide) (by kernel_rfl) (by kernel_rfl) (by kernel_rfl) (Nat.le_of_ble_eq_true (by kernel_rfl)) _
    (fun x => Snd.seq (by kernel_rfl) (Snd.seq (by kernel_rfl) (Snd.seq (by kernel_rfl) (Snd.seq (by kernel_rfl) (Snd.seq (by kernel_rfl) (Snd.seq (by kernel_rfl) (Snd.seq (by kernel_rfl) (Snd.seq (by kernel_rfl) (Snd.seq (by kernel_rfl) (Snd.exec hc _ _ _ _) (Snd.seq (by kernel_rfl) (Snd.block (id := 0) (by kernel_rfl) (Snd.loop' (by kernel_rfl) f129s15 (fun n x => spec_l5Check.l15 k S129 n x.1.1 x.1.2.1 x.1.2.2.2.1 x.1.2.2.2.2.2 x.2.1 x.2.2) _ (fun _ => rfl) (fun n15 => Snd.seq (by kernel_rfl) (Snd.seq (by kernel_rfl) (Snd.exec hc _ _ _ _) (Snd.block (id := 1) (by kernel_rfl) (Snd.seq (by kernel_rfl) (Snd.seq (by kernel_rfl) (Snd.exec hc _ _ _ _) (Snd.seq (by kernel_rfl) (Snd.block (id := 2) (by kernel_rfl) (Snd.loop' (by kernel_rfl) f129s20 (fun n x => spec_l5Check.l20 k S129 (spec_l5Check.l15 k S129 n15) n x.1.1 x.1.2.1 x.1.2.2.2.1 x.1.2.2.2.2.2.1 x.1.2.2.2.2.2.2 x.2.1 x.2.2) _ (fun _ => rfl) (fun n20 => Snd.exec hc _ _ _ _) (fun n x => by kernel_rfl) k)) (Snd.exec hc _ _ _ _))) (Snd.exec hc _ _ _ _)))) (Snd.exec hc _ _ _ _)) (fun n x => by kernel_rfl) k)) (Snd.exec hc _ _ _ _))) (Snd.exec hc _ _ _ _)) (Snd.exec hc _ _ _ _)) (Snd.exec hc _ _ _ _)) (Snd.exec hc _ _ _ _)) (Snd.exec hc _ _ _ _)) (Snd.exec hc _ _ _ _)) (Snd.exec hc _ _ _ _)) (Snd.exec hc _ _ _ _))
    (fun x => by kernel_rfl)
theorem f129rec (k : Nat) : ∀ d, FnOk Tryz.prog 129 (f129con (spec_l5Check.d k d))
  | 0 => FnOk_none (fun _ => rfl)
  | d + 1 => let ih := f129rec k d
    f129okb k (spec_l5Check.d k d) ih
theorem f129ok (k : Nat) : FnOk Tryz.prog 129 (f129con (spec_l5Check k)) := (f129rec k k)

def f90in : SS := ⟨[(0, (.ro (.list 60 (.st (.cons .str (.cons (.int .i64) (.cons (.int .i64) (.cons (.int .i64) .nil))))))))], []⟩
def f90out : SS := ⟨[(0, (.ro .bool))], []⟩
def f90con (F : (List TCol) → Option Bool) : Con := ⟨f90in, f90out, 1, 1, fun x => F x⟩
def f90ctx (k : Nat) : Ctx := ⟨tyAt tys, conAt [(91, [f91con (spec_l1In k)]), (129, [f129con (spec_l5Check k)])], 13, fun _ => false⟩
theorem f90hc (k : Nat) : CtxOk Tryz.prog (f90ctx k) := ctxOk tys_ok mixed_ok (consOk_cons (f91ok k) (consOk_cons (f129ok k) (consOk_nil)))
theorem f90ok (k : Nat) : FnOk Tryz.prog 90 (f90con (spec_SchemaOk k)) :=
  let hc := f90hc k
  fnOk (fn := Tryz.f90) (code := bodyOf Tryz.f90) (res := [.tmp 2]) hc (by kernel_rfl) (by kernel_rfl) (by decide) (by kernel_rfl) (by kernel_rfl) (by kernel_rfl) (Nat.le_of_ble_eq_true (by kernel_rfl)) _
    (fun x => Snd.exec hc _ _ _ _)
    (fun x => by kernel_rfl)

def f89in : SS := ⟨[(0, (.ro (.list 60 (.st (.cons .str (.cons (.int .i64) (.cons (.int .i64) (.cons (.int .i64) .nil))))))))], []⟩
def f89out : SS := ⟨[(0, (.h 100))], [(100, (.sl 3 (.int .i64)))]⟩
def f89con (F : (List TCol) → Option (Unit × (List Int))) : Con := ⟨f89in, f89out, 1, 1, fun x => F x⟩
def f89ctx (k : Nat) : Ctx := ⟨tyAt tys, conAt [(71, [f71con (spec_l5Leaves k)]), (90, [f90con (spec_SchemaOk k)])], 9, fun _ => false⟩
theorem f89hc (k : Nat) : CtxOk Tryz.prog (f89ctx k) := ctxOk tys_ok mixed_ok (consOk_cons (f71ok k) (consOk_cons (f90ok k) (consOk_nil)))
theorem f89ok (k : Nat) : FnOk Tryz.prog 89 (f89con (spec_SchemaLeaves k)) :=
  let hc := f89hc k
  fnOk (fn := Tryz.f89) (code := bodyOf Tryz.f89) (res := [.tmp 2]) hc (by kernel_rfl) (by kernel_rfl) (by decide) (by kernel_rfl) (by kernel_rfl) (by kernel_rfl) (Nat.le_of_ble_eq_true (by kernel_rfl)) _
    (fun x => Snd.exec hc _ _ _ _)
    (fun x => by kernel_rfl)

def f92in : SS := ⟨[(0, (.ro (.st (.cons (.int .i64) (.cons (.int .i64) (.cons (.int .i64) (.cons (.int .i64) (.cons (.int .i64) (.cons (.list 3 (.int .i64)) .nil))))))))), (1, (.ro (.int .i64)))], []⟩
def f92out : SS := ⟨[(0, (.ro .bool))], []⟩
def f92d6 : SS := ⟨[(2, (.p 100)), (5, (.ro (.int .i64)))], [(100, (.box (.st (.cons (.int .i64) (.cons (.int .i64) (.cons (.int .i64) (.cons (.int .i64) (.cons (.int .i64) (.cons (.list 3 (.int .i64)) .nil))))))) (.agg (.cons (.ro (.int .i64)) (.cons (.ro (.int .i64)) (.cons (.ro (.int .i64)) (.cons (.ro (.int .i64)) (.cons (.ro (.int .i64)) (.cons (.ro (.list 3 (.int .i64))) .nil)))))))))]⟩
def f92s4 : SS := ⟨[(2, (.p 100)), (5, (.ro (.int .i64)))], [(100, (.box (.st (.cons (.int .i64) (.cons (.int .i64) (.cons (.int .i64) (.cons (.int .i64) (.cons (.int .i64) (.cons (.list 3 (.int .i64)) .nil))))))) (.agg (.cons (.ro (.int .i64)) (.cons (.ro (.int .i64)) (.cons (.ro (.int .i64)) (.cons (.ro (.int .i64)) (.cons (.ro (.int .i64)) (.cons (.ro (.list 3 (.int .i64))) .nil)))))))))]⟩
def f92con (F : TChunk → Int → Option Bool) : Con := ⟨f92in, f92out, 2, 1, fun x => F x.1 x.2⟩
def f92ctx (k : Nat) : Ctx := ⟨tyAt tys, conAt [(91, [f91con (spec_l1In k)])], 73, fun _ => false⟩
theorem f92hc (k : Nat) : CtxOk Tryz.prog (f92ctx k) := ctxOk tys_ok mixed_ok (consOk_cons (f91ok k) (consOk_nil))
theorem f92ok (k : Nat) : FnOk Tryz.prog 92 (f92con (spec_l18Chunk k)) :=
  let hc := f92hc k
  fnOk (fn := Tryz.f92) (code := bodyOf Tryz.f92) (res := [.tmp 4]) hc (by kernel_rfl) (by kernel_rfl) (by decide) (by kernel_rfl) (by kernel_rfl) (by kernel_rfl) (Nat.le_of_ble_eq_true (by kernel_rfl)) _
    (fun x => Snd.seq (by kernel_rfl) (Snd.seq (by kernel_rfl) (Snd.seq (by kernel_rfl) (Snd.exec hc _ _ _ _) (Snd.seq (by kernel_rfl) (Snd.block (id := 0) (by kernel_rfl) (Snd.loop' (by kernel_rfl) f92s4 (fun n x => spec_l18Chunk.l4 k n x.1.2 x.2) _ (fun _ => rfl) (fun n4 => Snd.seq (by kernel_rfl) (Snd.seq (by kernel_rfl) (Snd.exec hc _ _ _ _) (Snd.block (id := 1) (by kernel_rfl) (Snd.seq (by kernel_rfl) (Snd.exec hc _ _ _ _) (Snd.fork hc (id := 6) (by kernel_rfl) ⟨f92d6, fun x => spec_l18Chunk.d6 k (spec_l18Chunk.l4 k n4) x.1.2 x.2⟩ [[0, 2, 1, 3, 4, 5, 6, 7, 8, 9, 10, 11, 12, 13, 14, 15, 16, 17, 18, 19, 20, 21, 22, 23, 24]] (by kernel_rfl) (ords_cons (fun x => by kernel_rfl) (ords_nil)))))) (Snd.exec hc _ _ _ _)) (fun n x => by kernel_rfl) k)) (Snd.exec hc _ _ _ _))) (Snd.exec hc _ _ _ _)) (Snd.exec hc _ _ _ _))
    (fun x => by kernel_rfl)

def f53in : SS := ⟨[(0, (.ro (.st (.cons (.list 60 (.st (.cons .str (.cons (.int .i64) (.cons (.int .i64) (.cons (.int .i64) .nil)))))) (.cons (.int .i64) (.cons (.list 37 (.st (.cons (.int .i64) (.cons (.list 40 (.st (.cons (.int .i64) (.cons (.int .i64) (.cons (.int .i64) (.cons (.int .i64) (.cons (.int .i64) (.cons (.list 3 (.int .i64)) .nil)))))))) .nil)))) .nil))))))], []⟩
def f53out : SS := ⟨[(0, (.ro .bool))], []⟩
def f53s13 : SS := ⟨[(1, (.p 100)), (3, (.h 101)), (4, (.ro (.int .i64))), (5, (.ro (.int .i64))), (6, (.p 102)), (7, (.ro (.int .i64)))], [(100, (.box (.st (.cons (.list 60 (.st (.cons .str (.cons (.int .i64) (.cons (.int .i64) (.cons (.int .i64) .nil)))))) (.cons (.int .i64) (.cons (.list 37 (.st (.cons (.int .i64) (.cons (.list 40 (.st (.cons (.int .i64) (.cons (.int .i64) (.cons (.int .i64) (.cons (.int .i64) (.cons (.int .i64) (.cons (.list 3 (.int .i64)) .nil)))))))) .nil)))) .nil)))) (.agg (.cons (.ro (.list 60 (.st (.cons .str (.cons (.int .i64) (.cons (.int .i64) (.cons (.int .i64) .nil))))))) (.cons (.ro (.int .i64)) (.cons (.ro (.list 37 (.st (.cons (.int .i64) (.cons (.list 40 (.st (.cons (.int .i64) (.cons (.int .i64) (.cons (.int .i64) (.cons (.int .i64) (.cons (.int .i64) (.cons (.list 3 (.int .i64)) .nil)))))))) .nil))))) .nil)))))), (101, (.sl 3 (.int .i64))), (102, (.box (.st (.cons (.int .i64) (.cons (.list 40 (.st (.cons (.int .i64) (.cons (.int .i64) (.cons (.int .i64) (.cons (.int .i64) (.cons (.int .i64) (.cons (.list 3 (.int .i64)) .nil)))))))) .nil))) (.agg (.cons (.ro (.int .i64)) (.cons (.ro (.list 40 (.st (.cons (.int .i64) (.cons (.int .i64) (.cons (.int .i64) (.cons (.int .i64) (.cons (.int .i64) (.cons (.list 3 (.int .i64)) .nil))))))))) .nil)))))]⟩
def f53s6 : SS := ⟨[(1, (.p 100)), (3, (.h 101)), (4, (.ro (.int .i64))), (5, (.ro (.int .i64)))], [(100, (.box (.st (.cons (.list 60 (.st (.cons .str (.cons (.int .i64) (.cons (.int .i64) (.cons (.int .i64) .nil)))))) (.cons (.int .i64) (.cons (.list 37 (.st (.cons (.int .i64) (.cons (.list 40 (.st (.cons (.int .i64) (.cons (.int .i64) (.cons (.int .i64) (.cons (.int .i64) (.cons (.int .i64) (.cons (.list 3 (.int .i64)) .nil)))))))) .nil)))) .nil)))) (.agg (.cons (.ro (.list 60 (.st (.cons .str (.cons (.int .i64) (.cons (.int .i64) (.cons (.int .i64) .nil))))))) (.cons (.ro (.int .i64)) (.cons (.ro (.list 37 (.st (.cons (.int .i64) (.cons (.list 40 (.st (.cons (.int .i64) (.cons (.int .i64) (.cons (.int .i64) (.cons (.int .i64) (.cons (.int .i64) (.cons (.list 3 (.int .i64)) .nil)))))))) .nil))))) .nil)))))), (101, (.sl 3 (.int .i64)))]⟩
def f53con (F : TMeta → Option Bool) : Con := ⟨f53in, f53out, 1, 1, fun x => F x⟩
def f53ctx (k : Nat) : Ctx := ⟨tyAt tys, conAt [(89, [f89con (spec_SchemaLeaves k)]), (90, [f90con (spec_SchemaOk k)]), (91, [f91con (spec_l1In k)]), (92, [f92con (spec_l18Chunk k)])], 74, fun _ => false⟩
theorem f53hc (k : Nat) : CtxOk Tryz.prog (f53ctx k) := ctxOk tys_ok mixed_ok (consOk_cons (f89ok k) (consOk_cons (f90ok k) (consOk_cons (f91ok k) (consOk_cons (f92ok k) (consOk_nil)))))
theorem f53ok (k : Nat) : FnOk Tryz.prog 53 (f53con (spec_MetaOk k)) :=
  let hc := f53hc k
  fnOk (fn := Tryz.f53) (code := bodyOf Tryz.f53) (res := [.tmp 2]) hc (by kernel_rfl) (by kernel_rfl) (by decide) (by kernel_rfl) (by kernel_rfl) (by kernel_rfl) (Nat.le_of_ble_eq_true (by kernel_rfl)) _
    (fun x => Snd.seq (by kernel_rfl) (Snd.seq (by kernel_rfl) (Snd.seq (by kernel_rfl) (Snd.seq (by kernel_rfl) (Snd.seq (by kernel_rfl) (Snd.exec hc _ _ _ _) (Snd.seq (by kernel_rfl) (Snd.block (id := 0) (by kernel_rfl) (Snd.loop' (by kernel_rfl) f53s6 (fun n x => spec_MetaOk.l6 k n x.1.2.2.1 x.1.2.2.2 x.2.1 x.2.2) _ (fun _ => rfl) (fun n6 => Snd.seq (by kernel_rfl) (Snd.seq (by kernel_rfl) (Snd.exec hc _ _ _ _) (Snd.block (id := 1) (by kernel_rfl) (Snd.seq (by kernel_rfl) (Snd.seq (by kernel_rfl) (Snd.seq (by kernel_rfl) (Snd.seq (by kernel_rfl) (Snd.block (id := 2) (by kernel_rfl) (Snd.loop' (by kernel_rfl) f53s13 (fun n x => spec_MetaOk.l13 k (spec_MetaOk.l6 k n6) n x.1.2.2.1 x.1.2.2.2.1 x.1.2.2.2.2.2 x.2.1 x.2.2.1 x.2.2.2) _ (fun _ => rfl) (fun n13 => Snd.exec hc _ _ _ _) (fun n x => by kernel_rfl) k)) (Snd.exec hc _ _ _ _)) (Snd.exec hc _ _ _ _)) (Snd.exec hc _ _ _ _)) (Snd.exec hc _ _ _ _)))) (Snd.exec hc _ _ _ _)) (fun n x => by kernel_rfl) k)) (Snd.exec hc _ _ _ _))) (Snd.exec hc _ _ _ _)) (Snd.exec hc _ _ _ _)) (Snd.exec hc _ _ _ _)) (Snd.exec hc _ _ _ _))
    (fun x => by kernel_rfl)

def f131in : SS := ⟨[(0, (.ro (.st (.cons (.int .i64) (.cons (.int .i64) (.cons (.int .i64) (.cons .str (.cons (.int .i64) .nil))))))))], []⟩
def f131out : SS := ⟨[(0, (.ro .bool))], []⟩
def f131s4 : SS := ⟨[(1, (.p 100)), (4, (.ro (.int .i64))), (5, (.ro .bool))], [(100, (.box (.st (.cons (.int .i64) (.cons (.int .i64) (.cons (.int .i64) (.cons .str (.cons (.int .i64) .nil)))))) (.agg (.cons (.ro (.int .i64)) (.cons (.ro (.int .i64)) (.cons (.ro (.int .i64)) (.cons (.ro .str) (.cons (.ro (.int .i64)) .nil))))))))]⟩
def f131con (F : TNode → Option Bool) : Con := ⟨f131in, f131out, 1, 1, fun x => F x⟩
def f131ctx (k : Nat) : Ctx := ⟨tyAt tys, conAt [(112, [f112con (spec_l4Int k)]), (143, [f143con (spec_l4Item k)])], 107, fun _ => false⟩
theorem f131hc (k : Nat) : CtxOk Tryz.prog (f131ctx k) := ctxOk tys_ok mixed_ok (consOk_cons (f112ok k) (consOk_cons (f143ok k) (consOk_nil)))
theorem f131ok (k : Nat) : FnOk Tryz.prog 131 (f131con (spec_l4Plain k)) :=
  let hc := f131hc k
  fnOk (fn := Tryz.f131) (code := bodyOf Tryz.f131) (res := [.tmp 2]) hc (by kernel_rfl) (by kernel_rfl) (by decide) (by kernel_rfl) (by kernel_rfl) (by kernel_rfl) (Nat.le_of_ble_eq_true (by kernel_rfl)) _
    (fun x => Snd.seq (by kernel_rfl) (Snd.seq (by kernel_rfl) (Snd.exec hc _ _ _ _) (Snd.seq (by kernel_rfl) (Snd.block (id := 0) (by kernel_rfl) (Snd.seq (by kernel_rfl) (Snd.cut (Snd.exec hc _ _ _ _) ⟨f131s4, fun x => spec_l4Plain.c4 k x.1.2.1 x.1.2.2 x.2⟩ (fun x => by kernel_rfl)) (Snd.exec hc _ _ _ _))) (Snd.exec hc _ _ _ _))) (Snd.exec hc _ _ _ _))
    (fun x => by kernel_rfl)

def f94in : SS := ⟨[(0, (.ro (.list 78 (.st (.cons (.int .i64) (.cons (.int .i64) (.cons (.int .i64) (.cons .str (.cons (.int .i64) .nil))))))))), (1, (.ro (.int .i64))), (2, (.ro (.int .i64)))], []⟩
def f94out : SS := ⟨[(0, (.ro (.int .i64)))], []⟩
def f94s7 : SS := ⟨[(0, (.ro (.list 78 (.st (.cons (.int .i64) (.cons (.int .i64) (.cons (.int .i64) (.cons .str (.cons (.int .i64) .nil))))))))), (2, (.ro (.int .i64))), (7, (.p 100)), (8, (.ro (.int .i64))), (9, (.ro (.int .i64))), (10, (.ro (.int .i64)))], [(100, (.box (.st (.cons (.int .i64) (.cons (.int .i64) (.cons (.int .i64) (.cons .str (.cons (.int .i64) .nil)))))) (.agg (.cons (.ro (.int .i64)) (.cons (.ro (.int .i64)) (.cons (.ro (.int .i64)) (.cons (.ro .str) (.cons (.ro (.int .i64)) .nil))))))))]⟩
def f94con (F : (List TNode) → Int → Int → Option Int) : Con := ⟨f94in, f94out, 3, 1, fun x => F x.1 x.2.1 x.2.2⟩
def f94ctx (k : Nat) (S94 : (List TNode) → Int → Int → Option Int) : Ctx := ⟨tyAt tys, conAt [(94, [f94con S94]), (131, [f131con (spec_l4Plain k)])], 89, fun _ => false⟩
theorem f94hc (k : Nat) (S94 : (List TNode) → Int → Int → Option Int) (h94 : FnOk Tryz.prog 94 (f94con S94)) : CtxOk Tryz.prog (f94ctx k S94) := ctxOk tys_ok mixed_ok (consOk_cons (h94) (consOk_cons (f131ok k) (consOk_nil)))
theorem f94okb (k : Nat) (S94 : (List TNode) → Int → Int → Option Int) (h94 : FnOk Tryz.prog 94 (f94con S94)) : FnOk Tryz.prog 94 (f94con (spec_l4Check.b k S94)) :=
  let hc := f94hc k S94 h94
  fnOk (fn := Tryz.f94) (code := bodyOf Tryz.f94) (res := [.tmp 6]) hc (by kernel_rfl) (by kernel_rfl) (by decide) (by kernel_rfl) (by kernel_rfl) (by kernel_rfl) (Nat.le_of_ble_eq_true (by kernel_rfl)) _
    (fun x => Snd.seq (by kernel_rfl) (Snd.seq (by kernel_rfl) (Snd.seq (by kernel_rfl) (Snd.seq (by kernel_rfl) (Snd.seq (by kernel_rfl) (Snd.seq (by kernel_rfl) (Snd.exec hc _ _ _ _) (Snd.seq (by kernel_rfl) (Snd.block (id := 0) (by kernel_rfl) (Snd.loop' (by kernel_rfl) f94s7 (fun n x => spec_l4Check.l7 k S94 n x.1.1 x.1.2.1 x.1.2.2.2.1 x.1.2.2.2.2.1 x.1.2.2.2.2.2 x.2) _ (fun _ => rfl) (fun n7 => Snd.exec hc _ _ _ _) (fun n x => by kernel_rfl) k)) (Snd.exec hc _ _ _ _))) (Snd.exec hc _ _ _ _)) (Snd.exec hc _ _ _ _)) (Snd.exec hc _ _ _ _)) (Snd.exec hc _ _ _ _)) (Snd.exec hc _ _ _ _))
    (fun x => by kernel_rfl)
theorem f94rec (k : Nat) : ∀ d, FnOk Tryz.prog 94 (f94con (spec_l4Check.d k d))
  | 0 => FnOk_none (fun _ => rfl)
  | d + 1 => let ih := f94rec k d
    f94okb k (spec_l4Check.d k d) ih
theorem f94ok (k : Nat) : FnOk Tryz.prog 94 (f94con (spec_l4Check k)) := (f94rec k k)

def f58in : SS := ⟨[(0, (.ro (.list 78 (.st (.cons (.int .i64) (.cons (.int .i64) (.cons (.int .i64) (.cons .str (.cons (.int .i64) .nil)))))))))], []⟩
def f58out : SS := ⟨[(0, (.ro .bool))], []⟩
def f58con (F : (List TNode) → Option Bool) : Con := ⟨f58in, f58out, 1, 1, fun x => F x⟩
def f58ctx (k : Nat) : Ctx := ⟨tyAt tys, conAt [(91, [f91con (spec_l1In k)]), (94, [f94con (spec_l4Check k)])], 26, fun _ => false⟩
theorem f58hc (k : Nat) : CtxOk Tryz.prog (f58ctx k) := ctxOk tys_ok mixed_ok (consOk_cons (f91ok k) (consOk_cons (f94ok k) (consOk_nil)))
theorem f58ok (k : Nat) : FnOk Tryz.prog 58 (f58con (spec_TreeOk k)) :=
  let hc := f58hc k
  fnOk (fn := Tryz.f58) (code := bodyOf Tryz.f58) (res := [.tmp 2]) hc (by kernel_rfl) (by kernel_rfl) (by decide) (by kernel_rfl) (by kernel_rfl) (by kernel_rfl) (Nat.le_of_ble_eq_true (by kernel_rfl)) _
    (fun x => Snd.exec hc _ _ _ _)
    (fun x => by kernel_rfl)

def f118in : SS := ⟨[(0, (.ro (.list 78 (.st (.cons (.int .i64) (.cons (.int .i64) (.cons (.int .i64) (.cons .str (.cons (.int .i64) .nil))))))))), (1, (.ro (.int .i64)))], []⟩
def f118out : SS := ⟨[(0, (.ro (.int .i64)))], []⟩
def f118s3 : SS := ⟨[(0, (.ro (.list 78 (.st (.cons (.int .i64) (.cons (.int .i64) (.cons (.int .i64) (.cons .str (.cons (.int .i64) .nil))))))))), (1, (.ro (.int .i64))), (5, (.ro (.int .i64))), (6, (.ro (.int .i64)))], []⟩
def f118con (F : (List TNode) → Int → Option Int) : Con := ⟨f118in, f118out, 2, 1, fun x => F x.1 x.2⟩
def f118ctx (k : Nat) (S118 : (List TNode) → Int → Option Int) : Ctx := ⟨tyAt tys, conAt [(118, [f118con S118])], 22, fun _ => false⟩
theorem f118hc (k : Nat) (S118 : (List TNode) → Int → Option Int) (h118 : FnOk Tryz.prog 118 (f118con S118)) : CtxOk Tryz.prog (f118ctx k S118) := ctxOk tys_ok mixed_ok (consOk_cons (h118) (consOk_nil))
theorem f118okb (k : Nat) (S118 : (List TNode) → Int → Option Int) (h118 : FnOk Tryz.prog 118 (f118con S118)) : FnOk Tryz.prog 118 (f118con (spec_l4After.b k S118)) :=
  let hc := f118hc k S118 h118
  fnOk (fn := Tryz.f118) (code := bodyOf Tryz.f118) (res := [.tmp 4]) hc (by kernel_rfl) (by kernel_rfl) (by decide) (by kernel_rfl) (by kernel_rfl) (by kernel_rfl) (Nat.le_of_ble_eq_true (by kernel_rfl)) _
    (fun x => Snd.seq (by kernel_rfl) (Snd.seq (by kernel_rfl) (Snd.seq (by kernel_rfl) (Snd.exec hc _ _ _ _) (Snd.seq (by kernel_rfl) (Snd.block (id := 0) (by kernel_rfl) (Snd.loop' (by kernel_rfl) f118s3 (fun n x => spec_l4After.l3 k S118 n x.1 x.2.1 x.2.2.1 x.2.2.2) _ (fun _ => rfl) (fun n3 => Snd.exec hc _ _ _ _) (fun n x => by kernel_rfl) k)) (Snd.exec hc _ _ _ _))) (Snd.exec hc _ _ _ _)) (Snd.exec hc _ _ _ _))
    (fun x => by kernel_rfl)
theorem f118rec (k : Nat) : ∀ d, FnOk Tryz.prog 118 (f118con (spec_l4After.d k d))
  | 0 => FnOk_none (fun _ => rfl)
  | d + 1 => let ih := f118rec k d
    f118okb k (spec_l4After.d k d) ih
theorem f118ok (k : Nat) : FnOk Tryz.prog 118 (f118con (spec_l4After k)) := (f118rec k k)

def f116in : SS := ⟨[(0, (.ro (.list 78 (.st (.cons (.int .i64) (.cons (.int .i64) (.cons (.int .i64) (.cons .str (.cons (.int .i64) .nil))))))))), (1, (.ro (.int .i64))), (2, (.ro (.int .i64)))], []⟩
def f116out : SS := ⟨[(0, (.ro (.int .i64)))], []⟩
def f116s5 : SS := ⟨[(0, (.ro (.list 78 (.st (.cons (.int .i64) (.cons (.int .i64) (.cons (.int .i64) (.cons .str (.cons (.int .i64) .nil))))))))), (1, (.ro (.int .i64))), (2, (.ro (.int .i64))), (7, (.ro (.int .i64))), (8, (.ro (.int .i64)))], []⟩
def f116con (F : (List TNode) → Int → Int → Option Int) : Con := ⟨f116in, f116out, 3, 1, fun x => F x.1 x.2.1 x.2.2⟩
def f116ctx (k : Nat) : Ctx := ⟨tyAt tys, conAt [(118, [f118con (spec_l4After k)])], 37, fun _ => false⟩
theorem f116hc (k : Nat) : CtxOk Tryz.prog (f116ctx k) := ctxOk tys_ok mixed_ok (consOk_cons (f118ok k) (consOk_nil))
theorem f116ok (k : Nat) : FnOk Tryz.prog 116 (f116con (spec_l4Find k)) :=
  let hc := f116hc k
  fnOk (fn := Tryz.f116) (code := bodyOf Tryz.f116) (res := [.tmp 6]) hc (by kernel_rfl) (by kernel_rfl) (by decide) (by kernel_rfl) (by kernel_rfl) (by kernel_rfl) (Nat.le_of_ble_eq_true (by kernel_rfl)) _
    (fun x => Snd.seq (by kernel_rfl) (Snd.seq (by kernel_rfl) (Snd.seq (by kernel_rfl) (Snd.seq (by kernel_rfl) (Snd.exec hc _ _ _ _) (Snd.seq (by kernel_rfl) (Snd.block (id := 0) (by kernel_rfl) (Snd.loop' (by kernel_rfl) f116s5 (fun n x => spec_l4Find.l5 k n x.1 x.2.1 x.2.2.1 x.2.2.2.1 x.2.2.2.2) _ (fun _ => rfl) (fun n5 => Snd.exec hc _ _ _ _) (fun n x => by kernel_rfl) k)) (Snd.exec hc _ _ _ _))) (Snd.exec hc _ _ _ _)) (Snd.exec hc _ _ _ _)) (Snd.exec hc _ _ _ _))
    (fun x => by kernel_rfl)

def f69in : SS := ⟨[(0, (.ro (.list 78 (.st (.cons (.int .i64) (.cons (.int .i64) (.cons (.int .i64) (.cons .str (.cons (.int .i64) .nil))))))))), (1, (.ro (.int .i64))), (2, (.ro (.int .i64)))], []⟩
def f69out : SS := ⟨[(0, (.ro (.int .i64))), (1, (.ro .bool))], []⟩
def f69con (F : (List TNode) → Int → Int → Option (Int × Bool)) : Con := ⟨f69in, f69out, 3, 2, fun x => F x.1 x.2.1 x.2.2⟩
def f69ctx (k : Nat) : Ctx := ⟨tyAt tys, conAt [(116, [f116con (spec_l4Find k)])], 36, fun _ => false⟩
theorem f69hc (k : Nat) : CtxOk Tryz.prog (f69ctx k) := ctxOk tys_ok mixed_ok (consOk_cons (f116ok k) (consOk_nil))
theorem f69ok (k : Nat) : FnOk Tryz.prog 69 (f69con (spec_l4NumOf k)) :=
  let hc := f69hc k
  fnOk (fn := Tryz.f69) (code := bodyOf Tryz.f69) (res := [.tmp 6, .tmp 7]) hc (by kernel_rfl) (by kernel_rfl) (by decide) (by kernel_rfl) (by kernel_rfl) (by kernel_rfl) (Nat.le_of_ble_eq_true (by kernel_rfl)) _
    (fun x => Snd.exec hc _ _ _ _)
    (fun x => by kernel_rfl)

def f145in : SS := ⟨[(0, (.ro (.list 78 (.st (.cons (.int .i64) (.cons (.int .i64) (.cons (.int .i64) (.cons .str (.cons (.int .i64) .nil))))))))), (1, (.ro (.int .i64))), (2, (.ro (.int .i64)))], []⟩
def f145out : SS := ⟨[(0, (.ro .str)), (1, (.ro .bool))], []⟩
def f145con (F : (List TNode) → Int → Int → Option (ByteArray × Bool)) : Con := ⟨f145in, f145out, 3, 2, fun x => F x.1 x.2.1 x.2.2⟩
def f145ctx (k : Nat) : Ctx := ⟨tyAt tys, conAt [(116, [f116con (spec_l4Find k)])], 28, fun _ => false⟩
theorem f145hc (k : Nat) : CtxOk Tryz.prog (f145ctx k) := ctxOk tys_ok mixed_ok (consOk_cons (f116ok k) (consOk_nil))
theorem f145ok (k : Nat) : FnOk Tryz.prog 145 (f145con (spec_l4TextOf k)) :=
  let hc := f145hc k
  fnOk (fn := Tryz.f145) (code := bodyOf Tryz.f145) (res := [.tmp 6, .tmp 7]) hc (by kernel_rfl) (by kernel_rfl) (by decide) (by kernel_rfl) (by kernel_rfl) (by kernel_rfl) (Nat.le_of_ble_eq_true (by kernel_rfl)) _
    (fun x => Snd.exec hc _ _ _ _)
    (fun x => by kernel_rfl)

def f117in : SS := ⟨[(0, (.ro (.list 78 (.st (.cons (.int .i64) (.cons (.int .i64) (.cons (.int .i64) (.cons .str (.cons (.int .i64) .nil))))))))), (1, (.ro (.int .i64))), (2, (.ro .bool))], []⟩
def f117out : SS := ⟨[(0, (.agg (.cons (.ro .str) (.cons (.ro (.int .i64)) (.cons (.ro (.int .i64)) (.cons (.ro (.int .i64)) .nil)))))), (1, (.ro .bool))], []⟩
def f117s12 : SS := ⟨[(0, (.ro (.list 78 (.st (.cons (.int .i64) (.cons (.int .i64) (.cons (.int .i64) (.cons .str (.cons (.int .i64) .nil))))))))), (1, (.ro (.int .i64))), (6, (.p 100)), (9, (.ro .bool)), (11, (.ro .bool)), (13, (.ro .bool)), (15, (.ro .bool)), (16, (.p 101))], [(100, (.box (.st (.cons .str (.cons (.int .i64) (.cons (.int .i64) (.cons (.int .i64) .nil))))) (.agg (.cons (.ro .str) (.cons (.ro (.int .i64)) (.cons (.ro (.int .i64)) (.cons (.ro (.int .i64)) .nil))))))), (101, (.box (.st (.cons .str (.cons (.int .i64) (.cons (.int .i64) (.cons (.int .i64) .nil))))) (.agg (.cons (.ro .str) (.cons (.ro (.int .i64)) (.cons (.ro (.int .i64)) (.cons (.ro (.int .i64)) .nil)))))))]⟩
def f117s9 : SS := ⟨[(0, (.ro (.list 78 (.st (.cons (.int .i64) (.cons (.int .i64) (.cons (.int .i64) (.cons .str (.cons (.int .i64) .nil))))))))), (1, (.ro (.int .i64))), (6, (.p 100)), (9, (.ro .bool)), (11, (.ro .bool)), (12, (.ro (.int .i64))), (13, (.ro .bool)), (15, (.ro .bool)), (16, (.p 101))], [(100, (.box (.st (.cons .str (.cons (.int .i64) (.cons (.int .i64) (.cons (.int .i64) .nil))))) (.agg (.cons (.ro .str) (.cons (.ro (.int .i64)) (.cons (.ro (.int .i64)) (.cons (.ro (.int .i64)) .nil))))))), (101, (.box (.st (.cons .str (.cons (.int .i64) (.cons (.int .i64) (.cons (.int .i64) .nil))))) (.agg (.cons (.ro .str) (.cons (.ro (.int .i64)) (.cons (.ro (.int .i64)) (.cons (.ro (.int .i64)) .nil)))))))]⟩
def f117con (F : (List TNode) → Int → Bool → Option (TCol × Bool)) : Con := ⟨f117in, f117out, 3, 2, fun x => F x.1 x.2.1 x.2.2⟩
def f117ctx (k : Nat) : Ctx := ⟨tyAt tys, conAt [(69, [f69con (spec_l4NumOf k)]), (116, [f116con (spec_l4Find k)]), (145, [f145con (spec_l4TextOf k)])], 82, fun _ => false⟩
theorem f117hc (k : Nat) : CtxOk Tryz.prog (f117ctx k) := ctxOk tys_ok mixed_ok (consOk_cons (f69ok k) (consOk_cons (f116ok k) (consOk_cons (f145ok k) (consOk_nil))))
theorem f117ok (k : Nat) : FnOk Tryz.prog 117 (f117con (spec_l5Col k)) :=
  let hc := f117hc k
  fnOk (fn := Tryz.f117) (code := bodyOf Tryz.f117) (res := [.cell 6 60, .tmp 7]) hc (by kernel_rfl) (by kernel_rfl) (by decide) (by kernel_rfl) (by kernel_rfl) (by kernel_rfl) (Nat.le_of_ble_eq_true (by kernel_rfl)) _
    (fun x => Snd.seq (by kernel_rfl) (Snd.seq (by kernel_rfl) (Snd.seq (by kernel_rfl) (Snd.seq (by kernel_rfl) (Snd.seq (by kernel_rfl) (Snd.seq (by kernel_rfl) (Snd.seq (by kernel_rfl) (Snd.cut (Snd.seq (by kernel_rfl) (Snd.cut (Snd.exec hc _ _ _ _) ⟨f117s12, fun x => spec_l5Col.c12 k x.1.1 x.1.2.1 x.1.2.2.2.1 x.1.2.2.2.2.1 x.1.2.2.2.2.2.1 x.1.2.2.2.2.2.2.1 x.2.1 x.2.2⟩ (fun x => by kernel_rfl)) (Snd.exec hc _ _ _ _)) ⟨f117s9, fun x => spec_l5Col.c9 k x.1.1 x.1.2.1 x.1.2.2.2.1 x.1.2.2.2.2.1 x.1.2.2.2.2.2.1 x.1.2.2.2.2.2.2.1 x.1.2.2.2.2.2.2.2.1 x.2.1 x.2.2⟩ (fun x => by kernel_rfl)) (Snd.exec hc _ _ _ _)) (Snd.exec hc _ _ _ _)) (Snd.exec hc _ _ _ _)) (Snd.exec hc _ _ _ _)) (Snd.exec hc _ _ _ _)) (Snd.exec hc _ _ _ _)) (Snd.exec hc _ _ _ _))
    (fun x => by kernel_rfl)

def f68in : SS := ⟨[(0, (.ro (.list 78 (.st (.cons (.int .i64) (.cons (.int .i64) (.cons (.int .i64) (.cons .str (.cons (.int .i64) .nil))))))))), (1, (.ro (.int .i64))), (2, (.ro (.int .i64)))], []⟩
def f68out : SS := ⟨[(0, (.h 100)), (1, (.ro .bool))], [(100, (.sl 60 (.st (.cons .str (.cons (.int .i64) (.cons (.int .i64) (.cons (.int .i64) .nil)))))))]⟩
def f68s8 : SS := ⟨[(0, (.ro (.list 78 (.st (.cons (.int .i64) (.cons (.int .i64) (.cons (.int .i64) (.cons .str (.cons (.int .i64) .nil))))))))), (8, (.h 100)), (9, (.ro (.int .i64))), (10, (.h 101)), (11, (.ro (.int .i64))), (12, (.ro (.int .i64)))], [(100, (.sl 60 (.st (.cons .str (.cons (.int .i64) (.cons (.int .i64) (.cons (.int .i64) .nil))))))), (101, (.sl 60 (.st (.cons .str (.cons (.int .i64) (.cons (.int .i64) (.cons (.int .i64) .nil)))))))]⟩
def f68con (F : (List TNode) → Int → Int → Option ((Unit × Bool) × (List TCol))) : Con := ⟨f68in, f68out, 3, 2, fun x => F x.1 x.2.1 x.2.2⟩
def f68ctx (k : Nat) : Ctx := ⟨tyAt tys, conAt [(90, [f90con (spec_SchemaOk k)]), (116, [f116con (spec_l4Find k)]), (117, [f117con (spec_l5Col k)]), (118, [f118con (spec_l4After k)])], 74, fun _ => false⟩
theorem f68hc (k : Nat) : CtxOk Tryz.prog (f68ctx k) := ctxOk tys_ok mixed_ok (consOk_cons (f90ok k) (consOk_cons (f116ok k) (consOk_cons (f117ok k) (consOk_cons (f118ok k) (consOk_nil)))))
theorem f68ok (k : Nat) : FnOk Tryz.prog 68 (f68con (spec_l5Of k)) :=
  let hc := f68hc k
  fnOk (fn := Tryz.f68) (code := bodyOf Tryz.f68) (res := [.tmp 6, .tmp 7]) hc (by kernel_rfl) (by kernel_rfl) (by decide) (by kernel_rfl) (by kernel_rfl) (by kernel_rfl) (Nat.le_of_ble_eq_true (by kernel_rfl)) _
    (fun x => Snd.seq (by kernel_rfl) (Snd.seq (by kernel_rfl) (Snd.seq (by kernel_rfl) (Snd.seq (by kernel_rfl) (Snd.seq (by kernel_rfl) (Snd.seq (by kernel_rfl) (Snd.seq (by kernel_rfl) (Snd.exec hc _ _ _ _) (Snd.seq (by kernel_rfl) (Snd.block (id := 0) (by kernel_rfl) (Snd.loop' (by kernel_rfl) f68s8 (fun n x => spec_l5Of.l8 k n x.1.1 x.1.2.2.1 x.1.2.2.2.2.1 x.1.2.2.2.2.2 x.2.1 x.2.2) _ (fun _ => rfl) (fun n8 => Snd.exec hc _ _ _ _) (fun n x => by kernel_rfl) k)) (Snd.exec hc _ _ _ _))) (Snd.exec hc _ _ _ _)) (Snd.exec hc _ _ _ _)) (Snd.exec hc _ _ _ _)) (Snd.exec hc _ _ _ _)) (Snd.exec hc _ _ _ _)) (Snd.exec hc _ _ _ _))
    (fun x => by kernel_rfl)

def f70in : SS := ⟨[(0, (.ro (.list 78 (.st (.cons (.int .i64) (.cons (.int .i64) (.cons (.int .i64) (.cons .str (.cons (.int .i64) .nil))))))))), (1, (.ro (.int .i64))), (2, (.ro (.int .i64))), (3, (.ro (.int .i64)))], []⟩
def f70out : SS := ⟨[(0, (.h 100)), (1, (.ro .bool))], [(100, (.sl 3 (.int .i64)))]⟩
def f70s7 : SS := ⟨[(0, (.ro (.list 78 (.st (.cons (.int .i64) (.cons (.int .i64) (.cons (.int .i64) (.cons .str (.cons (.int .i64) .nil))))))))), (10, (.h 100)), (11, (.ro (.int .i64))), (12, (.ro (.int .i64))), (13, (.ro (.int .i64)))], [(100, (.sl 3 (.int .i64)))]⟩
def f70con (F : (List TNode) → Int → Int → Int → Option ((Unit × Bool) × (List Int))) : Con := ⟨f70in, f70out, 4, 2, fun x => F x.1 x.2.1 x.2.2.1 x.2.2.2⟩
def f70ctx (k : Nat) : Ctx := ⟨tyAt tys, conAt [(116, [f116con (spec_l4Find k)]), (118, [f118con (spec_l4After k)])], 66, fun _ => false⟩
theorem f70hc (k : Nat) : CtxOk Tryz.prog (f70ctx k) := ctxOk tys_ok mixed_ok (consOk_cons (f116ok k) (consOk_cons (f118ok k) (consOk_nil)))
theorem f70ok (k : Nat) : FnOk Tryz.prog 70 (f70con (spec_l18List k)) :=
  let hc := f70hc k
  fnOk (fn := Tryz.f70) (code := bodyOf Tryz.f70) (res := [.tmp 8, .tmp 9]) hc (by kernel_rfl) (by kernel_rfl) (by decide) (by kernel_rfl) (by kernel_rfl) (by kernel_rfl) (Nat.le_of_ble_eq_true (by kernel_rfl)) _
    (fun x => Snd.seq (by kernel_rfl) (Snd.seq (by kernel_rfl) (Snd.seq (by kernel_rfl) (Snd.seq (by kernel_rfl) (Snd.seq (by kernel_rfl) (Snd.seq (by kernel_rfl) (Snd.exec hc _ _ _ _) (Snd.seq (by kernel_rfl) (Snd.block (id := 0) (by kernel_rfl) (Snd.loop' (by kernel_rfl) f70s7 (fun n x => spec_l18List.l7 k n x.1.1 x.1.2.2.1 x.1.2.2.2.1 x.1.2.2.2.2 x.2) _ (fun _ => rfl) (fun n7 => Snd.exec hc _ _ _ _) (fun n x => by kernel_rfl) k)) (Snd.exec hc _ _ _ _))) (Snd.exec hc _ _ _ _)) (Snd.exec hc _ _ _ _)) (Snd.exec hc _ _ _ _)) (Snd.exec hc _ _ _ _)) (Snd.exec hc _ _ _ _))
    (fun x => by kernel_rfl)

def f149in : SS := ⟨[(0, (.ro (.list 60 (.st (.cons .str (.cons (.int .i64) (.cons (.int .i64) (.cons (.int .i64) .nil)))))))), (1, (.ro (.int .i64)))], []⟩
def f149out : SS := ⟨[(0, (.ro (.int .i64)))], []⟩
def f149s3 : SS := ⟨[(0, (.ro (.list 60 (.st (.cons .str (.cons (.int .i64) (.cons (.int .i64) (.cons (.int .i64) .nil)))))))), (1, (.ro (.int .i64))), (5, (.ro (.int .i64))), (6, (.ro (.int .i64)))], []⟩
def f149con (F : (List TCol) → Int → Option Int) : Con := ⟨f149in, f149out, 2, 1, fun x => F x.1 x.2⟩
def f149ctx (k : Nat) (S149 : (List TCol) → Int → Option Int) : Ctx := ⟨tyAt tys, conAt [(149, [f149con S149])], 22, fun _ => false⟩
theorem f149hc (k : Nat) (S149 : (List TCol) → Int → Option Int) (h149 : FnOk Tryz.prog 149 (f149con S149)) : CtxOk Tryz.prog (f149ctx k S149) := ctxOk tys_ok mixed_ok (consOk_cons (h149) (consOk_nil))
theorem f149okb (k : Nat) (S149 : (List TCol) → Int → Option Int) (h149 : FnOk Tryz.prog 149 (f149con S149)) : FnOk Tryz.prog 149 (f149con (spec_l5After.b k S149)) :=
  let hc := f149hc k S149 h149
  fnOk (fn := Tryz.f149) (code := bodyOf Tryz.f149) (res := [.tmp 4]) hc (by kernel_rfl) (by kernel_rfl) (by decide) (by kernel_rfl) (by kernel_rfl) (by kernel_rfl) (Nat.le_of_ble_eq_true (by kernel_rfl)) _
    (fun x => Snd.seq (by kernel_rfl) (Snd.seq (by kernel_rfl) (Snd.seq (by kernel_rfl) (Snd.exec hc _ _ _ _) (Snd.seq (by kernel_rfl) (Snd.block (id := 0) (by kernel_rfl) (Snd.loop' (by kernel_rfl) f149s3 (fun n x => spec_l5After.l3 k S149 n x.1 x.2.1 x.2.2.1 x.2.2.2) _ (fun _ => rfl) (fun n3 => Snd.exec hc _ _ _ _) (fun n x => by kernel_rfl) k)) (Snd.exec hc _ _ _ _))) (Snd.exec hc _ _ _ _)) (Snd.exec hc _ _ _ _))
    (fun x => by kernel_rfl)
theorem f149rec (k : Nat) : ∀ d, FnOk Tryz.prog 149 (f149con (spec_l5After.d k d))
  | 0 => FnOk_none (fun _ => rfl)
  | d + 1 => let ih := f149rec k d
    f149okb k (spec_l5After.d k d) ih
theorem f149ok (k : Nat) : FnOk Tryz.prog 149 (f149con (spec_l5After k)) := (f149rec k k)

def f130in : SS := ⟨[(0, (.ro (.list 60 (.st (.cons .str (.cons (.int .i64) (.cons (.int .i64) (.cons (.int .i64) .nil)))))))), (1, (.ro (.int .i64)))], []⟩
def f130out : SS := ⟨[(0, (.h 100))], [(100, (.sl 3 (.int .i64)))]⟩
def f130s4 : SS := ⟨[(0, (.ro (.list 60 (.st (.cons .str (.cons (.int .i64) (.cons (.int .i64) (.cons (.int .i64) .nil)))))))), (1, (.ro (.int .i64))), (5, (.h 100)), (6, (.ro (.int .i64)))], [(100, (.sl 3 (.int .i64)))]⟩
def f130s3 : SS := ⟨[(0, (.ro (.list 60 (.st (.cons .str (.cons (.int .i64) (.cons (.int .i64) (.cons (.int .i64) .nil)))))))), (1, (.ro (.int .i64))), (5, (.h 100)), (6, (.ro (.int .i64)))], [(100, (.sl 3 (.int .i64)))]⟩
def f130con (F : (List TCol) → Int → Option (Unit × (List Int))) : Con := ⟨f130in, f130out, 2, 1, fun x => F x.1 x.2⟩
def f130ctx (k : Nat) : Ctx := ⟨tyAt tys, conAt [(149, [f149con (spec_l5After k)])], 23, fun _ => false⟩
theorem f130hc (k : Nat) : CtxOk Tryz.prog (f130ctx k) := ctxOk tys_ok mixed_ok (consOk_cons (f149ok k) (consOk_nil))
theorem f130ok (k : Nat) : FnOk Tryz.prog 130 (f130con (spec_l5Way k)) :=
  let hc := f130hc k
  fnOk (fn := Tryz.f130) (code := bodyOf Tryz.f130) (res := [.tmp 4]) hc (by kernel_rfl) (by kernel_rfl) (by decide) (by kernel_rfl) (by kernel_rfl) (by kernel_rfl) (Nat.le_of_ble_eq_true (by kernel_rfl)) _
    (fun x => Snd.seq (by kernel_rfl) (Snd.seq (by kernel_rfl) (Snd.seq (by kernel_rfl) (Snd.exec hc _ _ _ _) (Snd.seq (by kernel_rfl) (Snd.block (id := 0) (by kernel_rfl) (Snd.loop' (by kernel_rfl) f130s3 (fun n x => spec_l5Way.l3 k n x.1.1 x.1.2.1 x.1.2.2.2 x.2) _ (fun _ => rfl) (fun n3 => Snd.seq (by kernel_rfl) (Snd.seq (by kernel_rfl) (Snd.cut (Snd.exec hc _ _ _ _) ⟨f130s4, fun x => spec_l5Way.c4 k (spec_l5Way.l3 k n3) x.1.1 x.1.2.1 x.1.2.2.2 x.2⟩ (fun x => by kernel_rfl)) (Snd.exec hc _ _ _ _)) (Snd.exec hc _ _ _ _)) (fun n x => by kernel_rfl) k)) (Snd.exec hc _ _ _ _))) (Snd.exec hc _ _ _ _)) (Snd.exec hc _ _ _ _))
    (fun x => by kernel_rfl)

def f93in : SS := ⟨[(0, (.ro (.list 60 (.st (.cons .str (.cons (.int .i64) (.cons (.int .i64) (.cons (.int .i64) .nil)))))))), (1, (.ro (.int .i64)))], []⟩
def f93out : SS := ⟨[(0, (.h 100))], [(100, (.sl 9 .str))]⟩
def f93s7 : SS := ⟨[(0, (.ro (.list 60 (.st (.cons .str (.cons (.int .i64) (.cons (.int .i64) (.cons (.int .i64) .nil)))))))), (5, (.h 100)), (7, (.h 101)), (8, (.ro (.int .i64)))], [(100, (.sl 9 .str)), (101, (.sl 3 (.int .i64)))]⟩
def f93con (F : (List TCol) → Int → Option (Unit × (List ByteArray))) : Con := ⟨f93in, f93out, 2, 1, fun x => F x.1 x.2⟩
def f93ctx (k : Nat) : Ctx := ⟨tyAt tys, conAt [(89, [f89con (spec_SchemaLeaves k)]), (91, [f91con (spec_l1In k)]), (130, [f130con (spec_l5Way k)])], 43, fun _ => false⟩
theorem f93hc (k : Nat) : CtxOk Tryz.prog (f93ctx k) := ctxOk tys_ok mixed_ok (consOk_cons (f89ok k) (consOk_cons (f91ok k) (consOk_cons (f130ok k) (consOk_nil))))
theorem f93ok (k : Nat) : FnOk Tryz.prog 93 (f93con (spec_LeafPath k)) :=
  let hc := f93hc k
  fnOk (fn := Tryz.f93) (code := bodyOf Tryz.f93) (res := [.tmp 4]) hc (by kernel_rfl) (by kernel_rfl) (by decide) (by kernel_rfl) (by kernel_rfl) (by kernel_rfl) (Nat.le_of_ble_eq_true (by kernel_rfl)) _
    (fun x => Snd.seq (by kernel_rfl) (Snd.seq (by kernel_rfl) (Snd.seq (by kernel_rfl) (Snd.seq (by kernel_rfl) (Snd.seq (by kernel_rfl) (Snd.seq (by kernel_rfl) (Snd.exec hc _ _ _ _) (Snd.seq (by kernel_rfl) (Snd.block (id := 0) (by kernel_rfl) (Snd.loop' (by kernel_rfl) f93s7 (fun n x => spec_LeafPath.l7 k n x.1.1 x.1.2.2.2 x.2.1 x.2.2) _ (fun _ => rfl) (fun n7 => Snd.exec hc _ _ _ _) (fun n x => by kernel_rfl) k)) (Snd.exec hc _ _ _ _))) (Snd.exec hc _ _ _ _)) (Snd.exec hc _ _ _ _)) (Snd.exec hc _ _ _ _)) (Snd.exec hc _ _ _ _)) (Snd.exec hc _ _ _ _))
    (fun x => by kernel_rfl)

def f119in : SS := ⟨[(0, (.ro (.list 78 (.st (.cons (.int .i64) (.cons (.int .i64) (.cons (.int .i64) (.cons .str (.cons (.int .i64) .nil))))))))), (1, (.ro (.int .i64))), (2, (.ro (.list 3 (.int .i64))))], []⟩
def f119out : SS := ⟨[(0, (.h 100)), (1, (.ro .bool))], [(100, (.sl 3 (.int .i64)))]⟩
def f119s3 : SS := ⟨[(0, (.ro (.list 78 (.st (.cons (.int .i64) (.cons (.int .i64) (.cons (.int .i64) (.cons .str (.cons (.int .i64) .nil))))))))), (1, (.ro (.int .i64))), (2, (.ro (.list 3 (.int .i64)))), (8, (.h 100)), (9, (.ro (.int .i64)))], [(100, (.sl 3 (.int .i64)))]⟩
def f119con (F : (List TNode) → Int → (List Int) → Option ((Unit × Bool) × (List Int))) : Con := ⟨f119in, f119out, 3, 2, fun x => F x.1 x.2.1 x.2.2⟩
def f119ctx (k : Nat) : Ctx := ⟨tyAt tys, conAt [(69, [f69con (spec_l4NumOf k)])], 37, fun _ => false⟩
theorem f119hc (k : Nat) : CtxOk Tryz.prog (f119ctx k) := ctxOk tys_ok mixed_ok (consOk_cons (f69ok k) (consOk_nil))
theorem f119ok (k : Nat) : FnOk Tryz.prog 119 (f119con (spec_l16Ids k)) :=
  let hc := f119hc k
  fnOk (fn := Tryz.f119) (code := bodyOf Tryz.f119) (res := [.tmp 6, .tmp 7]) hc (by kernel_rfl) (by kernel_rfl) (by decide) (by kernel_rfl) (by kernel_rfl) (by kernel_rfl) (Nat.le_of_ble_eq_true (by kernel_rfl)) _
    (fun x => Snd.seq (by kernel_rfl) (Snd.seq (by kernel_rfl) (Snd.seq (by kernel_rfl) (Snd.exec hc _ _ _ _) (Snd.seq (by kernel_rfl) (Snd.block (id := 0) (by kernel_rfl) (Snd.loop' (by kernel_rfl) f119s3 (fun n x => spec_l16Ids.l3 k n x.1.1 x.1.2.1 x.1.2.2.1 x.1.2.2.2.2 x.2) _ (fun _ => rfl) (fun n3 => Snd.exec hc _ _ _ _) (fun n x => by kernel_rfl) k)) (Snd.exec hc _ _ _ _))) (Snd.exec hc _ _ _ _)) (Snd.exec hc _ _ _ _))
    (fun x => by kernel_rfl)

def f72in : SS := ⟨[(0, (.ro (.list 78 (.st (.cons (.int .i64) (.cons (.int .i64) (.cons (.int .i64) (.cons .str (.cons (.int .i64) .nil))))))))), (1, (.ro (.int .i64))), (2, (.ro (.list 60 (.st (.cons .str (.cons (.int .i64) (.cons (.int .i64) (.cons (.int .i64) .nil)))))))), (3, (.ro (.int .i64)))], []⟩
def f72out : SS := ⟨[(0, (.agg (.cons (.ro (.int .i64)) (.cons (.ro (.int .i64)) (.cons (.ro (.int .i64)) (.cons (.ro (.int .i64)) (.cons (.ro (.int .i64)) (.cons (.h 100) .nil)))))))), (1, (.ro .bool))], [(100, (.sl 3 (.int .i64)))]⟩
def f72s26 : SS := ⟨[(8, (.p 100)), (20, (.p 101))], [(100, (.box (.st (.cons (.int .i64) (.cons (.int .i64) (.cons (.int .i64) (.cons (.int .i64) (.cons (.int .i64) (.cons (.list 3 (.int .i64)) .nil))))))) (.agg (.cons (.ro (.int .i64)) (.cons (.ro (.int .i64)) (.cons (.ro (.int .i64)) (.cons (.ro (.int .i64)) (.cons (.ro (.int .i64)) (.cons (.h 102) .nil))))))))), (101, (.box (.st (.cons (.int .i64) (.cons (.int .i64) (.cons (.int .i64) (.cons (.int .i64) (.cons (.int .i64) (.cons (.list 3 (.int .i64)) .nil))))))) (.agg (.cons (.ro (.int .i64)) (.cons (.ro (.int .i64)) (.cons (.ro (.int .i64)) (.cons (.ro (.int .i64)) (.cons (.ro (.int .i64)) (.cons (.h 103) .nil))))))))), (102, (.sl 3 (.int .i64))), (103, (.sl 3 (.int .i64)))]⟩
def f72s18 : SS := ⟨[(0, (.ro (.list 78 (.st (.cons (.int .i64) (.cons (.int .i64) (.cons (.int .i64) (.cons .str (.cons (.int .i64) .nil))))))))), (8, (.p 100)), (10, (.p 101)), (11, (.ro (.int .i64))), (14, (.h 102)), (20, (.p 103)), (21, (.ro (.int .i64)))], [(100, (.box (.st (.cons (.int .i64) (.cons (.int .i64) (.cons (.int .i64) (.cons (.int .i64) (.cons (.int .i64) (.cons (.list 3 (.int .i64)) .nil))))))) (.agg (.cons (.ro (.int .i64)) (.cons (.ro (.int .i64)) (.cons (.ro (.int .i64)) (.cons (.ro (.int .i64)) (.cons (.ro (.int .i64)) (.cons (.h 104) .nil))))))))), (101, (.box (.st (.cons (.int .i64) (.cons (.int .i64) (.cons (.int .i64) (.cons (.int .i64) (.cons (.int .i64) (.cons (.list 3 (.int .i64)) .nil))))))) (.agg (.cons (.ro (.int .i64)) (.cons (.ro (.int .i64)) (.cons (.ro (.int .i64)) (.cons (.ro (.int .i64)) (.cons (.ro (.int .i64)) (.cons (.h 105) .nil))))))))), (102, (.sl 3 (.int .i64))), (103, (.box (.st (.cons (.int .i64) (.cons (.int .i64) (.cons (.int .i64) (.cons (.int .i64) (.cons (.int .i64) (.cons (.list 3 (.int .i64)) .nil))))))) (.agg (.cons (.ro (.int .i64)) (.cons (.ro (.int .i64)) (.cons (.ro (.int .i64)) (.cons (.ro (.int .i64)) (.cons (.ro (.int .i64)) (.cons (.h 106) .nil))))))))), (104, (.sl 3 (.int .i64))), (105, (.sl 3 (.int .i64))), (106, (.sl 3 (.int .i64)))]⟩
def f72s12 : SS := ⟨[(0, (.ro (.list 78 (.st (.cons (.int .i64) (.cons (.int .i64) (.cons (.int .i64) (.cons .str (.cons (.int .i64) .nil))))))))), (3, (.ro (.int .i64))), (8, (.p 100)), (10, (.p 101)), (11, (.ro (.int .i64))), (12, (.h 102)), (14, (.h 103)), (16, (.h 104)), (18, (.h 105)), (19, (.ro (.int .i64)))], [(100, (.box (.st (.cons (.int .i64) (.cons (.int .i64) (.cons (.int .i64) (.cons (.int .i64) (.cons (.int .i64) (.cons (.list 3 (.int .i64)) .nil))))))) (.agg (.cons (.ro (.int .i64)) (.cons (.ro (.int .i64)) (.cons (.ro (.int .i64)) (.cons (.ro (.int .i64)) (.cons (.ro (.int .i64)) (.cons (.h 106) .nil))))))))), (101, (.box (.st (.cons (.int .i64) (.cons (.int .i64) (.cons (.int .i64) (.cons (.int .i64) (.cons (.int .i64) (.cons (.list 3 (.int .i64)) .nil))))))) (.agg (.cons (.ro (.int .i64)) (.cons (.ro (.int .i64)) (.cons (.ro (.int .i64)) (.cons (.ro (.int .i64)) (.cons (.ro (.int .i64)) (.cons (.h 107) .nil))))))))), (102, (.sl 3 (.int .i64))), (103, (.sl 3 (.int .i64))), (104, (.sl 3 (.int .i64))), (105, (.sl 9 .str)), (106, (.sl 3 (.int .i64))), (107, (.sl 3 (.int .i64)))]⟩
def f72d9 : SS := ⟨[(0, (.ro (.list 78 (.st (.cons (.int .i64) (.cons (.int .i64) (.cons (.int .i64) (.cons .str (.cons (.int .i64) .nil))))))))), (2, (.ro (.list 60 (.st (.cons .str (.cons (.int .i64) (.cons (.int .i64) (.cons (.int .i64) .nil)))))))), (3, (.ro (.int .i64))), (8, (.p 100)), (10, (.p 101)), (11, (.ro (.int .i64))), (12, (.h 102)), (13, (.ro .bool)), (14, (.h 103)), (15, (.ro .bool)), (16, (.h 104)), (17, (.ro .bool)), (18, (.h 105))], [(100, (.box (.st (.cons (.int .i64) (.cons (.int .i64) (.cons (.int .i64) (.cons (.int .i64) (.cons (.int .i64) (.cons (.list 3 (.int .i64)) .nil))))))) (.agg (.cons (.ro (.int .i64)) (.cons (.ro (.int .i64)) (.cons (.ro (.int .i64)) (.cons (.ro (.int .i64)) (.cons (.ro (.int .i64)) (.cons (.h 106) .nil))))))))), (101, (.box (.st (.cons (.int .i64) (.cons (.int .i64) (.cons (.int .i64) (.cons (.int .i64) (.cons (.int .i64) (.cons (.list 3 (.int .i64)) .nil))))))) (.agg (.cons (.ro (.int .i64)) (.cons (.ro (.int .i64)) (.cons (.ro (.int .i64)) (.cons (.ro (.int .i64)) (.cons (.ro (.int .i64)) (.cons (.h 107) .nil))))))))), (102, (.sl 3 (.int .i64))), (103, (.sl 3 (.int .i64))), (104, (.sl 3 (.int .i64))), (105, (.sl 9 .str)), (106, (.sl 3 (.int .i64))), (107, (.sl 3 (.int .i64)))]⟩
def f72con (F : (List TNode) → Int → (List TCol) → Int → Option (((Int × Int × Int × Int × Int × Unit × Unit) × Bool) × (List Int))) : Con := ⟨f72in, f72out, 4, 2, fun x => F x.1 x.2.1 x.2.2.1 x.2.2.2⟩
def f72ctx (k : Nat) : Ctx := ⟨tyAt tys, conAt [(69, [f69con (spec_l4NumOf k)]), (70, [f70con (spec_l18List k)]), (71, [f71con (spec_l5Leaves k)]), (93, [f93con (spec_LeafPath k)]), (116, [f116con (spec_l4Find k)]), (119, [f119con (spec_l16Ids k)])], 179, fun _ => false⟩
theorem f72hc (k : Nat) : CtxOk Tryz.prog (f72ctx k) := ctxOk tys_ok mixed_ok (consOk_cons (f69ok k) (consOk_cons (f70ok k) (consOk_cons (f71ok k) (consOk_cons (f93ok k) (consOk_cons (f116ok k) (consOk_cons (f119ok k) (consOk_nil)))))))
theorem f72ok (k : Nat) : FnOk Tryz.prog 72 (f72con (spec_l18From k)) :=
  let hc := f72hc k
  fnOk (fn := Tryz.f72) (code := bodyOf Tryz.f72) (res := [.cell 8 40, .tmp 9]) hc (by kernel_rfl) (by kernel_rfl) (by decide) (by kernel_rfl) (by kernel_rfl) (by kernel_rfl) (Nat.le_of_ble_eq_true (by kernel_rfl)) _
    (fun x => Snd.seq (by kernel_rfl) (Snd.seq (by kernel_rfl) (Snd.seq (by kernel_rfl) (Snd.seq (by kernel_rfl) (Snd.seq (by kernel_rfl) (Snd.seq (by kernel_rfl) (Snd.seq (by kernel_rfl) (Snd.seq (by kernel_rfl) (Snd.seq (by kernel_rfl) (Snd.seq (by kernel_rfl) (Snd.seq (by kernel_rfl) (Snd.seq (by kernel_rfl) (Snd.seq (by kernel_rfl) (Snd.cut (Snd.exec hc _ _ _ _) ⟨f72s26, fun x => spec_l18From.c26 k x.2.1 x.2.2.1 x.2.2.2.1 x.2.2.2.2⟩ (fun x => by kernel_rfl)) (Snd.exec hc _ _ _ _)) (Snd.seq (by kernel_rfl) (Snd.block (id := 2) (by kernel_rfl) (Snd.loop' (by kernel_rfl) f72s18 (fun n x => spec_l18From.l18 k n x.1.1 x.1.2.2.2.1 x.1.2.2.2.2.2.2 x.2.1 x.2.2.1 x.2.2.2.1 x.2.2.2.2.1 x.2.2.2.2.2.1 x.2.2.2.2.2.2.1 x.2.2.2.2.2.2.2) _ (fun _ => rfl) (fun n18 => Snd.exec hc _ _ _ _) (fun n x => by kernel_rfl) k)) (Snd.exec hc _ _ _ _))) (Snd.exec hc _ _ _ _)) (Snd.seq (by kernel_rfl) (Snd.block (id := 0) (by kernel_rfl) (Snd.loop' (by kernel_rfl) f72s12 (fun n x => spec_l18From.l12 k n x.1.1 x.1.2.1 x.1.2.2.2.2.1 x.1.2.2.2.2.2.2.2.2.2 x.2.1 x.2.2.1 x.2.2.2.1 x.2.2.2.2.1 x.2.2.2.2.2.1 x.2.2.2.2.2.2.1 x.2.2.2.2.2.2.2.1 x.2.2.2.2.2.2.2.2) _ (fun _ => rfl) (fun n12 => Snd.exec hc _ _ _ _) (fun n x => by kernel_rfl) k)) (Snd.exec hc _ _ _ _))) (Snd.seq (by kernel_rfl) (Snd.exec hc _ _ _ _) (Snd.fork hc (id := 9) (by kernel_rfl) ⟨f72d9, fun x => spec_l18From.d9 k x.1.1 x.1.2.1 x.1.2.2.1 x.1.2.2.2.2.2.1 x.1.2.2.2.2.2.2.2.1 x.1.2.2.2.2.2.2.2.2.2.1 x.1.2.2.2.2.2.2.2.2.2.2.2.1 x.2.1 x.2.2.1 x.2.2.2.1 x.2.2.2.2.1 x.2.2.2.2.2.1 x.2.2.2.2.2.2.1 x.2.2.2.2.2.2.2.1 x.2.2.2.2.2.2.2.2⟩ [[0, 1, 2, 3, 4, 5, 6, 7, 8, 9, 10, 11, 12, 13, 14, 15, 16, 17, 18, 19, 21, 22, 24, 20, 23, 25, 26, 27, 28, 29, 30, 31, 32, 33, 34, 35, 36, 37, 38, 39, 40, 41, 42, 43, 44, 45, 46], [0, 1, 2, 3, 4, 5, 6, 7, 8, 9, 10, 11, 12, 13, 14, 15, 16, 17, 18, 19, 21, 22, 24, 23, 20, 25, 26, 27, 28, 29, 30, 31, 32, 33, 34, 35, 36, 37, 38, 39, 40, 41, 42, 43, 44, 45, 46]] (by kernel_rfl) (ords_cons (fun x => by kernel_rfl) (ords_cons (fun x => by kernel_rfl) (ords_nil)))))) (Snd.exec hc _ _ _ _)) (Snd.exec hc _ _ _ _)) (Snd.exec hc _ _ _ _)) (Snd.exec hc _ _ _ _)) (Snd.exec hc _ _ _ _)) (Snd.exec hc _ _ _ _)) (Snd.exec hc _ _ _ _)) (Snd.exec hc _ _ _ _))
    (fun x => by kernel_rfl)

def f33in : SS := ⟨[(0, (.ro (.list 78 (.st (.cons (.int .i64) (.cons (.int .i64) (.cons (.int .i64) (.cons .str (.cons (.int .i64) .nil)))))))))], []⟩
def f33out : SS := ⟨[(0, (.agg (.cons (.h 100) (.cons (.ro (.int .i64)) (.cons (.h 101) .nil))))), (1, (.ro .bool))], [(100, (.sl 60 (.st (.cons .str (.cons (.int .i64) (.cons (.int .i64) (.cons (.int .i64) .nil))))))), (101, (.sl 37 (.st (.cons (.int .i64) (.cons (.list 40 (.st (.cons (.int .i64) (.cons (.int .i64) (.cons (.int .i64) (.cons (.int .i64) (.cons (.int .i64) (.cons (.list 3 (.int .i64)) .nil)))))))) .nil)))))]⟩
def f33s19 : SS := ⟨[(0, (.ro (.list 78 (.st (.cons (.int .i64) (.cons (.int .i64) (.cons (.int .i64) (.cons .str (.cons (.int .i64) .nil))))))))), (2, (.p 100)), (4, (.p 101)), (5, (.h 102)), (9, (.h 103)), (11, (.p 104)), (12, (.ro (.int .i64))), (15, (.h 105)), (17, (.p 106)), (18, (.ro (.int .i64)))], [(100, (.box (.st (.cons (.list 60 (.st (.cons .str (.cons (.int .i64) (.cons (.int .i64) (.cons (.int .i64) .nil)))))) (.cons (.int .i64) (.cons (.list 37 (.st (.cons (.int .i64) (.cons (.list 40 (.st (.cons (.int .i64) (.cons (.int .i64) (.cons (.int .i64) (.cons (.int .i64) (.cons (.int .i64) (.cons (.list 3 (.int .i64)) .nil)))))))) .nil)))) .nil)))) (.agg (.cons (.h 107) (.cons (.ro (.int .i64)) (.cons (.h 108) .nil)))))), (101, (.box (.st (.cons (.list 60 (.st (.cons .str (.cons (.int .i64) (.cons (.int .i64) (.cons (.int .i64) .nil)))))) (.cons (.int .i64) (.cons (.list 37 (.st (.cons (.int .i64) (.cons (.list 40 (.st (.cons (.int .i64) (.cons (.int .i64) (.cons (.int .i64) (.cons (.int .i64) (.cons (.int .i64) (.cons (.list 3 (.int .i64)) .nil)))))))) .nil)))) .nil)))) (.agg (.cons (.h 109) (.cons (.ro (.int .i64)) (.cons (.h 110) .nil)))))), (102, (.sl 60 (.st (.cons .str (.cons (.int .i64) (.cons (.int .i64) (.cons (.int .i64) .nil))))))), (103, (.sl 3 (.int .i64))), (104, (.box (.st (.cons (.list 60 (.st (.cons .str (.cons (.int .i64) (.cons (.int .i64) (.cons (.int .i64) .nil)))))) (.cons (.int .i64) (.cons (.list 37 (.st (.cons (.int .i64) (.cons (.list 40 (.st (.cons (.int .i64) (.cons (.int .i64) (.cons (.int .i64) (.cons (.int .i64) (.cons (.int .i64) (.cons (.list 3 (.int .i64)) .nil)))))))) .nil)))) .nil)))) (.agg (.cons (.h 102) (.cons (.ro (.int .i64)) (.cons (.h 111) .nil)))))), (105, (.sl 3 (.int .i64))), (106, (.box (.st (.cons (.int .i64) (.cons (.list 40 (.st (.cons (.int .i64) (.cons (.int .i64) (.cons (.int .i64) (.cons (.int .i64) (.cons (.int .i64) (.cons (.list 3 (.int .i64)) .nil)))))))) .nil))) (.agg (.cons (.ro (.int .i64)) (.cons (.h 112) .nil))))), (107, (.sl 60 (.st (.cons .str (.cons (.int .i64) (.cons (.int .i64) (.cons (.int .i64) .nil))))))), (108, (.sl 37 (.st (.cons (.int .i64) (.cons (.list 40 (.st (.cons (.int .i64) (.cons (.int .i64) (.cons (.int .i64) (.cons (.int .i64) (.cons (.int .i64) (.cons (.list 3 (.int .i64)) .nil)))))))) .nil))))), (109, (.sl 60 (.st (.cons .str (.cons (.int .i64) (.cons (.int .i64) (.cons (.int .i64) .nil))))))), (110, (.sl 37 (.st (.cons (.int .i64) (.cons (.list 40 (.st (.cons (.int .i64) (.cons (.int .i64) (.cons (.int .i64) (.cons (.int .i64) (.cons (.int .i64) (.cons (.list 3 (.int .i64)) .nil)))))))) .nil))))), (111, (.sl 37 (.st (.cons (.int .i64) (.cons (.list 40 (.st (.cons (.int .i64) (.cons (.int .i64) (.cons (.int .i64) (.cons (.int .i64) (.cons (.int .i64) (.cons (.list 3 (.int .i64)) .nil)))))))) .nil))))), (112, (.sl 40 (.st (.cons (.int .i64) (.cons (.int .i64) (.cons (.int .i64) (.cons (.int .i64) (.cons (.int .i64) (.cons (.list 3 (.int .i64)) .nil)))))))))]⟩
def f33s11 : SS := ⟨[(0, (.ro (.list 78 (.st (.cons (.int .i64) (.cons (.int .i64) (.cons (.int .i64) (.cons .str (.cons (.int .i64) .nil))))))))), (2, (.p 100)), (4, (.p 101)), (5, (.h 102)), (9, (.h 103)), (11, (.p 104)), (12, (.ro (.int .i64)))], [(100, (.box (.st (.cons (.list 60 (.st (.cons .str (.cons (.int .i64) (.cons (.int .i64) (.cons (.int .i64) .nil)))))) (.cons (.int .i64) (.cons (.list 37 (.st (.cons (.int .i64) (.cons (.list 40 (.st (.cons (.int .i64) (.cons (.int .i64) (.cons (.int .i64) (.cons (.int .i64) (.cons (.int .i64) (.cons (.list 3 (.int .i64)) .nil)))))))) .nil)))) .nil)))) (.agg (.cons (.h 105) (.cons (.ro (.int .i64)) (.cons (.h 106) .nil)))))), (101, (.box (.st (.cons (.list 60 (.st (.cons .str (.cons (.int .i64) (.cons (.int .i64) (.cons (.int .i64) .nil)))))) (.cons (.int .i64) (.cons (.list 37 (.st (.cons (.int .i64) (.cons (.list 40 (.st (.cons (.int .i64) (.cons (.int .i64) (.cons (.int .i64) (.cons (.int .i64) (.cons (.int .i64) (.cons (.list 3 (.int .i64)) .nil)))))))) .nil)))) .nil)))) (.agg (.cons (.h 107) (.cons (.ro (.int .i64)) (.cons (.h 108) .nil)))))), (102, (.sl 60 (.st (.cons .str (.cons (.int .i64) (.cons (.int .i64) (.cons (.int .i64) .nil))))))), (103, (.sl 3 (.int .i64))), (104, (.box (.st (.cons (.list 60 (.st (.cons .str (.cons (.int .i64) (.cons (.int .i64) (.cons (.int .i64) .nil)))))) (.cons (.int .i64) (.cons (.list 37 (.st (.cons (.int .i64) (.cons (.list 40 (.st (.cons (.int .i64) (.cons (.int .i64) (.cons (.int .i64) (.cons (.int .i64) (.cons (.int .i64) (.cons (.list 3 (.int .i64)) .nil)))))))) .nil)))) .nil)))) (.agg (.cons (.h 102) (.cons (.ro (.int .i64)) (.cons (.h 109) .nil)))))), (105, (.sl 60 (.st (.cons .str (.cons (.int .i64) (.cons (.int .i64) (.cons (.int .i64) .nil))))))), (106, (.sl 37 (.st (.cons (.int .i64) (.cons (.list 40 (.st (.cons (.int .i64) (.cons (.int .i64) (.cons (.int .i64) (.cons (.int .i64) (.cons (.int .i64) (.cons (.list 3 (.int .i64)) .nil)))))))) .nil))))), (107, (.sl 60 (.st (.cons .str (.cons (.int .i64) (.cons (.int .i64) (.cons (.int .i64) .nil))))))), (108, (.sl 37 (.st (.cons (.int .i64) (.cons (.list 40 (.st (.cons (.int .i64) (.cons (.int .i64) (.cons (.int .i64) (.cons (.int .i64) (.cons (.int .i64) (.cons (.list 3 (.int .i64)) .nil)))))))) .nil))))), (109, (.sl 37 (.st (.cons (.int .i64) (.cons (.list 40 (.st (.cons (.int .i64) (.cons (.int .i64) (.cons (.int .i64) (.cons (.int .i64) (.cons (.int .i64) (.cons (.list 3 (.int .i64)) .nil)))))))) .nil)))))]⟩
def f33con (F : (List TNode) → Option (((Unit × Int × Unit × Unit) × Bool) × (List TCol) × (List TGroupMeta))) : Con := ⟨f33in, f33out, 1, 2, fun x => F x⟩
def f33ctx (k : Nat) : Ctx := ⟨tyAt tys, conAt [(53, [f53con (spec_MetaOk k)]), (58, [f58con (spec_TreeOk k)]), (68, [f68con (spec_l5Of k)]), (69, [f69con (spec_l4NumOf k)]), (70, [f70con (spec_l18List k)]), (71, [f71con (spec_l5Leaves k)]), (72, [f72con (spec_l18From k)])], 133, fun _ => false⟩
theorem f33hc (k : Nat) : CtxOk Tryz.prog (f33ctx k) := ctxOk tys_ok mixed_ok (consOk_cons (f53ok k) (consOk_cons (f58ok k) (consOk_cons (f68ok k) (consOk_cons (f69ok k) (consOk_cons (f70ok k) (consOk_cons (f71ok k) (consOk_cons (f72ok k) (consOk_nil))))))))
theorem f33ok (k : Nat) : FnOk Tryz.prog 33 (f33con (spec_MetaFrom k)) :=
  let hc := f33hc k
  fnOk (fn := Tryz.f33) (code := bodyOf Tryz.f33) (res := [.cell 2 27, .tmp 3]) hc (by kernel_rfl) (by kernel_rfl) (by decide) (by kernel_rfl) (by kernel_rfl) (by kernel_rfl) (Nat.le_of_ble_eq_true (by kernel_rfl)) _
    (fun x => Snd.seq (by kernel_rfl) (Snd.seq (by kernel_rfl) (Snd.seq (by kernel_rfl) (Snd.seq (by kernel_rfl) (Snd.seq (by kernel_rfl) (Snd.seq (by kernel_rfl) (Snd.seq (by kernel_rfl) (Snd.seq (by kernel_rfl) (Snd.seq (by kernel_rfl) (Snd.exec hc _ _ _ _) (Snd.seq (by kernel_rfl) (Snd.block (id := 0) (by kernel_rfl) (Snd.loop' (by kernel_rfl) f33s11 (fun n x => spec_MetaFrom.l11 k n x.1.1 x.1.2.2.2.2.2.2 x.2.1 x.2.2.1 x.2.2.2.1 x.2.2.2.2.1 x.2.2.2.2.2.1 x.2.2.2.2.2.2.1 x.2.2.2.2.2.2.2.1 x.2.2.2.2.2.2.2.2.1 x.2.2.2.2.2.2.2.2.2.1 x.2.2.2.2.2.2.2.2.2.2) _ (fun _ => rfl) (fun n11 => Snd.seq (by kernel_rfl) (Snd.seq (by kernel_rfl) (Snd.exec hc _ _ _ _) (Snd.block (id := 1) (by kernel_rfl) (Snd.seq (by kernel_rfl) (Snd.seq (by kernel_rfl) (Snd.seq (by kernel_rfl) (Snd.seq (by kernel_rfl) (Snd.seq (by kernel_rfl) (Snd.exec hc _ _ _ _) (Snd.seq (by kernel_rfl) (Snd.block (id := 2) (by kernel_rfl) (Snd.loop' (by kernel_rfl) f33s19 (fun n x => spec_MetaFrom.l19 k (spec_MetaFrom.l11 k n11) n x.1.1 x.1.2.2.2.2.2.2.1 x.1.2.2.2.2.2.2.2.2.2 x.2.1 x.2.2.1 x.2.2.2.1 x.2.2.2.2.1 x.2.2.2.2.2.1 x.2.2.2.2.2.2.1 x.2.2.2.2.2.2.2.1 x.2.2.2.2.2.2.2.2.1 x.2.2.2.2.2.2.2.2.2.1 x.2.2.2.2.2.2.2.2.2.2.1 x.2.2.2.2.2.2.2.2.2.2.2.1 x.2.2.2.2.2.2.2.2.2.2.2.2.1 x.2.2.2.2.2.2.2.2.2.2.2.2.2) _ (fun _ => rfl) (fun n19 => Snd.exec hc _ _ _ _) (fun n x => by kernel_rfl) k)) (Snd.exec hc _ _ _ _))) (Snd.exec hc _ _ _ _)) (Snd.exec hc _ _ _ _)) (Snd.exec hc _ _ _ _)) (Snd.exec hc _ _ _ _)))) (Snd.exec hc _ _ _ _)) (fun n x => by kernel_rfl) k)) (Snd.exec hc _ _ _ _))) (Snd.exec hc _ _ _ _)) (Snd.exec hc _ _ _ _)) (Snd.exec hc _ _ _ _)) (Snd.exec hc _ _ _ _)) (Snd.exec hc _ _ _ _)) (Snd.exec hc _ _ _ _)) (Snd.exec hc _ _ _ _)) (Snd.exec hc _ _ _ _))
    (fun x => by kernel_rfl)

def f13in : SS := ⟨[(0, (.ro (.list 5 (.int .u8)))), (1, (.ro (.int .i64)))], []⟩
def f13out : SS := ⟨[(0, (.agg (.cons (.h 100) (.cons (.ro (.int .i64)) (.cons (.h 101) .nil))))), (1, (.ro (.int .i64))), (2, (.ro .bool))], [(100, (.sl 60 (.st (.cons .str (.cons (.int .i64) (.cons (.int .i64) (.cons (.int .i64) .nil))))))), (101, (.sl 37 (.st (.cons (.int .i64) (.cons (.list 40 (.st (.cons (.int .i64) (.cons (.int .i64) (.cons (.int .i64) (.cons (.int .i64) (.cons (.int .i64) (.cons (.list 3 (.int .i64)) .nil)))))))) .nil)))))]⟩
def f13con (F : (List Int) → Int → Option (((Unit × Int × Unit × Unit) × Int × Bool) × (List TCol) × (List TGroupMeta))) : Con := ⟨f13in, f13out, 2, 3, fun x => F x.1 x.2⟩
def f13ctx (k : Nat) : Ctx := ⟨tyAt tys, conAt [(32, [f32con (spec_TreeRead k)]), (33, [f33con (spec_MetaFrom k)])], 32, fun _ => false⟩
theorem f13hc (k : Nat) : CtxOk Tryz.prog (f13ctx k) := ctxOk tys_ok mixed_ok (consOk_cons (f32ok k) (consOk_cons (f33ok k) (consOk_nil)))
theorem f13ok (k : Nat) : FnOk Tryz.prog 13 (f13con (spec_MetaRead k)) :=
  let hc := f13hc k
  fnOk (fn := Tryz.f13) (code := bodyOf Tryz.f13) (res := [.cell 4 27, .tmp 5, .tmp 6]) hc (by kernel_rfl) (by kernel_rfl) (by decide) (by kernel_rfl) (by kernel_rfl) (by kernel_rfl) (Nat.le_of_ble_eq_true (by kernel_rfl)) _
    (fun x => Snd.exec hc _ _ _ _)
    (fun x => by kernel_rfl)

def f14in : SS := ⟨[(0, (.ro (.list 5 (.int .u8))))], []⟩
def f14out : SS := ⟨[(0, (.h 100))], [(100, (.sl 5 (.int .u8)))]⟩
def f14s3 : SS := ⟨[(0, (.ro (.list 5 (.int .u8)))), (3, (.h 100)), (4, (.ro (.int .i64)))], [(100, (.sl 5 (.int .u8)))]⟩
def f14con (F : (List Int) → Option (Unit × (List Int))) : Con := ⟨f14in, f14out, 1, 1, fun x => F x⟩
def f14ctx (k : Nat) : Ctx := ⟨tyAt tys, conAt [], 22, fun _ => false⟩
theorem f14hc (k : Nat) : CtxOk Tryz.prog (f14ctx k) := ctxOk tys_ok mixed_ok (consOk_nil)
theorem f14ok (k : Nat) : FnOk Tryz.prog 14 (f14con (laws_toByteS k)) :=
  let hc := f14hc k
  fnOk (fn := Tryz.f14) (code := bodyOf Tryz.f14) (res := [.tmp 2]) hc (by kernel_rfl) (by kernel_rfl) (by decide) (by kernel_rfl) (by kernel_rfl) (by kernel_rfl) (Nat.le_of_ble_eq_true (by kernel_rfl)) _
    (fun x => Snd.seq (by kernel_rfl) (Snd.seq (by kernel_rfl) (Snd.seq (by kernel_rfl) (Snd.exec hc _ _ _ _) (Snd.seq (by kernel_rfl) (Snd.block (id := 0) (by kernel_rfl) (Snd.loop' (by kernel_rfl) f14s3 (fun n x => laws_toByteS.l3 k n x.1.1 x.1.2.2 x.2) _ (fun _ => rfl) (fun n3 => Snd.exec hc _ _ _ _) (fun n x => by kernel_rfl) k)) (Snd.exec hc _ _ _ _))) (Snd.exec hc _ _ _ _)) (Snd.exec hc _ _ _ _))
    (fun x => by kernel_rfl)

def f73in : SS := ⟨[(0, (.ro (.st (.cons .str (.cons (.int .i64) (.cons (.int .i64) (.cons (.int .i64) .nil))))))), (1, (.ro (.st (.cons .str (.cons (.int .i64) (.cons (.int .i64) (.cons (.int .i64) .nil)))))))], []⟩
def f73out : SS := ⟨[(0, (.ro .bool))], []⟩
def f73con (F : TCol → TCol → Option Bool) : Con := ⟨f73in, f73out, 2, 1, fun x => F x.1 x.2⟩
def f73ctx (k : Nat) : Ctx := ⟨tyAt tys, conAt [], 25, fun _ => false⟩
theorem f73hc (k : Nat) : CtxOk Tryz.prog (f73ctx k) := ctxOk tys_ok mixed_ok (consOk_nil)
theorem f73ok (k : Nat) : FnOk Tryz.prog 73 (f73con (laws_eqCol k)) :=
  let hc := f73hc k
  fnOk (fn := Tryz.f73) (code := bodyOf Tryz.f73) (res := [.tmp 4]) hc (by kernel_rfl) (by kernel_rfl) (by decide) (by kernel_rfl) (by kernel_rfl) (by kernel_rfl) (Nat.le_of_ble_eq_true (by kernel_rfl)) _
    (fun x => Snd.exec hc _ _ _ _)
    (fun x => by kernel_rfl)

def f34in : SS := ⟨[(0, (.ro (.list 60 (.st (.cons .str (.cons (.int .i64) (.cons (.int .i64) (.cons (.int .i64) .nil)))))))), (1, (.ro (.list 60 (.st (.cons .str (.cons (.int .i64) (.cons (.int .i64) (.cons (.int .i64) .nil))))))))], []⟩
def f34out : SS := ⟨[(0, (.ro .bool))], []⟩
def f34s4 : SS := ⟨[(0, (.ro (.list 60 (.st (.cons .str (.cons (.int .i64) (.cons (.int .i64) (.cons (.int .i64) .nil)))))))), (1, (.ro (.list 60 (.st (.cons .str (.cons (.int .i64) (.cons (.int .i64) (.cons (.int .i64) .nil)))))))), (5, (.ro (.int .i64)))], []⟩
def f34con (F : (List TCol) → (List TCol) → Option Bool) : Con := ⟨f34in, f34out, 2, 1, fun x => F x.1 x.2⟩
def f34ctx (k : Nat) : Ctx := ⟨tyAt tys, conAt [(73, [f73con (laws_eqCol k)])], 27, fun _ => false⟩
theorem f34hc (k : Nat) : CtxOk Tryz.prog (f34ctx k) := ctxOk tys_ok mixed_ok (consOk_cons (f73ok k) (consOk_nil))
theorem f34ok (k : Nat) : FnOk Tryz.prog 34 (f34con (laws_eqColS k)) :=
  let hc := f34hc k
  fnOk (fn := Tryz.f34) (code := bodyOf Tryz.f34) (res := [.tmp 4]) hc (by kernel_rfl) (by kernel_rfl) (by decide) (by kernel_rfl) (by kernel_rfl) (by kernel_rfl) (Nat.le_of_ble_eq_true (by kernel_rfl)) _
    (fun x => Snd.seq (by kernel_rfl) (Snd.seq (by kernel_rfl) (Snd.seq (by kernel_rfl) (Snd.exec hc _ _ _ _) (Snd.seq (by kernel_rfl) (Snd.block (id := 0) (by kernel_rfl) (Snd.loop' (by kernel_rfl) f34s4 (fun n x => laws_eqColS.l4 k n x.1 x.2.1 x.2.2) _ (fun _ => rfl) (fun n4 => Snd.exec hc _ _ _ _) (fun n x => by kernel_rfl) k)) (Snd.exec hc _ _ _ _))) (Snd.exec hc _ _ _ _)) (Snd.exec hc _ _ _ _))
    (fun x => by kernel_rfl)

def f150in : SS := ⟨[(0, (.ro (.list 3 (.int .i64)))), (1, (.ro (.list 3 (.int .i64))))], []⟩
def f150out : SS := ⟨[(0, (.ro .bool))], []⟩
def f150s4 : SS := ⟨[(0, (.ro (.list 3 (.int .i64)))), (1, (.ro (.list 3 (.int .i64)))), (5, (.ro (.int .i64)))], []⟩
def f150con (F : (List Int) → (List Int) → Option Bool) : Con := ⟨f150in, f150out, 2, 1, fun x => F x.1 x.2⟩
def f150ctx (k : Nat) : Ctx := ⟨tyAt tys, conAt [], 26, fun _ => false⟩
theorem f150hc (k : Nat) : CtxOk Tryz.prog (f150ctx k) := ctxOk tys_ok mixed_ok (consOk_nil)
theorem f150ok (k : Nat) : FnOk Tryz.prog 150 (f150con (laws_eqIntS k)) :=
  let hc := f150hc k
  fnOk (fn := Tryz.f150) (code := bodyOf Tryz.f150) (res := [.tmp 4]) hc (by kernel_rfl) (by kernel_rfl) (by decide) (by kernel_rfl) (by kernel_rfl) (by kernel_rfl) (Nat.le_of_ble_eq_true (by kernel_rfl)) _
    (fun x => Snd.seq (by kernel_rfl) (Snd.seq (by kernel_rfl) (Snd.seq (by kernel_rfl) (Snd.exec hc _ _ _ _) (Snd.seq (by kernel_rfl) (Snd.block (id := 0) (by kernel_rfl) (Snd.loop' (by kernel_rfl) f150s4 (fun n x => laws_eqIntS.l4 k n x.1 x.2.1 x.2.2) _ (fun _ => rfl) (fun n4 => Snd.exec hc _ _ _ _) (fun n x => by kernel_rfl) k)) (Snd.exec hc _ _ _ _))) (Snd.exec hc _ _ _ _)) (Snd.exec hc _ _ _ _))
    (fun x => by kernel_rfl)

def f146in : SS := ⟨[(0, (.ro (.st (.cons (.int .i64) (.cons (.int .i64) (.cons (.int .i64) (.cons (.int .i64) (.cons (.int .i64) (.cons (.list 3 (.int .i64)) .nil))))))))), (1, (.ro (.st (.cons (.int .i64) (.cons (.int .i64) (.cons (.int .i64) (.cons (.int .i64) (.cons (.int .i64) (.cons (.list 3 (.int .i64)) .nil)))))))))], []⟩
def f146out : SS := ⟨[(0, (.ro .bool))], []⟩
def f146con (F : TChunk → TChunk → Option Bool) : Con := ⟨f146in, f146out, 2, 1, fun x => F x.1 x.2⟩
def f146ctx (k : Nat) : Ctx := ⟨tyAt tys, conAt [(150, [f150con (laws_eqIntS k)])], 36, fun _ => false⟩
theorem f146hc (k : Nat) : CtxOk Tryz.prog (f146ctx k) := ctxOk tys_ok mixed_ok (consOk_cons (f150ok k) (consOk_nil))
theorem f146ok (k : Nat) : FnOk Tryz.prog 146 (f146con (laws_eqChunk k)) :=
  let hc := f146hc k
  fnOk (fn := Tryz.f146) (code := bodyOf Tryz.f146) (res := [.tmp 4]) hc (by kernel_rfl) (by kernel_rfl) (by decide) (by kernel_rfl) (by kernel_rfl) (by kernel_rfl) (Nat.le_of_ble_eq_true (by kernel_rfl)) _
    (fun x => Snd.exec hc _ _ _ _)
    (fun x => by kernel_rfl)

def f120in : SS := ⟨[(0, (.ro (.list 40 (.st (.cons (.int .i64) (.cons (.int .i64) (.cons (.int .i64) (.cons (.int .i64) (.cons (.int .i64) (.cons (.list 3 (.int .i64)) .nil)))))))))), (1, (.ro (.list 40 (.st (.cons (.int .i64) (.cons (.int .i64) (.cons (.int .i64) (.cons (.int .i64) (.cons (.int .i64) (.cons (.list 3 (.int .i64)) .nil))))))))))], []⟩
def f120out : SS := ⟨[(0, (.ro .bool))], []⟩
def f120s4 : SS := ⟨[(0, (.ro (.list 40 (.st (.cons (.int .i64) (.cons (.int .i64) (.cons (.int .i64) (.cons (.int .i64) (.cons (.int .i64) (.cons (.list 3 (.int .i64)) .nil)))))))))), (1, (.ro (.list 40 (.st (.cons (.int .i64) (.cons (.int .i64) (.cons (.int .i64) (.cons (.int .i64) (.cons (.int .i64) (.cons (.list 3 (.int .i64)) .nil)))))))))), (5, (.ro (.int .i64)))], []⟩
def f120con (F : (List TChunk) → (List TChunk) → Option Bool) : Con := ⟨f120in, f120out, 2, 1, fun x => F x.1 x.2⟩
def f120ctx (k : Nat) : Ctx := ⟨tyAt tys, conAt [(146, [f146con (laws_eqChunk k)])], 27, fun _ => false⟩
theorem f120hc (k : Nat) : CtxOk Tryz.prog (f120ctx k) := ctxOk tys_ok mixed_ok (consOk_cons (f146ok k) (consOk_nil))
theorem f120ok (k : Nat) : FnOk Tryz.prog 120 (f120con (laws_eqChunkS k)) :=
  let hc := f120hc k
  fnOk (fn := Tryz.f120) (code := bodyOf Tryz.f120) (res := [.tmp 4]) hc (by kernel_rfl) (by kernel_rfl) (by decide) (by kernel_rfl) (by kernel_rfl) (by kernel_rfl) (Nat.le_of_ble_eq_true (by kernel_rfl)) _
    (fun x => Snd.seq (by kernel_rfl) (Snd.seq (by kernel_rfl) (Snd.seq (by kernel_rfl) (Snd.exec hc _ _ _ _) (Snd.seq (by kernel_rfl) (Snd.block (id := 0) (by kernel_rfl) (Snd.loop' (by kernel_rfl) f120s4 (fun n x => laws_eqChunkS.l4 k n x.1 x.2.1 x.2.2) _ (fun _ => rfl) (fun n4 => Snd.exec hc _ _ _ _) (fun n x => by kernel_rfl) k)) (Snd.exec hc _ _ _ _))) (Snd.exec hc _ _ _ _)) (Snd.exec hc _ _ _ _))
    (fun x => by kernel_rfl)

def f74in : SS := ⟨[(0, (.ro (.st (.cons (.int .i64) (.cons (.list 40 (.st (.cons (.int .i64) (.cons (.int .i64) (.cons (.int .i64) (.cons (.int .i64) (.cons (.int .i64) (.cons (.list 3 (.int .i64)) .nil)))))))) .nil))))), (1, (.ro (.st (.cons (.int .i64) (.cons (.list 40 (.st (.cons (.int .i64) (.cons (.int .i64) (.cons (.int .i64) (.cons (.int .i64) (.cons (.int .i64) (.cons (.list 3 (.int .i64)) .nil)))))))) .nil)))))], []⟩
def f74out : SS := ⟨[(0, (.ro .bool))], []⟩
def f74con (F : TGroupMeta → TGroupMeta → Option Bool) : Con := ⟨f74in, f74out, 2, 1, fun x => F x.1 x.2⟩
def f74ctx (k : Nat) : Ctx := ⟨tyAt tys, conAt [(120, [f120con (laws_eqChunkS k)])], 16, fun _ => false⟩
theorem f74hc (k : Nat) : CtxOk Tryz.prog (f74ctx k) := ctxOk tys_ok mixed_ok (consOk_cons (f120ok k) (consOk_nil))
theorem f74ok (k : Nat) : FnOk Tryz.prog 74 (f74con (laws_eqGroupMeta k)) :=
  let hc := f74hc k
  fnOk (fn := Tryz.f74) (code := bodyOf Tryz.f74) (res := [.tmp 4]) hc (by kernel_rfl) (by kernel_rfl) (by decide) (by kernel_rfl) (by kernel_rfl) (by kernel_rfl) (Nat.le_of_ble_eq_true (by kernel_rfl)) _
    (fun x => Snd.exec hc _ _ _ _)
    (fun x => by kernel_rfl)

def f35in : SS := ⟨[(0, (.ro (.list 37 (.st (.cons (.int .i64) (.cons (.list 40 (.st (.cons (.int .i64) (.cons (.int .i64) (.cons (.int .i64) (.cons (.int .i64) (.cons (.int .i64) (.cons (.list 3 (.int .i64)) .nil)))))))) .nil)))))), (1, (.ro (.list 37 (.st (.cons (.int .i64) (.cons (.list 40 (.st (.cons (.int .i64) (.cons (.int .i64) (.cons (.int .i64) (.cons (.int .i64) (.cons (.int .i64) (.cons (.list 3 (.int .i64)) .nil)))))))) .nil))))))], []⟩
def f35out : SS := ⟨[(0, (.ro .bool))], []⟩
def f35s4 : SS := ⟨[(0, (.ro (.list 37 (.st (.cons (.int .i64) (.cons (.list 40 (.st (.cons (.int .i64) (.cons (.int .i64) (.cons (.int .i64) (.cons (.int .i64) (.cons (.int .i64) (.cons (.list 3 (.int .i64)) .nil)))))))) .nil)))))), (1, (.ro (.list 37 (.st (.cons (.int .i64) (.cons (.list 40 (.st (.cons (.int .i64) (.cons (.int .i64) (.cons (.int .i64) (.cons (.int .i64) (.cons (.int .i64) (.cons (.list 3 (.int .i64)) .nil)))))))) .nil)))))), (5, (.ro (.int .i64)))], []⟩
def f35con (F : (List TGroupMeta) → (List TGroupMeta) → Option Bool) : Con := ⟨f35in, f35out, 2, 1, fun x => F x.1 x.2⟩
def f35ctx (k : Nat) : Ctx := ⟨tyAt tys, conAt [(74, [f74con (laws_eqGroupMeta k)])], 27, fun _ => false⟩
theorem f35hc (k : Nat) : CtxOk Tryz.prog (f35ctx k) := ctxOk tys_ok mixed_ok (consOk_cons (f74ok k) (consOk_nil))
theorem f35ok (k : Nat) : FnOk Tryz.prog 35 (f35con (laws_eqGroupMetaS k)) :=
  let hc := f35hc k
  fnOk (fn := Tryz.f35) (code := bodyOf Tryz.f35) (res := [.tmp 4]) hc (by kernel_rfl) (by kernel_rfl) (by decide) (by kernel_rfl) (by kernel_rfl) (by kernel_rfl) (Nat.le_of_ble_eq_true (by kernel_rfl)) _
    (fun x => Snd.seq (by kernel_rfl) (Snd.seq (by kernel_rfl) (Snd.seq (by kernel_rfl) (Snd.exec hc _ _ _ _) (Snd.seq (by kernel_rfl) (Snd.block (id := 0) (by kernel_rfl) (Snd.loop' (by kernel_rfl) f35s4 (fun n x => laws_eqGroupMetaS.l4 k n x.1 x.2.1 x.2.2) _ (fun _ => rfl) (fun n4 => Snd.exec hc _ _ _ _) (fun n x => by kernel_rfl) k)) (Snd.exec hc _ _ _ _))) (Snd.exec hc _ _ _ _)) (Snd.exec hc _ _ _ _))
    (fun x => by kernel_rfl)

def f15in : SS := ⟨[(0, (.ro (.st (.cons (.list 60 (.st (.cons .str (.cons (.int .i64) (.cons (.int .i64) (.cons (.int .i64) .nil)))))) (.cons (.int .i64) (.cons (.list 37 (.st (.cons (.int .i64) (.cons (.list 40 (.st (.cons (.int .i64) (.cons (.int .i64) (.cons (.int .i64) (.cons (.int .i64) (.cons (.int .i64) (.cons (.list 3 (.int .i64)) .nil)))))))) .nil)))) .nil)))))), (1, (.ro (.st (.cons (.list 60 (.st (.cons .str (.cons (.int .i64) (.cons (.int .i64) (.cons (.int .i64) .nil)))))) (.cons (.int .i64) (.cons (.list 37 (.st (.cons (.int .i64) (.cons (.list 40 (.st (.cons (.int .i64) (.cons (.int .i64) (.cons (.int .i64) (.cons (.int .i64) (.cons (.int .i64) (.cons (.list 3 (.int .i64)) .nil)))))))) .nil)))) .nil))))))], []⟩
def f15out : SS := ⟨[(0, (.ro .bool))], []⟩
def f15con (F : TMeta → TMeta → Option Bool) : Con := ⟨f15in, f15out, 2, 1, fun x => F x.1 x.2⟩
def f15ctx (k : Nat) : Ctx := ⟨tyAt tys, conAt [(34, [f34con (laws_eqColS k)]), (35, [f35con (laws_eqGroupMetaS k)])], 22, fun _ => false⟩
theorem f15hc (k : Nat) : CtxOk Tryz.prog (f15ctx k) := ctxOk tys_ok mixed_ok (consOk_cons (f34ok k) (consOk_cons (f35ok k) (consOk_nil)))
theorem f15ok (k : Nat) : FnOk Tryz.prog 15 (f15con (laws_eqMeta k)) :=
  let hc := f15hc k
  fnOk (fn := Tryz.f15) (code := bodyOf Tryz.f15) (res := [.tmp 4]) hc (by kernel_rfl) (by kernel_rfl) (by decide) (by kernel_rfl) (by kernel_rfl) (by kernel_rfl) (Nat.le_of_ble_eq_true (by kernel_rfl)) _
    (fun x => Snd.exec hc _ _ _ _)
    (fun x => by kernel_rfl)

def f16in : SS := ⟨[(0, (.ro (.list 5 (.int .u8)))), (1, (.ro (.list 5 (.int .u8))))], []⟩
def f16out : SS := ⟨[(0, (.ro .bool))], []⟩
def f16s4 : SS := ⟨[(0, (.ro (.list 5 (.int .u8)))), (1, (.ro (.list 5 (.int .u8)))), (5, (.ro (.int .i64)))], []⟩
def f16con (F : (List Int) → (List Int) → Option Bool) : Con := ⟨f16in, f16out, 2, 1, fun x => F x.1 x.2⟩
def f16ctx (k : Nat) : Ctx := ⟨tyAt tys, conAt [], 26, fun _ => false⟩
theorem f16hc (k : Nat) : CtxOk Tryz.prog (f16ctx k) := ctxOk tys_ok mixed_ok (consOk_nil)
theorem f16ok (k : Nat) : FnOk Tryz.prog 16 (f16con (laws_eqByteS k)) :=
  let hc := f16hc k
  fnOk (fn := Tryz.f16) (code := bodyOf Tryz.f16) (res := [.tmp 4]) hc (by kernel_rfl) (by kernel_rfl) (by decide) (by kernel_rfl) (by kernel_rfl) (by kernel_rfl) (Nat.le_of_ble_eq_true (by kernel_rfl)) _
    (fun x => Snd.seq (by kernel_rfl) (Snd.seq (by kernel_rfl) (Snd.seq (by kernel_rfl) (Snd.exec hc _ _ _ _) (Snd.seq (by kernel_rfl) (Snd.block (id := 0) (by kernel_rfl) (Snd.loop' (by kernel_rfl) f16s4 (fun n x => laws_eqByteS.l4 k n x.1 x.2.1 x.2.2) _ (fun _ => rfl) (fun n4 => Snd.exec hc _ _ _ _) (fun n x => by kernel_rfl) k)) (Snd.exec hc _ _ _ _))) (Snd.exec hc _ _ _ _)) (Snd.exec hc _ _ _ _))
    (fun x => by kernel_rfl)

def f17in : SS := ⟨[(0, (.h 10)), (1, (.ro (.int .i64)))], [(10, (.sl 5 (.int .u8)))]⟩
def f17out : SS := ⟨[(0, (.ro (.int .i64)))], [(10, (.sl 5 (.int .u8)))]⟩
def f17s2 : SS := ⟨[(0, (.h 10)), (1, (.ro (.int .i64))), (5, (.ro (.int .i64)))], [(10, (.sl 5 (.int .u8)))]⟩
def f17con (F : Int → (List Int) → Option (Int × (List Int))) : Con := ⟨f17in, f17out, 2, 1, fun x => F x.1.2 x.2⟩
def f17ctx (k : Nat) : Ctx := ⟨tyAt tys, conAt [], 20, fun _ => false⟩
theorem f17hc (k : Nat) : CtxOk Tryz.prog (f17ctx k) := ctxOk tys_ok mixed_ok (consOk_nil)
theorem f17ok (k : Nat) : FnOk Tryz.prog 17 (f17con (laws_markByteS k)) :=
  let hc := f17hc k
  fnOk (fn := Tryz.f17) (code := bodyOf Tryz.f17) (res := [.tmp 4]) hc (by kernel_rfl) (by kernel_rfl) (by decide) (by kernel_rfl) (by kernel_rfl) (by kernel_rfl) (Nat.le_of_ble_eq_true (by kernel_rfl)) _
    (fun x => Snd.seq (by kernel_rfl) (Snd.seq (by kernel_rfl) (Snd.exec hc _ _ _ _) (Snd.seq (by kernel_rfl) (Snd.block (id := 0) (by kernel_rfl) (Snd.loop' (by kernel_rfl) f17s2 (fun n x => laws_markByteS.l2 k n x.1.2.1 x.1.2.2 x.2) _ (fun _ => rfl) (fun n2 => Snd.exec hc _ _ _ _) (fun n x => by kernel_rfl) k)) (Snd.exec hc _ _ _ _))) (Snd.exec hc _ _ _ _))
    (fun x => by kernel_rfl)

def f75in : SS := ⟨[(0, (.ro (.int .i64)))], []⟩
def f75out : SS := ⟨[(0, (.ro .str))], []⟩
def f75s4 : SS := ⟨[(0, (.ro (.int .i64))), (3, (.ro .str))], []⟩
def f75con (F : Int → Option ByteArray) : Con := ⟨f75in, f75out, 1, 1, fun x => F x⟩
def f75ctx (k : Nat) : Ctx := ⟨tyAt tys, conAt [], 20, fun _ => false⟩
theorem f75hc (k : Nat) : CtxOk Tryz.prog (f75ctx k) := ctxOk tys_ok mixed_ok (consOk_nil)
theorem f75ok (k : Nat) : FnOk Tryz.prog 75 (f75con (laws_markText k)) :=
  let hc := f75hc k
  fnOk (fn := Tryz.f75) (code := bodyOf Tryz.f75) (res := [.tmp 2]) hc (by kernel_rfl) (by kernel_rfl) (by decide) (by kernel_rfl) (by kernel_rfl) (by kernel_rfl) (Nat.le_of_ble_eq_true (by kernel_rfl)) _
    (fun x => Snd.seq (by kernel_rfl) (Snd.seq (by kernel_rfl) (Snd.seq (by kernel_rfl) (Snd.seq (by kernel_rfl) (Snd.exec hc _ _ _ _) (Snd.block (id := 0) (by kernel_rfl) (Snd.loop' (by kernel_rfl) f75s4 (fun n x => laws_markText.l4 k n x.1 x.2) _ (fun _ => rfl) (fun n4 => Snd.exec hc _ _ _ _) (fun n x => by kernel_rfl) k))) (Snd.exec hc _ _ _ _)) (Snd.exec hc _ _ _ _)) (Snd.exec hc _ _ _ _))
    (fun x => by kernel_rfl)

def f36in : SS := ⟨[(0, (.h 10)), (1, (.ro (.int .i64)))], [(10, (.sl 60 (.st (.cons .str (.cons (.int .i64) (.cons (.int .i64) (.cons (.int .i64) .nil)))))))]⟩
def f36out : SS := ⟨[(0, (.ro (.int .i64)))], [(10, (.sl 60 (.st (.cons .str (.cons (.int .i64) (.cons (.int .i64) (.cons (.int .i64) .nil)))))))]⟩
def f36s2 : SS := ⟨[(0, (.h 10)), (1, (.ro (.int .i64))), (5, (.ro (.int .i64)))], [(10, (.sl 60 (.st (.cons .str (.cons (.int .i64) (.cons (.int .i64) (.cons (.int .i64) .nil)))))))]⟩
def f36con (F : Int → (List TCol) → Option (Int × (List TCol))) : Con := ⟨f36in, f36out, 2, 1, fun x => F x.1.2 x.2⟩
def f36ctx (k : Nat) : Ctx := ⟨tyAt tys, conAt [(75, [f75con (laws_markText k)])], 42, fun _ => false⟩
theorem f36hc (k : Nat) : CtxOk Tryz.prog (f36ctx k) := ctxOk tys_ok mixed_ok (consOk_cons (f75ok k) (consOk_nil))
theorem f36ok (k : Nat) : FnOk Tryz.prog 36 (f36con (laws_markColS k)) :=
  let hc := f36hc k
  fnOk (fn := Tryz.f36) (code := bodyOf Tryz.f36) (res := [.tmp 4]) hc (by kernel_rfl) (by kernel_rfl) (by decide) (by kernel_rfl) (by kernel_rfl) (by kernel_rfl) (Nat.le_of_ble_eq_true (by kernel_rfl)) _
    (fun x => Snd.seq (by kernel_rfl) (Snd.seq (by kernel_rfl) (Snd.exec hc _ _ _ _) (Snd.seq (by kernel_rfl) (Snd.block (id := 0) (by kernel_rfl) (Snd.loop' (by kernel_rfl) f36s2 (fun n x => laws_markColS.l2 k n x.1.2.1 x.1.2.2 x.2) _ (fun _ => rfl) (fun n2 => Snd.exec hc _ _ _ _) (fun n x => by kernel_rfl) k)) (Snd.exec hc _ _ _ _))) (Snd.exec hc _ _ _ _))
    (fun x => by kernel_rfl)

def f121in : SS := ⟨[(0, (.h 10)), (1, (.ro (.int .i64)))], [(10, (.sl 3 (.int .i64)))]⟩
def f121out : SS := ⟨[(0, (.ro (.int .i64)))], [(10, (.sl 3 (.int .i64)))]⟩
def f121s2 : SS := ⟨[(0, (.h 10)), (1, (.ro (.int .i64))), (5, (.ro (.int .i64)))], [(10, (.sl 3 (.int .i64)))]⟩
def f121con (F : Int → (List Int) → Option (Int × (List Int))) : Con := ⟨f121in, f121out, 2, 1, fun x => F x.1.2 x.2⟩
def f121ctx (k : Nat) : Ctx := ⟨tyAt tys, conAt [], 19, fun _ => false⟩
theorem f121hc (k : Nat) : CtxOk Tryz.prog (f121ctx k) := ctxOk tys_ok mixed_ok (consOk_nil)
theorem f121ok (k : Nat) : FnOk Tryz.prog 121 (f121con (laws_markIntS k)) :=
  let hc := f121hc k
  fnOk (fn := Tryz.f121) (code := bodyOf Tryz.f121) (res := [.tmp 4]) hc (by kernel_rfl) (by kernel_rfl) (by decide) (by kernel_rfl) (by kernel_rfl) (by kernel_rfl) (Nat.le_of_ble_eq_true (by kernel_rfl)) _
    (fun x => Snd.seq (by kernel_rfl) (Snd.seq (by kernel_rfl) (Snd.exec hc _ _ _ _) (Snd.seq (by kernel_rfl) (Snd.block (id := 0) (by kernel_rfl) (Snd.loop' (by kernel_rfl) f121s2 (fun n x => laws_markIntS.l2 k n x.1.2.1 x.1.2.2 x.2) _ (fun _ => rfl) (fun n2 => Snd.exec hc _ _ _ _) (fun n x => by kernel_rfl) k)) (Snd.exec hc _ _ _ _))) (Snd.exec hc _ _ _ _))
    (fun x => by kernel_rfl)

def f76in : SS := ⟨[(0, (.h 10)), (1, (.ro (.int .i64)))], [(10, (.sl 40 (.st (.cons (.int .i64) (.cons (.int .i64) (.cons (.int .i64) (.cons (.int .i64) (.cons (.int .i64) (.cons (.list 3 (.int .i64)) .nil)))))))))]⟩
def f76out : SS := ⟨[(0, (.ro (.int .i64)))], [(10, (.sl 40 (.st (.cons (.int .i64) (.cons (.int .i64) (.cons (.int .i64) (.cons (.int .i64) (.cons (.int .i64) (.cons (.list 3 (.int .i64)) .nil)))))))))]⟩
def f76s2 : SS := ⟨[(0, (.h 10)), (1, (.ro (.int .i64))), (5, (.ro (.int .i64)))], [(10, (.sl 40 (.st (.cons (.int .i64) (.cons (.int .i64) (.cons (.int .i64) (.cons (.int .i64) (.cons (.int .i64) (.cons (.list 3 (.int .i64)) .nil)))))))))]⟩
def f76con (F : Int → (List TChunk) → Option (Int × (List TChunk))) : Con := ⟨f76in, f76out, 2, 1, fun x => F x.1.2 x.2⟩
def f76ctx (k : Nat) : Ctx := ⟨tyAt tys, conAt [(121, [f121con (laws_markIntS k)])], 55, fun _ => false⟩
theorem f76hc (k : Nat) : CtxOk Tryz.prog (f76ctx k) := ctxOk tys_ok mixed_ok (consOk_cons (f121ok k) (consOk_nil))
theorem f76ok (k : Nat) : FnOk Tryz.prog 76 (f76con (laws_markChunkS k)) :=
  let hc := f76hc k
  fnOk (fn := Tryz.f76) (code := bodyOf Tryz.f76) (res := [.tmp 4]) hc (by kernel_rfl) (by kernel_rfl) (by decide) (by kernel_rfl) (by kernel_rfl) (by kernel_rfl) (Nat.le_of_ble_eq_true (by kernel_rfl)) _
    (fun x => Snd.seq (by kernel_rfl) (Snd.seq (by kernel_rfl) (Snd.exec hc _ _ _ _) (Snd.seq (by kernel_rfl) (Snd.block (id := 0) (by kernel_rfl) (Snd.loop' (by kernel_rfl) f76s2 (fun n x => laws_markChunkS.l2 k n x.1.2.1 x.1.2.2 x.2) _ (fun _ => rfl) (fun n2 => Snd.exec hc _ _ _ _) (fun n x => by kernel_rfl) k)) (Snd.exec hc _ _ _ _))) (Snd.exec hc _ _ _ _))
    (fun x => by kernel_rfl)

def f37in : SS := ⟨[(0, (.h 10)), (1, (.ro (.int .i64)))], [(10, (.sl 37 (.st (.cons (.int .i64) (.cons (.list 40 (.st (.cons (.int .i64) (.cons (.int .i64) (.cons (.int .i64) (.cons (.int .i64) (.cons (.int .i64) (.cons (.list 3 (.int .i64)) .nil)))))))) .nil)))))]⟩
def f37out : SS := ⟨[(0, (.ro (.int .i64)))], [(10, (.sl 37 (.st (.cons (.int .i64) (.cons (.list 40 (.st (.cons (.int .i64) (.cons (.int .i64) (.cons (.int .i64) (.cons (.int .i64) (.cons (.int .i64) (.cons (.list 3 (.int .i64)) .nil)))))))) .nil)))))]⟩
def f37s2 : SS := ⟨[(0, (.h 10)), (1, (.ro (.int .i64))), (5, (.ro (.int .i64)))], [(10, (.sl 37 (.st (.cons (.int .i64) (.cons (.list 40 (.st (.cons (.int .i64) (.cons (.int .i64) (.cons (.int .i64) (.cons (.int .i64) (.cons (.int .i64) (.cons (.list 3 (.int .i64)) .nil)))))))) .nil)))))]⟩
def f37con (F : Int → (List TGroupMeta) → Option (Int × (List TGroupMeta))) : Con := ⟨f37in, f37out, 2, 1, fun x => F x.1.2 x.2⟩
def f37ctx (k : Nat) : Ctx := ⟨tyAt tys, conAt [(76, [f76con (laws_markChunkS k)])], 27, fun _ => false⟩
theorem f37hc (k : Nat) : CtxOk Tryz.prog (f37ctx k) := ctxOk tys_ok mixed_ok (consOk_cons (f76ok k) (consOk_nil))
theorem f37ok (k : Nat) : FnOk Tryz.prog 37 (f37con (laws_markGroupMetaS k)) :=
  let hc := f37hc k
  fnOk (fn := Tryz.f37) (code := bodyOf Tryz.f37) (res := [.tmp 4]) hc (by kernel_rfl) (by kernel_rfl) (by decide) (by kernel_rfl) (by kernel_rfl) (by kernel_rfl) (Nat.le_of_ble_eq_true (by kernel_rfl)) _
    (fun x => Snd.seq (by kernel_rfl) (Snd.seq (by kernel_rfl) (Snd.exec hc _ _ _ _) (Snd.seq (by kernel_rfl) (Snd.block (id := 0) (by kernel_rfl) (Snd.loop' (by kernel_rfl) f37s2 (fun n x => laws_markGroupMetaS.l2 k n x.1.2.1 x.1.2.2 x.2) _ (fun _ => rfl) (fun n2 => Snd.exec hc _ _ _ _) (fun n x => by kernel_rfl) k)) (Snd.exec hc _ _ _ _))) (Snd.exec hc _ _ _ _))
    (fun x => by kernel_rfl)

def f18in : SS := ⟨[(0, (.agg (.cons (.h 10) (.cons (.ro (.int .i64)) (.cons (.h 11) .nil))))), (1, (.ro (.int .i64)))], [(10, (.sl 60 (.st (.cons .str (.cons (.int .i64) (.cons (.int .i64) (.cons (.int .i64) .nil))))))), (11, (.sl 37 (.st (.cons (.int .i64) (.cons (.list 40 (.st (.cons (.int .i64) (.cons (.int .i64) (.cons (.int .i64) (.cons (.int .i64) (.cons (.int .i64) (.cons (.list 3 (.int .i64)) .nil)))))))) .nil)))))]⟩
def f18out : SS := ⟨[(0, (.ro (.int .i64)))], [(10, (.sl 60 (.st (.cons .str (.cons (.int .i64) (.cons (.int .i64) (.cons (.int .i64) .nil))))))), (11, (.sl 37 (.st (.cons (.int .i64) (.cons (.list 40 (.st (.cons (.int .i64) (.cons (.int .i64) (.cons (.int .i64) (.cons (.int .i64) (.cons (.int .i64) (.cons (.list 3 (.int .i64)) .nil)))))))) .nil)))))]⟩
def f18con (F : (Unit × Int × Unit × Unit) → Int → (List TCol) → (List TGroupMeta) → Option (Int × (List TCol) × (List TGroupMeta))) : Con := ⟨f18in, f18out, 2, 1, fun x => F x.1.1 x.1.2 x.2.1 x.2.2⟩
def f18ctx (k : Nat) : Ctx := ⟨tyAt tys, conAt [(36, [f36con (laws_markColS k)]), (37, [f37con (laws_markGroupMetaS k)])], 14, fun _ => false⟩
theorem f18hc (k : Nat) : CtxOk Tryz.prog (f18ctx k) := ctxOk tys_ok mixed_ok (consOk_cons (f36ok k) (consOk_cons (f37ok k) (consOk_nil)))
theorem f18ok (k : Nat) : FnOk Tryz.prog 18 (f18con (laws_markMeta k)) :=
  let hc := f18hc k
  fnOk (fn := Tryz.f18) (code := bodyOf Tryz.f18) (res := [.tmp 4]) hc (by kernel_rfl) (by kernel_rfl) (by decide) (by kernel_rfl) (by kernel_rfl) (by kernel_rfl) (Nat.le_of_ble_eq_true (by kernel_rfl)) _
    (fun x => Snd.exec hc _ _ _ _)
    (fun x => by kernel_rfl)

def f38in : SS := ⟨[(0, (.ro (.list 60 (.st (.cons .str (.cons (.int .i64) (.cons (.int .i64) (.cons (.int .i64) .nil)))))))), (1, (.ro (.int .i64)))], []⟩
def f38out : SS := ⟨[(0, (.ro (.int .i64)))], []⟩
def f38d4 : SS := ⟨[(0, (.ro (.list 60 (.st (.cons .str (.cons (.int .i64) (.cons (.int .i64) (.cons (.int .i64) .nil)))))))), (1, (.ro (.int .i64))), (5, (.ro (.int .i64)))], []⟩
def f38s2 : SS := ⟨[(0, (.ro (.list 60 (.st (.cons .str (.cons (.int .i64) (.cons (.int .i64) (.cons (.int .i64) .nil)))))))), (1, (.ro (.int .i64))), (5, (.ro (.int .i64)))], []⟩
def f38con (F : (List TCol) → Int → Option Int) : Con := ⟨f38in, f38out, 2, 1, fun x => F x.1 x.2⟩
def f38ctx (k : Nat) : Ctx := ⟨tyAt tys, conAt [(75, [f75con (laws_markText k)])], 50, fun _ => false⟩
theorem f38hc (k : Nat) : CtxOk Tryz.prog (f38ctx k) := ctxOk tys_ok mixed_ok (consOk_cons (f75ok k) (consOk_nil))
theorem f38ok (k : Nat) : FnOk Tryz.prog 38 (f38con (laws_heldColS k)) :=
  let hc := f38hc k
  fnOk (fn := Tryz.f38) (code := bodyOf Tryz.f38) (res := [.tmp 4]) hc (by kernel_rfl) (by kernel_rfl) (by decide) (by kernel_rfl) (by kernel_rfl) (by kernel_rfl) (Nat.le_of_ble_eq_true (by kernel_rfl)) _
    (fun x => Snd.seq (by kernel_rfl) (Snd.seq (by kernel_rfl) (Snd.exec hc _ _ _ _) (Snd.seq (by kernel_rfl) (Snd.block (id := 0) (by kernel_rfl) (Snd.loop' (by kernel_rfl) f38s2 (fun n x => laws_heldColS.l2 k n x.1 x.2.1 x.2.2) _ (fun _ => rfl) (fun n2 => Snd.seq (by kernel_rfl) (Snd.seq (by kernel_rfl) (Snd.exec hc _ _ _ _) (Snd.block (id := 1) (by kernel_rfl) (Snd.seq (by kernel_rfl) (Snd.exec hc _ _ _ _) (Snd.seq (by kernel_rfl) (Snd.exec hc _ _ _ _) (Snd.fork hc (id := 4) (by kernel_rfl) ⟨f38d4, fun x => laws_heldColS.d4 k (laws_heldColS.l2 k n2) x.1 x.2.1 x.2.2⟩ [[0, 1, 2, 3, 5, 4, 6, 7], [0, 1, 2, 3, 5, 6, 4, 7]] (by kernel_rfl) (ords_cons (fun x => by kernel_rfl) (ords_cons (fun x => by kernel_rfl) (ords_nil)))))))) (Snd.exec hc _ _ _ _)) (fun n x => by kernel_rfl) k)) (Snd.exec hc _ _ _ _))) (Snd.exec hc _ _ _ _))
    (fun x => by kernel_rfl)

def f122in : SS := ⟨[(0, (.ro (.list 3 (.int .i64)))), (1, (.ro (.int .i64)))], []⟩
def f122out : SS := ⟨[(0, (.ro (.int .i64)))], []⟩
def f122s2 : SS := ⟨[(0, (.ro (.list 3 (.int .i64)))), (1, (.ro (.int .i64))), (5, (.ro (.int .i64)))], []⟩
def f122con (F : (List Int) → Int → Option Int) : Con := ⟨f122in, f122out, 2, 1, fun x => F x.1 x.2⟩
def f122ctx (k : Nat) : Ctx := ⟨tyAt tys, conAt [], 21, fun _ => false⟩
theorem f122hc (k : Nat) : CtxOk Tryz.prog (f122ctx k) := ctxOk tys_ok mixed_ok (consOk_nil)
theorem f122ok (k : Nat) : FnOk Tryz.prog 122 (f122con (laws_heldIntS k)) :=
  let hc := f122hc k
  fnOk (fn := Tryz.f122) (code := bodyOf Tryz.f122) (res := [.tmp 4]) hc (by kernel_rfl) (by kernel_rfl) (by decide) (by kernel_rfl) (by kernel_rfl) (by kernel_rfl) (Nat.le_of_ble_eq_true (by kernel_rfl)) _
    (fun x => Snd.seq (by kernel_rfl) (Snd.seq (by kernel_rfl) (Snd.exec hc _ _ _ _) (Snd.seq (by kernel_rfl) (Snd.block (id := 0) (by kernel_rfl) (Snd.loop' (by kernel_rfl) f122s2 (fun n x => laws_heldIntS.l2 k n x.1 x.2.1 x.2.2) _ (fun _ => rfl) (fun n2 => Snd.exec hc _ _ _ _) (fun n x => by kernel_rfl) k)) (Snd.exec hc _ _ _ _))) (Snd.exec hc _ _ _ _))
    (fun x => by kernel_rfl)

def f77in : SS := ⟨[(0, (.ro (.list 40 (.st (.cons (.int .i64) (.cons (.int .i64) (.cons (.int .i64) (.cons (.int .i64) (.cons (.int .i64) (.cons (.list 3 (.int .i64)) .nil)))))))))), (1, (.ro (.int .i64)))], []⟩
def f77out : SS := ⟨[(0, (.ro (.int .i64)))], []⟩
def f77s2 : SS := ⟨[(0, (.ro (.list 40 (.st (.cons (.int .i64) (.cons (.int .i64) (.cons (.int .i64) (.cons (.int .i64) (.cons (.int .i64) (.cons (.list 3 (.int .i64)) .nil)))))))))), (1, (.ro (.int .i64))), (5, (.ro (.int .i64)))], []⟩
def f77con (F : (List TChunk) → Int → Option Int) : Con := ⟨f77in, f77out, 2, 1, fun x => F x.1 x.2⟩
def f77ctx (k : Nat) : Ctx := ⟨tyAt tys, conAt [(122, [f122con (laws_heldIntS k)])], 67, fun _ => false⟩
theorem f77hc (k : Nat) : CtxOk Tryz.prog (f77ctx k) := ctxOk tys_ok mixed_ok (consOk_cons (f122ok k) (consOk_nil))
theorem f77ok (k : Nat) : FnOk Tryz.prog 77 (f77con (laws_heldChunkS k)) :=
  let hc := f77hc k
  fnOk (fn := Tryz.f77) (code := bodyOf Tryz.f77) (res := [.tmp 4]) hc (by kernel_rfl) (by kernel_rfl) (by decide) (by kernel_rfl) (by kernel_rfl) (by kernel_rfl) (Nat.le_of_ble_eq_true (by kernel_rfl)) _
    (fun x => Snd.seq (by kernel_rfl) (Snd.seq (by kernel_rfl) (Snd.exec hc _ _ _ _) (Snd.seq (by kernel_rfl) (Snd.block (id := 0) (by kernel_rfl) (Snd.loop' (by kernel_rfl) f77s2 (fun n x => laws_heldChunkS.l2 k n x.1 x.2.1 x.2.2) _ (fun _ => rfl) (fun n2 => Snd.exec hc _ _ _ _) (fun n x => by kernel_rfl) k)) (Snd.exec hc _ _ _ _))) (Snd.exec hc _ _ _ _))
    (fun x => by kernel_rfl)

def f39in : SS := ⟨[(0, (.ro (.list 37 (.st (.cons (.int .i64) (.cons (.list 40 (.st (.cons (.int .i64) (.cons (.int .i64) (.cons (.int .i64) (.cons (.int .i64) (.cons (.int .i64) (.cons (.list 3 (.int .i64)) .nil)))))))) .nil)))))), (1, (.ro (.int .i64)))], []⟩
def f39out : SS := ⟨[(0, (.ro (.int .i64)))], []⟩
def f39s2 : SS := ⟨[(0, (.ro (.list 37 (.st (.cons (.int .i64) (.cons (.list 40 (.st (.cons (.int .i64) (.cons (.int .i64) (.cons (.int .i64) (.cons (.int .i64) (.cons (.int .i64) (.cons (.list 3 (.int .i64)) .nil)))))))) .nil)))))), (1, (.ro (.int .i64))), (5, (.ro (.int .i64)))], []⟩
def f39con (F : (List TGroupMeta) → Int → Option Int) : Con := ⟨f39in, f39out, 2, 1, fun x => F x.1 x.2⟩
def f39ctx (k : Nat) : Ctx := ⟨tyAt tys, conAt [(77, [f77con (laws_heldChunkS k)])], 31, fun _ => false⟩
theorem f39hc (k : Nat) : CtxOk Tryz.prog (f39ctx k) := ctxOk tys_ok mixed_ok (consOk_cons (f77ok k) (consOk_nil))
theorem f39ok (k : Nat) : FnOk Tryz.prog 39 (f39con (laws_heldGroupMetaS k)) :=
  let hc := f39hc k
  fnOk (fn := Tryz.f39) (code := bodyOf Tryz.f39) (res := [.tmp 4]) hc (by kernel_rfl) (by kernel_rfl) (by decide) (by kernel_rfl) (by kernel_rfl) (by kernel_rfl) (Nat.le_of_ble_eq_true (by kernel_rfl)) _
    (fun x => Snd.seq (by kernel_rfl) (Snd.seq (by kernel_rfl) (Snd.exec hc _ _ _ _) (Snd.seq (by kernel_rfl) (Snd.block (id := 0) (by kernel_rfl) (Snd.loop' (by kernel_rfl) f39s2 (fun n x => laws_heldGroupMetaS.l2 k n x.1 x.2.1 x.2.2) _ (fun _ => rfl) (fun n2 => Snd.exec hc _ _ _ _) (fun n x => by kernel_rfl) k)) (Snd.exec hc _ _ _ _))) (Snd.exec hc _ _ _ _))
    (fun x => by kernel_rfl)

def f19in : SS := ⟨[(0, (.ro (.st (.cons (.list 60 (.st (.cons .str (.cons (.int .i64) (.cons (.int .i64) (.cons (.int .i64) .nil)))))) (.cons (.int .i64) (.cons (.list 37 (.st (.cons (.int .i64) (.cons (.list 40 (.st (.cons (.int .i64) (.cons (.int .i64) (.cons (.int .i64) (.cons (.int .i64) (.cons (.int .i64) (.cons (.list 3 (.int .i64)) .nil)))))))) .nil)))) .nil)))))), (1, (.ro (.int .i64)))], []⟩
def f19out : SS := ⟨[(0, (.ro (.int .i64)))], []⟩
def f19con (F : TMeta → Int → Option Int) : Con := ⟨f19in, f19out, 2, 1, fun x => F x.1 x.2⟩
def f19ctx (k : Nat) : Ctx := ⟨tyAt tys, conAt [(38, [f38con (laws_heldColS k)]), (39, [f39con (laws_heldGroupMetaS k)])], 18, fun _ => false⟩
theorem f19hc (k : Nat) : CtxOk Tryz.prog (f19ctx k) := ctxOk tys_ok mixed_ok (consOk_cons (f38ok k) (consOk_cons (f39ok k) (consOk_nil)))
theorem f19ok (k : Nat) : FnOk Tryz.prog 19 (f19con (laws_heldMeta k)) :=
  let hc := f19hc k
  fnOk (fn := Tryz.f19) (code := bodyOf Tryz.f19) (res := [.tmp 4]) hc (by kernel_rfl) (by kernel_rfl) (by decide) (by kernel_rfl) (by kernel_rfl) (by kernel_rfl) (Nat.le_of_ble_eq_true (by kernel_rfl)) _
    (fun x => Snd.exec hc _ _ _ _)
    (fun x => by kernel_rfl)

def f4in : SS := ⟨[(0, (.ro (.list 5 (.int .u8)))), (1, (.ro (.int .i64)))], []⟩
def f4out : SS := ⟨[(0, (.ro .bool))], []⟩
def f4con (F : (List Int) → Int → Option Bool) : Con := ⟨f4in, f4out, 2, 1, fun x => F x.1 x.2⟩
def f4ctx (k : Nat) : Ctx := ⟨tyAt tys, conAt [(9, [f9con (impl_MetaRead k)]), (13, [f13con (spec_MetaRead k)]), (14, [f14con (laws_toByteS k)]), (15, [f15con (laws_eqMeta k)]), (16, [f16con (laws_eqByteS k)]), (17, [f17con (laws_markByteS k)]), (18, [f18con (laws_markMeta k)]), (19, [f19con (laws_heldMeta k)])], 119, fun _ => false⟩
theorem f4hc (k : Nat) : CtxOk Tryz.prog (f4ctx k) := ctxOk tys_ok mixed_ok (consOk_cons (f9ok k) (consOk_cons (f13ok k) (consOk_cons (f14ok k) (consOk_cons (f15ok k) (consOk_cons (f16ok k) (consOk_cons (f17ok k) (consOk_cons (f18ok k) (consOk_cons (f19ok k) (consOk_nil)))))))))
theorem f4ok (k : Nat) : FnOk Tryz.prog 4 (f4con (laws_FnExactMetaRead k)) :=
  let hc := f4hc k
  fnOk (fn := Tryz.f4) (code := bodyOf Tryz.f4) (res := [.tmp 4]) hc (by kernel_rfl) (by kernel_rfl) (by decide) (by kernel_rfl) (by kernel_rfl) (by kernel_rfl) (Nat.le_of_ble_eq_true (by kernel_rfl)) _
    (fun x => Snd.exec hc _ _ _ _)
    (fun x => by kernel_rfl)

end Go.Proofs.YtbmgddnjdcagpaaGreat
