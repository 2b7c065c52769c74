/- The walks, printed by program. -/
import Derived.Test.YtmdmkakkodeniaaBase
import Derived.Test.YtmdmkakkodeniaaSchemaF0
set_option linter.unusedVariables false
set_option maxRecDepth 100000
namespace Go.Proofs.Ytmdmkakkodeniaa
open Go.Am Go.Fn

def f8in : SS := ⟨[(0, (.ro (.list 5 (.int .u8))))], []⟩
def f8out : SS := ⟨[(0, (.ro .bool))], []⟩
def f8con (F : (List Int) → Option Bool) : Con := ⟨f8in, f8out, 1, 1, fun x => F x⟩
def f8ctx (k : Nat) : Ctx := ⟨tyAt tys, conAt [], 6, fun _ => false⟩
theorem f8hc (k : Nat) : CtxOk Try.prog (f8ctx k) := ctxOk tys_ok mixed_ok (consOk_nil)
theorem f8ok (k : Nat) : FnOk Try.prog 8 (f8con (laws_big k)) :=
  let hc := f8hc k
  fnOk (fn := Try.f8) (code := bodyOf Try.f8) (res := [.tmp 2]) hc (by kernel_rfl) (by kernel_rfl) (by decide) (by kernel_rfl) (by kernel_rfl) (by kernel_rfl) (Nat.le_of_ble_eq_true (by kernel_rfl)) _
    (fun x => Snd.exec hc _ _ _ _)
    (fun x => by kernel_rfl)

def f55in : SS := ⟨[(0, (.ro (.int .i64))), (1, (.ro (.int .i64))), (2, (.ro (.int .i64)))], []⟩
def f55out : SS := ⟨[(0, (.ro .bool))], []⟩
def f55con (F : Int → Int → Int → Option Bool) : Con := ⟨f55in, f55out, 3, 1, fun x => F x.1 x.2.1 x.2.2⟩
def f55ctx (k : Nat) : Ctx := ⟨tyAt tys, conAt [], 15, fun _ => false⟩
theorem f55hc (k : Nat) : CtxOk Try.prog (f55ctx k) := ctxOk tys_ok mixed_ok (consOk_nil)
theorem f55ok (k : Nat) : FnOk Try.prog 55 (f55con (impl_within k)) :=
  let hc := f55hc k
  fnOk (fn := Try.f55) (code := bodyOf Try.f55) (res := [.tmp 6]) hc (by kernel_rfl) (by kernel_rfl) (by decide) (by kernel_rfl) (by kernel_rfl) (by kernel_rfl) (Nat.le_of_ble_eq_true (by kernel_rfl)) _
    (fun x => Snd.exec hc _ _ _ _)
    (fun x => by kernel_rfl)

def f102in : SS := ⟨[(0, (.ro (.int .i64)))], []⟩
def f102out : SS := ⟨[(0, (.ro .bool))], []⟩
def f102con (F : Int → Option Bool) : Con := ⟨f102in, f102out, 1, 1, fun x => F x⟩
def f102ctx (k : Nat) : Ctx := ⟨tyAt tys, conAt [(55, [f55con (impl_within k)])], 5, fun _ => false⟩
theorem f102hc (k : Nat) : CtxOk Try.prog (f102ctx k) := ctxOk tys_ok mixed_ok (consOk_cons (f55ok k) (consOk_nil))
theorem f102ok (k : Nat) : FnOk Try.prog 102 (f102con (impl_isInt32 k)) :=
  let hc := f102hc k
  fnOk (fn := Try.f102) (code := bodyOf Try.f102) (res := [.tmp 2]) hc (by kernel_rfl) (by kernel_rfl) (by decide) (by kernel_rfl) (by kernel_rfl) (by kernel_rfl) (Nat.le_of_ble_eq_true (by kernel_rfl)) _
    (fun x => Snd.exec hc _ _ _ _)
    (fun x => by kernel_rfl)

def f151in : SS := ⟨[(0, (.ro (.int .i64))), (1, (.ro .bool))], []⟩
def f151out : SS := ⟨[(0, (.ro .bool))], []⟩
def f151s10 : SS := ⟨[(11, (.ro .bool))], []⟩
def f151s4 : SS := ⟨[(1, (.ro .bool)), (5, (.ro (.int .i64))), (6, (.ro .bool))], []⟩
def f151con (F : Int → Bool → Option Bool) : Con := ⟨f151in, f151out, 2, 1, fun x => F x.1 x.2⟩
def f151ctx (k : Nat) : Ctx := ⟨tyAt tys, conAt [], 17, fun _ => false⟩
theorem f151hc (k : Nat) : CtxOk Try.prog (f151ctx k) := ctxOk tys_ok mixed_ok (consOk_nil)
theorem f151ok (k : Nat) : FnOk Try.prog 151 (f151con (impl_isType k)) :=
  let hc := f151hc k
  fnOk (fn := Try.f151) (code := bodyOf Try.f151) (res := [.tmp 4]) hc (by kernel_rfl) (by kernel_rfl) (by decide) (by kernel_rfl) (by kernel_rfl) (by kernel_rfl) (Nat.le_of_ble_eq_true (by kernel_rfl)) _
    (fun x => Snd.seq (by kernel_rfl) (Snd.seq (by kernel_rfl) (Snd.exec hc _ _ _ _) (Snd.seq (by kernel_rfl) (Snd.block (id := 0) (by kernel_rfl) (Snd.seq (by kernel_rfl) (Snd.cut (Snd.cond (x := .tmp 6) (by kernel_rfl) (Snd.exec hc _ _ _ _) (Snd.seq (by kernel_rfl) (Snd.cut (Snd.exec hc _ _ _ _) ⟨f151s10, fun x => impl_isType.c10 k x⟩ (fun x => by kernel_rfl)) (Snd.exec hc _ _ _ _))) ⟨f151s4, fun x => impl_isType.c4 k x.1 x.2.1 x.2.2⟩ (fun x => by kernel_rfl)) (Snd.exec hc _ _ _ _))) (Snd.exec hc _ _ _ _))) (Snd.exec hc _ _ _ _))
    (fun x => by kernel_rfl)

def f145in : SS := ⟨[(0, (.ro (.st (.cons (.int .i64) (.cons (.int .i64) (.cons (.int .i64) (.cons .str (.cons (.int .i64) .nil))))))))], []⟩
def f145out : SS := ⟨[(0, (.ro .bool))], []⟩
def f145con (F : TNode → Option Bool) : Con := ⟨f145in, f145out, 1, 1, fun x => F x⟩
def f145ctx (k : Nat) : Ctx := ⟨tyAt tys, conAt [(102, [f102con (impl_isInt32 k)]), (151, [f151con (impl_isType k)])], 109, fun _ => false⟩
theorem f145hc (k : Nat) : CtxOk Try.prog (f145ctx k) := ctxOk tys_ok mixed_ok (consOk_cons (f102ok k) (consOk_cons (f151ok k) (consOk_nil)))
theorem f145ok (k : Nat) : FnOk Try.prog 145 (f145con (impl_nodeOk k)) :=
  let hc := f145hc k
  fnOk (fn := Try.f145) (code := bodyOf Try.f145) (res := [.tmp 2]) hc (by kernel_rfl) (by kernel_rfl) (by decide) (by kernel_rfl) (by kernel_rfl) (by kernel_rfl) (Nat.le_of_ble_eq_true (by kernel_rfl)) _
    (fun x => Snd.exec hc _ _ _ _)
    (fun x => by kernel_rfl)

def f94in : SS := ⟨[(0, (.p 0)), (1, (.ro (.int .i64))), (2, (.ro (.int .i64)))], [(0, (.obox (.st (.cons (.list 78 (.st (.cons (.int .i64) (.cons (.int .i64) (.cons (.int .i64) (.cons .str (.cons (.int .i64) .nil))))))) (.cons (.list 3 (.int .i64)) .nil))) (.agg (.cons (.ro (.list 78 (.st (.cons (.int .i64) (.cons (.int .i64) (.cons (.int .i64) (.cons .str (.cons (.int .i64) .nil)))))))) (.cons (.h 10) .nil))))), (10, (.sl 3 (.int .i64)))]⟩
def f94out : SS := ⟨[(0, (.ro (.int .i64)))], [(0, (.box (.st (.cons (.list 78 (.st (.cons (.int .i64) (.cons (.int .i64) (.cons (.int .i64) (.cons .str (.cons (.int .i64) .nil))))))) (.cons (.list 3 (.int .i64)) .nil))) (.agg (.cons (.ro (.list 78 (.st (.cons (.int .i64) (.cons (.int .i64) (.cons (.int .i64) (.cons .str (.cons (.int .i64) .nil)))))))) (.cons (.h 10) .nil))))), (10, (.sl 3 (.int .i64)))]⟩
def f94s7 : SS := ⟨[(0, (.p 0)), (1, (.ro (.int .i64))), (2, (.ro (.int .i64))), (7, (.p 100)), (8, (.ro (.int .i64))), (9, (.ro (.int .i64))), (43, (.ro (.int .i64))), (44, (.ro (.int .i64)))], [(0, (.box (.st (.cons (.list 78 (.st (.cons (.int .i64) (.cons (.int .i64) (.cons (.int .i64) (.cons .str (.cons (.int .i64) .nil))))))) (.cons (.list 3 (.int .i64)) .nil))) (.agg (.cons (.ro (.list 78 (.st (.cons (.int .i64) (.cons (.int .i64) (.cons (.int .i64) (.cons .str (.cons (.int .i64) .nil)))))))) (.cons (.h 10) .nil))))), (10, (.sl 3 (.int .i64))), (100, (.box (.st (.cons (.int .i64) (.cons (.int .i64) (.cons (.int .i64) (.cons .str (.cons (.int .i64) .nil)))))) (.agg (.cons (.ro (.int .i64)) (.cons (.ro (.int .i64)) (.cons (.ro (.int .i64)) (.cons (.ro .str) (.cons (.ro (.int .i64)) .nil))))))))]⟩
def f94con (F : Int → Int → (Bool × TTreeB) → (List Int) → Option (Int × TTreeB × (List Int))) : Con := ⟨f94in, f94out, 3, 1, fun x => F x.1.2.1 x.1.2.2 x.2.1 x.2.2⟩
def f94ctx (k : Nat) (S94 : Int → Int → (Bool × TTreeB) → (List Int) → Option (Int × TTreeB × (List Int))) : Ctx := ⟨tyAt tys, conAt [(55, [f55con (impl_within k)]), (94, [f94con S94]), (145, [f145con (impl_nodeOk k)])], 104, fun _ => false⟩
theorem f94hc (k : Nat) (S94 : Int → Int → (Bool × TTreeB) → (List Int) → Option (Int × TTreeB × (List Int))) (h94 : FnOk Try.prog 94 (f94con S94)) : CtxOk Try.prog (f94ctx k S94) := ctxOk tys_ok mixed_ok (consOk_cons (f55ok k) (consOk_cons (h94) (consOk_cons (f145ok k) (consOk_nil))))
theorem f94okb (k : Nat) (S94 : Int → Int → (Bool × TTreeB) → (List Int) → Option (Int × TTreeB × (List Int))) (h94 : FnOk Try.prog 94 (f94con S94)) : FnOk Try.prog 94 (f94con (impl_tree_measure.b k S94)) :=
  let hc := f94hc k S94 h94
  fnOk (fn := Try.f94) (code := bodyOf Try.f94) (res := [.tmp 6]) hc (by kernel_rfl) (by kernel_rfl) (by decide) (by kernel_rfl) (by kernel_rfl) (by kernel_rfl) (Nat.le_of_ble_eq_true (by kernel_rfl)) _
    (fun x => Snd.seq (by kernel_rfl) (Snd.seq (by kernel_rfl) (Snd.seq (by kernel_rfl) (Snd.seq (by kernel_rfl) (Snd.seq (by kernel_rfl) (Snd.seq (by kernel_rfl) (Snd.exec hc _ _ _ _) (Snd.seq (by kernel_rfl) (Snd.block (id := 0) (by kernel_rfl) (Snd.loop' (by kernel_rfl) f94s7 (fun n x => impl_tree_measure.l7 k S94 n x.1.2.1 x.1.2.2.1 x.1.2.2.2.2.1 x.1.2.2.2.2.2.1 x.1.2.2.2.2.2.2.1 x.1.2.2.2.2.2.2.2 x.2.1 x.2.2.1 x.2.2.2) _ (fun _ => rfl) (fun n7 => Snd.exec hc _ _ _ _) (fun n x => by kernel_rfl) k)) (Snd.exec hc _ _ _ _))) (Snd.exec hc _ _ _ _)) (Snd.exec hc _ _ _ _)) (Snd.exec hc _ _ _ _)) (Snd.exec hc _ _ _ _)) (Snd.exec hc _ _ _ _))
    (fun x => by kernel_rfl)
theorem f94rec (k : Nat) : ∀ d, FnOk Try.prog 94 (f94con (impl_tree_measure.d k d))
  | 0 => FnOk_none (fun _ => rfl)
  | d + 1 => let ih := f94rec k d
    f94okb k (impl_tree_measure.d k d) ih
theorem f94ok (k : Nat) : FnOk Try.prog 94 (f94con (impl_tree_measure k)) := (f94rec k k)

def f51in : SS := ⟨[(0, (.ro (.list 78 (.st (.cons (.int .i64) (.cons (.int .i64) (.cons (.int .i64) (.cons .str (.cons (.int .i64) .nil)))))))))], []⟩
def f51out : SS := ⟨[(0, (.p 100)), (1, (.ro .bool))], [(100, (.obox (.st (.cons (.list 78 (.st (.cons (.int .i64) (.cons (.int .i64) (.cons (.int .i64) (.cons .str (.cons (.int .i64) .nil))))))) (.cons (.list 3 (.int .i64)) .nil))) (.agg (.cons (.ro (.list 78 (.st (.cons (.int .i64) (.cons (.int .i64) (.cons (.int .i64) (.cons .str (.cons (.int .i64) .nil)))))))) (.cons (.h 101) .nil))))), (101, (.sl 3 (.int .i64)))]⟩
def f51con (F : (List TNode) → Option ((Unit × Bool) × (Bool × TTreeB) × (List Int))) : Con := ⟨f51in, f51out, 1, 2, fun x => F x⟩
def f51ctx (k : Nat) : Ctx := ⟨tyAt tys, conAt [(55, [f55con (impl_within k)]), (94, [f94con (impl_tree_measure k)])], 35, fun s => Nat.beq s 27⟩
theorem f51hc (k : Nat) : CtxOk Try.prog (f51ctx k) := ctxOk tys_ok mixed_ok (consOk_cons (f55ok k) (consOk_cons (f94ok k) (consOk_nil)))
theorem f51ok (k : Nat) : FnOk Try.prog 51 (f51con (impl_treeOf k)) :=
  let hc := f51hc k
  fnOk (fn := Try.f51) (code := bodyOf Try.f51) (res := [.tmp 2, .tmp 3]) hc (by kernel_rfl) (by kernel_rfl) (by decide) (by kernel_rfl) (by kernel_rfl) (by kernel_rfl) (Nat.le_of_ble_eq_true (by kernel_rfl)) _
    (fun x => Snd.exec hc _ _ _ _)
    (fun x => by kernel_rfl)

def f96in : SS := ⟨[(0, (.ro (.int .i64)))], []⟩
def f96out : SS := ⟨[(0, (.h 100))], [(100, (.sl 5 (.int .u8)))]⟩
def f96s3 : SS := ⟨[(3, (.ro (.int .u64))), (4, (.h 100))], [(100, (.sl 5 (.int .u8)))]⟩
def f96con (F : Int → Option (Unit × (List Int))) : Con := ⟨f96in, f96out, 1, 1, fun x => F x⟩
def f96ctx (k : Nat) : Ctx := ⟨tyAt tys, conAt [], 24, fun _ => false⟩
theorem f96hc (k : Nat) : CtxOk Try.prog (f96ctx k) := ctxOk tys_ok mixed_ok (consOk_nil)
theorem f96ok (k : Nat) : FnOk Try.prog 96 (f96con (impl_UvarPut k)) :=
  let hc := f96hc k
  fnOk (fn := Try.f96) (code := bodyOf Try.f96) (res := [.tmp 2]) hc (by kernel_rfl) (by kernel_rfl) (by decide) (by kernel_rfl) (by kernel_rfl) (by kernel_rfl) (Nat.le_of_ble_eq_true (by kernel_rfl)) _
    (fun x => Snd.seq (by kernel_rfl) (Snd.seq (by kernel_rfl) (Snd.seq (by kernel_rfl) (Snd.seq (by kernel_rfl) (Snd.exec hc _ _ _ _) (Snd.block (id := 0) (by kernel_rfl) (Snd.loop' (by kernel_rfl) f96s3 (fun n x => impl_UvarPut.l3 k n x.1.1 x.2) _ (fun _ => rfl) (fun n3 => Snd.exec hc _ _ _ _) (fun n x => by kernel_rfl) k))) (Snd.exec hc _ _ _ _)) (Snd.exec hc _ _ _ _)) (Snd.exec hc _ _ _ _))
    (fun x => by kernel_rfl)

def f146in : SS := ⟨[(0, (.ro (.int .i64)))], []⟩
def f146out : SS := ⟨[(0, (.ro (.int .i64)))], []⟩
def f146con (F : Int → Option Int) : Con := ⟨f146in, f146out, 1, 1, fun x => F x⟩
def f146ctx (k : Nat) : Ctx := ⟨tyAt tys, conAt [], 8, fun _ => false⟩
theorem f146hc (k : Nat) : CtxOk Try.prog (f146ctx k) := ctxOk tys_ok mixed_ok (consOk_nil)
theorem f146ok (k : Nat) : FnOk Try.prog 146 (f146con (impl_Zig k)) :=
  let hc := f146hc k
  fnOk (fn := Try.f146) (code := bodyOf Try.f146) (res := [.tmp 2]) hc (by kernel_rfl) (by kernel_rfl) (by decide) (by kernel_rfl) (by kernel_rfl) (by kernel_rfl) (Nat.le_of_ble_eq_true (by kernel_rfl)) _
    (fun x => Snd.exec hc _ _ _ _)
    (fun x => by kernel_rfl)

def f95in : SS := ⟨[(0, (.ro (.int .i64)))], []⟩
def f95out : SS := ⟨[(0, (.h 100))], [(100, (.sl 5 (.int .u8)))]⟩
def f95con (F : Int → Option (Unit × (List Int))) : Con := ⟨f95in, f95out, 1, 1, fun x => F x⟩
def f95ctx (k : Nat) : Ctx := ⟨tyAt tys, conAt [(96, [f96con (impl_UvarPut k)]), (146, [f146con (impl_Zig k)])], 6, fun _ => false⟩
theorem f95hc (k : Nat) : CtxOk Try.prog (f95ctx k) := ctxOk tys_ok mixed_ok (consOk_cons (f96ok k) (consOk_cons (f146ok k) (consOk_nil)))
theorem f95ok (k : Nat) : FnOk Try.prog 95 (f95con (impl_ZigPut k)) :=
  let hc := f95hc k
  fnOk (fn := Try.f95) (code := bodyOf Try.f95) (res := [.tmp 2]) hc (by kernel_rfl) (by kernel_rfl) (by decide) (by kernel_rfl) (by kernel_rfl) (by kernel_rfl) (Nat.le_of_ble_eq_true (by kernel_rfl)) _
    (fun x => Snd.exec hc _ _ _ _)
    (fun x => by kernel_rfl)

def f97in : SS := ⟨[(0, (.ro (.st (.cons (.int .i64) (.cons (.int .i64) (.cons (.int .i64) (.cons .str (.cons (.int .i64) .nil)))))))), (1, (.ro (.int .i64)))], []⟩
def f97out : SS := ⟨[(0, (.h 100))], [(100, (.sl 5 (.int .u8)))]⟩
def f97d4 : SS := ⟨[(2, (.p 100))], [(100, (.box (.st (.cons (.int .i64) (.cons (.int .i64) (.cons (.int .i64) (.cons .str (.cons (.int .i64) .nil)))))) (.agg (.cons (.ro (.int .i64)) (.cons (.ro (.int .i64)) (.cons (.ro (.int .i64)) (.cons (.ro .str) (.cons (.ro (.int .i64)) .nil))))))))]⟩
def f97con (F : TNode → Int → Option (Unit × (List Int))) : Con := ⟨f97in, f97out, 2, 1, fun x => F x.1 x.2⟩
def f97ctx (k : Nat) : Ctx := ⟨tyAt tys, conAt [(95, [f95con (impl_ZigPut k)])], 27, fun _ => false⟩
theorem f97hc (k : Nat) : CtxOk Try.prog (f97ctx k) := ctxOk tys_ok mixed_ok (consOk_cons (f95ok k) (consOk_nil))
theorem f97ok (k : Nat) : FnOk Try.prog 97 (f97con (impl_headOf k)) :=
  let hc := f97hc k
  fnOk (fn := Try.f97) (code := bodyOf Try.f97) (res := [.tmp 4]) hc (by kernel_rfl) (by kernel_rfl) (by decide) (by kernel_rfl) (by kernel_rfl) (by kernel_rfl) (Nat.le_of_ble_eq_true (by kernel_rfl)) _
    (fun x => Snd.seq (by kernel_rfl) (Snd.seq (by kernel_rfl) (Snd.seq (by kernel_rfl) (Snd.seq (by kernel_rfl) (Snd.exec hc _ _ _ _) (Snd.fork hc (id := 4) (by kernel_rfl) ⟨f97d4, fun x => impl_headOf.d4 k x.2⟩ [[0, 4, 1, 2, 3, 5, 6, 7, 8], [0, 4, 1, 2, 5, 3, 6, 7, 8], [0, 4, 1, 2, 5, 6, 3, 7, 8], [0, 4, 1, 5, 2, 3, 6, 7, 8], [0, 4, 1, 5, 2, 6, 3, 7, 8], [0, 4, 1, 5, 6, 2, 3, 7, 8], [0, 4, 5, 1, 2, 3, 6, 7, 8], [0, 4, 5, 1, 2, 6, 3, 7, 8], [0, 4, 5, 1, 6, 2, 3, 7, 8], [0, 4, 5, 6, 1, 2, 3, 7, 8]] (by kernel_rfl) (ords_cons (fun x => by kernel_rfl) (ords_cons (fun x => by kernel_rfl) (ords_cons (fun x => by kernel_rfl) (ords_cons (fun x => by kernel_rfl) (ords_cons (fun x => by kernel_rfl) (ords_cons (fun x => by kernel_rfl) (ords_cons (fun x => by kernel_rfl) (ords_cons (fun x => by kernel_rfl) (ords_cons (fun x => by kernel_rfl) (ords_cons (fun x => by kernel_rfl) (ords_nil))))))))))))) (Snd.exec hc _ _ _ _)) (Snd.exec hc _ _ _ _)) (Snd.exec hc _ _ _ _))
    (fun x => by kernel_rfl)

def f52in : SS := ⟨[(0, (.p 0)), (1, (.ro (.int .i64)))], [(0, (.obox (.st (.cons (.list 78 (.st (.cons (.int .i64) (.cons (.int .i64) (.cons (.int .i64) (.cons .str (.cons (.int .i64) .nil))))))) (.cons (.list 3 (.int .i64)) .nil))) (.agg (.cons (.ro (.list 78 (.st (.cons (.int .i64) (.cons (.int .i64) (.cons (.int .i64) (.cons .str (.cons (.int .i64) .nil)))))))) (.cons (.h 10) .nil))))), (10, (.sl 3 (.int .i64)))]⟩
def f52out : SS := ⟨[(0, (.h 100))], [(0, (.box (.st (.cons (.list 78 (.st (.cons (.int .i64) (.cons (.int .i64) (.cons (.int .i64) (.cons .str (.cons (.int .i64) .nil))))))) (.cons (.list 3 (.int .i64)) .nil))) (.agg (.cons (.ro (.list 78 (.st (.cons (.int .i64) (.cons (.int .i64) (.cons (.int .i64) (.cons .str (.cons (.int .i64) .nil)))))))) (.cons (.h 10) .nil))))), (10, (.sl 3 (.int .i64))), (100, (.sl 5 (.int .u8)))]⟩
def f52s26 : SS := ⟨[(6, (.h 100))], [(0, (.box (.st (.cons (.list 78 (.st (.cons (.int .i64) (.cons (.int .i64) (.cons (.int .i64) (.cons .str (.cons (.int .i64) .nil))))))) (.cons (.list 3 (.int .i64)) .nil))) (.agg (.cons (.ro (.list 78 (.st (.cons (.int .i64) (.cons (.int .i64) (.cons (.int .i64) (.cons .str (.cons (.int .i64) .nil)))))))) (.cons (.h 10) .nil))))), (10, (.sl 3 (.int .i64))), (100, (.sl 5 (.int .u8)))]⟩
def f52s20 : SS := ⟨[(0, (.p 0)), (5, (.p 100)), (6, (.h 101)), (7, (.ro (.int .i64))), (9, (.p 102)), (62, (.ro (.int .i64))), (63, (.ro (.int .i64)))], [(0, (.box (.st (.cons (.list 78 (.st (.cons (.int .i64) (.cons (.int .i64) (.cons (.int .i64) (.cons .str (.cons (.int .i64) .nil))))))) (.cons (.list 3 (.int .i64)) .nil))) (.agg (.cons (.ro (.list 78 (.st (.cons (.int .i64) (.cons (.int .i64) (.cons (.int .i64) (.cons .str (.cons (.int .i64) .nil)))))))) (.cons (.h 10) .nil))))), (10, (.sl 3 (.int .i64))), (100, (.box (.st (.cons (.int .i64) (.cons (.int .i64) (.cons (.int .i64) (.cons .str (.cons (.int .i64) .nil)))))) (.agg (.cons (.ro (.int .i64)) (.cons (.ro (.int .i64)) (.cons (.ro (.int .i64)) (.cons (.ro .str) (.cons (.ro (.int .i64)) .nil)))))))), (101, (.sl 5 (.int .u8))), (102, (.box (.st (.cons (.int .i64) (.cons (.int .i64) (.cons (.int .i64) (.cons .str (.cons (.int .i64) .nil)))))) (.agg (.cons (.ro (.int .i64)) (.cons (.ro (.int .i64)) (.cons (.ro (.int .i64)) (.cons (.ro .str) (.cons (.ro (.int .i64)) .nil))))))))]⟩
def f52s16 : SS := ⟨[(0, (.p 0)), (5, (.p 100)), (6, (.h 101)), (7, (.ro (.int .i64))), (8, (.ro (.int .i64))), (62, (.ro (.int .i64))), (63, (.ro (.int .i64)))], [(0, (.box (.st (.cons (.list 78 (.st (.cons (.int .i64) (.cons (.int .i64) (.cons (.int .i64) (.cons .str (.cons (.int .i64) .nil))))))) (.cons (.list 3 (.int .i64)) .nil))) (.agg (.cons (.ro (.list 78 (.st (.cons (.int .i64) (.cons (.int .i64) (.cons (.int .i64) (.cons .str (.cons (.int .i64) .nil)))))))) (.cons (.h 10) .nil))))), (10, (.sl 3 (.int .i64))), (100, (.box (.st (.cons (.int .i64) (.cons (.int .i64) (.cons (.int .i64) (.cons .str (.cons (.int .i64) .nil)))))) (.agg (.cons (.ro (.int .i64)) (.cons (.ro (.int .i64)) (.cons (.ro (.int .i64)) (.cons (.ro .str) (.cons (.ro (.int .i64)) .nil)))))))), (101, (.sl 5 (.int .u8)))]⟩
def f52s13 : SS := ⟨[(0, (.p 0)), (1, (.ro (.int .i64))), (5, (.p 100)), (6, (.h 101))], [(0, (.box (.st (.cons (.list 78 (.st (.cons (.int .i64) (.cons (.int .i64) (.cons (.int .i64) (.cons .str (.cons (.int .i64) .nil))))))) (.cons (.list 3 (.int .i64)) .nil))) (.agg (.cons (.ro (.list 78 (.st (.cons (.int .i64) (.cons (.int .i64) (.cons (.int .i64) (.cons .str (.cons (.int .i64) .nil)))))))) (.cons (.h 10) .nil))))), (10, (.sl 3 (.int .i64))), (100, (.box (.st (.cons (.int .i64) (.cons (.int .i64) (.cons (.int .i64) (.cons .str (.cons (.int .i64) .nil)))))) (.agg (.cons (.ro (.int .i64)) (.cons (.ro (.int .i64)) (.cons (.ro (.int .i64)) (.cons (.ro .str) (.cons (.ro (.int .i64)) .nil)))))))), (101, (.sl 5 (.int .u8)))]⟩
def f52d8 : SS := ⟨[(5, (.p 100))], [(0, (.box (.st (.cons (.list 78 (.st (.cons (.int .i64) (.cons (.int .i64) (.cons (.int .i64) (.cons .str (.cons (.int .i64) .nil))))))) (.cons (.list 3 (.int .i64)) .nil))) (.agg (.cons (.ro (.list 78 (.st (.cons (.int .i64) (.cons (.int .i64) (.cons (.int .i64) (.cons .str (.cons (.int .i64) .nil)))))))) (.cons (.h 10) .nil))))), (10, (.sl 3 (.int .i64))), (100, (.box (.st (.cons (.int .i64) (.cons (.int .i64) (.cons (.int .i64) (.cons .str (.cons (.int .i64) .nil)))))) (.agg (.cons (.ro (.int .i64)) (.cons (.ro (.int .i64)) (.cons (.ro (.int .i64)) (.cons (.ro .str) (.cons (.ro (.int .i64)) .nil))))))))]⟩
def f52d12 : SS := ⟨[(0, (.p 0)), (1, (.ro (.int .i64))), (5, (.p 100))], [(0, (.box (.st (.cons (.list 78 (.st (.cons (.int .i64) (.cons (.int .i64) (.cons (.int .i64) (.cons .str (.cons (.int .i64) .nil))))))) (.cons (.list 3 (.int .i64)) .nil))) (.agg (.cons (.ro (.list 78 (.st (.cons (.int .i64) (.cons (.int .i64) (.cons (.int .i64) (.cons .str (.cons (.int .i64) .nil)))))))) (.cons (.h 10) .nil))))), (10, (.sl 3 (.int .i64))), (100, (.box (.st (.cons (.int .i64) (.cons (.int .i64) (.cons (.int .i64) (.cons .str (.cons (.int .i64) .nil)))))) (.agg (.cons (.ro (.int .i64)) (.cons (.ro (.int .i64)) (.cons (.ro (.int .i64)) (.cons (.ro .str) (.cons (.ro (.int .i64)) .nil))))))))]⟩
def f52s6 : SS := ⟨[(0, (.p 0)), (1, (.ro (.int .i64))), (5, (.p 100)), (6, (.h 101)), (19, (.ro (.int .i64))), (20, (.ro .bool))], [(0, (.box (.st (.cons (.list 78 (.st (.cons (.int .i64) (.cons (.int .i64) (.cons (.int .i64) (.cons .str (.cons (.int .i64) .nil))))))) (.cons (.list 3 (.int .i64)) .nil))) (.agg (.cons (.ro (.list 78 (.st (.cons (.int .i64) (.cons (.int .i64) (.cons (.int .i64) (.cons .str (.cons (.int .i64) .nil)))))))) (.cons (.h 10) .nil))))), (10, (.sl 3 (.int .i64))), (100, (.box (.st (.cons (.int .i64) (.cons (.int .i64) (.cons (.int .i64) (.cons .str (.cons (.int .i64) .nil)))))) (.agg (.cons (.ro (.int .i64)) (.cons (.ro (.int .i64)) (.cons (.ro (.int .i64)) (.cons (.ro .str) (.cons (.ro (.int .i64)) .nil)))))))), (101, (.sl 5 (.int .u8)))]⟩
def f52con (F : Int → (Bool × TTreeB) → (List Int) → Option (Unit × TTreeB × (List Int) × (List Int))) : Con := ⟨f52in, f52out, 2, 1, fun x => F x.1.2 x.2.1 x.2.2⟩
def f52ctx (k : Nat) (S52 : Int → (Bool × TTreeB) → (List Int) → Option (Unit × TTreeB × (List Int) × (List Int))) : Ctx := ⟨tyAt tys, conAt [(52, [f52con S52]), (95, [f95con (impl_ZigPut k)]), (96, [f96con (impl_UvarPut k)]), (97, [f97con (impl_headOf k)])], 102, fun _ => false⟩
theorem f52hc (k : Nat) (S52 : Int → (Bool × TTreeB) → (List Int) → Option (Unit × TTreeB × (List Int) × (List Int))) (h52 : FnOk Try.prog 52 (f52con S52)) : CtxOk Try.prog (f52ctx k S52) := ctxOk tys_ok mixed_ok (consOk_cons (h52) (consOk_cons (f95ok k) (consOk_cons (f96ok k) (consOk_cons (f97ok k) (consOk_nil)))))
theorem f52okb (k : Nat) (S52 : Int → (Bool × TTreeB) → (List Int) → Option (Unit × TTreeB × (List Int) × (List Int))) (h52 : FnOk Try.prog 52 (f52con S52)) : FnOk Try.prog 52 (f52con (impl_tree_bytesOf.b k S52)) :=
  let hc := f52hc k S52 h52
  fnOk (fn := Try.f52) (code := bodyOf Try.f52) (res := [.tmp 4]) hc (by kernel_rfl) (by kernel_rfl) (by decide) (by kernel_rfl) (by kernel_rfl) (by kernel_rfl) (Nat.le_of_ble_eq_true (by kernel_rfl)) _
    (fun x => Snd.seq (by kernel_rfl) (Snd.seq (by kernel_rfl) (Snd.seq (by kernel_rfl) (Snd.seq (by kernel_rfl) (Snd.cut (Snd.seq (by kernel_rfl) (Snd.seq (by kernel_rfl) (Snd.seq (by kernel_rfl) (Snd.seq (by kernel_rfl) (Snd.cut (Snd.exec hc _ _ _ _) ⟨f52s26, fun x => impl_tree_bytesOf.c26 k x.2.1 x.2.2.1 x.2.2.2⟩ (fun x => by kernel_rfl)) (Snd.exec hc _ _ _ _)) (Snd.seq (by kernel_rfl) (Snd.block (id := 1) (by kernel_rfl) (Snd.loop' (by kernel_rfl) f52s16 (fun n x => impl_tree_bytesOf.l16 k S52 n x.1.2.2.2.1 x.1.2.2.2.2.1 x.1.2.2.2.2.2.1 x.1.2.2.2.2.2.2 x.2.1 x.2.2.1 x.2.2.2.1 x.2.2.2.2) _ (fun _ => rfl) (fun n16 => Snd.seq (by kernel_rfl) (Snd.seq (by kernel_rfl) (Snd.seq (by kernel_rfl) (Snd.exec hc _ _ _ _) (Snd.block (id := 2) (by kernel_rfl) (Snd.seq (by kernel_rfl) (Snd.seq (by kernel_rfl) (Snd.cut (Snd.exec hc _ _ _ _) ⟨f52s20, fun x => impl_tree_bytesOf.c20 k S52 (impl_tree_bytesOf.l16 k S52 n16) x.1.2.2.2.1 x.1.2.2.2.2.2.1 x.1.2.2.2.2.2.2 x.2.1 x.2.2.1 x.2.2.2.1 x.2.2.2.2.1 x.2.2.2.2.2⟩ (fun x => by kernel_rfl)) (Snd.exec hc _ _ _ _)) (Snd.exec hc _ _ _ _)))) (Snd.exec hc _ _ _ _)) (Snd.exec hc _ _ _ _)) (fun n x => by kernel_rfl) k)) (Snd.exec hc _ _ _ _))) (Snd.exec hc _ _ _ _)) (Snd.exec hc _ _ _ _)) ⟨f52s13, fun x => impl_tree_bytesOf.c13 k S52 x.1.2.1 x.2.1 x.2.2.1 x.2.2.2.1 x.2.2.2.2⟩ (fun x => by kernel_rfl)) (Snd.seq (by kernel_rfl) (Snd.block (id := 0) (by kernel_rfl) (Snd.seq (by kernel_rfl) (Snd.cut (Snd.cond (x := .tmp 20) (by kernel_rfl) (Snd.exec hc _ _ _ _) (Snd.seq (by kernel_rfl) (Snd.cond (x := .tmp 26) (by kernel_rfl) (Snd.seq (by kernel_rfl) (Snd.exec hc _ _ _ _) (Snd.fork hc (id := 8) (by kernel_rfl) ⟨f52d8, fun x => impl_tree_bytesOf.d8 k x.2.1 x.2.2.1 x.2.2.2⟩ [[0, 4, 1, 2, 3, 5, 6, 7], [0, 4, 1, 2, 5, 3, 6, 7], [0, 4, 5, 1, 2, 3, 6, 7]] (by kernel_rfl) (ords_cons (fun x => by kernel_rfl) (ords_cons (fun x => by kernel_rfl) (ords_cons (fun x => by kernel_rfl) (ords_nil)))))) (Snd.seq (by kernel_rfl) (Snd.cond (x := .tmp 35) (by kernel_rfl) (Snd.seq (by kernel_rfl) (Snd.cond (x := .tmp 39) (by kernel_rfl) (Snd.exec hc _ _ _ _) (Snd.fork hc (id := 12) (by kernel_rfl) ⟨f52d12, fun x => impl_tree_bytesOf.d12 k S52 x.1.2.1 x.2.1 x.2.2.1 x.2.2.2⟩ [[0, 5, 1, 2, 3, 4, 6, 7, 8, 9], [0, 5, 1, 2, 3, 6, 4, 7, 8, 9], [0, 5, 1, 2, 3, 6, 7, 4, 8, 9], [0, 5, 1, 2, 6, 3, 4, 7, 8, 9], [0, 5, 1, 2, 6, 3, 7, 4, 8, 9], [0, 5, 1, 2, 6, 7, 3, 4, 8, 9], [0, 5, 6, 1, 2, 3, 4, 7, 8, 9], [0, 5, 6, 1, 2, 3, 7, 4, 8, 9], [0, 5, 6, 1, 2, 7, 3, 4, 8, 9], [0, 5, 6, 7, 1, 2, 3, 4, 8, 9]] (by kernel_rfl) (ords_cons (fun x => by kernel_rfl) (ords_cons (fun x => by kernel_rfl) (ords_cons (fun x => by kernel_rfl) (ords_cons (fun x => by kernel_rfl) (ords_cons (fun x => by kernel_rfl) (ords_cons (fun x => by kernel_rfl) (ords_cons (fun x => by kernel_rfl) (ords_cons (fun x => by kernel_rfl) (ords_cons (fun x => by kernel_rfl) (ords_cons (fun x => by kernel_rfl) (ords_nil))))))))))))) (Snd.exec hc _ _ _ _)) (Snd.exec hc _ _ _ _)) (Snd.exec hc _ _ _ _))) (Snd.exec hc _ _ _ _))) ⟨f52s6, fun x => impl_tree_bytesOf.c6 k S52 x.1.2.1 x.1.2.2.2.2.1 x.1.2.2.2.2.2 x.2.1 x.2.2.1 x.2.2.2.1 x.2.2.2.2⟩ (fun x => by kernel_rfl)) (Snd.exec hc _ _ _ _))) (Snd.exec hc _ _ _ _))) (Snd.exec hc _ _ _ _)) (Snd.exec hc _ _ _ _)) (Snd.exec hc _ _ _ _))
    (fun x => by kernel_rfl)
theorem f52rec (k : Nat) : ∀ d, FnOk Try.prog 52 (f52con (impl_tree_bytesOf.d k d))
  | 0 => FnOk_none (fun _ => rfl)
  | d + 1 => let ih := f52rec k d
    f52okb k (impl_tree_bytesOf.d k d) ih
theorem f52ok (k : Nat) : FnOk Try.prog 52 (f52con (impl_tree_bytesOf k)) := (f52rec k k)

def f10in : SS := ⟨[(0, (.ro (.list 78 (.st (.cons (.int .i64) (.cons (.int .i64) (.cons (.int .i64) (.cons .str (.cons (.int .i64) .nil)))))))))], []⟩
def f10out : SS := ⟨[(0, (.h 100)), (1, (.ro .bool))], [(100, (.sl 5 (.int .u8)))]⟩
def f10con (F : (List TNode) → Option ((Unit × Bool) × (List Int))) : Con := ⟨f10in, f10out, 1, 2, fun x => F x⟩
def f10ctx (k : Nat) : Ctx := ⟨tyAt tys, conAt [(51, [f51con (impl_treeOf k)]), (52, [f52con (impl_tree_bytesOf k)])], 15, fun _ => false⟩
theorem f10hc (k : Nat) : CtxOk Try.prog (f10ctx k) := ctxOk tys_ok mixed_ok (consOk_cons (f51ok k) (consOk_cons (f52ok k) (consOk_nil)))
theorem f10ok (k : Nat) : FnOk Try.prog 10 (f10con (impl_TreePack k)) :=
  let hc := f10hc k
  fnOk (fn := Try.f10) (code := bodyOf Try.f10) (res := [.tmp 2, .tmp 3]) hc (by kernel_rfl) (by kernel_rfl) (by decide) (by kernel_rfl) (by kernel_rfl) (by kernel_rfl) (Nat.le_of_ble_eq_true (by kernel_rfl)) _
    (fun x => Snd.exec hc _ _ _ _)
    (fun x => by kernel_rfl)

def f103in : SS := ⟨[(0, (.p 0)), (1, (.ro (.int .i64)))], [(0, (.box (.st (.cons (.list 5 (.int .u8)) (.cons (.int .i64) (.cons (.list 78 (.st (.cons (.int .i64) (.cons (.int .i64) (.cons (.int .i64) (.cons .str (.cons (.int .i64) .nil))))))) (.cons (.int .i64) .nil))))) (.agg (.cons (.ro (.list 5 (.int .u8))) (.cons (.ro (.int .i64)) (.cons (.h 10) (.cons (.ro (.int .i64)) .nil))))))), (10, (.sl 78 (.st (.cons (.int .i64) (.cons (.int .i64) (.cons (.int .i64) (.cons .str (.cons (.int .i64) .nil))))))))]⟩
def f103out : SS := ⟨[], [(0, (.box (.st (.cons (.list 5 (.int .u8)) (.cons (.int .i64) (.cons (.list 78 (.st (.cons (.int .i64) (.cons (.int .i64) (.cons (.int .i64) (.cons .str (.cons (.int .i64) .nil))))))) (.cons (.int .i64) .nil))))) (.agg (.cons (.ro (.list 5 (.int .u8))) (.cons (.ro (.int .i64)) (.cons (.h 10) (.cons (.ro (.int .i64)) .nil))))))), (10, (.sl 78 (.st (.cons (.int .i64) (.cons (.int .i64) (.cons (.int .i64) (.cons .str (.cons (.int .i64) .nil))))))))]⟩
def f103con (F : Int → TTreeReaderB → (List TNode) → Option (Unit × TTreeReaderB × (List TNode))) : Con := ⟨f103in, f103out, 2, 0, fun x => F x.1.2 x.2.1 x.2.2⟩
def f103ctx (k : Nat) : Ctx := ⟨tyAt tys, conAt [], 13, fun _ => false⟩
theorem f103hc (k : Nat) : CtxOk Try.prog (f103ctx k) := ctxOk tys_ok mixed_ok (consOk_nil)
theorem f103ok (k : Nat) : FnOk Try.prog 103 (f103con (impl_treeReader_fail k)) :=
  let hc := f103hc k
  fnOk (fn := Try.f103) (code := bodyOf Try.f103) (res := []) hc (by kernel_rfl) (by kernel_rfl) (by decide) (by kernel_rfl) (by kernel_rfl) (by kernel_rfl) (Nat.le_of_ble_eq_true (by kernel_rfl)) _
    (fun x => Snd.exec hc _ _ _ _)
    (fun x => by kernel_rfl)

def f99in : SS := ⟨[(0, (.p 0)), (1, (.ro (.st (.cons (.int .i64) (.cons (.int .i64) (.cons (.int .i64) (.cons .str (.cons (.int .i64) .nil)))))))), (2, (.ro (.int .i64)))], [(0, (.box (.st (.cons (.list 5 (.int .u8)) (.cons (.int .i64) (.cons (.list 78 (.st (.cons (.int .i64) (.cons (.int .i64) (.cons (.int .i64) (.cons .str (.cons (.int .i64) .nil))))))) (.cons (.int .i64) .nil))))) (.agg (.cons (.ro (.list 5 (.int .u8))) (.cons (.ro (.int .i64)) (.cons (.h 10) (.cons (.ro (.int .i64)) .nil))))))), (10, (.sl 78 (.st (.cons (.int .i64) (.cons (.int .i64) (.cons (.int .i64) (.cons .str (.cons (.int .i64) .nil))))))))]⟩
def f99out : SS := ⟨[(0, (.ro (.int .i64)))], [(0, (.box (.st (.cons (.list 5 (.int .u8)) (.cons (.int .i64) (.cons (.list 78 (.st (.cons (.int .i64) (.cons (.int .i64) (.cons (.int .i64) (.cons .str (.cons (.int .i64) .nil))))))) (.cons (.int .i64) .nil))))) (.agg (.cons (.ro (.list 5 (.int .u8))) (.cons (.ro (.int .i64)) (.cons (.h 100) (.cons (.ro (.int .i64)) .nil))))))), (100, (.sl 78 (.st (.cons (.int .i64) (.cons (.int .i64) (.cons (.int .i64) (.cons .str (.cons (.int .i64) .nil))))))))]⟩
def f99d5 : SS := ⟨[(0, (.p 0)), (4, (.p 100))], [(0, (.box (.st (.cons (.list 5 (.int .u8)) (.cons (.int .i64) (.cons (.list 78 (.st (.cons (.int .i64) (.cons (.int .i64) (.cons (.int .i64) (.cons .str (.cons (.int .i64) .nil))))))) (.cons (.int .i64) .nil))))) (.agg (.cons (.ro (.list 5 (.int .u8))) (.cons (.ro (.int .i64)) (.cons (.h 10) (.cons (.ro (.int .i64)) .nil))))))), (10, (.sl 78 (.st (.cons (.int .i64) (.cons (.int .i64) (.cons (.int .i64) (.cons .str (.cons (.int .i64) .nil)))))))), (100, (.box (.st (.cons (.int .i64) (.cons (.int .i64) (.cons (.int .i64) (.cons .str (.cons (.int .i64) .nil)))))) (.agg (.cons (.ro (.int .i64)) (.cons (.ro (.int .i64)) (.cons (.ro (.int .i64)) (.cons (.ro .str) (.cons (.ro (.int .i64)) .nil))))))))]⟩
def f99s3 : SS := ⟨[(0, (.p 0)), (4, (.p 100))], [(0, (.box (.st (.cons (.list 5 (.int .u8)) (.cons (.int .i64) (.cons (.list 78 (.st (.cons (.int .i64) (.cons (.int .i64) (.cons (.int .i64) (.cons .str (.cons (.int .i64) .nil))))))) (.cons (.int .i64) .nil))))) (.agg (.cons (.ro (.list 5 (.int .u8))) (.cons (.ro (.int .i64)) (.cons (.h 10) (.cons (.ro (.int .i64)) .nil))))))), (10, (.sl 78 (.st (.cons (.int .i64) (.cons (.int .i64) (.cons (.int .i64) (.cons .str (.cons (.int .i64) .nil)))))))), (100, (.box (.st (.cons (.int .i64) (.cons (.int .i64) (.cons (.int .i64) (.cons .str (.cons (.int .i64) .nil)))))) (.agg (.cons (.ro (.int .i64)) (.cons (.ro (.int .i64)) (.cons (.ro (.int .i64)) (.cons (.ro .str) (.cons (.ro (.int .i64)) .nil))))))))]⟩
def f99con (F : TNode → Int → TTreeReaderB → (List TNode) → Option (Int × TTreeReaderB × (List TNode))) : Con := ⟨f99in, f99out, 3, 1, fun x => F x.1.2.1 x.1.2.2 x.2.1 x.2.2⟩
def f99ctx (k : Nat) : Ctx := ⟨tyAt tys, conAt [(103, [f103con (impl_treeReader_fail k)])], 40, fun _ => false⟩
theorem f99hc (k : Nat) : CtxOk Try.prog (f99ctx k) := ctxOk tys_ok mixed_ok (consOk_cons (f103ok k) (consOk_nil))
theorem f99ok (k : Nat) : FnOk Try.prog 99 (f99con (impl_treeReader_begin k)) :=
  let hc := f99hc k
  fnOk (fn := Try.f99) (code := bodyOf Try.f99) (res := [.tmp 6]) hc (by kernel_rfl) (by kernel_rfl) (by decide) (by kernel_rfl) (by kernel_rfl) (by kernel_rfl) (Nat.le_of_ble_eq_true (by kernel_rfl)) _
    (fun x => Snd.seq (by kernel_rfl) (Snd.seq (by kernel_rfl) (Snd.cut (Snd.seq (by kernel_rfl) (Snd.seq (by kernel_rfl) (Snd.exec hc _ _ _ _) (Snd.fork hc (id := 5) (by kernel_rfl) ⟨f99d5, fun x => impl_treeReader_begin.d5 k x.2.1 x.2.2.1 x.2.2.2⟩ [[0, 1, 2, 3, 4, 5, 6, 7, 8, 9, 10], [0, 1, 2, 3, 5, 4, 6, 7, 8, 9, 10], [0, 1, 2, 3, 5, 6, 4, 7, 8, 9, 10]] (by kernel_rfl) (ords_cons (fun x => by kernel_rfl) (ords_cons (fun x => by kernel_rfl) (ords_cons (fun x => by kernel_rfl) (ords_nil)))))) (Snd.exec hc _ _ _ _)) ⟨f99s3, fun x => impl_treeReader_begin.c3 k x.2.1 x.2.2.1 x.2.2.2⟩ (fun x => by kernel_rfl)) (Snd.exec hc _ _ _ _)) (Snd.exec hc _ _ _ _))
    (fun x => by kernel_rfl)

def f100in : SS := ⟨[(0, (.ro (.int .i64)))], []⟩
def f100out : SS := ⟨[(0, (.ro (.int .i64)))], []⟩
def f100con (F : Int → Option Int) : Con := ⟨f100in, f100out, 1, 1, fun x => F x⟩
def f100ctx (k : Nat) : Ctx := ⟨tyAt tys, conAt [], 11, fun _ => false⟩
theorem f100hc (k : Nat) : CtxOk Try.prog (f100ctx k) := ctxOk tys_ok mixed_ok (consOk_nil)
theorem f100ok (k : Nat) : FnOk Try.prog 100 (f100con (impl_Zag k)) :=
  let hc := f100hc k
  fnOk (fn := Try.f100) (code := bodyOf Try.f100) (res := [.tmp 2]) hc (by kernel_rfl) (by kernel_rfl) (by decide) (by kernel_rfl) (by kernel_rfl) (by kernel_rfl) (Nat.le_of_ble_eq_true (by kernel_rfl)) _
    (fun x => Snd.exec hc _ _ _ _)
    (fun x => by kernel_rfl)

def f149in : SS := ⟨[(0, (.ro (.list 5 (.int .u8)))), (1, (.ro (.int .i64)))], []⟩
def f149out : SS := ⟨[(0, (.ro (.int .i64))), (1, (.ro (.int .i64))), (2, (.ro .bool))], []⟩
def f149s12 : SS := ⟨[], []⟩
def f149s5 : SS := ⟨[(0, (.ro (.list 5 (.int .u8)))), (1, (.ro (.int .i64))), (7, (.ro (.int .u64))), (8, (.ro (.int .i64)))], []⟩
def f149con (F : (List Int) → Int → Option (Int × Int × Bool)) : Con := ⟨f149in, f149out, 2, 3, fun x => F x.1 x.2⟩
def f149ctx (k : Nat) : Ctx := ⟨tyAt tys, conAt [], 52, fun _ => false⟩
theorem f149hc (k : Nat) : CtxOk Try.prog (f149ctx k) := ctxOk tys_ok mixed_ok (consOk_nil)
theorem f149ok (k : Nat) : FnOk Try.prog 149 (f149con (impl_UvarGet k)) :=
  let hc := f149hc k
  fnOk (fn := Try.f149) (code := bodyOf Try.f149) (res := [.tmp 4, .tmp 5, .tmp 6]) hc (by kernel_rfl) (by kernel_rfl) (by decide) (by kernel_rfl) (by kernel_rfl) (by kernel_rfl) (Nat.le_of_ble_eq_true (by kernel_rfl)) _
    (fun x => Snd.seq (by kernel_rfl) (Snd.seq (by kernel_rfl) (Snd.seq (by kernel_rfl) (Snd.seq (by kernel_rfl) (Snd.cut (Snd.exec hc _ _ _ _) ⟨f149s12, fun x => impl_UvarGet.c12 k⟩ (fun x => by kernel_rfl)) (Snd.seq (by kernel_rfl) (Snd.block (id := 0) (by kernel_rfl) (Snd.loop' (by kernel_rfl) f149s5 (fun n x => impl_UvarGet.l5 k n x.1 x.2.1 x.2.2.1 x.2.2.2) _ (fun _ => rfl) (fun n5 => Snd.exec hc _ _ _ _) (fun n x => by kernel_rfl) k)) (Snd.exec hc _ _ _ _))) (Snd.exec hc _ _ _ _)) (Snd.exec hc _ _ _ _)) (Snd.exec hc _ _ _ _))
    (fun x => by kernel_rfl)

def f101in : SS := ⟨[(0, (.p 0))], [(0, (.box (.st (.cons (.list 5 (.int .u8)) (.cons (.int .i64) (.cons (.list 78 (.st (.cons (.int .i64) (.cons (.int .i64) (.cons (.int .i64) (.cons .str (.cons (.int .i64) .nil))))))) (.cons (.int .i64) .nil))))) (.agg (.cons (.ro (.list 5 (.int .u8))) (.cons (.ro (.int .i64)) (.cons (.h 10) (.cons (.ro (.int .i64)) .nil))))))), (10, (.sl 78 (.st (.cons (.int .i64) (.cons (.int .i64) (.cons (.int .i64) (.cons .str (.cons (.int .i64) .nil))))))))]⟩
def f101out : SS := ⟨[(0, (.ro (.int .i64)))], [(0, (.box (.st (.cons (.list 5 (.int .u8)) (.cons (.int .i64) (.cons (.list 78 (.st (.cons (.int .i64) (.cons (.int .i64) (.cons (.int .i64) (.cons .str (.cons (.int .i64) .nil))))))) (.cons (.int .i64) .nil))))) (.agg (.cons (.ro (.list 5 (.int .u8))) (.cons (.ro (.int .i64)) (.cons (.h 10) (.cons (.ro (.int .i64)) .nil))))))), (10, (.sl 78 (.st (.cons (.int .i64) (.cons (.int .i64) (.cons (.int .i64) (.cons .str (.cons (.int .i64) .nil))))))))]⟩
def f101con (F : TTreeReaderB → (List TNode) → Option (Int × TTreeReaderB × (List TNode))) : Con := ⟨f101in, f101out, 1, 1, fun x => F x.2.1 x.2.2⟩
def f101ctx (k : Nat) : Ctx := ⟨tyAt tys, conAt [(103, [f103con (impl_treeReader_fail k)]), (149, [f149con (impl_UvarGet k)])], 35, fun _ => false⟩
theorem f101hc (k : Nat) : CtxOk Try.prog (f101ctx k) := ctxOk tys_ok mixed_ok (consOk_cons (f103ok k) (consOk_cons (f149ok k) (consOk_nil)))
theorem f101ok (k : Nat) : FnOk Try.prog 101 (f101con (impl_treeReader_uvar k)) :=
  let hc := f101hc k
  fnOk (fn := Try.f101) (code := bodyOf Try.f101) (res := [.tmp 2]) hc (by kernel_rfl) (by kernel_rfl) (by decide) (by kernel_rfl) (by kernel_rfl) (by kernel_rfl) (Nat.le_of_ble_eq_true (by kernel_rfl)) _
    (fun x => Snd.exec hc _ _ _ _)
    (fun x => by kernel_rfl)

def f104in : SS := ⟨[(0, (.p 0))], [(0, (.box (.st (.cons (.list 5 (.int .u8)) (.cons (.int .i64) (.cons (.list 78 (.st (.cons (.int .i64) (.cons (.int .i64) (.cons (.int .i64) (.cons .str (.cons (.int .i64) .nil))))))) (.cons (.int .i64) .nil))))) (.agg (.cons (.ro (.list 5 (.int .u8))) (.cons (.ro (.int .i64)) (.cons (.h 10) (.cons (.ro (.int .i64)) .nil))))))), (10, (.sl 78 (.st (.cons (.int .i64) (.cons (.int .i64) (.cons (.int .i64) (.cons .str (.cons (.int .i64) .nil))))))))]⟩
def f104out : SS := ⟨[(0, (.ro .str))], [(0, (.box (.st (.cons (.list 5 (.int .u8)) (.cons (.int .i64) (.cons (.list 78 (.st (.cons (.int .i64) (.cons (.int .i64) (.cons (.int .i64) (.cons .str (.cons (.int .i64) .nil))))))) (.cons (.int .i64) .nil))))) (.agg (.cons (.ro (.list 5 (.int .u8))) (.cons (.ro (.int .i64)) (.cons (.h 10) (.cons (.ro (.int .i64)) .nil))))))), (10, (.sl 78 (.st (.cons (.int .i64) (.cons (.int .i64) (.cons (.int .i64) (.cons .str (.cons (.int .i64) .nil))))))))]⟩
def f104s6 : SS := ⟨[(0, (.p 0)), (3, (.ro (.int .i64)))], [(0, (.box (.st (.cons (.list 5 (.int .u8)) (.cons (.int .i64) (.cons (.list 78 (.st (.cons (.int .i64) (.cons (.int .i64) (.cons (.int .i64) (.cons .str (.cons (.int .i64) .nil))))))) (.cons (.int .i64) .nil))))) (.agg (.cons (.ro (.list 5 (.int .u8))) (.cons (.ro (.int .i64)) (.cons (.h 10) (.cons (.ro (.int .i64)) .nil))))))), (10, (.sl 78 (.st (.cons (.int .i64) (.cons (.int .i64) (.cons (.int .i64) (.cons .str (.cons (.int .i64) .nil))))))))]⟩
def f104s4 : SS := ⟨[(0, (.p 0)), (3, (.ro (.int .i64)))], [(0, (.box (.st (.cons (.list 5 (.int .u8)) (.cons (.int .i64) (.cons (.list 78 (.st (.cons (.int .i64) (.cons (.int .i64) (.cons (.int .i64) (.cons .str (.cons (.int .i64) .nil))))))) (.cons (.int .i64) .nil))))) (.agg (.cons (.ro (.list 5 (.int .u8))) (.cons (.ro (.int .i64)) (.cons (.h 10) (.cons (.ro (.int .i64)) .nil))))))), (10, (.sl 78 (.st (.cons (.int .i64) (.cons (.int .i64) (.cons (.int .i64) (.cons .str (.cons (.int .i64) .nil))))))))]⟩
def f104con (F : TTreeReaderB → (List TNode) → Option (ByteArray × TTreeReaderB × (List TNode))) : Con := ⟨f104in, f104out, 1, 1, fun x => F x.2.1 x.2.2⟩
def f104ctx (k : Nat) : Ctx := ⟨tyAt tys, conAt [(55, [f55con (impl_within k)]), (101, [f101con (impl_treeReader_uvar k)]), (103, [f103con (impl_treeReader_fail k)])], 68, fun _ => false⟩
theorem f104hc (k : Nat) : CtxOk Try.prog (f104ctx k) := ctxOk tys_ok mixed_ok (consOk_cons (f55ok k) (consOk_cons (f101ok k) (consOk_cons (f103ok k) (consOk_nil))))
theorem f104ok (k : Nat) : FnOk Try.prog 104 (f104con (impl_treeReader_text k)) :=
  let hc := f104hc k
  fnOk (fn := Try.f104) (code := bodyOf Try.f104) (res := [.tmp 2]) hc (by kernel_rfl) (by kernel_rfl) (by decide) (by kernel_rfl) (by kernel_rfl) (by kernel_rfl) (Nat.le_of_ble_eq_true (by kernel_rfl)) _
    (fun x => Snd.seq (by kernel_rfl) (Snd.seq (by kernel_rfl) (Snd.seq (by kernel_rfl) (Snd.cut (Snd.seq (by kernel_rfl) (Snd.cut (Snd.exec hc _ _ _ _) ⟨f104s6, fun x => impl_treeReader_text.c6 k x.1.2 x.2.1 x.2.2⟩ (fun x => by kernel_rfl)) (Snd.exec hc _ _ _ _)) ⟨f104s4, fun x => impl_treeReader_text.c4 k x.1.2 x.2.1 x.2.2⟩ (fun x => by kernel_rfl)) (Snd.exec hc _ _ _ _)) (Snd.exec hc _ _ _ _)) (Snd.exec hc _ _ _ _))
    (fun x => by kernel_rfl)

def f150in : SS := ⟨[(0, (.p 0))], [(0, (.box (.st (.cons (.list 5 (.int .u8)) (.cons (.int .i64) (.cons (.list 78 (.st (.cons (.int .i64) (.cons (.int .i64) (.cons (.int .i64) (.cons .str (.cons (.int .i64) .nil))))))) (.cons (.int .i64) .nil))))) (.agg (.cons (.ro (.list 5 (.int .u8))) (.cons (.ro (.int .i64)) (.cons (.h 10) (.cons (.ro (.int .i64)) .nil))))))), (10, (.sl 78 (.st (.cons (.int .i64) (.cons (.int .i64) (.cons (.int .i64) (.cons .str (.cons (.int .i64) .nil))))))))]⟩
def f150out : SS := ⟨[(0, (.ro (.int .i64)))], [(0, (.box (.st (.cons (.list 5 (.int .u8)) (.cons (.int .i64) (.cons (.list 78 (.st (.cons (.int .i64) (.cons (.int .i64) (.cons (.int .i64) (.cons .str (.cons (.int .i64) .nil))))))) (.cons (.int .i64) .nil))))) (.agg (.cons (.ro (.list 5 (.int .u8))) (.cons (.ro (.int .i64)) (.cons (.h 10) (.cons (.ro (.int .i64)) .nil))))))), (10, (.sl 78 (.st (.cons (.int .i64) (.cons (.int .i64) (.cons (.int .i64) (.cons .str (.cons (.int .i64) .nil))))))))]⟩
def f150con (F : TTreeReaderB → (List TNode) → Option (Int × TTreeReaderB × (List TNode))) : Con := ⟨f150in, f150out, 1, 1, fun x => F x.2.1 x.2.2⟩
def f150ctx (k : Nat) : Ctx := ⟨tyAt tys, conAt [(103, [f103con (impl_treeReader_fail k)])], 41, fun _ => false⟩
theorem f150hc (k : Nat) : CtxOk Try.prog (f150ctx k) := ctxOk tys_ok mixed_ok (consOk_cons (f103ok k) (consOk_nil))
theorem f150ok (k : Nat) : FnOk Try.prog 150 (f150con (impl_treeReader_one k)) :=
  let hc := f150hc k
  fnOk (fn := Try.f150) (code := bodyOf Try.f150) (res := [.tmp 2]) hc (by kernel_rfl) (by kernel_rfl) (by decide) (by kernel_rfl) (by kernel_rfl) (by kernel_rfl) (Nat.le_of_ble_eq_true (by kernel_rfl)) _
    (fun x => Snd.exec hc _ _ _ _)
    (fun x => by kernel_rfl)

def f56in : SS := ⟨[(0, (.p 0)), (1, (.ro (.int .i64))), (2, (.ro (.int .i64))), (3, (.ro (.int .i64)))], [(0, (.box (.st (.cons (.list 5 (.int .u8)) (.cons (.int .i64) (.cons (.list 78 (.st (.cons (.int .i64) (.cons (.int .i64) (.cons (.int .i64) (.cons .str (.cons (.int .i64) .nil))))))) (.cons (.int .i64) .nil))))) (.agg (.cons (.ro (.list 5 (.int .u8))) (.cons (.ro (.int .i64)) (.cons (.h 10) (.cons (.ro (.int .i64)) .nil))))))), (10, (.sl 78 (.st (.cons (.int .i64) (.cons (.int .i64) (.cons (.int .i64) (.cons .str (.cons (.int .i64) .nil))))))))]⟩
def f56out : SS := ⟨[], [(0, (.box (.st (.cons (.list 5 (.int .u8)) (.cons (.int .i64) (.cons (.list 78 (.st (.cons (.int .i64) (.cons (.int .i64) (.cons (.int .i64) (.cons .str (.cons (.int .i64) .nil))))))) (.cons (.int .i64) .nil))))) (.agg (.cons (.ro (.list 5 (.int .u8))) (.cons (.ro (.int .i64)) (.cons (.h 100) (.cons (.ro (.int .i64)) .nil))))))), (100, (.sl 78 (.st (.cons (.int .i64) (.cons (.int .i64) (.cons (.int .i64) (.cons .str (.cons (.int .i64) .nil))))))))]⟩
def f56s8 : SS := ⟨[(0, (.p 0)), (8, (.ro (.int .i64))), (9, (.ro (.int .i64)))], [(0, (.box (.st (.cons (.list 5 (.int .u8)) (.cons (.int .i64) (.cons (.list 78 (.st (.cons (.int .i64) (.cons (.int .i64) (.cons (.int .i64) (.cons .str (.cons (.int .i64) .nil))))))) (.cons (.int .i64) .nil))))) (.agg (.cons (.ro (.list 5 (.int .u8))) (.cons (.ro (.int .i64)) (.cons (.h 100) (.cons (.ro (.int .i64)) .nil))))))), (100, (.sl 78 (.st (.cons (.int .i64) (.cons (.int .i64) (.cons (.int .i64) (.cons .str (.cons (.int .i64) .nil))))))))]⟩
def f56d10 : SS := ⟨[(0, (.p 0)), (8, (.ro (.int .i64)))], [(0, (.box (.st (.cons (.list 5 (.int .u8)) (.cons (.int .i64) (.cons (.list 78 (.st (.cons (.int .i64) (.cons (.int .i64) (.cons (.int .i64) (.cons .str (.cons (.int .i64) .nil))))))) (.cons (.int .i64) .nil))))) (.agg (.cons (.ro (.list 5 (.int .u8))) (.cons (.ro (.int .i64)) (.cons (.h 100) (.cons (.ro (.int .i64)) .nil))))))), (100, (.sl 78 (.st (.cons (.int .i64) (.cons (.int .i64) (.cons (.int .i64) (.cons .str (.cons (.int .i64) .nil))))))))]⟩
def f56s5 : SS := ⟨[(0, (.p 0)), (1, (.ro (.int .i64))), (3, (.ro (.int .i64))), (8, (.ro (.int .i64))), (21, (.ro (.int .i64))), (22, (.ro .bool))], [(0, (.box (.st (.cons (.list 5 (.int .u8)) (.cons (.int .i64) (.cons (.list 78 (.st (.cons (.int .i64) (.cons (.int .i64) (.cons (.int .i64) (.cons .str (.cons (.int .i64) .nil))))))) (.cons (.int .i64) .nil))))) (.agg (.cons (.ro (.list 5 (.int .u8))) (.cons (.ro (.int .i64)) (.cons (.h 100) (.cons (.ro (.int .i64)) .nil))))))), (100, (.sl 78 (.st (.cons (.int .i64) (.cons (.int .i64) (.cons (.int .i64) (.cons .str (.cons (.int .i64) .nil))))))))]⟩
def f56con (F : Int → Int → Int → TTreeReaderB → (List TNode) → Option (Unit × TTreeReaderB × (List TNode))) : Con := ⟨f56in, f56out, 4, 0, fun x => F x.1.2.1 x.1.2.2.1 x.1.2.2.2 x.2.1 x.2.2⟩
def f105in : SS := ⟨[(0, (.p 0)), (1, (.ro (.int .i64))), (2, (.ro (.int .i64)))], [(0, (.box (.st (.cons (.list 5 (.int .u8)) (.cons (.int .i64) (.cons (.list 78 (.st (.cons (.int .i64) (.cons (.int .i64) (.cons (.int .i64) (.cons .str (.cons (.int .i64) .nil))))))) (.cons (.int .i64) .nil))))) (.agg (.cons (.ro (.list 5 (.int .u8))) (.cons (.ro (.int .i64)) (.cons (.h 10) (.cons (.ro (.int .i64)) .nil))))))), (10, (.sl 78 (.st (.cons (.int .i64) (.cons (.int .i64) (.cons (.int .i64) (.cons .str (.cons (.int .i64) .nil))))))))]⟩
def f105out : SS := ⟨[], [(0, (.box (.st (.cons (.list 5 (.int .u8)) (.cons (.int .i64) (.cons (.list 78 (.st (.cons (.int .i64) (.cons (.int .i64) (.cons (.int .i64) (.cons .str (.cons (.int .i64) .nil))))))) (.cons (.int .i64) .nil))))) (.agg (.cons (.ro (.list 5 (.int .u8))) (.cons (.ro (.int .i64)) (.cons (.h 100) (.cons (.ro (.int .i64)) .nil))))))), (100, (.sl 78 (.st (.cons (.int .i64) (.cons (.int .i64) (.cons (.int .i64) (.cons .str (.cons (.int .i64) .nil))))))))]⟩
def f105s11 : SS := ⟨[(0, (.p 0)), (2, (.ro (.int .i64))), (7, (.ro (.int .i64))), (8, (.ro (.int .i64))), (9, (.ro (.int .i64)))], [(0, (.box (.st (.cons (.list 5 (.int .u8)) (.cons (.int .i64) (.cons (.list 78 (.st (.cons (.int .i64) (.cons (.int .i64) (.cons (.int .i64) (.cons .str (.cons (.int .i64) .nil))))))) (.cons (.int .i64) .nil))))) (.agg (.cons (.ro (.list 5 (.int .u8))) (.cons (.ro (.int .i64)) (.cons (.h 100) (.cons (.ro (.int .i64)) .nil))))))), (100, (.sl 78 (.st (.cons (.int .i64) (.cons (.int .i64) (.cons (.int .i64) (.cons .str (.cons (.int .i64) .nil))))))))]⟩
def f105s9 : SS := ⟨[(0, (.p 0)), (1, (.ro (.int .i64))), (2, (.ro (.int .i64))), (7, (.ro (.int .i64))), (8, (.ro (.int .i64)))], [(0, (.box (.st (.cons (.list 5 (.int .u8)) (.cons (.int .i64) (.cons (.list 78 (.st (.cons (.int .i64) (.cons (.int .i64) (.cons (.int .i64) (.cons .str (.cons (.int .i64) .nil))))))) (.cons (.int .i64) .nil))))) (.agg (.cons (.ro (.list 5 (.int .u8))) (.cons (.ro (.int .i64)) (.cons (.h 10) (.cons (.ro (.int .i64)) .nil))))))), (10, (.sl 78 (.st (.cons (.int .i64) (.cons (.int .i64) (.cons (.int .i64) (.cons .str (.cons (.int .i64) .nil))))))))]⟩
def f105s7 : SS := ⟨[(0, (.p 0)), (1, (.ro (.int .i64))), (2, (.ro (.int .i64))), (7, (.ro (.int .i64))), (8, (.ro (.int .i64)))], [(0, (.box (.st (.cons (.list 5 (.int .u8)) (.cons (.int .i64) (.cons (.list 78 (.st (.cons (.int .i64) (.cons (.int .i64) (.cons (.int .i64) (.cons .str (.cons (.int .i64) .nil))))))) (.cons (.int .i64) .nil))))) (.agg (.cons (.ro (.list 5 (.int .u8))) (.cons (.ro (.int .i64)) (.cons (.h 10) (.cons (.ro (.int .i64)) .nil))))))), (10, (.sl 78 (.st (.cons (.int .i64) (.cons (.int .i64) (.cons (.int .i64) (.cons .str (.cons (.int .i64) .nil))))))))]⟩
def f105s4 : SS := ⟨[(0, (.p 0)), (1, (.ro (.int .i64))), (2, (.ro (.int .i64))), (7, (.ro (.int .i64))), (8, (.ro (.int .i64)))], [(0, (.box (.st (.cons (.list 5 (.int .u8)) (.cons (.int .i64) (.cons (.list 78 (.st (.cons (.int .i64) (.cons (.int .i64) (.cons (.int .i64) (.cons .str (.cons (.int .i64) .nil))))))) (.cons (.int .i64) .nil))))) (.agg (.cons (.ro (.list 5 (.int .u8))) (.cons (.ro (.int .i64)) (.cons (.h 10) (.cons (.ro (.int .i64)) .nil))))))), (10, (.sl 78 (.st (.cons (.int .i64) (.cons (.int .i64) (.cons (.int .i64) (.cons .str (.cons (.int .i64) .nil))))))))]⟩
def f105con (F : Int → Int → TTreeReaderB → (List TNode) → Option (Unit × TTreeReaderB × (List TNode))) : Con := ⟨f105in, f105out, 3, 0, fun x => F x.1.2.1 x.1.2.2 x.2.1 x.2.2⟩
def f106in : SS := ⟨[(0, (.p 0)), (1, (.ro (.int .i64))), (2, (.ro (.int .i64)))], [(0, (.box (.st (.cons (.list 5 (.int .u8)) (.cons (.int .i64) (.cons (.list 78 (.st (.cons (.int .i64) (.cons (.int .i64) (.cons (.int .i64) (.cons .str (.cons (.int .i64) .nil))))))) (.cons (.int .i64) .nil))))) (.agg (.cons (.ro (.list 5 (.int .u8))) (.cons (.ro (.int .i64)) (.cons (.h 10) (.cons (.ro (.int .i64)) .nil))))))), (10, (.sl 78 (.st (.cons (.int .i64) (.cons (.int .i64) (.cons (.int .i64) (.cons .str (.cons (.int .i64) .nil))))))))]⟩
def f106out : SS := ⟨[], [(0, (.box (.st (.cons (.list 5 (.int .u8)) (.cons (.int .i64) (.cons (.list 78 (.st (.cons (.int .i64) (.cons (.int .i64) (.cons (.int .i64) (.cons .str (.cons (.int .i64) .nil))))))) (.cons (.int .i64) .nil))))) (.agg (.cons (.ro (.list 5 (.int .u8))) (.cons (.ro (.int .i64)) (.cons (.h 100) (.cons (.ro (.int .i64)) .nil))))))), (100, (.sl 78 (.st (.cons (.int .i64) (.cons (.int .i64) (.cons (.int .i64) (.cons .str (.cons (.int .i64) .nil))))))))]⟩
def f106s12 : SS := ⟨[(0, (.p 0)), (1, (.ro (.int .i64))), (2, (.ro (.int .i64))), (8, (.ro (.int .i64))), (9, (.ro (.int .i64)))], [(0, (.box (.st (.cons (.list 5 (.int .u8)) (.cons (.int .i64) (.cons (.list 78 (.st (.cons (.int .i64) (.cons (.int .i64) (.cons (.int .i64) (.cons .str (.cons (.int .i64) .nil))))))) (.cons (.int .i64) .nil))))) (.agg (.cons (.ro (.list 5 (.int .u8))) (.cons (.ro (.int .i64)) (.cons (.h 100) (.cons (.ro (.int .i64)) .nil))))))), (100, (.sl 78 (.st (.cons (.int .i64) (.cons (.int .i64) (.cons (.int .i64) (.cons .str (.cons (.int .i64) .nil))))))))]⟩
def f106s10 : SS := ⟨[(0, (.p 0)), (1, (.ro (.int .i64))), (2, (.ro (.int .i64))), (6, (.ro (.int .i64))), (8, (.ro (.int .i64))), (9, (.ro (.int .i64)))], [(0, (.box (.st (.cons (.list 5 (.int .u8)) (.cons (.int .i64) (.cons (.list 78 (.st (.cons (.int .i64) (.cons (.int .i64) (.cons (.int .i64) (.cons .str (.cons (.int .i64) .nil))))))) (.cons (.int .i64) .nil))))) (.agg (.cons (.ro (.list 5 (.int .u8))) (.cons (.ro (.int .i64)) (.cons (.h 100) (.cons (.ro (.int .i64)) .nil))))))), (100, (.sl 78 (.st (.cons (.int .i64) (.cons (.int .i64) (.cons (.int .i64) (.cons .str (.cons (.int .i64) .nil))))))))]⟩
def f106s8 : SS := ⟨[(0, (.p 0)), (1, (.ro (.int .i64))), (2, (.ro (.int .i64))), (6, (.ro (.int .i64))), (8, (.ro (.int .i64))), (9, (.ro (.int .i64)))], [(0, (.box (.st (.cons (.list 5 (.int .u8)) (.cons (.int .i64) (.cons (.list 78 (.st (.cons (.int .i64) (.cons (.int .i64) (.cons (.int .i64) (.cons .str (.cons (.int .i64) .nil))))))) (.cons (.int .i64) .nil))))) (.agg (.cons (.ro (.list 5 (.int .u8))) (.cons (.ro (.int .i64)) (.cons (.h 100) (.cons (.ro (.int .i64)) .nil))))))), (100, (.sl 78 (.st (.cons (.int .i64) (.cons (.int .i64) (.cons (.int .i64) (.cons .str (.cons (.int .i64) .nil))))))))]⟩
def f106s6 : SS := ⟨[(0, (.p 0)), (1, (.ro (.int .i64))), (2, (.ro (.int .i64))), (6, (.ro (.int .i64))), (7, (.ro (.int .i64))), (8, (.ro (.int .i64))), (9, (.ro (.int .i64)))], [(0, (.box (.st (.cons (.list 5 (.int .u8)) (.cons (.int .i64) (.cons (.list 78 (.st (.cons (.int .i64) (.cons (.int .i64) (.cons (.int .i64) (.cons .str (.cons (.int .i64) .nil))))))) (.cons (.int .i64) .nil))))) (.agg (.cons (.ro (.list 5 (.int .u8))) (.cons (.ro (.int .i64)) (.cons (.h 100) (.cons (.ro (.int .i64)) .nil))))))), (100, (.sl 78 (.st (.cons (.int .i64) (.cons (.int .i64) (.cons (.int .i64) (.cons .str (.cons (.int .i64) .nil))))))))]⟩
def f106s1 : SS := ⟨[(0, (.p 0)), (1, (.ro (.int .i64))), (2, (.ro (.int .i64))), (6, (.ro (.int .i64)))], [(0, (.box (.st (.cons (.list 5 (.int .u8)) (.cons (.int .i64) (.cons (.list 78 (.st (.cons (.int .i64) (.cons (.int .i64) (.cons (.int .i64) (.cons .str (.cons (.int .i64) .nil))))))) (.cons (.int .i64) .nil))))) (.agg (.cons (.ro (.list 5 (.int .u8))) (.cons (.ro (.int .i64)) (.cons (.h 100) (.cons (.ro (.int .i64)) .nil))))))), (100, (.sl 78 (.st (.cons (.int .i64) (.cons (.int .i64) (.cons (.int .i64) (.cons .str (.cons (.int .i64) .nil))))))))]⟩
def f106con (F : Int → Int → TTreeReaderB → (List TNode) → Option (Unit × TTreeReaderB × (List TNode))) : Con := ⟨f106in, f106out, 3, 0, fun x => F x.1.2.1 x.1.2.2 x.2.1 x.2.2⟩
def f56ctx (k : Nat) (S56 : Int → Int → Int → TTreeReaderB → (List TNode) → Option (Unit × TTreeReaderB × (List TNode))) (S105 : Int → Int → TTreeReaderB → (List TNode) → Option (Unit × TTreeReaderB × (List TNode))) (S106 : Int → Int → TTreeReaderB → (List TNode) → Option (Unit × TTreeReaderB × (List TNode))) : Ctx := ⟨tyAt tys, conAt [(99, [f99con (impl_treeReader_begin k)]), (100, [f100con (impl_Zag k)]), (101, [f101con (impl_treeReader_uvar k)]), (102, [f102con (impl_isInt32 k)]), (103, [f103con (impl_treeReader_fail k)]), (104, [f104con (impl_treeReader_text k)]), (105, [f105con S105]), (106, [f106con S106])], 75, fun _ => false⟩
theorem f56hc (k : Nat) (S56 : Int → Int → Int → TTreeReaderB → (List TNode) → Option (Unit × TTreeReaderB × (List TNode))) (S105 : Int → Int → TTreeReaderB → (List TNode) → Option (Unit × TTreeReaderB × (List TNode))) (S106 : Int → Int → TTreeReaderB → (List TNode) → Option (Unit × TTreeReaderB × (List TNode))) (h56 : FnOk Try.prog 56 (f56con S56)) (h105 : FnOk Try.prog 105 (f105con S105)) (h106 : FnOk Try.prog 106 (f106con S106)) : CtxOk Try.prog (f56ctx k S56 S105 S106) := ctxOk tys_ok mixed_ok (consOk_cons (f99ok k) (consOk_cons (f100ok k) (consOk_cons (f101ok k) (consOk_cons (f102ok k) (consOk_cons (f103ok k) (consOk_cons (f104ok k) (consOk_cons (h105) (consOk_cons (h106) (consOk_nil)))))))))
theorem f56okb (k : Nat) (S56 : Int → Int → Int → TTreeReaderB → (List TNode) → Option (Unit × TTreeReaderB × (List TNode))) (S105 : Int → Int → TTreeReaderB → (List TNode) → Option (Unit × TTreeReaderB × (List TNode))) (S106 : Int → Int → TTreeReaderB → (List TNode) → Option (Unit × TTreeReaderB × (List TNode))) (h56 : FnOk Try.prog 56 (f56con S56)) (h105 : FnOk Try.prog 105 (f105con S105)) (h106 : FnOk Try.prog 106 (f106con S106)) : FnOk Try.prog 56 (f56con (impl_treeReader_node.b k S56 S105 S106)) :=
  let hc := f56hc k S56 S105 S106 h56 h105 h106
  fnOk (fn := Try.f56) (code := bodyOf Try.f56) (res := []) hc (by kernel_rfl) (by kernel_rfl) (by decide) (by kernel_rfl) (by kernel_rfl) (by kernel_rfl) (Nat.le_of_ble_eq_true (by kernel_rfl)) _
    (fun x => Snd.seq (by kernel_rfl) (Snd.seq (by kernel_rfl) (Snd.seq (by kernel_rfl) (Snd.block (id := 0) (by kernel_rfl) (Snd.seq (by kernel_rfl) (Snd.cut (Snd.cond (x := .tmp 22) (by kernel_rfl) (Snd.seq (by kernel_rfl) (Snd.seq (by kernel_rfl) (Snd.cut (Snd.exec hc _ _ _ _) ⟨f56s8, fun x => impl_treeReader_node.c8 k x.1.2.1 x.1.2.2 x.2.1 x.2.2⟩ (fun x => by kernel_rfl)) (Snd.exec hc _ _ _ _)) (Snd.exec hc _ _ _ _)) (Snd.seq (by kernel_rfl) (Snd.cond (x := .tmp 52) (by kernel_rfl) (Snd.fork hc (id := 10) (by kernel_rfl) ⟨f56d10, fun x => impl_treeReader_node.d10 k x.1.2 x.2.1 x.2.2⟩ [[0, 1, 2, 4, 5, 3, 6, 7, 8, 9], [0, 1, 2, 4, 5, 6, 3, 7, 8, 9]] (by kernel_rfl) (ords_cons (fun x => by kernel_rfl) (ords_cons (fun x => by kernel_rfl) (ords_nil)))) (Snd.exec hc _ _ _ _)) (Snd.exec hc _ _ _ _))) ⟨f56s5, fun x => impl_treeReader_node.c5 k S105 S106 x.1.2.1 x.1.2.2.1 x.1.2.2.2.1 x.1.2.2.2.2.1 x.1.2.2.2.2.2 x.2.1 x.2.2⟩ (fun x => by kernel_rfl)) (Snd.exec hc _ _ _ _))) (Snd.exec hc _ _ _ _)) (Snd.exec hc _ _ _ _)) (Snd.exec hc _ _ _ _))
    (fun x => by kernel_rfl)
def f105ctx (k : Nat) (S56 : Int → Int → Int → TTreeReaderB → (List TNode) → Option (Unit × TTreeReaderB × (List TNode))) (S105 : Int → Int → TTreeReaderB → (List TNode) → Option (Unit × TTreeReaderB × (List TNode))) (S106 : Int → Int → TTreeReaderB → (List TNode) → Option (Unit × TTreeReaderB × (List TNode))) : Ctx := ⟨tyAt tys, conAt [(55, [f55con (impl_within k)]), (56, [f56con S56]), (101, [f101con (impl_treeReader_uvar k)]), (103, [f103con (impl_treeReader_fail k)]), (150, [f150con (impl_treeReader_one k)]), (151, [f151con (impl_isType k)])], 72, fun _ => false⟩
theorem f105hc (k : Nat) (S56 : Int → Int → Int → TTreeReaderB → (List TNode) → Option (Unit × TTreeReaderB × (List TNode))) (S105 : Int → Int → TTreeReaderB → (List TNode) → Option (Unit × TTreeReaderB × (List TNode))) (S106 : Int → Int → TTreeReaderB → (List TNode) → Option (Unit × TTreeReaderB × (List TNode))) (h56 : FnOk Try.prog 56 (f56con S56)) (h105 : FnOk Try.prog 105 (f105con S105)) (h106 : FnOk Try.prog 106 (f106con S106)) : CtxOk Try.prog (f105ctx k S56 S105 S106) := ctxOk tys_ok mixed_ok (consOk_cons (f55ok k) (consOk_cons (h56) (consOk_cons (f101ok k) (consOk_cons (f103ok k) (consOk_cons (f150ok k) (consOk_cons (f151ok k) (consOk_nil)))))))
theorem f105okb (k : Nat) (S56 : Int → Int → Int → TTreeReaderB → (List TNode) → Option (Unit × TTreeReaderB × (List TNode))) (S105 : Int → Int → TTreeReaderB → (List TNode) → Option (Unit × TTreeReaderB × (List TNode))) (S106 : Int → Int → TTreeReaderB → (List TNode) → Option (Unit × TTreeReaderB × (List TNode))) (h56 : FnOk Try.prog 56 (f56con S56)) (h105 : FnOk Try.prog 105 (f105con S105)) (h106 : FnOk Try.prog 106 (f106con S106)) : FnOk Try.prog 105 (f105con (impl_treeReader_parts.b k S56 S105 S106)) :=
  let hc := f105hc k S56 S105 S106 h56 h105 h106
  fnOk (fn := Try.f105) (code := bodyOf Try.f105) (res := []) hc (by kernel_rfl) (by kernel_rfl) (by decide) (by kernel_rfl) (by kernel_rfl) (by kernel_rfl) (Nat.le_of_ble_eq_true (by kernel_rfl)) _
    (fun x => Snd.seq (by kernel_rfl) (Snd.seq (by kernel_rfl) (Snd.seq (by kernel_rfl) (Snd.cut (Snd.seq (by kernel_rfl) (Snd.seq (by kernel_rfl) (Snd.cut (Snd.seq (by kernel_rfl) (Snd.cut (Snd.seq (by kernel_rfl) (Snd.seq (by kernel_rfl) (Snd.block (id := 0) (by kernel_rfl) (Snd.loop' (by kernel_rfl) f105s11 (fun n x => impl_treeReader_parts.l11 k S56 n x.1.2.1 x.1.2.2.1 x.1.2.2.2.1 x.1.2.2.2.2 x.2.1 x.2.2) _ (fun _ => rfl) (fun n11 => Snd.exec hc _ _ _ _) (fun n x => by kernel_rfl) k)) (Snd.exec hc _ _ _ _)) (Snd.exec hc _ _ _ _)) ⟨f105s9, fun x => impl_treeReader_parts.c9 k S56 x.1.2.1 x.1.2.2.1 x.1.2.2.2.1 x.1.2.2.2.2 x.2.1 x.2.2⟩ (fun x => by kernel_rfl)) (Snd.exec hc _ _ _ _)) ⟨f105s7, fun x => impl_treeReader_parts.c7 k S56 x.1.2.1 x.1.2.2.1 x.1.2.2.2.1 x.1.2.2.2.2 x.2.1 x.2.2⟩ (fun x => by kernel_rfl)) (Snd.exec hc _ _ _ _)) (Snd.exec hc _ _ _ _)) ⟨f105s4, fun x => impl_treeReader_parts.c4 k S56 x.1.2.1 x.1.2.2.1 x.1.2.2.2.1 x.1.2.2.2.2 x.2.1 x.2.2⟩ (fun x => by kernel_rfl)) (Snd.exec hc _ _ _ _)) (Snd.exec hc _ _ _ _)) (Snd.exec hc _ _ _ _))
    (fun x => by kernel_rfl)
def f106ctx (k : Nat) (S56 : Int → Int → Int → TTreeReaderB → (List TNode) → Option (Unit × TTreeReaderB × (List TNode))) (S105 : Int → Int → TTreeReaderB → (List TNode) → Option (Unit × TTreeReaderB × (List TNode))) (S106 : Int → Int → TTreeReaderB → (List TNode) → Option (Unit × TTreeReaderB × (List TNode))) : Ctx := ⟨tyAt tys, conAt [(55, [f55con (impl_within k)]), (56, [f56con S56]), (100, [f100con (impl_Zag k)]), (101, [f101con (impl_treeReader_uvar k)]), (103, [f103con (impl_treeReader_fail k)]), (150, [f150con (impl_treeReader_one k)]), (151, [f151con (impl_isType k)])], 84, fun _ => false⟩
theorem f106hc (k : Nat) (S56 : Int → Int → Int → TTreeReaderB → (List TNode) → Option (Unit × TTreeReaderB × (List TNode))) (S105 : Int → Int → TTreeReaderB → (List TNode) → Option (Unit × TTreeReaderB × (List TNode))) (S106 : Int → Int → TTreeReaderB → (List TNode) → Option (Unit × TTreeReaderB × (List TNode))) (h56 : FnOk Try.prog 56 (f56con S56)) (h105 : FnOk Try.prog 105 (f105con S105)) (h106 : FnOk Try.prog 106 (f106con S106)) : CtxOk Try.prog (f106ctx k S56 S105 S106) := ctxOk tys_ok mixed_ok (consOk_cons (f55ok k) (consOk_cons (h56) (consOk_cons (f100ok k) (consOk_cons (f101ok k) (consOk_cons (f103ok k) (consOk_cons (f150ok k) (consOk_cons (f151ok k) (consOk_nil))))))))
theorem f106okb (k : Nat) (S56 : Int → Int → Int → TTreeReaderB → (List TNode) → Option (Unit × TTreeReaderB × (List TNode))) (S105 : Int → Int → TTreeReaderB → (List TNode) → Option (Unit × TTreeReaderB × (List TNode))) (S106 : Int → Int → TTreeReaderB → (List TNode) → Option (Unit × TTreeReaderB × (List TNode))) (h56 : FnOk Try.prog 56 (f56con S56)) (h105 : FnOk Try.prog 105 (f105con S105)) (h106 : FnOk Try.prog 106 (f106con S106)) : FnOk Try.prog 106 (f106con (impl_treeReader_fields.b k S56 S105 S106)) :=
  let hc := f106hc k S56 S105 S106 h56 h105 h106
  fnOk (fn := Try.f106) (code := bodyOf Try.f106) (res := []) hc (by kernel_rfl) (by kernel_rfl) (by decide) (by kernel_rfl) (by kernel_rfl) (by kernel_rfl) (Nat.le_of_ble_eq_true (by kernel_rfl)) _
    (fun x => Snd.seq (by kernel_rfl) (Snd.block (id := 0) (by kernel_rfl) (Snd.loop' (by kernel_rfl) f106s1 (fun n x => impl_treeReader_fields.l1 k S56 n x.1.2.1 x.1.2.2.1 x.1.2.2.2 x.2.1 x.2.2) _ (fun _ => rfl) (fun n1 => Snd.block (id := 1) (by kernel_rfl) (Snd.seq (by kernel_rfl) (Snd.seq (by kernel_rfl) (Snd.seq (by kernel_rfl) (Snd.seq (by kernel_rfl) (Snd.cut (Snd.seq (by kernel_rfl) (Snd.cut (Snd.seq (by kernel_rfl) (Snd.cut (Snd.seq (by kernel_rfl) (Snd.cut (Snd.exec hc _ _ _ _) ⟨f106s12, fun x => impl_treeReader_fields.c12 k S56 (impl_treeReader_fields.l1 k S56 n1) x.1.2.1 x.1.2.2.1 x.1.2.2.2.1 x.1.2.2.2.2 x.2.1 x.2.2⟩ (fun x => by kernel_rfl)) (Snd.exec hc _ _ _ _)) ⟨f106s10, fun x => impl_treeReader_fields.c10 k S56 (impl_treeReader_fields.l1 k S56 n1) x.1.2.1 x.1.2.2.1 x.1.2.2.2.1 x.1.2.2.2.2.1 x.1.2.2.2.2.2 x.2.1 x.2.2⟩ (fun x => by kernel_rfl)) (Snd.exec hc _ _ _ _)) ⟨f106s8, fun x => impl_treeReader_fields.c8 k S56 (impl_treeReader_fields.l1 k S56 n1) x.1.2.1 x.1.2.2.1 x.1.2.2.2.1 x.1.2.2.2.2.1 x.1.2.2.2.2.2 x.2.1 x.2.2⟩ (fun x => by kernel_rfl)) (Snd.exec hc _ _ _ _)) ⟨f106s6, fun x => impl_treeReader_fields.c6 k S56 (impl_treeReader_fields.l1 k S56 n1) x.1.2.1 x.1.2.2.1 x.1.2.2.2.1 x.1.2.2.2.2.1 x.1.2.2.2.2.2.1 x.1.2.2.2.2.2.2 x.2.1 x.2.2⟩ (fun x => by kernel_rfl)) (Snd.exec hc _ _ _ _)) (Snd.exec hc _ _ _ _)) (Snd.exec hc _ _ _ _)) (Snd.exec hc _ _ _ _))) (fun n x => by kernel_rfl) k)) (Snd.exec hc _ _ _ _))
    (fun x => by kernel_rfl)
theorem f56rec (k : Nat) : ∀ d, FnOk Try.prog 56 (f56con (impl_treeReader_node.d k d)) ∧ FnOk Try.prog 105 (f105con (impl_treeReader_parts.d k d)) ∧ FnOk Try.prog 106 (f106con (impl_treeReader_fields.d k d))
  | 0 => ⟨FnOk_none (fun _ => rfl), FnOk_none (fun _ => rfl), FnOk_none (fun _ => rfl)⟩
  | d + 1 => let ih := f56rec k d
    ⟨f56okb k (impl_treeReader_node.d k d) (impl_treeReader_parts.d k d) (impl_treeReader_fields.d k d) ih.1 ih.2.1 ih.2.2, f105okb k (impl_treeReader_node.d k d) (impl_treeReader_parts.d k d) (impl_treeReader_fields.d k d) ih.1 ih.2.1 ih.2.2, f106okb k (impl_treeReader_node.d k d) (impl_treeReader_parts.d k d) (impl_treeReader_fields.d k d) ih.1 ih.2.1 ih.2.2⟩
theorem f56ok (k : Nat) : FnOk Try.prog 56 (f56con (impl_treeReader_node k)) := (f56rec k k).1
theorem f105ok (k : Nat) : FnOk Try.prog 105 (f105con (impl_treeReader_parts k)) := (f56rec k k).2.1
theorem f106ok (k : Nat) : FnOk Try.prog 106 (f106con (impl_treeReader_fields k)) := (f56rec k k).2.2

def f13in : SS := ⟨[(0, (.ro (.list 5 (.int .u8)))), (1, (.ro (.int .i64)))], []⟩
def f13out : SS := ⟨[(0, (.h 100)), (1, (.ro (.int .i64))), (2, (.ro (.int .i64)))], [(100, (.sl 78 (.st (.cons (.int .i64) (.cons (.int .i64) (.cons (.int .i64) (.cons .str (.cons (.int .i64) .nil))))))))]⟩
def f13con (F : (List Int) → Int → Option ((Unit × Int × Int) × (List TNode))) : Con := ⟨f13in, f13out, 2, 3, fun x => F x.1 x.2⟩
def f13ctx (k : Nat) : Ctx := ⟨tyAt tys, conAt [(55, [f55con (impl_within k)]), (56, [f56con (impl_treeReader_node k)])], 37, fun _ => false⟩
theorem f13hc (k : Nat) : CtxOk Try.prog (f13ctx k) := ctxOk tys_ok mixed_ok (consOk_cons (f55ok k) (consOk_cons (f56ok k) (consOk_nil)))
theorem f13ok (k : Nat) : FnOk Try.prog 13 (f13con (impl_TreeRead k)) :=
  let hc := f13hc k
  fnOk (fn := Try.f13) (code := bodyOf Try.f13) (res := [.tmp 4, .tmp 5, .tmp 6]) hc (by kernel_rfl) (by kernel_rfl) (by decide) (by kernel_rfl) (by kernel_rfl) (by kernel_rfl) (Nat.le_of_ble_eq_true (by kernel_rfl)) _
    (fun x => Snd.exec hc _ _ _ _)
    (fun x => by kernel_rfl)

def f123in : SS := ⟨[(0, (.ro (.int .i64)))], []⟩
def f123out : SS := ⟨[(0, (.ro .bool))], []⟩
def f123con (F : Int → Option Bool) : Con := ⟨f123in, f123out, 1, 1, fun x => F x⟩
def f123ctx (k : Nat) : Ctx := ⟨tyAt tys, conAt [(55, [f55con (impl_within k)])], 13, fun _ => false⟩
theorem f123hc (k : Nat) : CtxOk Try.prog (f123ctx k) := ctxOk tys_ok mixed_ok (consOk_cons (f55ok k) (consOk_nil))
theorem f123ok (k : Nat) : FnOk Try.prog 123 (f123con (impl_TypeOk k)) :=
  let hc := f123hc k
  fnOk (fn := Try.f123) (code := bodyOf Try.f123) (res := [.tmp 2]) hc (by kernel_rfl) (by kernel_rfl) (by decide) (by kernel_rfl) (by kernel_rfl) (by kernel_rfl) (Nat.le_of_ble_eq_true (by kernel_rfl)) _
    (fun x => Snd.exec hc _ _ _ _)
    (fun x => by kernel_rfl)

def f141in : SS := ⟨[(0, (.ro (.st (.cons .str (.cons (.int .i64) (.cons (.int .i64) (.cons (.int .i64) .nil)))))))], []⟩
def f141out : SS := ⟨[(0, (.ro .bool))], []⟩
def f141con (F : TCol → Option Bool) : Con := ⟨f141in, f141out, 1, 1, fun x => F x⟩
def f141ctx (k : Nat) : Ctx := ⟨tyAt tys, conAt [(55, [f55con (impl_within k)]), (123, [f123con (impl_TypeOk k)])], 30, fun _ => false⟩
theorem f141hc (k : Nat) : CtxOk Try.prog (f141ctx k) := ctxOk tys_ok mixed_ok (consOk_cons (f55ok k) (consOk_cons (f123ok k) (consOk_nil)))
theorem f141ok (k : Nat) : FnOk Try.prog 141 (f141con (impl_colOk k)) :=
  let hc := f141hc k
  fnOk (fn := Try.f141) (code := bodyOf Try.f141) (res := [.tmp 2]) hc (by kernel_rfl) (by kernel_rfl) (by decide) (by kernel_rfl) (by kernel_rfl) (by kernel_rfl) (Nat.le_of_ble_eq_true (by kernel_rfl)) _
    (fun x => Snd.exec hc _ _ _ _)
    (fun x => by kernel_rfl)

def f142in : SS := ⟨[(0, (.ro .str))], []⟩
def f142out : SS := ⟨[(0, (.ro .bool))], []⟩
def f142s2 : SS := ⟨[(0, (.ro .str)), (5, (.ro (.int .i64))), (6, (.ro (.int .i64)))], []⟩
def f142con (F : ByteArray → Option Bool) : Con := ⟨f142in, f142out, 1, 1, fun x => F x⟩
def f142ctx (k : Nat) : Ctx := ⟨tyAt tys, conAt [(55, [f55con (impl_within k)])], 19, fun _ => false⟩
theorem f142hc (k : Nat) : CtxOk Try.prog (f142ctx k) := ctxOk tys_ok mixed_ok (consOk_cons (f55ok k) (consOk_nil))
theorem f142ok (k : Nat) : FnOk Try.prog 142 (f142con (impl_isColName k)) :=
  let hc := f142hc k
  fnOk (fn := Try.f142) (code := bodyOf Try.f142) (res := [.tmp 2]) hc (by kernel_rfl) (by kernel_rfl) (by decide) (by kernel_rfl) (by kernel_rfl) (by kernel_rfl) (Nat.le_of_ble_eq_true (by kernel_rfl)) _
    (fun x => Snd.seq (by kernel_rfl) (Snd.seq (by kernel_rfl) (Snd.exec hc _ _ _ _) (Snd.seq (by kernel_rfl) (Snd.block (id := 0) (by kernel_rfl) (Snd.loop' (by kernel_rfl) f142s2 (fun n x => impl_isColName.l2 k n x.1 x.2.1 x.2.2) _ (fun _ => rfl) (fun n2 => Snd.exec hc _ _ _ _) (fun n x => by kernel_rfl) k)) (Snd.exec hc _ _ _ _))) (Snd.exec hc _ _ _ _))
    (fun x => by kernel_rfl)

def f89in : SS := ⟨[(0, (.ro (.list 93 (.st (.cons .str (.cons (.int .i64) (.cons (.int .i64) (.cons (.int .i64) .nil)))))))), (1, (.ro (.int .i64))), (2, (.ro (.int .i64)))], []⟩
def f89out : SS := ⟨[(0, (.ro (.int .i64)))], []⟩
def f89s10 : SS := ⟨[(0, (.ro (.list 93 (.st (.cons .str (.cons (.int .i64) (.cons (.int .i64) (.cons (.int .i64) .nil)))))))), (2, (.ro (.int .i64))), (7, (.ro (.int .i64))), (8, (.h 100)), (47, (.ro (.int .i64))), (48, (.ro (.int .i64))), (54, (.h 100)), (55, (.ro (.int .i64))), (56, (.ro (.int .i64)))], [(100, (.sl 9 .str))]⟩
def f89s6 : SS := ⟨[(0, (.ro (.list 93 (.st (.cons .str (.cons (.int .i64) (.cons (.int .i64) (.cons (.int .i64) .nil)))))))), (2, (.ro (.int .i64))), (7, (.ro (.int .i64))), (8, (.h 100)), (47, (.ro (.int .i64))), (48, (.ro (.int .i64)))], [(100, (.sl 9 .str))]⟩
def f89con (F : (List TCol) → Int → Int → Option Int) : Con := ⟨f89in, f89out, 3, 1, fun x => F x.1 x.2.1 x.2.2⟩
def f89ctx (k : Nat) (S89 : (List TCol) → Int → Int → Option Int) : Ctx := ⟨tyAt tys, conAt [(89, [f89con S89]), (141, [f141con (impl_colOk k)]), (142, [f142con (impl_isColName k)])], 85, fun _ => false⟩
theorem f89hc (k : Nat) (S89 : (List TCol) → Int → Int → Option Int) (h89 : FnOk Try.prog 89 (f89con S89)) : CtxOk Try.prog (f89ctx k S89) := ctxOk tys_ok mixed_ok (consOk_cons (h89) (consOk_cons (f141ok k) (consOk_cons (f142ok k) (consOk_nil))))
theorem f89okb (k : Nat) (S89 : (List TCol) → Int → Int → Option Int) (h89 : FnOk Try.prog 89 (f89con S89)) : FnOk Try.prog 89 (f89con (impl_colAfter.b k S89)) :=
  let hc := f89hc k S89 h89
  fnOk (fn := Try.f89) (code := bodyOf Try.f89) (res := [.tmp 6]) hc (by kernel_rfl) (by kernel_rfl) (by decide) (by kernel_rfl) (by kernel_rfl) (by kernel_rfl) (Nat.le_of_ble_eq_true (by kernel_rfl)) _
    (fun x => Snd.seq (by kernel_rfl) (Snd.seq (by kernel_rfl) (Snd.seq (by kernel_rfl) (Snd.seq (by kernel_rfl) (Snd.seq (by kernel_rfl) (Snd.exec hc _ _ _ _) (Snd.seq (by kernel_rfl) (Snd.block (id := 0) (by kernel_rfl) (Snd.loop' (by kernel_rfl) f89s6 (fun n x => impl_colAfter.l6 k S89 n x.1.1 x.1.2.1 x.1.2.2.1 x.1.2.2.2.2.1 x.1.2.2.2.2.2 x.2) _ (fun _ => rfl) (fun n6 => Snd.seq (by kernel_rfl) (Snd.seq (by kernel_rfl) (Snd.seq (by kernel_rfl) (Snd.exec hc _ _ _ _) (Snd.block (id := 1) (by kernel_rfl) (Snd.seq (by kernel_rfl) (Snd.seq (by kernel_rfl) (Snd.exec hc _ _ _ _) (Snd.seq (by kernel_rfl) (Snd.block (id := 2) (by kernel_rfl) (Snd.loop' (by kernel_rfl) f89s10 (fun n x => impl_colAfter.l10 k S89 (impl_colAfter.l6 k S89 n6) n x.1.1 x.1.2.1 x.1.2.2.1 x.1.2.2.2.2.1 x.1.2.2.2.2.2.1 x.1.2.2.2.2.2.2.2.1 x.1.2.2.2.2.2.2.2.2 x.2) _ (fun _ => rfl) (fun n10 => Snd.exec hc _ _ _ _) (fun n x => by kernel_rfl) k)) (Snd.exec hc _ _ _ _))) (Snd.exec hc _ _ _ _)))) (Snd.exec hc _ _ _ _)) (Snd.exec hc _ _ _ _)) (fun n x => by kernel_rfl) k)) (Snd.exec hc _ _ _ _))) (Snd.exec hc _ _ _ _)) (Snd.exec hc _ _ _ _)) (Snd.exec hc _ _ _ _)) (Snd.exec hc _ _ _ _))
    (fun x => by kernel_rfl)
theorem f89rec (k : Nat) : ∀ d, FnOk Try.prog 89 (f89con (impl_colAfter.d k d))
  | 0 => FnOk_none (fun _ => rfl)
  | d + 1 => let ih := f89rec k d
    f89okb k (impl_colAfter.d k d) ih
theorem f89ok (k : Nat) : FnOk Try.prog 89 (f89con (impl_colAfter k)) := (f89rec k k)

def f46in : SS := ⟨[(0, (.ro (.list 93 (.st (.cons .str (.cons (.int .i64) (.cons (.int .i64) (.cons (.int .i64) .nil))))))))], []⟩
def f46out : SS := ⟨[(0, (.ro .bool))], []⟩
def f46con (F : (List TCol) → Option Bool) : Con := ⟨f46in, f46out, 1, 1, fun x => F x⟩
def f46ctx (k : Nat) : Ctx := ⟨tyAt tys, conAt [(55, [f55con (impl_within k)]), (89, [f89con (impl_colAfter k)])], 33, fun _ => false⟩
theorem f46hc (k : Nat) : CtxOk Try.prog (f46ctx k) := ctxOk tys_ok mixed_ok (consOk_cons (f55ok k) (consOk_cons (f89ok k) (consOk_nil)))
theorem f46ok (k : Nat) : FnOk Try.prog 46 (f46con (impl_SchemaOk k)) :=
  let hc := f46hc k
  fnOk (fn := Try.f46) (code := bodyOf Try.f46) (res := [.tmp 2]) hc (by kernel_rfl) (by kernel_rfl) (by decide) (by kernel_rfl) (by kernel_rfl) (by kernel_rfl) (Nat.le_of_ble_eq_true (by kernel_rfl)) _
    (fun x => Snd.exec hc _ _ _ _)
    (fun x => by kernel_rfl)

def f157in : SS := ⟨[(0, (.p 0)), (1, (.ro (.int .i64))), (2, (.ro (.int .i64)))], [(0, (.obox (.st (.cons (.list 78 (.st (.cons (.int .i64) (.cons (.int .i64) (.cons (.int .i64) (.cons .str (.cons (.int .i64) .nil))))))) (.cons (.list 3 (.int .i64)) .nil))) (.agg (.cons (.ro (.list 78 (.st (.cons (.int .i64) (.cons (.int .i64) (.cons (.int .i64) (.cons .str (.cons (.int .i64) .nil)))))))) (.cons (.h 10) .nil))))), (10, (.sl 3 (.int .i64)))]⟩
def f157out : SS := ⟨[(0, (.ro (.int .i64)))], [(0, (.box (.st (.cons (.list 78 (.st (.cons (.int .i64) (.cons (.int .i64) (.cons (.int .i64) (.cons .str (.cons (.int .i64) .nil))))))) (.cons (.list 3 (.int .i64)) .nil))) (.agg (.cons (.ro (.list 78 (.st (.cons (.int .i64) (.cons (.int .i64) (.cons (.int .i64) (.cons .str (.cons (.int .i64) .nil)))))))) (.cons (.h 10) .nil))))), (10, (.sl 3 (.int .i64)))]⟩
def f157s5 : SS := ⟨[(0, (.p 0)), (2, (.ro (.int .i64))), (7, (.ro (.int .i64))), (37, (.ro (.int .i64))), (38, (.ro (.int .i64)))], [(0, (.box (.st (.cons (.list 78 (.st (.cons (.int .i64) (.cons (.int .i64) (.cons (.int .i64) (.cons .str (.cons (.int .i64) .nil))))))) (.cons (.list 3 (.int .i64)) .nil))) (.agg (.cons (.ro (.list 78 (.st (.cons (.int .i64) (.cons (.int .i64) (.cons (.int .i64) (.cons .str (.cons (.int .i64) .nil)))))))) (.cons (.h 10) .nil))))), (10, (.sl 3 (.int .i64)))]⟩
def f157con (F : Int → Int → (Bool × TTreeB) → (List Int) → Option (Int × TTreeB × (List Int))) : Con := ⟨f157in, f157out, 3, 1, fun x => F x.1.2.1 x.1.2.2 x.2.1 x.2.2⟩
def f157ctx (k : Nat) : Ctx := ⟨tyAt tys, conAt [(55, [f55con (impl_within k)])], 59, fun _ => false⟩
theorem f157hc (k : Nat) : CtxOk Try.prog (f157ctx k) := ctxOk tys_ok mixed_ok (consOk_cons (f55ok k) (consOk_nil))
theorem f157ok (k : Nat) : FnOk Try.prog 157 (f157con (impl_tree_find k)) :=
  let hc := f157hc k
  fnOk (fn := Try.f157) (code := bodyOf Try.f157) (res := [.tmp 6]) hc (by kernel_rfl) (by kernel_rfl) (by decide) (by kernel_rfl) (by kernel_rfl) (by kernel_rfl) (Nat.le_of_ble_eq_true (by kernel_rfl)) _
    (fun x => Snd.seq (by kernel_rfl) (Snd.seq (by kernel_rfl) (Snd.seq (by kernel_rfl) (Snd.seq (by kernel_rfl) (Snd.exec hc _ _ _ _) (Snd.seq (by kernel_rfl) (Snd.block (id := 0) (by kernel_rfl) (Snd.loop' (by kernel_rfl) f157s5 (fun n x => impl_tree_find.l5 k n x.1.2.1 x.1.2.2.1 x.1.2.2.2.1 x.1.2.2.2.2 x.2.1 x.2.2) _ (fun _ => rfl) (fun n5 => Snd.exec hc _ _ _ _) (fun n x => by kernel_rfl) k)) (Snd.exec hc _ _ _ _))) (Snd.exec hc _ _ _ _)) (Snd.exec hc _ _ _ _)) (Snd.exec hc _ _ _ _))
    (fun x => by kernel_rfl)

def f117in : SS := ⟨[(0, (.p 0)), (1, (.ro (.int .i64))), (2, (.ro (.int .i64))), (3, (.ro (.int .i64)))], [(0, (.obox (.st (.cons (.list 78 (.st (.cons (.int .i64) (.cons (.int .i64) (.cons (.int .i64) (.cons .str (.cons (.int .i64) .nil))))))) (.cons (.list 3 (.int .i64)) .nil))) (.agg (.cons (.ro (.list 78 (.st (.cons (.int .i64) (.cons (.int .i64) (.cons (.int .i64) (.cons .str (.cons (.int .i64) .nil)))))))) (.cons (.h 10) .nil))))), (10, (.sl 3 (.int .i64)))]⟩
def f117out : SS := ⟨[(0, (.h 100)), (1, (.ro .bool))], [(0, (.box (.st (.cons (.list 78 (.st (.cons (.int .i64) (.cons (.int .i64) (.cons (.int .i64) (.cons .str (.cons (.int .i64) .nil))))))) (.cons (.list 3 (.int .i64)) .nil))) (.agg (.cons (.ro (.list 78 (.st (.cons (.int .i64) (.cons (.int .i64) (.cons (.int .i64) (.cons .str (.cons (.int .i64) .nil)))))))) (.cons (.h 10) .nil))))), (10, (.sl 3 (.int .i64))), (100, (.sl 3 (.int .i64)))]⟩
def f117s7 : SS := ⟨[(0, (.p 0)), (11, (.h 100)), (12, (.ro (.int .i64))), (63, (.ro (.int .i64))), (64, (.ro (.int .i64)))], [(0, (.box (.st (.cons (.list 78 (.st (.cons (.int .i64) (.cons (.int .i64) (.cons (.int .i64) (.cons .str (.cons (.int .i64) .nil))))))) (.cons (.list 3 (.int .i64)) .nil))) (.agg (.cons (.ro (.list 78 (.st (.cons (.int .i64) (.cons (.int .i64) (.cons (.int .i64) (.cons .str (.cons (.int .i64) .nil)))))))) (.cons (.h 10) .nil))))), (10, (.sl 3 (.int .i64))), (100, (.sl 3 (.int .i64)))]⟩
def f117con (F : Int → Int → Int → (Bool × TTreeB) → (List Int) → Option ((Unit × Bool) × TTreeB × (List Int) × (List Int))) : Con := ⟨f117in, f117out, 4, 2, fun x => F x.1.2.1 x.1.2.2.1 x.1.2.2.2 x.2.1 x.2.2⟩
def f117ctx (k : Nat) : Ctx := ⟨tyAt tys, conAt [(157, [f157con (impl_tree_find k)])], 79, fun _ => false⟩
theorem f117hc (k : Nat) : CtxOk Try.prog (f117ctx k) := ctxOk tys_ok mixed_ok (consOk_cons (f157ok k) (consOk_nil))
theorem f117ok (k : Nat) : FnOk Try.prog 117 (f117con (impl_tree_parts k)) :=
  let hc := f117hc k
  fnOk (fn := Try.f117) (code := bodyOf Try.f117) (res := [.tmp 8, .tmp 9]) hc (by kernel_rfl) (by kernel_rfl) (by decide) (by kernel_rfl) (by kernel_rfl) (by kernel_rfl) (Nat.le_of_ble_eq_true (by kernel_rfl)) _
    (fun x => Snd.seq (by kernel_rfl) (Snd.seq (by kernel_rfl) (Snd.seq (by kernel_rfl) (Snd.seq (by kernel_rfl) (Snd.seq (by kernel_rfl) (Snd.seq (by kernel_rfl) (Snd.exec hc _ _ _ _) (Snd.seq (by kernel_rfl) (Snd.block (id := 0) (by kernel_rfl) (Snd.loop' (by kernel_rfl) f117s7 (fun n x => impl_tree_parts.l7 k n x.1.2.2.1 x.1.2.2.2.1 x.1.2.2.2.2 x.2.1 x.2.2.1 x.2.2.2) _ (fun _ => rfl) (fun n7 => Snd.exec hc _ _ _ _) (fun n x => by kernel_rfl) k)) (Snd.exec hc _ _ _ _))) (Snd.exec hc _ _ _ _)) (Snd.exec hc _ _ _ _)) (Snd.exec hc _ _ _ _)) (Snd.exec hc _ _ _ _)) (Snd.exec hc _ _ _ _))
    (fun x => by kernel_rfl)

def f158in : SS := ⟨[(0, (.p 0)), (1, (.ro (.int .i64))), (2, (.ro (.int .i64))), (3, (.ro (.int .i64)))], [(0, (.obox (.st (.cons (.list 78 (.st (.cons (.int .i64) (.cons (.int .i64) (.cons (.int .i64) (.cons .str (.cons (.int .i64) .nil))))))) (.cons (.list 3 (.int .i64)) .nil))) (.agg (.cons (.ro (.list 78 (.st (.cons (.int .i64) (.cons (.int .i64) (.cons (.int .i64) (.cons .str (.cons (.int .i64) .nil)))))))) (.cons (.h 10) .nil))))), (10, (.sl 3 (.int .i64)))]⟩
def f158out : SS := ⟨[(0, (.agg (.cons (.ro (.int .i64)) (.cons (.ro (.int .i64)) (.cons (.ro (.int .i64)) (.cons (.ro .str) (.cons (.ro (.int .i64)) .nil))))))), (1, (.ro .bool))], [(0, (.box (.st (.cons (.list 78 (.st (.cons (.int .i64) (.cons (.int .i64) (.cons (.int .i64) (.cons .str (.cons (.int .i64) .nil))))))) (.cons (.list 3 (.int .i64)) .nil))) (.agg (.cons (.ro (.list 78 (.st (.cons (.int .i64) (.cons (.int .i64) (.cons (.int .i64) (.cons .str (.cons (.int .i64) .nil)))))))) (.cons (.h 10) .nil))))), (10, (.sl 3 (.int .i64)))]⟩
def f158con (F : Int → Int → Int → (Bool × TTreeB) → (List Int) → Option ((TNode × Bool) × TTreeB × (List Int))) : Con := ⟨f158in, f158out, 4, 2, fun x => F x.1.2.1 x.1.2.2.1 x.1.2.2.2 x.2.1 x.2.2⟩
def f158ctx (k : Nat) : Ctx := ⟨tyAt tys, conAt [(157, [f157con (impl_tree_find k)])], 37, fun _ => false⟩
theorem f158hc (k : Nat) : CtxOk Try.prog (f158ctx k) := ctxOk tys_ok mixed_ok (consOk_cons (f157ok k) (consOk_nil))
theorem f158ok (k : Nat) : FnOk Try.prog 158 (f158con (impl_tree_part k)) :=
  let hc := f158hc k
  fnOk (fn := Try.f158) (code := bodyOf Try.f158) (res := [.cell 8 78, .tmp 9]) hc (by kernel_rfl) (by kernel_rfl) (by decide) (by kernel_rfl) (by kernel_rfl) (by kernel_rfl) (Nat.le_of_ble_eq_true (by kernel_rfl)) _
    (fun x => Snd.exec hc _ _ _ _)
    (fun x => by kernel_rfl)

def f159in : SS := ⟨[(0, (.p 0)), (1, (.ro (.int .i64))), (2, (.ro (.int .i64)))], [(0, (.obox (.st (.cons (.list 78 (.st (.cons (.int .i64) (.cons (.int .i64) (.cons (.int .i64) (.cons .str (.cons (.int .i64) .nil))))))) (.cons (.list 3 (.int .i64)) .nil))) (.agg (.cons (.ro (.list 78 (.st (.cons (.int .i64) (.cons (.int .i64) (.cons (.int .i64) (.cons .str (.cons (.int .i64) .nil)))))))) (.cons (.h 10) .nil))))), (10, (.sl 3 (.int .i64)))]⟩
def f159out : SS := ⟨[(0, (.ro (.int .i64))), (1, (.ro .bool))], [(0, (.box (.st (.cons (.list 78 (.st (.cons (.int .i64) (.cons (.int .i64) (.cons (.int .i64) (.cons .str (.cons (.int .i64) .nil))))))) (.cons (.list 3 (.int .i64)) .nil))) (.agg (.cons (.ro (.list 78 (.st (.cons (.int .i64) (.cons (.int .i64) (.cons (.int .i64) (.cons .str (.cons (.int .i64) .nil)))))))) (.cons (.h 10) .nil))))), (10, (.sl 3 (.int .i64)))]⟩
def f159con (F : Int → Int → (Bool × TTreeB) → (List Int) → Option ((Int × Bool) × TTreeB × (List Int))) : Con := ⟨f159in, f159out, 3, 2, fun x => F x.1.2.1 x.1.2.2 x.2.1 x.2.2⟩
def f159ctx (k : Nat) : Ctx := ⟨tyAt tys, conAt [(157, [f157con (impl_tree_find k)])], 45, fun _ => false⟩
theorem f159hc (k : Nat) : CtxOk Try.prog (f159ctx k) := ctxOk tys_ok mixed_ok (consOk_cons (f157ok k) (consOk_nil))
theorem f159ok (k : Nat) : FnOk Try.prog 159 (f159con (impl_tree_num k)) :=
  let hc := f159hc k
  fnOk (fn := Try.f159) (code := bodyOf Try.f159) (res := [.tmp 6, .tmp 7]) hc (by kernel_rfl) (by kernel_rfl) (by decide) (by kernel_rfl) (by kernel_rfl) (by kernel_rfl) (Nat.le_of_ble_eq_true (by kernel_rfl)) _
    (fun x => Snd.exec hc _ _ _ _)
    (fun x => by kernel_rfl)

def f118in : SS := ⟨[(0, (.p 0)), (1, (.ro (.int .i64))), (2, (.ro .bool))], [(0, (.obox (.st (.cons (.list 78 (.st (.cons (.int .i64) (.cons (.int .i64) (.cons (.int .i64) (.cons .str (.cons (.int .i64) .nil))))))) (.cons (.list 3 (.int .i64)) .nil))) (.agg (.cons (.ro (.list 78 (.st (.cons (.int .i64) (.cons (.int .i64) (.cons (.int .i64) (.cons .str (.cons (.int .i64) .nil)))))))) (.cons (.h 10) .nil))))), (10, (.sl 3 (.int .i64)))]⟩
def f118out : SS := ⟨[(0, (.agg (.cons (.ro .str) (.cons (.ro (.int .i64)) (.cons (.ro (.int .i64)) (.cons (.ro (.int .i64)) .nil)))))), (1, (.ro .bool))], [(0, (.box (.st (.cons (.list 78 (.st (.cons (.int .i64) (.cons (.int .i64) (.cons (.int .i64) (.cons .str (.cons (.int .i64) .nil))))))) (.cons (.list 3 (.int .i64)) .nil))) (.agg (.cons (.ro (.list 78 (.st (.cons (.int .i64) (.cons (.int .i64) (.cons (.int .i64) (.cons .str (.cons (.int .i64) .nil)))))))) (.cons (.h 10) .nil))))), (10, (.sl 3 (.int .i64)))]⟩
def f118s11 : SS := ⟨[(6, (.p 100)), (9, (.ro .bool)), (11, (.ro .bool)), (13, (.ro .bool)), (16, (.p 101))], [(0, (.box (.st (.cons (.list 78 (.st (.cons (.int .i64) (.cons (.int .i64) (.cons (.int .i64) (.cons .str (.cons (.int .i64) .nil))))))) (.cons (.list 3 (.int .i64)) .nil))) (.agg (.cons (.ro (.list 78 (.st (.cons (.int .i64) (.cons (.int .i64) (.cons (.int .i64) (.cons .str (.cons (.int .i64) .nil)))))))) (.cons (.h 10) .nil))))), (10, (.sl 3 (.int .i64))), (100, (.box (.st (.cons .str (.cons (.int .i64) (.cons (.int .i64) (.cons (.int .i64) .nil))))) (.agg (.cons (.ro .str) (.cons (.ro (.int .i64)) (.cons (.ro (.int .i64)) (.cons (.ro (.int .i64)) .nil))))))), (101, (.box (.st (.cons .str (.cons (.int .i64) (.cons (.int .i64) (.cons (.int .i64) .nil))))) (.agg (.cons (.ro .str) (.cons (.ro (.int .i64)) (.cons (.ro (.int .i64)) (.cons (.ro (.int .i64)) .nil)))))))]⟩
def f118s8 : SS := ⟨[(0, (.p 0)), (1, (.ro (.int .i64))), (6, (.p 100)), (9, (.ro .bool)), (11, (.ro .bool)), (13, (.ro .bool)), (14, (.ro (.int .i64))), (15, (.ro .bool)), (16, (.p 101))], [(0, (.box (.st (.cons (.list 78 (.st (.cons (.int .i64) (.cons (.int .i64) (.cons (.int .i64) (.cons .str (.cons (.int .i64) .nil))))))) (.cons (.list 3 (.int .i64)) .nil))) (.agg (.cons (.ro (.list 78 (.st (.cons (.int .i64) (.cons (.int .i64) (.cons (.int .i64) (.cons .str (.cons (.int .i64) .nil)))))))) (.cons (.h 10) .nil))))), (10, (.sl 3 (.int .i64))), (100, (.box (.st (.cons .str (.cons (.int .i64) (.cons (.int .i64) (.cons (.int .i64) .nil))))) (.agg (.cons (.ro .str) (.cons (.ro (.int .i64)) (.cons (.ro (.int .i64)) (.cons (.ro (.int .i64)) .nil))))))), (101, (.box (.st (.cons .str (.cons (.int .i64) (.cons (.int .i64) (.cons (.int .i64) .nil))))) (.agg (.cons (.ro .str) (.cons (.ro (.int .i64)) (.cons (.ro (.int .i64)) (.cons (.ro (.int .i64)) .nil)))))))]⟩
def f118con (F : Int → Bool → (Bool × TTreeB) → (List Int) → Option ((TCol × Bool) × TTreeB × (List Int))) : Con := ⟨f118in, f118out, 3, 2, fun x => F x.1.2.1 x.1.2.2 x.2.1 x.2.2⟩
def f118ctx (k : Nat) : Ctx := ⟨tyAt tys, conAt [(157, [f157con (impl_tree_find k)]), (158, [f158con (impl_tree_part k)]), (159, [f159con (impl_tree_num k)])], 70, fun s => Nat.beq s 56⟩
theorem f118hc (k : Nat) : CtxOk Try.prog (f118ctx k) := ctxOk tys_ok mixed_ok (consOk_cons (f157ok k) (consOk_cons (f158ok k) (consOk_cons (f159ok k) (consOk_nil))))
theorem f118ok (k : Nat) : FnOk Try.prog 118 (f118con (impl_tree_col k)) :=
  let hc := f118hc k
  fnOk (fn := Try.f118) (code := bodyOf Try.f118) (res := [.cell 6 93, .tmp 7]) hc (by kernel_rfl) (by kernel_rfl) (by decide) (by kernel_rfl) (by kernel_rfl) (by kernel_rfl) (Nat.le_of_ble_eq_true (by kernel_rfl)) _
    (fun x => Snd.seq (by kernel_rfl) (Snd.seq (by kernel_rfl) (Snd.seq (by kernel_rfl) (Snd.seq (by kernel_rfl) (Snd.seq (by kernel_rfl) (Snd.seq (by kernel_rfl) (Snd.seq (by kernel_rfl) (Snd.cut (Snd.seq (by kernel_rfl) (Snd.cut (Snd.exec hc _ _ _ _) ⟨f118s11, fun x => impl_tree_col.c11 k x.1.2.1 x.1.2.2.1 x.1.2.2.2.1 x.2.1 x.2.2.1 x.2.2.2.1 x.2.2.2.2⟩ (fun x => by kernel_rfl)) (Snd.exec hc _ _ _ _)) ⟨f118s8, fun x => impl_tree_col.c8 k x.1.2.1 x.1.2.2.2.1 x.1.2.2.2.2.1 x.1.2.2.2.2.2.1 x.1.2.2.2.2.2.2.1 x.1.2.2.2.2.2.2.2.1 x.2.1 x.2.2.1 x.2.2.2.1 x.2.2.2.2⟩ (fun x => by kernel_rfl)) (Snd.exec hc _ _ _ _)) (Snd.exec hc _ _ _ _)) (Snd.exec hc _ _ _ _)) (Snd.exec hc _ _ _ _)) (Snd.exec hc _ _ _ _)) (Snd.exec hc _ _ _ _)) (Snd.exec hc _ _ _ _))
    (fun x => by kernel_rfl)

def f74in : SS := ⟨[(0, (.p 0)), (1, (.ro (.int .i64)))], [(0, (.obox (.st (.cons (.list 78 (.st (.cons (.int .i64) (.cons (.int .i64) (.cons (.int .i64) (.cons .str (.cons (.int .i64) .nil))))))) (.cons (.list 3 (.int .i64)) .nil))) (.agg (.cons (.ro (.list 78 (.st (.cons (.int .i64) (.cons (.int .i64) (.cons (.int .i64) (.cons .str (.cons (.int .i64) .nil)))))))) (.cons (.h 10) .nil))))), (10, (.sl 3 (.int .i64)))]⟩
def f74out : SS := ⟨[(0, (.h 100)), (1, (.ro .bool))], [(0, (.box (.st (.cons (.list 78 (.st (.cons (.int .i64) (.cons (.int .i64) (.cons (.int .i64) (.cons .str (.cons (.int .i64) .nil))))))) (.cons (.list 3 (.int .i64)) .nil))) (.agg (.cons (.ro (.list 78 (.st (.cons (.int .i64) (.cons (.int .i64) (.cons (.int .i64) (.cons .str (.cons (.int .i64) .nil)))))))) (.cons (.h 10) .nil))))), (10, (.sl 3 (.int .i64))), (100, (.sl 93 (.st (.cons .str (.cons (.int .i64) (.cons (.int .i64) (.cons (.int .i64) .nil)))))))]⟩
def f74s6 : SS := ⟨[(0, (.p 0)), (8, (.h 100)), (22, (.h 101)), (23, (.ro (.int .i64))), (24, (.ro (.int .i64)))], [(0, (.box (.st (.cons (.list 78 (.st (.cons (.int .i64) (.cons (.int .i64) (.cons (.int .i64) (.cons .str (.cons (.int .i64) .nil))))))) (.cons (.list 3 (.int .i64)) .nil))) (.agg (.cons (.ro (.list 78 (.st (.cons (.int .i64) (.cons (.int .i64) (.cons (.int .i64) (.cons .str (.cons (.int .i64) .nil)))))))) (.cons (.h 10) .nil))))), (10, (.sl 3 (.int .i64))), (100, (.sl 93 (.st (.cons .str (.cons (.int .i64) (.cons (.int .i64) (.cons (.int .i64) .nil))))))), (101, (.sl 3 (.int .i64)))]⟩
def f74con (F : Int → (Bool × TTreeB) → (List Int) → Option ((Unit × Bool) × TTreeB × (List Int) × (List TCol))) : Con := ⟨f74in, f74out, 2, 2, fun x => F x.1.2 x.2.1 x.2.2⟩
def f74ctx (k : Nat) : Ctx := ⟨tyAt tys, conAt [(46, [f46con (impl_SchemaOk k)]), (117, [f117con (impl_tree_parts k)]), (118, [f118con (impl_tree_col k)])], 62, fun _ => false⟩
theorem f74hc (k : Nat) : CtxOk Try.prog (f74ctx k) := ctxOk tys_ok mixed_ok (consOk_cons (f46ok k) (consOk_cons (f117ok k) (consOk_cons (f118ok k) (consOk_nil))))
theorem f74ok (k : Nat) : FnOk Try.prog 74 (f74con (impl_tree_schema k)) :=
  let hc := f74hc k
  fnOk (fn := Try.f74) (code := bodyOf Try.f74) (res := [.tmp 4, .tmp 5]) hc (by kernel_rfl) (by kernel_rfl) (by decide) (by kernel_rfl) (by kernel_rfl) (by kernel_rfl) (Nat.le_of_ble_eq_true (by kernel_rfl)) _
    (fun x => Snd.seq (by kernel_rfl) (Snd.seq (by kernel_rfl) (Snd.seq (by kernel_rfl) (Snd.seq (by kernel_rfl) (Snd.seq (by kernel_rfl) (Snd.exec hc _ _ _ _) (Snd.seq (by kernel_rfl) (Snd.block (id := 0) (by kernel_rfl) (Snd.loop' (by kernel_rfl) f74s6 (fun n x => impl_tree_schema.l6 k n x.1.2.2.2.1 x.1.2.2.2.2 x.2.1 x.2.2.1 x.2.2.2.1 x.2.2.2.2) _ (fun _ => rfl) (fun n6 => Snd.exec hc _ _ _ _) (fun n x => by kernel_rfl) k)) (Snd.exec hc _ _ _ _))) (Snd.exec hc _ _ _ _)) (Snd.exec hc _ _ _ _)) (Snd.exec hc _ _ _ _)) (Snd.exec hc _ _ _ _))
    (fun x => by kernel_rfl)

def f32in : SS := ⟨[(0, (.ro (.list 78 (.st (.cons (.int .i64) (.cons (.int .i64) (.cons (.int .i64) (.cons .str (.cons (.int .i64) .nil))))))))), (1, (.ro (.int .i64)))], []⟩
def f32out : SS := ⟨[(0, (.h 100)), (1, (.ro .bool))], [(100, (.sl 93 (.st (.cons .str (.cons (.int .i64) (.cons (.int .i64) (.cons (.int .i64) .nil)))))))]⟩
def f32con (F : (List TNode) → Int → Option ((Unit × Bool) × (List TCol))) : Con := ⟨f32in, f32out, 2, 2, fun x => F x.1 x.2⟩
def f32ctx (k : Nat) : Ctx := ⟨tyAt tys, conAt [(51, [f51con (impl_treeOf k)]), (74, [f74con (impl_tree_schema k)])], 20, fun _ => false⟩
theorem f32hc (k : Nat) : CtxOk Try.prog (f32ctx k) := ctxOk tys_ok mixed_ok (consOk_cons (f51ok k) (consOk_cons (f74ok k) (consOk_nil)))
theorem f32ok (k : Nat) : FnOk Try.prog 32 (f32con (impl_SchemaOf k)) :=
  let hc := f32hc k
  fnOk (fn := Try.f32) (code := bodyOf Try.f32) (res := [.tmp 4, .tmp 5]) hc (by kernel_rfl) (by kernel_rfl) (by decide) (by kernel_rfl) (by kernel_rfl) (by kernel_rfl) (Nat.le_of_ble_eq_true (by kernel_rfl)) _
    (fun x => Snd.exec hc _ _ _ _)
    (fun x => by kernel_rfl)

def f50in : SS := ⟨[(0, (.ro (.list 5 (.int .u8))))], []⟩
def f50out : SS := ⟨[(0, (.p 100))], [(100, (.box (.st (.cons (.list 5 (.int .u8)) (.cons (.int .i64) (.cons (.int .i64) .nil)))) (.agg (.cons (.ro (.list 5 (.int .u8))) (.cons (.ro (.int .i64)) (.cons (.ro (.int .i64)) .nil))))))]⟩
def f50s3 : SS := ⟨[(0, (.ro (.list 5 (.int .u8)))), (3, (.ro (.int .i64))), (4, (.ro (.int .i64)))], []⟩
def f50con (F : (List Int) → Option (Unit × TL1Cur)) : Con := ⟨f50in, f50out, 1, 1, fun x => F x⟩
def f50ctx (k : Nat) : Ctx := ⟨tyAt tys, conAt [], 32, fun _ => false⟩
theorem f50hc (k : Nat) : CtxOk Try.prog (f50ctx k) := ctxOk tys_ok mixed_ok (consOk_nil)
theorem f50ok (k : Nat) : FnOk Try.prog 50 (f50con (spec_l1New k)) :=
  let hc := f50hc k
  fnOk (fn := Try.f50) (code := bodyOf Try.f50) (res := [.tmp 2]) hc (by kernel_rfl) (by kernel_rfl) (by decide) (by kernel_rfl) (by kernel_rfl) (by kernel_rfl) (Nat.le_of_ble_eq_true (by kernel_rfl)) _
    (fun x => Snd.seq (by kernel_rfl) (Snd.seq (by kernel_rfl) (Snd.seq (by kernel_rfl) (Snd.exec hc _ _ _ _) (Snd.seq (by kernel_rfl) (Snd.block (id := 0) (by kernel_rfl) (Snd.loop' (by kernel_rfl) f50s3 (fun n x => spec_l1New.l3 k n x.1 x.2.1 x.2.2) _ (fun _ => rfl) (fun n3 => Snd.exec hc _ _ _ _) (fun n x => by kernel_rfl) k)) (Snd.exec hc _ _ _ _))) (Snd.exec hc _ _ _ _)) (Snd.exec hc _ _ _ _))
    (fun x => by kernel_rfl)

def f144in : SS := ⟨[(0, (.p 0))], [(0, (.box (.st (.cons (.list 5 (.int .u8)) (.cons (.int .i64) (.cons (.int .i64) .nil)))) (.agg (.cons (.ro (.list 5 (.int .u8))) (.cons (.ro (.int .i64)) (.cons (.ro (.int .i64)) .nil))))))]⟩
def f144out : SS := ⟨[(0, (.ro (.int .i64)))], [(0, (.box (.st (.cons (.list 5 (.int .u8)) (.cons (.int .i64) (.cons (.int .i64) .nil)))) (.agg (.cons (.ro (.list 5 (.int .u8))) (.cons (.ro (.int .i64)) (.cons (.ro (.int .i64)) .nil))))))]⟩
def f144s6 : SS := ⟨[(3, (.ro (.int .i64)))], [(0, (.box (.st (.cons (.list 5 (.int .u8)) (.cons (.int .i64) (.cons (.int .i64) .nil)))) (.agg (.cons (.ro (.list 5 (.int .u8))) (.cons (.ro (.int .i64)) (.cons (.ro (.int .i64)) .nil))))))]⟩
def f144con (F : TL1Cur → Option (Int × TL1Cur)) : Con := ⟨f144in, f144out, 1, 1, fun x => F x.2⟩
def f144ctx (k : Nat) : Ctx := ⟨tyAt tys, conAt [], 58, fun _ => false⟩
theorem f144hc (k : Nat) : CtxOk Try.prog (f144ctx k) := ctxOk tys_ok mixed_ok (consOk_nil)
theorem f144ok (k : Nat) : FnOk Try.prog 144 (f144con (spec_l1Byte k)) :=
  let hc := f144hc k
  fnOk (fn := Try.f144) (code := bodyOf Try.f144) (res := [.tmp 2]) hc (by kernel_rfl) (by kernel_rfl) (by decide) (by kernel_rfl) (by kernel_rfl) (by kernel_rfl) (Nat.le_of_ble_eq_true (by kernel_rfl)) _
    (fun x => Snd.seq (by kernel_rfl) (Snd.seq (by kernel_rfl) (Snd.seq (by kernel_rfl) (Snd.seq (by kernel_rfl) (Snd.cut (Snd.exec hc _ _ _ _) ⟨f144s6, fun x => spec_l1Byte.c6 k x.1 x.2⟩ (fun x => by kernel_rfl)) (Snd.exec hc _ _ _ _)) (Snd.exec hc _ _ _ _)) (Snd.exec hc _ _ _ _)) (Snd.exec hc _ _ _ _))
    (fun x => by kernel_rfl)

def f91in : SS := ⟨[(0, (.p 0)), (1, (.ro (.int .i64)))], [(0, (.box (.st (.cons (.list 5 (.int .u8)) (.cons (.int .i64) (.cons (.int .i64) .nil)))) (.agg (.cons (.ro (.list 5 (.int .u8))) (.cons (.ro (.int .i64)) (.cons (.ro (.int .i64)) .nil))))))]⟩
def f91out : SS := ⟨[(0, (.ro (.int .i64)))], [(0, (.box (.st (.cons (.list 5 (.int .u8)) (.cons (.int .i64) (.cons (.int .i64) .nil)))) (.agg (.cons (.ro (.list 5 (.int .u8))) (.cons (.ro (.int .i64)) (.cons (.ro (.int .i64)) .nil))))))]⟩
def f91con (F : Int → TL1Cur → Option (Int × TL1Cur)) : Con := ⟨f91in, f91out, 2, 1, fun x => F x.1.2 x.2⟩
def f91ctx (k : Nat) : Ctx := ⟨tyAt tys, conAt [(144, [f144con (spec_l1Byte k)])], 37, fun _ => false⟩
theorem f91hc (k : Nat) : CtxOk Try.prog (f91ctx k) := ctxOk tys_ok mixed_ok (consOk_cons (f144ok k) (consOk_nil))
theorem f91ok (k : Nat) : FnOk Try.prog 91 (f91con (spec_l1Below k)) :=
  let hc := f91hc k
  fnOk (fn := Try.f91) (code := bodyOf Try.f91) (res := [.tmp 4]) hc (by kernel_rfl) (by kernel_rfl) (by decide) (by kernel_rfl) (by kernel_rfl) (by kernel_rfl) (Nat.le_of_ble_eq_true (by kernel_rfl)) _
    (fun x => Snd.exec hc _ _ _ _)
    (fun x => by kernel_rfl)

def f53in : SS := ⟨[(0, (.ro (.int .i64))), (1, (.ro (.int .i64))), (2, (.ro (.int .i64)))], []⟩
def f53out : SS := ⟨[(0, (.ro .bool))], []⟩
def f53con (F : Int → Int → Int → Option Bool) : Con := ⟨f53in, f53out, 3, 1, fun x => F x.1 x.2.1 x.2.2⟩
def f53ctx (k : Nat) : Ctx := ⟨tyAt tys, conAt [], 15, fun _ => false⟩
theorem f53hc (k : Nat) : CtxOk Try.prog (f53ctx k) := ctxOk tys_ok mixed_ok (consOk_nil)
theorem f53ok (k : Nat) : FnOk Try.prog 53 (f53con (spec_l1In k)) :=
  let hc := f53hc k
  fnOk (fn := Try.f53) (code := bodyOf Try.f53) (res := [.tmp 6]) hc (by kernel_rfl) (by kernel_rfl) (by decide) (by kernel_rfl) (by kernel_rfl) (by kernel_rfl) (Nat.le_of_ble_eq_true (by kernel_rfl)) _
    (fun x => Snd.exec hc _ _ _ _)
    (fun x => by kernel_rfl)

def f126in : SS := ⟨[(0, (.ro (.int .i64)))], []⟩
def f126out : SS := ⟨[(0, (.ro .bool))], []⟩
def f126s7 : SS := ⟨[(4, (.ro .bool))], []⟩
def f126con (F : Int → Option Bool) : Con := ⟨f126in, f126out, 1, 1, fun x => F x⟩
def f126ctx (k : Nat) : Ctx := ⟨tyAt tys, conAt [], 10, fun _ => false⟩
theorem f126hc (k : Nat) : CtxOk Try.prog (f126ctx k) := ctxOk tys_ok mixed_ok (consOk_nil)
theorem f126ok (k : Nat) : FnOk Try.prog 126 (f126con (spec_l5Type k)) :=
  let hc := f126hc k
  fnOk (fn := Try.f126) (code := bodyOf Try.f126) (res := [.tmp 2]) hc (by kernel_rfl) (by kernel_rfl) (by decide) (by kernel_rfl) (by kernel_rfl) (by kernel_rfl) (Nat.le_of_ble_eq_true (by kernel_rfl)) _
    (fun x => Snd.seq (by kernel_rfl) (Snd.seq (by kernel_rfl) (Snd.exec hc _ _ _ _) (Snd.seq (by kernel_rfl) (Snd.block (id := 0) (by kernel_rfl) (Snd.seq (by kernel_rfl) (Snd.cut (Snd.exec hc _ _ _ _) ⟨f126s7, fun x => spec_l5Type.c7 k x⟩ (fun x => by kernel_rfl)) (Snd.exec hc _ _ _ _))) (Snd.exec hc _ _ _ _))) (Snd.exec hc _ _ _ _))
    (fun x => by kernel_rfl)

def f140in : SS := ⟨[(0, (.ro .str))], []⟩
def f140out : SS := ⟨[(0, (.ro .bool))], []⟩
def f140s4 : SS := ⟨[(0, (.ro .str)), (3, (.ro (.int .i64)))], []⟩
def f140con (F : ByteArray → Option Bool) : Con := ⟨f140in, f140out, 1, 1, fun x => F x⟩
def f140ctx (k : Nat) : Ctx := ⟨tyAt tys, conAt [(53, [f53con (spec_l1In k)])], 24, fun _ => false⟩
theorem f140hc (k : Nat) : CtxOk Try.prog (f140ctx k) := ctxOk tys_ok mixed_ok (consOk_cons (f53ok k) (consOk_nil))
theorem f140ok (k : Nat) : FnOk Try.prog 140 (f140con (spec_l5Name k)) :=
  let hc := f140hc k
  fnOk (fn := Try.f140) (code := bodyOf Try.f140) (res := [.tmp 2]) hc (by kernel_rfl) (by kernel_rfl) (by decide) (by kernel_rfl) (by kernel_rfl) (by kernel_rfl) (Nat.le_of_ble_eq_true (by kernel_rfl)) _
    (fun x => Snd.seq (by kernel_rfl) (Snd.seq (by kernel_rfl) (Snd.seq (by kernel_rfl) (Snd.exec hc _ _ _ _) (Snd.seq (by kernel_rfl) (Snd.block (id := 0) (by kernel_rfl) (Snd.loop' (by kernel_rfl) f140s4 (fun n x => spec_l5Name.l4 k n x.1 x.2) _ (fun _ => rfl) (fun n4 => Snd.exec hc _ _ _ _) (fun n x => by kernel_rfl) k)) (Snd.exec hc _ _ _ _))) (Snd.exec hc _ _ _ _)) (Snd.exec hc _ _ _ _))
    (fun x => by kernel_rfl)

def f88in : SS := ⟨[(0, (.ro (.list 93 (.st (.cons .str (.cons (.int .i64) (.cons (.int .i64) (.cons (.int .i64) .nil)))))))), (1, (.ro (.int .i64))), (2, (.ro (.int .i64)))], []⟩
def f88out : SS := ⟨[(0, (.ro (.int .i64)))], []⟩
def f88s20 : SS := ⟨[(0, (.ro (.list 93 (.st (.cons .str (.cons (.int .i64) (.cons (.int .i64) (.cons (.int .i64) .nil)))))))), (2, (.ro (.int .i64))), (7, (.p 100)), (8, (.ro (.int .i64))), (9, (.h 101)), (10, (.ro (.int .i64))), (11, (.ro (.int .i64)))], [(100, (.box (.st (.cons .str (.cons (.int .i64) (.cons (.int .i64) (.cons (.int .i64) .nil))))) (.agg (.cons (.ro .str) (.cons (.ro (.int .i64)) (.cons (.ro (.int .i64)) (.cons (.ro (.int .i64)) .nil))))))), (101, (.sl 9 .str))]⟩
def f88s15 : SS := ⟨[(0, (.ro (.list 93 (.st (.cons .str (.cons (.int .i64) (.cons (.int .i64) (.cons (.int .i64) .nil)))))))), (2, (.ro (.int .i64))), (7, (.p 100)), (8, (.ro (.int .i64))), (9, (.h 101)), (10, (.ro (.int .i64)))], [(100, (.box (.st (.cons .str (.cons (.int .i64) (.cons (.int .i64) (.cons (.int .i64) .nil))))) (.agg (.cons (.ro .str) (.cons (.ro (.int .i64)) (.cons (.ro (.int .i64)) (.cons (.ro (.int .i64)) .nil))))))), (101, (.sl 9 .str))]⟩
def f88con (F : (List TCol) → Int → Int → Option Int) : Con := ⟨f88in, f88out, 3, 1, fun x => F x.1 x.2.1 x.2.2⟩
def f88ctx (k : Nat) (S88 : (List TCol) → Int → Int → Option Int) : Ctx := ⟨tyAt tys, conAt [(53, [f53con (spec_l1In k)]), (88, [f88con S88]), (126, [f126con (spec_l5Type k)]), (140, [f140con (spec_l5Name k)])], 119, fun _ => false⟩
theorem f88hc (k : Nat) (S88 : (List TCol) → Int → Int → Option Int) (h88 : FnOk Try.prog 88 (f88con S88)) : CtxOk Try.prog (f88ctx k S88) := ctxOk tys_ok mixed_ok (consOk_cons (f53ok k) (consOk_cons (h88) (consOk_cons (f126ok k) (consOk_cons (f140ok k) (consOk_nil)))))
theorem f88okb (k : Nat) (S88 : (List TCol) → Int → Int → Option Int) (h88 : FnOk Try.prog 88 (f88con S88)) : FnOk Try.prog 88 (f88con (spec_l5Check.b k S88)) :=
  let hc := f88hc k S88 h88
  fnOk (fn := Try.f88) (code := bodyOf Try.f88) (res := [.tmp 6]) hc (by kernel_rfl) (by kernel_rfl) (by decide) (by kernel_rfl) (by kernel_rfl) (by kernel_rfl) (Nat.le_of_ble_eq_true (by kernel_rfl)) _
    (fun x => Snd.seq (by kernel_rfl) (Snd.seq (by kernel_rfl) (Snd.seq (by kernel_rfl) (Snd.seq (by kernel_rfl) (Snd.seq (by kernel_rfl) (Snd.seq (by kernel_rfl) (Snd.seq (by kernel_rfl) (Snd.seq (by kernel_rfl) (Snd.seq (by kernel_rfl) (Snd.exec hc _ _ _ _) (Snd.seq (by kernel_rfl) (Snd.block (id := 0) (by kernel_rfl) (Snd.loop' (by kernel_rfl) f88s15 (fun n x => spec_l5Check.l15 k S88 n x.1.1 x.1.2.1 x.1.2.2.2.1 x.1.2.2.2.2.2 x.2.1 x.2.2) _ (fun _ => rfl) (fun n15 => Snd.seq (by kernel_rfl) (Snd.seq (by kernel_rfl) (Snd.exec hc _ _ _ _) (Snd.block (id := 1) (by kernel_rfl) (Snd.seq (by kernel_rfl) (Snd.seq (by kernel_rfl) (Snd.exec hc _ _ _ _) (Snd.seq (by kernel_rfl) (Snd.block (id := 2) (by kernel_rfl) (Snd.loop' (by kernel_rfl) f88s20 (fun n x => spec_l5Check.l20 k S88 (spec_l5Check.l15 k S88 n15) n x.1.1 x.1.2.1 x.1.2.2.2.1 x.1.2.2.2.2.2.1 x.1.2.2.2.2.2.2 x.2.1 x.2.2) _ (fun _ => rfl) (fun n20 => Snd.exec hc _ _ _ _) (fun n x => by kernel_rfl) k)) (Snd.exec hc _ _ _ _))) (Snd.exec hc _ _ _ _)))) (Snd.exec hc _ _ _ _)) (fun n x => by kernel_rfl) k)) (Snd.exec hc _ _ _ _))) (Snd.exec hc _ _ _ _)) (Snd.exec hc _ _ _ _)) (Snd.exec hc _ _ _ _)) (Snd.exec hc _ _ _ _)) (Snd.exec hc _ _ _ _)) (Snd.exec hc _ _ _ _)) (Snd.exec hc _ _ _ _)) (Snd.exec hc _ _ _ _))
    (fun x => by kernel_rfl)
theorem f88rec (k : Nat) : ∀ d, FnOk Try.prog 88 (f88con (spec_l5Check.d k d))
  | 0 => FnOk_none (fun _ => rfl)
  | d + 1 => let ih := f88rec k d
    f88okb k (spec_l5Check.d k d) ih
theorem f88ok (k : Nat) : FnOk Try.prog 88 (f88con (spec_l5Check k)) := (f88rec k k)

def f45in : SS := ⟨[(0, (.ro (.list 93 (.st (.cons .str (.cons (.int .i64) (.cons (.int .i64) (.cons (.int .i64) .nil))))))))], []⟩
def f45out : SS := ⟨[(0, (.ro .bool))], []⟩
def f45con (F : (List TCol) → Option Bool) : Con := ⟨f45in, f45out, 1, 1, fun x => F x⟩
def f45ctx (k : Nat) : Ctx := ⟨tyAt tys, conAt [(53, [f53con (spec_l1In k)]), (88, [f88con (spec_l5Check k)])], 13, fun _ => false⟩
theorem f45hc (k : Nat) : CtxOk Try.prog (f45ctx k) := ctxOk tys_ok mixed_ok (consOk_cons (f53ok k) (consOk_cons (f88ok k) (consOk_nil)))
theorem f45ok (k : Nat) : FnOk Try.prog 45 (f45con (spec_SchemaOk k)) :=
  let hc := f45hc k
  fnOk (fn := Try.f45) (code := bodyOf Try.f45) (res := [.tmp 2]) hc (by kernel_rfl) (by kernel_rfl) (by decide) (by kernel_rfl) (by kernel_rfl) (by kernel_rfl) (Nat.le_of_ble_eq_true (by kernel_rfl)) _
    (fun x => Snd.exec hc _ _ _ _)
    (fun x => by kernel_rfl)

def f92in : SS := ⟨[(0, (.p 0)), (1, (.ro (.list 3 (.int .i64))))], [(0, (.box (.st (.cons (.list 5 (.int .u8)) (.cons (.int .i64) (.cons (.int .i64) .nil)))) (.agg (.cons (.ro (.list 5 (.int .u8))) (.cons (.ro (.int .i64)) (.cons (.ro (.int .i64)) .nil))))))]⟩
def f92out : SS := ⟨[(0, (.ro (.int .i64)))], [(0, (.box (.st (.cons (.list 5 (.int .u8)) (.cons (.int .i64) (.cons (.int .i64) .nil)))) (.agg (.cons (.ro (.list 5 (.int .u8))) (.cons (.ro (.int .i64)) (.cons (.ro (.int .i64)) .nil))))))]⟩
def f92con (F : (List Int) → TL1Cur → Option (Int × TL1Cur)) : Con := ⟨f92in, f92out, 2, 1, fun x => F x.1.2 x.2⟩
def f92ctx (k : Nat) : Ctx := ⟨tyAt tys, conAt [(91, [f91con (spec_l1Below k)])], 12, fun _ => false⟩
theorem f92hc (k : Nat) : CtxOk Try.prog (f92ctx k) := ctxOk tys_ok mixed_ok (consOk_cons (f91ok k) (consOk_nil))
theorem f92ok (k : Nat) : FnOk Try.prog 92 (f92con (spec_l1PickInt k)) :=
  let hc := f92hc k
  fnOk (fn := Try.f92) (code := bodyOf Try.f92) (res := [.tmp 4]) hc (by kernel_rfl) (by kernel_rfl) (by decide) (by kernel_rfl) (by kernel_rfl) (by kernel_rfl) (Nat.le_of_ble_eq_true (by kernel_rfl)) _
    (fun x => Snd.exec hc _ _ _ _)
    (fun x => by kernel_rfl)

def f120in : SS := ⟨[(0, (.p 0)), (1, (.ro (.int .i64)))], [(0, (.box (.st (.cons (.list 5 (.int .u8)) (.cons (.int .i64) (.cons (.int .i64) .nil)))) (.agg (.cons (.ro (.list 5 (.int .u8))) (.cons (.ro (.int .i64)) (.cons (.ro (.int .i64)) .nil))))))]⟩
def f120out : SS := ⟨[(0, (.ro .bool))], [(0, (.box (.st (.cons (.list 5 (.int .u8)) (.cons (.int .i64) (.cons (.int .i64) .nil)))) (.agg (.cons (.ro (.list 5 (.int .u8))) (.cons (.ro (.int .i64)) (.cons (.ro (.int .i64)) .nil))))))]⟩
def f120con (F : Int → TL1Cur → Option (Bool × TL1Cur)) : Con := ⟨f120in, f120out, 2, 1, fun x => F x.1.2 x.2⟩
def f120ctx (k : Nat) : Ctx := ⟨tyAt tys, conAt [(91, [f91con (spec_l1Below k)])], 9, fun _ => false⟩
theorem f120hc (k : Nat) : CtxOk Try.prog (f120ctx k) := ctxOk tys_ok mixed_ok (consOk_cons (f91ok k) (consOk_nil))
theorem f120ok (k : Nat) : FnOk Try.prog 120 (f120con (spec_l1Once k)) :=
  let hc := f120hc k
  fnOk (fn := Try.f120) (code := bodyOf Try.f120) (res := [.tmp 4]) hc (by kernel_rfl) (by kernel_rfl) (by decide) (by kernel_rfl) (by kernel_rfl) (by kernel_rfl) (Nat.le_of_ble_eq_true (by kernel_rfl)) _
    (fun x => Snd.exec hc _ _ _ _)
    (fun x => by kernel_rfl)

def f172in : SS := ⟨[(0, (.p 0)), (1, (.ro .str)), (2, (.ro (.int .i64))), (3, (.h 10))], [(0, (.box (.st (.cons (.list 5 (.int .u8)) (.cons (.int .i64) (.cons (.int .i64) .nil)))) (.agg (.cons (.ro (.list 5 (.int .u8))) (.cons (.ro (.int .i64)) (.cons (.ro (.int .i64)) .nil)))))), (10, (.sl 93 (.st (.cons .str (.cons (.int .i64) (.cons (.int .i64) (.cons (.int .i64) .nil)))))))]⟩
def f172out : SS := ⟨[(0, (.h 100))], [(0, (.box (.st (.cons (.list 5 (.int .u8)) (.cons (.int .i64) (.cons (.int .i64) .nil)))) (.agg (.cons (.ro (.list 5 (.int .u8))) (.cons (.ro (.int .i64)) (.cons (.ro (.int .i64)) .nil)))))), (100, (.sl 93 (.st (.cons .str (.cons (.int .i64) (.cons (.int .i64) (.cons (.int .i64) .nil)))))))]⟩
def f172s13 : SS := ⟨[(0, (.p 0)), (2, (.ro (.int .i64))), (3, (.h 100)), (11, (.ro (.int .i64))), (12, (.ro (.int .i64)))], [(0, (.box (.st (.cons (.list 5 (.int .u8)) (.cons (.int .i64) (.cons (.int .i64) .nil)))) (.agg (.cons (.ro (.list 5 (.int .u8))) (.cons (.ro (.int .i64)) (.cons (.ro (.int .i64)) .nil)))))), (100, (.sl 93 (.st (.cons .str (.cons (.int .i64) (.cons (.int .i64) (.cons (.int .i64) .nil)))))))]⟩
def f172s12 : SS := ⟨[(0, (.p 0)), (2, (.ro (.int .i64))), (3, (.h 100)), (11, (.ro (.int .i64)))], [(0, (.box (.st (.cons (.list 5 (.int .u8)) (.cons (.int .i64) (.cons (.int .i64) .nil)))) (.agg (.cons (.ro (.list 5 (.int .u8))) (.cons (.ro (.int .i64)) (.cons (.ro (.int .i64)) .nil)))))), (100, (.sl 93 (.st (.cons .str (.cons (.int .i64) (.cons (.int .i64) (.cons (.int .i64) .nil)))))))]⟩
def f172s4 : SS := ⟨[(0, (.p 0)), (1, (.ro .str)), (2, (.ro (.int .i64))), (3, (.h 10)), (9, (.p 100))], [(0, (.box (.st (.cons (.list 5 (.int .u8)) (.cons (.int .i64) (.cons (.int .i64) .nil)))) (.agg (.cons (.ro (.list 5 (.int .u8))) (.cons (.ro (.int .i64)) (.cons (.ro (.int .i64)) .nil)))))), (10, (.sl 93 (.st (.cons .str (.cons (.int .i64) (.cons (.int .i64) (.cons (.int .i64) .nil))))))), (100, (.box (.st (.cons .str (.cons (.int .i64) (.cons (.int .i64) (.cons (.int .i64) .nil))))) (.agg (.cons (.ro .str) (.cons (.ro (.int .i64)) (.cons (.ro (.int .i64)) (.cons (.ro (.int .i64)) .nil)))))))]⟩
def f172con (F : ByteArray → Int → TL1Cur → (List TCol) → Option (Unit × TL1Cur × (List TCol))) : Con := ⟨f172in, f172out, 4, 1, fun x => F x.1.2.1 x.1.2.2.1 x.2.1 x.2.2⟩
def f172ctx (k : Nat) (S172 : ByteArray → Int → TL1Cur → (List TCol) → Option (Unit × TL1Cur × (List TCol))) : Ctx := ⟨tyAt tys, conAt [(91, [f91con (spec_l1Below k)]), (92, [f92con (spec_l1PickInt k)]), (120, [f120con (spec_l1Once k)]), (172, [f172con S172])], 75, fun s => Nat.beq s 22 || Nat.beq s 25⟩
theorem f172hc (k : Nat) (S172 : ByteArray → Int → TL1Cur → (List TCol) → Option (Unit × TL1Cur × (List TCol))) (h172 : FnOk Try.prog 172 (f172con S172)) : CtxOk Try.prog (f172ctx k S172) := ctxOk tys_ok mixed_ok (consOk_cons (f91ok k) (consOk_cons (f92ok k) (consOk_cons (f120ok k) (consOk_cons (h172) (consOk_nil)))))
theorem f172okb (k : Nat) (S172 : ByteArray → Int → TL1Cur → (List TCol) → Option (Unit × TL1Cur × (List TCol))) (h172 : FnOk Try.prog 172 (f172con S172)) : FnOk Try.prog 172 (f172con (spec_l5DrawCol.b k S172)) :=
  let hc := f172hc k S172 h172
  fnOk (fn := Try.f172) (code := bodyOf Try.f172) (res := [.tmp 8]) hc (by kernel_rfl) (by kernel_rfl) (by decide) (by kernel_rfl) (by kernel_rfl) (by kernel_rfl) (Nat.le_of_ble_eq_true (by kernel_rfl)) _
    (fun x => Snd.seq (by kernel_rfl) (Snd.seq (by kernel_rfl) (Snd.seq (by kernel_rfl) (Snd.cut (Snd.seq (by kernel_rfl) (Snd.seq (by kernel_rfl) (Snd.seq (by kernel_rfl) (Snd.seq (by kernel_rfl) (Snd.seq (by kernel_rfl) (Snd.seq (by kernel_rfl) (Snd.cut (Snd.seq (by kernel_rfl) (Snd.exec hc _ _ _ _) (Snd.seq (by kernel_rfl) (Snd.block (id := 0) (by kernel_rfl) (Snd.loop' (by kernel_rfl) f172s13 (fun n x => spec_l5DrawCol.l13 k S172 n x.1.2.1 x.1.2.2.2.1 x.1.2.2.2.2 x.2.1 x.2.2) _ (fun _ => rfl) (fun n13 => Snd.exec hc _ _ _ _) (fun n x => by kernel_rfl) k)) (Snd.exec hc _ _ _ _))) ⟨f172s12, fun x => spec_l5DrawCol.c12 k S172 x.1.2.1 x.1.2.2.2 x.2.1 x.2.2⟩ (fun x => by kernel_rfl)) (Snd.exec hc _ _ _ _)) (Snd.exec hc _ _ _ _)) (Snd.exec hc _ _ _ _)) (Snd.exec hc _ _ _ _)) (Snd.exec hc _ _ _ _)) (Snd.exec hc _ _ _ _)) ⟨f172s4, fun x => spec_l5DrawCol.c4 k S172 x.1.2.1 x.1.2.2.1 x.2.1 x.2.2.1 x.2.2.2⟩ (fun x => by kernel_rfl)) (Snd.exec hc _ _ _ _)) (Snd.exec hc _ _ _ _)) (Snd.exec hc _ _ _ _))
    (fun x => by kernel_rfl)
theorem f172rec (k : Nat) : ∀ d, FnOk Try.prog 172 (f172con (spec_l5DrawCol.d k d))
  | 0 => FnOk_none (fun _ => rfl)
  | d + 1 => let ih := f172rec k d
    f172okb k (spec_l5DrawCol.d k d) ih
theorem f172ok (k : Nat) : FnOk Try.prog 172 (f172con (spec_l5DrawCol k)) := (f172rec k k)

def f135in : SS := ⟨[(0, (.p 0))], [(0, (.box (.st (.cons (.list 5 (.int .u8)) (.cons (.int .i64) (.cons (.int .i64) .nil)))) (.agg (.cons (.ro (.list 5 (.int .u8))) (.cons (.ro (.int .i64)) (.cons (.ro (.int .i64)) .nil))))))]⟩
def f135out : SS := ⟨[(0, (.h 100))], [(0, (.box (.st (.cons (.list 5 (.int .u8)) (.cons (.int .i64) (.cons (.int .i64) .nil)))) (.agg (.cons (.ro (.list 5 (.int .u8))) (.cons (.ro (.int .i64)) (.cons (.ro (.int .i64)) .nil)))))), (100, (.sl 93 (.st (.cons .str (.cons (.int .i64) (.cons (.int .i64) (.cons (.int .i64) .nil)))))))]⟩
def f135s2 : SS := ⟨[(0, (.p 0)), (3, (.ro (.int .i64)))], [(0, (.box (.st (.cons (.list 5 (.int .u8)) (.cons (.int .i64) (.cons (.int .i64) .nil)))) (.agg (.cons (.ro (.list 5 (.int .u8))) (.cons (.ro (.int .i64)) (.cons (.ro (.int .i64)) .nil))))))]⟩
def f135con (F : TL1Cur → Option (Unit × TL1Cur × (List TCol))) : Con := ⟨f135in, f135out, 1, 1, fun x => F x.2⟩
def f135ctx (k : Nat) : Ctx := ⟨tyAt tys, conAt [(45, [f45con (spec_SchemaOk k)]), (91, [f91con (spec_l1Below k)]), (172, [f172con (spec_l5DrawCol k)])], 21, fun _ => false⟩
theorem f135hc (k : Nat) : CtxOk Try.prog (f135ctx k) := ctxOk tys_ok mixed_ok (consOk_cons (f45ok k) (consOk_cons (f91ok k) (consOk_cons (f172ok k) (consOk_nil))))
theorem f135ok (k : Nat) : FnOk Try.prog 135 (f135con (spec_l5DrawRight k)) :=
  let hc := f135hc k
  fnOk (fn := Try.f135) (code := bodyOf Try.f135) (res := [.tmp 2]) hc (by kernel_rfl) (by kernel_rfl) (by decide) (by kernel_rfl) (by kernel_rfl) (by kernel_rfl) (Nat.le_of_ble_eq_true (by kernel_rfl)) _
    (fun x => Snd.seq (by kernel_rfl) (Snd.seq (by kernel_rfl) (Snd.exec hc _ _ _ _) (Snd.seq (by kernel_rfl) (Snd.block (id := 0) (by kernel_rfl) (Snd.loop' (by kernel_rfl) f135s2 (fun n x => spec_l5DrawRight.l2 k n x.1.2 x.2) _ (fun _ => rfl) (fun n2 => Snd.exec hc _ _ _ _) (fun n x => by kernel_rfl) k)) (Snd.exec hc _ _ _ _))) (Snd.exec hc _ _ _ _))
    (fun x => by kernel_rfl)

def f136in : SS := ⟨[(0, (.p 0)), (1, (.ro (.list 9 .str)))], [(0, (.box (.st (.cons (.list 5 (.int .u8)) (.cons (.int .i64) (.cons (.int .i64) .nil)))) (.agg (.cons (.ro (.list 5 (.int .u8))) (.cons (.ro (.int .i64)) (.cons (.ro (.int .i64)) .nil))))))]⟩
def f136out : SS := ⟨[(0, (.ro .str))], [(0, (.box (.st (.cons (.list 5 (.int .u8)) (.cons (.int .i64) (.cons (.int .i64) .nil)))) (.agg (.cons (.ro (.list 5 (.int .u8))) (.cons (.ro (.int .i64)) (.cons (.ro (.int .i64)) .nil))))))]⟩
def f136con (F : (List ByteArray) → TL1Cur → Option (ByteArray × TL1Cur)) : Con := ⟨f136in, f136out, 2, 1, fun x => F x.1.2 x.2⟩
def f136ctx (k : Nat) : Ctx := ⟨tyAt tys, conAt [(91, [f91con (spec_l1Below k)])], 12, fun _ => false⟩
theorem f136hc (k : Nat) : CtxOk Try.prog (f136ctx k) := ctxOk tys_ok mixed_ok (consOk_cons (f91ok k) (consOk_nil))
theorem f136ok (k : Nat) : FnOk Try.prog 136 (f136con (spec_l1Pick k)) :=
  let hc := f136hc k
  fnOk (fn := Try.f136) (code := bodyOf Try.f136) (res := [.tmp 4]) hc (by kernel_rfl) (by kernel_rfl) (by decide) (by kernel_rfl) (by kernel_rfl) (by kernel_rfl) (Nat.le_of_ble_eq_true (by kernel_rfl)) _
    (fun x => Snd.exec hc _ _ _ _)
    (fun x => by kernel_rfl)

def f85in : SS := ⟨[(0, (.p 0))], [(0, (.box (.st (.cons (.list 5 (.int .u8)) (.cons (.int .i64) (.cons (.int .i64) .nil)))) (.agg (.cons (.ro (.list 5 (.int .u8))) (.cons (.ro (.int .i64)) (.cons (.ro (.int .i64)) .nil))))))]⟩
def f85out : SS := ⟨[(0, (.h 100))], [(0, (.box (.st (.cons (.list 5 (.int .u8)) (.cons (.int .i64) (.cons (.int .i64) .nil)))) (.agg (.cons (.ro (.list 5 (.int .u8))) (.cons (.ro (.int .i64)) (.cons (.ro (.int .i64)) .nil)))))), (100, (.sl 93 (.st (.cons .str (.cons (.int .i64) (.cons (.int .i64) (.cons (.int .i64) .nil)))))))]⟩
def f85s22 : SS := ⟨[(3, (.h 100))], [(0, (.box (.st (.cons (.list 5 (.int .u8)) (.cons (.int .i64) (.cons (.int .i64) .nil)))) (.agg (.cons (.ro (.list 5 (.int .u8))) (.cons (.ro (.int .i64)) (.cons (.ro (.int .i64)) .nil)))))), (100, (.sl 93 (.st (.cons .str (.cons (.int .i64) (.cons (.int .i64) (.cons (.int .i64) .nil)))))))]⟩
def f85d9 : SS := ⟨[(0, (.p 0)), (3, (.h 100)), (4, (.ro (.int .i64)))], [(0, (.box (.st (.cons (.list 5 (.int .u8)) (.cons (.int .i64) (.cons (.int .i64) .nil)))) (.agg (.cons (.ro (.list 5 (.int .u8))) (.cons (.ro (.int .i64)) (.cons (.ro (.int .i64)) .nil)))))), (100, (.sl 93 (.st (.cons .str (.cons (.int .i64) (.cons (.int .i64) (.cons (.int .i64) .nil)))))))]⟩
def f85s18 : SS := ⟨[(3, (.h 100)), (5, (.ro (.int .i64))), (6, (.ro (.int .i64)))], [(0, (.box (.st (.cons (.list 5 (.int .u8)) (.cons (.int .i64) (.cons (.int .i64) .nil)))) (.agg (.cons (.ro (.list 5 (.int .u8))) (.cons (.ro (.int .i64)) (.cons (.ro (.int .i64)) .nil)))))), (100, (.sl 93 (.st (.cons .str (.cons (.int .i64) (.cons (.int .i64) (.cons (.int .i64) .nil)))))))]⟩
def f85con (F : TL1Cur → Option (Unit × TL1Cur × (List TCol))) : Con := ⟨f85in, f85out, 1, 1, fun x => F x.2⟩
def f85ctx (k : Nat) : Ctx := ⟨tyAt tys, conAt [(91, [f91con (spec_l1Below k)]), (135, [f135con (spec_l5DrawRight k)]), (136, [f136con (spec_l1Pick k)])], 85, fun _ => false⟩
theorem f85hc (k : Nat) : CtxOk Try.prog (f85ctx k) := ctxOk tys_ok mixed_ok (consOk_cons (f91ok k) (consOk_cons (f135ok k) (consOk_cons (f136ok k) (consOk_nil))))
theorem f85ok (k : Nat) : FnOk Try.prog 85 (f85con (spec_l5DrawSchema k)) :=
  let hc := f85hc k
  fnOk (fn := Try.f85) (code := bodyOf Try.f85) (res := [.tmp 2]) hc (by kernel_rfl) (by kernel_rfl) (by decide) (by kernel_rfl) (by kernel_rfl) (by kernel_rfl) (Nat.le_of_ble_eq_true (by kernel_rfl)) _
    (fun x => Snd.seq (by kernel_rfl) (Snd.seq (by kernel_rfl) (Snd.seq (by kernel_rfl) (Snd.seq (by kernel_rfl) (Snd.cut (Snd.exec hc _ _ _ _) ⟨f85s22, fun x => spec_l5DrawSchema.c22 k x.2.1 x.2.2⟩ (fun x => by kernel_rfl)) (Snd.seq (by kernel_rfl) (Snd.block (id := 0) (by kernel_rfl) (Snd.seq (by kernel_rfl) (Snd.cond (x := .tmp 15) (by kernel_rfl) (Snd.exec hc _ _ _ _) (Snd.seq (by kernel_rfl) (Snd.cond (x := .tmp 23) (by kernel_rfl) (Snd.exec hc _ _ _ _) (Snd.seq (by kernel_rfl) (Snd.cond (x := .tmp 32) (by kernel_rfl) (Snd.fork hc (id := 9) (by kernel_rfl) ⟨f85d9, fun x => spec_l5DrawSchema.d9 k x.1.2.2 x.2.1 x.2.2⟩ [[0, 1, 2, 3, 4, 5, 8, 6, 7, 9, 10, 11, 12, 13], [0, 1, 2, 3, 4, 5, 8, 9, 6, 7, 10, 11, 12, 13]] (by kernel_rfl) (ords_cons (fun x => by kernel_rfl) (ords_cons (fun x => by kernel_rfl) (ords_nil)))) (Snd.seq (by kernel_rfl) (Snd.cond (x := .tmp 47) (by kernel_rfl) (Snd.exec hc _ _ _ _) (Snd.seq (by kernel_rfl) (Snd.cond (x := .tmp 56) (by kernel_rfl) (Snd.exec hc _ _ _ _) (Snd.seq (by kernel_rfl) (Snd.cond (x := .tmp 62) (by kernel_rfl) (Snd.seq (by kernel_rfl) (Snd.seq (by kernel_rfl) (Snd.seq (by kernel_rfl) (Snd.exec hc _ _ _ _) (Snd.seq (by kernel_rfl) (Snd.block (id := 1) (by kernel_rfl) (Snd.loop' (by kernel_rfl) f85s18 (fun n x => spec_l5DrawSchema.l18 k n x.1.2.1 x.1.2.2 x.2.1 x.2.2) _ (fun _ => rfl) (fun n18 => Snd.exec hc _ _ _ _) (fun n x => by kernel_rfl) k)) (Snd.exec hc _ _ _ _))) (Snd.exec hc _ _ _ _)) (Snd.exec hc _ _ _ _)) (Snd.exec hc _ _ _ _)) (Snd.exec hc _ _ _ _))) (Snd.exec hc _ _ _ _))) (Snd.exec hc _ _ _ _))) (Snd.exec hc _ _ _ _))) (Snd.exec hc _ _ _ _))) (Snd.exec hc _ _ _ _))) (Snd.exec hc _ _ _ _))) (Snd.exec hc _ _ _ _)) (Snd.exec hc _ _ _ _)) (Snd.exec hc _ _ _ _))
    (fun x => by kernel_rfl)

def f43in : SS := ⟨[(0, (.ro (.list 5 (.int .u8))))], []⟩
def f43out : SS := ⟨[(0, (.h 100))], [(100, (.sl 93 (.st (.cons .str (.cons (.int .i64) (.cons (.int .i64) (.cons (.int .i64) .nil)))))))]⟩
def f43con (F : (List Int) → Option (Unit × (List TCol))) : Con := ⟨f43in, f43out, 1, 1, fun x => F x⟩
def f43ctx (k : Nat) : Ctx := ⟨tyAt tys, conAt [(50, [f50con (spec_l1New k)]), (85, [f85con (spec_l5DrawSchema k)])], 6, fun _ => false⟩
theorem f43hc (k : Nat) : CtxOk Try.prog (f43ctx k) := ctxOk tys_ok mixed_ok (consOk_cons (f50ok k) (consOk_cons (f85ok k) (consOk_nil)))
theorem f43ok (k : Nat) : FnOk Try.prog 43 (f43con (spec_DrawSchemaTree k)) :=
  let hc := f43hc k
  fnOk (fn := Try.f43) (code := bodyOf Try.f43) (res := [.tmp 2]) hc (by kernel_rfl) (by kernel_rfl) (by decide) (by kernel_rfl) (by kernel_rfl) (by kernel_rfl) (Nat.le_of_ble_eq_true (by kernel_rfl)) _
    (fun x => Snd.exec hc _ _ _ _)
    (fun x => by kernel_rfl)

def f86in : SS := ⟨[(0, (.ro (.int .i64))), (1, (.ro (.list 24 (.list 78 (.st (.cons (.int .i64) (.cons (.int .i64) (.cons (.int .i64) (.cons .str (.cons (.int .i64) .nil))))))))))], []⟩
def f86out : SS := ⟨[(0, (.h 100))], [(100, (.sl 78 (.st (.cons (.int .i64) (.cons (.int .i64) (.cons (.int .i64) (.cons .str (.cons (.int .i64) .nil))))))))]⟩
def f86s3 : SS := ⟨[(5, (.h 100)), (13, (.ro (.list 24 (.list 78 (.st (.cons (.int .i64) (.cons (.int .i64) (.cons (.int .i64) (.cons .str (.cons (.int .i64) .nil)))))))))), (14, (.ro (.int .i64))), (15, (.ro (.int .i64)))], [(100, (.sl 78 (.st (.cons (.int .i64) (.cons (.int .i64) (.cons (.int .i64) (.cons .str (.cons (.int .i64) .nil))))))))]⟩
def f86con (F : Int → (List (List TNode)) → Option (Unit × (List TNode))) : Con := ⟨f86in, f86out, 2, 1, fun x => F x.1 x.2⟩
def f86ctx (k : Nat) : Ctx := ⟨tyAt tys, conAt [], 24, fun _ => false⟩
theorem f86hc (k : Nat) : CtxOk Try.prog (f86ctx k) := ctxOk tys_ok mixed_ok (consOk_nil)
theorem f86ok (k : Nat) : FnOk Try.prog 86 (f86con (impl_structNode k)) :=
  let hc := f86hc k
  fnOk (fn := Try.f86) (code := bodyOf Try.f86) (res := [.tmp 4]) hc (by kernel_rfl) (by kernel_rfl) (by decide) (by kernel_rfl) (by kernel_rfl) (by kernel_rfl) (Nat.le_of_ble_eq_true (by kernel_rfl)) _
    (fun x => Snd.seq (by kernel_rfl) (Snd.seq (by kernel_rfl) (Snd.seq (by kernel_rfl) (Snd.exec hc _ _ _ _) (Snd.seq (by kernel_rfl) (Snd.block (id := 0) (by kernel_rfl) (Snd.loop' (by kernel_rfl) f86s3 (fun n x => impl_structNode.l3 k n x.1.2.1 x.1.2.2.1 x.1.2.2.2 x.2) _ (fun _ => rfl) (fun n3 => Snd.exec hc _ _ _ _) (fun n x => by kernel_rfl) k)) (Snd.exec hc _ _ _ _))) (Snd.exec hc _ _ _ _)) (Snd.exec hc _ _ _ _))
    (fun x => by kernel_rfl)

def f137in : SS := ⟨[(0, (.ro (.int .i64))), (1, (.ro (.int .i64)))], []⟩
def f137out : SS := ⟨[(0, (.agg (.cons (.ro (.int .i64)) (.cons (.ro (.int .i64)) (.cons (.ro (.int .i64)) (.cons (.ro .str) (.cons (.ro (.int .i64)) .nil)))))))], []⟩
def f137con (F : Int → Int → Option (TNode)) : Con := ⟨f137in, f137out, 2, 1, fun x => F x.1 x.2⟩
def f137ctx (k : Nat) : Ctx := ⟨tyAt tys, conAt [], 8, fun _ => false⟩
theorem f137hc (k : Nat) : CtxOk Try.prog (f137ctx k) := ctxOk tys_ok mixed_ok (consOk_nil)
theorem f137ok (k : Nat) : FnOk Try.prog 137 (f137con (impl_intNode k)) :=
  let hc := f137hc k
  fnOk (fn := Try.f137) (code := bodyOf Try.f137) (res := [.cell 4 78]) hc (by kernel_rfl) (by kernel_rfl) (by decide) (by kernel_rfl) (by kernel_rfl) (by kernel_rfl) (Nat.le_of_ble_eq_true (by kernel_rfl)) _
    (fun x => Snd.exec hc _ _ _ _)
    (fun x => by kernel_rfl)

def f138in : SS := ⟨[(0, (.ro (.int .i64))), (1, (.ro .str))], []⟩
def f138out : SS := ⟨[(0, (.agg (.cons (.ro (.int .i64)) (.cons (.ro (.int .i64)) (.cons (.ro (.int .i64)) (.cons (.ro .str) (.cons (.ro (.int .i64)) .nil)))))))], []⟩
def f138con (F : Int → ByteArray → Option (TNode)) : Con := ⟨f138in, f138out, 2, 1, fun x => F x.1 x.2⟩
def f138ctx (k : Nat) : Ctx := ⟨tyAt tys, conAt [], 8, fun _ => false⟩
theorem f138hc (k : Nat) : CtxOk Try.prog (f138ctx k) := ctxOk tys_ok mixed_ok (consOk_nil)
theorem f138ok (k : Nat) : FnOk Try.prog 138 (f138con (impl_textNode k)) :=
  let hc := f138hc k
  fnOk (fn := Try.f138) (code := bodyOf Try.f138) (res := [.cell 4 78]) hc (by kernel_rfl) (by kernel_rfl) (by decide) (by kernel_rfl) (by kernel_rfl) (by kernel_rfl) (Nat.le_of_ble_eq_true (by kernel_rfl)) _
    (fun x => Snd.exec hc _ _ _ _)
    (fun x => by kernel_rfl)

def f139in : SS := ⟨[(0, (.ro (.int .i64))), (1, (.ro (.int .i64))), (2, (.ro (.list 24 (.list 78 (.st (.cons (.int .i64) (.cons (.int .i64) (.cons (.int .i64) (.cons .str (.cons (.int .i64) .nil))))))))))], []⟩
def f139out : SS := ⟨[(0, (.h 100))], [(100, (.sl 78 (.st (.cons (.int .i64) (.cons (.int .i64) (.cons (.int .i64) (.cons .str (.cons (.int .i64) .nil))))))))]⟩
def f139s5 : SS := ⟨[(7, (.h 100)), (22, (.ro (.list 24 (.list 78 (.st (.cons (.int .i64) (.cons (.int .i64) (.cons (.int .i64) (.cons .str (.cons (.int .i64) .nil)))))))))), (23, (.ro (.int .i64))), (24, (.ro (.int .i64)))], [(100, (.sl 78 (.st (.cons (.int .i64) (.cons (.int .i64) (.cons (.int .i64) (.cons .str (.cons (.int .i64) .nil))))))))]⟩
def f139s4 : SS := ⟨[(2, (.ro (.list 24 (.list 78 (.st (.cons (.int .i64) (.cons (.int .i64) (.cons (.int .i64) (.cons .str (.cons (.int .i64) .nil)))))))))), (7, (.h 100))], [(100, (.sl 78 (.st (.cons (.int .i64) (.cons (.int .i64) (.cons (.int .i64) (.cons .str (.cons (.int .i64) .nil))))))))]⟩
def f139con (F : Int → Int → (List (List TNode)) → Option (Unit × (List TNode))) : Con := ⟨f139in, f139out, 3, 1, fun x => F x.1 x.2.1 x.2.2⟩
def f139ctx (k : Nat) : Ctx := ⟨tyAt tys, conAt [], 33, fun _ => false⟩
theorem f139hc (k : Nat) : CtxOk Try.prog (f139ctx k) := ctxOk tys_ok mixed_ok (consOk_nil)
theorem f139ok (k : Nat) : FnOk Try.prog 139 (f139con (impl_listNode k)) :=
  let hc := f139hc k
  fnOk (fn := Try.f139) (code := bodyOf Try.f139) (res := [.tmp 6]) hc (by kernel_rfl) (by kernel_rfl) (by decide) (by kernel_rfl) (by kernel_rfl) (by kernel_rfl) (Nat.le_of_ble_eq_true (by kernel_rfl)) _
    (fun x => Snd.seq (by kernel_rfl) (Snd.seq (by kernel_rfl) (Snd.seq (by kernel_rfl) (Snd.cut (Snd.seq (by kernel_rfl) (Snd.exec hc _ _ _ _) (Snd.seq (by kernel_rfl) (Snd.block (id := 0) (by kernel_rfl) (Snd.loop' (by kernel_rfl) f139s5 (fun n x => impl_listNode.l5 k n x.1.2.1 x.1.2.2.1 x.1.2.2.2 x.2) _ (fun _ => rfl) (fun n5 => Snd.exec hc _ _ _ _) (fun n x => by kernel_rfl) k)) (Snd.exec hc _ _ _ _))) ⟨f139s4, fun x => impl_listNode.c4 k x.1.1 x.2⟩ (fun x => by kernel_rfl)) (Snd.exec hc _ _ _ _)) (Snd.exec hc _ _ _ _)) (Snd.exec hc _ _ _ _))
    (fun x => by kernel_rfl)

def f87in : SS := ⟨[(0, (.ro (.list 93 (.st (.cons .str (.cons (.int .i64) (.cons (.int .i64) (.cons (.int .i64) .nil))))))))], []⟩
def f87out : SS := ⟨[(0, (.h 100))], [(100, (.sl 78 (.st (.cons (.int .i64) (.cons (.int .i64) (.cons (.int .i64) (.cons .str (.cons (.int .i64) .nil))))))))]⟩
def f87s13 : SS := ⟨[(3, (.h 100)), (6, (.h 101)), (8, (.ro (.list 93 (.st (.cons .str (.cons (.int .i64) (.cons (.int .i64) (.cons (.int .i64) .nil)))))))), (9, (.ro (.int .i64))), (10, (.ro (.int .i64)))], [(100, (.sl 24 (.list 78 (.st (.cons (.int .i64) (.cons (.int .i64) (.cons (.int .i64) (.cons .str (.cons (.int .i64) .nil))))))))), (101, (.sl 24 (.list 78 (.st (.cons (.int .i64) (.cons (.int .i64) (.cons (.int .i64) (.cons .str (.cons (.int .i64) .nil)))))))))]⟩
def f87s10 : SS := ⟨[(3, (.h 100)), (5, (.p 101)), (6, (.h 102)), (8, (.ro (.list 93 (.st (.cons .str (.cons (.int .i64) (.cons (.int .i64) (.cons (.int .i64) .nil)))))))), (9, (.ro (.int .i64))), (10, (.ro (.int .i64)))], [(100, (.sl 24 (.list 78 (.st (.cons (.int .i64) (.cons (.int .i64) (.cons (.int .i64) (.cons .str (.cons (.int .i64) .nil))))))))), (101, (.box (.st (.cons .str (.cons (.int .i64) (.cons (.int .i64) (.cons (.int .i64) .nil))))) (.agg (.cons (.ro .str) (.cons (.ro (.int .i64)) (.cons (.ro (.int .i64)) (.cons (.ro (.int .i64)) .nil))))))), (102, (.sl 24 (.list 78 (.st (.cons (.int .i64) (.cons (.int .i64) (.cons (.int .i64) (.cons .str (.cons (.int .i64) .nil)))))))))]⟩
def f87s8 : SS := ⟨[(3, (.h 100)), (4, (.ro (.int .i64))), (5, (.p 101)), (6, (.h 102)), (8, (.ro (.list 93 (.st (.cons .str (.cons (.int .i64) (.cons (.int .i64) (.cons (.int .i64) .nil)))))))), (9, (.ro (.int .i64))), (10, (.ro (.int .i64)))], [(100, (.sl 24 (.list 78 (.st (.cons (.int .i64) (.cons (.int .i64) (.cons (.int .i64) (.cons .str (.cons (.int .i64) .nil))))))))), (101, (.box (.st (.cons .str (.cons (.int .i64) (.cons (.int .i64) (.cons (.int .i64) .nil))))) (.agg (.cons (.ro .str) (.cons (.ro (.int .i64)) (.cons (.ro (.int .i64)) (.cons (.ro (.int .i64)) .nil))))))), (102, (.sl 24 (.list 78 (.st (.cons (.int .i64) (.cons (.int .i64) (.cons (.int .i64) (.cons .str (.cons (.int .i64) .nil)))))))))]⟩
def f87s3 : SS := ⟨[(3, (.h 100)), (8, (.ro (.list 93 (.st (.cons .str (.cons (.int .i64) (.cons (.int .i64) (.cons (.int .i64) .nil)))))))), (9, (.ro (.int .i64))), (10, (.ro (.int .i64)))], [(100, (.sl 24 (.list 78 (.st (.cons (.int .i64) (.cons (.int .i64) (.cons (.int .i64) (.cons .str (.cons (.int .i64) .nil)))))))))]⟩
def f87con (F : (List TCol) → Option (Unit × (List TNode))) : Con := ⟨f87in, f87out, 1, 1, fun x => F x⟩
def f87ctx (k : Nat) : Ctx := ⟨tyAt tys, conAt [(86, [f86con (impl_structNode k)]), (137, [f137con (impl_intNode k)]), (138, [f138con (impl_textNode k)]), (139, [f139con (impl_listNode k)])], 60, fun _ => false⟩
theorem f87hc (k : Nat) : CtxOk Try.prog (f87ctx k) := ctxOk tys_ok mixed_ok (consOk_cons (f86ok k) (consOk_cons (f137ok k) (consOk_cons (f138ok k) (consOk_cons (f139ok k) (consOk_nil)))))
theorem f87ok (k : Nat) : FnOk Try.prog 87 (f87con (impl_schemaNodes k)) :=
  let hc := f87hc k
  fnOk (fn := Try.f87) (code := bodyOf Try.f87) (res := [.tmp 2]) hc (by kernel_rfl) (by kernel_rfl) (by decide) (by kernel_rfl) (by kernel_rfl) (by kernel_rfl) (Nat.le_of_ble_eq_true (by kernel_rfl)) _
    (fun x => Snd.seq (by kernel_rfl) (Snd.seq (by kernel_rfl) (Snd.seq (by kernel_rfl) (Snd.exec hc _ _ _ _) (Snd.seq (by kernel_rfl) (Snd.block (id := 0) (by kernel_rfl) (Snd.loop' (by kernel_rfl) f87s3 (fun n x => impl_schemaNodes.l3 k n x.1.2.1 x.1.2.2.1 x.1.2.2.2 x.2) _ (fun _ => rfl) (fun n3 => Snd.seq (by kernel_rfl) (Snd.seq (by kernel_rfl) (Snd.seq (by kernel_rfl) (Snd.exec hc _ _ _ _) (Snd.block (id := 1) (by kernel_rfl) (Snd.seq (by kernel_rfl) (Snd.seq (by kernel_rfl) (Snd.seq (by kernel_rfl) (Snd.cut (Snd.seq (by kernel_rfl) (Snd.cut (Snd.seq (by kernel_rfl) (Snd.seq (by kernel_rfl) (Snd.cut (Snd.exec hc _ _ _ _) ⟨f87s13, fun x => impl_schemaNodes.c13 k (impl_schemaNodes.l3 k n3) x.1.2.2.1 x.1.2.2.2.1 x.1.2.2.2.2 x.2.1 x.2.2⟩ (fun x => by kernel_rfl)) (Snd.exec hc _ _ _ _)) (Snd.exec hc _ _ _ _)) ⟨f87s10, fun x => impl_schemaNodes.c10 k (impl_schemaNodes.l3 k n3) x.1.2.2.2.1 x.1.2.2.2.2.1 x.1.2.2.2.2.2 x.2.1 x.2.2.1 x.2.2.2⟩ (fun x => by kernel_rfl)) (Snd.exec hc _ _ _ _)) ⟨f87s8, fun x => impl_schemaNodes.c8 k (impl_schemaNodes.l3 k n3) x.1.2.1 x.1.2.2.2.2.1 x.1.2.2.2.2.2.1 x.1.2.2.2.2.2.2 x.2.1 x.2.2.1 x.2.2.2⟩ (fun x => by kernel_rfl)) (Snd.exec hc _ _ _ _)) (Snd.exec hc _ _ _ _)) (Snd.exec hc _ _ _ _)))) (Snd.exec hc _ _ _ _)) (Snd.exec hc _ _ _ _)) (fun n x => by kernel_rfl) k)) (Snd.exec hc _ _ _ _))) (Snd.exec hc _ _ _ _)) (Snd.exec hc _ _ _ _))
    (fun x => by kernel_rfl)

def f44in : SS := ⟨[(0, (.ro (.list 93 (.st (.cons .str (.cons (.int .i64) (.cons (.int .i64) (.cons (.int .i64) .nil))))))))], []⟩
def f44out : SS := ⟨[(0, (.h 100)), (1, (.ro .bool))], [(100, (.sl 78 (.st (.cons (.int .i64) (.cons (.int .i64) (.cons (.int .i64) (.cons .str (.cons (.int .i64) .nil))))))))]⟩
def f44con (F : (List TCol) → Option ((Unit × Bool) × (List TNode))) : Con := ⟨f44in, f44out, 1, 2, fun x => F x⟩
def f44ctx (k : Nat) : Ctx := ⟨tyAt tys, conAt [(46, [f46con (impl_SchemaOk k)]), (86, [f86con (impl_structNode k)]), (87, [f87con (impl_schemaNodes k)])], 11, fun _ => false⟩
theorem f44hc (k : Nat) : CtxOk Try.prog (f44ctx k) := ctxOk tys_ok mixed_ok (consOk_cons (f46ok k) (consOk_cons (f86ok k) (consOk_cons (f87ok k) (consOk_nil))))
theorem f44ok (k : Nat) : FnOk Try.prog 44 (f44con (impl_SchemaTree k)) :=
  let hc := f44hc k
  fnOk (fn := Try.f44) (code := bodyOf Try.f44) (res := [.tmp 2, .tmp 3]) hc (by kernel_rfl) (by kernel_rfl) (by decide) (by kernel_rfl) (by kernel_rfl) (by kernel_rfl) (Nat.le_of_ble_eq_true (by kernel_rfl)) _
    (fun x => Snd.exec hc _ _ _ _)
    (fun x => by kernel_rfl)

def f47in : SS := ⟨[(0, (.ro (.list 93 (.st (.cons .str (.cons (.int .i64) (.cons (.int .i64) (.cons (.int .i64) .nil)))))))), (1, (.ro (.int .i64)))], []⟩
def f47out : SS := ⟨[(0, (.ro (.int .i64)))], []⟩
def f47con (F : (List TCol) → Int → Option Int) : Con := ⟨f47in, f47out, 2, 1, fun x => F x.1 x.2⟩
def f47ctx (k : Nat) : Ctx := ⟨tyAt tys, conAt [(46, [f46con (impl_SchemaOk k)]), (55, [f55con (impl_within k)]), (89, [f89con (impl_colAfter k)])], 19, fun _ => false⟩
theorem f47hc (k : Nat) : CtxOk Try.prog (f47ctx k) := ctxOk tys_ok mixed_ok (consOk_cons (f46ok k) (consOk_cons (f55ok k) (consOk_cons (f89ok k) (consOk_nil))))
theorem f47ok (k : Nat) : FnOk Try.prog 47 (f47con (impl_SchemaAfter k)) :=
  let hc := f47hc k
  fnOk (fn := Try.f47) (code := bodyOf Try.f47) (res := [.tmp 4]) hc (by kernel_rfl) (by kernel_rfl) (by decide) (by kernel_rfl) (by kernel_rfl) (by kernel_rfl) (Nat.le_of_ble_eq_true (by kernel_rfl)) _
    (fun x => Snd.exec hc _ _ _ _)
    (fun x => by kernel_rfl)

def f48in : SS := ⟨[(0, (.ro (.list 93 (.st (.cons .str (.cons (.int .i64) (.cons (.int .i64) (.cons (.int .i64) .nil)))))))), (1, (.ro (.list 93 (.st (.cons .str (.cons (.int .i64) (.cons (.int .i64) (.cons (.int .i64) .nil))))))))], []⟩
def f48out : SS := ⟨[(0, (.ro .bool))], []⟩
def f48s4 : SS := ⟨[(0, (.ro (.list 93 (.st (.cons .str (.cons (.int .i64) (.cons (.int .i64) (.cons (.int .i64) .nil)))))))), (1, (.ro (.list 93 (.st (.cons .str (.cons (.int .i64) (.cons (.int .i64) (.cons (.int .i64) .nil)))))))), (5, (.ro (.int .i64)))], []⟩
def f48con (F : (List TCol) → (List TCol) → Option Bool) : Con := ⟨f48in, f48out, 2, 1, fun x => F x.1 x.2⟩
def f48ctx (k : Nat) : Ctx := ⟨tyAt tys, conAt [], 26, fun _ => false⟩
theorem f48hc (k : Nat) : CtxOk Try.prog (f48ctx k) := ctxOk tys_ok mixed_ok (consOk_nil)
theorem f48ok (k : Nat) : FnOk Try.prog 48 (f48con (laws_sameCols k)) :=
  let hc := f48hc k
  fnOk (fn := Try.f48) (code := bodyOf Try.f48) (res := [.tmp 4]) hc (by kernel_rfl) (by kernel_rfl) (by decide) (by kernel_rfl) (by kernel_rfl) (by kernel_rfl) (Nat.le_of_ble_eq_true (by kernel_rfl)) _
    (fun x => Snd.seq (by kernel_rfl) (Snd.seq (by kernel_rfl) (Snd.seq (by kernel_rfl) (Snd.exec hc _ _ _ _) (Snd.seq (by kernel_rfl) (Snd.block (id := 0) (by kernel_rfl) (Snd.loop' (by kernel_rfl) f48s4 (fun n x => laws_sameCols.l4 k n x.1 x.2.1 x.2.2) _ (fun _ => rfl) (fun n4 => Snd.exec hc _ _ _ _) (fun n x => by kernel_rfl) k)) (Snd.exec hc _ _ _ _))) (Snd.exec hc _ _ _ _)) (Snd.exec hc _ _ _ _))
    (fun x => by kernel_rfl)

def f7in : SS := ⟨[(0, (.ro (.list 5 (.int .u8))))], []⟩
def f7out : SS := ⟨[(0, (.ro .bool))], []⟩
def f7con (F : (List Int) → Option Bool) : Con := ⟨f7in, f7out, 1, 1, fun x => F x⟩
def f7ctx (k : Nat) : Ctx := ⟨tyAt tys, conAt [(8, [f8con (laws_big k)]), (10, [f10con (impl_TreePack k)]), (13, [f13con (impl_TreeRead k)]), (32, [f32con (impl_SchemaOf k)]), (43, [f43con (spec_DrawSchemaTree k)]), (44, [f44con (impl_SchemaTree k)]), (45, [f45con (spec_SchemaOk k)]), (46, [f46con (impl_SchemaOk k)]), (47, [f47con (impl_SchemaAfter k)]), (48, [f48con (laws_sameCols k)])], 78, fun _ => false⟩
theorem f7hc (k : Nat) : CtxOk Try.prog (f7ctx k) := ctxOk tys_ok mixed_ok (consOk_cons (f8ok k) (consOk_cons (f10ok k) (consOk_cons (f13ok k) (consOk_cons (f32ok k) (consOk_cons (f43ok k) (consOk_cons (f44ok k) (consOk_cons (f45ok k) (consOk_cons (f46ok k) (consOk_cons (f47ok k) (consOk_cons (f48ok k) (consOk_nil)))))))))))
theorem f7ok (k : Nat) : FnOk Try.prog 7 (f7con (laws_FnSchema k)) :=
  let hc := f7hc k
  fnOk (fn := Try.f7) (code := bodyOf Try.f7) (res := [.tmp 2]) hc (by kernel_rfl) (by kernel_rfl) (by decide) (by kernel_rfl) (by kernel_rfl) (by kernel_rfl) (Nat.le_of_ble_eq_true (by kernel_rfl)) _
    (fun x => Snd.exec hc _ _ _ _)
    (fun x => by kernel_rfl)

end Go.Proofs.Ytmdmkakkodeniaa
