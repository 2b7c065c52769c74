/- The walks, printed by program. -/
import Derived.Test.YtifcflanpjkgkaaBase
import Derived.Test.YtifcflanpjkgkaaESCF0
set_option linter.unusedVariables false
set_option maxRecDepth 100000
namespace Go.Proofs.Ytifcflanpjkgkaa
open Go.Am Go.Fn

def f77in : SS := ⟨[(0, (.ro (.int .i64))), (1, (.ro (.int .i64))), (2, (.ro (.int .i64)))], []⟩
def f77out : SS := ⟨[(0, (.ro .bool))], []⟩
def f77con (F : Int → Int → Int → Option Bool) : Con := ⟨f77in, f77out, 3, 1, fun x => F x.1 x.2.1 x.2.2⟩
def f77ctx (k : Nat) : Ctx := ⟨tyAt tys, conAt [], 15, fun _ => false⟩
theorem f77hc (k : Nat) : CtxOk Try.prog (f77ctx k) := ctxOk tys_ok mixed_ok (consOk_nil)
theorem f77ok (k : Nat) : FnOk Try.prog 77 (f77con (impl_within k)) :=
  let hc := f77hc k
  fnOk (fn := Try.f77) (code := bodyOf Try.f77) (res := [.tmp 6]) hc (by kernel_rfl) (by kernel_rfl) (by decide) (by kernel_rfl) (by kernel_rfl) (by kernel_rfl) (Nat.le_of_ble_eq_true (by kernel_rfl)) _
    (fun x => Snd.exec hc _ _ _ _)
    (fun x => by kernel_rfl)

def f224in : SS := ⟨[(0, (.ro (.int .i64)))], []⟩
def f224out : SS := ⟨[(0, (.ro .bool))], []⟩
def f224con (F : Int → Option Bool) : Con := ⟨f224in, f224out, 1, 1, fun x => F x⟩
def f224ctx (k : Nat) : Ctx := ⟨tyAt tys, conAt [(77, [f77con (impl_within k)])], 13, fun _ => false⟩
theorem f224hc (k : Nat) : CtxOk Try.prog (f224ctx k) := ctxOk tys_ok mixed_ok (consOk_cons (f77ok k) (consOk_nil))
theorem f224ok (k : Nat) : FnOk Try.prog 224 (f224con (impl_TypeOk k)) :=
  let hc := f224hc k
  fnOk (fn := Try.f224) (code := bodyOf Try.f224) (res := [.tmp 2]) hc (by kernel_rfl) (by kernel_rfl) (by decide) (by kernel_rfl) (by kernel_rfl) (by kernel_rfl) (Nat.le_of_ble_eq_true (by kernel_rfl)) _
    (fun x => Snd.exec hc _ _ _ _)
    (fun x => by kernel_rfl)

def f194in : SS := ⟨[(0, (.ro (.st (.cons .str (.cons (.int .i64) (.cons (.int .i64) (.cons (.int .i64) .nil)))))))], []⟩
def f194out : SS := ⟨[(0, (.ro .bool))], []⟩
def f194con (F : TCol → Option Bool) : Con := ⟨f194in, f194out, 1, 1, fun x => F x⟩
def f194ctx (k : Nat) : Ctx := ⟨tyAt tys, conAt [(77, [f77con (impl_within k)]), (224, [f224con (impl_TypeOk k)])], 30, fun _ => false⟩
theorem f194hc (k : Nat) : CtxOk Try.prog (f194ctx k) := ctxOk tys_ok mixed_ok (consOk_cons (f77ok k) (consOk_cons (f224ok k) (consOk_nil)))
theorem f194ok (k : Nat) : FnOk Try.prog 194 (f194con (impl_colOk k)) :=
  let hc := f194hc k
  fnOk (fn := Try.f194) (code := bodyOf Try.f194) (res := [.tmp 2]) hc (by kernel_rfl) (by kernel_rfl) (by decide) (by kernel_rfl) (by kernel_rfl) (by kernel_rfl) (Nat.le_of_ble_eq_true (by kernel_rfl)) _
    (fun x => Snd.exec hc _ _ _ _)
    (fun x => by kernel_rfl)

def f195in : SS := ⟨[(0, (.ro .str))], []⟩
def f195out : SS := ⟨[(0, (.ro .bool))], []⟩
def f195s2 : SS := ⟨[(0, (.ro .str)), (5, (.ro (.int .i64))), (6, (.ro (.int .i64)))], []⟩
def f195con (F : ByteArray → Option Bool) : Con := ⟨f195in, f195out, 1, 1, fun x => F x⟩
def f195ctx (k : Nat) : Ctx := ⟨tyAt tys, conAt [(77, [f77con (impl_within k)])], 19, fun _ => false⟩
theorem f195hc (k : Nat) : CtxOk Try.prog (f195ctx k) := ctxOk tys_ok mixed_ok (consOk_cons (f77ok k) (consOk_nil))
theorem f195ok (k : Nat) : FnOk Try.prog 195 (f195con (impl_isColName k)) :=
  let hc := f195hc k
  fnOk (fn := Try.f195) (code := bodyOf Try.f195) (res := [.tmp 2]) hc (by kernel_rfl) (by kernel_rfl) (by decide) (by kernel_rfl) (by kernel_rfl) (by kernel_rfl) (Nat.le_of_ble_eq_true (by kernel_rfl)) _
    (fun x => Snd.seq (by kernel_rfl) (Snd.seq (by kernel_rfl) (Snd.exec hc _ _ _ _) (Snd.seq (by kernel_rfl) (Snd.block (id := 0) (by kernel_rfl) (Snd.loop' (by kernel_rfl) f195s2 (fun n x => impl_isColName.l2 k n x.1 x.2.1 x.2.2) _ (fun _ => rfl) (fun n2 => Snd.exec hc _ _ _ _) (fun n x => by kernel_rfl) k)) (Snd.exec hc _ _ _ _))) (Snd.exec hc _ _ _ _))
    (fun x => by kernel_rfl)

def f140in : SS := ⟨[(0, (.ro (.list 126 (.st (.cons .str (.cons (.int .i64) (.cons (.int .i64) (.cons (.int .i64) .nil)))))))), (1, (.ro (.int .i64))), (2, (.ro (.int .i64)))], []⟩
def f140out : SS := ⟨[(0, (.ro (.int .i64)))], []⟩
def f140s10 : SS := ⟨[(0, (.ro (.list 126 (.st (.cons .str (.cons (.int .i64) (.cons (.int .i64) (.cons (.int .i64) .nil)))))))), (2, (.ro (.int .i64))), (7, (.ro (.int .i64))), (8, (.h 100)), (47, (.ro (.int .i64))), (48, (.ro (.int .i64))), (54, (.h 100)), (55, (.ro (.int .i64))), (56, (.ro (.int .i64)))], [(100, (.sl 9 .str))]⟩
def f140s6 : SS := ⟨[(0, (.ro (.list 126 (.st (.cons .str (.cons (.int .i64) (.cons (.int .i64) (.cons (.int .i64) .nil)))))))), (2, (.ro (.int .i64))), (7, (.ro (.int .i64))), (8, (.h 100)), (47, (.ro (.int .i64))), (48, (.ro (.int .i64)))], [(100, (.sl 9 .str))]⟩
def f140con (F : (List TCol) → Int → Int → Option Int) : Con := ⟨f140in, f140out, 3, 1, fun x => F x.1 x.2.1 x.2.2⟩
def f140ctx (k : Nat) (S140 : (List TCol) → Int → Int → Option Int) : Ctx := ⟨tyAt tys, conAt [(140, [f140con S140]), (194, [f194con (impl_colOk k)]), (195, [f195con (impl_isColName k)])], 85, fun _ => false⟩
theorem f140hc (k : Nat) (S140 : (List TCol) → Int → Int → Option Int) (h140 : FnOk Try.prog 140 (f140con S140)) : CtxOk Try.prog (f140ctx k S140) := ctxOk tys_ok mixed_ok (consOk_cons (h140) (consOk_cons (f194ok k) (consOk_cons (f195ok k) (consOk_nil))))
theorem f140okb (k : Nat) (S140 : (List TCol) → Int → Int → Option Int) (h140 : FnOk Try.prog 140 (f140con S140)) : FnOk Try.prog 140 (f140con (impl_colAfter.b k S140)) :=
  let hc := f140hc k S140 h140
  fnOk (fn := Try.f140) (code := bodyOf Try.f140) (res := [.tmp 6]) hc (by kernel_rfl) (by kernel_rfl) (by decide) (by kernel_rfl) (by kernel_rfl) (by kernel_rfl) (Nat.le_of_ble_eq_true (by kernel_rfl)) _
    (fun x => Snd.seq (by kernel_rfl) (Snd.seq (by kernel_rfl) (Snd.seq (by kernel_rfl) (Snd.seq (by kernel_rfl) (Snd.seq (by kernel_rfl) (Snd.exec hc _ _ _ _) (Snd.seq (by kernel_rfl) (Snd.block (id := 0) (by kernel_rfl) (Snd.loop' (by kernel_rfl) f140s6 (fun n x => impl_colAfter.l6 k S140 n x.1.1 x.1.2.1 x.1.2.2.1 x.1.2.2.2.2.1 x.1.2.2.2.2.2 x.2) _ (fun _ => rfl) (fun n6 => Snd.seq (by kernel_rfl) (Snd.seq (by kernel_rfl) (Snd.seq (by kernel_rfl) (Snd.exec hc _ _ _ _) (Snd.block (id := 1) (by kernel_rfl) (Snd.seq (by kernel_rfl) (Snd.seq (by kernel_rfl) (Snd.exec hc _ _ _ _) (Snd.seq (by kernel_rfl) (Snd.block (id := 2) (by kernel_rfl) (Snd.loop' (by kernel_rfl) f140s10 (fun n x => impl_colAfter.l10 k S140 (impl_colAfter.l6 k S140 n6) n x.1.1 x.1.2.1 x.1.2.2.1 x.1.2.2.2.2.1 x.1.2.2.2.2.2.1 x.1.2.2.2.2.2.2.2.1 x.1.2.2.2.2.2.2.2.2 x.2) _ (fun _ => rfl) (fun n10 => Snd.exec hc _ _ _ _) (fun n x => by kernel_rfl) k)) (Snd.exec hc _ _ _ _))) (Snd.exec hc _ _ _ _)))) (Snd.exec hc _ _ _ _)) (Snd.exec hc _ _ _ _)) (fun n x => by kernel_rfl) k)) (Snd.exec hc _ _ _ _))) (Snd.exec hc _ _ _ _)) (Snd.exec hc _ _ _ _)) (Snd.exec hc _ _ _ _)) (Snd.exec hc _ _ _ _))
    (fun x => by kernel_rfl)
theorem f140rec (k : Nat) : ∀ d, FnOk Try.prog 140 (f140con (impl_colAfter.d k d))
  | 0 => FnOk_none (fun _ => rfl)
  | d + 1 => let ih := f140rec k d
    f140okb k (impl_colAfter.d k d) ih
theorem f140ok (k : Nat) : FnOk Try.prog 140 (f140con (impl_colAfter k)) := (f140rec k k)

def f68in : SS := ⟨[(0, (.ro (.list 126 (.st (.cons .str (.cons (.int .i64) (.cons (.int .i64) (.cons (.int .i64) .nil))))))))], []⟩
def f68out : SS := ⟨[(0, (.ro .bool))], []⟩
def f68con (F : (List TCol) → Option Bool) : Con := ⟨f68in, f68out, 1, 1, fun x => F x⟩
def f68ctx (k : Nat) : Ctx := ⟨tyAt tys, conAt [(77, [f77con (impl_within k)]), (140, [f140con (impl_colAfter k)])], 33, fun _ => false⟩
theorem f68hc (k : Nat) : CtxOk Try.prog (f68ctx k) := ctxOk tys_ok mixed_ok (consOk_cons (f77ok k) (consOk_cons (f140ok k) (consOk_nil)))
theorem f68ok (k : Nat) : FnOk Try.prog 68 (f68con (impl_SchemaOk k)) :=
  let hc := f68hc k
  fnOk (fn := Try.f68) (code := bodyOf Try.f68) (res := [.tmp 2]) hc (by kernel_rfl) (by kernel_rfl) (by decide) (by kernel_rfl) (by kernel_rfl) (by kernel_rfl) (Nat.le_of_ble_eq_true (by kernel_rfl)) _
    (fun x => Snd.exec hc _ _ _ _)
    (fun x => by kernel_rfl)

def f91in : SS := ⟨[(0, (.ro (.list 126 (.st (.cons .str (.cons (.int .i64) (.cons (.int .i64) (.cons (.int .i64) .nil))))))))], []⟩
def f91out : SS := ⟨[(0, (.h 100))], [(100, (.sl 3 (.int .i64)))]⟩
def f91s7 : SS := ⟨[(3, (.h 100)), (7, (.ro (.list 126 (.st (.cons .str (.cons (.int .i64) (.cons (.int .i64) (.cons (.int .i64) .nil)))))))), (8, (.ro (.int .i64))), (9, (.ro (.int .i64)))], [(100, (.sl 3 (.int .i64)))]⟩
def f91s3 : SS := ⟨[(3, (.h 100)), (7, (.ro (.list 126 (.st (.cons .str (.cons (.int .i64) (.cons (.int .i64) (.cons (.int .i64) .nil)))))))), (8, (.ro (.int .i64))), (9, (.ro (.int .i64)))], [(100, (.sl 3 (.int .i64)))]⟩
def f91con (F : (List TCol) → Option (Unit × (List Int))) : Con := ⟨f91in, f91out, 1, 1, fun x => F x⟩
def f91ctx (k : Nat) : Ctx := ⟨tyAt tys, conAt [], 23, fun _ => false⟩
theorem f91hc (k : Nat) : CtxOk Try.prog (f91ctx k) := ctxOk tys_ok mixed_ok (consOk_nil)
theorem f91ok (k : Nat) : FnOk Try.prog 91 (f91con (impl_leavesOf k)) :=
  let hc := f91hc k
  fnOk (fn := Try.f91) (code := bodyOf Try.f91) (res := [.tmp 2]) hc (by kernel_rfl) (by kernel_rfl) (by decide) (by kernel_rfl) (by kernel_rfl) (by kernel_rfl) (Nat.le_of_ble_eq_true (by kernel_rfl)) _
    (fun x => Snd.seq (by kernel_rfl) (Snd.seq (by kernel_rfl) (Snd.seq (by kernel_rfl) (Snd.exec hc _ _ _ _) (Snd.seq (by kernel_rfl) (Snd.block (id := 0) (by kernel_rfl) (Snd.loop' (by kernel_rfl) f91s3 (fun n x => impl_leavesOf.l3 k n x.1.2.1 x.1.2.2.1 x.1.2.2.2 x.2) _ (fun _ => rfl) (fun n3 => Snd.seq (by kernel_rfl) (Snd.seq (by kernel_rfl) (Snd.seq (by kernel_rfl) (Snd.cut (Snd.exec hc _ _ _ _) ⟨f91s7, fun x => impl_leavesOf.c7 k (impl_leavesOf.l3 k n3) x.1.2.1 x.1.2.2.1 x.1.2.2.2 x.2⟩ (fun x => by kernel_rfl)) (Snd.exec hc _ _ _ _)) (Snd.exec hc _ _ _ _)) (Snd.exec hc _ _ _ _)) (fun n x => by kernel_rfl) k)) (Snd.exec hc _ _ _ _))) (Snd.exec hc _ _ _ _)) (Snd.exec hc _ _ _ _))
    (fun x => by kernel_rfl)

def f90in : SS := ⟨[(0, (.ro (.list 126 (.st (.cons .str (.cons (.int .i64) (.cons (.int .i64) (.cons (.int .i64) .nil))))))))], []⟩
def f90out : SS := ⟨[(0, (.h 100))], [(100, (.sl 3 (.int .i64)))]⟩
def f90s3 : SS := ⟨[(3, (.h 100)), (10, (.h 101)), (11, (.ro (.int .i64))), (12, (.ro (.int .i64)))], [(100, (.sl 3 (.int .i64))), (101, (.sl 3 (.int .i64)))]⟩
def f90con (F : (List TCol) → Option (Unit × (List Int))) : Con := ⟨f90in, f90out, 1, 1, fun x => F x⟩
def f90ctx (k : Nat) : Ctx := ⟨tyAt tys, conAt [(91, [f91con (impl_leavesOf k)])], 23, fun _ => false⟩
theorem f90hc (k : Nat) : CtxOk Try.prog (f90ctx k) := ctxOk tys_ok mixed_ok (consOk_cons (f91ok k) (consOk_nil))
theorem f90ok (k : Nat) : FnOk Try.prog 90 (f90con (impl_leafNumbers k)) :=
  let hc := f90hc k
  fnOk (fn := Try.f90) (code := bodyOf Try.f90) (res := [.tmp 2]) hc (by kernel_rfl) (by kernel_rfl) (by decide) (by kernel_rfl) (by kernel_rfl) (by kernel_rfl) (Nat.le_of_ble_eq_true (by kernel_rfl)) _
    (fun x => Snd.seq (by kernel_rfl) (Snd.seq (by kernel_rfl) (Snd.seq (by kernel_rfl) (Snd.exec hc _ _ _ _) (Snd.seq (by kernel_rfl) (Snd.block (id := 0) (by kernel_rfl) (Snd.loop' (by kernel_rfl) f90s3 (fun n x => impl_leafNumbers.l3 k n x.1.2.2.1 x.1.2.2.2 x.2.1 x.2.2) _ (fun _ => rfl) (fun n3 => Snd.exec hc _ _ _ _) (fun n x => by kernel_rfl) k)) (Snd.exec hc _ _ _ _))) (Snd.exec hc _ _ _ _)) (Snd.exec hc _ _ _ _))
    (fun x => by kernel_rfl)

def f160in : SS := ⟨[(0, (.ro (.int .i64)))], []⟩
def f160out : SS := ⟨[(0, (.ro .bool))], []⟩
def f160con (F : Int → Option Bool) : Con := ⟨f160in, f160out, 1, 1, fun x => F x⟩
def f160ctx (k : Nat) : Ctx := ⟨tyAt tys, conAt [(77, [f77con (impl_within k)])], 5, fun _ => false⟩
theorem f160hc (k : Nat) : CtxOk Try.prog (f160ctx k) := ctxOk tys_ok mixed_ok (consOk_cons (f77ok k) (consOk_nil))
theorem f160ok (k : Nat) : FnOk Try.prog 160 (f160con (impl_isInt32 k)) :=
  let hc := f160hc k
  fnOk (fn := Try.f160) (code := bodyOf Try.f160) (res := [.tmp 2]) hc (by kernel_rfl) (by kernel_rfl) (by decide) (by kernel_rfl) (by kernel_rfl) (by kernel_rfl) (Nat.le_of_ble_eq_true (by kernel_rfl)) _
    (fun x => Snd.exec hc _ _ _ _)
    (fun x => by kernel_rfl)

def f187in : SS := ⟨[(0, (.ro (.int .i64))), (1, (.ro (.st (.cons (.int .i64) (.cons .str .nil)))))], []⟩
def f187out : SS := ⟨[(0, (.ro .bool))], []⟩
def f187s8 : SS := ⟨[(0, (.ro (.int .i64))), (3, (.p 100)), (26, (.ro .bool))], [(100, (.box (.st (.cons (.int .i64) (.cons .str .nil))) (.agg (.cons (.ro (.int .i64)) (.cons (.ro .str) .nil)))))]⟩
def f187con (F : Int → TVal → Option Bool) : Con := ⟨f187in, f187out, 2, 1, fun x => F x.1 x.2⟩
def f187ctx (k : Nat) : Ctx := ⟨tyAt tys, conAt [(77, [f77con (impl_within k)]), (160, [f160con (impl_isInt32 k)])], 45, fun _ => false⟩
theorem f187hc (k : Nat) : CtxOk Try.prog (f187ctx k) := ctxOk tys_ok mixed_ok (consOk_cons (f77ok k) (consOk_cons (f160ok k) (consOk_nil)))
theorem f187ok (k : Nat) : FnOk Try.prog 187 (f187con (impl_ValOk k)) :=
  let hc := f187hc k
  fnOk (fn := Try.f187) (code := bodyOf Try.f187) (res := [.tmp 4]) hc (by kernel_rfl) (by kernel_rfl) (by decide) (by kernel_rfl) (by kernel_rfl) (by kernel_rfl) (Nat.le_of_ble_eq_true (by kernel_rfl)) _
    (fun x => Snd.seq (by kernel_rfl) (Snd.seq (by kernel_rfl) (Snd.exec hc _ _ _ _) (Snd.seq (by kernel_rfl) (Snd.block (id := 0) (by kernel_rfl) (Snd.seq (by kernel_rfl) (Snd.cond (x := .tmp 6) (by kernel_rfl) (Snd.exec hc _ _ _ _) (Snd.seq (by kernel_rfl) (Snd.cond (x := .tmp 16) (by kernel_rfl) (Snd.exec hc _ _ _ _) (Snd.seq (by kernel_rfl) (Snd.cut (Snd.exec hc _ _ _ _) ⟨f187s8, fun x => impl_ValOk.c8 k x.1.1 x.1.2.2 x.2⟩ (fun x => by kernel_rfl)) (Snd.exec hc _ _ _ _))) (Snd.exec hc _ _ _ _))) (Snd.exec hc _ _ _ _))) (Snd.exec hc _ _ _ _))) (Snd.exec hc _ _ _ _))
    (fun x => by kernel_rfl)

def f196i5in : SS := ⟨[(0, (.p 0))], [(0, (.box (.st (.cons (.list 126 (.st (.cons .str (.cons (.int .i64) (.cons (.int .i64) (.cons (.int .i64) .nil)))))) (.cons (.list 52 (.st (.cons (.int .i64) (.cons .str .nil)))) (.cons .bool (.cons .ptr (.cons .ptr .nil)))))) (.agg (.cons (.ro (.list 126 (.st (.cons .str (.cons (.int .i64) (.cons (.int .i64) (.cons (.int .i64) .nil))))))) (.cons (.ro (.list 52 (.st (.cons (.int .i64) (.cons .str .nil))))) (.cons (.ro .bool) (.cons (.fn 92 (.cons (.p 10) (.cons (.p 12) .nil))) (.cons (.fn 93 (.cons (.p 14) .nil)) .nil)))))))), (10, (.box (.list 50 (.st (.cons (.list 54 (.st (.cons (.int .i64) (.cons (.int .i64) (.cons (.st (.cons (.int .i64) (.cons .str .nil))) .nil))))) .nil))) (.h 11))), (11, (.sl 50 (.st (.cons (.list 54 (.st (.cons (.int .i64) (.cons (.int .i64) (.cons (.st (.cons (.int .i64) (.cons .str .nil))) .nil))))) .nil)))), (12, (.box (.list 3 (.int .i64)) (.h 13))), (13, (.sl 3 (.int .i64))), (14, (.box .ptr (.fn 92 (.cons (.p 10) (.cons (.p 12) .nil)))))]⟩
def f196i5out : SS := ⟨[(0, (.agg (.cons (.ro (.int .i64)) (.cons (.ro .str) .nil))))], [(0, (.box (.st (.cons (.list 126 (.st (.cons .str (.cons (.int .i64) (.cons (.int .i64) (.cons (.int .i64) .nil)))))) (.cons (.list 52 (.st (.cons (.int .i64) (.cons .str .nil)))) (.cons .bool (.cons .ptr (.cons .ptr .nil)))))) (.agg (.cons (.ro (.list 126 (.st (.cons .str (.cons (.int .i64) (.cons (.int .i64) (.cons (.int .i64) .nil))))))) (.cons (.ro (.list 52 (.st (.cons (.int .i64) (.cons .str .nil))))) (.cons (.ro .bool) (.cons (.fn 92 (.cons (.p 10) (.cons (.p 12) .nil))) (.cons (.fn 93 (.cons (.p 14) .nil)) .nil)))))))), (10, (.box (.list 50 (.st (.cons (.list 54 (.st (.cons (.int .i64) (.cons (.int .i64) (.cons (.st (.cons (.int .i64) (.cons .str .nil))) .nil))))) .nil))) (.h 11))), (11, (.sl 50 (.st (.cons (.list 54 (.st (.cons (.int .i64) (.cons (.int .i64) (.cons (.st (.cons (.int .i64) (.cons .str .nil))) .nil))))) .nil)))), (12, (.box (.list 3 (.int .i64)) (.h 13))), (13, (.sl 3 (.int .i64))), (14, (.box .ptr (.fn 92 (.cons (.p 10) (.cons (.p 12) .nil)))))]⟩
def f196i5con (F : TWalkerB → Unit → (List TColumn) → Unit → (List Int) → (Unit × Unit × Unit) → Option ((TVal) × TWalkerB × Unit × (List TColumn) × Unit × (List Int) × (Unit × Unit × Unit))) : Con := ⟨f196i5in, f196i5out, 1, 1, fun x => F x.2.1 x.2.2.1 x.2.2.2.1 x.2.2.2.2.1 x.2.2.2.2.2.1 x.2.2.2.2.2.2⟩
def f196i5ctx (k : Nat) : Ctx := ⟨tyAt tys, conAt [], 35, fun _ => false⟩
theorem f196i5hc (k : Nat) : CtxOk Try.prog (f196i5ctx k) := ctxOk tys_ok mixed_ok (consOk_nil)
theorem f196i5ok (k : Nat) : FnOk Try.prog 196 (f196i5con (impl_walker_next_of_Shred_1_Shred_2 k)) :=
  let hc := f196i5hc k
  fnOk (fn := Try.f196) (code := bodyOf Try.f196) (res := [.cell 2 52]) hc (by kernel_rfl) (by kernel_rfl) (by decide) (by kernel_rfl) (by kernel_rfl) (by kernel_rfl) (Nat.le_of_ble_eq_true (by kernel_rfl)) _
    (fun x => Snd.exec hc _ _ _ _)
    (fun x => by kernel_rfl)

def f225i9in : SS := ⟨[(0, (.p 0)), (1, (.ro (.int .i64)))], [(0, (.box (.st (.cons (.list 126 (.st (.cons .str (.cons (.int .i64) (.cons (.int .i64) (.cons (.int .i64) .nil)))))) (.cons (.list 52 (.st (.cons (.int .i64) (.cons .str .nil)))) (.cons .bool (.cons .ptr (.cons .ptr .nil)))))) (.agg (.cons (.ro (.list 126 (.st (.cons .str (.cons (.int .i64) (.cons (.int .i64) (.cons (.int .i64) .nil))))))) (.cons (.ro (.list 52 (.st (.cons (.int .i64) (.cons .str .nil))))) (.cons (.ro .bool) (.cons (.fn 92 (.cons (.p 10) (.cons (.p 12) .nil))) (.cons (.fn 93 (.cons (.p 14) .nil)) .nil)))))))), (10, (.box (.list 50 (.st (.cons (.list 54 (.st (.cons (.int .i64) (.cons (.int .i64) (.cons (.st (.cons (.int .i64) (.cons .str .nil))) .nil))))) .nil))) (.h 11))), (11, (.sl 50 (.st (.cons (.list 54 (.st (.cons (.int .i64) (.cons (.int .i64) (.cons (.st (.cons (.int .i64) (.cons .str .nil))) .nil))))) .nil)))), (12, (.box (.list 3 (.int .i64)) (.h 13))), (13, (.sl 3 (.int .i64))), (14, (.box .ptr (.fn 92 (.cons (.p 10) (.cons (.p 12) .nil)))))]⟩
def f225i9out : SS := ⟨[(0, (.ro (.int .i64)))], [(0, (.box (.st (.cons (.list 126 (.st (.cons .str (.cons (.int .i64) (.cons (.int .i64) (.cons (.int .i64) .nil)))))) (.cons (.list 52 (.st (.cons (.int .i64) (.cons .str .nil)))) (.cons .bool (.cons .ptr (.cons .ptr .nil)))))) (.agg (.cons (.ro (.list 126 (.st (.cons .str (.cons (.int .i64) (.cons (.int .i64) (.cons (.int .i64) .nil))))))) (.cons (.ro (.list 52 (.st (.cons (.int .i64) (.cons .str .nil))))) (.cons (.ro .bool) (.cons (.fn 92 (.cons (.p 10) (.cons (.p 12) .nil))) (.cons (.fn 93 (.cons (.p 14) .nil)) .nil)))))))), (10, (.box (.list 50 (.st (.cons (.list 54 (.st (.cons (.int .i64) (.cons (.int .i64) (.cons (.st (.cons (.int .i64) (.cons .str .nil))) .nil))))) .nil))) (.h 11))), (11, (.sl 50 (.st (.cons (.list 54 (.st (.cons (.int .i64) (.cons (.int .i64) (.cons (.st (.cons (.int .i64) (.cons .str .nil))) .nil))))) .nil)))), (12, (.box (.list 3 (.int .i64)) (.h 13))), (13, (.sl 3 (.int .i64))), (14, (.box .ptr (.fn 92 (.cons (.p 10) (.cons (.p 12) .nil)))))]⟩
def f225i9con (F : Int → TWalkerB → Unit → (List TColumn) → Unit → (List Int) → (Unit × Unit × Unit) → Option (Int × TWalkerB × Unit × (List TColumn) × Unit × (List Int) × (Unit × Unit × Unit))) : Con := ⟨f225i9in, f225i9out, 2, 1, fun x => F x.1.2 x.2.1 x.2.2.1 x.2.2.2.1 x.2.2.2.2.1 x.2.2.2.2.2.1 x.2.2.2.2.2.2⟩
def f225i9ctx (k : Nat) : Ctx := ⟨tyAt tys, conAt [(77, [f77con (impl_within k)]), (196, [f196i5con (impl_walker_next_of_Shred_1_Shred_2 k)])], 23, fun _ => false⟩
theorem f225i9hc (k : Nat) : CtxOk Try.prog (f225i9ctx k) := ctxOk tys_ok mixed_ok (consOk_cons (f77ok k) (consOk_cons (f196i5ok k) (consOk_nil)))
theorem f225i9ok (k : Nat) : FnOk Try.prog 225 (f225i9con (impl_walker_count_of_Shred_1_Shred_2 k)) :=
  let hc := f225i9hc k
  fnOk (fn := Try.f225) (code := bodyOf Try.f225) (res := [.tmp 4]) hc (by kernel_rfl) (by kernel_rfl) (by decide) (by kernel_rfl) (by kernel_rfl) (by kernel_rfl) (Nat.le_of_ble_eq_true (by kernel_rfl)) _
    (fun x => Snd.exec hc _ _ _ _)
    (fun x => by kernel_rfl)

def f92i11in : SS := ⟨[(0, (.ro (.int .i64))), (1, (.ro (.int .i64))), (2, (.ro (.int .i64))), (3, (.ro (.st (.cons (.int .i64) (.cons .str .nil))))), (4, (.p 4)), (5, (.p 5))], [(4, (.box (.list 50 (.st (.cons (.list 54 (.st (.cons (.int .i64) (.cons (.int .i64) (.cons (.st (.cons (.int .i64) (.cons .str .nil))) .nil))))) .nil))) (.h 10))), (5, (.box (.list 3 (.int .i64)) (.h 11))), (10, (.sl 50 (.st (.cons (.list 54 (.st (.cons (.int .i64) (.cons (.int .i64) (.cons (.st (.cons (.int .i64) (.cons .str .nil))) .nil))))) .nil)))), (11, (.sl 3 (.int .i64)))]⟩
def f92i11out : SS := ⟨[], [(4, (.box (.list 50 (.st (.cons (.list 54 (.st (.cons (.int .i64) (.cons (.int .i64) (.cons (.st (.cons (.int .i64) (.cons .str .nil))) .nil))))) .nil))) (.h 10))), (5, (.box (.list 3 (.int .i64)) (.h 11))), (10, (.sl 50 (.st (.cons (.list 54 (.st (.cons (.int .i64) (.cons (.int .i64) (.cons (.st (.cons (.int .i64) (.cons .str .nil))) .nil))))) .nil)))), (11, (.sl 3 (.int .i64)))]⟩
def f92i11con (F : Int → Int → Int → TVal → Unit → Unit → (List TColumn) → (List Int) → Option (Unit × Unit × Unit × (List TColumn) × (List Int))) : Con := ⟨f92i11in, f92i11out, 6, 0, fun x => F x.1.1 x.1.2.1 x.1.2.2.1 x.1.2.2.2.1 x.2.1 x.2.2.1 x.2.2.2.1 x.2.2.2.2⟩
def f92i11ctx (k : Nat) : Ctx := ⟨tyAt tys, conAt [], 30, fun _ => false⟩
theorem f92i11hc (k : Nat) : CtxOk Try.prog (f92i11ctx k) := ctxOk tys_ok mixed_ok (consOk_nil)
theorem f92i11ok (k : Nat) : FnOk Try.prog 92 (f92i11con (impl_Shred_1 k)) :=
  let hc := f92i11hc k
  fnOk (fn := Try.f92) (code := bodyOf Try.f92) (res := []) hc (by kernel_rfl) (by kernel_rfl) (by decide) (by kernel_rfl) (by kernel_rfl) (by kernel_rfl) (Nat.le_of_ble_eq_true (by kernel_rfl)) _
    (fun x => Snd.exec hc _ _ _ _)
    (fun x => by kernel_rfl)

def f93i14in : SS := ⟨[(0, (.ro (.int .i64))), (1, (.ro (.int .i64))), (2, (.ro (.int .i64))), (3, (.p 3))], [(3, (.box .ptr (.fn 92 (.cons (.p 10) (.cons (.p 12) .nil))))), (10, (.box (.list 50 (.st (.cons (.list 54 (.st (.cons (.int .i64) (.cons (.int .i64) (.cons (.st (.cons (.int .i64) (.cons .str .nil))) .nil))))) .nil))) (.h 11))), (11, (.sl 50 (.st (.cons (.list 54 (.st (.cons (.int .i64) (.cons (.int .i64) (.cons (.st (.cons (.int .i64) (.cons .str .nil))) .nil))))) .nil)))), (12, (.box (.list 3 (.int .i64)) (.h 13))), (13, (.sl 3 (.int .i64)))]⟩
def f93i14out : SS := ⟨[], [(3, (.box .ptr (.fn 92 (.cons (.p 10) (.cons (.p 12) .nil))))), (10, (.box (.list 50 (.st (.cons (.list 54 (.st (.cons (.int .i64) (.cons (.int .i64) (.cons (.st (.cons (.int .i64) (.cons .str .nil))) .nil))))) .nil))) (.h 11))), (11, (.sl 50 (.st (.cons (.list 54 (.st (.cons (.int .i64) (.cons (.int .i64) (.cons (.st (.cons (.int .i64) (.cons .str .nil))) .nil))))) .nil)))), (12, (.box (.list 3 (.int .i64)) (.h 13))), (13, (.sl 3 (.int .i64)))]⟩
def f93i14con (F : Int → Int → Int → (Unit × Unit × Unit) → Unit → (List TColumn) → Unit → (List Int) → Option (Unit × (Unit × Unit × Unit) × Unit × (List TColumn) × Unit × (List Int))) : Con := ⟨f93i14in, f93i14out, 4, 0, fun x => F x.1.1 x.1.2.1 x.1.2.2.1 x.2.1 x.2.2.1 x.2.2.2.1 x.2.2.2.2.1 x.2.2.2.2.2⟩
def f93i14ctx (k : Nat) : Ctx := ⟨tyAt tys, conAt [(92, [f92i11con (impl_Shred_1 k)])], 13, fun _ => false⟩
theorem f93i14hc (k : Nat) : CtxOk Try.prog (f93i14ctx k) := ctxOk tys_ok mixed_ok (consOk_cons (f92i11ok k) (consOk_nil))
theorem f93i14ok (k : Nat) : FnOk Try.prog 93 (f93i14con (impl_Shred_2_of_Shred_1 k)) :=
  let hc := f93i14hc k
  fnOk (fn := Try.f93) (code := bodyOf Try.f93) (res := []) hc (by kernel_rfl) (by kernel_rfl) (by decide) (by kernel_rfl) (by kernel_rfl) (by kernel_rfl) (Nat.le_of_ble_eq_true (by kernel_rfl)) _
    (fun x => Snd.exec hc _ _ _ _)
    (fun x => by kernel_rfl)

def f226i12in : SS := ⟨[(0, (.p 0)), (1, (.ro (.int .i64))), (2, (.ro (.int .i64))), (3, (.ro (.int .i64)))], [(0, (.box (.st (.cons (.list 126 (.st (.cons .str (.cons (.int .i64) (.cons (.int .i64) (.cons (.int .i64) .nil)))))) (.cons (.list 52 (.st (.cons (.int .i64) (.cons .str .nil)))) (.cons .bool (.cons .ptr (.cons .ptr .nil)))))) (.agg (.cons (.ro (.list 126 (.st (.cons .str (.cons (.int .i64) (.cons (.int .i64) (.cons (.int .i64) .nil))))))) (.cons (.ro (.list 52 (.st (.cons (.int .i64) (.cons .str .nil))))) (.cons (.ro .bool) (.cons (.fn 92 (.cons (.p 10) (.cons (.p 12) .nil))) (.cons (.fn 93 (.cons (.p 14) .nil)) .nil)))))))), (10, (.box (.list 50 (.st (.cons (.list 54 (.st (.cons (.int .i64) (.cons (.int .i64) (.cons (.st (.cons (.int .i64) (.cons .str .nil))) .nil))))) .nil))) (.h 11))), (11, (.sl 50 (.st (.cons (.list 54 (.st (.cons (.int .i64) (.cons (.int .i64) (.cons (.st (.cons (.int .i64) (.cons .str .nil))) .nil))))) .nil)))), (12, (.box (.list 3 (.int .i64)) (.h 13))), (13, (.sl 3 (.int .i64))), (14, (.box .ptr (.fn 92 (.cons (.p 10) (.cons (.p 12) .nil)))))]⟩
def f226i12out : SS := ⟨[(0, (.ro (.int .i64)))], [(0, (.box (.st (.cons (.list 126 (.st (.cons .str (.cons (.int .i64) (.cons (.int .i64) (.cons (.int .i64) .nil)))))) (.cons (.list 52 (.st (.cons (.int .i64) (.cons .str .nil)))) (.cons .bool (.cons .ptr (.cons .ptr .nil)))))) (.agg (.cons (.ro (.list 126 (.st (.cons .str (.cons (.int .i64) (.cons (.int .i64) (.cons (.int .i64) .nil))))))) (.cons (.ro (.list 52 (.st (.cons (.int .i64) (.cons .str .nil))))) (.cons (.ro .bool) (.cons (.fn 92 (.cons (.p 10) (.cons (.p 12) .nil))) (.cons (.fn 93 (.cons (.p 14) .nil)) .nil)))))))), (10, (.box (.list 50 (.st (.cons (.list 54 (.st (.cons (.int .i64) (.cons (.int .i64) (.cons (.st (.cons (.int .i64) (.cons .str .nil))) .nil))))) .nil))) (.h 11))), (11, (.sl 50 (.st (.cons (.list 54 (.st (.cons (.int .i64) (.cons (.int .i64) (.cons (.st (.cons (.int .i64) (.cons .str .nil))) .nil))))) .nil)))), (12, (.box (.list 3 (.int .i64)) (.h 13))), (13, (.sl 3 (.int .i64))), (14, (.box .ptr (.fn 92 (.cons (.p 10) (.cons (.p 12) .nil)))))]⟩
def f226i12s4 : SS := ⟨[(0, (.p 0)), (2, (.ro (.int .i64))), (3, (.ro (.int .i64))), (9, (.ro (.int .i64))), (10, (.ro (.int .i64)))], [(0, (.box (.st (.cons (.list 126 (.st (.cons .str (.cons (.int .i64) (.cons (.int .i64) (.cons (.int .i64) .nil)))))) (.cons (.list 52 (.st (.cons (.int .i64) (.cons .str .nil)))) (.cons .bool (.cons .ptr (.cons .ptr .nil)))))) (.agg (.cons (.ro (.list 126 (.st (.cons .str (.cons (.int .i64) (.cons (.int .i64) (.cons (.int .i64) .nil))))))) (.cons (.ro (.list 52 (.st (.cons (.int .i64) (.cons .str .nil))))) (.cons (.ro .bool) (.cons (.fn 92 (.cons (.p 10) (.cons (.p 12) .nil))) (.cons (.fn 93 (.cons (.p 14) .nil)) .nil)))))))), (10, (.box (.list 50 (.st (.cons (.list 54 (.st (.cons (.int .i64) (.cons (.int .i64) (.cons (.st (.cons (.int .i64) (.cons .str .nil))) .nil))))) .nil))) (.h 11))), (11, (.sl 50 (.st (.cons (.list 54 (.st (.cons (.int .i64) (.cons (.int .i64) (.cons (.st (.cons (.int .i64) (.cons .str .nil))) .nil))))) .nil)))), (12, (.box (.list 3 (.int .i64)) (.h 13))), (13, (.sl 3 (.int .i64))), (14, (.box .ptr (.fn 92 (.cons (.p 10) (.cons (.p 12) .nil)))))]⟩
def f226i12s3 : SS := ⟨[(0, (.p 0)), (2, (.ro (.int .i64))), (3, (.ro (.int .i64))), (9, (.ro (.int .i64))), (10, (.ro (.int .i64)))], [(0, (.box (.st (.cons (.list 126 (.st (.cons .str (.cons (.int .i64) (.cons (.int .i64) (.cons (.int .i64) .nil)))))) (.cons (.list 52 (.st (.cons (.int .i64) (.cons .str .nil)))) (.cons .bool (.cons .ptr (.cons .ptr .nil)))))) (.agg (.cons (.ro (.list 126 (.st (.cons .str (.cons (.int .i64) (.cons (.int .i64) (.cons (.int .i64) .nil))))))) (.cons (.ro (.list 52 (.st (.cons (.int .i64) (.cons .str .nil))))) (.cons (.ro .bool) (.cons (.fn 92 (.cons (.p 10) (.cons (.p 12) .nil))) (.cons (.fn 93 (.cons (.p 14) .nil)) .nil)))))))), (10, (.box (.list 50 (.st (.cons (.list 54 (.st (.cons (.int .i64) (.cons (.int .i64) (.cons (.st (.cons (.int .i64) (.cons .str .nil))) .nil))))) .nil))) (.h 11))), (11, (.sl 50 (.st (.cons (.list 54 (.st (.cons (.int .i64) (.cons (.int .i64) (.cons (.st (.cons (.int .i64) (.cons .str .nil))) .nil))))) .nil)))), (12, (.box (.list 3 (.int .i64)) (.h 13))), (13, (.sl 3 (.int .i64))), (14, (.box .ptr (.fn 92 (.cons (.p 10) (.cons (.p 12) .nil)))))]⟩
def f226i12con (F : Int → Int → Int → TWalkerB → Unit → (List TColumn) → Unit → (List Int) → (Unit × Unit × Unit) → Option (Int × TWalkerB × Unit × (List TColumn) × Unit × (List Int) × (Unit × Unit × Unit))) : Con := ⟨f226i12in, f226i12out, 4, 1, fun x => F x.1.2.1 x.1.2.2.1 x.1.2.2.2 x.2.1 x.2.2.1 x.2.2.2.1 x.2.2.2.2.1 x.2.2.2.2.2.1 x.2.2.2.2.2.2⟩
def f226i12ctx (k : Nat) : Ctx := ⟨tyAt tys, conAt [(93, [f93i14con (impl_Shred_2_of_Shred_1 k)]), (140, [f140con (impl_colAfter k)])], 41, fun _ => false⟩
theorem f226i12hc (k : Nat) : CtxOk Try.prog (f226i12ctx k) := ctxOk tys_ok mixed_ok (consOk_cons (f93i14ok k) (consOk_cons (f140ok k) (consOk_nil)))
theorem f226i12ok (k : Nat) : FnOk Try.prog 226 (f226i12con (impl_walker_missing_of_Shred_1_Shred_2 k)) :=
  let hc := f226i12hc k
  fnOk (fn := Try.f226) (code := bodyOf Try.f226) (res := [.tmp 8]) hc (by kernel_rfl) (by kernel_rfl) (by decide) (by kernel_rfl) (by kernel_rfl) (by kernel_rfl) (Nat.le_of_ble_eq_true (by kernel_rfl)) _
    (fun x => Snd.seq (by kernel_rfl) (Snd.seq (by kernel_rfl) (Snd.seq (by kernel_rfl) (Snd.exec hc _ _ _ _) (Snd.seq (by kernel_rfl) (Snd.block (id := 0) (by kernel_rfl) (Snd.loop' (by kernel_rfl) f226i12s3 (fun n x => impl_walker_missing_of_Shred_1_Shred_2.l3 k n x.1.2.1 x.1.2.2.1 x.1.2.2.2.1 x.1.2.2.2.2 x.2.1 x.2.2.1 x.2.2.2.1 x.2.2.2.2.1 x.2.2.2.2.2.1 x.2.2.2.2.2.2) _ (fun _ => rfl) (fun n3 => Snd.seq (by kernel_rfl) (Snd.seq (by kernel_rfl) (Snd.cut (Snd.exec hc _ _ _ _) ⟨f226i12s4, fun x => impl_walker_missing_of_Shred_1_Shred_2.c4 k (impl_walker_missing_of_Shred_1_Shred_2.l3 k n3) x.1.2.1 x.1.2.2.1 x.1.2.2.2.1 x.1.2.2.2.2 x.2.1 x.2.2.1 x.2.2.2.1 x.2.2.2.2.1 x.2.2.2.2.2.1 x.2.2.2.2.2.2⟩ (fun x => by kernel_rfl)) (Snd.exec hc _ _ _ _)) (Snd.exec hc _ _ _ _)) (fun n x => by kernel_rfl) k)) (Snd.exec hc _ _ _ _))) (Snd.exec hc _ _ _ _)) (Snd.exec hc _ _ _ _))
    (fun x => by kernel_rfl)

def f141i3in : SS := ⟨[(0, (.p 0)), (1, (.ro (.int .i64))), (2, (.ro (.int .i64))), (3, (.ro (.int .i64))), (4, (.ro (.int .i64)))], [(0, (.box (.st (.cons (.list 126 (.st (.cons .str (.cons (.int .i64) (.cons (.int .i64) (.cons (.int .i64) .nil)))))) (.cons (.list 52 (.st (.cons (.int .i64) (.cons .str .nil)))) (.cons .bool (.cons .ptr (.cons .ptr .nil)))))) (.agg (.cons (.ro (.list 126 (.st (.cons .str (.cons (.int .i64) (.cons (.int .i64) (.cons (.int .i64) .nil))))))) (.cons (.ro (.list 52 (.st (.cons (.int .i64) (.cons .str .nil))))) (.cons (.ro .bool) (.cons (.fn 92 (.cons (.p 10) (.cons (.p 12) .nil))) (.cons (.fn 93 (.cons (.p 14) .nil)) .nil)))))))), (10, (.box (.list 50 (.st (.cons (.list 54 (.st (.cons (.int .i64) (.cons (.int .i64) (.cons (.st (.cons (.int .i64) (.cons .str .nil))) .nil))))) .nil))) (.h 11))), (11, (.sl 50 (.st (.cons (.list 54 (.st (.cons (.int .i64) (.cons (.int .i64) (.cons (.st (.cons (.int .i64) (.cons .str .nil))) .nil))))) .nil)))), (12, (.box (.list 3 (.int .i64)) (.h 13))), (13, (.sl 3 (.int .i64))), (14, (.box .ptr (.fn 92 (.cons (.p 10) (.cons (.p 12) .nil)))))]⟩
def f141i3out : SS := ⟨[(0, (.ro (.int .i64)))], [(0, (.box (.st (.cons (.list 126 (.st (.cons .str (.cons (.int .i64) (.cons (.int .i64) (.cons (.int .i64) .nil)))))) (.cons (.list 52 (.st (.cons (.int .i64) (.cons .str .nil)))) (.cons .bool (.cons .ptr (.cons .ptr .nil)))))) (.agg (.cons (.ro (.list 126 (.st (.cons .str (.cons (.int .i64) (.cons (.int .i64) (.cons (.int .i64) .nil))))))) (.cons (.ro (.list 52 (.st (.cons (.int .i64) (.cons .str .nil))))) (.cons (.ro .bool) (.cons (.fn 92 (.cons (.p 10) (.cons (.p 12) .nil))) (.cons (.fn 93 (.cons (.p 14) .nil)) .nil)))))))), (10, (.box (.list 50 (.st (.cons (.list 54 (.st (.cons (.int .i64) (.cons (.int .i64) (.cons (.st (.cons (.int .i64) (.cons .str .nil))) .nil))))) .nil))) (.h 11))), (11, (.sl 50 (.st (.cons (.list 54 (.st (.cons (.int .i64) (.cons (.int .i64) (.cons (.st (.cons (.int .i64) (.cons .str .nil))) .nil))))) .nil)))), (12, (.box (.list 3 (.int .i64)) (.h 13))), (13, (.sl 3 (.int .i64))), (14, (.box .ptr (.fn 92 (.cons (.p 10) (.cons (.p 12) .nil)))))]⟩
def f141i3s14 : SS := ⟨[(12, (.ro (.int .i64)))], [(0, (.box (.st (.cons (.list 126 (.st (.cons .str (.cons (.int .i64) (.cons (.int .i64) (.cons (.int .i64) .nil)))))) (.cons (.list 52 (.st (.cons (.int .i64) (.cons .str .nil)))) (.cons .bool (.cons .ptr (.cons .ptr .nil)))))) (.agg (.cons (.ro (.list 126 (.st (.cons .str (.cons (.int .i64) (.cons (.int .i64) (.cons (.int .i64) .nil))))))) (.cons (.ro (.list 52 (.st (.cons (.int .i64) (.cons .str .nil))))) (.cons (.ro .bool) (.cons (.fn 92 (.cons (.p 10) (.cons (.p 12) .nil))) (.cons (.fn 93 (.cons (.p 14) .nil)) .nil)))))))), (10, (.box (.list 50 (.st (.cons (.list 54 (.st (.cons (.int .i64) (.cons (.int .i64) (.cons (.st (.cons (.int .i64) (.cons .str .nil))) .nil))))) .nil))) (.h 11))), (11, (.sl 50 (.st (.cons (.list 54 (.st (.cons (.int .i64) (.cons (.int .i64) (.cons (.st (.cons (.int .i64) (.cons .str .nil))) .nil))))) .nil)))), (12, (.box (.list 3 (.int .i64)) (.h 13))), (13, (.sl 3 (.int .i64))), (14, (.box .ptr (.fn 92 (.cons (.p 10) (.cons (.p 12) .nil)))))]⟩
def f141i3s10 : SS := ⟨[(0, (.p 0)), (2, (.ro (.int .i64))), (3, (.ro (.int .i64))), (4, (.ro (.int .i64))), (12, (.ro (.int .i64))), (70, (.ro (.int .i64))), (71, (.ro (.int .i64)))], [(0, (.box (.st (.cons (.list 126 (.st (.cons .str (.cons (.int .i64) (.cons (.int .i64) (.cons (.int .i64) .nil)))))) (.cons (.list 52 (.st (.cons (.int .i64) (.cons .str .nil)))) (.cons .bool (.cons .ptr (.cons .ptr .nil)))))) (.agg (.cons (.ro (.list 126 (.st (.cons .str (.cons (.int .i64) (.cons (.int .i64) (.cons (.int .i64) .nil))))))) (.cons (.ro (.list 52 (.st (.cons (.int .i64) (.cons .str .nil))))) (.cons (.ro .bool) (.cons (.fn 92 (.cons (.p 10) (.cons (.p 12) .nil))) (.cons (.fn 93 (.cons (.p 14) .nil)) .nil)))))))), (10, (.box (.list 50 (.st (.cons (.list 54 (.st (.cons (.int .i64) (.cons (.int .i64) (.cons (.st (.cons (.int .i64) (.cons .str .nil))) .nil))))) .nil))) (.h 11))), (11, (.sl 50 (.st (.cons (.list 54 (.st (.cons (.int .i64) (.cons (.int .i64) (.cons (.st (.cons (.int .i64) (.cons .str .nil))) .nil))))) .nil)))), (12, (.box (.list 3 (.int .i64)) (.h 13))), (13, (.sl 3 (.int .i64))), (14, (.box .ptr (.fn 92 (.cons (.p 10) (.cons (.p 12) .nil)))))]⟩
def f141i3s7 : SS := ⟨[(1, (.ro (.int .i64)))], [(0, (.box (.st (.cons (.list 126 (.st (.cons .str (.cons (.int .i64) (.cons (.int .i64) (.cons (.int .i64) .nil)))))) (.cons (.list 52 (.st (.cons (.int .i64) (.cons .str .nil)))) (.cons .bool (.cons .ptr (.cons .ptr .nil)))))) (.agg (.cons (.ro (.list 126 (.st (.cons .str (.cons (.int .i64) (.cons (.int .i64) (.cons (.int .i64) .nil))))))) (.cons (.ro (.list 52 (.st (.cons (.int .i64) (.cons .str .nil))))) (.cons (.ro .bool) (.cons (.fn 92 (.cons (.p 10) (.cons (.p 12) .nil))) (.cons (.fn 93 (.cons (.p 14) .nil)) .nil)))))))), (10, (.box (.list 50 (.st (.cons (.list 54 (.st (.cons (.int .i64) (.cons (.int .i64) (.cons (.st (.cons (.int .i64) (.cons .str .nil))) .nil))))) .nil))) (.h 11))), (11, (.sl 50 (.st (.cons (.list 54 (.st (.cons (.int .i64) (.cons (.int .i64) (.cons (.st (.cons (.int .i64) (.cons .str .nil))) .nil))))) .nil)))), (12, (.box (.list 3 (.int .i64)) (.h 13))), (13, (.sl 3 (.int .i64))), (14, (.box .ptr (.fn 92 (.cons (.p 10) (.cons (.p 12) .nil)))))]⟩
def f141i3s5 : SS := ⟨[(0, (.p 0)), (1, (.ro (.int .i64))), (2, (.ro (.int .i64))), (3, (.ro (.int .i64))), (11, (.p 100))], [(0, (.box (.st (.cons (.list 126 (.st (.cons .str (.cons (.int .i64) (.cons (.int .i64) (.cons (.int .i64) .nil)))))) (.cons (.list 52 (.st (.cons (.int .i64) (.cons .str .nil)))) (.cons .bool (.cons .ptr (.cons .ptr .nil)))))) (.agg (.cons (.ro (.list 126 (.st (.cons .str (.cons (.int .i64) (.cons (.int .i64) (.cons (.int .i64) .nil))))))) (.cons (.ro (.list 52 (.st (.cons (.int .i64) (.cons .str .nil))))) (.cons (.ro .bool) (.cons (.fn 92 (.cons (.p 10) (.cons (.p 12) .nil))) (.cons (.fn 93 (.cons (.p 14) .nil)) .nil)))))))), (10, (.box (.list 50 (.st (.cons (.list 54 (.st (.cons (.int .i64) (.cons (.int .i64) (.cons (.st (.cons (.int .i64) (.cons .str .nil))) .nil))))) .nil))) (.h 11))), (11, (.sl 50 (.st (.cons (.list 54 (.st (.cons (.int .i64) (.cons (.int .i64) (.cons (.st (.cons (.int .i64) (.cons .str .nil))) .nil))))) .nil)))), (12, (.box (.list 3 (.int .i64)) (.h 13))), (13, (.sl 3 (.int .i64))), (14, (.box .ptr (.fn 92 (.cons (.p 10) (.cons (.p 12) .nil))))), (100, (.box (.st (.cons (.int .i64) (.cons .str .nil))) (.agg (.cons (.ro (.int .i64)) (.cons (.ro .str) .nil)))))]⟩
def f141i3d3 : SS := ⟨[(0, (.p 0)), (1, (.ro (.int .i64))), (2, (.ro (.int .i64))), (3, (.ro (.int .i64))), (11, (.p 100))], [(0, (.box (.st (.cons (.list 126 (.st (.cons .str (.cons (.int .i64) (.cons (.int .i64) (.cons (.int .i64) .nil)))))) (.cons (.list 52 (.st (.cons (.int .i64) (.cons .str .nil)))) (.cons .bool (.cons .ptr (.cons .ptr .nil)))))) (.agg (.cons (.ro (.list 126 (.st (.cons .str (.cons (.int .i64) (.cons (.int .i64) (.cons (.int .i64) .nil))))))) (.cons (.ro (.list 52 (.st (.cons (.int .i64) (.cons .str .nil))))) (.cons (.ro .bool) (.cons (.fn 92 (.cons (.p 10) (.cons (.p 12) .nil))) (.cons (.fn 93 (.cons (.p 14) .nil)) .nil)))))))), (10, (.box (.list 50 (.st (.cons (.list 54 (.st (.cons (.int .i64) (.cons (.int .i64) (.cons (.st (.cons (.int .i64) (.cons .str .nil))) .nil))))) .nil))) (.h 11))), (11, (.sl 50 (.st (.cons (.list 54 (.st (.cons (.int .i64) (.cons (.int .i64) (.cons (.st (.cons (.int .i64) (.cons .str .nil))) .nil))))) .nil)))), (12, (.box (.list 3 (.int .i64)) (.h 13))), (13, (.sl 3 (.int .i64))), (14, (.box .ptr (.fn 92 (.cons (.p 10) (.cons (.p 12) .nil))))), (100, (.box (.st (.cons (.int .i64) (.cons .str .nil))) (.agg (.cons (.ro (.int .i64)) (.cons (.ro .str) .nil)))))]⟩
def f141i3con (F : Int → Int → Int → Int → TWalkerB → Unit → (List TColumn) → Unit → (List Int) → (Unit × Unit × Unit) → Option (Int × TWalkerB × Unit × (List TColumn) × Unit × (List Int) × (Unit × Unit × Unit))) : Con := ⟨f141i3in, f141i3out, 5, 1, fun x => F x.1.2.1 x.1.2.2.1 x.1.2.2.2.1 x.1.2.2.2.2 x.2.1 x.2.2.1 x.2.2.2.1 x.2.2.2.2.1 x.2.2.2.2.2.1 x.2.2.2.2.2.2⟩
def f197i6in : SS := ⟨[(0, (.p 0)), (1, (.ro (.int .i64))), (2, (.ro (.int .i64))), (3, (.ro (.int .i64))), (4, (.ro (.int .i64)))], [(0, (.box (.st (.cons (.list 126 (.st (.cons .str (.cons (.int .i64) (.cons (.int .i64) (.cons (.int .i64) .nil)))))) (.cons (.list 52 (.st (.cons (.int .i64) (.cons .str .nil)))) (.cons .bool (.cons .ptr (.cons .ptr .nil)))))) (.agg (.cons (.ro (.list 126 (.st (.cons .str (.cons (.int .i64) (.cons (.int .i64) (.cons (.int .i64) .nil))))))) (.cons (.ro (.list 52 (.st (.cons (.int .i64) (.cons .str .nil))))) (.cons (.ro .bool) (.cons (.fn 92 (.cons (.p 10) (.cons (.p 12) .nil))) (.cons (.fn 93 (.cons (.p 14) .nil)) .nil)))))))), (10, (.box (.list 50 (.st (.cons (.list 54 (.st (.cons (.int .i64) (.cons (.int .i64) (.cons (.st (.cons (.int .i64) (.cons .str .nil))) .nil))))) .nil))) (.h 11))), (11, (.sl 50 (.st (.cons (.list 54 (.st (.cons (.int .i64) (.cons (.int .i64) (.cons (.st (.cons (.int .i64) (.cons .str .nil))) .nil))))) .nil)))), (12, (.box (.list 3 (.int .i64)) (.h 13))), (13, (.sl 3 (.int .i64))), (14, (.box .ptr (.fn 92 (.cons (.p 10) (.cons (.p 12) .nil)))))]⟩
def f197i6out : SS := ⟨[(0, (.ro (.int .i64)))], [(0, (.box (.st (.cons (.list 126 (.st (.cons .str (.cons (.int .i64) (.cons (.int .i64) (.cons (.int .i64) .nil)))))) (.cons (.list 52 (.st (.cons (.int .i64) (.cons .str .nil)))) (.cons .bool (.cons .ptr (.cons .ptr .nil)))))) (.agg (.cons (.ro (.list 126 (.st (.cons .str (.cons (.int .i64) (.cons (.int .i64) (.cons (.int .i64) .nil))))))) (.cons (.ro (.list 52 (.st (.cons (.int .i64) (.cons .str .nil))))) (.cons (.ro .bool) (.cons (.fn 92 (.cons (.p 10) (.cons (.p 12) .nil))) (.cons (.fn 93 (.cons (.p 14) .nil)) .nil)))))))), (10, (.box (.list 50 (.st (.cons (.list 54 (.st (.cons (.int .i64) (.cons (.int .i64) (.cons (.st (.cons (.int .i64) (.cons .str .nil))) .nil))))) .nil))) (.h 11))), (11, (.sl 50 (.st (.cons (.list 54 (.st (.cons (.int .i64) (.cons (.int .i64) (.cons (.st (.cons (.int .i64) (.cons .str .nil))) .nil))))) .nil)))), (12, (.box (.list 3 (.int .i64)) (.h 13))), (13, (.sl 3 (.int .i64))), (14, (.box .ptr (.fn 92 (.cons (.p 10) (.cons (.p 12) .nil)))))]⟩
def f197i6s18 : SS := ⟨[(0, (.p 0)), (1, (.ro (.int .i64))), (2, (.ro (.int .i64))), (3, (.ro (.int .i64))), (4, (.ro (.int .i64)))], [(0, (.box (.st (.cons (.list 126 (.st (.cons .str (.cons (.int .i64) (.cons (.int .i64) (.cons (.int .i64) .nil)))))) (.cons (.list 52 (.st (.cons (.int .i64) (.cons .str .nil)))) (.cons .bool (.cons .ptr (.cons .ptr .nil)))))) (.agg (.cons (.ro (.list 126 (.st (.cons .str (.cons (.int .i64) (.cons (.int .i64) (.cons (.int .i64) .nil))))))) (.cons (.ro (.list 52 (.st (.cons (.int .i64) (.cons .str .nil))))) (.cons (.ro .bool) (.cons (.fn 92 (.cons (.p 10) (.cons (.p 12) .nil))) (.cons (.fn 93 (.cons (.p 14) .nil)) .nil)))))))), (10, (.box (.list 50 (.st (.cons (.list 54 (.st (.cons (.int .i64) (.cons (.int .i64) (.cons (.st (.cons (.int .i64) (.cons .str .nil))) .nil))))) .nil))) (.h 11))), (11, (.sl 50 (.st (.cons (.list 54 (.st (.cons (.int .i64) (.cons (.int .i64) (.cons (.st (.cons (.int .i64) (.cons .str .nil))) .nil))))) .nil)))), (12, (.box (.list 3 (.int .i64)) (.h 13))), (13, (.sl 3 (.int .i64))), (14, (.box .ptr (.fn 92 (.cons (.p 10) (.cons (.p 12) .nil)))))]⟩
def f197i6s14 : SS := ⟨[(0, (.p 0)), (1, (.ro (.int .i64))), (3, (.ro (.int .i64))), (4, (.ro (.int .i64))), (12, (.ro (.int .i64))), (13, (.ro (.int .i64)))], [(0, (.box (.st (.cons (.list 126 (.st (.cons .str (.cons (.int .i64) (.cons (.int .i64) (.cons (.int .i64) .nil)))))) (.cons (.list 52 (.st (.cons (.int .i64) (.cons .str .nil)))) (.cons .bool (.cons .ptr (.cons .ptr .nil)))))) (.agg (.cons (.ro (.list 126 (.st (.cons .str (.cons (.int .i64) (.cons (.int .i64) (.cons (.int .i64) .nil))))))) (.cons (.ro (.list 52 (.st (.cons (.int .i64) (.cons .str .nil))))) (.cons (.ro .bool) (.cons (.fn 92 (.cons (.p 10) (.cons (.p 12) .nil))) (.cons (.fn 93 (.cons (.p 14) .nil)) .nil)))))))), (10, (.box (.list 50 (.st (.cons (.list 54 (.st (.cons (.int .i64) (.cons (.int .i64) (.cons (.st (.cons (.int .i64) (.cons .str .nil))) .nil))))) .nil))) (.h 11))), (11, (.sl 50 (.st (.cons (.list 54 (.st (.cons (.int .i64) (.cons (.int .i64) (.cons (.st (.cons (.int .i64) (.cons .str .nil))) .nil))))) .nil)))), (12, (.box (.list 3 (.int .i64)) (.h 13))), (13, (.sl 3 (.int .i64))), (14, (.box .ptr (.fn 92 (.cons (.p 10) (.cons (.p 12) .nil)))))]⟩
def f197i6con (F : Int → Int → Int → Int → TWalkerB → Unit → (List TColumn) → Unit → (List Int) → (Unit × Unit × Unit) → Option (Int × TWalkerB × Unit × (List TColumn) × Unit × (List Int) × (Unit × Unit × Unit))) : Con := ⟨f197i6in, f197i6out, 5, 1, fun x => F x.1.2.1 x.1.2.2.1 x.1.2.2.2.1 x.1.2.2.2.2 x.2.1 x.2.2.1 x.2.2.2.1 x.2.2.2.2.1 x.2.2.2.2.2.1 x.2.2.2.2.2.2⟩
def f141i3ctx (k : Nat) (S141i3 : Int → Int → Int → Int → TWalkerB → Unit → (List TColumn) → Unit → (List Int) → (Unit × Unit × Unit) → Option (Int × TWalkerB × Unit × (List TColumn) × Unit × (List Int) × (Unit × Unit × Unit))) (S197i6 : Int → Int → Int → Int → TWalkerB → Unit → (List TColumn) → Unit → (List Int) → (Unit × Unit × Unit) → Option (Int × TWalkerB × Unit × (List TColumn) × Unit × (List Int) × (Unit × Unit × Unit))) : Ctx := ⟨tyAt tys, conAt [(92, [f92i11con (impl_Shred_1 k)]), (187, [f187con (impl_ValOk k)]), (196, [f196i5con (impl_walker_next_of_Shred_1_Shred_2 k)]), (197, [f197i6con S197i6])], 85, fun _ => false⟩
theorem f141i3hc (k : Nat) (S141i3 : Int → Int → Int → Int → TWalkerB → Unit → (List TColumn) → Unit → (List Int) → (Unit × Unit × Unit) → Option (Int × TWalkerB × Unit × (List TColumn) × Unit × (List Int) × (Unit × Unit × Unit))) (S197i6 : Int → Int → Int → Int → TWalkerB → Unit → (List TColumn) → Unit → (List Int) → (Unit × Unit × Unit) → Option (Int × TWalkerB × Unit × (List TColumn) × Unit × (List Int) × (Unit × Unit × Unit))) (h141i3 : FnOk Try.prog 141 (f141i3con S141i3)) (h197i6 : FnOk Try.prog 197 (f197i6con S197i6)) : CtxOk Try.prog (f141i3ctx k S141i3 S197i6) := ctxOk tys_ok mixed_ok (consOk_cons (f92i11ok k) (consOk_cons (f187ok k) (consOk_cons (f196i5ok k) (consOk_cons (h197i6) (consOk_nil)))))
theorem f141i3okb (k : Nat) (S141i3 : Int → Int → Int → Int → TWalkerB → Unit → (List TColumn) → Unit → (List Int) → (Unit × Unit × Unit) → Option (Int × TWalkerB × Unit × (List TColumn) × Unit × (List Int) × (Unit × Unit × Unit))) (S197i6 : Int → Int → Int → Int → TWalkerB → Unit → (List TColumn) → Unit → (List Int) → (Unit × Unit × Unit) → Option (Int × TWalkerB × Unit × (List TColumn) × Unit × (List Int) × (Unit × Unit × Unit))) (h141i3 : FnOk Try.prog 141 (f141i3con S141i3)) (h197i6 : FnOk Try.prog 197 (f197i6con S197i6)) : FnOk Try.prog 141 (f141i3con (impl_walker_body_of_Shred_1_Shred_2.b k S141i3 S197i6)) :=
  let hc := f141i3hc k S141i3 S197i6 h141i3 h197i6
  fnOk (fn := Try.f141) (code := bodyOf Try.f141) (res := [.tmp 10]) hc (by kernel_rfl) (by kernel_rfl) (by decide) (by kernel_rfl) (by kernel_rfl) (by kernel_rfl) (Nat.le_of_ble_eq_true (by kernel_rfl)) _
    (fun x => Snd.seq (by kernel_rfl) (Snd.seq (by kernel_rfl) (Snd.seq (by kernel_rfl) (Snd.seq (by kernel_rfl) (Snd.cut (Snd.exec hc _ _ _ _) ⟨f141i3s14, fun x => impl_walker_body_of_Shred_1_Shred_2.c14 k x.1 x.2.1 x.2.2.1 x.2.2.2.1 x.2.2.2.2.1 x.2.2.2.2.2.1 x.2.2.2.2.2.2⟩ (fun x => by kernel_rfl)) (Snd.seq (by kernel_rfl) (Snd.block (id := 0) (by kernel_rfl) (Snd.loop' (by kernel_rfl) f141i3s10 (fun n x => impl_walker_body_of_Shred_1_Shred_2.l10 k S197i6 n x.1.2.1 x.1.2.2.1 x.1.2.2.2.1 x.1.2.2.2.2.1 x.1.2.2.2.2.2.1 x.1.2.2.2.2.2.2 x.2.1 x.2.2.1 x.2.2.2.1 x.2.2.2.2.1 x.2.2.2.2.2.1 x.2.2.2.2.2.2) _ (fun _ => rfl) (fun n10 => Snd.exec hc _ _ _ _) (fun n x => by kernel_rfl) k)) (Snd.exec hc _ _ _ _))) (Snd.exec hc _ _ _ _)) (Snd.seq (by kernel_rfl) (Snd.cond (x := .tmp 21) (by kernel_rfl) (Snd.seq (by kernel_rfl) (Snd.seq (by kernel_rfl) (Snd.cut (Snd.seq (by kernel_rfl) (Snd.cut (Snd.exec hc _ _ _ _) ⟨f141i3s7, fun x => impl_walker_body_of_Shred_1_Shred_2.c7 k x.1 x.2.1 x.2.2.1 x.2.2.2.1 x.2.2.2.2.1 x.2.2.2.2.2.1 x.2.2.2.2.2.2⟩ (fun x => by kernel_rfl)) (Snd.exec hc _ _ _ _)) ⟨f141i3s5, fun x => impl_walker_body_of_Shred_1_Shred_2.c5 k x.1.2.1 x.1.2.2.1 x.1.2.2.2.1 x.2.1 x.2.2.1 x.2.2.2.1 x.2.2.2.2.1 x.2.2.2.2.2.1 x.2.2.2.2.2.2.1 x.2.2.2.2.2.2.2⟩ (fun x => by kernel_rfl)) (Snd.seq (by kernel_rfl) (Snd.exec hc _ _ _ _) (Snd.fork hc (id := 3) (by kernel_rfl) ⟨f141i3d3, fun x => impl_walker_body_of_Shred_1_Shred_2.d3 k x.1.2.1 x.1.2.2.1 x.1.2.2.2.1 x.2.1 x.2.2.1 x.2.2.2.1 x.2.2.2.2.1 x.2.2.2.2.2.1 x.2.2.2.2.2.2.1 x.2.2.2.2.2.2.2⟩ [[0, 1, 2, 3, 4, 5, 6, 7, 8, 10, 14, 9, 11, 12, 13, 15, 16, 17]] (by kernel_rfl) (ords_cons (fun x => by kernel_rfl) (ords_nil))))) (Snd.exec hc _ _ _ _)) (Snd.exec hc _ _ _ _)) (Snd.exec hc _ _ _ _))) (Snd.exec hc _ _ _ _))
    (fun x => by kernel_rfl)
def f197i6ctx (k : Nat) (S141i3 : Int → Int → Int → Int → TWalkerB → Unit → (List TColumn) → Unit → (List Int) → (Unit × Unit × Unit) → Option (Int × TWalkerB × Unit × (List TColumn) × Unit × (List Int) × (Unit × Unit × Unit))) (S197i6 : Int → Int → Int → Int → TWalkerB → Unit → (List TColumn) → Unit → (List Int) → (Unit × Unit × Unit) → Option (Int × TWalkerB × Unit × (List TColumn) × Unit × (List Int) × (Unit × Unit × Unit))) : Ctx := ⟨tyAt tys, conAt [(140, [f140con (impl_colAfter k)]), (141, [f141i3con S141i3]), (225, [f225i9con (impl_walker_count_of_Shred_1_Shred_2 k)]), (226, [f226i12con (impl_walker_missing_of_Shred_1_Shred_2 k)])], 86, fun _ => false⟩
theorem f197i6hc (k : Nat) (S141i3 : Int → Int → Int → Int → TWalkerB → Unit → (List TColumn) → Unit → (List Int) → (Unit × Unit × Unit) → Option (Int × TWalkerB × Unit × (List TColumn) × Unit × (List Int) × (Unit × Unit × Unit))) (S197i6 : Int → Int → Int → Int → TWalkerB → Unit → (List TColumn) → Unit → (List Int) → (Unit × Unit × Unit) → Option (Int × TWalkerB × Unit × (List TColumn) × Unit × (List Int) × (Unit × Unit × Unit))) (h141i3 : FnOk Try.prog 141 (f141i3con S141i3)) (h197i6 : FnOk Try.prog 197 (f197i6con S197i6)) : CtxOk Try.prog (f197i6ctx k S141i3 S197i6) := ctxOk tys_ok mixed_ok (consOk_cons (f140ok k) (consOk_cons (h141i3) (consOk_cons (f225i9ok k) (consOk_cons (f226i12ok k) (consOk_nil)))))
theorem f197i6okb (k : Nat) (S141i3 : Int → Int → Int → Int → TWalkerB → Unit → (List TColumn) → Unit → (List Int) → (Unit × Unit × Unit) → Option (Int × TWalkerB × Unit × (List TColumn) × Unit × (List Int) × (Unit × Unit × Unit))) (S197i6 : Int → Int → Int → Int → TWalkerB → Unit → (List TColumn) → Unit → (List Int) → (Unit × Unit × Unit) → Option (Int × TWalkerB × Unit × (List TColumn) × Unit × (List Int) × (Unit × Unit × Unit))) (h141i3 : FnOk Try.prog 141 (f141i3con S141i3)) (h197i6 : FnOk Try.prog 197 (f197i6con S197i6)) : FnOk Try.prog 197 (f197i6con (impl_walker_col_of_Shred_1_Shred_2.b k S141i3 S197i6)) :=
  let hc := f197i6hc k S141i3 S197i6 h141i3 h197i6
  fnOk (fn := Try.f197) (code := bodyOf Try.f197) (res := [.tmp 10]) hc (by kernel_rfl) (by kernel_rfl) (by decide) (by kernel_rfl) (by kernel_rfl) (by kernel_rfl) (Nat.le_of_ble_eq_true (by kernel_rfl)) _
    (fun x => Snd.seq (by kernel_rfl) (Snd.seq (by kernel_rfl) (Snd.cut (Snd.exec hc _ _ _ _) ⟨f197i6s18, fun x => impl_walker_col_of_Shred_1_Shred_2.c18 k S141i3 x.1.2.1 x.1.2.2.1 x.1.2.2.2.1 x.1.2.2.2.2 x.2.1 x.2.2.1 x.2.2.2.1 x.2.2.2.2.1 x.2.2.2.2.2.1 x.2.2.2.2.2.2⟩ (fun x => by kernel_rfl)) (Snd.seq (by kernel_rfl) (Snd.block (id := 0) (by kernel_rfl) (Snd.seq (by kernel_rfl) (Snd.cond (x := .tmp 22) (by kernel_rfl) (Snd.exec hc _ _ _ _) (Snd.seq (by kernel_rfl) (Snd.cond (x := .tmp 35) (by kernel_rfl) (Snd.seq (by kernel_rfl) (Snd.seq (by kernel_rfl) (Snd.seq (by kernel_rfl) (Snd.seq (by kernel_rfl) (Snd.seq (by kernel_rfl) (Snd.exec hc _ _ _ _) (Snd.seq (by kernel_rfl) (Snd.block (id := 1) (by kernel_rfl) (Snd.loop' (by kernel_rfl) f197i6s14 (fun n x => impl_walker_col_of_Shred_1_Shred_2.l14 k S141i3 n x.1.2.1 x.1.2.2.1 x.1.2.2.2.1 x.1.2.2.2.2.1 x.1.2.2.2.2.2 x.2.1 x.2.2.1 x.2.2.2.1 x.2.2.2.2.1 x.2.2.2.2.2.1 x.2.2.2.2.2.2) _ (fun _ => rfl) (fun n14 => Snd.exec hc _ _ _ _) (fun n x => by kernel_rfl) k)) (Snd.exec hc _ _ _ _))) (Snd.exec hc _ _ _ _)) (Snd.exec hc _ _ _ _)) (Snd.exec hc _ _ _ _)) (Snd.exec hc _ _ _ _)) (Snd.exec hc _ _ _ _)) (Snd.exec hc _ _ _ _))) (Snd.exec hc _ _ _ _))) (Snd.exec hc _ _ _ _))) (Snd.exec hc _ _ _ _))
    (fun x => by kernel_rfl)
theorem f141i3rec (k : Nat) : ∀ d, FnOk Try.prog 141 (f141i3con (impl_walker_body_of_Shred_1_Shred_2.d k d)) ∧ FnOk Try.prog 197 (f197i6con (impl_walker_col_of_Shred_1_Shred_2.d k d))
  | 0 => ⟨FnOk_none (fun _ => rfl), FnOk_none (fun _ => rfl)⟩
  | d + 1 => let ih := f141i3rec k d
    ⟨f141i3okb k (impl_walker_body_of_Shred_1_Shred_2.d k d) (impl_walker_col_of_Shred_1_Shred_2.d k d) ih.1 ih.2, f197i6okb k (impl_walker_body_of_Shred_1_Shred_2.d k d) (impl_walker_col_of_Shred_1_Shred_2.d k d) ih.1 ih.2⟩
theorem f141i3ok (k : Nat) : FnOk Try.prog 141 (f141i3con (impl_walker_body_of_Shred_1_Shred_2 k)) := (f141i3rec k k).1
theorem f197i6ok (k : Nat) : FnOk Try.prog 197 (f197i6con (impl_walker_col_of_Shred_1_Shred_2 k)) := (f141i3rec k k).2

def f69i1in : SS := ⟨[(0, (.ro (.list 126 (.st (.cons .str (.cons (.int .i64) (.cons (.int .i64) (.cons (.int .i64) .nil)))))))), (1, (.ro (.st (.cons (.list 52 (.st (.cons (.int .i64) (.cons .str .nil)))) .nil)))), (2, (.fn 92 (.cons (.p 10) (.cons (.p 12) .nil)))), (3, (.fn 93 (.cons (.p 14) .nil)))], [(10, (.box (.list 50 (.st (.cons (.list 54 (.st (.cons (.int .i64) (.cons (.int .i64) (.cons (.st (.cons (.int .i64) (.cons .str .nil))) .nil))))) .nil))) (.h 11))), (11, (.sl 50 (.st (.cons (.list 54 (.st (.cons (.int .i64) (.cons (.int .i64) (.cons (.st (.cons (.int .i64) (.cons .str .nil))) .nil))))) .nil)))), (12, (.box (.list 3 (.int .i64)) (.h 13))), (13, (.sl 3 (.int .i64))), (14, (.box .ptr (.fn 92 (.cons (.p 10) (.cons (.p 12) .nil)))))]⟩
def f69i1out : SS := ⟨[(0, (.ro .bool))], [(10, (.box (.list 50 (.st (.cons (.list 54 (.st (.cons (.int .i64) (.cons (.int .i64) (.cons (.st (.cons (.int .i64) (.cons .str .nil))) .nil))))) .nil))) (.h 11))), (11, (.sl 50 (.st (.cons (.list 54 (.st (.cons (.int .i64) (.cons (.int .i64) (.cons (.st (.cons (.int .i64) (.cons .str .nil))) .nil))))) .nil)))), (12, (.box (.list 3 (.int .i64)) (.h 13))), (13, (.sl 3 (.int .i64))), (14, (.box .ptr (.fn 92 (.cons (.p 10) (.cons (.p 12) .nil)))))]⟩
def f69i1con (F : (List TCol) → TRec → (Unit × Unit × Unit) → (Unit × Unit) → Unit → (List TColumn) → Unit → (List Int) → (Unit × Unit × Unit) → Option (Bool × Unit × (List TColumn) × Unit × (List Int) × (Unit × Unit × Unit))) : Con := ⟨f69i1in, f69i1out, 4, 1, fun x => F x.1.1 x.1.2.1 x.1.2.2.1 x.1.2.2.2 x.2.1 x.2.2.1 x.2.2.2.1 x.2.2.2.2.1 x.2.2.2.2.2⟩
def f69i1ctx (k : Nat) : Ctx := ⟨tyAt tys, conAt [(141, [f141i3con (impl_walker_body_of_Shred_1_Shred_2 k)])], 36, fun _ => false⟩
theorem f69i1hc (k : Nat) : CtxOk Try.prog (f69i1ctx k) := ctxOk tys_ok mixed_ok (consOk_cons (f141i3ok k) (consOk_nil))
theorem f69i1ok (k : Nat) : FnOk Try.prog 69 (f69i1con (impl_walk_of_Shred_1_Shred_2 k)) :=
  let hc := f69i1hc k
  fnOk (fn := Try.f69) (code := bodyOf Try.f69) (res := [.tmp 8]) hc (by kernel_rfl) (by kernel_rfl) (by decide) (by kernel_rfl) (by kernel_rfl) (by kernel_rfl) (Nat.le_of_ble_eq_true (by kernel_rfl)) _
    (fun x => Snd.exec hc _ _ _ _)
    (fun x => by kernel_rfl)

def f25in : SS := ⟨[(0, (.ro (.list 126 (.st (.cons .str (.cons (.int .i64) (.cons (.int .i64) (.cons (.int .i64) .nil)))))))), (1, (.ro (.list 27 (.st (.cons (.list 52 (.st (.cons (.int .i64) (.cons .str .nil)))) .nil)))))], []⟩
def f25out : SS := ⟨[(0, (.h 100)), (1, (.ro .bool))], [(100, (.sl 50 (.st (.cons (.list 54 (.st (.cons (.int .i64) (.cons (.int .i64) (.cons (.st (.cons (.int .i64) (.cons .str .nil))) .nil))))) .nil))))]⟩
def f25s14 : SS := ⟨[(7, (.p 100)), (43, (.h 101)), (44, (.ro (.int .i64))), (45, (.ro (.int .i64)))], [(100, (.box (.list 50 (.st (.cons (.list 54 (.st (.cons (.int .i64) (.cons (.int .i64) (.cons (.st (.cons (.int .i64) (.cons .str .nil))) .nil))))) .nil))) (.h 101))), (101, (.sl 50 (.st (.cons (.list 54 (.st (.cons (.int .i64) (.cons (.int .i64) (.cons (.st (.cons (.int .i64) (.cons .str .nil))) .nil))))) .nil))))]⟩
def f25s8 : SS := ⟨[(0, (.ro (.list 126 (.st (.cons .str (.cons (.int .i64) (.cons (.int .i64) (.cons (.int .i64) .nil)))))))), (7, (.p 100)), (8, (.p 101)), (9, (.fn 93 (.cons (.p 101) .nil))), (30, (.ro (.list 27 (.st (.cons (.list 52 (.st (.cons (.int .i64) (.cons .str .nil)))) .nil))))), (31, (.ro (.int .i64))), (32, (.ro (.int .i64)))], [(100, (.box (.list 50 (.st (.cons (.list 54 (.st (.cons (.int .i64) (.cons (.int .i64) (.cons (.st (.cons (.int .i64) (.cons .str .nil))) .nil))))) .nil))) (.h 102))), (101, (.box .ptr (.fn 92 (.cons (.p 100) (.cons (.p 103) .nil))))), (102, (.sl 50 (.st (.cons (.list 54 (.st (.cons (.int .i64) (.cons (.int .i64) (.cons (.st (.cons (.int .i64) (.cons .str .nil))) .nil))))) .nil)))), (103, (.box (.list 3 (.int .i64)) (.h 104))), (104, (.sl 3 (.int .i64)))]⟩
def f25con (F : (List TCol) → (List TRec) → Option ((Unit × Bool) × (List TColumn))) : Con := ⟨f25in, f25out, 2, 2, fun x => F x.1 x.2⟩
def f25ctx (k : Nat) : Ctx := ⟨tyAt tys, conAt [(68, [f68con (impl_SchemaOk k)]), (69, [f69i1con (impl_walk_of_Shred_1_Shred_2 k)]), (90, [f90con (impl_leafNumbers k)]), (91, [f91con (impl_leavesOf k)])], 55, fun _ => false⟩
theorem f25hc (k : Nat) : CtxOk Try.prog (f25ctx k) := ctxOk tys_ok mixed_ok (consOk_cons (f68ok k) (consOk_cons (f69i1ok k) (consOk_cons (f90ok k) (consOk_cons (f91ok k) (consOk_nil)))))
theorem f25ok (k : Nat) : FnOk Try.prog 25 (f25con (impl_Shred k)) :=
  let hc := f25hc k
  fnOk (fn := Try.f25) (code := bodyOf Try.f25) (res := [.tmp 4, .tmp 5]) hc (by kernel_rfl) (by kernel_rfl) (by decide) (by kernel_rfl) (by kernel_rfl) (by kernel_rfl) (Nat.le_of_ble_eq_true (by kernel_rfl)) _
    (fun x => Snd.seq (by kernel_rfl) (Snd.seq (by kernel_rfl) (Snd.seq (by kernel_rfl) (Snd.seq (by kernel_rfl) (Snd.seq (by kernel_rfl) (Snd.seq (by kernel_rfl) (Snd.seq (by kernel_rfl) (Snd.seq (by kernel_rfl) (Snd.exec hc _ _ _ _) (Snd.seq (by kernel_rfl) (Snd.block (id := 2) (by kernel_rfl) (Snd.loop' (by kernel_rfl) f25s14 (fun n x => impl_Shred.l14 k n x.1.2.2.1 x.1.2.2.2 x.2.1 x.2.2) _ (fun _ => rfl) (fun n14 => Snd.exec hc _ _ _ _) (fun n x => by kernel_rfl) k)) (Snd.exec hc _ _ _ _))) (Snd.seq (by kernel_rfl) (Snd.block (id := 0) (by kernel_rfl) (Snd.loop' (by kernel_rfl) f25s8 (fun n x => impl_Shred.l8 k n x.1.1 x.1.2.2.2.1 x.1.2.2.2.2.1 x.1.2.2.2.2.2.1 x.1.2.2.2.2.2.2 x.2.1 x.2.2.1 x.2.2.2.1 x.2.2.2.2.1 x.2.2.2.2.2) _ (fun _ => rfl) (fun n8 => Snd.exec hc _ _ _ _) (fun n x => by kernel_rfl) k)) (Snd.exec hc _ _ _ _))) (Snd.exec hc _ _ _ _)) (Snd.exec hc _ _ _ _)) (Snd.exec hc _ _ _ _)) (Snd.exec hc _ _ _ _)) (Snd.exec hc _ _ _ _)) (Snd.exec hc _ _ _ _))
    (fun x => by kernel_rfl)

def f74in : SS := ⟨[(0, (.ro (.int .i64))), (1, (.ro (.int .i64))), (2, (.ro (.int .i64)))], []⟩
def f74out : SS := ⟨[(0, (.ro .bool))], []⟩
def f74con (F : Int → Int → Int → Option Bool) : Con := ⟨f74in, f74out, 3, 1, fun x => F x.1 x.2.1 x.2.2⟩
def f74ctx (k : Nat) : Ctx := ⟨tyAt tys, conAt [], 15, fun _ => false⟩
theorem f74hc (k : Nat) : CtxOk Try.prog (f74ctx k) := ctxOk tys_ok mixed_ok (consOk_nil)
theorem f74ok (k : Nat) : FnOk Try.prog 74 (f74con (spec_l1In k)) :=
  let hc := f74hc k
  fnOk (fn := Try.f74) (code := bodyOf Try.f74) (res := [.tmp 6]) hc (by kernel_rfl) (by kernel_rfl) (by decide) (by kernel_rfl) (by kernel_rfl) (by kernel_rfl) (Nat.le_of_ble_eq_true (by kernel_rfl)) _
    (fun x => Snd.exec hc _ _ _ _)
    (fun x => by kernel_rfl)

def f145in : SS := ⟨[(0, (.ro .str))], []⟩
def f145out : SS := ⟨[(0, (.ro .bool))], []⟩
def f145s4 : SS := ⟨[(0, (.ro .str)), (3, (.ro (.int .i64)))], []⟩
def f145con (F : ByteArray → Option Bool) : Con := ⟨f145in, f145out, 1, 1, fun x => F x⟩
def f145ctx (k : Nat) : Ctx := ⟨tyAt tys, conAt [(74, [f74con (spec_l1In k)])], 24, fun _ => false⟩
theorem f145hc (k : Nat) : CtxOk Try.prog (f145ctx k) := ctxOk tys_ok mixed_ok (consOk_cons (f74ok k) (consOk_nil))
theorem f145ok (k : Nat) : FnOk Try.prog 145 (f145con (spec_l5Name k)) :=
  let hc := f145hc k
  fnOk (fn := Try.f145) (code := bodyOf Try.f145) (res := [.tmp 2]) hc (by kernel_rfl) (by kernel_rfl) (by decide) (by kernel_rfl) (by kernel_rfl) (by kernel_rfl) (Nat.le_of_ble_eq_true (by kernel_rfl)) _
    (fun x => Snd.seq (by kernel_rfl) (Snd.seq (by kernel_rfl) (Snd.seq (by kernel_rfl) (Snd.exec hc _ _ _ _) (Snd.seq (by kernel_rfl) (Snd.block (id := 0) (by kernel_rfl) (Snd.loop' (by kernel_rfl) f145s4 (fun n x => spec_l5Name.l4 k n x.1 x.2) _ (fun _ => rfl) (fun n4 => Snd.exec hc _ _ _ _) (fun n x => by kernel_rfl) k)) (Snd.exec hc _ _ _ _))) (Snd.exec hc _ _ _ _)) (Snd.exec hc _ _ _ _))
    (fun x => by kernel_rfl)

def f146in : SS := ⟨[(0, (.ro (.int .i64)))], []⟩
def f146out : SS := ⟨[(0, (.ro .bool))], []⟩
def f146s7 : SS := ⟨[(4, (.ro .bool))], []⟩
def f146con (F : Int → Option Bool) : Con := ⟨f146in, f146out, 1, 1, fun x => F x⟩
def f146ctx (k : Nat) : Ctx := ⟨tyAt tys, conAt [], 10, fun _ => false⟩
theorem f146hc (k : Nat) : CtxOk Try.prog (f146ctx k) := ctxOk tys_ok mixed_ok (consOk_nil)
theorem f146ok (k : Nat) : FnOk Try.prog 146 (f146con (spec_l5Type k)) :=
  let hc := f146hc k
  fnOk (fn := Try.f146) (code := bodyOf Try.f146) (res := [.tmp 2]) hc (by kernel_rfl) (by kernel_rfl) (by decide) (by kernel_rfl) (by kernel_rfl) (by kernel_rfl) (Nat.le_of_ble_eq_true (by kernel_rfl)) _
    (fun x => Snd.seq (by kernel_rfl) (Snd.seq (by kernel_rfl) (Snd.exec hc _ _ _ _) (Snd.seq (by kernel_rfl) (Snd.block (id := 0) (by kernel_rfl) (Snd.seq (by kernel_rfl) (Snd.cut (Snd.exec hc _ _ _ _) ⟨f146s7, fun x => spec_l5Type.c7 k x⟩ (fun x => by kernel_rfl)) (Snd.exec hc _ _ _ _))) (Snd.exec hc _ _ _ _))) (Snd.exec hc _ _ _ _))
    (fun x => by kernel_rfl)

def f75in : SS := ⟨[(0, (.ro (.list 126 (.st (.cons .str (.cons (.int .i64) (.cons (.int .i64) (.cons (.int .i64) .nil)))))))), (1, (.ro (.int .i64))), (2, (.ro (.int .i64)))], []⟩
def f75out : SS := ⟨[(0, (.ro (.int .i64)))], []⟩
def f75s20 : SS := ⟨[(0, (.ro (.list 126 (.st (.cons .str (.cons (.int .i64) (.cons (.int .i64) (.cons (.int .i64) .nil)))))))), (2, (.ro (.int .i64))), (7, (.p 100)), (8, (.ro (.int .i64))), (9, (.h 101)), (10, (.ro (.int .i64))), (11, (.ro (.int .i64)))], [(100, (.box (.st (.cons .str (.cons (.int .i64) (.cons (.int .i64) (.cons (.int .i64) .nil))))) (.agg (.cons (.ro .str) (.cons (.ro (.int .i64)) (.cons (.ro (.int .i64)) (.cons (.ro (.int .i64)) .nil))))))), (101, (.sl 9 .str))]⟩
def f75s15 : SS := ⟨[(0, (.ro (.list 126 (.st (.cons .str (.cons (.int .i64) (.cons (.int .i64) (.cons (.int .i64) .nil)))))))), (2, (.ro (.int .i64))), (7, (.p 100)), (8, (.ro (.int .i64))), (9, (.h 101)), (10, (.ro (.int .i64)))], [(100, (.box (.st (.cons .str (.cons (.int .i64) (.cons (.int .i64) (.cons (.int .i64) .nil))))) (.agg (.cons (.ro .str) (.cons (.ro (.int .i64)) (.cons (.ro (.int .i64)) (.cons (.ro (.int .i64)) .nil))))))), (101, (.sl 9 .str))]⟩
def f75con (F : (List TCol) → Int → Int → Option Int) : Con := ⟨f75in, f75out, 3, 1, fun x => F x.1 x.2.1 x.2.2⟩
def f75ctx (k : Nat) (S75 : (List TCol) → Int → Int → Option Int) : Ctx := ⟨tyAt tys, conAt [(74, [f74con (spec_l1In k)]), (75, [f75con S75]), (145, [f145con (spec_l5Name k)]), (146, [f146con (spec_l5Type k)])], 119, fun _ => false⟩
theorem f75hc (k : Nat) (S75 : (List TCol) → Int → Int → Option Int) (h75 : FnOk Try.prog 75 (f75con S75)) : CtxOk Try.prog (f75ctx k S75) := ctxOk tys_ok mixed_ok (consOk_cons (f74ok k) (consOk_cons (h75) (consOk_cons (f145ok k) (consOk_cons (f146ok k) (consOk_nil)))))
theorem f75okb (k : Nat) (S75 : (List TCol) → Int → Int → Option Int) (h75 : FnOk Try.prog 75 (f75con S75)) : FnOk Try.prog 75 (f75con (spec_l5Check.b k S75)) :=
  let hc := f75hc k S75 h75
  fnOk (fn := Try.f75) (code := bodyOf Try.f75) (res := [.tmp 6]) hc (by kernel_rfl) (by kernel_rfl) (by decide) (by kernel_rfl) (by kernel_rfl) (by kernel_rfl) (Nat.le_of_ble_eq_true (by kernel_rfl)) _
    (fun x => Snd.seq (by kernel_rfl) (Snd.seq (by kernel_rfl) (Snd.seq (by kernel_rfl) (Snd.seq (by kernel_rfl) (Snd.seq (by kernel_rfl) (Snd.seq (by kernel_rfl) (Snd.seq (by kernel_rfl) (Snd.seq (by kernel_rfl) (Snd.seq (by kernel_rfl) (Snd.exec hc _ _ _ _) (Snd.seq (by kernel_rfl) (Snd.block (id := 0) (by kernel_rfl) (Snd.loop' (by kernel_rfl) f75s15 (fun n x => spec_l5Check.l15 k S75 n x.1.1 x.1.2.1 x.1.2.2.2.1 x.1.2.2.2.2.2 x.2.1 x.2.2) _ (fun _ => rfl) (fun n15 => Snd.seq (by kernel_rfl) (Snd.seq (by kernel_rfl) (Snd.exec hc _ _ _ _) (Snd.block (id := 1) (by kernel_rfl) (Snd.seq (by kernel_rfl) (Snd.seq (by kernel_rfl) (Snd.exec hc _ _ _ _) (Snd.seq (by kernel_rfl) (Snd.block (id := 2) (by kernel_rfl) (Snd.loop' (by kernel_rfl) f75s20 (fun n x => spec_l5Check.l20 k S75 (spec_l5Check.l15 k S75 n15) n x.1.1 x.1.2.1 x.1.2.2.2.1 x.1.2.2.2.2.2.1 x.1.2.2.2.2.2.2 x.2.1 x.2.2) _ (fun _ => rfl) (fun n20 => Snd.exec hc _ _ _ _) (fun n x => by kernel_rfl) k)) (Snd.exec hc _ _ _ _))) (Snd.exec hc _ _ _ _)))) (Snd.exec hc _ _ _ _)) (fun n x => by kernel_rfl) k)) (Snd.exec hc _ _ _ _))) (Snd.exec hc _ _ _ _)) (Snd.exec hc _ _ _ _)) (Snd.exec hc _ _ _ _)) (Snd.exec hc _ _ _ _)) (Snd.exec hc _ _ _ _)) (Snd.exec hc _ _ _ _)) (Snd.exec hc _ _ _ _)) (Snd.exec hc _ _ _ _))
    (fun x => by kernel_rfl)
theorem f75rec (k : Nat) : ∀ d, FnOk Try.prog 75 (f75con (spec_l5Check.d k d))
  | 0 => FnOk_none (fun _ => rfl)
  | d + 1 => let ih := f75rec k d
    f75okb k (spec_l5Check.d k d) ih
theorem f75ok (k : Nat) : FnOk Try.prog 75 (f75con (spec_l5Check k)) := (f75rec k k)

def f17in : SS := ⟨[(0, (.ro (.list 126 (.st (.cons .str (.cons (.int .i64) (.cons (.int .i64) (.cons (.int .i64) .nil))))))))], []⟩
def f17out : SS := ⟨[(0, (.ro .bool))], []⟩
def f17con (F : (List TCol) → Option Bool) : Con := ⟨f17in, f17out, 1, 1, fun x => F x⟩
def f17ctx (k : Nat) : Ctx := ⟨tyAt tys, conAt [(74, [f74con (spec_l1In k)]), (75, [f75con (spec_l5Check k)])], 13, fun _ => false⟩
theorem f17hc (k : Nat) : CtxOk Try.prog (f17ctx k) := ctxOk tys_ok mixed_ok (consOk_cons (f74ok k) (consOk_cons (f75ok k) (consOk_nil)))
theorem f17ok (k : Nat) : FnOk Try.prog 17 (f17con (spec_SchemaOk k)) :=
  let hc := f17hc k
  fnOk (fn := Try.f17) (code := bodyOf Try.f17) (res := [.tmp 2]) hc (by kernel_rfl) (by kernel_rfl) (by decide) (by kernel_rfl) (by kernel_rfl) (by kernel_rfl) (Nat.le_of_ble_eq_true (by kernel_rfl)) _
    (fun x => Snd.exec hc _ _ _ _)
    (fun x => by kernel_rfl)

def f166in : SS := ⟨[(0, (.ro (.int .i64)))], []⟩
def f166out : SS := ⟨[(0, (.ro .bool))], []⟩
def f166con (F : Int → Option Bool) : Con := ⟨f166in, f166out, 1, 1, fun x => F x⟩
def f166ctx (k : Nat) : Ctx := ⟨tyAt tys, conAt [(74, [f74con (spec_l1In k)])], 5, fun _ => false⟩
theorem f166hc (k : Nat) : CtxOk Try.prog (f166ctx k) := ctxOk tys_ok mixed_ok (consOk_cons (f74ok k) (consOk_nil))
theorem f166ok (k : Nat) : FnOk Try.prog 166 (f166con (spec_l4Int k)) :=
  let hc := f166hc k
  fnOk (fn := Try.f166) (code := bodyOf Try.f166) (res := [.tmp 2]) hc (by kernel_rfl) (by kernel_rfl) (by decide) (by kernel_rfl) (by kernel_rfl) (by kernel_rfl) (Nat.le_of_ble_eq_true (by kernel_rfl)) _
    (fun x => Snd.exec hc _ _ _ _)
    (fun x => by kernel_rfl)

def f142in : SS := ⟨[(0, (.ro (.int .i64))), (1, (.ro (.st (.cons (.int .i64) (.cons .str .nil)))))], []⟩
def f142out : SS := ⟨[(0, (.ro .bool))], []⟩
def f142s8 : SS := ⟨[(3, (.p 100)), (5, (.ro (.int .i64))), (26, (.ro .bool))], [(100, (.box (.st (.cons (.int .i64) (.cons .str .nil))) (.agg (.cons (.ro (.int .i64)) (.cons (.ro .str) .nil)))))]⟩
def f142con (F : Int → TVal → Option Bool) : Con := ⟨f142in, f142out, 2, 1, fun x => F x.1 x.2⟩
def f142ctx (k : Nat) : Ctx := ⟨tyAt tys, conAt [(74, [f74con (spec_l1In k)]), (166, [f166con (spec_l4Int k)])], 43, fun _ => false⟩
theorem f142hc (k : Nat) : CtxOk Try.prog (f142ctx k) := ctxOk tys_ok mixed_ok (consOk_cons (f74ok k) (consOk_cons (f166ok k) (consOk_nil)))
theorem f142ok (k : Nat) : FnOk Try.prog 142 (f142con (spec_ValOk k)) :=
  let hc := f142hc k
  fnOk (fn := Try.f142) (code := bodyOf Try.f142) (res := [.tmp 4]) hc (by kernel_rfl) (by kernel_rfl) (by decide) (by kernel_rfl) (by kernel_rfl) (by kernel_rfl) (Nat.le_of_ble_eq_true (by kernel_rfl)) _
    (fun x => Snd.seq (by kernel_rfl) (Snd.seq (by kernel_rfl) (Snd.exec hc _ _ _ _) (Snd.seq (by kernel_rfl) (Snd.block (id := 0) (by kernel_rfl) (Snd.seq (by kernel_rfl) (Snd.cond (x := .tmp 6) (by kernel_rfl) (Snd.exec hc _ _ _ _) (Snd.seq (by kernel_rfl) (Snd.cond (x := .tmp 16) (by kernel_rfl) (Snd.exec hc _ _ _ _) (Snd.seq (by kernel_rfl) (Snd.cut (Snd.exec hc _ _ _ _) ⟨f142s8, fun x => spec_ValOk.c8 k x.1.2.1 x.1.2.2 x.2⟩ (fun x => by kernel_rfl)) (Snd.exec hc _ _ _ _))) (Snd.exec hc _ _ _ _))) (Snd.exec hc _ _ _ _))) (Snd.exec hc _ _ _ _))) (Snd.exec hc _ _ _ _))
    (fun x => by kernel_rfl)

def f198in : SS := ⟨[(0, (.ro (.st (.cons (.int .i64) (.cons .str .nil))))), (1, (.ro (.int .i64)))], []⟩
def f198out : SS := ⟨[(0, (.ro (.int .i64)))], []⟩
def f198con (F : TVal → Int → Option Int) : Con := ⟨f198in, f198out, 2, 1, fun x => F x.1 x.2⟩
def f198ctx (k : Nat) : Ctx := ⟨tyAt tys, conAt [(74, [f74con (spec_l1In k)])], 17, fun _ => false⟩
theorem f198hc (k : Nat) : CtxOk Try.prog (f198ctx k) := ctxOk tys_ok mixed_ok (consOk_cons (f74ok k) (consOk_nil))
theorem f198ok (k : Nat) : FnOk Try.prog 198 (f198con (spec_l13Count k)) :=
  let hc := f198hc k
  fnOk (fn := Try.f198) (code := bodyOf Try.f198) (res := [.tmp 4]) hc (by kernel_rfl) (by kernel_rfl) (by decide) (by kernel_rfl) (by kernel_rfl) (by kernel_rfl) (Nat.le_of_ble_eq_true (by kernel_rfl)) _
    (fun x => Snd.exec hc _ _ _ _)
    (fun x => by kernel_rfl)

def f144in : SS := ⟨[(0, (.ro (.list 126 (.st (.cons .str (.cons (.int .i64) (.cons (.int .i64) (.cons (.int .i64) .nil)))))))), (1, (.ro (.int .i64)))], []⟩
def f144out : SS := ⟨[(0, (.ro (.int .i64)))], []⟩
def f144s3 : SS := ⟨[(0, (.ro (.list 126 (.st (.cons .str (.cons (.int .i64) (.cons (.int .i64) (.cons (.int .i64) .nil)))))))), (1, (.ro (.int .i64))), (5, (.ro (.int .i64))), (6, (.ro (.int .i64)))], []⟩
def f144con (F : (List TCol) → Int → Option Int) : Con := ⟨f144in, f144out, 2, 1, fun x => F x.1 x.2⟩
def f144ctx (k : Nat) (S144 : (List TCol) → Int → Option Int) : Ctx := ⟨tyAt tys, conAt [(144, [f144con S144])], 22, fun _ => false⟩
theorem f144hc (k : Nat) (S144 : (List TCol) → Int → Option Int) (h144 : FnOk Try.prog 144 (f144con S144)) : CtxOk Try.prog (f144ctx k S144) := ctxOk tys_ok mixed_ok (consOk_cons (h144) (consOk_nil))
theorem f144okb (k : Nat) (S144 : (List TCol) → Int → Option Int) (h144 : FnOk Try.prog 144 (f144con S144)) : FnOk Try.prog 144 (f144con (spec_l5After.b k S144)) :=
  let hc := f144hc k S144 h144
  fnOk (fn := Try.f144) (code := bodyOf Try.f144) (res := [.tmp 4]) hc (by kernel_rfl) (by kernel_rfl) (by decide) (by kernel_rfl) (by kernel_rfl) (by kernel_rfl) (Nat.le_of_ble_eq_true (by kernel_rfl)) _
    (fun x => Snd.seq (by kernel_rfl) (Snd.seq (by kernel_rfl) (Snd.seq (by kernel_rfl) (Snd.exec hc _ _ _ _) (Snd.seq (by kernel_rfl) (Snd.block (id := 0) (by kernel_rfl) (Snd.loop' (by kernel_rfl) f144s3 (fun n x => spec_l5After.l3 k S144 n x.1 x.2.1 x.2.2.1 x.2.2.2) _ (fun _ => rfl) (fun n3 => Snd.exec hc _ _ _ _) (fun n x => by kernel_rfl) k)) (Snd.exec hc _ _ _ _))) (Snd.exec hc _ _ _ _)) (Snd.exec hc _ _ _ _))
    (fun x => by kernel_rfl)
theorem f144rec (k : Nat) : ∀ d, FnOk Try.prog 144 (f144con (spec_l5After.d k d))
  | 0 => FnOk_none (fun _ => rfl)
  | d + 1 => let ih := f144rec k d
    f144okb k (spec_l5After.d k d) ih
theorem f144ok (k : Nat) : FnOk Try.prog 144 (f144con (spec_l5After k)) := (f144rec k k)

def f72in : SS := ⟨[(0, (.ro (.list 126 (.st (.cons .str (.cons (.int .i64) (.cons (.int .i64) (.cons (.int .i64) .nil)))))))), (1, (.ro (.int .i64))), (2, (.ro (.list 52 (.st (.cons (.int .i64) (.cons .str .nil)))))), (3, (.ro (.int .i64)))], []⟩
def f72out : SS := ⟨[(0, (.ro (.int .i64)))], []⟩
def f72s7 : SS := ⟨[(0, (.ro (.list 126 (.st (.cons .str (.cons (.int .i64) (.cons (.int .i64) (.cons (.int .i64) .nil)))))))), (1, (.ro (.int .i64))), (2, (.ro (.list 52 (.st (.cons (.int .i64) (.cons .str .nil)))))), (3, (.ro (.int .i64))), (9, (.ro (.int .i64))), (10, (.ro (.int .i64)))], []⟩
def f72con (F : (List TCol) → Int → (List TVal) → Int → Option Int) : Con := ⟨f72in, f72out, 4, 1, fun x => F x.1 x.2.1 x.2.2.1 x.2.2.2⟩
def f143in : SS := ⟨[(0, (.ro (.list 126 (.st (.cons .str (.cons (.int .i64) (.cons (.int .i64) (.cons (.int .i64) .nil)))))))), (1, (.ro (.int .i64))), (2, (.ro (.list 52 (.st (.cons (.int .i64) (.cons .str .nil)))))), (3, (.ro (.int .i64)))], []⟩
def f143out : SS := ⟨[(0, (.ro (.int .i64)))], []⟩
def f143s13 : SS := ⟨[(0, (.ro (.list 126 (.st (.cons .str (.cons (.int .i64) (.cons (.int .i64) (.cons (.int .i64) .nil)))))))), (1, (.ro (.int .i64))), (2, (.ro (.list 52 (.st (.cons (.int .i64) (.cons .str .nil)))))), (3, (.ro (.int .i64))), (9, (.ro (.int .i64))), (11, (.ro (.int .i64)))], []⟩
def f143s12 : SS := ⟨[(0, (.ro (.list 126 (.st (.cons .str (.cons (.int .i64) (.cons (.int .i64) (.cons (.int .i64) .nil)))))))), (1, (.ro (.int .i64))), (2, (.ro (.list 52 (.st (.cons (.int .i64) (.cons .str .nil)))))), (3, (.ro (.int .i64))), (9, (.ro (.int .i64)))], []⟩
def f143s6 : SS := ⟨[(0, (.ro (.list 126 (.st (.cons .str (.cons (.int .i64) (.cons (.int .i64) (.cons (.int .i64) .nil)))))))), (1, (.ro (.int .i64))), (2, (.ro (.list 52 (.st (.cons (.int .i64) (.cons .str .nil)))))), (3, (.ro (.int .i64))), (10, (.ro (.int .i64)))], []⟩
def f143con (F : (List TCol) → Int → (List TVal) → Int → Option Int) : Con := ⟨f143in, f143out, 4, 1, fun x => F x.1 x.2.1 x.2.2.1 x.2.2.2⟩
def f72ctx (k : Nat) (S72 : (List TCol) → Int → (List TVal) → Int → Option Int) (S143 : (List TCol) → Int → (List TVal) → Int → Option Int) : Ctx := ⟨tyAt tys, conAt [(142, [f142con (spec_ValOk k)]), (143, [f143con S143]), (144, [f144con (spec_l5After k)])], 58, fun _ => false⟩
theorem f72hc (k : Nat) (S72 : (List TCol) → Int → (List TVal) → Int → Option Int) (S143 : (List TCol) → Int → (List TVal) → Int → Option Int) (h72 : FnOk Try.prog 72 (f72con S72)) (h143 : FnOk Try.prog 143 (f143con S143)) : CtxOk Try.prog (f72ctx k S72 S143) := ctxOk tys_ok mixed_ok (consOk_cons (f142ok k) (consOk_cons (h143) (consOk_cons (f144ok k) (consOk_nil))))
theorem f72okb (k : Nat) (S72 : (List TCol) → Int → (List TVal) → Int → Option Int) (S143 : (List TCol) → Int → (List TVal) → Int → Option Int) (h72 : FnOk Try.prog 72 (f72con S72)) (h143 : FnOk Try.prog 143 (f143con S143)) : FnOk Try.prog 72 (f72con (spec_l13Content.b k S72 S143)) :=
  let hc := f72hc k S72 S143 h72 h143
  fnOk (fn := Try.f72) (code := bodyOf Try.f72) (res := [.tmp 8]) hc (by kernel_rfl) (by kernel_rfl) (by decide) (by kernel_rfl) (by kernel_rfl) (by kernel_rfl) (Nat.le_of_ble_eq_true (by kernel_rfl)) _
    (fun x => Snd.seq (by kernel_rfl) (Snd.seq (by kernel_rfl) (Snd.seq (by kernel_rfl) (Snd.seq (by kernel_rfl) (Snd.exec hc _ _ _ _) (Snd.seq (by kernel_rfl) (Snd.block (id := 0) (by kernel_rfl) (Snd.loop' (by kernel_rfl) f72s7 (fun n x => spec_l13Content.l7 k S143 n x.1 x.2.1 x.2.2.1 x.2.2.2.1 x.2.2.2.2.1 x.2.2.2.2.2) _ (fun _ => rfl) (fun n7 => Snd.exec hc _ _ _ _) (fun n x => by kernel_rfl) k)) (Snd.exec hc _ _ _ _))) (Snd.exec hc _ _ _ _)) (Snd.exec hc _ _ _ _)) (Snd.exec hc _ _ _ _))
    (fun x => by kernel_rfl)
def f143ctx (k : Nat) (S72 : (List TCol) → Int → (List TVal) → Int → Option Int) (S143 : (List TCol) → Int → (List TVal) → Int → Option Int) : Ctx := ⟨tyAt tys, conAt [(72, [f72con S72]), (198, [f198con (spec_l13Count k)])], 51, fun _ => false⟩
theorem f143hc (k : Nat) (S72 : (List TCol) → Int → (List TVal) → Int → Option Int) (S143 : (List TCol) → Int → (List TVal) → Int → Option Int) (h72 : FnOk Try.prog 72 (f72con S72)) (h143 : FnOk Try.prog 143 (f143con S143)) : CtxOk Try.prog (f143ctx k S72 S143) := ctxOk tys_ok mixed_ok (consOk_cons (h72) (consOk_cons (f198ok k) (consOk_nil)))
theorem f143okb (k : Nat) (S72 : (List TCol) → Int → (List TVal) → Int → Option Int) (S143 : (List TCol) → Int → (List TVal) → Int → Option Int) (h72 : FnOk Try.prog 72 (f72con S72)) (h143 : FnOk Try.prog 143 (f143con S143)) : FnOk Try.prog 143 (f143con (spec_l13Part.b k S72 S143)) :=
  let hc := f143hc k S72 S143 h72 h143
  fnOk (fn := Try.f143) (code := bodyOf Try.f143) (res := [.tmp 8]) hc (by kernel_rfl) (by kernel_rfl) (by decide) (by kernel_rfl) (by kernel_rfl) (by kernel_rfl) (Nat.le_of_ble_eq_true (by kernel_rfl)) _
    (fun x => Snd.seq (by kernel_rfl) (Snd.seq (by kernel_rfl) (Snd.seq (by kernel_rfl) (Snd.cut (Snd.seq (by kernel_rfl) (Snd.exec hc _ _ _ _) (Snd.seq (by kernel_rfl) (Snd.block (id := 0) (by kernel_rfl) (Snd.loop' (by kernel_rfl) f143s13 (fun n x => spec_l13Part.l13 k S72 n x.1 x.2.1 x.2.2.1 x.2.2.2.1 x.2.2.2.2.1 x.2.2.2.2.2) _ (fun _ => rfl) (fun n13 => Snd.exec hc _ _ _ _) (fun n x => by kernel_rfl) k)) (Snd.exec hc _ _ _ _))) ⟨f143s12, fun x => spec_l13Part.c12 k S72 x.1 x.2.1 x.2.2.1 x.2.2.2.1 x.2.2.2.2⟩ (fun x => by kernel_rfl)) (Snd.seq (by kernel_rfl) (Snd.cond (x := .tmp 17) (by kernel_rfl) (Snd.seq (by kernel_rfl) (Snd.seq (by kernel_rfl) (Snd.cut (Snd.exec hc _ _ _ _) ⟨f143s6, fun x => spec_l13Part.c6 k S72 x.1 x.2.1 x.2.2.1 x.2.2.2.1 x.2.2.2.2⟩ (fun x => by kernel_rfl)) (Snd.exec hc _ _ _ _)) (Snd.exec hc _ _ _ _)) (Snd.exec hc _ _ _ _)) (Snd.exec hc _ _ _ _))) (Snd.exec hc _ _ _ _)) (Snd.exec hc _ _ _ _))
    (fun x => by kernel_rfl)
theorem f72rec (k : Nat) : ∀ d, FnOk Try.prog 72 (f72con (spec_l13Content.d k d)) ∧ FnOk Try.prog 143 (f143con (spec_l13Part.d k d))
  | 0 => ⟨FnOk_none (fun _ => rfl), FnOk_none (fun _ => rfl)⟩
  | d + 1 => let ih := f72rec k d
    ⟨f72okb k (spec_l13Content.d k d) (spec_l13Part.d k d) ih.1 ih.2, f143okb k (spec_l13Content.d k d) (spec_l13Part.d k d) ih.1 ih.2⟩
theorem f72ok (k : Nat) : FnOk Try.prog 72 (f72con (spec_l13Content k)) := (f72rec k k).1
theorem f143ok (k : Nat) : FnOk Try.prog 143 (f143con (spec_l13Part k)) := (f72rec k k).2

def f15in : SS := ⟨[(0, (.ro (.list 126 (.st (.cons .str (.cons (.int .i64) (.cons (.int .i64) (.cons (.int .i64) .nil)))))))), (1, (.ro (.st (.cons (.list 52 (.st (.cons (.int .i64) (.cons .str .nil)))) .nil))))], []⟩
def f15out : SS := ⟨[(0, (.ro .bool))], []⟩
def f15d1 : SS := ⟨[(0, (.ro (.list 126 (.st (.cons .str (.cons (.int .i64) (.cons (.int .i64) (.cons (.int .i64) .nil)))))))), (3, (.p 100))], [(100, (.box (.st (.cons (.list 52 (.st (.cons (.int .i64) (.cons .str .nil)))) .nil)) (.agg (.cons (.ro (.list 52 (.st (.cons (.int .i64) (.cons .str .nil))))) .nil))))]⟩
def f15con (F : (List TCol) → TRec → Option Bool) : Con := ⟨f15in, f15out, 2, 1, fun x => F x.1 x.2⟩
def f15ctx (k : Nat) : Ctx := ⟨tyAt tys, conAt [(17, [f17con (spec_SchemaOk k)]), (72, [f72con (spec_l13Content k)])], 23, fun _ => false⟩
theorem f15hc (k : Nat) : CtxOk Try.prog (f15ctx k) := ctxOk tys_ok mixed_ok (consOk_cons (f17ok k) (consOk_cons (f72ok k) (consOk_nil)))
theorem f15ok (k : Nat) : FnOk Try.prog 15 (f15con (spec_RecOk k)) :=
  let hc := f15hc k
  fnOk (fn := Try.f15) (code := bodyOf Try.f15) (res := [.tmp 4]) hc (by kernel_rfl) (by kernel_rfl) (by decide) (by kernel_rfl) (by kernel_rfl) (by kernel_rfl) (Nat.le_of_ble_eq_true (by kernel_rfl)) _
    (fun x => Snd.seq (by kernel_rfl) (Snd.seq (by kernel_rfl) (Snd.exec hc _ _ _ _) (Snd.fork hc (id := 1) (by kernel_rfl) ⟨f15d1, fun x => spec_RecOk.d1 k x.1.1 x.2⟩ [[0, 1, 2, 3, 4, 5, 6, 7, 8, 9, 10, 11, 13, 12, 14, 15, 16, 17, 18], [0, 1, 2, 3, 4, 5, 6, 7, 8, 9, 10, 11, 13, 14, 15, 12, 16, 17, 18]] (by kernel_rfl) (ords_cons (fun x => by kernel_rfl) (ords_cons (fun x => by kernel_rfl) (ords_nil))))) (Snd.exec hc _ _ _ _))
    (fun x => by kernel_rfl)

def f80in : SS := ⟨[(0, (.ro (.list 126 (.st (.cons .str (.cons (.int .i64) (.cons (.int .i64) (.cons (.int .i64) .nil))))))))], []⟩
def f80out : SS := ⟨[(0, (.h 100))], [(100, (.sl 3 (.int .i64)))]⟩
def f80s4 : SS := ⟨[(0, (.ro (.list 126 (.st (.cons .str (.cons (.int .i64) (.cons (.int .i64) (.cons (.int .i64) .nil)))))))), (3, (.h 100)), (4, (.ro (.int .i64)))], [(100, (.sl 3 (.int .i64)))]⟩
def f80s3 : SS := ⟨[(0, (.ro (.list 126 (.st (.cons .str (.cons (.int .i64) (.cons (.int .i64) (.cons (.int .i64) .nil)))))))), (3, (.h 100)), (4, (.ro (.int .i64)))], [(100, (.sl 3 (.int .i64)))]⟩
def f80con (F : (List TCol) → Option (Unit × (List Int))) : Con := ⟨f80in, f80out, 1, 1, fun x => F x⟩
def f80ctx (k : Nat) : Ctx := ⟨tyAt tys, conAt [], 23, fun _ => false⟩
theorem f80hc (k : Nat) : CtxOk Try.prog (f80ctx k) := ctxOk tys_ok mixed_ok (consOk_nil)
theorem f80ok (k : Nat) : FnOk Try.prog 80 (f80con (spec_l5Leaves k)) :=
  let hc := f80hc k
  fnOk (fn := Try.f80) (code := bodyOf Try.f80) (res := [.tmp 2]) hc (by kernel_rfl) (by kernel_rfl) (by decide) (by kernel_rfl) (by kernel_rfl) (by kernel_rfl) (Nat.le_of_ble_eq_true (by kernel_rfl)) _
    (fun x => Snd.seq (by kernel_rfl) (Snd.seq (by kernel_rfl) (Snd.seq (by kernel_rfl) (Snd.exec hc _ _ _ _) (Snd.seq (by kernel_rfl) (Snd.block (id := 0) (by kernel_rfl) (Snd.loop' (by kernel_rfl) f80s3 (fun n x => spec_l5Leaves.l3 k n x.1.1 x.1.2.2 x.2) _ (fun _ => rfl) (fun n3 => Snd.seq (by kernel_rfl) (Snd.seq (by kernel_rfl) (Snd.cut (Snd.exec hc _ _ _ _) ⟨f80s4, fun x => spec_l5Leaves.c4 k (spec_l5Leaves.l3 k n3) x.1.1 x.1.2.2 x.2⟩ (fun x => by kernel_rfl)) (Snd.exec hc _ _ _ _)) (Snd.exec hc _ _ _ _)) (fun n x => by kernel_rfl) k)) (Snd.exec hc _ _ _ _))) (Snd.exec hc _ _ _ _)) (Snd.exec hc _ _ _ _))
    (fun x => by kernel_rfl)

def f151in : SS := ⟨[(0, (.ro (.list 126 (.st (.cons .str (.cons (.int .i64) (.cons (.int .i64) (.cons (.int .i64) .nil)))))))), (1, (.ro (.int .i64)))], []⟩
def f151out : SS := ⟨[(0, (.ro (.int .i64)))], []⟩
def f151s4 : SS := ⟨[(0, (.ro (.list 126 (.st (.cons .str (.cons (.int .i64) (.cons (.int .i64) (.cons (.int .i64) .nil)))))))), (1, (.ro (.int .i64))), (5, (.ro (.int .i64))), (6, (.ro (.int .i64)))], []⟩
def f151s3 : SS := ⟨[(0, (.ro (.list 126 (.st (.cons .str (.cons (.int .i64) (.cons (.int .i64) (.cons (.int .i64) .nil)))))))), (1, (.ro (.int .i64))), (5, (.ro (.int .i64))), (6, (.ro (.int .i64)))], []⟩
def f151con (F : (List TCol) → Int → Option Int) : Con := ⟨f151in, f151out, 2, 1, fun x => F x.1 x.2⟩
def f151ctx (k : Nat) : Ctx := ⟨tyAt tys, conAt [], 21, fun _ => false⟩
theorem f151hc (k : Nat) : CtxOk Try.prog (f151ctx k) := ctxOk tys_ok mixed_ok (consOk_nil)
theorem f151ok (k : Nat) : FnOk Try.prog 151 (f151con (spec_l14Leaf k)) :=
  let hc := f151hc k
  fnOk (fn := Try.f151) (code := bodyOf Try.f151) (res := [.tmp 4]) hc (by kernel_rfl) (by kernel_rfl) (by decide) (by kernel_rfl) (by kernel_rfl) (by kernel_rfl) (Nat.le_of_ble_eq_true (by kernel_rfl)) _
    (fun x => Snd.seq (by kernel_rfl) (Snd.seq (by kernel_rfl) (Snd.seq (by kernel_rfl) (Snd.exec hc _ _ _ _) (Snd.seq (by kernel_rfl) (Snd.block (id := 0) (by kernel_rfl) (Snd.loop' (by kernel_rfl) f151s3 (fun n x => spec_l14Leaf.l3 k n x.1 x.2.1 x.2.2.1 x.2.2.2) _ (fun _ => rfl) (fun n3 => Snd.seq (by kernel_rfl) (Snd.seq (by kernel_rfl) (Snd.cut (Snd.exec hc _ _ _ _) ⟨f151s4, fun x => spec_l14Leaf.c4 k (spec_l14Leaf.l3 k n3) x.1 x.2.1 x.2.2.1 x.2.2.2⟩ (fun x => by kernel_rfl)) (Snd.exec hc _ _ _ _)) (Snd.exec hc _ _ _ _)) (fun n x => by kernel_rfl) k)) (Snd.exec hc _ _ _ _))) (Snd.exec hc _ _ _ _)) (Snd.exec hc _ _ _ _))
    (fun x => by kernel_rfl)

def f199in : SS := ⟨[(0, (.ro (.list 126 (.st (.cons .str (.cons (.int .i64) (.cons (.int .i64) (.cons (.int .i64) .nil)))))))), (1, (.ro (.int .i64))), (2, (.ro (.st (.cons (.int .i64) (.cons (.int .i64) (.cons (.st (.cons (.int .i64) (.cons .str .nil))) .nil)))))), (3, (.h 10))], [(10, (.sl 48 (.list 54 (.st (.cons (.int .i64) (.cons (.int .i64) (.cons (.st (.cons (.int .i64) (.cons .str .nil))) .nil)))))))]⟩
def f199out : SS := ⟨[(0, (.h 10))], [(10, (.sl 48 (.list 54 (.st (.cons (.int .i64) (.cons (.int .i64) (.cons (.st (.cons (.int .i64) (.cons .str .nil))) .nil)))))))]⟩
def f199s2 : SS := ⟨[(0, (.ro (.list 126 (.st (.cons .str (.cons (.int .i64) (.cons (.int .i64) (.cons (.int .i64) .nil)))))))), (1, (.ro (.int .i64))), (3, (.h 10)), (6, (.p 100)), (9, (.ro (.int .i64)))], [(10, (.sl 48 (.list 54 (.st (.cons (.int .i64) (.cons (.int .i64) (.cons (.st (.cons (.int .i64) (.cons .str .nil))) .nil))))))), (100, (.box (.st (.cons (.int .i64) (.cons (.int .i64) (.cons (.st (.cons (.int .i64) (.cons .str .nil))) .nil)))) (.agg (.cons (.ro (.int .i64)) (.cons (.ro (.int .i64)) (.cons (.agg (.cons (.ro (.int .i64)) (.cons (.ro .str) .nil))) .nil))))))]⟩
def f199con (F : (List TCol) → Int → TTriple → (List (List TTriple)) → Option (Unit × (List (List TTriple)))) : Con := ⟨f199in, f199out, 4, 1, fun x => F x.1.1 x.1.2.1 x.1.2.2.1 x.2⟩
def f199ctx (k : Nat) : Ctx := ⟨tyAt tys, conAt [(144, [f144con (spec_l5After k)]), (151, [f151con (spec_l14Leaf k)])], 33, fun _ => false⟩
theorem f199hc (k : Nat) : CtxOk Try.prog (f199ctx k) := ctxOk tys_ok mixed_ok (consOk_cons (f144ok k) (consOk_cons (f151ok k) (consOk_nil)))
theorem f199ok (k : Nat) : FnOk Try.prog 199 (f199con (spec_l14Null k)) :=
  let hc := f199hc k
  fnOk (fn := Try.f199) (code := bodyOf Try.f199) (res := [.tmp 8]) hc (by kernel_rfl) (by kernel_rfl) (by decide) (by kernel_rfl) (by kernel_rfl) (by kernel_rfl) (Nat.le_of_ble_eq_true (by kernel_rfl)) _
    (fun x => Snd.seq (by kernel_rfl) (Snd.seq (by kernel_rfl) (Snd.exec hc _ _ _ _) (Snd.seq (by kernel_rfl) (Snd.block (id := 0) (by kernel_rfl) (Snd.loop' (by kernel_rfl) f199s2 (fun n x => spec_l14Null.l2 k n x.1.1 x.1.2.1 x.1.2.2.2.2 x.2.1 x.2.2) _ (fun _ => rfl) (fun n2 => Snd.exec hc _ _ _ _) (fun n x => by kernel_rfl) k)) (Snd.exec hc _ _ _ _))) (Snd.exec hc _ _ _ _))
    (fun x => by kernel_rfl)

def f94in : SS := ⟨[(0, (.ro (.list 126 (.st (.cons .str (.cons (.int .i64) (.cons (.int .i64) (.cons (.int .i64) .nil)))))))), (1, (.ro (.int .i64))), (2, (.ro (.list 52 (.st (.cons (.int .i64) (.cons .str .nil)))))), (3, (.ro (.int .i64))), (4, (.ro (.int .i64))), (5, (.ro (.int .i64))), (6, (.ro (.int .i64))), (7, (.h 10))], [(10, (.sl 48 (.list 54 (.st (.cons (.int .i64) (.cons (.int .i64) (.cons (.st (.cons (.int .i64) (.cons .str .nil))) .nil)))))))]⟩
def f94out : SS := ⟨[(0, (.h 10)), (1, (.ro (.int .i64)))], [(10, (.sl 48 (.list 54 (.st (.cons (.int .i64) (.cons (.int .i64) (.cons (.st (.cons (.int .i64) (.cons .str .nil))) .nil)))))))]⟩
def f94s7 : SS := ⟨[(0, (.ro (.list 126 (.st (.cons .str (.cons (.int .i64) (.cons (.int .i64) (.cons (.int .i64) .nil)))))))), (1, (.ro (.int .i64))), (2, (.ro (.list 52 (.st (.cons (.int .i64) (.cons .str .nil)))))), (3, (.ro (.int .i64))), (4, (.ro (.int .i64))), (5, (.ro (.int .i64))), (6, (.ro (.int .i64))), (7, (.h 10)), (19, (.ro (.int .i64))), (20, (.ro (.int .i64)))], [(10, (.sl 48 (.list 54 (.st (.cons (.int .i64) (.cons (.int .i64) (.cons (.st (.cons (.int .i64) (.cons .str .nil))) .nil)))))))]⟩
def f94con (F : (List TCol) → Int → (List TVal) → Int → Int → Int → Int → (List (List TTriple)) → Option ((Unit × Int) × (List (List TTriple)))) : Con := ⟨f94in, f94out, 8, 2, fun x => F x.1.1 x.1.2.1 x.1.2.2.1 x.1.2.2.2.1 x.1.2.2.2.2.1 x.1.2.2.2.2.2.1 x.1.2.2.2.2.2.2.1 x.2⟩
def f152in : SS := ⟨[(0, (.ro (.list 126 (.st (.cons .str (.cons (.int .i64) (.cons (.int .i64) (.cons (.int .i64) .nil)))))))), (1, (.ro (.int .i64))), (2, (.ro (.list 52 (.st (.cons (.int .i64) (.cons .str .nil)))))), (3, (.ro (.int .i64))), (4, (.ro (.int .i64))), (5, (.ro (.int .i64))), (6, (.ro (.int .i64))), (7, (.h 10))], [(10, (.sl 48 (.list 54 (.st (.cons (.int .i64) (.cons (.int .i64) (.cons (.st (.cons (.int .i64) (.cons .str .nil))) .nil)))))))]⟩
def f152out : SS := ⟨[(0, (.h 10)), (1, (.ro (.int .i64)))], [(10, (.sl 48 (.list 54 (.st (.cons (.int .i64) (.cons (.int .i64) (.cons (.st (.cons (.int .i64) (.cons .str .nil))) .nil)))))))]⟩
def f152s10 : SS := ⟨[(0, (.ro (.list 126 (.st (.cons .str (.cons (.int .i64) (.cons (.int .i64) (.cons (.int .i64) .nil)))))))), (1, (.ro (.int .i64))), (2, (.ro (.list 52 (.st (.cons (.int .i64) (.cons .str .nil)))))), (3, (.ro (.int .i64))), (4, (.ro (.int .i64))), (5, (.ro (.int .i64))), (6, (.ro (.int .i64))), (7, (.h 10)), (18, (.ro (.int .i64))), (19, (.ro (.int .i64)))], [(10, (.sl 48 (.list 54 (.st (.cons (.int .i64) (.cons (.int .i64) (.cons (.st (.cons (.int .i64) (.cons .str .nil))) .nil)))))))]⟩
def f152s9 : SS := ⟨[(0, (.ro (.list 126 (.st (.cons .str (.cons (.int .i64) (.cons (.int .i64) (.cons (.int .i64) .nil)))))))), (1, (.ro (.int .i64))), (2, (.ro (.list 52 (.st (.cons (.int .i64) (.cons .str .nil)))))), (3, (.ro (.int .i64))), (4, (.ro (.int .i64))), (5, (.ro (.int .i64))), (6, (.ro (.int .i64))), (7, (.h 10)), (18, (.ro (.int .i64)))], [(10, (.sl 48 (.list 54 (.st (.cons (.int .i64) (.cons (.int .i64) (.cons (.st (.cons (.int .i64) (.cons .str .nil))) .nil)))))))]⟩
def f152con (F : (List TCol) → Int → (List TVal) → Int → Int → Int → Int → (List (List TTriple)) → Option ((Unit × Int) × (List (List TTriple)))) : Con := ⟨f152in, f152out, 8, 2, fun x => F x.1.1 x.1.2.1 x.1.2.2.1 x.1.2.2.2.1 x.1.2.2.2.2.1 x.1.2.2.2.2.2.1 x.1.2.2.2.2.2.2.1 x.2⟩
def f94ctx (k : Nat) (S94 : (List TCol) → Int → (List TVal) → Int → Int → Int → Int → (List (List TTriple)) → Option ((Unit × Int) × (List (List TTriple)))) (S152 : (List TCol) → Int → (List TVal) → Int → Int → Int → Int → (List (List TTriple)) → Option ((Unit × Int) × (List (List TTriple)))) : Ctx := ⟨tyAt tys, conAt [(144, [f144con (spec_l5After k)]), (151, [f151con (spec_l14Leaf k)]), (152, [f152con S152])], 77, fun _ => false⟩
theorem f94hc (k : Nat) (S94 : (List TCol) → Int → (List TVal) → Int → Int → Int → Int → (List (List TTriple)) → Option ((Unit × Int) × (List (List TTriple)))) (S152 : (List TCol) → Int → (List TVal) → Int → Int → Int → Int → (List (List TTriple)) → Option ((Unit × Int) × (List (List TTriple)))) (h94 : FnOk Try.prog 94 (f94con S94)) (h152 : FnOk Try.prog 152 (f152con S152)) : CtxOk Try.prog (f94ctx k S94 S152) := ctxOk tys_ok mixed_ok (consOk_cons (f144ok k) (consOk_cons (f151ok k) (consOk_cons (h152) (consOk_nil))))
theorem f94okb (k : Nat) (S94 : (List TCol) → Int → (List TVal) → Int → Int → Int → Int → (List (List TTriple)) → Option ((Unit × Int) × (List (List TTriple)))) (S152 : (List TCol) → Int → (List TVal) → Int → Int → Int → Int → (List (List TTriple)) → Option ((Unit × Int) × (List (List TTriple)))) (h94 : FnOk Try.prog 94 (f94con S94)) (h152 : FnOk Try.prog 152 (f152con S152)) : FnOk Try.prog 94 (f94con (spec_l14Content.b k S94 S152)) :=
  let hc := f94hc k S94 S152 h94 h152
  fnOk (fn := Try.f94) (code := bodyOf Try.f94) (res := [.tmp 16, .tmp 17]) hc (by kernel_rfl) (by kernel_rfl) (by decide) (by kernel_rfl) (by kernel_rfl) (by kernel_rfl) (Nat.le_of_ble_eq_true (by kernel_rfl)) _
    (fun x => Snd.seq (by kernel_rfl) (Snd.seq (by kernel_rfl) (Snd.seq (by kernel_rfl) (Snd.seq (by kernel_rfl) (Snd.exec hc _ _ _ _) (Snd.seq (by kernel_rfl) (Snd.block (id := 0) (by kernel_rfl) (Snd.loop' (by kernel_rfl) f94s7 (fun n x => spec_l14Content.l7 k S152 n x.1.1 x.1.2.1 x.1.2.2.1 x.1.2.2.2.1 x.1.2.2.2.2.1 x.1.2.2.2.2.2.1 x.1.2.2.2.2.2.2.1 x.1.2.2.2.2.2.2.2.2.1 x.1.2.2.2.2.2.2.2.2.2 x.2) _ (fun _ => rfl) (fun n7 => Snd.exec hc _ _ _ _) (fun n x => by kernel_rfl) k)) (Snd.exec hc _ _ _ _))) (Snd.exec hc _ _ _ _)) (Snd.exec hc _ _ _ _)) (Snd.exec hc _ _ _ _))
    (fun x => by kernel_rfl)
def f152ctx (k : Nat) (S94 : (List TCol) → Int → (List TVal) → Int → Int → Int → Int → (List (List TTriple)) → Option ((Unit × Int) × (List (List TTriple)))) (S152 : (List TCol) → Int → (List TVal) → Int → Int → Int → Int → (List (List TTriple)) → Option ((Unit × Int) × (List (List TTriple)))) : Ctx := ⟨tyAt tys, conAt [(94, [f94con S94]), (199, [f199con (spec_l14Null k)])], 83, fun _ => false⟩
theorem f152hc (k : Nat) (S94 : (List TCol) → Int → (List TVal) → Int → Int → Int → Int → (List (List TTriple)) → Option ((Unit × Int) × (List (List TTriple)))) (S152 : (List TCol) → Int → (List TVal) → Int → Int → Int → Int → (List (List TTriple)) → Option ((Unit × Int) × (List (List TTriple)))) (h94 : FnOk Try.prog 94 (f94con S94)) (h152 : FnOk Try.prog 152 (f152con S152)) : CtxOk Try.prog (f152ctx k S94 S152) := ctxOk tys_ok mixed_ok (consOk_cons (h94) (consOk_cons (f199ok k) (consOk_nil)))
theorem f152okb (k : Nat) (S94 : (List TCol) → Int → (List TVal) → Int → Int → Int → Int → (List (List TTriple)) → Option ((Unit × Int) × (List (List TTriple)))) (S152 : (List TCol) → Int → (List TVal) → Int → Int → Int → Int → (List (List TTriple)) → Option ((Unit × Int) × (List (List TTriple)))) (h94 : FnOk Try.prog 94 (f94con S94)) (h152 : FnOk Try.prog 152 (f152con S152)) : FnOk Try.prog 152 (f152con (spec_l14Part.b k S94 S152)) :=
  let hc := f152hc k S94 S152 h94 h152
  fnOk (fn := Try.f152) (code := bodyOf Try.f152) (res := [.tmp 16, .tmp 17]) hc (by kernel_rfl) (by kernel_rfl) (by decide) (by kernel_rfl) (by kernel_rfl) (by kernel_rfl) (Nat.le_of_ble_eq_true (by kernel_rfl)) _
    (fun x => Snd.seq (by kernel_rfl) (Snd.seq (by kernel_rfl) (Snd.seq (by kernel_rfl) (Snd.seq (by kernel_rfl) (Snd.seq (by kernel_rfl) (Snd.seq (by kernel_rfl) (Snd.cut (Snd.seq (by kernel_rfl) (Snd.exec hc _ _ _ _) (Snd.seq (by kernel_rfl) (Snd.block (id := 0) (by kernel_rfl) (Snd.loop' (by kernel_rfl) f152s10 (fun n x => spec_l14Part.l10 k S94 n x.1.1 x.1.2.1 x.1.2.2.1 x.1.2.2.2.1 x.1.2.2.2.2.1 x.1.2.2.2.2.2.1 x.1.2.2.2.2.2.2.1 x.1.2.2.2.2.2.2.2.2.1 x.1.2.2.2.2.2.2.2.2.2 x.2) _ (fun _ => rfl) (fun n10 => Snd.exec hc _ _ _ _) (fun n x => by kernel_rfl) k)) (Snd.exec hc _ _ _ _))) ⟨f152s9, fun x => spec_l14Part.c9 k S94 x.1.1 x.1.2.1 x.1.2.2.1 x.1.2.2.2.1 x.1.2.2.2.2.1 x.1.2.2.2.2.2.1 x.1.2.2.2.2.2.2.1 x.1.2.2.2.2.2.2.2.2 x.2⟩ (fun x => by kernel_rfl)) (Snd.exec hc _ _ _ _)) (Snd.exec hc _ _ _ _)) (Snd.exec hc _ _ _ _)) (Snd.exec hc _ _ _ _)) (Snd.exec hc _ _ _ _)) (Snd.exec hc _ _ _ _))
    (fun x => by kernel_rfl)
theorem f94rec (k : Nat) : ∀ d, FnOk Try.prog 94 (f94con (spec_l14Content.d k d)) ∧ FnOk Try.prog 152 (f152con (spec_l14Part.d k d))
  | 0 => ⟨FnOk_none (fun _ => rfl), FnOk_none (fun _ => rfl)⟩
  | d + 1 => let ih := f94rec k d
    ⟨f94okb k (spec_l14Content.d k d) (spec_l14Part.d k d) ih.1 ih.2, f152okb k (spec_l14Content.d k d) (spec_l14Part.d k d) ih.1 ih.2⟩
theorem f94ok (k : Nat) : FnOk Try.prog 94 (f94con (spec_l14Content k)) := (f94rec k k).1
theorem f152ok (k : Nat) : FnOk Try.prog 152 (f152con (spec_l14Part k)) := (f94rec k k).2

def f26in : SS := ⟨[(0, (.ro (.list 126 (.st (.cons .str (.cons (.int .i64) (.cons (.int .i64) (.cons (.int .i64) .nil)))))))), (1, (.ro (.list 27 (.st (.cons (.list 52 (.st (.cons (.int .i64) (.cons .str .nil)))) .nil)))))], []⟩
def f26out : SS := ⟨[(0, (.h 100)), (1, (.ro .bool))], [(100, (.sh 50 (.st (.cons (.list 54 (.st (.cons (.int .i64) (.cons (.int .i64) (.cons (.st (.cons (.int .i64) (.cons .str .nil))) .nil))))) .nil))))]⟩
def f26s12 : SS := ⟨[(6, (.h 100)), (7, (.ro (.list 48 (.list 54 (.st (.cons (.int .i64) (.cons (.int .i64) (.cons (.st (.cons (.int .i64) (.cons .str .nil))) .nil)))))))), (9, (.ro (.int .i64)))], [(100, (.sh 50 (.st (.cons (.list 54 (.st (.cons (.int .i64) (.cons (.int .i64) (.cons (.st (.cons (.int .i64) (.cons .str .nil))) .nil))))) .nil))))]⟩
def f26s6 : SS := ⟨[(0, (.ro (.list 126 (.st (.cons .str (.cons (.int .i64) (.cons (.int .i64) (.cons (.int .i64) .nil)))))))), (1, (.ro (.list 27 (.st (.cons (.list 52 (.st (.cons (.int .i64) (.cons .str .nil)))) .nil))))), (6, (.h 100)), (7, (.h 101)), (8, (.ro (.int .i64)))], [(100, (.sl 50 (.st (.cons (.list 54 (.st (.cons (.int .i64) (.cons (.int .i64) (.cons (.st (.cons (.int .i64) (.cons .str .nil))) .nil))))) .nil)))), (101, (.sl 48 (.list 54 (.st (.cons (.int .i64) (.cons (.int .i64) (.cons (.st (.cons (.int .i64) (.cons .str .nil))) .nil)))))))]⟩
def f26con (F : (List TCol) → (List TRec) → Option ((Unit × Bool) × (List TColumn))) : Con := ⟨f26in, f26out, 2, 2, fun x => F x.1 x.2⟩
def f26ctx (k : Nat) : Ctx := ⟨tyAt tys, conAt [(15, [f15con (spec_RecOk k)]), (17, [f17con (spec_SchemaOk k)]), (80, [f80con (spec_l5Leaves k)]), (94, [f94con (spec_l14Content k)])], 71, fun _ => false⟩
theorem f26hc (k : Nat) : CtxOk Try.prog (f26ctx k) := ctxOk tys_ok mixed_ok (consOk_cons (f15ok k) (consOk_cons (f17ok k) (consOk_cons (f80ok k) (consOk_cons (f94ok k) (consOk_nil)))))
theorem f26ok (k : Nat) : FnOk Try.prog 26 (f26con (spec_Shred k)) :=
  let hc := f26hc k
  fnOk (fn := Try.f26) (code := bodyOf Try.f26) (res := [.tmp 4, .tmp 5]) hc (by kernel_rfl) (by kernel_rfl) (by decide) (by kernel_rfl) (by kernel_rfl) (by kernel_rfl) (Nat.le_of_ble_eq_true (by kernel_rfl)) _
    (fun x => Snd.seq (by kernel_rfl) (Snd.seq (by kernel_rfl) (Snd.seq (by kernel_rfl) (Snd.seq (by kernel_rfl) (Snd.seq (by kernel_rfl) (Snd.seq (by kernel_rfl) (Snd.exec hc _ _ _ _) (Snd.seq (by kernel_rfl) (Snd.block (id := 2) (by kernel_rfl) (Snd.loop' (by kernel_rfl) f26s12 (fun n x => spec_Shred.l12 k n x.1.2.1 x.1.2.2 x.2) _ (fun _ => rfl) (fun n12 => Snd.exec hc _ _ _ _) (fun n x => by kernel_rfl) k)) (Snd.exec hc _ _ _ _))) (Snd.seq (by kernel_rfl) (Snd.block (id := 0) (by kernel_rfl) (Snd.loop' (by kernel_rfl) f26s6 (fun n x => spec_Shred.l6 k n x.1.1 x.1.2.1 x.1.2.2.2.2 x.2.1 x.2.2) _ (fun _ => rfl) (fun n6 => Snd.exec hc _ _ _ _) (fun n x => by kernel_rfl) k)) (Snd.exec hc _ _ _ _))) (Snd.exec hc _ _ _ _)) (Snd.exec hc _ _ _ _)) (Snd.exec hc _ _ _ _)) (Snd.exec hc _ _ _ _))
    (fun x => by kernel_rfl)

def f95in : SS := ⟨[(0, (.ro (.st (.cons .str (.cons (.int .i64) (.cons (.int .i64) (.cons (.int .i64) .nil))))))), (1, (.ro (.int .i64)))], []⟩
def f95out : SS := ⟨[(0, (.ro (.int .i64)))], []⟩
def f95con (F : TCol → Int → Option Int) : Con := ⟨f95in, f95out, 2, 1, fun x => F x.1 x.2⟩
def f95ctx (k : Nat) : Ctx := ⟨tyAt tys, conAt [], 13, fun _ => false⟩
theorem f95hc (k : Nat) : CtxOk Try.prog (f95ctx k) := ctxOk tys_ok mixed_ok (consOk_nil)
theorem f95ok (k : Nat) : FnOk Try.prog 95 (f95con (laws_szCol k)) :=
  let hc := f95hc k
  fnOk (fn := Try.f95) (code := bodyOf Try.f95) (res := [.tmp 4]) hc (by kernel_rfl) (by kernel_rfl) (by decide) (by kernel_rfl) (by kernel_rfl) (by kernel_rfl) (Nat.le_of_ble_eq_true (by kernel_rfl)) _
    (fun x => Snd.exec hc _ _ _ _)
    (fun x => by kernel_rfl)

def f27in : SS := ⟨[(0, (.ro (.list 125 (.st (.cons .str (.cons (.int .i64) (.cons (.int .i64) (.cons (.int .i64) .nil)))))))), (1, (.ro (.int .i64)))], []⟩
def f27out : SS := ⟨[(0, (.ro (.int .i64)))], []⟩
def f27s5 : SS := ⟨[(0, (.ro (.list 125 (.st (.cons .str (.cons (.int .i64) (.cons (.int .i64) (.cons (.int .i64) .nil)))))))), (1, (.ro (.int .i64))), (5, (.ro (.int .i64)))], []⟩
def f27con (F : (List TCol) → Int → Option Int) : Con := ⟨f27in, f27out, 2, 1, fun x => F x.1 x.2⟩
def f27ctx (k : Nat) : Ctx := ⟨tyAt tys, conAt [(95, [f95con (laws_szCol k)])], 27, fun _ => false⟩
theorem f27hc (k : Nat) : CtxOk Try.prog (f27ctx k) := ctxOk tys_ok mixed_ok (consOk_cons (f95ok k) (consOk_nil))
theorem f27ok (k : Nat) : FnOk Try.prog 27 (f27con (laws_szColS k)) :=
  let hc := f27hc k
  fnOk (fn := Try.f27) (code := bodyOf Try.f27) (res := [.tmp 4]) hc (by kernel_rfl) (by kernel_rfl) (by decide) (by kernel_rfl) (by kernel_rfl) (by kernel_rfl) (Nat.le_of_ble_eq_true (by kernel_rfl)) _
    (fun x => Snd.seq (by kernel_rfl) (Snd.seq (by kernel_rfl) (Snd.seq (by kernel_rfl) (Snd.seq (by kernel_rfl) (Snd.exec hc _ _ _ _) (Snd.seq (by kernel_rfl) (Snd.block (id := 0) (by kernel_rfl) (Snd.loop' (by kernel_rfl) f27s5 (fun n x => laws_szColS.l5 k n x.1 x.2.1 x.2.2) _ (fun _ => rfl) (fun n5 => Snd.exec hc _ _ _ _) (fun n x => by kernel_rfl) k)) (Snd.exec hc _ _ _ _))) (Snd.exec hc _ _ _ _)) (Snd.exec hc _ _ _ _)) (Snd.exec hc _ _ _ _))
    (fun x => by kernel_rfl)

def f178in : SS := ⟨[(0, (.ro (.st (.cons (.int .i64) (.cons .str .nil))))), (1, (.ro (.int .i64)))], []⟩
def f178out : SS := ⟨[(0, (.ro (.int .i64)))], []⟩
def f178con (F : TVal → Int → Option Int) : Con := ⟨f178in, f178out, 2, 1, fun x => F x.1 x.2⟩
def f178ctx (k : Nat) : Ctx := ⟨tyAt tys, conAt [], 13, fun _ => false⟩
theorem f178hc (k : Nat) : CtxOk Try.prog (f178ctx k) := ctxOk tys_ok mixed_ok (consOk_nil)
theorem f178ok (k : Nat) : FnOk Try.prog 178 (f178con (laws_szVal k)) :=
  let hc := f178hc k
  fnOk (fn := Try.f178) (code := bodyOf Try.f178) (res := [.tmp 4]) hc (by kernel_rfl) (by kernel_rfl) (by decide) (by kernel_rfl) (by kernel_rfl) (by kernel_rfl) (Nat.le_of_ble_eq_true (by kernel_rfl)) _
    (fun x => Snd.exec hc _ _ _ _)
    (fun x => by kernel_rfl)

def f117in : SS := ⟨[(0, (.ro (.list 159 (.st (.cons (.int .i64) (.cons .str .nil)))))), (1, (.ro (.int .i64)))], []⟩
def f117out : SS := ⟨[(0, (.ro (.int .i64)))], []⟩
def f117s5 : SS := ⟨[(0, (.ro (.list 159 (.st (.cons (.int .i64) (.cons .str .nil)))))), (1, (.ro (.int .i64))), (5, (.ro (.int .i64)))], []⟩
def f117con (F : (List TVal) → Int → Option Int) : Con := ⟨f117in, f117out, 2, 1, fun x => F x.1 x.2⟩
def f117ctx (k : Nat) : Ctx := ⟨tyAt tys, conAt [(178, [f178con (laws_szVal k)])], 27, fun _ => false⟩
theorem f117hc (k : Nat) : CtxOk Try.prog (f117ctx k) := ctxOk tys_ok mixed_ok (consOk_cons (f178ok k) (consOk_nil))
theorem f117ok (k : Nat) : FnOk Try.prog 117 (f117con (laws_szValS k)) :=
  let hc := f117hc k
  fnOk (fn := Try.f117) (code := bodyOf Try.f117) (res := [.tmp 4]) hc (by kernel_rfl) (by kernel_rfl) (by decide) (by kernel_rfl) (by kernel_rfl) (by kernel_rfl) (Nat.le_of_ble_eq_true (by kernel_rfl)) _
    (fun x => Snd.seq (by kernel_rfl) (Snd.seq (by kernel_rfl) (Snd.seq (by kernel_rfl) (Snd.seq (by kernel_rfl) (Snd.exec hc _ _ _ _) (Snd.seq (by kernel_rfl) (Snd.block (id := 0) (by kernel_rfl) (Snd.loop' (by kernel_rfl) f117s5 (fun n x => laws_szValS.l5 k n x.1 x.2.1 x.2.2) _ (fun _ => rfl) (fun n5 => Snd.exec hc _ _ _ _) (fun n x => by kernel_rfl) k)) (Snd.exec hc _ _ _ _))) (Snd.exec hc _ _ _ _)) (Snd.exec hc _ _ _ _)) (Snd.exec hc _ _ _ _))
    (fun x => by kernel_rfl)

def f48in : SS := ⟨[(0, (.ro (.st (.cons (.list 159 (.st (.cons (.int .i64) (.cons .str .nil)))) .nil)))), (1, (.ro (.int .i64)))], []⟩
def f48out : SS := ⟨[(0, (.ro (.int .i64)))], []⟩
def f48con (F : TRec → Int → Option Int) : Con := ⟨f48in, f48out, 2, 1, fun x => F x.1 x.2⟩
def f48ctx (k : Nat) : Ctx := ⟨tyAt tys, conAt [(117, [f117con (laws_szValS k)])], 12, fun _ => false⟩
theorem f48hc (k : Nat) : CtxOk Try.prog (f48ctx k) := ctxOk tys_ok mixed_ok (consOk_cons (f117ok k) (consOk_nil))
theorem f48ok (k : Nat) : FnOk Try.prog 48 (f48con (laws_szRec k)) :=
  let hc := f48hc k
  fnOk (fn := Try.f48) (code := bodyOf Try.f48) (res := [.tmp 4]) hc (by kernel_rfl) (by kernel_rfl) (by decide) (by kernel_rfl) (by kernel_rfl) (by kernel_rfl) (Nat.le_of_ble_eq_true (by kernel_rfl)) _
    (fun x => Snd.exec hc _ _ _ _)
    (fun x => by kernel_rfl)

def f28in : SS := ⟨[(0, (.ro (.list 83 (.st (.cons (.list 159 (.st (.cons (.int .i64) (.cons .str .nil)))) .nil))))), (1, (.ro (.int .i64)))], []⟩
def f28out : SS := ⟨[(0, (.ro (.int .i64)))], []⟩
def f28s5 : SS := ⟨[(0, (.ro (.list 83 (.st (.cons (.list 159 (.st (.cons (.int .i64) (.cons .str .nil)))) .nil))))), (1, (.ro (.int .i64))), (5, (.ro (.int .i64)))], []⟩
def f28con (F : (List TRec) → Int → Option Int) : Con := ⟨f28in, f28out, 2, 1, fun x => F x.1 x.2⟩
def f28ctx (k : Nat) : Ctx := ⟨tyAt tys, conAt [(48, [f48con (laws_szRec k)])], 27, fun _ => false⟩
theorem f28hc (k : Nat) : CtxOk Try.prog (f28ctx k) := ctxOk tys_ok mixed_ok (consOk_cons (f48ok k) (consOk_nil))
theorem f28ok (k : Nat) : FnOk Try.prog 28 (f28con (laws_szRecS k)) :=
  let hc := f28hc k
  fnOk (fn := Try.f28) (code := bodyOf Try.f28) (res := [.tmp 4]) hc (by kernel_rfl) (by kernel_rfl) (by decide) (by kernel_rfl) (by kernel_rfl) (by kernel_rfl) (Nat.le_of_ble_eq_true (by kernel_rfl)) _
    (fun x => Snd.seq (by kernel_rfl) (Snd.seq (by kernel_rfl) (Snd.seq (by kernel_rfl) (Snd.seq (by kernel_rfl) (Snd.exec hc _ _ _ _) (Snd.seq (by kernel_rfl) (Snd.block (id := 0) (by kernel_rfl) (Snd.loop' (by kernel_rfl) f28s5 (fun n x => laws_szRecS.l5 k n x.1 x.2.1 x.2.2) _ (fun _ => rfl) (fun n5 => Snd.exec hc _ _ _ _) (fun n x => by kernel_rfl) k)) (Snd.exec hc _ _ _ _))) (Snd.exec hc _ _ _ _)) (Snd.exec hc _ _ _ _)) (Snd.exec hc _ _ _ _))
    (fun x => by kernel_rfl)

def f96in : SS := ⟨[(0, (.ro (.st (.cons .str (.cons (.int .i64) (.cons (.int .i64) (.cons (.int .i64) .nil)))))))], []⟩
def f96out : SS := ⟨[(0, (.agg (.cons (.ro .str) (.cons (.ro (.int .i64)) (.cons (.ro (.int .i64)) (.cons (.ro (.int .i64)) .nil))))))], []⟩
def f96con (F : TCol → Option (TCol)) : Con := ⟨f96in, f96out, 1, 1, fun x => F x⟩
def f96ctx (k : Nat) : Ctx := ⟨tyAt tys, conAt [], 17, fun _ => false⟩
theorem f96hc (k : Nat) : CtxOk Try.prog (f96ctx k) := ctxOk tys_ok mixed_ok (consOk_nil)
theorem f96ok (k : Nat) : FnOk Try.prog 96 (f96con (laws_toCol k)) :=
  let hc := f96hc k
  fnOk (fn := Try.f96) (code := bodyOf Try.f96) (res := [.cell 2 126]) hc (by kernel_rfl) (by kernel_rfl) (by decide) (by kernel_rfl) (by kernel_rfl) (by kernel_rfl) (Nat.le_of_ble_eq_true (by kernel_rfl)) _
    (fun x => Snd.exec hc _ _ _ _)
    (fun x => by kernel_rfl)

def f29in : SS := ⟨[(0, (.ro (.list 125 (.st (.cons .str (.cons (.int .i64) (.cons (.int .i64) (.cons (.int .i64) .nil))))))))], []⟩
def f29out : SS := ⟨[(0, (.h 100))], [(100, (.sl 126 (.st (.cons .str (.cons (.int .i64) (.cons (.int .i64) (.cons (.int .i64) .nil)))))))]⟩
def f29s3 : SS := ⟨[(0, (.ro (.list 125 (.st (.cons .str (.cons (.int .i64) (.cons (.int .i64) (.cons (.int .i64) .nil)))))))), (3, (.h 100)), (4, (.ro (.int .i64)))], [(100, (.sl 126 (.st (.cons .str (.cons (.int .i64) (.cons (.int .i64) (.cons (.int .i64) .nil)))))))]⟩
def f29con (F : (List TCol) → Option (Unit × (List TCol))) : Con := ⟨f29in, f29out, 1, 1, fun x => F x⟩
def f29ctx (k : Nat) : Ctx := ⟨tyAt tys, conAt [(96, [f96con (laws_toCol k)])], 23, fun _ => false⟩
theorem f29hc (k : Nat) : CtxOk Try.prog (f29ctx k) := ctxOk tys_ok mixed_ok (consOk_cons (f96ok k) (consOk_nil))
theorem f29ok (k : Nat) : FnOk Try.prog 29 (f29con (laws_toColS k)) :=
  let hc := f29hc k
  fnOk (fn := Try.f29) (code := bodyOf Try.f29) (res := [.tmp 2]) hc (by kernel_rfl) (by kernel_rfl) (by decide) (by kernel_rfl) (by kernel_rfl) (by kernel_rfl) (Nat.le_of_ble_eq_true (by kernel_rfl)) _
    (fun x => Snd.seq (by kernel_rfl) (Snd.seq (by kernel_rfl) (Snd.seq (by kernel_rfl) (Snd.exec hc _ _ _ _) (Snd.seq (by kernel_rfl) (Snd.block (id := 0) (by kernel_rfl) (Snd.loop' (by kernel_rfl) f29s3 (fun n x => laws_toColS.l3 k n x.1.1 x.1.2.2 x.2) _ (fun _ => rfl) (fun n3 => Snd.exec hc _ _ _ _) (fun n x => by kernel_rfl) k)) (Snd.exec hc _ _ _ _))) (Snd.exec hc _ _ _ _)) (Snd.exec hc _ _ _ _))
    (fun x => by kernel_rfl)

def f181in : SS := ⟨[(0, (.ro (.st (.cons (.int .i64) (.cons .str .nil)))))], []⟩
def f181out : SS := ⟨[(0, (.agg (.cons (.ro (.int .i64)) (.cons (.ro .str) .nil))))], []⟩
def f181con (F : TVal → Option (TVal)) : Con := ⟨f181in, f181out, 1, 1, fun x => F x⟩
def f181ctx (k : Nat) : Ctx := ⟨tyAt tys, conAt [], 11, fun _ => false⟩
theorem f181hc (k : Nat) : CtxOk Try.prog (f181ctx k) := ctxOk tys_ok mixed_ok (consOk_nil)
theorem f181ok (k : Nat) : FnOk Try.prog 181 (f181con (laws_toVal k)) :=
  let hc := f181hc k
  fnOk (fn := Try.f181) (code := bodyOf Try.f181) (res := [.cell 2 52]) hc (by kernel_rfl) (by kernel_rfl) (by decide) (by kernel_rfl) (by kernel_rfl) (by kernel_rfl) (Nat.le_of_ble_eq_true (by kernel_rfl)) _
    (fun x => Snd.exec hc _ _ _ _)
    (fun x => by kernel_rfl)

def f120in : SS := ⟨[(0, (.ro (.list 159 (.st (.cons (.int .i64) (.cons .str .nil))))))], []⟩
def f120out : SS := ⟨[(0, (.h 100))], [(100, (.sl 52 (.st (.cons (.int .i64) (.cons .str .nil)))))]⟩
def f120s3 : SS := ⟨[(0, (.ro (.list 159 (.st (.cons (.int .i64) (.cons .str .nil)))))), (3, (.h 100)), (4, (.ro (.int .i64)))], [(100, (.sl 52 (.st (.cons (.int .i64) (.cons .str .nil)))))]⟩
def f120con (F : (List TVal) → Option (Unit × (List TVal))) : Con := ⟨f120in, f120out, 1, 1, fun x => F x⟩
def f120ctx (k : Nat) : Ctx := ⟨tyAt tys, conAt [(181, [f181con (laws_toVal k)])], 23, fun _ => false⟩
theorem f120hc (k : Nat) : CtxOk Try.prog (f120ctx k) := ctxOk tys_ok mixed_ok (consOk_cons (f181ok k) (consOk_nil))
theorem f120ok (k : Nat) : FnOk Try.prog 120 (f120con (laws_toValS k)) :=
  let hc := f120hc k
  fnOk (fn := Try.f120) (code := bodyOf Try.f120) (res := [.tmp 2]) hc (by kernel_rfl) (by kernel_rfl) (by decide) (by kernel_rfl) (by kernel_rfl) (by kernel_rfl) (Nat.le_of_ble_eq_true (by kernel_rfl)) _
    (fun x => Snd.seq (by kernel_rfl) (Snd.seq (by kernel_rfl) (Snd.seq (by kernel_rfl) (Snd.exec hc _ _ _ _) (Snd.seq (by kernel_rfl) (Snd.block (id := 0) (by kernel_rfl) (Snd.loop' (by kernel_rfl) f120s3 (fun n x => laws_toValS.l3 k n x.1.1 x.1.2.2 x.2) _ (fun _ => rfl) (fun n3 => Snd.exec hc _ _ _ _) (fun n x => by kernel_rfl) k)) (Snd.exec hc _ _ _ _))) (Snd.exec hc _ _ _ _)) (Snd.exec hc _ _ _ _))
    (fun x => by kernel_rfl)

def f51in : SS := ⟨[(0, (.ro (.st (.cons (.list 159 (.st (.cons (.int .i64) (.cons .str .nil)))) .nil))))], []⟩
def f51out : SS := ⟨[(0, (.agg (.cons (.h 100) .nil)))], [(100, (.sl 52 (.st (.cons (.int .i64) (.cons .str .nil)))))]⟩
def f51con (F : TRec → Option (((Unit × Unit)) × (List TVal))) : Con := ⟨f51in, f51out, 1, 1, fun x => F x⟩
def f51ctx (k : Nat) : Ctx := ⟨tyAt tys, conAt [(120, [f120con (laws_toValS k)])], 9, fun _ => false⟩
theorem f51hc (k : Nat) : CtxOk Try.prog (f51ctx k) := ctxOk tys_ok mixed_ok (consOk_cons (f120ok k) (consOk_nil))
theorem f51ok (k : Nat) : FnOk Try.prog 51 (f51con (laws_toRec k)) :=
  let hc := f51hc k
  fnOk (fn := Try.f51) (code := bodyOf Try.f51) (res := [.cell 2 27]) hc (by kernel_rfl) (by kernel_rfl) (by decide) (by kernel_rfl) (by kernel_rfl) (by kernel_rfl) (Nat.le_of_ble_eq_true (by kernel_rfl)) _
    (fun x => Snd.exec hc _ _ _ _)
    (fun x => by kernel_rfl)

def f30in : SS := ⟨[(0, (.ro (.list 83 (.st (.cons (.list 159 (.st (.cons (.int .i64) (.cons .str .nil)))) .nil)))))], []⟩
def f30out : SS := ⟨[(0, (.h 100))], [(100, (.sl 27 (.st (.cons (.list 52 (.st (.cons (.int .i64) (.cons .str .nil)))) .nil))))]⟩
def f30s3 : SS := ⟨[(0, (.ro (.list 83 (.st (.cons (.list 159 (.st (.cons (.int .i64) (.cons .str .nil)))) .nil))))), (3, (.h 100)), (4, (.ro (.int .i64)))], [(100, (.sl 27 (.st (.cons (.list 52 (.st (.cons (.int .i64) (.cons .str .nil)))) .nil))))]⟩
def f30con (F : (List TRec) → Option (Unit × (List TRec))) : Con := ⟨f30in, f30out, 1, 1, fun x => F x⟩
def f30ctx (k : Nat) : Ctx := ⟨tyAt tys, conAt [(51, [f51con (laws_toRec k)])], 23, fun _ => false⟩
theorem f30hc (k : Nat) : CtxOk Try.prog (f30ctx k) := ctxOk tys_ok mixed_ok (consOk_cons (f51ok k) (consOk_nil))
theorem f30ok (k : Nat) : FnOk Try.prog 30 (f30con (laws_toRecS k)) :=
  let hc := f30hc k
  fnOk (fn := Try.f30) (code := bodyOf Try.f30) (res := [.tmp 2]) hc (by kernel_rfl) (by kernel_rfl) (by decide) (by kernel_rfl) (by kernel_rfl) (by kernel_rfl) (Nat.le_of_ble_eq_true (by kernel_rfl)) _
    (fun x => Snd.seq (by kernel_rfl) (Snd.seq (by kernel_rfl) (Snd.seq (by kernel_rfl) (Snd.exec hc _ _ _ _) (Snd.seq (by kernel_rfl) (Snd.block (id := 0) (by kernel_rfl) (Snd.loop' (by kernel_rfl) f30s3 (fun n x => laws_toRecS.l3 k n x.1.1 x.1.2.2 x.2) _ (fun _ => rfl) (fun n3 => Snd.exec hc _ _ _ _) (fun n x => by kernel_rfl) k)) (Snd.exec hc _ _ _ _))) (Snd.exec hc _ _ _ _)) (Snd.exec hc _ _ _ _))
    (fun x => by kernel_rfl)

def f183in : SS := ⟨[(0, (.ro (.st (.cons (.int .i64) (.cons .str .nil))))), (1, (.ro (.st (.cons (.int .i64) (.cons .str .nil)))))], []⟩
def f183out : SS := ⟨[(0, (.ro .bool))], []⟩
def f183con (F : TVal → TVal → Option Bool) : Con := ⟨f183in, f183out, 2, 1, fun x => F x.1 x.2⟩
def f183ctx (k : Nat) : Ctx := ⟨tyAt tys, conAt [], 15, fun _ => false⟩
theorem f183hc (k : Nat) : CtxOk Try.prog (f183ctx k) := ctxOk tys_ok mixed_ok (consOk_nil)
theorem f183ok (k : Nat) : FnOk Try.prog 183 (f183con (laws_eqVal k)) :=
  let hc := f183hc k
  fnOk (fn := Try.f183) (code := bodyOf Try.f183) (res := [.tmp 4]) hc (by kernel_rfl) (by kernel_rfl) (by decide) (by kernel_rfl) (by kernel_rfl) (by kernel_rfl) (Nat.le_of_ble_eq_true (by kernel_rfl)) _
    (fun x => Snd.exec hc _ _ _ _)
    (fun x => by kernel_rfl)

def f200in : SS := ⟨[(0, (.ro (.st (.cons (.int .i64) (.cons (.int .i64) (.cons (.st (.cons (.int .i64) (.cons .str .nil))) .nil)))))), (1, (.ro (.st (.cons (.int .i64) (.cons (.int .i64) (.cons (.st (.cons (.int .i64) (.cons .str .nil))) .nil))))))], []⟩
def f200out : SS := ⟨[(0, (.ro .bool))], []⟩
def f200con (F : TTriple → TTriple → Option Bool) : Con := ⟨f200in, f200out, 2, 1, fun x => F x.1 x.2⟩
def f200ctx (k : Nat) : Ctx := ⟨tyAt tys, conAt [(183, [f183con (laws_eqVal k)])], 21, fun _ => false⟩
theorem f200hc (k : Nat) : CtxOk Try.prog (f200ctx k) := ctxOk tys_ok mixed_ok (consOk_cons (f183ok k) (consOk_nil))
theorem f200ok (k : Nat) : FnOk Try.prog 200 (f200con (laws_eqTriple k)) :=
  let hc := f200hc k
  fnOk (fn := Try.f200) (code := bodyOf Try.f200) (res := [.tmp 4]) hc (by kernel_rfl) (by kernel_rfl) (by decide) (by kernel_rfl) (by kernel_rfl) (by kernel_rfl) (Nat.le_of_ble_eq_true (by kernel_rfl)) _
    (fun x => Snd.exec hc _ _ _ _)
    (fun x => by kernel_rfl)

def f153in : SS := ⟨[(0, (.ro (.list 54 (.st (.cons (.int .i64) (.cons (.int .i64) (.cons (.st (.cons (.int .i64) (.cons .str .nil))) .nil))))))), (1, (.ro (.list 54 (.st (.cons (.int .i64) (.cons (.int .i64) (.cons (.st (.cons (.int .i64) (.cons .str .nil))) .nil)))))))], []⟩
def f153out : SS := ⟨[(0, (.ro .bool))], []⟩
def f153s4 : SS := ⟨[(0, (.ro (.list 54 (.st (.cons (.int .i64) (.cons (.int .i64) (.cons (.st (.cons (.int .i64) (.cons .str .nil))) .nil))))))), (1, (.ro (.list 54 (.st (.cons (.int .i64) (.cons (.int .i64) (.cons (.st (.cons (.int .i64) (.cons .str .nil))) .nil))))))), (5, (.ro (.int .i64)))], []⟩
def f153con (F : (List TTriple) → (List TTriple) → Option Bool) : Con := ⟨f153in, f153out, 2, 1, fun x => F x.1 x.2⟩
def f153ctx (k : Nat) : Ctx := ⟨tyAt tys, conAt [(200, [f200con (laws_eqTriple k)])], 27, fun _ => false⟩
theorem f153hc (k : Nat) : CtxOk Try.prog (f153ctx k) := ctxOk tys_ok mixed_ok (consOk_cons (f200ok k) (consOk_nil))
theorem f153ok (k : Nat) : FnOk Try.prog 153 (f153con (laws_eqTripleS k)) :=
  let hc := f153hc k
  fnOk (fn := Try.f153) (code := bodyOf Try.f153) (res := [.tmp 4]) hc (by kernel_rfl) (by kernel_rfl) (by decide) (by kernel_rfl) (by kernel_rfl) (by kernel_rfl) (Nat.le_of_ble_eq_true (by kernel_rfl)) _
    (fun x => Snd.seq (by kernel_rfl) (Snd.seq (by kernel_rfl) (Snd.seq (by kernel_rfl) (Snd.exec hc _ _ _ _) (Snd.seq (by kernel_rfl) (Snd.block (id := 0) (by kernel_rfl) (Snd.loop' (by kernel_rfl) f153s4 (fun n x => laws_eqTripleS.l4 k n x.1 x.2.1 x.2.2) _ (fun _ => rfl) (fun n4 => Snd.exec hc _ _ _ _) (fun n x => by kernel_rfl) k)) (Snd.exec hc _ _ _ _))) (Snd.exec hc _ _ _ _)) (Snd.exec hc _ _ _ _))
    (fun x => by kernel_rfl)

def f97in : SS := ⟨[(0, (.ro (.st (.cons (.list 54 (.st (.cons (.int .i64) (.cons (.int .i64) (.cons (.st (.cons (.int .i64) (.cons .str .nil))) .nil))))) .nil)))), (1, (.ro (.st (.cons (.list 54 (.st (.cons (.int .i64) (.cons (.int .i64) (.cons (.st (.cons (.int .i64) (.cons .str .nil))) .nil))))) .nil))))], []⟩
def f97out : SS := ⟨[(0, (.ro .bool))], []⟩
def f97con (F : TColumn → TColumn → Option Bool) : Con := ⟨f97in, f97out, 2, 1, fun x => F x.1 x.2⟩
def f97ctx (k : Nat) : Ctx := ⟨tyAt tys, conAt [(153, [f153con (laws_eqTripleS k)])], 11, fun _ => false⟩
theorem f97hc (k : Nat) : CtxOk Try.prog (f97ctx k) := ctxOk tys_ok mixed_ok (consOk_cons (f153ok k) (consOk_nil))
theorem f97ok (k : Nat) : FnOk Try.prog 97 (f97con (laws_eqColumn k)) :=
  let hc := f97hc k
  fnOk (fn := Try.f97) (code := bodyOf Try.f97) (res := [.tmp 4]) hc (by kernel_rfl) (by kernel_rfl) (by decide) (by kernel_rfl) (by kernel_rfl) (by kernel_rfl) (Nat.le_of_ble_eq_true (by kernel_rfl)) _
    (fun x => Snd.exec hc _ _ _ _)
    (fun x => by kernel_rfl)

def f31in : SS := ⟨[(0, (.ro (.list 50 (.st (.cons (.list 54 (.st (.cons (.int .i64) (.cons (.int .i64) (.cons (.st (.cons (.int .i64) (.cons .str .nil))) .nil))))) .nil))))), (1, (.ro (.list 50 (.st (.cons (.list 54 (.st (.cons (.int .i64) (.cons (.int .i64) (.cons (.st (.cons (.int .i64) (.cons .str .nil))) .nil))))) .nil)))))], []⟩
def f31out : SS := ⟨[(0, (.ro .bool))], []⟩
def f31s4 : SS := ⟨[(0, (.ro (.list 50 (.st (.cons (.list 54 (.st (.cons (.int .i64) (.cons (.int .i64) (.cons (.st (.cons (.int .i64) (.cons .str .nil))) .nil))))) .nil))))), (1, (.ro (.list 50 (.st (.cons (.list 54 (.st (.cons (.int .i64) (.cons (.int .i64) (.cons (.st (.cons (.int .i64) (.cons .str .nil))) .nil))))) .nil))))), (5, (.ro (.int .i64)))], []⟩
def f31con (F : (List TColumn) → (List TColumn) → Option Bool) : Con := ⟨f31in, f31out, 2, 1, fun x => F x.1 x.2⟩
def f31ctx (k : Nat) : Ctx := ⟨tyAt tys, conAt [(97, [f97con (laws_eqColumn k)])], 27, fun _ => false⟩
theorem f31hc (k : Nat) : CtxOk Try.prog (f31ctx k) := ctxOk tys_ok mixed_ok (consOk_cons (f97ok k) (consOk_nil))
theorem f31ok (k : Nat) : FnOk Try.prog 31 (f31con (laws_eqColumnS k)) :=
  let hc := f31hc k
  fnOk (fn := Try.f31) (code := bodyOf Try.f31) (res := [.tmp 4]) hc (by kernel_rfl) (by kernel_rfl) (by decide) (by kernel_rfl) (by kernel_rfl) (by kernel_rfl) (Nat.le_of_ble_eq_true (by kernel_rfl)) _
    (fun x => Snd.seq (by kernel_rfl) (Snd.seq (by kernel_rfl) (Snd.seq (by kernel_rfl) (Snd.exec hc _ _ _ _) (Snd.seq (by kernel_rfl) (Snd.block (id := 0) (by kernel_rfl) (Snd.loop' (by kernel_rfl) f31s4 (fun n x => laws_eqColumnS.l4 k n x.1 x.2.1 x.2.2) _ (fun _ => rfl) (fun n4 => Snd.exec hc _ _ _ _) (fun n x => by kernel_rfl) k)) (Snd.exec hc _ _ _ _))) (Snd.exec hc _ _ _ _)) (Snd.exec hc _ _ _ _))
    (fun x => by kernel_rfl)

def f98in : SS := ⟨[(0, (.ro (.st (.cons .str (.cons (.int .i64) (.cons (.int .i64) (.cons (.int .i64) .nil))))))), (1, (.ro (.st (.cons .str (.cons (.int .i64) (.cons (.int .i64) (.cons (.int .i64) .nil)))))))], []⟩
def f98out : SS := ⟨[(0, (.ro .bool))], []⟩
def f98con (F : TCol → TCol → Option Bool) : Con := ⟨f98in, f98out, 2, 1, fun x => F x.1 x.2⟩
def f98ctx (k : Nat) : Ctx := ⟨tyAt tys, conAt [], 25, fun _ => false⟩
theorem f98hc (k : Nat) : CtxOk Try.prog (f98ctx k) := ctxOk tys_ok mixed_ok (consOk_nil)
theorem f98ok (k : Nat) : FnOk Try.prog 98 (f98con (laws_eqCol k)) :=
  let hc := f98hc k
  fnOk (fn := Try.f98) (code := bodyOf Try.f98) (res := [.tmp 4]) hc (by kernel_rfl) (by kernel_rfl) (by decide) (by kernel_rfl) (by kernel_rfl) (by kernel_rfl) (Nat.le_of_ble_eq_true (by kernel_rfl)) _
    (fun x => Snd.exec hc _ _ _ _)
    (fun x => by kernel_rfl)

def f32in : SS := ⟨[(0, (.ro (.list 126 (.st (.cons .str (.cons (.int .i64) (.cons (.int .i64) (.cons (.int .i64) .nil)))))))), (1, (.ro (.list 126 (.st (.cons .str (.cons (.int .i64) (.cons (.int .i64) (.cons (.int .i64) .nil))))))))], []⟩
def f32out : SS := ⟨[(0, (.ro .bool))], []⟩
def f32s4 : SS := ⟨[(0, (.ro (.list 126 (.st (.cons .str (.cons (.int .i64) (.cons (.int .i64) (.cons (.int .i64) .nil)))))))), (1, (.ro (.list 126 (.st (.cons .str (.cons (.int .i64) (.cons (.int .i64) (.cons (.int .i64) .nil)))))))), (5, (.ro (.int .i64)))], []⟩
def f32con (F : (List TCol) → (List TCol) → Option Bool) : Con := ⟨f32in, f32out, 2, 1, fun x => F x.1 x.2⟩
def f32ctx (k : Nat) : Ctx := ⟨tyAt tys, conAt [(98, [f98con (laws_eqCol k)])], 27, fun _ => false⟩
theorem f32hc (k : Nat) : CtxOk Try.prog (f32ctx k) := ctxOk tys_ok mixed_ok (consOk_cons (f98ok k) (consOk_nil))
theorem f32ok (k : Nat) : FnOk Try.prog 32 (f32con (laws_eqColS k)) :=
  let hc := f32hc k
  fnOk (fn := Try.f32) (code := bodyOf Try.f32) (res := [.tmp 4]) hc (by kernel_rfl) (by kernel_rfl) (by decide) (by kernel_rfl) (by kernel_rfl) (by kernel_rfl) (Nat.le_of_ble_eq_true (by kernel_rfl)) _
    (fun x => Snd.seq (by kernel_rfl) (Snd.seq (by kernel_rfl) (Snd.seq (by kernel_rfl) (Snd.exec hc _ _ _ _) (Snd.seq (by kernel_rfl) (Snd.block (id := 0) (by kernel_rfl) (Snd.loop' (by kernel_rfl) f32s4 (fun n x => laws_eqColS.l4 k n x.1 x.2.1 x.2.2) _ (fun _ => rfl) (fun n4 => Snd.exec hc _ _ _ _) (fun n x => by kernel_rfl) k)) (Snd.exec hc _ _ _ _))) (Snd.exec hc _ _ _ _)) (Snd.exec hc _ _ _ _))
    (fun x => by kernel_rfl)

def f123in : SS := ⟨[(0, (.ro (.list 52 (.st (.cons (.int .i64) (.cons .str .nil)))))), (1, (.ro (.list 52 (.st (.cons (.int .i64) (.cons .str .nil))))))], []⟩
def f123out : SS := ⟨[(0, (.ro .bool))], []⟩
def f123s4 : SS := ⟨[(0, (.ro (.list 52 (.st (.cons (.int .i64) (.cons .str .nil)))))), (1, (.ro (.list 52 (.st (.cons (.int .i64) (.cons .str .nil)))))), (5, (.ro (.int .i64)))], []⟩
def f123con (F : (List TVal) → (List TVal) → Option Bool) : Con := ⟨f123in, f123out, 2, 1, fun x => F x.1 x.2⟩
def f123ctx (k : Nat) : Ctx := ⟨tyAt tys, conAt [(183, [f183con (laws_eqVal k)])], 27, fun _ => false⟩
theorem f123hc (k : Nat) : CtxOk Try.prog (f123ctx k) := ctxOk tys_ok mixed_ok (consOk_cons (f183ok k) (consOk_nil))
theorem f123ok (k : Nat) : FnOk Try.prog 123 (f123con (laws_eqValS k)) :=
  let hc := f123hc k
  fnOk (fn := Try.f123) (code := bodyOf Try.f123) (res := [.tmp 4]) hc (by kernel_rfl) (by kernel_rfl) (by decide) (by kernel_rfl) (by kernel_rfl) (by kernel_rfl) (Nat.le_of_ble_eq_true (by kernel_rfl)) _
    (fun x => Snd.seq (by kernel_rfl) (Snd.seq (by kernel_rfl) (Snd.seq (by kernel_rfl) (Snd.exec hc _ _ _ _) (Snd.seq (by kernel_rfl) (Snd.block (id := 0) (by kernel_rfl) (Snd.loop' (by kernel_rfl) f123s4 (fun n x => laws_eqValS.l4 k n x.1 x.2.1 x.2.2) _ (fun _ => rfl) (fun n4 => Snd.exec hc _ _ _ _) (fun n x => by kernel_rfl) k)) (Snd.exec hc _ _ _ _))) (Snd.exec hc _ _ _ _)) (Snd.exec hc _ _ _ _))
    (fun x => by kernel_rfl)

def f54in : SS := ⟨[(0, (.ro (.st (.cons (.list 52 (.st (.cons (.int .i64) (.cons .str .nil)))) .nil)))), (1, (.ro (.st (.cons (.list 52 (.st (.cons (.int .i64) (.cons .str .nil)))) .nil))))], []⟩
def f54out : SS := ⟨[(0, (.ro .bool))], []⟩
def f54con (F : TRec → TRec → Option Bool) : Con := ⟨f54in, f54out, 2, 1, fun x => F x.1 x.2⟩
def f54ctx (k : Nat) : Ctx := ⟨tyAt tys, conAt [(123, [f123con (laws_eqValS k)])], 11, fun _ => false⟩
theorem f54hc (k : Nat) : CtxOk Try.prog (f54ctx k) := ctxOk tys_ok mixed_ok (consOk_cons (f123ok k) (consOk_nil))
theorem f54ok (k : Nat) : FnOk Try.prog 54 (f54con (laws_eqRec k)) :=
  let hc := f54hc k
  fnOk (fn := Try.f54) (code := bodyOf Try.f54) (res := [.tmp 4]) hc (by kernel_rfl) (by kernel_rfl) (by decide) (by kernel_rfl) (by kernel_rfl) (by kernel_rfl) (Nat.le_of_ble_eq_true (by kernel_rfl)) _
    (fun x => Snd.exec hc _ _ _ _)
    (fun x => by kernel_rfl)

def f33in : SS := ⟨[(0, (.ro (.list 27 (.st (.cons (.list 52 (.st (.cons (.int .i64) (.cons .str .nil)))) .nil))))), (1, (.ro (.list 27 (.st (.cons (.list 52 (.st (.cons (.int .i64) (.cons .str .nil)))) .nil)))))], []⟩
def f33out : SS := ⟨[(0, (.ro .bool))], []⟩
def f33s4 : SS := ⟨[(0, (.ro (.list 27 (.st (.cons (.list 52 (.st (.cons (.int .i64) (.cons .str .nil)))) .nil))))), (1, (.ro (.list 27 (.st (.cons (.list 52 (.st (.cons (.int .i64) (.cons .str .nil)))) .nil))))), (5, (.ro (.int .i64)))], []⟩
def f33con (F : (List TRec) → (List TRec) → Option Bool) : Con := ⟨f33in, f33out, 2, 1, fun x => F x.1 x.2⟩
def f33ctx (k : Nat) : Ctx := ⟨tyAt tys, conAt [(54, [f54con (laws_eqRec k)])], 27, fun _ => false⟩
theorem f33hc (k : Nat) : CtxOk Try.prog (f33ctx k) := ctxOk tys_ok mixed_ok (consOk_cons (f54ok k) (consOk_nil))
theorem f33ok (k : Nat) : FnOk Try.prog 33 (f33con (laws_eqRecS k)) :=
  let hc := f33hc k
  fnOk (fn := Try.f33) (code := bodyOf Try.f33) (res := [.tmp 4]) hc (by kernel_rfl) (by kernel_rfl) (by decide) (by kernel_rfl) (by kernel_rfl) (by kernel_rfl) (Nat.le_of_ble_eq_true (by kernel_rfl)) _
    (fun x => Snd.seq (by kernel_rfl) (Snd.seq (by kernel_rfl) (Snd.seq (by kernel_rfl) (Snd.exec hc _ _ _ _) (Snd.seq (by kernel_rfl) (Snd.block (id := 0) (by kernel_rfl) (Snd.loop' (by kernel_rfl) f33s4 (fun n x => laws_eqRecS.l4 k n x.1 x.2.1 x.2.2) _ (fun _ => rfl) (fun n4 => Snd.exec hc _ _ _ _) (fun n x => by kernel_rfl) k)) (Snd.exec hc _ _ _ _))) (Snd.exec hc _ _ _ _)) (Snd.exec hc _ _ _ _))
    (fun x => by kernel_rfl)

def f99in : SS := ⟨[(0, (.ro (.int .i64)))], []⟩
def f99out : SS := ⟨[(0, (.ro .str))], []⟩
def f99s4 : SS := ⟨[(0, (.ro (.int .i64))), (3, (.ro .str))], []⟩
def f99con (F : Int → Option ByteArray) : Con := ⟨f99in, f99out, 1, 1, fun x => F x⟩
def f99ctx (k : Nat) : Ctx := ⟨tyAt tys, conAt [], 20, fun _ => false⟩
theorem f99hc (k : Nat) : CtxOk Try.prog (f99ctx k) := ctxOk tys_ok mixed_ok (consOk_nil)
theorem f99ok (k : Nat) : FnOk Try.prog 99 (f99con (laws_markText k)) :=
  let hc := f99hc k
  fnOk (fn := Try.f99) (code := bodyOf Try.f99) (res := [.tmp 2]) hc (by kernel_rfl) (by kernel_rfl) (by decide) (by kernel_rfl) (by kernel_rfl) (by kernel_rfl) (Nat.le_of_ble_eq_true (by kernel_rfl)) _
    (fun x => Snd.seq (by kernel_rfl) (Snd.seq (by kernel_rfl) (Snd.seq (by kernel_rfl) (Snd.seq (by kernel_rfl) (Snd.exec hc _ _ _ _) (Snd.block (id := 0) (by kernel_rfl) (Snd.loop' (by kernel_rfl) f99s4 (fun n x => laws_markText.l4 k n x.1 x.2) _ (fun _ => rfl) (fun n4 => Snd.exec hc _ _ _ _) (fun n x => by kernel_rfl) k))) (Snd.exec hc _ _ _ _)) (Snd.exec hc _ _ _ _)) (Snd.exec hc _ _ _ _))
    (fun x => by kernel_rfl)

def f34in : SS := ⟨[(0, (.h 10)), (1, (.ro (.int .i64)))], [(10, (.sl 126 (.st (.cons .str (.cons (.int .i64) (.cons (.int .i64) (.cons (.int .i64) .nil)))))))]⟩
def f34out : SS := ⟨[(0, (.ro (.int .i64)))], [(10, (.sl 126 (.st (.cons .str (.cons (.int .i64) (.cons (.int .i64) (.cons (.int .i64) .nil)))))))]⟩
def f34s2 : SS := ⟨[(0, (.h 10)), (1, (.ro (.int .i64))), (5, (.ro (.int .i64)))], [(10, (.sl 126 (.st (.cons .str (.cons (.int .i64) (.cons (.int .i64) (.cons (.int .i64) .nil)))))))]⟩
def f34con (F : Int → (List TCol) → Option (Int × (List TCol))) : Con := ⟨f34in, f34out, 2, 1, fun x => F x.1.2 x.2⟩
def f34ctx (k : Nat) : Ctx := ⟨tyAt tys, conAt [(99, [f99con (laws_markText k)])], 42, fun _ => false⟩
theorem f34hc (k : Nat) : CtxOk Try.prog (f34ctx k) := ctxOk tys_ok mixed_ok (consOk_cons (f99ok k) (consOk_nil))
theorem f34ok (k : Nat) : FnOk Try.prog 34 (f34con (laws_markColS k)) :=
  let hc := f34hc k
  fnOk (fn := Try.f34) (code := bodyOf Try.f34) (res := [.tmp 4]) hc (by kernel_rfl) (by kernel_rfl) (by decide) (by kernel_rfl) (by kernel_rfl) (by kernel_rfl) (Nat.le_of_ble_eq_true (by kernel_rfl)) _
    (fun x => Snd.seq (by kernel_rfl) (Snd.seq (by kernel_rfl) (Snd.exec hc _ _ _ _) (Snd.seq (by kernel_rfl) (Snd.block (id := 0) (by kernel_rfl) (Snd.loop' (by kernel_rfl) f34s2 (fun n x => laws_markColS.l2 k n x.1.2.1 x.1.2.2 x.2) _ (fun _ => rfl) (fun n2 => Snd.exec hc _ _ _ _) (fun n x => by kernel_rfl) k)) (Snd.exec hc _ _ _ _))) (Snd.exec hc _ _ _ _))
    (fun x => by kernel_rfl)

def f100in : SS := ⟨[(0, (.h 10)), (1, (.ro (.int .i64)))], [(10, (.sl 52 (.st (.cons (.int .i64) (.cons .str .nil)))))]⟩
def f100out : SS := ⟨[(0, (.ro (.int .i64)))], [(10, (.sl 52 (.st (.cons (.int .i64) (.cons .str .nil)))))]⟩
def f100s2 : SS := ⟨[(0, (.h 10)), (1, (.ro (.int .i64))), (5, (.ro (.int .i64)))], [(10, (.sl 52 (.st (.cons (.int .i64) (.cons .str .nil)))))]⟩
def f100con (F : Int → (List TVal) → Option (Int × (List TVal))) : Con := ⟨f100in, f100out, 2, 1, fun x => F x.1.2 x.2⟩
def f100ctx (k : Nat) : Ctx := ⟨tyAt tys, conAt [(99, [f99con (laws_markText k)])], 28, fun _ => false⟩
theorem f100hc (k : Nat) : CtxOk Try.prog (f100ctx k) := ctxOk tys_ok mixed_ok (consOk_cons (f99ok k) (consOk_nil))
theorem f100ok (k : Nat) : FnOk Try.prog 100 (f100con (laws_markValS k)) :=
  let hc := f100hc k
  fnOk (fn := Try.f100) (code := bodyOf Try.f100) (res := [.tmp 4]) hc (by kernel_rfl) (by kernel_rfl) (by decide) (by kernel_rfl) (by kernel_rfl) (by kernel_rfl) (Nat.le_of_ble_eq_true (by kernel_rfl)) _
    (fun x => Snd.seq (by kernel_rfl) (Snd.seq (by kernel_rfl) (Snd.exec hc _ _ _ _) (Snd.seq (by kernel_rfl) (Snd.block (id := 0) (by kernel_rfl) (Snd.loop' (by kernel_rfl) f100s2 (fun n x => laws_markValS.l2 k n x.1.2.1 x.1.2.2 x.2) _ (fun _ => rfl) (fun n2 => Snd.exec hc _ _ _ _) (fun n x => by kernel_rfl) k)) (Snd.exec hc _ _ _ _))) (Snd.exec hc _ _ _ _))
    (fun x => by kernel_rfl)

def f35in : SS := ⟨[(0, (.h 10)), (1, (.ro (.int .i64)))], [(10, (.sl 27 (.st (.cons (.list 52 (.st (.cons (.int .i64) (.cons .str .nil)))) .nil))))]⟩
def f35out : SS := ⟨[(0, (.ro (.int .i64)))], [(10, (.sl 27 (.st (.cons (.list 52 (.st (.cons (.int .i64) (.cons .str .nil)))) .nil))))]⟩
def f35s2 : SS := ⟨[(0, (.h 10)), (1, (.ro (.int .i64))), (5, (.ro (.int .i64)))], [(10, (.sl 27 (.st (.cons (.list 52 (.st (.cons (.int .i64) (.cons .str .nil)))) .nil))))]⟩
def f35con (F : Int → (List TRec) → Option (Int × (List TRec))) : Con := ⟨f35in, f35out, 2, 1, fun x => F x.1.2 x.2⟩
def f35ctx (k : Nat) : Ctx := ⟨tyAt tys, conAt [(100, [f100con (laws_markValS k)])], 20, fun _ => false⟩
theorem f35hc (k : Nat) : CtxOk Try.prog (f35ctx k) := ctxOk tys_ok mixed_ok (consOk_cons (f100ok k) (consOk_nil))
theorem f35ok (k : Nat) : FnOk Try.prog 35 (f35con (laws_markRecS k)) :=
  let hc := f35hc k
  fnOk (fn := Try.f35) (code := bodyOf Try.f35) (res := [.tmp 4]) hc (by kernel_rfl) (by kernel_rfl) (by decide) (by kernel_rfl) (by kernel_rfl) (by kernel_rfl) (Nat.le_of_ble_eq_true (by kernel_rfl)) _
    (fun x => Snd.seq (by kernel_rfl) (Snd.seq (by kernel_rfl) (Snd.exec hc _ _ _ _) (Snd.seq (by kernel_rfl) (Snd.block (id := 0) (by kernel_rfl) (Snd.loop' (by kernel_rfl) f35s2 (fun n x => laws_markRecS.l2 k n x.1.2.1 x.1.2.2 x.2) _ (fun _ => rfl) (fun n2 => Snd.exec hc _ _ _ _) (fun n x => by kernel_rfl) k)) (Snd.exec hc _ _ _ _))) (Snd.exec hc _ _ _ _))
    (fun x => by kernel_rfl)

def f101in : SS := ⟨[(0, (.h 10)), (1, (.ro (.int .i64)))], [(10, (.sl 54 (.st (.cons (.int .i64) (.cons (.int .i64) (.cons (.st (.cons (.int .i64) (.cons .str .nil))) .nil))))))]⟩
def f101out : SS := ⟨[(0, (.ro (.int .i64)))], [(10, (.sl 54 (.st (.cons (.int .i64) (.cons (.int .i64) (.cons (.st (.cons (.int .i64) (.cons .str .nil))) .nil))))))]⟩
def f101s2 : SS := ⟨[(0, (.h 10)), (1, (.ro (.int .i64))), (5, (.ro (.int .i64)))], [(10, (.sl 54 (.st (.cons (.int .i64) (.cons (.int .i64) (.cons (.st (.cons (.int .i64) (.cons .str .nil))) .nil))))))]⟩
def f101con (F : Int → (List TTriple) → Option (Int × (List TTriple))) : Con := ⟨f101in, f101out, 2, 1, fun x => F x.1.2 x.2⟩
def f101ctx (k : Nat) : Ctx := ⟨tyAt tys, conAt [(99, [f99con (laws_markText k)])], 44, fun _ => false⟩
theorem f101hc (k : Nat) : CtxOk Try.prog (f101ctx k) := ctxOk tys_ok mixed_ok (consOk_cons (f99ok k) (consOk_nil))
theorem f101ok (k : Nat) : FnOk Try.prog 101 (f101con (laws_markTripleS k)) :=
  let hc := f101hc k
  fnOk (fn := Try.f101) (code := bodyOf Try.f101) (res := [.tmp 4]) hc (by kernel_rfl) (by kernel_rfl) (by decide) (by kernel_rfl) (by kernel_rfl) (by kernel_rfl) (Nat.le_of_ble_eq_true (by kernel_rfl)) _
    (fun x => Snd.seq (by kernel_rfl) (Snd.seq (by kernel_rfl) (Snd.exec hc _ _ _ _) (Snd.seq (by kernel_rfl) (Snd.block (id := 0) (by kernel_rfl) (Snd.loop' (by kernel_rfl) f101s2 (fun n x => laws_markTripleS.l2 k n x.1.2.1 x.1.2.2 x.2) _ (fun _ => rfl) (fun n2 => Snd.exec hc _ _ _ _) (fun n x => by kernel_rfl) k)) (Snd.exec hc _ _ _ _))) (Snd.exec hc _ _ _ _))
    (fun x => by kernel_rfl)

def f36in : SS := ⟨[(0, (.h 10)), (1, (.ro (.int .i64)))], [(10, (.sl 50 (.st (.cons (.list 54 (.st (.cons (.int .i64) (.cons (.int .i64) (.cons (.st (.cons (.int .i64) (.cons .str .nil))) .nil))))) .nil))))]⟩
def f36out : SS := ⟨[(0, (.ro (.int .i64)))], [(10, (.sl 50 (.st (.cons (.list 54 (.st (.cons (.int .i64) (.cons (.int .i64) (.cons (.st (.cons (.int .i64) (.cons .str .nil))) .nil))))) .nil))))]⟩
def f36s2 : SS := ⟨[(0, (.h 10)), (1, (.ro (.int .i64))), (5, (.ro (.int .i64)))], [(10, (.sl 50 (.st (.cons (.list 54 (.st (.cons (.int .i64) (.cons (.int .i64) (.cons (.st (.cons (.int .i64) (.cons .str .nil))) .nil))))) .nil))))]⟩
def f36con (F : Int → (List TColumn) → Option (Int × (List TColumn))) : Con := ⟨f36in, f36out, 2, 1, fun x => F x.1.2 x.2⟩
def f36ctx (k : Nat) : Ctx := ⟨tyAt tys, conAt [(101, [f101con (laws_markTripleS k)])], 20, fun _ => false⟩
theorem f36hc (k : Nat) : CtxOk Try.prog (f36ctx k) := ctxOk tys_ok mixed_ok (consOk_cons (f101ok k) (consOk_nil))
theorem f36ok (k : Nat) : FnOk Try.prog 36 (f36con (laws_markColumnS k)) :=
  let hc := f36hc k
  fnOk (fn := Try.f36) (code := bodyOf Try.f36) (res := [.tmp 4]) hc (by kernel_rfl) (by kernel_rfl) (by decide) (by kernel_rfl) (by kernel_rfl) (by kernel_rfl) (Nat.le_of_ble_eq_true (by kernel_rfl)) _
    (fun x => Snd.seq (by kernel_rfl) (Snd.seq (by kernel_rfl) (Snd.exec hc _ _ _ _) (Snd.seq (by kernel_rfl) (Snd.block (id := 0) (by kernel_rfl) (Snd.loop' (by kernel_rfl) f36s2 (fun n x => laws_markColumnS.l2 k n x.1.2.1 x.1.2.2 x.2) _ (fun _ => rfl) (fun n2 => Snd.exec hc _ _ _ _) (fun n x => by kernel_rfl) k)) (Snd.exec hc _ _ _ _))) (Snd.exec hc _ _ _ _))
    (fun x => by kernel_rfl)

def f102in : SS := ⟨[(0, (.ro (.list 54 (.st (.cons (.int .i64) (.cons (.int .i64) (.cons (.st (.cons (.int .i64) (.cons .str .nil))) .nil))))))), (1, (.ro (.int .i64)))], []⟩
def f102out : SS := ⟨[(0, (.ro (.int .i64)))], []⟩
def f102d13 : SS := ⟨[(0, (.ro (.list 54 (.st (.cons (.int .i64) (.cons (.int .i64) (.cons (.st (.cons (.int .i64) (.cons .str .nil))) .nil))))))), (1, (.ro (.int .i64))), (5, (.ro (.int .i64)))], []⟩
def f102s2 : SS := ⟨[(0, (.ro (.list 54 (.st (.cons (.int .i64) (.cons (.int .i64) (.cons (.st (.cons (.int .i64) (.cons .str .nil))) .nil))))))), (1, (.ro (.int .i64))), (5, (.ro (.int .i64)))], []⟩
def f102con (F : (List TTriple) → Int → Option Int) : Con := ⟨f102in, f102out, 2, 1, fun x => F x.1 x.2⟩
def f102ctx (k : Nat) : Ctx := ⟨tyAt tys, conAt [(99, [f99con (laws_markText k)])], 52, fun _ => false⟩
theorem f102hc (k : Nat) : CtxOk Try.prog (f102ctx k) := ctxOk tys_ok mixed_ok (consOk_cons (f99ok k) (consOk_nil))
theorem f102ok (k : Nat) : FnOk Try.prog 102 (f102con (laws_heldTripleS k)) :=
  let hc := f102hc k
  fnOk (fn := Try.f102) (code := bodyOf Try.f102) (res := [.tmp 4]) hc (by kernel_rfl) (by kernel_rfl) (by decide) (by kernel_rfl) (by kernel_rfl) (by kernel_rfl) (Nat.le_of_ble_eq_true (by kernel_rfl)) _
    (fun x => Snd.seq (by kernel_rfl) (Snd.seq (by kernel_rfl) (Snd.exec hc _ _ _ _) (Snd.seq (by kernel_rfl) (Snd.block (id := 0) (by kernel_rfl) (Snd.loop' (by kernel_rfl) f102s2 (fun n x => laws_heldTripleS.l2 k n x.1 x.2.1 x.2.2) _ (fun _ => rfl) (fun n2 => Snd.seq (by kernel_rfl) (Snd.seq (by kernel_rfl) (Snd.exec hc _ _ _ _) (Snd.block (id := 1) (by kernel_rfl) (Snd.seq (by kernel_rfl) (Snd.seq (by kernel_rfl) (Snd.seq (by kernel_rfl) (Snd.seq (by kernel_rfl) (Snd.seq (by kernel_rfl) (Snd.seq (by kernel_rfl) (Snd.seq (by kernel_rfl) (Snd.exec hc _ _ _ _) (Snd.seq (by kernel_rfl) (Snd.exec hc _ _ _ _) (Snd.fork hc (id := 13) (by kernel_rfl) ⟨f102d13, fun x => laws_heldTripleS.d13 k (laws_heldTripleS.l2 k n2) x.1 x.2.1 x.2.2⟩ [[0, 1, 2, 3, 4, 6, 5, 7, 8], [0, 1, 2, 3, 4, 6, 7, 5, 8]] (by kernel_rfl) (ords_cons (fun x => by kernel_rfl) (ords_cons (fun x => by kernel_rfl) (ords_nil)))))) (Snd.exec hc _ _ _ _)) (Snd.exec hc _ _ _ _)) (Snd.exec hc _ _ _ _)) (Snd.exec hc _ _ _ _)) (Snd.exec hc _ _ _ _)) (Snd.exec hc _ _ _ _)))) (Snd.exec hc _ _ _ _)) (fun n x => by kernel_rfl) k)) (Snd.exec hc _ _ _ _))) (Snd.exec hc _ _ _ _))
    (fun x => by kernel_rfl)

def f37in : SS := ⟨[(0, (.ro (.list 50 (.st (.cons (.list 54 (.st (.cons (.int .i64) (.cons (.int .i64) (.cons (.st (.cons (.int .i64) (.cons .str .nil))) .nil))))) .nil))))), (1, (.ro (.int .i64)))], []⟩
def f37out : SS := ⟨[(0, (.ro (.int .i64)))], []⟩
def f37s2 : SS := ⟨[(0, (.ro (.list 50 (.st (.cons (.list 54 (.st (.cons (.int .i64) (.cons (.int .i64) (.cons (.st (.cons (.int .i64) (.cons .str .nil))) .nil))))) .nil))))), (1, (.ro (.int .i64))), (5, (.ro (.int .i64)))], []⟩
def f37con (F : (List TColumn) → Int → Option Int) : Con := ⟨f37in, f37out, 2, 1, fun x => F x.1 x.2⟩
def f37ctx (k : Nat) : Ctx := ⟨tyAt tys, conAt [(102, [f102con (laws_heldTripleS k)])], 22, fun _ => false⟩
theorem f37hc (k : Nat) : CtxOk Try.prog (f37ctx k) := ctxOk tys_ok mixed_ok (consOk_cons (f102ok k) (consOk_nil))
theorem f37ok (k : Nat) : FnOk Try.prog 37 (f37con (laws_heldColumnS k)) :=
  let hc := f37hc k
  fnOk (fn := Try.f37) (code := bodyOf Try.f37) (res := [.tmp 4]) hc (by kernel_rfl) (by kernel_rfl) (by decide) (by kernel_rfl) (by kernel_rfl) (by kernel_rfl) (Nat.le_of_ble_eq_true (by kernel_rfl)) _
    (fun x => Snd.seq (by kernel_rfl) (Snd.seq (by kernel_rfl) (Snd.exec hc _ _ _ _) (Snd.seq (by kernel_rfl) (Snd.block (id := 0) (by kernel_rfl) (Snd.loop' (by kernel_rfl) f37s2 (fun n x => laws_heldColumnS.l2 k n x.1 x.2.1 x.2.2) _ (fun _ => rfl) (fun n2 => Snd.exec hc _ _ _ _) (fun n x => by kernel_rfl) k)) (Snd.exec hc _ _ _ _))) (Snd.exec hc _ _ _ _))
    (fun x => by kernel_rfl)

def f5in : SS := ⟨[(0, (.ro (.list 125 (.st (.cons .str (.cons (.int .i64) (.cons (.int .i64) (.cons (.int .i64) .nil)))))))), (1, (.ro (.list 83 (.st (.cons (.list 159 (.st (.cons (.int .i64) (.cons .str .nil)))) .nil)))))], []⟩
def f5out : SS := ⟨[(0, (.ro .bool))], []⟩
def f5con (F : (List TCol) → (List TRec) → Option Bool) : Con := ⟨f5in, f5out, 2, 1, fun x => F x.1 x.2⟩
def f5ctx (k : Nat) : Ctx := ⟨tyAt tys, conAt [(25, [f25con (impl_Shred k)]), (26, [f26con (spec_Shred k)]), (27, [f27con (laws_szColS k)]), (28, [f28con (laws_szRecS k)]), (29, [f29con (laws_toColS k)]), (30, [f30con (laws_toRecS k)]), (31, [f31con (laws_eqColumnS k)]), (32, [f32con (laws_eqColS k)]), (33, [f33con (laws_eqRecS k)]), (34, [f34con (laws_markColS k)]), (35, [f35con (laws_markRecS k)]), (36, [f36con (laws_markColumnS k)]), (37, [f37con (laws_heldColumnS k)])], 119, fun _ => false⟩
theorem f5hc (k : Nat) : CtxOk Try.prog (f5ctx k) := ctxOk tys_ok mixed_ok (consOk_cons (f25ok k) (consOk_cons (f26ok k) (consOk_cons (f27ok k) (consOk_cons (f28ok k) (consOk_cons (f29ok k) (consOk_cons (f30ok k) (consOk_cons (f31ok k) (consOk_cons (f32ok k) (consOk_cons (f33ok k) (consOk_cons (f34ok k) (consOk_cons (f35ok k) (consOk_cons (f36ok k) (consOk_cons (f37ok k) (consOk_nil))))))))))))))
theorem f5ok (k : Nat) : FnOk Try.prog 5 (f5con (laws_FnExactShred k)) :=
  let hc := f5hc k
  fnOk (fn := Try.f5) (code := bodyOf Try.f5) (res := [.tmp 4]) hc (by kernel_rfl) (by kernel_rfl) (by decide) (by kernel_rfl) (by kernel_rfl) (by kernel_rfl) (Nat.le_of_ble_eq_true (by kernel_rfl)) _
    (fun x => Snd.exec hc _ _ _ _)
    (fun x => by kernel_rfl)

end Go.Proofs.Ytifcflanpjkgkaa
