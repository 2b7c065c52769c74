/- The walks, printed by program. -/
import Derived.Test.YtmdmkakkodeniaaBase
import Derived.Test.YtmdmkakkodeniaaESchemaOfF0
set_option linter.unusedVariables false
set_option maxRecDepth 100000
namespace Go.Proofs.Ytmdmkakkodeniaa
open Go.Am Go.Fn

def f69in : SS := ⟨[(0, (.ro (.st (.cons .str (.cons (.int .i64) (.cons (.int .i64) (.cons (.int .i64) .nil))))))), (1, (.ro (.st (.cons .str (.cons (.int .i64) (.cons (.int .i64) (.cons (.int .i64) .nil)))))))], []⟩
def f69out : SS := ⟨[(0, (.ro .bool))], []⟩
def f69con (F : TCol → TCol → Option Bool) : Con := ⟨f69in, f69out, 2, 1, fun x => F x.1 x.2⟩
def f69ctx (k : Nat) : Ctx := ⟨tyAt tys, conAt [], 25, fun _ => false⟩
theorem f69hc (k : Nat) : CtxOk Try.prog (f69ctx k) := ctxOk tys_ok mixed_ok (consOk_nil)
theorem f69ok (k : Nat) : FnOk Try.prog 69 (f69con (laws_eqCol k)) :=
  let hc := f69hc k
  fnOk (fn := Try.f69) (code := bodyOf Try.f69) (res := [.tmp 4]) hc (by kernel_rfl) (by kernel_rfl) (by decide) (by kernel_rfl) (by kernel_rfl) (by kernel_rfl) (Nat.le_of_ble_eq_true (by kernel_rfl)) _
    (fun x => Snd.exec hc _ _ _ _)
    (fun x => by kernel_rfl)

def f23in : SS := ⟨[(0, (.ro (.list 93 (.st (.cons .str (.cons (.int .i64) (.cons (.int .i64) (.cons (.int .i64) .nil)))))))), (1, (.ro (.list 93 (.st (.cons .str (.cons (.int .i64) (.cons (.int .i64) (.cons (.int .i64) .nil))))))))], []⟩
def f23out : SS := ⟨[(0, (.ro .bool))], []⟩
def f23s4 : SS := ⟨[(0, (.ro (.list 93 (.st (.cons .str (.cons (.int .i64) (.cons (.int .i64) (.cons (.int .i64) .nil)))))))), (1, (.ro (.list 93 (.st (.cons .str (.cons (.int .i64) (.cons (.int .i64) (.cons (.int .i64) .nil)))))))), (5, (.ro (.int .i64)))], []⟩
def f23con (F : (List TCol) → (List TCol) → Option Bool) : Con := ⟨f23in, f23out, 2, 1, fun x => F x.1 x.2⟩
def f23ctx (k : Nat) : Ctx := ⟨tyAt tys, conAt [(69, [f69con (laws_eqCol k)])], 27, fun _ => false⟩
theorem f23hc (k : Nat) : CtxOk Try.prog (f23ctx k) := ctxOk tys_ok mixed_ok (consOk_cons (f69ok k) (consOk_nil))
theorem f23ok (k : Nat) : FnOk Try.prog 23 (f23con (laws_eqColS k)) :=
  let hc := f23hc k
  fnOk (fn := Try.f23) (code := bodyOf Try.f23) (res := [.tmp 4]) hc (by kernel_rfl) (by kernel_rfl) (by decide) (by kernel_rfl) (by kernel_rfl) (by kernel_rfl) (Nat.le_of_ble_eq_true (by kernel_rfl)) _
    (fun x => Snd.seq (by kernel_rfl) (Snd.seq (by kernel_rfl) (Snd.seq (by kernel_rfl) (Snd.exec hc _ _ _ _) (Snd.seq (by kernel_rfl) (Snd.block (id := 0) (by kernel_rfl) (Snd.loop' (by kernel_rfl) f23s4 (fun n x => laws_eqColS.l4 k n x.1 x.2.1 x.2.2) _ (fun _ => rfl) (fun n4 => Snd.exec hc _ _ _ _) (fun n x => by kernel_rfl) k)) (Snd.exec hc _ _ _ _))) (Snd.exec hc _ _ _ _)) (Snd.exec hc _ _ _ _))
    (fun x => by kernel_rfl)

def f70in : SS := ⟨[(0, (.ro (.int .i64)))], []⟩
def f70out : SS := ⟨[(0, (.ro .str))], []⟩
def f70s4 : SS := ⟨[(0, (.ro (.int .i64))), (3, (.ro .str))], []⟩
def f70con (F : Int → Option ByteArray) : Con := ⟨f70in, f70out, 1, 1, fun x => F x⟩
def f70ctx (k : Nat) : Ctx := ⟨tyAt tys, conAt [], 20, fun _ => false⟩
theorem f70hc (k : Nat) : CtxOk Try.prog (f70ctx k) := ctxOk tys_ok mixed_ok (consOk_nil)
theorem f70ok (k : Nat) : FnOk Try.prog 70 (f70con (laws_markText k)) :=
  let hc := f70hc k
  fnOk (fn := Try.f70) (code := bodyOf Try.f70) (res := [.tmp 2]) hc (by kernel_rfl) (by kernel_rfl) (by decide) (by kernel_rfl) (by kernel_rfl) (by kernel_rfl) (Nat.le_of_ble_eq_true (by kernel_rfl)) _
    (fun x => Snd.seq (by kernel_rfl) (Snd.seq (by kernel_rfl) (Snd.seq (by kernel_rfl) (Snd.seq (by kernel_rfl) (Snd.exec hc _ _ _ _) (Snd.block (id := 0) (by kernel_rfl) (Snd.loop' (by kernel_rfl) f70s4 (fun n x => laws_markText.l4 k n x.1 x.2) _ (fun _ => rfl) (fun n4 => Snd.exec hc _ _ _ _) (fun n x => by kernel_rfl) k))) (Snd.exec hc _ _ _ _)) (Snd.exec hc _ _ _ _)) (Snd.exec hc _ _ _ _))
    (fun x => by kernel_rfl)

def f25in : SS := ⟨[(0, (.h 10)), (1, (.ro (.int .i64)))], [(10, (.sl 93 (.st (.cons .str (.cons (.int .i64) (.cons (.int .i64) (.cons (.int .i64) .nil)))))))]⟩
def f25out : SS := ⟨[(0, (.ro (.int .i64)))], [(10, (.sl 93 (.st (.cons .str (.cons (.int .i64) (.cons (.int .i64) (.cons (.int .i64) .nil)))))))]⟩
def f25s2 : SS := ⟨[(0, (.h 10)), (1, (.ro (.int .i64))), (5, (.ro (.int .i64)))], [(10, (.sl 93 (.st (.cons .str (.cons (.int .i64) (.cons (.int .i64) (.cons (.int .i64) .nil)))))))]⟩
def f25con (F : Int → (List TCol) → Option (Int × (List TCol))) : Con := ⟨f25in, f25out, 2, 1, fun x => F x.1.2 x.2⟩
def f25ctx (k : Nat) : Ctx := ⟨tyAt tys, conAt [(70, [f70con (laws_markText k)])], 42, fun _ => false⟩
theorem f25hc (k : Nat) : CtxOk Try.prog (f25ctx k) := ctxOk tys_ok mixed_ok (consOk_cons (f70ok k) (consOk_nil))
theorem f25ok (k : Nat) : FnOk Try.prog 25 (f25con (laws_markColS k)) :=
  let hc := f25hc k
  fnOk (fn := Try.f25) (code := bodyOf Try.f25) (res := [.tmp 4]) hc (by kernel_rfl) (by kernel_rfl) (by decide) (by kernel_rfl) (by kernel_rfl) (by kernel_rfl) (Nat.le_of_ble_eq_true (by kernel_rfl)) _
    (fun x => Snd.seq (by kernel_rfl) (Snd.seq (by kernel_rfl) (Snd.exec hc _ _ _ _) (Snd.seq (by kernel_rfl) (Snd.block (id := 0) (by kernel_rfl) (Snd.loop' (by kernel_rfl) f25s2 (fun n x => laws_markColS.l2 k n x.1.2.1 x.1.2.2 x.2) _ (fun _ => rfl) (fun n2 => Snd.exec hc _ _ _ _) (fun n x => by kernel_rfl) k)) (Snd.exec hc _ _ _ _))) (Snd.exec hc _ _ _ _))
    (fun x => by kernel_rfl)

def f71in : SS := ⟨[(0, (.ro (.st (.cons (.int .i64) (.cons (.int .i64) (.cons (.int .i64) (.cons .str (.cons (.int .i64) .nil)))))))), (1, (.ro (.int .i64)))], []⟩
def f71out : SS := ⟨[(0, (.ro (.int .i64)))], []⟩
def f71con (F : TNode → Int → Option Int) : Con := ⟨f71in, f71out, 2, 1, fun x => F x.1 x.2⟩
def f71ctx (k : Nat) : Ctx := ⟨tyAt tys, conAt [], 13, fun _ => false⟩
theorem f71hc (k : Nat) : CtxOk Try.prog (f71ctx k) := ctxOk tys_ok mixed_ok (consOk_nil)
theorem f71ok (k : Nat) : FnOk Try.prog 71 (f71con (laws_szNode k)) :=
  let hc := f71hc k
  fnOk (fn := Try.f71) (code := bodyOf Try.f71) (res := [.tmp 4]) hc (by kernel_rfl) (by kernel_rfl) (by decide) (by kernel_rfl) (by kernel_rfl) (by kernel_rfl) (Nat.le_of_ble_eq_true (by kernel_rfl)) _
    (fun x => Snd.exec hc _ _ _ _)
    (fun x => by kernel_rfl)

def f29in : SS := ⟨[(0, (.ro (.list 104 (.st (.cons (.int .i64) (.cons (.int .i64) (.cons (.int .i64) (.cons .str (.cons (.int .i64) .nil))))))))), (1, (.ro (.int .i64)))], []⟩
def f29out : SS := ⟨[(0, (.ro (.int .i64)))], []⟩
def f29s5 : SS := ⟨[(0, (.ro (.list 104 (.st (.cons (.int .i64) (.cons (.int .i64) (.cons (.int .i64) (.cons .str (.cons (.int .i64) .nil))))))))), (1, (.ro (.int .i64))), (5, (.ro (.int .i64)))], []⟩
def f29con (F : (List TNode) → Int → Option Int) : Con := ⟨f29in, f29out, 2, 1, fun x => F x.1 x.2⟩
def f29ctx (k : Nat) : Ctx := ⟨tyAt tys, conAt [(71, [f71con (laws_szNode k)])], 27, fun _ => false⟩
theorem f29hc (k : Nat) : CtxOk Try.prog (f29ctx k) := ctxOk tys_ok mixed_ok (consOk_cons (f71ok k) (consOk_nil))
theorem f29ok (k : Nat) : FnOk Try.prog 29 (f29con (laws_szNodeS k)) :=
  let hc := f29hc k
  fnOk (fn := Try.f29) (code := bodyOf Try.f29) (res := [.tmp 4]) hc (by kernel_rfl) (by kernel_rfl) (by decide) (by kernel_rfl) (by kernel_rfl) (by kernel_rfl) (Nat.le_of_ble_eq_true (by kernel_rfl)) _
    (fun x => Snd.seq (by kernel_rfl) (Snd.seq (by kernel_rfl) (Snd.seq (by kernel_rfl) (Snd.seq (by kernel_rfl) (Snd.exec hc _ _ _ _) (Snd.seq (by kernel_rfl) (Snd.block (id := 0) (by kernel_rfl) (Snd.loop' (by kernel_rfl) f29s5 (fun n x => laws_szNodeS.l5 k n x.1 x.2.1 x.2.2) _ (fun _ => rfl) (fun n5 => Snd.exec hc _ _ _ _) (fun n x => by kernel_rfl) k)) (Snd.exec hc _ _ _ _))) (Snd.exec hc _ _ _ _)) (Snd.exec hc _ _ _ _)) (Snd.exec hc _ _ _ _))
    (fun x => by kernel_rfl)

def f53in : SS := ⟨[(0, (.ro (.int .i64))), (1, (.ro (.int .i64))), (2, (.ro (.int .i64)))], []⟩
def f53out : SS := ⟨[(0, (.ro .bool))], []⟩
def f53con (F : Int → Int → Int → Option Bool) : Con := ⟨f53in, f53out, 3, 1, fun x => F x.1 x.2.1 x.2.2⟩
def f53ctx (k : Nat) : Ctx := ⟨tyAt tys, conAt [], 15, fun _ => false⟩
theorem f53hc (k : Nat) : CtxOk Try.prog (f53ctx k) := ctxOk tys_ok mixed_ok (consOk_nil)
theorem f53ok (k : Nat) : FnOk Try.prog 53 (f53con (spec_l1In k)) :=
  let hc := f53hc k
  fnOk (fn := Try.f53) (code := bodyOf Try.f53) (res := [.tmp 6]) hc (by kernel_rfl) (by kernel_rfl) (by decide) (by kernel_rfl) (by kernel_rfl) (by kernel_rfl) (Nat.le_of_ble_eq_true (by kernel_rfl)) _
    (fun x => Snd.exec hc _ _ _ _)
    (fun x => by kernel_rfl)

def f147in : SS := ⟨[(0, (.ro (.int .i64)))], []⟩
def f147out : SS := ⟨[(0, (.ro .bool))], []⟩
def f147con (F : Int → Option Bool) : Con := ⟨f147in, f147out, 1, 1, fun x => F x⟩
def f147ctx (k : Nat) : Ctx := ⟨tyAt tys, conAt [(53, [f53con (spec_l1In k)])], 5, fun _ => false⟩
theorem f147hc (k : Nat) : CtxOk Try.prog (f147ctx k) := ctxOk tys_ok mixed_ok (consOk_cons (f53ok k) (consOk_nil))
theorem f147ok (k : Nat) : FnOk Try.prog 147 (f147con (spec_l4Int k)) :=
  let hc := f147hc k
  fnOk (fn := Try.f147) (code := bodyOf Try.f147) (res := [.tmp 2]) hc (by kernel_rfl) (by kernel_rfl) (by decide) (by kernel_rfl) (by kernel_rfl) (by kernel_rfl) (Nat.le_of_ble_eq_true (by kernel_rfl)) _
    (fun x => Snd.exec hc _ _ _ _)
    (fun x => by kernel_rfl)

def f174in : SS := ⟨[(0, (.ro (.int .i64)))], []⟩
def f174out : SS := ⟨[(0, (.ro .bool))], []⟩
def f174s9 : SS := ⟨[(4, (.ro .bool))], []⟩
def f174con (F : Int → Option Bool) : Con := ⟨f174in, f174out, 1, 1, fun x => F x⟩
def f174ctx (k : Nat) : Ctx := ⟨tyAt tys, conAt [], 12, fun _ => false⟩
theorem f174hc (k : Nat) : CtxOk Try.prog (f174ctx k) := ctxOk tys_ok mixed_ok (consOk_nil)
theorem f174ok (k : Nat) : FnOk Try.prog 174 (f174con (spec_l4Kind k)) :=
  let hc := f174hc k
  fnOk (fn := Try.f174) (code := bodyOf Try.f174) (res := [.tmp 2]) hc (by kernel_rfl) (by kernel_rfl) (by decide) (by kernel_rfl) (by kernel_rfl) (by kernel_rfl) (Nat.le_of_ble_eq_true (by kernel_rfl)) _
    (fun x => Snd.seq (by kernel_rfl) (Snd.seq (by kernel_rfl) (Snd.exec hc _ _ _ _) (Snd.seq (by kernel_rfl) (Snd.block (id := 0) (by kernel_rfl) (Snd.seq (by kernel_rfl) (Snd.cut (Snd.exec hc _ _ _ _) ⟨f174s9, fun x => spec_l4Kind.c9 k x⟩ (fun x => by kernel_rfl)) (Snd.exec hc _ _ _ _))) (Snd.exec hc _ _ _ _))) (Snd.exec hc _ _ _ _))
    (fun x => by kernel_rfl)

def f148in : SS := ⟨[(0, (.ro (.int .i64)))], []⟩
def f148out : SS := ⟨[(0, (.ro .bool))], []⟩
def f148con (F : Int → Option Bool) : Con := ⟨f148in, f148out, 1, 1, fun x => F x⟩
def f148ctx (k : Nat) : Ctx := ⟨tyAt tys, conAt [(174, [f174con (spec_l4Kind k)])], 13, fun _ => false⟩
theorem f148hc (k : Nat) : CtxOk Try.prog (f148ctx k) := ctxOk tys_ok mixed_ok (consOk_cons (f174ok k) (consOk_nil))
theorem f148ok (k : Nat) : FnOk Try.prog 148 (f148con (spec_l4Item k)) :=
  let hc := f148hc k
  fnOk (fn := Try.f148) (code := bodyOf Try.f148) (res := [.tmp 2]) hc (by kernel_rfl) (by kernel_rfl) (by decide) (by kernel_rfl) (by kernel_rfl) (by kernel_rfl) (Nat.le_of_ble_eq_true (by kernel_rfl)) _
    (fun x => Snd.exec hc _ _ _ _)
    (fun x => by kernel_rfl)

def f98in : SS := ⟨[(0, (.ro (.st (.cons (.int .i64) (.cons (.int .i64) (.cons (.int .i64) (.cons .str (.cons (.int .i64) .nil))))))))], []⟩
def f98out : SS := ⟨[(0, (.ro .bool))], []⟩
def f98s4 : SS := ⟨[(1, (.p 100)), (4, (.ro (.int .i64))), (5, (.ro .bool))], [(100, (.box (.st (.cons (.int .i64) (.cons (.int .i64) (.cons (.int .i64) (.cons .str (.cons (.int .i64) .nil)))))) (.agg (.cons (.ro (.int .i64)) (.cons (.ro (.int .i64)) (.cons (.ro (.int .i64)) (.cons (.ro .str) (.cons (.ro (.int .i64)) .nil))))))))]⟩
def f98con (F : TNode → Option Bool) : Con := ⟨f98in, f98out, 1, 1, fun x => F x⟩
def f98ctx (k : Nat) : Ctx := ⟨tyAt tys, conAt [(147, [f147con (spec_l4Int k)]), (148, [f148con (spec_l4Item k)])], 107, fun _ => false⟩
theorem f98hc (k : Nat) : CtxOk Try.prog (f98ctx k) := ctxOk tys_ok mixed_ok (consOk_cons (f147ok k) (consOk_cons (f148ok k) (consOk_nil)))
theorem f98ok (k : Nat) : FnOk Try.prog 98 (f98con (spec_l4Plain k)) :=
  let hc := f98hc k
  fnOk (fn := Try.f98) (code := bodyOf Try.f98) (res := [.tmp 2]) hc (by kernel_rfl) (by kernel_rfl) (by decide) (by kernel_rfl) (by kernel_rfl) (by kernel_rfl) (Nat.le_of_ble_eq_true (by kernel_rfl)) _
    (fun x => Snd.seq (by kernel_rfl) (Snd.seq (by kernel_rfl) (Snd.exec hc _ _ _ _) (Snd.seq (by kernel_rfl) (Snd.block (id := 0) (by kernel_rfl) (Snd.seq (by kernel_rfl) (Snd.cut (Snd.exec hc _ _ _ _) ⟨f98s4, fun x => spec_l4Plain.c4 k x.1.2.1 x.1.2.2 x.2⟩ (fun x => by kernel_rfl)) (Snd.exec hc _ _ _ _))) (Snd.exec hc _ _ _ _))) (Snd.exec hc _ _ _ _))
    (fun x => by kernel_rfl)

def f54in : SS := ⟨[(0, (.ro (.list 78 (.st (.cons (.int .i64) (.cons (.int .i64) (.cons (.int .i64) (.cons .str (.cons (.int .i64) .nil))))))))), (1, (.ro (.int .i64))), (2, (.ro (.int .i64)))], []⟩
def f54out : SS := ⟨[(0, (.ro (.int .i64)))], []⟩
def f54s7 : SS := ⟨[(0, (.ro (.list 78 (.st (.cons (.int .i64) (.cons (.int .i64) (.cons (.int .i64) (.cons .str (.cons (.int .i64) .nil))))))))), (2, (.ro (.int .i64))), (7, (.p 100)), (8, (.ro (.int .i64))), (9, (.ro (.int .i64))), (10, (.ro (.int .i64)))], [(100, (.box (.st (.cons (.int .i64) (.cons (.int .i64) (.cons (.int .i64) (.cons .str (.cons (.int .i64) .nil)))))) (.agg (.cons (.ro (.int .i64)) (.cons (.ro (.int .i64)) (.cons (.ro (.int .i64)) (.cons (.ro .str) (.cons (.ro (.int .i64)) .nil))))))))]⟩
def f54con (F : (List TNode) → Int → Int → Option Int) : Con := ⟨f54in, f54out, 3, 1, fun x => F x.1 x.2.1 x.2.2⟩
def f54ctx (k : Nat) (S54 : (List TNode) → Int → Int → Option Int) : Ctx := ⟨tyAt tys, conAt [(54, [f54con S54]), (98, [f98con (spec_l4Plain k)])], 89, fun _ => false⟩
theorem f54hc (k : Nat) (S54 : (List TNode) → Int → Int → Option Int) (h54 : FnOk Try.prog 54 (f54con S54)) : CtxOk Try.prog (f54ctx k S54) := ctxOk tys_ok mixed_ok (consOk_cons (h54) (consOk_cons (f98ok k) (consOk_nil)))
theorem f54okb (k : Nat) (S54 : (List TNode) → Int → Int → Option Int) (h54 : FnOk Try.prog 54 (f54con S54)) : FnOk Try.prog 54 (f54con (spec_l4Check.b k S54)) :=
  let hc := f54hc k S54 h54
  fnOk (fn := Try.f54) (code := bodyOf Try.f54) (res := [.tmp 6]) hc (by kernel_rfl) (by kernel_rfl) (by decide) (by kernel_rfl) (by kernel_rfl) (by kernel_rfl) (Nat.le_of_ble_eq_true (by kernel_rfl)) _
    (fun x => Snd.seq (by kernel_rfl) (Snd.seq (by kernel_rfl) (Snd.seq (by kernel_rfl) (Snd.seq (by kernel_rfl) (Snd.seq (by kernel_rfl) (Snd.seq (by kernel_rfl) (Snd.exec hc _ _ _ _) (Snd.seq (by kernel_rfl) (Snd.block (id := 0) (by kernel_rfl) (Snd.loop' (by kernel_rfl) f54s7 (fun n x => spec_l4Check.l7 k S54 n x.1.1 x.1.2.1 x.1.2.2.2.1 x.1.2.2.2.2.1 x.1.2.2.2.2.2 x.2) _ (fun _ => rfl) (fun n7 => Snd.exec hc _ _ _ _) (fun n x => by kernel_rfl) k)) (Snd.exec hc _ _ _ _))) (Snd.exec hc _ _ _ _)) (Snd.exec hc _ _ _ _)) (Snd.exec hc _ _ _ _)) (Snd.exec hc _ _ _ _)) (Snd.exec hc _ _ _ _))
    (fun x => by kernel_rfl)
theorem f54rec (k : Nat) : ∀ d, FnOk Try.prog 54 (f54con (spec_l4Check.d k d))
  | 0 => FnOk_none (fun _ => rfl)
  | d + 1 => let ih := f54rec k d
    f54okb k (spec_l4Check.d k d) ih
theorem f54ok (k : Nat) : FnOk Try.prog 54 (f54con (spec_l4Check k)) := (f54rec k k)

def f11in : SS := ⟨[(0, (.ro (.list 78 (.st (.cons (.int .i64) (.cons (.int .i64) (.cons (.int .i64) (.cons .str (.cons (.int .i64) .nil)))))))))], []⟩
def f11out : SS := ⟨[(0, (.ro .bool))], []⟩
def f11con (F : (List TNode) → Option Bool) : Con := ⟨f11in, f11out, 1, 1, fun x => F x⟩
def f11ctx (k : Nat) : Ctx := ⟨tyAt tys, conAt [(53, [f53con (spec_l1In k)]), (54, [f54con (spec_l4Check k)])], 26, fun _ => false⟩
theorem f11hc (k : Nat) : CtxOk Try.prog (f11ctx k) := ctxOk tys_ok mixed_ok (consOk_cons (f53ok k) (consOk_cons (f54ok k) (consOk_nil)))
theorem f11ok (k : Nat) : FnOk Try.prog 11 (f11con (spec_TreeOk k)) :=
  let hc := f11hc k
  fnOk (fn := Try.f11) (code := bodyOf Try.f11) (res := [.tmp 2]) hc (by kernel_rfl) (by kernel_rfl) (by decide) (by kernel_rfl) (by kernel_rfl) (by kernel_rfl) (Nat.le_of_ble_eq_true (by kernel_rfl)) _
    (fun x => Snd.exec hc _ _ _ _)
    (fun x => by kernel_rfl)

def f126in : SS := ⟨[(0, (.ro (.int .i64)))], []⟩
def f126out : SS := ⟨[(0, (.ro .bool))], []⟩
def f126s7 : SS := ⟨[(4, (.ro .bool))], []⟩
def f126con (F : Int → Option Bool) : Con := ⟨f126in, f126out, 1, 1, fun x => F x⟩
def f126ctx (k : Nat) : Ctx := ⟨tyAt tys, conAt [], 10, fun _ => false⟩
theorem f126hc (k : Nat) : CtxOk Try.prog (f126ctx k) := ctxOk tys_ok mixed_ok (consOk_nil)
theorem f126ok (k : Nat) : FnOk Try.prog 126 (f126con (spec_l5Type k)) :=
  let hc := f126hc k
  fnOk (fn := Try.f126) (code := bodyOf Try.f126) (res := [.tmp 2]) hc (by kernel_rfl) (by kernel_rfl) (by decide) (by kernel_rfl) (by kernel_rfl) (by kernel_rfl) (Nat.le_of_ble_eq_true (by kernel_rfl)) _
    (fun x => Snd.seq (by kernel_rfl) (Snd.seq (by kernel_rfl) (Snd.exec hc _ _ _ _) (Snd.seq (by kernel_rfl) (Snd.block (id := 0) (by kernel_rfl) (Snd.seq (by kernel_rfl) (Snd.cut (Snd.exec hc _ _ _ _) ⟨f126s7, fun x => spec_l5Type.c7 k x⟩ (fun x => by kernel_rfl)) (Snd.exec hc _ _ _ _))) (Snd.exec hc _ _ _ _))) (Snd.exec hc _ _ _ _))
    (fun x => by kernel_rfl)

def f140in : SS := ⟨[(0, (.ro .str))], []⟩
def f140out : SS := ⟨[(0, (.ro .bool))], []⟩
def f140s4 : SS := ⟨[(0, (.ro .str)), (3, (.ro (.int .i64)))], []⟩
def f140con (F : ByteArray → Option Bool) : Con := ⟨f140in, f140out, 1, 1, fun x => F x⟩
def f140ctx (k : Nat) : Ctx := ⟨tyAt tys, conAt [(53, [f53con (spec_l1In k)])], 24, fun _ => false⟩
theorem f140hc (k : Nat) : CtxOk Try.prog (f140ctx k) := ctxOk tys_ok mixed_ok (consOk_cons (f53ok k) (consOk_nil))
theorem f140ok (k : Nat) : FnOk Try.prog 140 (f140con (spec_l5Name k)) :=
  let hc := f140hc k
  fnOk (fn := Try.f140) (code := bodyOf Try.f140) (res := [.tmp 2]) hc (by kernel_rfl) (by kernel_rfl) (by decide) (by kernel_rfl) (by kernel_rfl) (by kernel_rfl) (Nat.le_of_ble_eq_true (by kernel_rfl)) _
    (fun x => Snd.seq (by kernel_rfl) (Snd.seq (by kernel_rfl) (Snd.seq (by kernel_rfl) (Snd.exec hc _ _ _ _) (Snd.seq (by kernel_rfl) (Snd.block (id := 0) (by kernel_rfl) (Snd.loop' (by kernel_rfl) f140s4 (fun n x => spec_l5Name.l4 k n x.1 x.2) _ (fun _ => rfl) (fun n4 => Snd.exec hc _ _ _ _) (fun n x => by kernel_rfl) k)) (Snd.exec hc _ _ _ _))) (Snd.exec hc _ _ _ _)) (Snd.exec hc _ _ _ _))
    (fun x => by kernel_rfl)

def f88in : SS := ⟨[(0, (.ro (.list 93 (.st (.cons .str (.cons (.int .i64) (.cons (.int .i64) (.cons (.int .i64) .nil)))))))), (1, (.ro (.int .i64))), (2, (.ro (.int .i64)))], []⟩
def f88out : SS := ⟨[(0, (.ro (.int .i64)))], []⟩
def f88s20 : SS := ⟨[(0, (.ro (.list 93 (.st (.cons .str (.cons (.int .i64) (.cons (.int .i64) (.cons (.int .i64) .nil)))))))), (2, (.ro (.int .i64))), (7, (.p 100)), (8, (.ro (.int .i64))), (9, (.h 101)), (10, (.ro (.int .i64))), (11, (.ro (.int .i64)))], [(100, (.box (.st (.cons .str (.cons (.int .i64) (.cons (.int .i64) (.cons (.int .i64) .nil))))) (.agg (.cons (.ro .str) (.cons (.ro (.int .i64)) (.cons (.ro (.int .i64)) (.cons (.ro (.int .i64)) .nil))))))), (101, (.sl 9 .str))]⟩
def f88s15 : SS := ⟨[(0, (.ro (.list 93 (.st (.cons .str (.cons (.int .i64) (.cons (.int .i64) (.cons (.int .i64) .nil)))))))), (2, (.ro (.int .i64))), (7, (.p 100)), (8, (.ro (.int .i64))), (9, (.h 101)), (10, (.ro (.int .i64)))], [(100, (.box (.st (.cons .str (.cons (.int .i64) (.cons (.int .i64) (.cons (.int .i64) .nil))))) (.agg (.cons (.ro .str) (.cons (.ro (.int .i64)) (.cons (.ro (.int .i64)) (.cons (.ro (.int .i64)) .nil))))))), (101, (.sl 9 .str))]⟩
def f88con (F : (List TCol) → Int → Int → Option Int) : Con := ⟨f88in, f88out, 3, 1, fun x => F x.1 x.2.1 x.2.2⟩
def f88ctx (k : Nat) (S88 : (List TCol) → Int → Int → Option Int) : Ctx := ⟨tyAt tys, conAt [(53, [f53con (spec_l1In k)]), (88, [f88con S88]), (126, [f126con (spec_l5Type k)]), (140, [f140con (spec_l5Name k)])], 119, fun _ => false⟩
theorem f88hc (k : Nat) (S88 : (List TCol) → Int → Int → Option Int) (h88 : FnOk Try.prog 88 (f88con S88)) : CtxOk Try.prog (f88ctx k S88) := ctxOk tys_ok mixed_ok (consOk_cons (f53ok k) (consOk_cons (h88) (consOk_cons (f126ok k) (consOk_cons (f140ok k) (consOk_nil)))))
theorem f88okb (k : Nat) (S88 : (List TCol) → Int → Int → Option Int) (h88 : FnOk Try.prog 88 (f88con S88)) : FnOk Try.prog 88 (f88con (spec_l5Check.b k S88)) :=
  let hc := f88hc k S88 h88
  fnOk (fn := Try.f88) (code := bodyOf Try.f88) (res := [.tmp 6]) hc (by kernel_rfl) (by kernel_rfl) (by decide) (by kernel_rfl) (by kernel_rfl) (by kernel_rfl) (Nat.le_of_ble_eq_true (by kernel_rfl)) _
    (fun x => Snd.seq (by kernel_rfl) (Snd.seq (by kernel_rfl) (Snd.seq (by kernel_rfl) (Snd.seq (by kernel_rfl) (Snd.seq (by kernel_rfl) (Snd.seq (by kernel_rfl) (Snd.seq (by kernel_rfl) (Snd.seq (by kernel_rfl) (Snd.seq (by kernel_rfl) (Snd.exec hc _ _ _ _) (Snd.seq (by kernel_rfl) (Snd.block (id := 0) (by kernel_rfl) (Snd.loop' (by kernel_rfl) f88s15 (fun n x => spec_l5Check.l15 k S88 n x.1.1 x.1.2.1 x.1.2.2.2.1 x.1.2.2.2.2.2 x.2.1 x.2.2) _ (fun _ => rfl) (fun n15 => Snd.seq (by kernel_rfl) (Snd.seq (by kernel_rfl) (Snd.exec hc _ _ _ _) (Snd.block (id := 1) (by kernel_rfl) (Snd.seq (by kernel_rfl) (Snd.seq (by kernel_rfl) (Snd.exec hc _ _ _ _) (Snd.seq (by kernel_rfl) (Snd.block (id := 2) (by kernel_rfl) (Snd.loop' (by kernel_rfl) f88s20 (fun n x => spec_l5Check.l20 k S88 (spec_l5Check.l15 k S88 n15) n x.1.1 x.1.2.1 x.1.2.2.2.1 x.1.2.2.2.2.2.1 x.1.2.2.2.2.2.2 x.2.1 x.2.2) _ (fun _ => rfl) (fun n20 => Snd.exec hc _ _ _ _) (fun n x => by kernel_rfl) k)) (Snd.exec hc _ _ _ _))) (Snd.exec hc _ _ _ _)))) (Snd.exec hc _ _ _ _)) (fun n x => by kernel_rfl) k)) (Snd.exec hc _ _ _ _))) (Snd.exec hc _ _ _ _)) (Snd.exec hc _ _ _ _)) (Snd.exec hc _ _ _ _)) (Snd.exec hc _ _ _ _)) (Snd.exec hc _ _ _ _)) (Snd.exec hc _ _ _ _)) (Snd.exec hc _ _ _ _)) (Snd.exec hc _ _ _ _))
    (fun x => by kernel_rfl)
theorem f88rec (k : Nat) : ∀ d, FnOk Try.prog 88 (f88con (spec_l5Check.d k d))
  | 0 => FnOk_none (fun _ => rfl)
  | d + 1 => let ih := f88rec k d
    f88okb k (spec_l5Check.d k d) ih
theorem f88ok (k : Nat) : FnOk Try.prog 88 (f88con (spec_l5Check k)) := (f88rec k k)

def f45in : SS := ⟨[(0, (.ro (.list 93 (.st (.cons .str (.cons (.int .i64) (.cons (.int .i64) (.cons (.int .i64) .nil))))))))], []⟩
def f45out : SS := ⟨[(0, (.ro .bool))], []⟩
def f45con (F : (List TCol) → Option Bool) : Con := ⟨f45in, f45out, 1, 1, fun x => F x⟩
def f45ctx (k : Nat) : Ctx := ⟨tyAt tys, conAt [(53, [f53con (spec_l1In k)]), (88, [f88con (spec_l5Check k)])], 13, fun _ => false⟩
theorem f45hc (k : Nat) : CtxOk Try.prog (f45ctx k) := ctxOk tys_ok mixed_ok (consOk_cons (f53ok k) (consOk_cons (f88ok k) (consOk_nil)))
theorem f45ok (k : Nat) : FnOk Try.prog 45 (f45con (spec_SchemaOk k)) :=
  let hc := f45hc k
  fnOk (fn := Try.f45) (code := bodyOf Try.f45) (res := [.tmp 2]) hc (by kernel_rfl) (by kernel_rfl) (by decide) (by kernel_rfl) (by kernel_rfl) (by kernel_rfl) (Nat.le_of_ble_eq_true (by kernel_rfl)) _
    (fun x => Snd.exec hc _ _ _ _)
    (fun x => by kernel_rfl)

def f116in : SS := ⟨[(0, (.ro (.list 78 (.st (.cons (.int .i64) (.cons (.int .i64) (.cons (.int .i64) (.cons .str (.cons (.int .i64) .nil))))))))), (1, (.ro (.int .i64)))], []⟩
def f116out : SS := ⟨[(0, (.ro (.int .i64)))], []⟩
def f116s3 : SS := ⟨[(0, (.ro (.list 78 (.st (.cons (.int .i64) (.cons (.int .i64) (.cons (.int .i64) (.cons .str (.cons (.int .i64) .nil))))))))), (1, (.ro (.int .i64))), (5, (.ro (.int .i64))), (6, (.ro (.int .i64)))], []⟩
def f116con (F : (List TNode) → Int → Option Int) : Con := ⟨f116in, f116out, 2, 1, fun x => F x.1 x.2⟩
def f116ctx (k : Nat) (S116 : (List TNode) → Int → Option Int) : Ctx := ⟨tyAt tys, conAt [(116, [f116con S116])], 22, fun _ => false⟩
theorem f116hc (k : Nat) (S116 : (List TNode) → Int → Option Int) (h116 : FnOk Try.prog 116 (f116con S116)) : CtxOk Try.prog (f116ctx k S116) := ctxOk tys_ok mixed_ok (consOk_cons (h116) (consOk_nil))
theorem f116okb (k : Nat) (S116 : (List TNode) → Int → Option Int) (h116 : FnOk Try.prog 116 (f116con S116)) : FnOk Try.prog 116 (f116con (spec_l4After.b k S116)) :=
  let hc := f116hc k S116 h116
  fnOk (fn := Try.f116) (code := bodyOf Try.f116) (res := [.tmp 4]) hc (by kernel_rfl) (by kernel_rfl) (by decide) (by kernel_rfl) (by kernel_rfl) (by kernel_rfl) (Nat.le_of_ble_eq_true (by kernel_rfl)) _
    (fun x => Snd.seq (by kernel_rfl) (Snd.seq (by kernel_rfl) (Snd.seq (by kernel_rfl) (Snd.exec hc _ _ _ _) (Snd.seq (by kernel_rfl) (Snd.block (id := 0) (by kernel_rfl) (Snd.loop' (by kernel_rfl) f116s3 (fun n x => spec_l4After.l3 k S116 n x.1 x.2.1 x.2.2.1 x.2.2.2) _ (fun _ => rfl) (fun n3 => Snd.exec hc _ _ _ _) (fun n x => by kernel_rfl) k)) (Snd.exec hc _ _ _ _))) (Snd.exec hc _ _ _ _)) (Snd.exec hc _ _ _ _))
    (fun x => by kernel_rfl)
theorem f116rec (k : Nat) : ∀ d, FnOk Try.prog 116 (f116con (spec_l4After.d k d))
  | 0 => FnOk_none (fun _ => rfl)
  | d + 1 => let ih := f116rec k d
    f116okb k (spec_l4After.d k d) ih
theorem f116ok (k : Nat) : FnOk Try.prog 116 (f116con (spec_l4After k)) := (f116rec k k)

def f114in : SS := ⟨[(0, (.ro (.list 78 (.st (.cons (.int .i64) (.cons (.int .i64) (.cons (.int .i64) (.cons .str (.cons (.int .i64) .nil))))))))), (1, (.ro (.int .i64))), (2, (.ro (.int .i64)))], []⟩
def f114out : SS := ⟨[(0, (.ro (.int .i64)))], []⟩
def f114s5 : SS := ⟨[(0, (.ro (.list 78 (.st (.cons (.int .i64) (.cons (.int .i64) (.cons (.int .i64) (.cons .str (.cons (.int .i64) .nil))))))))), (1, (.ro (.int .i64))), (2, (.ro (.int .i64))), (7, (.ro (.int .i64))), (8, (.ro (.int .i64)))], []⟩
def f114con (F : (List TNode) → Int → Int → Option Int) : Con := ⟨f114in, f114out, 3, 1, fun x => F x.1 x.2.1 x.2.2⟩
def f114ctx (k : Nat) : Ctx := ⟨tyAt tys, conAt [(116, [f116con (spec_l4After k)])], 37, fun _ => false⟩
theorem f114hc (k : Nat) : CtxOk Try.prog (f114ctx k) := ctxOk tys_ok mixed_ok (consOk_cons (f116ok k) (consOk_nil))
theorem f114ok (k : Nat) : FnOk Try.prog 114 (f114con (spec_l4Find k)) :=
  let hc := f114hc k
  fnOk (fn := Try.f114) (code := bodyOf Try.f114) (res := [.tmp 6]) hc (by kernel_rfl) (by kernel_rfl) (by decide) (by kernel_rfl) (by kernel_rfl) (by kernel_rfl) (Nat.le_of_ble_eq_true (by kernel_rfl)) _
    (fun x => Snd.seq (by kernel_rfl) (Snd.seq (by kernel_rfl) (Snd.seq (by kernel_rfl) (Snd.seq (by kernel_rfl) (Snd.exec hc _ _ _ _) (Snd.seq (by kernel_rfl) (Snd.block (id := 0) (by kernel_rfl) (Snd.loop' (by kernel_rfl) f114s5 (fun n x => spec_l4Find.l5 k n x.1 x.2.1 x.2.2.1 x.2.2.2.1 x.2.2.2.2) _ (fun _ => rfl) (fun n5 => Snd.exec hc _ _ _ _) (fun n x => by kernel_rfl) k)) (Snd.exec hc _ _ _ _))) (Snd.exec hc _ _ _ _)) (Snd.exec hc _ _ _ _)) (Snd.exec hc _ _ _ _))
    (fun x => by kernel_rfl)

def f155in : SS := ⟨[(0, (.ro (.list 78 (.st (.cons (.int .i64) (.cons (.int .i64) (.cons (.int .i64) (.cons .str (.cons (.int .i64) .nil))))))))), (1, (.ro (.int .i64))), (2, (.ro (.int .i64)))], []⟩
def f155out : SS := ⟨[(0, (.ro .str)), (1, (.ro .bool))], []⟩
def f155con (F : (List TNode) → Int → Int → Option (ByteArray × Bool)) : Con := ⟨f155in, f155out, 3, 2, fun x => F x.1 x.2.1 x.2.2⟩
def f155ctx (k : Nat) : Ctx := ⟨tyAt tys, conAt [(114, [f114con (spec_l4Find k)])], 28, fun _ => false⟩
theorem f155hc (k : Nat) : CtxOk Try.prog (f155ctx k) := ctxOk tys_ok mixed_ok (consOk_cons (f114ok k) (consOk_nil))
theorem f155ok (k : Nat) : FnOk Try.prog 155 (f155con (spec_l4TextOf k)) :=
  let hc := f155hc k
  fnOk (fn := Try.f155) (code := bodyOf Try.f155) (res := [.tmp 6, .tmp 7]) hc (by kernel_rfl) (by kernel_rfl) (by decide) (by kernel_rfl) (by kernel_rfl) (by kernel_rfl) (Nat.le_of_ble_eq_true (by kernel_rfl)) _
    (fun x => Snd.exec hc _ _ _ _)
    (fun x => by kernel_rfl)

def f156in : SS := ⟨[(0, (.ro (.list 78 (.st (.cons (.int .i64) (.cons (.int .i64) (.cons (.int .i64) (.cons .str (.cons (.int .i64) .nil))))))))), (1, (.ro (.int .i64))), (2, (.ro (.int .i64)))], []⟩
def f156out : SS := ⟨[(0, (.ro (.int .i64))), (1, (.ro .bool))], []⟩
def f156con (F : (List TNode) → Int → Int → Option (Int × Bool)) : Con := ⟨f156in, f156out, 3, 2, fun x => F x.1 x.2.1 x.2.2⟩
def f156ctx (k : Nat) : Ctx := ⟨tyAt tys, conAt [(114, [f114con (spec_l4Find k)])], 36, fun _ => false⟩
theorem f156hc (k : Nat) : CtxOk Try.prog (f156ctx k) := ctxOk tys_ok mixed_ok (consOk_cons (f114ok k) (consOk_nil))
theorem f156ok (k : Nat) : FnOk Try.prog 156 (f156con (spec_l4NumOf k)) :=
  let hc := f156hc k
  fnOk (fn := Try.f156) (code := bodyOf Try.f156) (res := [.tmp 6, .tmp 7]) hc (by kernel_rfl) (by kernel_rfl) (by decide) (by kernel_rfl) (by kernel_rfl) (by kernel_rfl) (Nat.le_of_ble_eq_true (by kernel_rfl)) _
    (fun x => Snd.exec hc _ _ _ _)
    (fun x => by kernel_rfl)

def f115in : SS := ⟨[(0, (.ro (.list 78 (.st (.cons (.int .i64) (.cons (.int .i64) (.cons (.int .i64) (.cons .str (.cons (.int .i64) .nil))))))))), (1, (.ro (.int .i64))), (2, (.ro .bool))], []⟩
def f115out : SS := ⟨[(0, (.agg (.cons (.ro .str) (.cons (.ro (.int .i64)) (.cons (.ro (.int .i64)) (.cons (.ro (.int .i64)) .nil)))))), (1, (.ro .bool))], []⟩
def f115s12 : SS := ⟨[(0, (.ro (.list 78 (.st (.cons (.int .i64) (.cons (.int .i64) (.cons (.int .i64) (.cons .str (.cons (.int .i64) .nil))))))))), (1, (.ro (.int .i64))), (6, (.p 100)), (9, (.ro .bool)), (11, (.ro .bool)), (13, (.ro .bool)), (15, (.ro .bool)), (16, (.p 101))], [(100, (.box (.st (.cons .str (.cons (.int .i64) (.cons (.int .i64) (.cons (.int .i64) .nil))))) (.agg (.cons (.ro .str) (.cons (.ro (.int .i64)) (.cons (.ro (.int .i64)) (.cons (.ro (.int .i64)) .nil))))))), (101, (.box (.st (.cons .str (.cons (.int .i64) (.cons (.int .i64) (.cons (.int .i64) .nil))))) (.agg (.cons (.ro .str) (.cons (.ro (.int .i64)) (.cons (.ro (.int .i64)) (.cons (.ro (.int .i64)) .nil)))))))]⟩
def f115s9 : SS := ⟨[(0, (.ro (.list 78 (.st (.cons (.int .i64) (.cons (.int .i64) (.cons (.int .i64) (.cons .str (.cons (.int .i64) .nil))))))))), (1, (.ro (.int .i64))), (6, (.p 100)), (9, (.ro .bool)), (11, (.ro .bool)), (12, (.ro (.int .i64))), (13, (.ro .bool)), (15, (.ro .bool)), (16, (.p 101))], [(100, (.box (.st (.cons .str (.cons (.int .i64) (.cons (.int .i64) (.cons (.int .i64) .nil))))) (.agg (.cons (.ro .str) (.cons (.ro (.int .i64)) (.cons (.ro (.int .i64)) (.cons (.ro (.int .i64)) .nil))))))), (101, (.box (.st (.cons .str (.cons (.int .i64) (.cons (.int .i64) (.cons (.int .i64) .nil))))) (.agg (.cons (.ro .str) (.cons (.ro (.int .i64)) (.cons (.ro (.int .i64)) (.cons (.ro (.int .i64)) .nil)))))))]⟩
def f115con (F : (List TNode) → Int → Bool → Option (TCol × Bool)) : Con := ⟨f115in, f115out, 3, 2, fun x => F x.1 x.2.1 x.2.2⟩
def f115ctx (k : Nat) : Ctx := ⟨tyAt tys, conAt [(114, [f114con (spec_l4Find k)]), (155, [f155con (spec_l4TextOf k)]), (156, [f156con (spec_l4NumOf k)])], 82, fun _ => false⟩
theorem f115hc (k : Nat) : CtxOk Try.prog (f115ctx k) := ctxOk tys_ok mixed_ok (consOk_cons (f114ok k) (consOk_cons (f155ok k) (consOk_cons (f156ok k) (consOk_nil))))
theorem f115ok (k : Nat) : FnOk Try.prog 115 (f115con (spec_l5Col k)) :=
  let hc := f115hc k
  fnOk (fn := Try.f115) (code := bodyOf Try.f115) (res := [.cell 6 93, .tmp 7]) hc (by kernel_rfl) (by kernel_rfl) (by decide) (by kernel_rfl) (by kernel_rfl) (by kernel_rfl) (Nat.le_of_ble_eq_true (by kernel_rfl)) _
    (fun x => Snd.seq (by kernel_rfl) (Snd.seq (by kernel_rfl) (Snd.seq (by kernel_rfl) (Snd.seq (by kernel_rfl) (Snd.seq (by kernel_rfl) (Snd.seq (by kernel_rfl) (Snd.seq (by kernel_rfl) (Snd.cut (Snd.seq (by kernel_rfl) (Snd.cut (Snd.exec hc _ _ _ _) ⟨f115s12, fun x => spec_l5Col.c12 k x.1.1 x.1.2.1 x.1.2.2.2.1 x.1.2.2.2.2.1 x.1.2.2.2.2.2.1 x.1.2.2.2.2.2.2.1 x.2.1 x.2.2⟩ (fun x => by kernel_rfl)) (Snd.exec hc _ _ _ _)) ⟨f115s9, fun x => spec_l5Col.c9 k x.1.1 x.1.2.1 x.1.2.2.2.1 x.1.2.2.2.2.1 x.1.2.2.2.2.2.1 x.1.2.2.2.2.2.2.1 x.1.2.2.2.2.2.2.2.1 x.2.1 x.2.2⟩ (fun x => by kernel_rfl)) (Snd.exec hc _ _ _ _)) (Snd.exec hc _ _ _ _)) (Snd.exec hc _ _ _ _)) (Snd.exec hc _ _ _ _)) (Snd.exec hc _ _ _ _)) (Snd.exec hc _ _ _ _)) (Snd.exec hc _ _ _ _))
    (fun x => by kernel_rfl)

def f72in : SS := ⟨[(0, (.ro (.list 78 (.st (.cons (.int .i64) (.cons (.int .i64) (.cons (.int .i64) (.cons .str (.cons (.int .i64) .nil))))))))), (1, (.ro (.int .i64))), (2, (.ro (.int .i64)))], []⟩
def f72out : SS := ⟨[(0, (.h 100)), (1, (.ro .bool))], [(100, (.sl 93 (.st (.cons .str (.cons (.int .i64) (.cons (.int .i64) (.cons (.int .i64) .nil)))))))]⟩
def f72s8 : SS := ⟨[(0, (.ro (.list 78 (.st (.cons (.int .i64) (.cons (.int .i64) (.cons (.int .i64) (.cons .str (.cons (.int .i64) .nil))))))))), (8, (.h 100)), (9, (.ro (.int .i64))), (10, (.h 101)), (11, (.ro (.int .i64))), (12, (.ro (.int .i64)))], [(100, (.sl 93 (.st (.cons .str (.cons (.int .i64) (.cons (.int .i64) (.cons (.int .i64) .nil))))))), (101, (.sl 93 (.st (.cons .str (.cons (.int .i64) (.cons (.int .i64) (.cons (.int .i64) .nil)))))))]⟩
def f72con (F : (List TNode) → Int → Int → Option ((Unit × Bool) × (List TCol))) : Con := ⟨f72in, f72out, 3, 2, fun x => F x.1 x.2.1 x.2.2⟩
def f72ctx (k : Nat) : Ctx := ⟨tyAt tys, conAt [(45, [f45con (spec_SchemaOk k)]), (114, [f114con (spec_l4Find k)]), (115, [f115con (spec_l5Col k)]), (116, [f116con (spec_l4After k)])], 74, fun _ => false⟩
theorem f72hc (k : Nat) : CtxOk Try.prog (f72ctx k) := ctxOk tys_ok mixed_ok (consOk_cons (f45ok k) (consOk_cons (f114ok k) (consOk_cons (f115ok k) (consOk_cons (f116ok k) (consOk_nil)))))
theorem f72ok (k : Nat) : FnOk Try.prog 72 (f72con (spec_l5Of k)) :=
  let hc := f72hc k
  fnOk (fn := Try.f72) (code := bodyOf Try.f72) (res := [.tmp 6, .tmp 7]) hc (by kernel_rfl) (by kernel_rfl) (by decide) (by kernel_rfl) (by kernel_rfl) (by kernel_rfl) (Nat.le_of_ble_eq_true (by kernel_rfl)) _
    (fun x => Snd.seq (by kernel_rfl) (Snd.seq (by kernel_rfl) (Snd.seq (by kernel_rfl) (Snd.seq (by kernel_rfl) (Snd.seq (by kernel_rfl) (Snd.seq (by kernel_rfl) (Snd.seq (by kernel_rfl) (Snd.exec hc _ _ _ _) (Snd.seq (by kernel_rfl) (Snd.block (id := 0) (by kernel_rfl) (Snd.loop' (by kernel_rfl) f72s8 (fun n x => spec_l5Of.l8 k n x.1.1 x.1.2.2.1 x.1.2.2.2.2.1 x.1.2.2.2.2.2 x.2.1 x.2.2) _ (fun _ => rfl) (fun n8 => Snd.exec hc _ _ _ _) (fun n x => by kernel_rfl) k)) (Snd.exec hc _ _ _ _))) (Snd.exec hc _ _ _ _)) (Snd.exec hc _ _ _ _)) (Snd.exec hc _ _ _ _)) (Snd.exec hc _ _ _ _)) (Snd.exec hc _ _ _ _)) (Snd.exec hc _ _ _ _))
    (fun x => by kernel_rfl)

def f30in : SS := ⟨[(0, (.ro (.list 78 (.st (.cons (.int .i64) (.cons (.int .i64) (.cons (.int .i64) (.cons .str (.cons (.int .i64) .nil))))))))), (1, (.ro (.int .i64)))], []⟩
def f30out : SS := ⟨[(0, (.h 100)), (1, (.ro .bool))], [(100, (.sl 93 (.st (.cons .str (.cons (.int .i64) (.cons (.int .i64) (.cons (.int .i64) .nil)))))))]⟩
def f30con (F : (List TNode) → Int → Option ((Unit × Bool) × (List TCol))) : Con := ⟨f30in, f30out, 2, 2, fun x => F x.1 x.2⟩
def f30ctx (k : Nat) : Ctx := ⟨tyAt tys, conAt [(11, [f11con (spec_TreeOk k)]), (53, [f53con (spec_l1In k)]), (72, [f72con (spec_l5Of k)])], 23, fun _ => false⟩
theorem f30hc (k : Nat) : CtxOk Try.prog (f30ctx k) := ctxOk tys_ok mixed_ok (consOk_cons (f11ok k) (consOk_cons (f53ok k) (consOk_cons (f72ok k) (consOk_nil))))
theorem f30ok (k : Nat) : FnOk Try.prog 30 (f30con (spec_SchemaOf k)) :=
  let hc := f30hc k
  fnOk (fn := Try.f30) (code := bodyOf Try.f30) (res := [.tmp 4, .tmp 5]) hc (by kernel_rfl) (by kernel_rfl) (by decide) (by kernel_rfl) (by kernel_rfl) (by kernel_rfl) (Nat.le_of_ble_eq_true (by kernel_rfl)) _
    (fun x => Snd.exec hc _ _ _ _)
    (fun x => by kernel_rfl)

def f73in : SS := ⟨[(0, (.ro (.st (.cons (.int .i64) (.cons (.int .i64) (.cons (.int .i64) (.cons .str (.cons (.int .i64) .nil))))))))], []⟩
def f73out : SS := ⟨[(0, (.agg (.cons (.ro (.int .i64)) (.cons (.ro (.int .i64)) (.cons (.ro (.int .i64)) (.cons (.ro .str) (.cons (.ro (.int .i64)) .nil)))))))], []⟩
def f73con (F : TNode → Option (TNode)) : Con := ⟨f73in, f73out, 1, 1, fun x => F x⟩
def f73ctx (k : Nat) : Ctx := ⟨tyAt tys, conAt [], 20, fun _ => false⟩
theorem f73hc (k : Nat) : CtxOk Try.prog (f73ctx k) := ctxOk tys_ok mixed_ok (consOk_nil)
theorem f73ok (k : Nat) : FnOk Try.prog 73 (f73con (laws_toNode k)) :=
  let hc := f73hc k
  fnOk (fn := Try.f73) (code := bodyOf Try.f73) (res := [.cell 2 78]) hc (by kernel_rfl) (by kernel_rfl) (by decide) (by kernel_rfl) (by kernel_rfl) (by kernel_rfl) (Nat.le_of_ble_eq_true (by kernel_rfl)) _
    (fun x => Snd.exec hc _ _ _ _)
    (fun x => by kernel_rfl)

def f31in : SS := ⟨[(0, (.ro (.list 104 (.st (.cons (.int .i64) (.cons (.int .i64) (.cons (.int .i64) (.cons .str (.cons (.int .i64) .nil)))))))))], []⟩
def f31out : SS := ⟨[(0, (.h 100))], [(100, (.sl 78 (.st (.cons (.int .i64) (.cons (.int .i64) (.cons (.int .i64) (.cons .str (.cons (.int .i64) .nil))))))))]⟩
def f31s3 : SS := ⟨[(0, (.ro (.list 104 (.st (.cons (.int .i64) (.cons (.int .i64) (.cons (.int .i64) (.cons .str (.cons (.int .i64) .nil))))))))), (3, (.h 100)), (4, (.ro (.int .i64)))], [(100, (.sl 78 (.st (.cons (.int .i64) (.cons (.int .i64) (.cons (.int .i64) (.cons .str (.cons (.int .i64) .nil))))))))]⟩
def f31con (F : (List TNode) → Option (Unit × (List TNode))) : Con := ⟨f31in, f31out, 1, 1, fun x => F x⟩
def f31ctx (k : Nat) : Ctx := ⟨tyAt tys, conAt [(73, [f73con (laws_toNode k)])], 23, fun _ => false⟩
theorem f31hc (k : Nat) : CtxOk Try.prog (f31ctx k) := ctxOk tys_ok mixed_ok (consOk_cons (f73ok k) (consOk_nil))
theorem f31ok (k : Nat) : FnOk Try.prog 31 (f31con (laws_toNodeS k)) :=
  let hc := f31hc k
  fnOk (fn := Try.f31) (code := bodyOf Try.f31) (res := [.tmp 2]) hc (by kernel_rfl) (by kernel_rfl) (by decide) (by kernel_rfl) (by kernel_rfl) (by kernel_rfl) (Nat.le_of_ble_eq_true (by kernel_rfl)) _
    (fun x => Snd.seq (by kernel_rfl) (Snd.seq (by kernel_rfl) (Snd.seq (by kernel_rfl) (Snd.exec hc _ _ _ _) (Snd.seq (by kernel_rfl) (Snd.block (id := 0) (by kernel_rfl) (Snd.loop' (by kernel_rfl) f31s3 (fun n x => laws_toNodeS.l3 k n x.1.1 x.1.2.2 x.2) _ (fun _ => rfl) (fun n3 => Snd.exec hc _ _ _ _) (fun n x => by kernel_rfl) k)) (Snd.exec hc _ _ _ _))) (Snd.exec hc _ _ _ _)) (Snd.exec hc _ _ _ _))
    (fun x => by kernel_rfl)

def f55in : SS := ⟨[(0, (.ro (.int .i64))), (1, (.ro (.int .i64))), (2, (.ro (.int .i64)))], []⟩
def f55out : SS := ⟨[(0, (.ro .bool))], []⟩
def f55con (F : Int → Int → Int → Option Bool) : Con := ⟨f55in, f55out, 3, 1, fun x => F x.1 x.2.1 x.2.2⟩
def f55ctx (k : Nat) : Ctx := ⟨tyAt tys, conAt [], 15, fun _ => false⟩
theorem f55hc (k : Nat) : CtxOk Try.prog (f55ctx k) := ctxOk tys_ok mixed_ok (consOk_nil)
theorem f55ok (k : Nat) : FnOk Try.prog 55 (f55con (impl_within k)) :=
  let hc := f55hc k
  fnOk (fn := Try.f55) (code := bodyOf Try.f55) (res := [.tmp 6]) hc (by kernel_rfl) (by kernel_rfl) (by decide) (by kernel_rfl) (by kernel_rfl) (by kernel_rfl) (Nat.le_of_ble_eq_true (by kernel_rfl)) _
    (fun x => Snd.exec hc _ _ _ _)
    (fun x => by kernel_rfl)

def f102in : SS := ⟨[(0, (.ro (.int .i64)))], []⟩
def f102out : SS := ⟨[(0, (.ro .bool))], []⟩
def f102con (F : Int → Option Bool) : Con := ⟨f102in, f102out, 1, 1, fun x => F x⟩
def f102ctx (k : Nat) : Ctx := ⟨tyAt tys, conAt [(55, [f55con (impl_within k)])], 5, fun _ => false⟩
theorem f102hc (k : Nat) : CtxOk Try.prog (f102ctx k) := ctxOk tys_ok mixed_ok (consOk_cons (f55ok k) (consOk_nil))
theorem f102ok (k : Nat) : FnOk Try.prog 102 (f102con (impl_isInt32 k)) :=
  let hc := f102hc k
  fnOk (fn := Try.f102) (code := bodyOf Try.f102) (res := [.tmp 2]) hc (by kernel_rfl) (by kernel_rfl) (by decide) (by kernel_rfl) (by kernel_rfl) (by kernel_rfl) (Nat.le_of_ble_eq_true (by kernel_rfl)) _
    (fun x => Snd.exec hc _ _ _ _)
    (fun x => by kernel_rfl)

def f151in : SS := ⟨[(0, (.ro (.int .i64))), (1, (.ro .bool))], []⟩
def f151out : SS := ⟨[(0, (.ro .bool))], []⟩
def f151s10 : SS := ⟨[(11, (.ro .bool))], []⟩
def f151s4 : SS := ⟨[(1, (.ro .bool)), (5, (.ro (.int .i64))), (6, (.ro .bool))], []⟩
def f151con (F : Int → Bool → Option Bool) : Con := ⟨f151in, f151out, 2, 1, fun x => F x.1 x.2⟩
def f151ctx (k : Nat) : Ctx := ⟨tyAt tys, conAt [], 17, fun _ => false⟩
theorem f151hc (k : Nat) : CtxOk Try.prog (f151ctx k) := ctxOk tys_ok mixed_ok (consOk_nil)
theorem f151ok (k : Nat) : FnOk Try.prog 151 (f151con (impl_isType k)) :=
  let hc := f151hc k
  fnOk (fn := Try.f151) (code := bodyOf Try.f151) (res := [.tmp 4]) hc (by kernel_rfl) (by kernel_rfl) (by decide) (by kernel_rfl) (by kernel_rfl) (by kernel_rfl) (Nat.le_of_ble_eq_true (by kernel_rfl)) _
    (fun x => Snd.seq (by kernel_rfl) (Snd.seq (by kernel_rfl) (Snd.exec hc _ _ _ _) (Snd.seq (by kernel_rfl) (Snd.block (id := 0) (by kernel_rfl) (Snd.seq (by kernel_rfl) (Snd.cut (Snd.cond (x := .tmp 6) (by kernel_rfl) (Snd.exec hc _ _ _ _) (Snd.seq (by kernel_rfl) (Snd.cut (Snd.exec hc _ _ _ _) ⟨f151s10, fun x => impl_isType.c10 k x⟩ (fun x => by kernel_rfl)) (Snd.exec hc _ _ _ _))) ⟨f151s4, fun x => impl_isType.c4 k x.1 x.2.1 x.2.2⟩ (fun x => by kernel_rfl)) (Snd.exec hc _ _ _ _))) (Snd.exec hc _ _ _ _))) (Snd.exec hc _ _ _ _))
    (fun x => by kernel_rfl)

def f145in : SS := ⟨[(0, (.ro (.st (.cons (.int .i64) (.cons (.int .i64) (.cons (.int .i64) (.cons .str (.cons (.int .i64) .nil))))))))], []⟩
def f145out : SS := ⟨[(0, (.ro .bool))], []⟩
def f145con (F : TNode → Option Bool) : Con := ⟨f145in, f145out, 1, 1, fun x => F x⟩
def f145ctx (k : Nat) : Ctx := ⟨tyAt tys, conAt [(102, [f102con (impl_isInt32 k)]), (151, [f151con (impl_isType k)])], 109, fun _ => false⟩
theorem f145hc (k : Nat) : CtxOk Try.prog (f145ctx k) := ctxOk tys_ok mixed_ok (consOk_cons (f102ok k) (consOk_cons (f151ok k) (consOk_nil)))
theorem f145ok (k : Nat) : FnOk Try.prog 145 (f145con (impl_nodeOk k)) :=
  let hc := f145hc k
  fnOk (fn := Try.f145) (code := bodyOf Try.f145) (res := [.tmp 2]) hc (by kernel_rfl) (by kernel_rfl) (by decide) (by kernel_rfl) (by kernel_rfl) (by kernel_rfl) (Nat.le_of_ble_eq_true (by kernel_rfl)) _
    (fun x => Snd.exec hc _ _ _ _)
    (fun x => by kernel_rfl)

def f94in : SS := ⟨[(0, (.p 0)), (1, (.ro (.int .i64))), (2, (.ro (.int .i64)))], [(0, (.obox (.st (.cons (.list 78 (.st (.cons (.int .i64) (.cons (.int .i64) (.cons (.int .i64) (.cons .str (.cons (.int .i64) .nil))))))) (.cons (.list 3 (.int .i64)) .nil))) (.agg (.cons (.ro (.list 78 (.st (.cons (.int .i64) (.cons (.int .i64) (.cons (.int .i64) (.cons .str (.cons (.int .i64) .nil)))))))) (.cons (.h 10) .nil))))), (10, (.sl 3 (.int .i64)))]⟩
def f94out : SS := ⟨[(0, (.ro (.int .i64)))], [(0, (.box (.st (.cons (.list 78 (.st (.cons (.int .i64) (.cons (.int .i64) (.cons (.int .i64) (.cons .str (.cons (.int .i64) .nil))))))) (.cons (.list 3 (.int .i64)) .nil))) (.agg (.cons (.ro (.list 78 (.st (.cons (.int .i64) (.cons (.int .i64) (.cons (.int .i64) (.cons .str (.cons (.int .i64) .nil)))))))) (.cons (.h 10) .nil))))), (10, (.sl 3 (.int .i64)))]⟩
def f94s7 : SS := ⟨[(0, (.p 0)), (1, (.ro (.int .i64))), (2, (.ro (.int .i64))), (7, (.p 100)), (8, (.ro (.int .i64))), (9, (.ro (.int .i64))), (43, (.ro (.int .i64))), (44, (.ro (.int .i64)))], [(0, (.box (.st (.cons (.list 78 (.st (.cons (.int .i64) (.cons (.int .i64) (.cons (.int .i64) (.cons .str (.cons (.int .i64) .nil))))))) (.cons (.list 3 (.int .i64)) .nil))) (.agg (.cons (.ro (.list 78 (.st (.cons (.int .i64) (.cons (.int .i64) (.cons (.int .i64) (.cons .str (.cons (.int .i64) .nil)))))))) (.cons (.h 10) .nil))))), (10, (.sl 3 (.int .i64))), (100, (.box (.st (.cons (.int .i64) (.cons (.int .i64) (.cons (.int .i64) (.cons .str (.cons (.int .i64) .nil)))))) (.agg (.cons (.ro (.int .i64)) (.cons (.ro (.int .i64)) (.cons (.ro (.int .i64)) (.cons (.ro .str) (.cons (.ro (.int .i64)) .nil))))))))]⟩
def f94con (F : Int → Int → (Bool × TTreeB) → (List Int) → Option (Int × TTreeB × (List Int))) : Con := ⟨f94in, f94out, 3, 1, fun x => F x.1.2.1 x.1.2.2 x.2.1 x.2.2⟩
def f94ctx (k : Nat) (S94 : Int → Int → (Bool × TTreeB) → (List Int) → Option (Int × TTreeB × (List Int))) : Ctx := ⟨tyAt tys, conAt [(55, [f55con (impl_within k)]), (94, [f94con S94]), (145, [f145con (impl_nodeOk k)])], 104, fun _ => false⟩
theorem f94hc (k : Nat) (S94 : Int → Int → (Bool × TTreeB) → (List Int) → Option (Int × TTreeB × (List Int))) (h94 : FnOk Try.prog 94 (f94con S94)) : CtxOk Try.prog (f94ctx k S94) := ctxOk tys_ok mixed_ok (consOk_cons (f55ok k) (consOk_cons (h94) (consOk_cons (f145ok k) (consOk_nil))))
theorem f94okb (k : Nat) (S94 : Int → Int → (Bool × TTreeB) → (List Int) → Option (Int × TTreeB × (List Int))) (h94 : FnOk Try.prog 94 (f94con S94)) : FnOk Try.prog 94 (f94con (impl_tree_measure.b k S94)) :=
  let hc := f94hc k S94 h94
  fnOk (fn := Try.f94) (code := bodyOf Try.f94) (res := [.tmp 6]) hc (by kernel_rfl) (by kernel_rfl) (by decide) (by kernel_rfl) (by kernel_rfl) (by kernel_rfl) (Nat.le_of_ble_eq_true (by kernel_rfl)) _
    (fun x => Snd.seq (by kernel_rfl) (Snd.seq (by kernel_rfl) (Snd.seq (by kernel_rfl) (Snd.seq (by kernel_rfl) (Snd.seq (by kernel_rfl) (Snd.seq (by kernel_rfl) (Snd.exec hc _ _ _ _) (Snd.seq (by kernel_rfl) (Snd.block (id := 0) (by kernel_rfl) (Snd.loop' (by kernel_rfl) f94s7 (fun n x => impl_tree_measure.l7 k S94 n x.1.2.1 x.1.2.2.1 x.1.2.2.2.2.1 x.1.2.2.2.2.2.1 x.1.2.2.2.2.2.2.1 x.1.2.2.2.2.2.2.2 x.2.1 x.2.2.1 x.2.2.2) _ (fun _ => rfl) (fun n7 => Snd.exec hc _ _ _ _) (fun n x => by kernel_rfl) k)) (Snd.exec hc _ _ _ _))) (Snd.exec hc _ _ _ _)) (Snd.exec hc _ _ _ _)) (Snd.exec hc _ _ _ _)) (Snd.exec hc _ _ _ _)) (Snd.exec hc _ _ _ _))
    (fun x => by kernel_rfl)
theorem f94rec (k : Nat) : ∀ d, FnOk Try.prog 94 (f94con (impl_tree_measure.d k d))
  | 0 => FnOk_none (fun _ => rfl)
  | d + 1 => let ih := f94rec k d
    f94okb k (impl_tree_measure.d k d) ih
theorem f94ok (k : Nat) : FnOk Try.prog 94 (f94con (impl_tree_measure k)) := (f94rec k k)

def f51in : SS := ⟨[(0, (.ro (.list 78 (.st (.cons (.int .i64) (.cons (.int .i64) (.cons (.int .i64) (.cons .str (.cons (.int .i64) .nil)))))))))], []⟩
def f51out : SS := ⟨[(0, (.p 100)), (1, (.ro .bool))], [(100, (.obox (.st (.cons (.list 78 (.st (.cons (.int .i64) (.cons (.int .i64) (.cons (.int .i64) (.cons .str (.cons (.int .i64) .nil))))))) (.cons (.list 3 (.int .i64)) .nil))) (.agg (.cons (.ro (.list 78 (.st (.cons (.int .i64) (.cons (.int .i64) (.cons (.int .i64) (.cons .str (.cons (.int .i64) .nil)))))))) (.cons (.h 101) .nil))))), (101, (.sl 3 (.int .i64)))]⟩
def f51con (F : (List TNode) → Option ((Unit × Bool) × (Bool × TTreeB) × (List Int))) : Con := ⟨f51in, f51out, 1, 2, fun x => F x⟩
def f51ctx (k : Nat) : Ctx := ⟨tyAt tys, conAt [(55, [f55con (impl_within k)]), (94, [f94con (impl_tree_measure k)])], 35, fun s => Nat.beq s 27⟩
theorem f51hc (k : Nat) : CtxOk Try.prog (f51ctx k) := ctxOk tys_ok mixed_ok (consOk_cons (f55ok k) (consOk_cons (f94ok k) (consOk_nil)))
theorem f51ok (k : Nat) : FnOk Try.prog 51 (f51con (impl_treeOf k)) :=
  let hc := f51hc k
  fnOk (fn := Try.f51) (code := bodyOf Try.f51) (res := [.tmp 2, .tmp 3]) hc (by kernel_rfl) (by kernel_rfl) (by decide) (by kernel_rfl) (by kernel_rfl) (by kernel_rfl) (Nat.le_of_ble_eq_true (by kernel_rfl)) _
    (fun x => Snd.exec hc _ _ _ _)
    (fun x => by kernel_rfl)

def f123in : SS := ⟨[(0, (.ro (.int .i64)))], []⟩
def f123out : SS := ⟨[(0, (.ro .bool))], []⟩
def f123con (F : Int → Option Bool) : Con := ⟨f123in, f123out, 1, 1, fun x => F x⟩
def f123ctx (k : Nat) : Ctx := ⟨tyAt tys, conAt [(55, [f55con (impl_within k)])], 13, fun _ => false⟩
theorem f123hc (k : Nat) : CtxOk Try.prog (f123ctx k) := ctxOk tys_ok mixed_ok (consOk_cons (f55ok k) (consOk_nil))
theorem f123ok (k : Nat) : FnOk Try.prog 123 (f123con (impl_TypeOk k)) :=
  let hc := f123hc k
  fnOk (fn := Try.f123) (code := bodyOf Try.f123) (res := [.tmp 2]) hc (by kernel_rfl) (by kernel_rfl) (by decide) (by kernel_rfl) (by kernel_rfl) (by kernel_rfl) (Nat.le_of_ble_eq_true (by kernel_rfl)) _
    (fun x => Snd.exec hc _ _ _ _)
    (fun x => by kernel_rfl)

def f141in : SS := ⟨[(0, (.ro (.st (.cons .str (.cons (.int .i64) (.cons (.int .i64) (.cons (.int .i64) .nil)))))))], []⟩
def f141out : SS := ⟨[(0, (.ro .bool))], []⟩
def f141con (F : TCol → Option Bool) : Con := ⟨f141in, f141out, 1, 1, fun x => F x⟩
def f141ctx (k : Nat) : Ctx := ⟨tyAt tys, conAt [(55, [f55con (impl_within k)]), (123, [f123con (impl_TypeOk k)])], 30, fun _ => false⟩
theorem f141hc (k : Nat) : CtxOk Try.prog (f141ctx k) := ctxOk tys_ok mixed_ok (consOk_cons (f55ok k) (consOk_cons (f123ok k) (consOk_nil)))
theorem f141ok (k : Nat) : FnOk Try.prog 141 (f141con (impl_colOk k)) :=
  let hc := f141hc k
  fnOk (fn := Try.f141) (code := bodyOf Try.f141) (res := [.tmp 2]) hc (by kernel_rfl) (by kernel_rfl) (by decide) (by kernel_rfl) (by kernel_rfl) (by kernel_rfl) (Nat.le_of_ble_eq_true (by kernel_rfl)) _
    (fun x => Snd.exec hc _ _ _ _)
    (fun x => by kernel_rfl)

def f142in : SS := ⟨[(0, (.ro .str))], []⟩
def f142out : SS := ⟨[(0, (.ro .bool))], []⟩
def f142s2 : SS := ⟨[(0, (.ro .str)), (5, (.ro (.int .i64))), (6, (.ro (.int .i64)))], []⟩
def f142con (F : ByteArray → Option Bool) : Con := ⟨f142in, f142out, 1, 1, fun x => F x⟩
def f142ctx (k : Nat) : Ctx := ⟨tyAt tys, conAt [(55, [f55con (impl_within k)])], 19, fun _ => false⟩
theorem f142hc (k : Nat) : CtxOk Try.prog (f142ctx k) := ctxOk tys_ok mixed_ok (consOk_cons (f55ok k) (consOk_nil))
theorem f142ok (k : Nat) : FnOk Try.prog 142 (f142con (impl_isColName k)) :=
  let hc := f142hc k
  fnOk (fn := Try.f142) (code := bodyOf Try.f142) (res := [.tmp 2]) hc (by kernel_rfl) (by kernel_rfl) (by decide) (by kernel_rfl) (by kernel_rfl) (by kernel_rfl) (Nat.le_of_ble_eq_true (by kernel_rfl)) _
    (fun x => Snd.seq (by kernel_rfl) (Snd.seq (by kernel_rfl) (Snd.exec hc _ _ _ _) (Snd.seq (by kernel_rfl) (Snd.block (id := 0) (by kernel_rfl) (Snd.loop' (by kernel_rfl) f142s2 (fun n x => impl_isColName.l2 k n x.1 x.2.1 x.2.2) _ (fun _ => rfl) (fun n2 => Snd.exec hc _ _ _ _) (fun n x => by kernel_rfl) k)) (Snd.exec hc _ _ _ _))) (Snd.exec hc _ _ _ _))
    (fun x => by kernel_rfl)

def f89in : SS := ⟨[(0, (.ro (.list 93 (.st (.cons .str (.cons (.int .i64) (.cons (.int .i64) (.cons (.int .i64) .nil)))))))), (1, (.ro (.int .i64))), (2, (.ro (.int .i64)))], []⟩
def f89out : SS := ⟨[(0, (.ro (.int .i64)))], []⟩
def f89s10 : SS := ⟨[(0, (.ro (.list 93 (.st (.cons .str (.cons (.int .i64) (.cons (.int .i64) (.cons (.int .i64) .nil)))))))), (2, (.ro (.int .i64))), (7, (.ro (.int .i64))), (8, (.h 100)), (47, (.ro (.int .i64))), (48, (.ro (.int .i64))), (54, (.h 100)), (55, (.ro (.int .i64))), (56, (.ro (.int .i64)))], [(100, (.sl 9 .str))]⟩
def f89s6 : SS := ⟨[(0, (.ro (.list 93 (.st (.cons .str (.cons (.int .i64) (.cons (.int .i64) (.cons (.int .i64) .nil)))))))), (2, (.ro (.int .i64))), (7, (.ro (.int .i64))), (8, (.h 100)), (47, (.ro (.int .i64))), (48, (.ro (.int .i64)))], [(100, (.sl 9 .str))]⟩
def f89con (F : (List TCol) → Int → Int → Option Int) : Con := ⟨f89in, f89out, 3, 1, fun x => F x.1 x.2.1 x.2.2⟩
def f89ctx (k : Nat) (S89 : (List TCol) → Int → Int → Option Int) : Ctx := ⟨tyAt tys, conAt [(89, [f89con S89]), (141, [f141con (impl_colOk k)]), (142, [f142con (impl_isColName k)])], 85, fun _ => false⟩
theorem f89hc (k : Nat) (S89 : (List TCol) → Int → Int → Option Int) (h89 : FnOk Try.prog 89 (f89con S89)) : CtxOk Try.prog (f89ctx k S89) := ctxOk tys_ok mixed_ok (consOk_cons (h89) (consOk_cons (f141ok k) (consOk_cons (f142ok k) (consOk_nil))))
theorem f89okb (k : Nat) (S89 : (List TCol) → Int → Int → Option Int) (h89 : FnOk Try.prog 89 (f89con S89)) : FnOk Try.prog 89 (f89con (impl_colAfter.b k S89)) :=
  let hc := f89hc k S89 h89
  fnOk (fn := Try.f89) (code := bodyOf Try.f89) (res := [.tmp 6]) hc (by kernel_rfl) (by kernel_rfl) (by decide) (by kernel_rfl) (by kernel_rfl) (by kernel_rfl) (Nat.le_of_ble_eq_true (by kernel_rfl)) _
    (fun x => Snd.seq (by kernel_rfl) (Snd.seq (by kernel_rfl) (Snd.seq (by kernel_rfl) (Snd.seq (by kernel_rfl) (Snd.seq (by kernel_rfl) (Snd.exec hc _ _ _ _) (Snd.seq (by kernel_rfl) (Snd.block (id := 0) (by kernel_rfl) (Snd.loop' (by kernel_rfl) f89s6 (fun n x => impl_colAfter.l6 k S89 n x.1.1 x.1.2.1 x.1.2.2.1 x.1.2.2.2.2.1 x.1.2.2.2.2.2 x.2) _ (fun _ => rfl) (fun n6 => Snd.seq (by kernel_rfl) (Snd.seq (by kernel_rfl) (Snd.seq (by kernel_rfl) (Snd.exec hc _ _ _ _) (Snd.block (id := 1) (by kernel_rfl) (Snd.seq (by kernel_rfl) (Snd.seq (by kernel_rfl) (Snd.exec hc _ _ _ _) (Snd.seq (by kernel_rfl) (Snd.block (id := 2) (by kernel_rfl) (Snd.loop' (by kernel_rfl) f89s10 (fun n x => impl_colAfter.l10 k S89 (impl_colAfter.l6 k S89 n6) n x.1.1 x.1.2.1 x.1.2.2.1 x.1.2.2.2.2.1 x.1.2.2.2.2.2.1 x.1.2.2.2.2.2.2.2.1 x.1.2.2.2.2.2.2.2.2 x.2) _ (fun _ => rfl) (fun n10 => Snd.exec hc _ _ _ _) (fun n x => by kernel_rfl) k)) (Snd.exec hc _ _ _ _))) (Snd.exec hc _ _ _ _)))) (Snd.exec hc _ _ _ _)) (Snd.exec hc _ _ _ _)) (fun n x => by kernel_rfl) k)) (Snd.exec hc _ _ _ _))) (Snd.exec hc _ _ _ _)) (Snd.exec hc _ _ _ _)) (Snd.exec hc _ _ _ _)) (Snd.exec hc _ _ _ _))
    (fun x => by kernel_rfl)
theorem f89rec (k : Nat) : ∀ d, FnOk Try.prog 89 (f89con (impl_colAfter.d k d))
  | 0 => FnOk_none (fun _ => rfl)
  | d + 1 => let ih := f89rec k d
    f89okb k (impl_colAfter.d k d) ih
theorem f89ok (k : Nat) : FnOk Try.prog 89 (f89con (impl_colAfter k)) := (f89rec k k)

def f46in : SS := ⟨[(0, (.ro (.list 93 (.st (.cons .str (.cons (.int .i64) (.cons (.int .i64) (.cons (.int .i64) .nil))))))))], []⟩
def f46out : SS := ⟨[(0, (.ro .bool))], []⟩
def f46con (F : (List TCol) → Option Bool) : Con := ⟨f46in, f46out, 1, 1, fun x => F x⟩
def f46ctx (k : Nat) : Ctx := ⟨tyAt tys, conAt [(55, [f55con (impl_within k)]), (89, [f89con (impl_colAfter k)])], 33, fun _ => false⟩
theorem f46hc (k : Nat) : CtxOk Try.prog (f46ctx k) := ctxOk tys_ok mixed_ok (consOk_cons (f55ok k) (consOk_cons (f89ok k) (consOk_nil)))
theorem f46ok (k : Nat) : FnOk Try.prog 46 (f46con (impl_SchemaOk k)) :=
  let hc := f46hc k
  fnOk (fn := Try.f46) (code := bodyOf Try.f46) (res := [.tmp 2]) hc (by kernel_rfl) (by kernel_rfl) (by decide) (by kernel_rfl) (by kernel_rfl) (by kernel_rfl) (Nat.le_of_ble_eq_true (by kernel_rfl)) _
    (fun x => Snd.exec hc _ _ _ _)
    (fun x => by kernel_rfl)

def f157in : SS := ⟨[(0, (.p 0)), (1, (.ro (.int .i64))), (2, (.ro (.int .i64)))], [(0, (.obox (.st (.cons (.list 78 (.st (.cons (.int .i64) (.cons (.int .i64) (.cons (.int .i64) (.cons .str (.cons (.int .i64) .nil))))))) (.cons (.list 3 (.int .i64)) .nil))) (.agg (.cons (.ro (.list 78 (.st (.cons (.int .i64) (.cons (.int .i64) (.cons (.int .i64) (.cons .str (.cons (.int .i64) .nil)))))))) (.cons (.h 10) .nil))))), (10, (.sl 3 (.int .i64)))]⟩
def f157out : SS := ⟨[(0, (.ro (.int .i64)))], [(0, (.box (.st (.cons (.list 78 (.st (.cons (.int .i64) (.cons (.int .i64) (.cons (.int .i64) (.cons .str (.cons (.int .i64) .nil))))))) (.cons (.list 3 (.int .i64)) .nil))) (.agg (.cons (.ro (.list 78 (.st (.cons (.int .i64) (.cons (.int .i64) (.cons (.int .i64) (.cons .str (.cons (.int .i64) .nil)))))))) (.cons (.h 10) .nil))))), (10, (.sl 3 (.int .i64)))]⟩
def f157s5 : SS := ⟨[(0, (.p 0)), (2, (.ro (.int .i64))), (7, (.ro (.int .i64))), (37, (.ro (.int .i64))), (38, (.ro (.int .i64)))], [(0, (.box (.st (.cons (.list 78 (.st (.cons (.int .i64) (.cons (.int .i64) (.cons (.int .i64) (.cons .str (.cons (.int .i64) .nil))))))) (.cons (.list 3 (.int .i64)) .nil))) (.agg (.cons (.ro (.list 78 (.st (.cons (.int .i64) (.cons (.int .i64) (.cons (.int .i64) (.cons .str (.cons (.int .i64) .nil)))))))) (.cons (.h 10) .nil))))), (10, (.sl 3 (.int .i64)))]⟩
def f157con (F : Int → Int → (Bool × TTreeB) → (List Int) → Option (Int × TTreeB × (List Int))) : Con := ⟨f157in, f157out, 3, 1, fun x => F x.1.2.1 x.1.2.2 x.2.1 x.2.2⟩
def f157ctx (k : Nat) : Ctx := ⟨tyAt tys, conAt [(55, [f55con (impl_within k)])], 59, fun _ => false⟩
theorem f157hc (k : Nat) : CtxOk Try.prog (f157ctx k) := ctxOk tys_ok mixed_ok (consOk_cons (f55ok k) (consOk_nil))
theorem f157ok (k : Nat) : FnOk Try.prog 157 (f157con (impl_tree_find k)) :=
  let hc := f157hc k
  fnOk (fn := Try.f157) (code := bodyOf Try.f157) (res := [.tmp 6]) hc (by kernel_rfl) (by kernel_rfl) (by decide) (by kernel_rfl) (by kernel_rfl) (by kernel_rfl) (Nat.le_of_ble_eq_true (by kernel_rfl)) _
    (fun x => Snd.seq (by kernel_rfl) (Snd.seq (by kernel_rfl) (Snd.seq (by kernel_rfl) (Snd.seq (by kernel_rfl) (Snd.exec hc _ _ _ _) (Snd.seq (by kernel_rfl) (Snd.block (id := 0) (by kernel_rfl) (Snd.loop' (by kernel_rfl) f157s5 (fun n x => impl_tree_find.l5 k n x.1.2.1 x.1.2.2.1 x.1.2.2.2.1 x.1.2.2.2.2 x.2.1 x.2.2) _ (fun _ => rfl) (fun n5 => Snd.exec hc _ _ _ _) (fun n x => by kernel_rfl) k)) (Snd.exec hc _ _ _ _))) (Snd.exec hc _ _ _ _)) (Snd.exec hc _ _ _ _)) (Snd.exec hc _ _ _ _))
    (fun x => by kernel_rfl)

def f117in : SS := ⟨[(0, (.p 0)), (1, (.ro (.int .i64))), (2, (.ro (.int .i64))), (3, (.ro (.int .i64)))], [(0, (.obox (.st (.cons (.list 78 (.st (.cons (.int .i64) (.cons (.int .i64) (.cons (.int .i64) (.cons .str (.cons (.int .i64) .nil))))))) (.cons (.list 3 (.int .i64)) .nil))) (.agg (.cons (.ro (.list 78 (.st (.cons (.int .i64) (.cons (.int .i64) (.cons (.int .i64) (.cons .str (.cons (.int .i64) .nil)))))))) (.cons (.h 10) .nil))))), (10, (.sl 3 (.int .i64)))]⟩
def f117out : SS := ⟨[(0, (.h 100)), (1, (.ro .bool))], [(0, (.box (.st (.cons (.list 78 (.st (.cons (.int .i64) (.cons (.int .i64) (.cons (.int .i64) (.cons .str (.cons (.int .i64) .nil))))))) (.cons (.list 3 (.int .i64)) .nil))) (.agg (.cons (.ro (.list 78 (.st (.cons (.int .i64) (.cons (.int .i64) (.cons (.int .i64) (.cons .str (.cons (.int .i64) .nil)))))))) (.cons (.h 10) .nil))))), (10, (.sl 3 (.int .i64))), (100, (.sl 3 (.int .i64)))]⟩
def f117s7 : SS := ⟨[(0, (.p 0)), (11, (.h 100)), (12, (.ro (.int .i64))), (63, (.ro (.int .i64))), (64, (.ro (.int .i64)))], [(0, (.box (.st (.cons (.list 78 (.st (.cons (.int .i64) (.cons (.int .i64) (.cons (.int .i64) (.cons .str (.cons (.int .i64) .nil))))))) (.cons (.list 3 (.int .i64)) .nil))) (.agg (.cons (.ro (.list 78 (.st (.cons (.int .i64) (.cons (.int .i64) (.cons (.int .i64) (.cons .str (.cons (.int .i64) .nil)))))))) (.cons (.h 10) .nil))))), (10, (.sl 3 (.int .i64))), (100, (.sl 3 (.int .i64)))]⟩
def f117con (F : Int → Int → Int → (Bool × TTreeB) → (List Int) → Option ((Unit × Bool) × TTreeB × (List Int) × (List Int))) : Con := ⟨f117in, f117out, 4, 2, fun x => F x.1.2.1 x.1.2.2.1 x.1.2.2.2 x.2.1 x.2.2⟩
def f117ctx (k : Nat) : Ctx := ⟨tyAt tys, conAt [(157, [f157con (impl_tree_find k)])], 79, fun _ => false⟩
theorem f117hc (k : Nat) : CtxOk Try.prog (f117ctx k) := ctxOk tys_ok mixed_ok (consOk_cons (f157ok k) (consOk_nil))
theorem f117ok (k : Nat) : FnOk Try.prog 117 (f117con (impl_tree_parts k)) :=
  let hc := f117hc k
  fnOk (fn := Try.f117) (code := bodyOf Try.f117) (res := [.tmp 8, .tmp 9]) hc (by kernel_rfl) (by kernel_rfl) (by decide) (by kernel_rfl) (by kernel_rfl) (by kernel_rfl) (Nat.le_of_ble_eq_true (by kernel_rfl)) _
    (fun x => Snd.seq (by kernel_rfl) (Snd.seq (by kernel_rfl) (Snd.seq (by kernel_rfl) (Snd.seq (by kernel_rfl) (Snd.seq (by kernel_rfl) (Snd.seq (by kernel_rfl) (Snd.exec hc _ _ _ _) (Snd.seq (by kernel_rfl) (Snd.block (id := 0) (by kernel_rfl) (Snd.loop' (by kernel_rfl) f117s7 (fun n x => impl_tree_parts.l7 k n x.1.2.2.1 x.1.2.2.2.1 x.1.2.2.2.2 x.2.1 x.2.2.1 x.2.2.2) _ (fun _ => rfl) (fun n7 => Snd.exec hc _ _ _ _) (fun n x => by kernel_rfl) k)) (Snd.exec hc _ _ _ _))) (Snd.exec hc _ _ _ _)) (Snd.exec hc _ _ _ _)) (Snd.exec hc _ _ _ _)) (Snd.exec hc _ _ _ _)) (Snd.exec hc _ _ _ _))
    (fun x => by kernel_rfl)

def f158in : SS := ⟨[(0, (.p 0)), (1, (.ro (.int .i64))), (2, (.ro (.int .i64))), (3, (.ro (.int .i64)))], [(0, (.obox (.st (.cons (.list 78 (.st (.cons (.int .i64) (.cons (.int .i64) (.cons (.int .i64) (.cons .str (.cons (.int .i64) .nil))))))) (.cons (.list 3 (.int .i64)) .nil))) (.agg (.cons (.ro (.list 78 (.st (.cons (.int .i64) (.cons (.int .i64) (.cons (.int .i64) (.cons .str (.cons (.int .i64) .nil)))))))) (.cons (.h 10) .nil))))), (10, (.sl 3 (.int .i64)))]⟩
def f158out : SS := ⟨[(0, (.agg (.cons (.ro (.int .i64)) (.cons (.ro (.int .i64)) (.cons (.ro (.int .i64)) (.cons (.ro .str) (.cons (.ro (.int .i64)) .nil))))))), (1, (.ro .bool))], [(0, (.box (.st (.cons (.list 78 (.st (.cons (.int .i64) (.cons (.int .i64) (.cons (.int .i64) (.cons .str (.cons (.int .i64) .nil))))))) (.cons (.list 3 (.int .i64)) .nil))) (.agg (.cons (.ro (.list 78 (.st (.cons (.int .i64) (.cons (.int .i64) (.cons (.int .i64) (.cons .str (.cons (.int .i64) .nil)))))))) (.cons (.h 10) .nil))))), (10, (.sl 3 (.int .i64)))]⟩
def f158con (F : Int → Int → Int → (Bool × TTreeB) → (List Int) → Option ((TNode × Bool) × TTreeB × (List Int))) : Con := ⟨f158in, f158out, 4, 2, fun x => F x.1.2.1 x.1.2.2.1 x.1.2.2.2 x.2.1 x.2.2⟩
def f158ctx (k : Nat) : Ctx := ⟨tyAt tys, conAt [(157, [f157con (impl_tree_find k)])], 37, fun _ => false⟩
theorem f158hc (k : Nat) : CtxOk Try.prog (f158ctx k) := ctxOk tys_ok mixed_ok (consOk_cons (f157ok k) (consOk_nil))
theorem f158ok (k : Nat) : FnOk Try.prog 158 (f158con (impl_tree_part k)) :=
  let hc := f158hc k
  fnOk (fn := Try.f158) (code := bodyOf Try.f158) (res := [.cell 8 78, .tmp 9]) hc (by kernel_rfl) (by kernel_rfl) (by decide) (by kernel_rfl) (by kernel_rfl) (by kernel_rfl) (Nat.le_of_ble_eq_true (by kernel_rfl)) _
    (fun x => Snd.exec hc _ _ _ _)
    (fun x => by kernel_rfl)

def f159in : SS := ⟨[(0, (.p 0)), (1, (.ro (.int .i64))), (2, (.ro (.int .i64)))], [(0, (.obox (.st (.cons (.list 78 (.st (.cons (.int .i64) (.cons (.int .i64) (.cons (.int .i64) (.cons .str (.cons (.int .i64) .nil))))))) (.cons (.list 3 (.int .i64)) .nil))) (.agg (.cons (.ro (.list 78 (.st (.cons (.int .i64) (.cons (.int .i64) (.cons (.int .i64) (.cons .str (.cons (.int .i64) .nil)))))))) (.cons (.h 10) .nil))))), (10, (.sl 3 (.int .i64)))]⟩
def f159out : SS := ⟨[(0, (.ro (.int .i64))), (1, (.ro .bool))], [(0, (.box (.st (.cons (.list 78 (.st (.cons (.int .i64) (.cons (.int .i64) (.cons (.int .i64) (.cons .str (.cons (.int .i64) .nil))))))) (.cons (.list 3 (.int .i64)) .nil))) (.agg (.cons (.ro (.list 78 (.st (.cons (.int .i64) (.cons (.int .i64) (.cons (.int .i64) (.cons .str (.cons (.int .i64) .nil)))))))) (.cons (.h 10) .nil))))), (10, (.sl 3 (.int .i64)))]⟩
def f159con (F : Int → Int → (Bool × TTreeB) → (List Int) → Option ((Int × Bool) × TTreeB × (List Int))) : Con := ⟨f159in, f159out, 3, 2, fun x => F x.1.2.1 x.1.2.2 x.2.1 x.2.2⟩
def f159ctx (k : Nat) : Ctx := ⟨tyAt tys, conAt [(157, [f157con (impl_tree_find k)])], 45, fun _ => false⟩
theorem f159hc (k : Nat) : CtxOk Try.prog (f159ctx k) := ctxOk tys_ok mixed_ok (consOk_cons (f157ok k) (consOk_nil))
theorem f159ok (k : Nat) : FnOk Try.prog 159 (f159con (impl_tree_num k)) :=
  let hc := f159hc k
  fnOk (fn := Try.f159) (code := bodyOf Try.f159) (res := [.tmp 6, .tmp 7]) hc (by kernel_rfl) (by kernel_rfl) (by decide) (by kernel_rfl) (by kernel_rfl) (by kernel_rfl) (Nat.le_of_ble_eq_true (by kernel_rfl)) _
    (fun x => Snd.exec hc _ _ _ _)
    (fun x => by kernel_rfl)

def f118in : SS := ⟨[(0, (.p 0)), (1, (.ro (.int .i64))), (2, (.ro .bool))], [(0, (.obox (.st (.cons (.list 78 (.st (.cons (.int .i64) (.cons (.int .i64) (.cons (.int .i64) (.cons .str (.cons (.int .i64) .nil))))))) (.cons (.list 3 (.int .i64)) .nil))) (.agg (.cons (.ro (.list 78 (.st (.cons (.int .i64) (.cons (.int .i64) (.cons (.int .i64) (.cons .str (.cons (.int .i64) .nil)))))))) (.cons (.h 10) .nil))))), (10, (.sl 3 (.int .i64)))]⟩
def f118out : SS := ⟨[(0, (.agg (.cons (.ro .str) (.cons (.ro (.int .i64)) (.cons (.ro (.int .i64)) (.cons (.ro (.int .i64)) .nil)))))), (1, (.ro .bool))], [(0, (.box (.st (.cons (.list 78 (.st (.cons (.int .i64) (.cons (.int .i64) (.cons (.int .i64) (.cons .str (.cons (.int .i64) .nil))))))) (.cons (.list 3 (.int .i64)) .nil))) (.agg (.cons (.ro (.list 78 (.st (.cons (.int .i64) (.cons (.int .i64) (.cons (.int .i64) (.cons .str (.cons (.int .i64) .nil)))))))) (.cons (.h 10) .nil))))), (10, (.sl 3 (.int .i64)))]⟩
def f118s11 : SS := ⟨[(6, (.p 100)), (9, (.ro .bool)), (11, (.ro .bool)), (13, (.ro .bool)), (16, (.p 101))], [(0, (.box (.st (.cons (.list 78 (.st (.cons (.int .i64) (.cons (.int .i64) (.cons (.int .i64) (.cons .str (.cons (.int .i64) .nil))))))) (.cons (.list 3 (.int .i64)) .nil))) (.agg (.cons (.ro (.list 78 (.st (.cons (.int .i64) (.cons (.int .i64) (.cons (.int .i64) (.cons .str (.cons (.int .i64) .nil)))))))) (.cons (.h 10) .nil))))), (10, (.sl 3 (.int .i64))), (100, (.box (.st (.cons .str (.cons (.int .i64) (.cons (.int .i64) (.cons (.int .i64) .nil))))) (.agg (.cons (.ro .str) (.cons (.ro (.int .i64)) (.cons (.ro (.int .i64)) (.cons (.ro (.int .i64)) .nil))))))), (101, (.box (.st (.cons .str (.cons (.int .i64) (.cons (.int .i64) (.cons (.int .i64) .nil))))) (.agg (.cons (.ro .str) (.cons (.ro (.int .i64)) (.cons (.ro (.int .i64)) (.cons (.ro (.int .i64)) .nil)))))))]⟩
def f118s8 : SS := ⟨[(0, (.p 0)), (1, (.ro (.int .i64))), (6, (.p 100)), (9, (.ro .bool)), (11, (.ro .bool)), (13, (.ro .bool)), (14, (.ro (.int .i64))), (15, (.ro .bool)), (16, (.p 101))], [(0, (.box (.st (.cons (.list 78 (.st (.cons (.int .i64) (.cons (.int .i64) (.cons (.int .i64) (.cons .str (.cons (.int .i64) .nil))))))) (.cons (.list 3 (.int .i64)) .nil))) (.agg (.cons (.ro (.list 78 (.st (.cons (.int .i64) (.cons (.int .i64) (.cons (.int .i64) (.cons .str (.cons (.int .i64) .nil)))))))) (.cons (.h 10) .nil))))), (10, (.sl 3 (.int .i64))), (100, (.box (.st (.cons .str (.cons (.int .i64) (.cons (.int .i64) (.cons (.int .i64) .nil))))) (.agg (.cons (.ro .str) (.cons (.ro (.int .i64)) (.cons (.ro (.int .i64)) (.cons (.ro (.int .i64)) .nil))))))), (101, (.box (.st (.cons .str (.cons (.int .i64) (.cons (.int .i64) (.cons (.int .i64) .nil))))) (.agg (.cons (.ro .str) (.cons (.ro (.int .i64)) (.cons (.ro (.int .i64)) (.cons (.ro (.int .i64)) .nil)))))))]⟩
def f118con (F : Int → Bool → (Bool × TTreeB) → (List Int) → Option ((TCol × Bool) × TTreeB × (List Int))) : Con := ⟨f118in, f118out, 3, 2, fun x => F x.1.2.1 x.1.2.2 x.2.1 x.2.2⟩
def f118ctx (k : Nat) : Ctx := ⟨tyAt tys, conAt [(157, [f157con (impl_tree_find k)]), (158, [f158con (impl_tree_part k)]), (159, [f159con (impl_tree_num k)])], 70, fun s => Nat.beq s 56⟩
theorem f118hc (k : Nat) : CtxOk Try.prog (f118ctx k) := ctxOk tys_ok mixed_ok (consOk_cons (f157ok k) (consOk_cons (f158ok k) (consOk_cons (f159ok k) (consOk_nil))))
theorem f118ok (k : Nat) : FnOk Try.prog 118 (f118con (impl_tree_col k)) :=
  let hc := f118hc k
  fnOk (fn := Try.f118) (code := bodyOf Try.f118) (res := [.cell 6 93, .tmp 7]) hc (by kernel_rfl) (by kernel_rfl) (by decide) (by kernel_rfl) (by kernel_rfl) (by kernel_rfl) (Nat.le_of_ble_eq_true (by kernel_rfl)) _
    (fun x => Snd.seq (by kernel_rfl) (Snd.seq (by kernel_rfl) (Snd.seq (by kernel_rfl) (Snd.seq (by kernel_rfl) (Snd.seq (by kernel_rfl) (Snd.seq (by kernel_rfl) (Snd.seq (by kernel_rfl) (Snd.cut (Snd.seq (by kernel_rfl) (Snd.cut (Snd.exec hc _ _ _ _) ⟨f118s11, fun x => impl_tree_col.c11 k x.1.2.1 x.1.2.2.1 x.1.2.2.2.1 x.2.1 x.2.2.1 x.2.2.2.1 x.2.2.2.2⟩ (fun x => by kernel_rfl)) (Snd.exec hc _ _ _ _)) ⟨f118s8, fun x => impl_tree_col.c8 k x.1.2.1 x.1.2.2.2.1 x.1.2.2.2.2.1 x.1.2.2.2.2.2.1 x.1.2.2.2.2.2.2.1 x.1.2.2.2.2.2.2.2.1 x.2.1 x.2.2.1 x.2.2.2.1 x.2.2.2.2⟩ (fun x => by kernel_rfl)) (Snd.exec hc _ _ _ _)) (Snd.exec hc _ _ _ _)) (Snd.exec hc _ _ _ _)) (Snd.exec hc _ _ _ _)) (Snd.exec hc _ _ _ _)) (Snd.exec hc _ _ _ _)) (Snd.exec hc _ _ _ _))
    (fun x => by kernel_rfl)

def f74in : SS := ⟨[(0, (.p 0)), (1, (.ro (.int .i64)))], [(0, (.obox (.st (.cons (.list 78 (.st (.cons (.int .i64) (.cons (.int .i64) (.cons (.int .i64) (.cons .str (.cons (.int .i64) .nil))))))) (.cons (.list 3 (.int .i64)) .nil))) (.agg (.cons (.ro (.list 78 (.st (.cons (.int .i64) (.cons (.int .i64) (.cons (.int .i64) (.cons .str (.cons (.int .i64) .nil)))))))) (.cons (.h 10) .nil))))), (10, (.sl 3 (.int .i64)))]⟩
def f74out : SS := ⟨[(0, (.h 100)), (1, (.ro .bool))], [(0, (.box (.st (.cons (.list 78 (.st (.cons (.int .i64) (.cons (.int .i64) (.cons (.int .i64) (.cons .str (.cons (.int .i64) .nil))))))) (.cons (.list 3 (.int .i64)) .nil))) (.agg (.cons (.ro (.list 78 (.st (.cons (.int .i64) (.cons (.int .i64) (.cons (.int .i64) (.cons .str (.cons (.int .i64) .nil)))))))) (.cons (.h 10) .nil))))), (10, (.sl 3 (.int .i64))), (100, (.sl 93 (.st (.cons .str (.cons (.int .i64) (.cons (.int .i64) (.cons (.int .i64) .nil)))))))]⟩
def f74s6 : SS := ⟨[(0, (.p 0)), (8, (.h 100)), (22, (.h 101)), (23, (.ro (.int .i64))), (24, (.ro (.int .i64)))], [(0, (.box (.st (.cons (.list 78 (.st (.cons (.int .i64) (.cons (.int .i64) (.cons (.int .i64) (.cons .str (.cons (.int .i64) .nil))))))) (.cons (.list 3 (.int .i64)) .nil))) (.agg (.cons (.ro (.list 78 (.st (.cons (.int .i64) (.cons (.int .i64) (.cons (.int .i64) (.cons .str (.cons (.int .i64) .nil)))))))) (.cons (.h 10) .nil))))), (10, (.sl 3 (.int .i64))), (100, (.sl 93 (.st (.cons .str (.cons (.int .i64) (.cons (.int .i64) (.cons (.int .i64) .nil))))))), (101, (.sl 3 (.int .i64)))]⟩
def f74con (F : Int → (Bool × TTreeB) → (List Int) → Option ((Unit × Bool) × TTreeB × (List Int) × (List TCol))) : Con := ⟨f74in, f74out, 2, 2, fun x => F x.1.2 x.2.1 x.2.2⟩
def f74ctx (k : Nat) : Ctx := ⟨tyAt tys, conAt [(46, [f46con (impl_SchemaOk k)]), (117, [f117con (impl_tree_parts k)]), (118, [f118con (impl_tree_col k)])], 62, fun _ => false⟩
theorem f74hc (k : Nat) : CtxOk Try.prog (f74ctx k) := ctxOk tys_ok mixed_ok (consOk_cons (f46ok k) (consOk_cons (f117ok k) (consOk_cons (f118ok k) (consOk_nil))))
theorem f74ok (k : Nat) : FnOk Try.prog 74 (f74con (impl_tree_schema k)) :=
  let hc := f74hc k
  fnOk (fn := Try.f74) (code := bodyOf Try.f74) (res := [.tmp 4, .tmp 5]) hc (by kernel_rfl) (by kernel_rfl) (by decide) (by kernel_rfl) (by kernel_rfl) (by kernel_rfl) (Nat.le_of_ble_eq_true (by kernel_rfl)) _
    (fun x => Snd.seq (by kernel_rfl) (Snd.seq (by kernel_rfl) (Snd.seq (by kernel_rfl) (Snd.seq (by kernel_rfl) (Snd.seq (by kernel_rfl) (Snd.exec hc _ _ _ _) (Snd.seq (by kernel_rfl) (Snd.block (id := 0) (by kernel_rfl) (Snd.loop' (by kernel_rfl) f74s6 (fun n x => impl_tree_schema.l6 k n x.1.2.2.2.1 x.1.2.2.2.2 x.2.1 x.2.2.1 x.2.2.2.1 x.2.2.2.2) _ (fun _ => rfl) (fun n6 => Snd.exec hc _ _ _ _) (fun n x => by kernel_rfl) k)) (Snd.exec hc _ _ _ _))) (Snd.exec hc _ _ _ _)) (Snd.exec hc _ _ _ _)) (Snd.exec hc _ _ _ _)) (Snd.exec hc _ _ _ _))
    (fun x => by kernel_rfl)

def f32in : SS := ⟨[(0, (.ro (.list 78 (.st (.cons (.int .i64) (.cons (.int .i64) (.cons (.int .i64) (.cons .str (.cons (.int .i64) .nil))))))))), (1, (.ro (.int .i64)))], []⟩
def f32out : SS := ⟨[(0, (.h 100)), (1, (.ro .bool))], [(100, (.sl 93 (.st (.cons .str (.cons (.int .i64) (.cons (.int .i64) (.cons (.int .i64) .nil)))))))]⟩
def f32con (F : (List TNode) → Int → Option ((Unit × Bool) × (List TCol))) : Con := ⟨f32in, f32out, 2, 2, fun x => F x.1 x.2⟩
def f32ctx (k : Nat) : Ctx := ⟨tyAt tys, conAt [(51, [f51con (impl_treeOf k)]), (74, [f74con (impl_tree_schema k)])], 20, fun _ => false⟩
theorem f32hc (k : Nat) : CtxOk Try.prog (f32ctx k) := ctxOk tys_ok mixed_ok (consOk_cons (f51ok k) (consOk_cons (f74ok k) (consOk_nil)))
theorem f32ok (k : Nat) : FnOk Try.prog 32 (f32con (impl_SchemaOf k)) :=
  let hc := f32hc k
  fnOk (fn := Try.f32) (code := bodyOf Try.f32) (res := [.tmp 4, .tmp 5]) hc (by kernel_rfl) (by kernel_rfl) (by decide) (by kernel_rfl) (by kernel_rfl) (by kernel_rfl) (Nat.le_of_ble_eq_true (by kernel_rfl)) _
    (fun x => Snd.exec hc _ _ _ _)
    (fun x => by kernel_rfl)

def f75in : SS := ⟨[(0, (.ro (.st (.cons (.int .i64) (.cons (.int .i64) (.cons (.int .i64) (.cons .str (.cons (.int .i64) .nil)))))))), (1, (.ro (.st (.cons (.int .i64) (.cons (.int .i64) (.cons (.int .i64) (.cons .str (.cons (.int .i64) .nil))))))))], []⟩
def f75out : SS := ⟨[(0, (.ro .bool))], []⟩
def f75con (F : TNode → TNode → Option Bool) : Con := ⟨f75in, f75out, 2, 1, fun x => F x.1 x.2⟩
def f75ctx (k : Nat) : Ctx := ⟨tyAt tys, conAt [], 30, fun _ => false⟩
theorem f75hc (k : Nat) : CtxOk Try.prog (f75ctx k) := ctxOk tys_ok mixed_ok (consOk_nil)
theorem f75ok (k : Nat) : FnOk Try.prog 75 (f75con (laws_eqNode k)) :=
  let hc := f75hc k
  fnOk (fn := Try.f75) (code := bodyOf Try.f75) (res := [.tmp 4]) hc (by kernel_rfl) (by kernel_rfl) (by decide) (by kernel_rfl) (by kernel_rfl) (by kernel_rfl) (Nat.le_of_ble_eq_true (by kernel_rfl)) _
    (fun x => Snd.exec hc _ _ _ _)
    (fun x => by kernel_rfl)

def f33in : SS := ⟨[(0, (.ro (.list 78 (.st (.cons (.int .i64) (.cons (.int .i64) (.cons (.int .i64) (.cons .str (.cons (.int .i64) .nil))))))))), (1, (.ro (.list 78 (.st (.cons (.int .i64) (.cons (.int .i64) (.cons (.int .i64) (.cons .str (.cons (.int .i64) .nil)))))))))], []⟩
def f33out : SS := ⟨[(0, (.ro .bool))], []⟩
def f33s4 : SS := ⟨[(0, (.ro (.list 78 (.st (.cons (.int .i64) (.cons (.int .i64) (.cons (.int .i64) (.cons .str (.cons (.int .i64) .nil))))))))), (1, (.ro (.list 78 (.st (.cons (.int .i64) (.cons (.int .i64) (.cons (.int .i64) (.cons .str (.cons (.int .i64) .nil))))))))), (5, (.ro (.int .i64)))], []⟩
def f33con (F : (List TNode) → (List TNode) → Option Bool) : Con := ⟨f33in, f33out, 2, 1, fun x => F x.1 x.2⟩
def f33ctx (k : Nat) : Ctx := ⟨tyAt tys, conAt [(75, [f75con (laws_eqNode k)])], 27, fun _ => false⟩
theorem f33hc (k : Nat) : CtxOk Try.prog (f33ctx k) := ctxOk tys_ok mixed_ok (consOk_cons (f75ok k) (consOk_nil))
theorem f33ok (k : Nat) : FnOk Try.prog 33 (f33con (laws_eqNodeS k)) :=
  let hc := f33hc k
  fnOk (fn := Try.f33) (code := bodyOf Try.f33) (res := [.tmp 4]) hc (by kernel_rfl) (by kernel_rfl) (by decide) (by kernel_rfl) (by kernel_rfl) (by kernel_rfl) (Nat.le_of_ble_eq_true (by kernel_rfl)) _
    (fun x => Snd.seq (by kernel_rfl) (Snd.seq (by kernel_rfl) (Snd.seq (by kernel_rfl) (Snd.exec hc _ _ _ _) (Snd.seq (by kernel_rfl) (Snd.block (id := 0) (by kernel_rfl) (Snd.loop' (by kernel_rfl) f33s4 (fun n x => laws_eqNodeS.l4 k n x.1 x.2.1 x.2.2) _ (fun _ => rfl) (fun n4 => Snd.exec hc _ _ _ _) (fun n x => by kernel_rfl) k)) (Snd.exec hc _ _ _ _))) (Snd.exec hc _ _ _ _)) (Snd.exec hc _ _ _ _))
    (fun x => by kernel_rfl)

def f34in : SS := ⟨[(0, (.h 10)), (1, (.ro (.int .i64)))], [(10, (.sl 78 (.st (.cons (.int .i64) (.cons (.int .i64) (.cons (.int .i64) (.cons .str (.cons (.int .i64) .nil))))))))]⟩
def f34out : SS := ⟨[(0, (.ro (.int .i64)))], [(10, (.sl 78 (.st (.cons (.int .i64) (.cons (.int .i64) (.cons (.int .i64) (.cons .str (.cons (.int .i64) .nil))))))))]⟩
def f34s2 : SS := ⟨[(0, (.h 10)), (1, (.ro (.int .i64))), (5, (.ro (.int .i64)))], [(10, (.sl 78 (.st (.cons (.int .i64) (.cons (.int .i64) (.cons (.int .i64) (.cons .str (.cons (.int .i64) .nil))))))))]⟩
def f34con (F : Int → (List TNode) → Option (Int × (List TNode))) : Con := ⟨f34in, f34out, 2, 1, fun x => F x.1.2 x.2⟩
def f34ctx (k : Nat) : Ctx := ⟨tyAt tys, conAt [(70, [f70con (laws_markText k)])], 49, fun _ => false⟩
theorem f34hc (k : Nat) : CtxOk Try.prog (f34ctx k) := ctxOk tys_ok mixed_ok (consOk_cons (f70ok k) (consOk_nil))
theorem f34ok (k : Nat) : FnOk Try.prog 34 (f34con (laws_markNodeS k)) :=
  let hc := f34hc k
  fnOk (fn := Try.f34) (code := bodyOf Try.f34) (res := [.tmp 4]) hc (by kernel_rfl) (by kernel_rfl) (by decide) (by kernel_rfl) (by kernel_rfl) (by kernel_rfl) (Nat.le_of_ble_eq_true (by kernel_rfl)) _
    (fun x => Snd.seq (by kernel_rfl) (Snd.seq (by kernel_rfl) (Snd.exec hc _ _ _ _) (Snd.seq (by kernel_rfl) (Snd.block (id := 0) (by kernel_rfl) (Snd.loop' (by kernel_rfl) f34s2 (fun n x => laws_markNodeS.l2 k n x.1.2.1 x.1.2.2 x.2) _ (fun _ => rfl) (fun n2 => Snd.exec hc _ _ _ _) (fun n x => by kernel_rfl) k)) (Snd.exec hc _ _ _ _))) (Snd.exec hc _ _ _ _))
    (fun x => by kernel_rfl)

def f35in : SS := ⟨[(0, (.ro (.list 93 (.st (.cons .str (.cons (.int .i64) (.cons (.int .i64) (.cons (.int .i64) .nil)))))))), (1, (.ro (.int .i64)))], []⟩
def f35out : SS := ⟨[(0, (.ro (.int .i64)))], []⟩
def f35d4 : SS := ⟨[(0, (.ro (.list 93 (.st (.cons .str (.cons (.int .i64) (.cons (.int .i64) (.cons (.int .i64) .nil)))))))), (1, (.ro (.int .i64))), (5, (.ro (.int .i64)))], []⟩
def f35s2 : SS := ⟨[(0, (.ro (.list 93 (.st (.cons .str (.cons (.int .i64) (.cons (.int .i64) (.cons (.int .i64) .nil)))))))), (1, (.ro (.int .i64))), (5, (.ro (.int .i64)))], []⟩
def f35con (F : (List TCol) → Int → Option Int) : Con := ⟨f35in, f35out, 2, 1, fun x => F x.1 x.2⟩
def f35ctx (k : Nat) : Ctx := ⟨tyAt tys, conAt [(70, [f70con (laws_markText k)])], 50, fun _ => false⟩
theorem f35hc (k : Nat) : CtxOk Try.prog (f35ctx k) := ctxOk tys_ok mixed_ok (consOk_cons (f70ok k) (consOk_nil))
theorem f35ok (k : Nat) : FnOk Try.prog 35 (f35con (laws_heldColS k)) :=
  let hc := f35hc k
  fnOk (fn := Try.f35) (code := bodyOf Try.f35) (res := [.tmp 4]) hc (by kernel_rfl) (by kernel_rfl) (by decide) (by kernel_rfl) (by kernel_rfl) (by kernel_rfl) (Nat.le_of_ble_eq_true (by kernel_rfl)) _
    (fun x => Snd.seq (by kernel_rfl) (Snd.seq (by kernel_rfl) (Snd.exec hc _ _ _ _) (Snd.seq (by kernel_rfl) (Snd.block (id := 0) (by kernel_rfl) (Snd.loop' (by kernel_rfl) f35s2 (fun n x => laws_heldColS.l2 k n x.1 x.2.1 x.2.2) _ (fun _ => rfl) (fun n2 => Snd.seq (by kernel_rfl) (Snd.seq (by kernel_rfl) (Snd.exec hc _ _ _ _) (Snd.block (id := 1) (by kernel_rfl) (Snd.seq (by kernel_rfl) (Snd.exec hc _ _ _ _) (Snd.seq (by kernel_rfl) (Snd.exec hc _ _ _ _) (Snd.fork hc (id := 4) (by kernel_rfl) ⟨f35d4, fun x => laws_heldColS.d4 k (laws_heldColS.l2 k n2) x.1 x.2.1 x.2.2⟩ [[0, 1, 2, 3, 5, 4, 6, 7], [0, 1, 2, 3, 5, 6, 4, 7]] (by kernel_rfl) (ords_cons (fun x => by kernel_rfl) (ords_cons (fun x => by kernel_rfl) (ords_nil)))))))) (Snd.exec hc _ _ _ _)) (fun n x => by kernel_rfl) k)) (Snd.exec hc _ _ _ _))) (Snd.exec hc _ _ _ _))
    (fun x => by kernel_rfl)

def f5in : SS := ⟨[(0, (.ro (.list 104 (.st (.cons (.int .i64) (.cons (.int .i64) (.cons (.int .i64) (.cons .str (.cons (.int .i64) .nil))))))))), (1, (.ro (.int .i64)))], []⟩
def f5out : SS := ⟨[(0, (.ro .bool))], []⟩
def f5con (F : (List TNode) → Int → Option Bool) : Con := ⟨f5in, f5out, 2, 1, fun x => F x.1 x.2⟩
def f5ctx (k : Nat) : Ctx := ⟨tyAt tys, conAt [(23, [f23con (laws_eqColS k)]), (25, [f25con (laws_markColS k)]), (29, [f29con (laws_szNodeS k)]), (30, [f30con (spec_SchemaOf k)]), (31, [f31con (laws_toNodeS k)]), (32, [f32con (impl_SchemaOf k)]), (33, [f33con (laws_eqNodeS k)]), (34, [f34con (laws_markNodeS k)]), (35, [f35con (laws_heldColS k)])], 101, fun _ => false⟩
theorem f5hc (k : Nat) : CtxOk Try.prog (f5ctx k) := ctxOk tys_ok mixed_ok (consOk_cons (f23ok k) (consOk_cons (f25ok k) (consOk_cons (f29ok k) (consOk_cons (f30ok k) (consOk_cons (f31ok k) (consOk_cons (f32ok k) (consOk_cons (f33ok k) (consOk_cons (f34ok k) (consOk_cons (f35ok k) (consOk_nil))))))))))
theorem f5ok (k : Nat) : FnOk Try.prog 5 (f5con (laws_FnExactSchemaOf k)) :=
  let hc := f5hc k
  fnOk (fn := Try.f5) (code := bodyOf Try.f5) (res := [.tmp 4]) hc (by kernel_rfl) (by kernel_rfl) (by decide) (by kernel_rfl) (by kernel_rfl) (by kernel_rfl) (Nat.le_of_ble_eq_true (by kernel_rfl)) _
    (fun x => Snd.exec hc _ _ _ _)
    (fun x => by kernel_rfl)

end Go.Proofs.Ytmdmkakkodeniaa
