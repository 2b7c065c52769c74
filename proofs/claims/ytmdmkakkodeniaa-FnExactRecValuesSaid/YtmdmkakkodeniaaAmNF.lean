/- An operation's way on is used at one state alone. -/
import Derived.Test.YtmdmkakkodeniaaAmDraw
set_option linter.unusedVariables false
set_option linter.unusedSimpArgs false
namespace Go.Am
section
variable {R : Type} {C : Ctx} {o : Oper}

theorem putK_nf (c : Cn) (st : St) (k : St → Option R) : putK C o c st k = (putK C o c st some).bind k := by
  unfold putK
  split
  · rfl
  · split <;> rfl

theorem cond_nf {b : Bool} {x : Option R} {y : Option St} {k : St → Option R} (h : x = y.bind k) : cond b x none = (cond b y none).bind k := by
  cases b with
  | true => exact h
  | false => rfl

theorem bind_nf {α : Type} {m : Option α} {f : α → Option R} {g : α → Option St} {k : St → Option R} (h : ∀ x, f x = (g x).bind k) : m.bind f = (m.bind g).bind k := by
  cases m with
  | none => rfl
  | some x => exact h x

theorem binK_nf (op : BinOp) (t : TypeId) (x y : Cn) (st : St) (k : St → Option R) : binK C o op t x y st k = (binK C o op t x y st some).bind k := by
  unfold binK; repeat' (first | rfl | exact putK_nf _ _ _ | (refine cond_nf ?_) | (refine bind_nf fun _ => ?_) | split)
theorem eqK_nf (op : BinOp) (t : TypeId) (x y : DV) (st : St) (k : St → Option R) : eqK C o op t x y st k = (eqK C o op t x y st some).bind k := by
  unfold eqK; repeat' (first | rfl | exact putK_nf _ _ _ | (refine cond_nf ?_) | (refine bind_nf fun _ => ?_) | split)
theorem unK_nf (op : UnOp) (x : Cn) (st : St) (k : St → Option R) : unK C o op x st k = (unK C o op x st some).bind k := by
  unfold unK; repeat' (first | rfl | exact putK_nf _ _ _ | (refine cond_nf ?_) | (refine bind_nf fun _ => ?_) | split)
theorem storeK_nf (ty : TypeId) (a c : Cn) (st : St) (k : St → Option R) : storeK C.tt ty st a c k = (storeK C.tt ty st a c some).bind k := by
  unfold storeK; repeat' (first | rfl | exact putK_nf _ _ _ | (refine cond_nf ?_) | (refine bind_nf fun _ => ?_) | split)
theorem indexAddrK_nf (ty : TypeId) (a c : Cn) (st : St) (k : St → Option R) : indexAddrK C o ty a c st k = (indexAddrK C o ty a c st some).bind k := by
  unfold indexAddrK; repeat' (first | rfl | exact putK_nf _ _ _ | (refine cond_nf ?_) | (refine bind_nf fun _ => ?_) | split)
theorem indexK_nf (ty : TypeId) (a c : Cn) (st : St) (k : St → Option R) : indexK C o ty a c st k = (indexK C o ty a c st some).bind k := by
  unfold indexK; repeat' (first | rfl | exact putK_nf _ _ _ | (refine cond_nf ?_) | (refine bind_nf fun _ => ?_) | split)
theorem sliceK_nf (ty : TypeId) (a : Cn) (l h : Option Int) (st : St) (k : St → Option R) : sliceK C o ty a l h st k = (sliceK C o ty a l h st some).bind k := by
  unfold sliceK; repeat' (first | rfl | exact putK_nf _ _ _ | (refine cond_nf ?_) | (refine bind_nf fun _ => ?_) | split)
theorem lenK_nf (ty : TypeId) (a : Cn) (st : St) (k : St → Option R) : lenK C o ty a st k = (lenK C o ty a st some).bind k := by
  unfold lenK; repeat' (first | rfl | exact putK_nf _ _ _ | (refine cond_nf ?_) | (refine bind_nf fun _ => ?_) | split)
theorem appK_nf (p : Bool) (t t2 : TypeId) (a c : Cn) (st : St) (k : St → Option R) : appK C p o t t2 a c st k = (appK C p o t t2 a c st some).bind k := by
  unfold appK; repeat' (first | rfl | exact putK_nf _ _ _ | (refine cond_nf ?_) | (refine bind_nf fun _ => ?_) | split)
theorem makeK_nf (t : TypeId) (n : Int) (st : St) (k : St → Option R) : makeK C o t n st k = (makeK C o t n st some).bind k := by
  unfold makeK; repeat' (first | rfl | exact putK_nf _ _ _ | (refine cond_nf ?_) | (refine bind_nf fun _ => ?_) | split)
theorem buildSliceK_nf (p : Bool) (t : TypeId) (n : Nat) (ps : List (Nat × Operand)) (st : St) (k : St → Option R) : buildSliceK C p o t n ps st k = (buildSliceK C p o t n ps st some).bind k := by
  unfold buildSliceK; repeat' (first | rfl | exact putK_nf _ _ _ | (refine cond_nf ?_) | (refine bind_nf fun _ => ?_) | split)
theorem callK_nf (p : Bool) (args : List Cn) (st : St) (k : St → Option R) : ∀ l : List Con, callK C p o args st k l = (callK C p o args st some l).bind k
  | [] => rfl
  | c :: l => by
    simp only [callK]
    split
    · exact callK_nf p args st k l
    · repeat' (first | rfl | exact putK_nf _ _ _ | (refine cond_nf ?_) | (refine bind_nf fun _ => ?_) | split)
theorem convK_nf (ts td : TypeId) (c : Cn) (st : St) (k : St → Option R) : convK C o ts td c st k = (convK C o ts td c st some).bind k := by
  unfold convK; repeat' (first | rfl | exact putK_nf _ _ _ | (refine cond_nf ?_) | (refine bind_nf fun _ => ?_) | split)

theorem opK_nf (p : Bool) (st : St) (k : St → Option R) : opK C p o st k = (opK C p o st some).bind k := by
  unfold opK
  repeat' (first | rfl | (first | exact putK_nf _ _ _ | exact binK_nf _ _ _ _ _ _ | exact unK_nf _ _ _ _ | exact storeK_nf _ _ _ _ _ | exact indexAddrK_nf _ _ _ _ _ | exact indexK_nf _ _ _ _ _) | (first | exact eqK_nf _ _ _ _ _ _ | exact sliceK_nf _ _ _ _ _ _ | exact lenK_nf _ _ _ _ | exact appK_nf _ _ _ _ _ _ _ | exact makeK_nf _ _ _ _ | exact buildSliceK_nf _ _ _ _ _ _ | exact callK_nf _ _ _ _ _ | exact convK_nf _ _ _ _ _) | (refine cond_nf ?_) | (refine bind_nf fun _ => ?_) | split)
end
end Go.Am
